/- The walks: what each function does is what its model says. Printed by a program of my own. -/
import Derived.Test.YtffienmbeifioaaDoorTyp
import Derived.Test.YtffienmbeifioaaDoorWalk1
import Derived.Test.YtffienmbeifioaaDoorWalk2
import Derived.Test.YtffienmbeifioaaDoorWalk3
set_option linter.unusedVariables false
set_option linter.unusedSimpArgs false
namespace Go.Proofs.YtffienmbeifioaaDoor
open Go.Lx Go.RowKit
set_option maxRecDepth 100000 in
theorem regex_formatSet_ok {p1 : (Vec 4)} {r : Str} (hM : M.regex_formatSet p1 = some r) {g0 : Hp} {w0 : World} (hi : Imm g0 w0) (hG0 : GBox 0 (M.deBruijn.1.map (Value.int .u8)) g0) :
    CallsV Tryd.prog 39 #[encV .u64 p1] w0 (fun v w' => ∃ g', (VRd tStr false g' v r) ∧ Ext g0 w0 g' w') := by
  unfold M.regex_formatSet at hM
  have hs := Sep.start hi
  refine calls_of_WP (args := [encV .u64 p1]) Tryd.func39 rfl Tryd.ntmps39 rfl ?_
  have hds : (argEnv [encV .u64 p1]).ds = [] := rfl
  refine WP_seq ?_
  refine WP_region ?_
  refine OW_box (v := encV .u64 p1) rfl hs (zs := p1.1.map (Value.int .u64)) rfl rfl ?_
  intro b1 wv1 hs
  refine O (r_assign (v := encS []) rfl) rfl ?_
  refine OW_nil ?_
  refine WP_seq ?_
  refine WP_seq ?_
  refine WP_any (.q 0 (.s 1 (.q 2 (.leaf)))) (SS g0 w0 g0 [Go.Lx.box b1 24 (p1.1.map (Value.int .u64))]) mo (by decide +kernel) ?_
  have hs := hs.drew
  have hag0 := Hle.refl g0
  have hG0b := hG0
  have hS : SS g0 w0 g0 [Go.Lx.box b1 24 (p1.1.map (Value.int .u64))] _ := ⟨g0, Hle.refl _, hs⟩
  refine A rfl hS (fun w9 h9 => by obtain ⟨g9, hle9, hs⟩ := h9; exact r_loadN (cs := p1.1.map (Value.int .u64)) ti24 rfl (by simp [p1.2]) (hs.cells (i := 0) rfl)) rfl ?_
  refine A1 rfl ?_
  obtain ⟨rv1, hrv1, hM⟩ := bindS hM
  refine C [] cf53 rfl (regex_dot_ok hrv1 hs.imm) rfl ?_
  rintro v1 wv2 ⟨gg1, hvv1, hegg1⟩
  have hlegg1 := hegg1.le hs.imm
  replace hs := hs.call hegg1
  replace hG0 := hG0.mono hlegg1
  replace hag0 := hag0.trans hlegg1
  obtain ⟨cs1, rfl, hcs1⟩ := hvv1
  have hcs1 : cs1 = _ := hcs1; subst hcs1
  refine OW_nil ?_
  have hS : SS g0 w0 g0 [Go.Lx.box b1 24 (p1.1.map (Value.int .u64))] _ := ⟨gg1, hag0, hs⟩
  refine ⟨fun _ => hS, ?_⟩
  refine A rfl hS (fun w9 h9 => by obtain ⟨g9, hle9, hs⟩ := h9; exact r_eqlV Tryd.underlying24 Tryd.underlying22 ti22 rfl rfl eg24) rfl ?_
  refine AN ?_
  rcases condS hM with ⟨hc1, hM⟩ | ⟨hc1, hM⟩
  · refine WP_true rfl hc1 ?_
    refine WP_seq ?_
    refine WP_region ?_
    refine O (r_assign (v := encS [46]) rfl) rfl ?_
    refine OW_nil ?_
    refine WP_ret ?_
    obtain rfl := Option.some.inj hM
    refine FL_nil hds ?_
    exact ⟨_, res1 Tryd.results39 (rv_tmp (v := encS [46]) rfl), gg1, ⟨[encS [46]], rfl, rfl⟩, hs.ext⟩
  · refine WP_false rfl hc1 ?_
    refine WP_skip ?_
    refine WP_seq ?_
    refine WP_region ?_
    refine O (r_loadN (cs := p1.1.map (Value.int .u64)) ti24 rfl (by simp [p1.2]) (hs.cells (i := 0) rfl)) rfl ?_
    obtain ⟨rv2, hrv2, hM⟩ := bindS hM
    refine C [encV .u64 p1] cf54 rfl (regex_bytes_ok hrv2 hs.imm hG0) rfl ?_
    rintro v2 wv3 ⟨gg2, xs1, hvv2, hegg2⟩
    have hlegg2 := hegg2.ext.le hs.imm
    replace hs := hs.callOwn hegg2
    simp only [List.cons_append, List.nil_append] at hs
    replace hG0 := hG0.mono hlegg2
    replace hag0 := hag0.trans hlegg2
    refine O (r_assign (v := v2) rfl) rfl ?_
    refine OW_nil ?_
    refine WP_seq ?_
    obtain ⟨rv4, hx1, hKhx1⟩ := bindS hM
    refine WP_cut (fun E w => ∃ (gg4 : Hp), E 1 = Value.pointer (some ⟨b1, 0, none⟩) ∧ E 3 = v2 ∧ E 23 = Value.bool rv4 ∧ E.ds = [] ∧ Hle gg2 gg4 ∧ Go.Lx.Sep g0 w0 gg4 w [.row v2 5 (tInt .u8).sz rv2.length xs1, Go.Lx.box b1 24 (p1.1.map (Value.int .u64))]) ?_ ?_
    · have hM := hx1
      have hagg2 := Hle.refl gg2
      refine WP_region ?_
      refine O (r_move (v := v2) rfl) rfl ?_
      obtain ⟨a2, ca2, hva2⟩ := hs.rowShape (i := 0) rfl
      refine O (r_lenSl (v := v2) Tryd.underlying39 rfl hva2) rfl ?_
      refine O (r_eql rfl rfl) rfl ?_
      refine O (r_move (v := Value.bool ((rv2.length : Int) == 1)) rfl) rfl ?_
      rcases condS hM with ⟨hg2, hM⟩ | ⟨hg2, hM⟩
      · refine OG rfl rfl rfl (by rw [hg2]; rfl) (r_move (v := v2) rfl) rfl ?_
        obtain ⟨e2, he2, hM⟩ := bindS hM
        obtain ⟨b3, cb3, hvb3, cs4, hcs4, hcb3⟩ := hs.rowEl (i := 0) rfl hvv2 he2
        have hcs4 : cs4 = _ := hcs4; subst hcs4
        refine OG rfl rfl rfl (by rw [hg2]; rfl) (r_idxSl Tryd.underlying39 ti5 (v := v2) rfl hvb3 rfl (idxL_some he2).1 (idxL_some he2).2.1) rfl ?_
        refine OG rfl rfl rfl (by rw [hg2]; rfl) (r_loadEl (cs := [Value.int .u8 e2]) ti5 rfl rfl (.inr rfl) (hcb3 _ (hs.at (i := 0) rfl)) (v := Value.int .u8 e2) rfl) rfl ?_
        obtain ⟨rv5, hrv5, hM⟩ := bindS hM
        refine CG rfl rfl rfl (by rw [hg2]; rfl) [Value.int .u8 e2] cf55 rfl (regex_writable_ok hrv5 hs.imm) rfl ?_
        rintro v4 wv5 ⟨gg5, hvv4, hegg5⟩
        have hlegg5 := hegg5.le hs.imm
        replace hs := hs.call hegg5
        replace hG0 := hG0.mono hlegg5
        replace hvv2 := hvv2.mono hlegg5
        replace hag0 := hag0.trans hlegg5
        replace hagg2 := hagg2.trans hlegg5
        obtain ⟨cs5, rfl, hcs5⟩ := hvv4
        have hcs5 : cs5 = _ := hcs5; subst hcs5
        refine O (r_pickT (v := Value.bool rv5) rfl hg2 rfl) rfl ?_
        refine OW_nil ?_
        obtain rfl := Option.some.inj hM
        exact ⟨gg5, rfl, rfl, rfl, hds, hagg2, hs⟩
      · refine OK rfl rfl rfl (by rw [hg2]; rfl) rfl ?_
        refine OK rfl rfl rfl (by rw [hg2]; rfl) rfl ?_
        refine OK rfl rfl rfl (by rw [hg2]; rfl) rfl ?_
        refine OK rfl rfl rfl (by rw [hg2]; rfl) rfl ?_
        refine O (r_pickF (v := Value.bool false) rfl hg2 rfl) rfl ?_
        refine OW_nil ?_
        obtain rfl := Option.some.inj hM
        exact ⟨gg2, rfl, rfl, rfl, hds, (Hle.refl _), hs⟩
    · clear hs
      rintro E w ⟨gg4, hE1, hE3, hE23, hds, hlegg4, hs⟩
      have hM := hKhx1
      obtain ⟨E, rfl⟩ := open1 (E := E) hE1
      obtain ⟨E, rfl⟩ := open1 (E := E) hE3
      obtain ⟨E, rfl⟩ := open1 (E := E) hE23
      replace hG0 := hG0.mono hlegg4
      replace hvv2 := hvv2.mono hlegg4
      replace hag0 := hag0.trans hlegg4
      rcases condS hM with ⟨hc2, hM⟩ | ⟨hc2, hM⟩
      · refine WP_true rfl hc2 ?_
        refine WP_seq ?_
        refine WP_region ?_
        refine O (r_move (v := v2) rfl) rfl ?_
        obtain ⟨e3, he3, hM⟩ := bindS hM
        obtain ⟨b4, cb4, hvb4, cs6, hcs6, hcb4⟩ := hs.rowEl (i := 0) rfl hvv2 he3
        have hcs6 : cs6 = _ := hcs6; subst hcs6
        refine O (r_idxSl Tryd.underlying39 ti5 (v := v2) rfl hvb4 rfl (idxL_some he3).1 (idxL_some he3).2.1) rfl ?_
        refine O (r_loadEl (cs := [Value.int .u8 e3]) ti5 rfl rfl (.inr rfl) (hcb4 _ (hs.at (i := 0) rfl)) (v := Value.int .u8 e3) rfl) rfl ?_
        obtain ⟨rv6, hrv6, hM⟩ := bindS hM
        refine C [Value.int .u8 e3, encS [40, 41, 91, 93, 124, 42, 43, 63, 46, 92]] cf56 rfl (regex_char_ok hrv6 hs.imm) rfl ?_
        rintro v5 wv6 ⟨gg6, hvv5, hegg6⟩
        have hlegg6 := hegg6.le hs.imm
        replace hs := hs.call hegg6
        replace hG0 := hG0.mono hlegg6
        replace hvv2 := hvv2.mono hlegg6
        replace hag0 := hag0.trans hlegg6
        obtain ⟨cs7, rfl, hcs7⟩ := hvv5
        have hcs7 : cs7 = _ := hcs7; subst hcs7
        refine O (r_assign (v := encS rv6) rfl) rfl ?_
        refine OW_nil ?_
        refine WP_ret ?_
        obtain rfl := Option.some.inj hM
        refine FL_nil hds ?_
        exact ⟨_, res1 Tryd.results39 (rv_tmp (v := encS rv6) rfl), gg6, ⟨[encS rv6], rfl, rfl⟩, hs.ext⟩
      · refine WP_false rfl hc2 ?_
        refine WP_skip ?_
        refine WP_seq ?_
        refine WP_region ?_
        refine O (r_assign (v := encS [91]) rfl) rfl ?_
        refine OW_nil ?_
        obtain ⟨⟨rv16, xv4⟩, hx2, hKhx2⟩ := bindS hM
        refine WP_cut (fun E w => ∃ (gg19 : Hp) (v15 : Value) (xs5 : List Value), E 3 = v15 ∧ E 4 = encS xv4 ∧ E.ds = [] ∧ Hle gg4 gg19 ∧ RowRel (tInt .u8) gg19 xs5 rv16 ∧ Go.Lx.Sep g0 w0 gg19 w [.row v15 5 (tInt .u8).sz rv16.length xs5]) ?_ ?_
        · have hM := hx2
          have hagg4 := Hle.refl gg4
          refine WP_seq ?_
          refine WP_region ?_
          refine O (r_move (v := v2) rfl) rfl ?_
          obtain ⟨a4, ca4, hva4⟩ := hs.rowShape (i := 0) rfl
          refine O (r_lenSl (v := v2) Tryd.underlying39 rfl hva4) rfl ?_
          refine O (r_move (v := Value.int .i64 0) rfl) rfl ?_
          refine OW_nil ?_
          refine WP_block ?_
          refine WP_loop (fun (xv6 : Int) E w => ∃ (gg24 : Hp), E 1 = Value.pointer (some ⟨b1, 0, none⟩) ∧ E 3 = v2 ∧ E 4 = encS [91] ∧ E 28 = v2 ∧ E 29 = Value.int .i64 (rv2.length : Int) ∧ E 30 = Value.int .i64 xv6 ∧ E.ds = [] ∧ Hle gg4 gg24 ∧ Go.Lx.Sep g0 w0 gg24 w [.row v2 5 (tInt .u8).sz rv2.length xs1, Go.Lx.box b1 24 (p1.1.map (Value.int .u64))]) hM ⟨gg4, rfl, rfl, rfl, rfl, rfl, rfl, hds, (Hle.refl _), hs⟩ ?_
          clear hs hM
          rintro xv6 o2 E w hM ⟨gg24, hE1, hE3, hE4, hE28, hE29, hE30, hds, hlegg24, hs⟩
          obtain ⟨E, rfl⟩ := open1 (E := E) hE1
          obtain ⟨E, rfl⟩ := open1 (E := E) hE3
          obtain ⟨E, rfl⟩ := open1 (E := E) hE4
          obtain ⟨E, rfl⟩ := open1 (E := E) hE28
          obtain ⟨E, rfl⟩ := open1 (E := E) hE29
          obtain ⟨E, rfl⟩ := open1 (E := E) hE30
          replace hG0 := hG0.mono hlegg24
          replace hvv2 := hvv2.mono hlegg24
          replace hag0 := hag0.trans hlegg24
          replace hagg4 := hagg4.trans hlegg24
          have hagg24 := Hle.refl gg24
          refine WP_seq ?_
          refine WP_region ?_
          refine O (r_lss rfl rfl) rfl ?_
          refine OW_nil ?_
          refine WP_seq ?_
          rcases condS hM with ⟨hc13, hM⟩ | ⟨hc13, hM⟩
          · refine WP_true rfl hc13 ?_
            refine WP_skip ?_
            refine WP_seq ?_
            refine WP_block ?_
            refine WP_seq ?_
            refine WP_region ?_
            obtain ⟨e9, he9, hM⟩ := bindS hM
            obtain ⟨b10, cb10, hvb10, cs23, hcs23, hcb10⟩ := hs.rowEl (i := 0) rfl hvv2 he9
            have hcs23 : cs23 = _ := hcs23; subst hcs23
            refine O (r_idxSl Tryd.underlying39 ti5 (v := v2) rfl hvb10 rfl (idxL_some he9).1 (idxL_some he9).2.1) rfl ?_
            refine O (r_loadEl (cs := [Value.int .u8 e9]) ti5 rfl rfl (.inr rfl) (hcb10 _ (hs.at (i := 0) rfl)) (v := Value.int .u8 e9) rfl) rfl ?_
            refine O (r_assign (v := Value.int .u8 e9) rfl) rfl ?_
            refine OW_nil ?_
            refine WP_seq ?_
            refine WP_region ?_
            refine O (r_move (v := Value.int .u8 e9) rfl) rfl ?_
            obtain ⟨rv23, hrv23, hM⟩ := bindS hM
            refine C [Value.int .u8 e9] cf55 rfl (regex_writable_ok hrv23 hs.imm) rfl ?_
            rintro v22 wv22 ⟨gg29, hvv22, hegg29⟩
            have hlegg29 := hegg29.le hs.imm
            replace hs := hs.call hegg29
            replace hG0 := hG0.mono hlegg29
            replace hvv2 := hvv2.mono hlegg29
            replace hag0 := hag0.trans hlegg29
            replace hlegg24 := hlegg24.trans hlegg29
            replace hagg24 := hagg24.trans hlegg29
            obtain ⟨cs24, rfl, hcs24⟩ := hvv22
            have hcs24 : cs24 = _ := hcs24; subst hcs24
            refine O (r_not rfl) rfl ?_
            refine OW_nil ?_
            rcases condS hM with ⟨hc14, hM⟩ | ⟨hc14, hM⟩
            · refine WP_true rfl hc14 ?_
              refine WP_seq ?_
              refine WP_region ?_
              refine O (r_loadN (cs := p1.1.map (Value.int .u64)) ti24 rfl (by simp [p1.2]) (hs.cells (i := 1) rfl)) rfl ?_
              obtain ⟨rv24, hrv24, hM⟩ := bindS hM
              refine C [encV .u64 p1] cf57 rfl (byteset_Complement_ok hrv24 hs.imm) rfl ?_
              rintro v23 wv23 ⟨gg30, hvv23, hegg30⟩
              have hlegg30 := hegg30.le hs.imm
              replace hs := hs.call hegg30
              replace hG0 := hG0.mono hlegg30
              replace hvv2 := hvv2.mono hlegg30
              replace hag0 := hag0.trans hlegg30
              replace hlegg24 := hlegg24.trans hlegg30
              replace hagg24 := hagg24.trans hlegg30
              obtain ⟨cs25, rfl, hcs25⟩ := hvv23
              have hcs25 : cs25 = _ := hcs25; subst hcs25
              obtain ⟨rv25, hrv25, hM⟩ := bindS hM
              refine C [encV .u64 rv24] cf54 rfl (regex_bytes_ok hrv25 hs.imm hG0) rfl ?_
              rintro v24 wv24 ⟨gg31, xs8, hvv24, hegg31⟩
              have hlegg31 := hegg31.ext.le hs.imm
              replace hs := hs.callOwn hegg31
              simp only [List.cons_append, List.nil_append] at hs
              replace hG0 := hG0.mono hlegg31
              replace hvv2 := hvv2.mono hlegg31
              replace hag0 := hag0.trans hlegg31
              replace hlegg24 := hlegg24.trans hlegg31
              replace hagg24 := hagg24.trans hlegg31
              refine O (r_assign (v := encS [91, 94]) rfl) rfl ?_
              refine O (r_assign (v := v24) rfl) rfl ?_
              refine OW_nil ?_
              refine WP_exit ?_
              obtain rfl := Option.some.inj hM
              refine fun hr => ?_
              have hM := congrArg some hr
              simp only [Option.some.injEq, Prod.mk.injEq] at hM
              obtain ⟨rfl, rfl⟩ := hM
              exact ⟨gg31, v24, xs8, rfl, rfl, hds, hlegg24, hvv24, (hs.sub (.cons_cons _ (.cons _ (.cons _ .slnil))))⟩
            · refine WP_false rfl hc14 ?_
              refine WP_skip ?_
              refine WP_region ?_
              obtain ⟨t6, ht6, hM⟩ := bindS hM
              refine O (r_addM rfl rfl ht6) rfl ?_
              refine O (r_move (v := Value.int .i64 t6) rfl) rfl ?_
              refine OW_nil ?_
              obtain rfl := Option.some.inj hM
              exact ⟨gg29, rfl, rfl, rfl, rfl, rfl, rfl, hds, hlegg24, hs⟩
          · refine WP_false rfl hc13 ?_
            refine WP_exit ?_
            obtain rfl := Option.some.inj hM
            refine fun hr => ?_
            have hM := congrArg some hr
            simp only [Option.some.injEq, Prod.mk.injEq] at hM
            obtain ⟨rfl, rfl⟩ := hM
            exact ⟨gg24, v2, xs1, rfl, rfl, hds, hlegg24, hvv2, (hs.sub (.cons_cons _ (.cons _ .slnil)))⟩
        · clear hs
          rintro E w ⟨gg19, v15, xs5, hE3, hE4, hds, hlegg19, hrelxs5, hs⟩
          have hM := hKhx2
          obtain ⟨E, rfl⟩ := open1 (E := E) hE3
          obtain ⟨E, rfl⟩ := open1 (E := E) hE4
          replace hG0 := hG0.mono hlegg19
          replace hag0 := hag0.trans hlegg19
          refine WP_seq ?_
          refine WP_region ?_
          refine O (r_move (v := encS xv4) rfl) rfl ?_
          refine O (r_assign (v := encS xv4) rfl) rfl ?_
          refine OW_nil ?_
          obtain ⟨xv32, hx24, hKhx24⟩ := bindS hM
          refine WP_cut (fun E w => ∃ (gg44 : Hp), E 7 = encS xv32 ∧ E.ds = [] ∧ Hle gg19 gg44 ∧ Go.Lx.Sep g0 w0 gg44 w []) ?_ ?_
          · have hM := hx24
            have hagg19 := Hle.refl gg19
            refine WP_seq ?_
            refine WP_region ?_
            refine O (r_assign (v := Value.int .i64 0) rfl) rfl ?_
            refine OW_nil ?_
            refine WP_block ?_
            refine WP_loop (fun (st9 : Str × Int) E w => match st9 with | (xv41, xv42) => ∃ (gg49 : Hp) (v45 : Value) (xs17 : List Value), E 3 = v45 ∧ E 7 = encS xv41 ∧ E 8 = Value.int .i64 xv42 ∧ E.ds = [] ∧ Hle gg19 gg49 ∧ RowRel (tInt .u8) gg49 xs17 rv16 ∧ Go.Lx.Sep g0 w0 gg49 w [.row v45 5 (tInt .u8).sz rv16.length xs17]) hM ⟨gg19, v15, xs5, rfl, rfl, rfl, hds, (Hle.refl _), hrelxs5, hs⟩ ?_
            clear hs hM
            rintro ⟨xv41, xv42⟩ o14 E w hM ⟨gg49, v45, xs17, hE3, hE7, hE8, hds, hlegg49, hrelxs17, hs⟩
            obtain ⟨E, rfl⟩ := open1 (E := E) hE3
            obtain ⟨E, rfl⟩ := open1 (E := E) hE7
            obtain ⟨E, rfl⟩ := open1 (E := E) hE8
            replace hG0 := hG0.mono hlegg49
            replace hag0 := hag0.trans hlegg49
            replace hagg19 := hagg19.trans hlegg49
            have hagg49 := Hle.refl gg49
            refine WP_seq ?_
            refine WP_seq ?_
            refine WP_region ?_
            refine O (r_move (v := Value.int .i64 xv42) rfl) rfl ?_
            refine O (r_move (v := v45) rfl) rfl ?_
            obtain ⟨a70, ca70, hva70⟩ := hs.rowShape (i := 0) rfl
            refine O (r_lenSl (v := v45) Tryd.underlying39 rfl hva70) rfl ?_
            refine O (r_lss rfl rfl) rfl ?_
            refine OW_nil ?_
            rcases condS hM with ⟨hc55, hM⟩ | ⟨hc55, hM⟩
            · refine WP_true rfl hc55 ?_
              refine WP_skip ?_
              refine WP_block ?_
              refine WP_seq ?_
              refine WP_region ?_
              refine O (r_move (v := Value.int .i64 xv42) rfl) rfl ?_
              obtain ⟨t147, ht147, hM⟩ := bindS hM
              refine O (r_addM rfl rfl ht147) rfl ?_
              refine O (r_assign (v := Value.int .i64 t147) rfl) rfl ?_
              refine OW_nil ?_
              obtain ⟨t160, hx42, hKhx42⟩ := bindS hM
              refine WP_cut (fun E w => ∃ (v51 : Value) (xs20 : List Value), E 3 = v51 ∧ E 7 = encS xv41 ∧ E 8 = Value.int .i64 xv42 ∧ E 9 = Value.int .i64 t160 ∧ E.ds = [] ∧ RowRel (tInt .u8) gg49 xs20 rv16 ∧ Go.Lx.Sep g0 w0 gg49 w [.row v51 5 (tInt .u8).sz rv16.length xs20]) ?_ ?_
              · have hM := hx42
                refine WP_block ?_
                refine WP_loop (fun (t165 : Int) E w => E 3 = v45 ∧ E 7 = encS xv41 ∧ E 8 = Value.int .i64 xv42 ∧ E 9 = Value.int .i64 t165 ∧ E.ds = [] ∧ Go.Lx.Sep g0 w0 gg49 w [.row v45 5 (tInt .u8).sz rv16.length xs17]) hM ⟨rfl, rfl, rfl, rfl, hds, hs⟩ ?_
                clear hs hM
                rintro t165 o16 E w hM ⟨hE3, hE7, hE8, hE9, hds, hs⟩
                obtain ⟨E, rfl⟩ := open1 (E := E) hE3
                obtain ⟨E, rfl⟩ := open1 (E := E) hE7
                obtain ⟨E, rfl⟩ := open1 (E := E) hE8
                obtain ⟨E, rfl⟩ := open1 (E := E) hE9
                refine WP_seq ?_
                obtain ⟨xv56, hx45, hKhx45⟩ := bindS hM
                refine WP_cut (fun E w => E 3 = v45 ∧ E 7 = encS xv41 ∧ E 8 = Value.int .i64 xv42 ∧ E 9 = Value.int .i64 t165 ∧ E 71 = Value.bool xv56 ∧ E.ds = [] ∧ Go.Lx.Sep g0 w0 gg49 w [.row v45 5 (tInt .u8).sz rv16.length xs17]) ?_ ?_
                · have hM := hx45
                  refine WP_draw mo (by decide +kernel) ?_
                  have hs := hs.drew
                  refine S (r_move (v := Value.int .i64 t165) rfl) rfl ?_
                  refine S (r_move (v := v45) rfl) rfl ?_
                  obtain ⟨a82, ca82, hva82⟩ := hs.rowShape (i := 0) rfl
                  refine S (r_lenSl (v := v45) Tryd.underlying39 rfl hva82) rfl ?_
                  refine S (r_lss rfl rfl) rfl ?_
                  refine S (r_move (v := Value.bool (decide (t165 < (rv16.length : Int)))) rfl) rfl ?_
                  rcases condS hM with ⟨hg145, hM⟩ | ⟨hg145, hM⟩
                  · refine SG rfl rfl rfl (by rw [hg145]; rfl) (r_move (v := v45) rfl) rfl ?_
                    refine SG rfl rfl rfl (by rw [hg145]; rfl) (r_move (v := Value.int .i64 xv42) rfl) rfl ?_
                    obtain ⟨e238, he238, hM⟩ := bindS hM
                    obtain ⟨b239, cb239, hvb239, cs269, hcs269, hcb239⟩ := hs.rowEl (i := 0) rfl hrelxs17 he238
                    have hcs269 : cs269 = _ := hcs269; subst hcs269
                    refine SG rfl rfl rfl (by rw [hg145]; rfl) (r_idxSl Tryd.underlying39 ti5 (v := v45) rfl hvb239 rfl (idxL_some he238).1 (idxL_some he238).2.1) rfl ?_
                    refine SG rfl rfl rfl (by rw [hg145]; rfl) (r_loadEl (cs := [Value.int .u8 e238]) ti5 rfl rfl (.inr rfl) (hcb239 _ (hs.at (i := 0) rfl)) (v := Value.int .u8 e238) rfl) rfl ?_
                    refine SG rfl rfl rfl (by rw [hg145]; rfl) (r_geq rfl rfl) rfl ?_
                    refine S (r_pickT (v := Value.bool (decide (32 ≤ e238))) rfl hg145 rfl) rfl ?_
                    refine S (r_move (v := Value.bool (decide (32 ≤ e238))) rfl) rfl ?_
                    rcases condS hM with ⟨hg146, hM⟩ | ⟨hg146, hM⟩
                    · refine SG rfl rfl rfl (by rw [hg146]; rfl) (r_move (v := v45) rfl) rfl ?_
                      refine SG rfl rfl rfl (by rw [hg146]; rfl) (r_move (v := Value.int .i64 t165) rfl) rfl ?_
                      obtain ⟨e239, he239, hM⟩ := bindS hM
                      obtain ⟨b240, cb240, hvb240, cs270, hcs270, hcb240⟩ := hs.rowEl (i := 0) rfl hrelxs17 he239
                      have hcs270 : cs270 = _ := hcs270; subst hcs270
                      refine SG rfl rfl rfl (by rw [hg146]; rfl) (r_idxSl Tryd.underlying39 ti5 (v := v45) rfl hvb240 rfl (idxL_some he239).1 (idxL_some he239).2.1) rfl ?_
                      refine SG rfl rfl rfl (by rw [hg146]; rfl) (r_loadEl (cs := [Value.int .u8 e239]) ti5 rfl rfl (.inr rfl) (hcb240 _ (hs.at (i := 0) rfl)) (v := Value.int .u8 e239) rfl) rfl ?_
                      refine SG rfl rfl rfl (by rw [hg146]; rfl) (r_move (v := v45) rfl) rfl ?_
                      refine SG rfl rfl rfl (by rw [hg146]; rfl) (r_move (v := Value.int .i64 t165) rfl) rfl ?_
                      obtain ⟨t171, ht171, hM⟩ := bindS hM
                      refine SG rfl rfl rfl (by rw [hg146]; rfl) (r_subM rfl rfl ht171) rfl ?_
                      obtain ⟨e240, he240, hM⟩ := bindS hM
                      obtain ⟨b241, cb241, hvb241, cs271, hcs271, hcb241⟩ := hs.rowEl (i := 0) rfl hrelxs17 he240
                      have hcs271 : cs271 = _ := hcs271; subst hcs271
                      refine SG rfl rfl rfl (by rw [hg146]; rfl) (r_idxSl Tryd.underlying39 ti5 (v := v45) rfl hvb241 rfl (idxL_some he240).1 (idxL_some he240).2.1) rfl ?_
                      refine SG rfl rfl rfl (by rw [hg146]; rfl) (r_loadEl (cs := [Value.int .u8 e240]) ti5 rfl rfl (.inr rfl) (hcb241 _ (hs.at (i := 0) rfl)) (v := Value.int .u8 e240) rfl) rfl ?_
                      refine SG rfl rfl rfl (by rw [hg146]; rfl) (r_addW rfl rfl) rfl ?_
                      refine SG rfl rfl rfl (by rw [hg146]; rfl) (r_eql rfl rfl) rfl ?_
                      refine S (r_pickT (v := Value.bool (e239 == (IntKind.u8.wrap (e240 + 1)))) rfl hg146 rfl) rfl ?_
                      refine SW_nil ?_
                      obtain rfl := Option.some.inj hM
                      exact ⟨rfl, rfl, rfl, rfl, rfl, hds, hs⟩
                    · refine SK rfl rfl rfl (by rw [hg146]; rfl) rfl ?_
                      refine SK rfl rfl rfl (by rw [hg146]; rfl) rfl ?_
                      refine SK rfl rfl rfl (by rw [hg146]; rfl) rfl ?_
                      refine SK rfl rfl rfl (by rw [hg146]; rfl) rfl ?_
                      refine SK rfl rfl rfl (by rw [hg146]; rfl) rfl ?_
                      refine SK rfl rfl rfl (by rw [hg146]; rfl) rfl ?_
                      refine SK rfl rfl rfl (by rw [hg146]; rfl) rfl ?_
                      refine SK rfl rfl rfl (by rw [hg146]; rfl) rfl ?_
                      refine SK rfl rfl rfl (by rw [hg146]; rfl) rfl ?_
                      refine SK rfl rfl rfl (by rw [hg146]; rfl) rfl ?_
                      refine SK rfl rfl rfl (by rw [hg146]; rfl) rfl ?_
                      refine S (r_pickF (v := Value.bool false) rfl hg146 rfl) rfl ?_
                      refine SW_nil ?_
                      obtain rfl := Option.some.inj hM
                      exact ⟨rfl, rfl, rfl, rfl, rfl, hds, hs⟩
                  · refine SK rfl rfl rfl (by rw [hg145]; rfl) rfl ?_
                    refine SK rfl rfl rfl (by rw [hg145]; rfl) rfl ?_
                    refine SK rfl rfl rfl (by rw [hg145]; rfl) rfl ?_
                    refine SK rfl rfl rfl (by rw [hg145]; rfl) rfl ?_
                    refine SK rfl rfl rfl (by rw [hg145]; rfl) rfl ?_
                    refine S (r_pickF (v := Value.bool false) rfl hg145 rfl) rfl ?_
                    refine S (r_move (v := Value.bool false) rfl) rfl ?_
                    refine SK rfl rfl rfl rfl rfl ?_
                    refine SK rfl rfl rfl rfl rfl ?_
                    refine SK rfl rfl rfl rfl rfl ?_
                    refine SK rfl rfl rfl rfl rfl ?_
                    refine SK rfl rfl rfl rfl rfl ?_
                    refine SK rfl rfl rfl rfl rfl ?_
                    refine SK rfl rfl rfl rfl rfl ?_
                    refine SK rfl rfl rfl rfl rfl ?_
                    refine SK rfl rfl rfl rfl rfl ?_
                    refine SK rfl rfl rfl rfl rfl ?_
                    refine SK rfl rfl rfl rfl rfl ?_
                    refine S (r_pickF (v := Value.bool false) rfl rfl rfl) rfl ?_
                    refine SW_nil ?_
                    obtain rfl := Option.some.inj hM
                    exact ⟨rfl, rfl, rfl, rfl, rfl, hds, hs⟩
                · clear hs
                  rintro E w ⟨hE3, hE7, hE8, hE9, hE71, hds, hs⟩
                  have hM := hKhx45
                  obtain ⟨E, rfl⟩ := open1 (E := E) hE3
                  obtain ⟨E, rfl⟩ := open1 (E := E) hE7
                  obtain ⟨E, rfl⟩ := open1 (E := E) hE8
                  obtain ⟨E, rfl⟩ := open1 (E := E) hE9
                  obtain ⟨E, rfl⟩ := open1 (E := E) hE71
                  rcases condS hM with ⟨hc61, hM⟩ | ⟨hc61, hM⟩
                  · refine WP_true rfl hc61 ?_
                    refine WP_skip ?_
                    refine WP_block ?_
                    refine WP_region ?_
                    refine O (r_move (v := Value.int .i64 t165) rfl) rfl ?_
                    obtain ⟨t172, ht172, hM⟩ := bindS hM
                    refine O (r_addM rfl rfl ht172) rfl ?_
                    refine O (r_assign (v := Value.int .i64 t172) rfl) rfl ?_
                    refine OW_nil ?_
                    obtain rfl := Option.some.inj hM
                    exact ⟨rfl, rfl, rfl, rfl, hds, hs⟩
                  · refine WP_false rfl hc61 ?_
                    refine WP_exit ?_
                    obtain rfl := Option.some.inj hM
                    refine fun hr => ?_
                    have hM := congrArg some hr
                    obtain rfl := Option.some.inj hM
                    exact ⟨v45, xs17, rfl, rfl, rfl, rfl, hds, hrelxs17, hs⟩
              · clear hs
                rintro E w ⟨v51, xs20, hE3, hE7, hE8, hE9, hds, hrelxs20, hs⟩
                have hM := hKhx42
                obtain ⟨E, rfl⟩ := open1 (E := E) hE3
                obtain ⟨E, rfl⟩ := open1 (E := E) hE7
                obtain ⟨E, rfl⟩ := open1 (E := E) hE8
                obtain ⟨E, rfl⟩ := open1 (E := E) hE9
                refine WP_seq ?_
                refine WP_seq ?_
                refine WP_region ?_
                refine O (r_move (v := Value.int .i64 t160) rfl) rfl ?_
                refine O (r_move (v := Value.int .i64 xv42) rfl) rfl ?_
                obtain ⟨t173, ht173, hM⟩ := bindS hM
                refine O (r_subM rfl rfl ht173) rfl ?_
                refine O (r_geq rfl rfl) rfl ?_
                refine OW_nil ?_
                rcases condS hM with ⟨hc62, hM⟩ | ⟨hc62, hM⟩
                · refine WP_true rfl hc62 ?_
                  refine WP_seq ?_
                  refine WP_any (.q 0 (.q 1 (.q 2 (.q 3 (.q 4 (.q 7 (.q 8 (.q 9 (.q 10 (.q 11 (.s 5 (.q 6 (.s 12 (.q 13 (.q 14 (.q 15 (.leaf))))))))))))))))) (SS g0 w0 gg49 [.row v51 5 (tInt .u8).sz rv16.length xs20]) mo (by decide +kernel) ?_
                  have hs := hs.drew
                  have hG0b := hG0
                  have hrelxs20b := hrelxs20
                  have hS : SS g0 w0 gg49 [.row v51 5 (tInt .u8).sz rv16.length xs20] _ := ⟨gg49, Hle.refl _, hs⟩
                  refine A rfl hS (fun w9 h9 => by obtain ⟨g9, hle9, hs⟩ := h9; exact r_move (v := encS xv41) rfl) rfl ?_
                  refine A rfl hS (fun w9 h9 => by obtain ⟨g9, hle9, hs⟩ := h9; exact r_move (v := v51) rfl) rfl ?_
                  refine A rfl hS (fun w9 h9 => by obtain ⟨g9, hle9, hs⟩ := h9; exact r_move (v := Value.int .i64 xv42) rfl) rfl ?_
                  obtain ⟨e241, he241, hM⟩ := bindS hM
                  obtain ⟨b242, cb242, hvb242, cs272, hcs272, hcb242⟩ := hs.rowEl (i := 0) rfl hrelxs20 he241
                  have hcs272 : cs272 = _ := hcs272; subst hcs272
                  refine A rfl hS (fun w9 h9 => by obtain ⟨g9, hle9, hs⟩ := h9; exact r_idxSl Tryd.underlying39 ti5 (v := v51) rfl hvb242 rfl (idxL_some he241).1 (idxL_some he241).2.1) rfl ?_
                  refine A rfl hS (fun w9 h9 => by obtain ⟨g9, hle9, hs⟩ := h9; exact r_loadEl (cs := [Value.int .u8 e241]) ti5 rfl rfl (.inr rfl) (hcb242 _ (hs.at (i := 0) rfl)) (v := Value.int .u8 e241) rfl) rfl ?_
                  refine A rfl hS (fun w9 h9 => by obtain ⟨g9, hle9, hs⟩ := h9; exact r_move (v := v51) rfl) rfl ?_
                  refine A rfl hS (fun w9 h9 => by obtain ⟨g9, hle9, hs⟩ := h9; exact r_move (v := Value.int .i64 t160) rfl) rfl ?_
                  obtain ⟨t174, ht174, hM⟩ := bindS hM
                  refine A rfl hS (fun w9 h9 => by obtain ⟨g9, hle9, hs⟩ := h9; exact r_subM rfl rfl ht174) rfl ?_
                  obtain ⟨e242, he242, hM⟩ := bindS hM
                  obtain ⟨b243, cb243, hvb243, cs273, hcs273, hcb243⟩ := hs.rowEl (i := 0) rfl hrelxs20 he242
                  have hcs273 : cs273 = _ := hcs273; subst hcs273
                  refine A rfl hS (fun w9 h9 => by obtain ⟨g9, hle9, hs⟩ := h9; exact r_idxSl Tryd.underlying39 ti5 (v := v51) rfl hvb243 rfl (idxL_some he242).1 (idxL_some he242).2.1) rfl ?_
                  refine A rfl hS (fun w9 h9 => by obtain ⟨g9, hle9, hs⟩ := h9; exact r_loadEl (cs := [Value.int .u8 e242]) ti5 rfl rfl (.inr rfl) (hcb243 _ (hs.at (i := 0) rfl)) (v := Value.int .u8 e242) rfl) rfl ?_
                  refine A1 rfl ?_
                  obtain ⟨rv41, hrv41, hM⟩ := bindS hM
                  refine C [Value.int .u8 e241, encS [93, 92, 45, 94]] cf56 rfl (regex_char_ok hrv41 hs.imm) rfl ?_
                  rintro v52 wv40 ⟨gg54, hvv52, hegg54⟩
                  have hlegg54 := hegg54.le hs.imm
                  replace hs := hs.call hegg54
                  replace hG0 := hG0.mono hlegg54
                  replace hrelxs20 := hrelxs20.mono hlegg54
                  replace hag0 := hag0.trans hlegg54
                  replace hlegg49 := hlegg49.trans hlegg54
                  replace hagg49 := hagg49.trans hlegg54
                  obtain ⟨cs274, rfl, hcs274⟩ := hvv52
                  have hcs274 : cs274 = _ := hcs274; subst hcs274
                  refine OW_nil ?_
                  have hS : SS g0 w0 gg49 [.row v51 5 (tInt .u8).sz rv16.length xs20] _ := ⟨gg54, hagg49, hs⟩
                  refine ⟨fun _ => hS, ?_⟩
                  obtain ⟨s21, hs21, hM⟩ := bindS hM
                  refine A rfl hS (fun w9 h9 => by obtain ⟨g9, hle9, hs⟩ := h9; exact r_catS rfl rfl hs21) rfl ?_
                  refine A1 rfl ?_
                  obtain ⟨rv42, hrv42, hM⟩ := bindS hM
                  refine C [Value.int .u8 e242, encS [93, 92, 45, 94]] cf56 rfl (regex_char_ok hrv42 hs.imm) rfl ?_
                  rintro v53 wv41 ⟨gg55, hvv53, hegg55⟩
                  have hlegg55 := hegg55.le hs.imm
                  replace hs := hs.call hegg55
                  replace hG0 := hG0.mono hlegg55
                  replace hrelxs20 := hrelxs20.mono hlegg55
                  replace hag0 := hag0.trans hlegg55
                  replace hlegg49 := hlegg49.trans hlegg55
                  replace hagg49 := hagg49.trans hlegg55
                  obtain ⟨cs275, rfl, hcs275⟩ := hvv53
                  have hcs275 : cs275 = _ := hcs275; subst hcs275
                  refine OW_nil ?_
                  have hS : SS g0 w0 gg49 [.row v51 5 (tInt .u8).sz rv16.length xs20] _ := ⟨gg55, hagg49, hs⟩
                  refine ⟨fun _ => hS, ?_⟩
                  obtain ⟨s22, hs22, hM⟩ := bindS hM
                  refine A rfl hS (fun w9 h9 => by obtain ⟨g9, hle9, hs⟩ := h9; exact r_catS rfl rfl hs22) rfl ?_
                  obtain ⟨s23, hs23, hM⟩ := bindS hM
                  refine A rfl hS (fun w9 h9 => by obtain ⟨g9, hle9, hs⟩ := h9; exact r_catS rfl rfl hs23) rfl ?_
                  refine A rfl hS (fun w9 h9 => by obtain ⟨g9, hle9, hs⟩ := h9; exact r_assign (v := encS s23) rfl) rfl ?_
                  refine AN ?_
                  refine WP_seq ?_
                  refine WP_region ?_
                  refine O (r_move (v := Value.int .i64 t160) rfl) rfl ?_
                  refine O (r_assign (v := Value.int .i64 t160) rfl) rfl ?_
                  refine OW_nil ?_
                  refine WP_exit ?_
                  obtain rfl := Option.some.inj hM
                  exact ⟨gg55, v51, xs20, rfl, rfl, rfl, hds, hlegg49, hrelxs20, hs⟩
                · refine WP_false rfl hc62 ?_
                  refine WP_skip ?_
                  refine WP_seq ?_
                  refine WP_region ?_
                  refine O (r_move (v := encS xv41) rfl) rfl ?_
                  refine O (r_move (v := v51) rfl) rfl ?_
                  refine O (r_move (v := Value.int .i64 xv42) rfl) rfl ?_
                  obtain ⟨e243, he243, hM⟩ := bindS hM
                  obtain ⟨b244, cb244, hvb244, cs276, hcs276, hcb244⟩ := hs.rowEl (i := 0) rfl hrelxs20 he243
                  have hcs276 : cs276 = _ := hcs276; subst hcs276
                  refine O (r_idxSl Tryd.underlying39 ti5 (v := v51) rfl hvb244 rfl (idxL_some he243).1 (idxL_some he243).2.1) rfl ?_
                  refine O (r_loadEl (cs := [Value.int .u8 e243]) ti5 rfl rfl (.inr rfl) (hcb244 _ (hs.at (i := 0) rfl)) (v := Value.int .u8 e243) rfl) rfl ?_
                  obtain ⟨rv43, hrv43, hM⟩ := bindS hM
                  refine C [Value.int .u8 e243, encS [93, 92, 45, 94]] cf56 rfl (regex_char_ok hrv43 hs.imm) rfl ?_
                  rintro v54 wv42 ⟨gg56, hvv54, hegg56⟩
                  have hlegg56 := hegg56.le hs.imm
                  replace hs := hs.call hegg56
                  replace hG0 := hG0.mono hlegg56
                  replace hrelxs20 := hrelxs20.mono hlegg56
                  replace hag0 := hag0.trans hlegg56
                  replace hlegg49 := hlegg49.trans hlegg56
                  replace hagg49 := hagg49.trans hlegg56
                  obtain ⟨cs277, rfl, hcs277⟩ := hvv54
                  have hcs277 : cs277 = _ := hcs277; subst hcs277
                  obtain ⟨s24, hs24, hM⟩ := bindS hM
                  refine O (r_catS rfl rfl hs24) rfl ?_
                  refine O (r_assign (v := encS s24) rfl) rfl ?_
                  refine OW_nil ?_
                  refine WP_region ?_
                  refine O (r_move (v := Value.int .i64 xv42) rfl) rfl ?_
                  refine O (r_addM rfl rfl ht147) rfl ?_
                  refine O (r_assign (v := Value.int .i64 t147) rfl) rfl ?_
                  refine OW_nil ?_
                  obtain rfl := Option.some.inj hM
                  exact ⟨gg56, v51, xs20, rfl, rfl, rfl, hds, hlegg49, hrelxs20, hs⟩
            · refine WP_false rfl hc55 ?_
              refine WP_exit ?_
              obtain rfl := Option.some.inj hM
              refine fun hr => ?_
              have hM := congrArg some hr
              obtain rfl := Option.some.inj hM
              exact ⟨gg49, rfl, hds, hlegg49, (hs.sub (.cons _ .slnil))⟩
          · clear hs
            rintro E w ⟨gg44, hE7, hds, hlegg44, hs⟩
            have hM := hKhx24
            obtain ⟨E, rfl⟩ := open1 (E := E) hE7
            replace hG0 := hG0.mono hlegg44
            replace hag0 := hag0.trans hlegg44
            refine WP_seq ?_
            refine WP_region ?_
            refine O (r_move (v := encS xv32) rfl) rfl ?_
            obtain ⟨s25, hs25, hM⟩ := bindS hM
            refine O (r_catS rfl rfl hs25) rfl ?_
            refine O (r_assign (v := encS s25) rfl) rfl ?_
            refine OW_nil ?_
            refine WP_ret ?_
            obtain rfl := Option.some.inj hM
            refine FL_nil hds ?_
            exact ⟨_, res1 Tryd.results39 (rv_tmp (v := encS s25) rfl), gg44, ⟨[encS s25], rfl, rfl⟩, hs.ext⟩

def C.regex_Format_1 (fl : Nat) : Prop := ∀ {k1 : T_Regex} {kinds1 : (List Int)} {r : Str} (_ : M.regex_Format_1 fl k1 kinds1 = some r) {g0 : Hp} {w0 : World} (hi : Imm g0 w0) {cs1 : List Value} (hcs1 : tT_Regex.rel g0 cs1 k1) {v1 : Value} (hRv1 : RdS (tInt .i64) g0 v1 kinds1) (hG0 : GBox 0 (M.deBruijn.1.map (Value.int .u8)) g0),
    CallsV Tryd.prog 38 #[Value.agg cs1.toArray, v1] w0 (fun v w' => ∃ g', (VRd tStr false g' v r) ∧ Ext g0 w0 g' w')
def C.regex_Format (fl : Nat) : Prop := ∀ {rv1 : T_Regex} {r : Str} (_ : M.regex_Format fl rv1 = some r) {g0 : Hp} {w0 : World} (hi : Imm g0 w0) {cs1 : List Value} (hcs1 : tT_Regex.rel g0 cs1 rv1) (hG0 : GBox 0 (M.deBruijn.1.map (Value.int .u8)) g0),
    CallsV Tryd.prog 21 #[Value.agg cs1.toArray] w0 (fun v w' => ∃ g', (VRd tStr false g' v r) ∧ Ext g0 w0 g' w')
set_option maxRecDepth 100000 in
theorem regex_Format_1_step {fl : Nat} (ih_regex_Format : C.regex_Format fl) : C.regex_Format_1 (fl + 1) := by
  intro k1 kinds1 r hM g0 w0 hi cs1 hcs1 v1 hRv1 hG0
  unfold M.regex_Format_1 at hM
  obtain ⟨cs2, cs3, cs4, rfl, hcs2, hcs3, hcs4⟩ := tT_Regex_iff.1 hcs1
  have hcs2 : cs2 = _ := hcs2; subst hcs2
  have hcs3 : cs3 = _ := hcs3; subst hcs3
  obtain ⟨v2, rfl, hRv2⟩ := hcs4
  have hs := Sep.start hi
  refine calls_of_WP (args := [Value.agg (List.toArray (α := Value) (([Value.int .i64 k1.Kind]) ++ ((k1.Set.1.map (Value.int .u64)) ++ ([v2])))), v1]) Tryd.func38 rfl Tryd.ntmps38 rfl ?_
  have hds : (argEnv [Value.agg (List.toArray (α := Value) (([Value.int .i64 k1.Kind]) ++ ((k1.Set.1.map (Value.int .u64)) ++ ([v2])))), v1]).ds = [] := rfl
  refine WP_seq ?_
  refine WP_region ?_
  refine OW_box (v := Value.agg (List.toArray (α := Value) (([Value.int .i64 k1.Kind]) ++ ((k1.Set.1.map (Value.int .u64)) ++ ([v2]))))) rfl hs (zs := ([Value.int .i64 k1.Kind]) ++ ((k1.Set.1.map (Value.int .u64)) ++ ([v2]))) rfl rfl ?_
  intro b1 wv1 hs
  refine O (r_assign (v := encS []) rfl) rfl ?_
  refine OW_nil ?_
  obtain ⟨o3, hx1, hKhx1⟩ := stepS hM
  refine WP_cut (fun E w => ∃ u9 : Unit, o3 = .next u9 ∧ E 2 = Value.pointer (some ⟨b1, 0, none⟩) ∧ E.ds = [] ∧ Go.Lx.Sep g0 w0 g0 w [Go.Lx.box b1 27 (([Value.int .i64 k1.Kind]) ++ ((k1.Set.1.map (Value.int .u64)) ++ ([v2])))]) ?_ ?_
  · have hM := hx1
    have hag0 := Hle.refl g0
    refine WP_seq ?_
    refine WP_region ?_
    refine O (r_move (v := v1) rfl) rfl ?_
    obtain ⟨a2, ca2, hva2⟩ := hRv1.shape
    refine O (r_lenSl (v := v1) Tryd.underlying56 rfl hva2) rfl ?_
    refine O (r_move (v := Value.int .i64 0) rfl) rfl ?_
    refine OW_nil ?_
    refine WP_block ?_
    refine WP_loop (fun (xv5 : Int) E w => E 2 = Value.pointer (some ⟨b1, 0, none⟩) ∧ E 7 = v1 ∧ E 8 = Value.int .i64 (kinds1.length : Int) ∧ E 9 = Value.int .i64 xv5 ∧ E.ds = [] ∧ Go.Lx.Sep g0 w0 g0 w [Go.Lx.box b1 27 (([Value.int .i64 k1.Kind]) ++ ((k1.Set.1.map (Value.int .u64)) ++ ([v2])))]) hM ⟨rfl, rfl, rfl, rfl, hds, hs⟩ ?_
    clear hs hM
    rintro xv5 o2 E w hM ⟨hE2, hE7, hE8, hE9, hds, hs⟩
    obtain ⟨E, rfl⟩ := open1 (E := E) hE2
    obtain ⟨E, rfl⟩ := open1 (E := E) hE7
    obtain ⟨E, rfl⟩ := open1 (E := E) hE8
    obtain ⟨E, rfl⟩ := open1 (E := E) hE9
    refine WP_seq ?_
    refine WP_region ?_
    refine O (r_lss rfl rfl) rfl ?_
    refine OW_nil ?_
    refine WP_seq ?_
    rcases condS hM with ⟨hc11, hM⟩ | ⟨hc11, hM⟩
    · refine WP_true rfl hc11 ?_
      refine WP_skip ?_
      refine WP_seq ?_
      refine WP_block ?_
      refine WP_seq ?_
      refine WP_region ?_
      obtain ⟨e6, he6, hM⟩ := bindS hM
      obtain ⟨b7, ob7, cb7, hvb7, cs15, hcs15, hcb7⟩ := hRv1.at he6
      have hcs15 : cs15 = _ := hcs15; subst hcs15
      refine O (r_idxSl Tryd.underlying56 ti3 (v := v1) rfl hvb7 rfl (idxL_some he6).1 (idxL_some he6).2.1) rfl ?_
      refine O (r_loadEl (cs := [Value.int .i64 e6]) ti3 rfl rfl (.inr rfl) (hcb7 _ hs.imm) (v := Value.int .i64 e6) rfl) rfl ?_
      refine O (r_assign (v := Value.int .i64 e6) rfl) rfl ?_
      refine OW_nil ?_
      refine WP_seq ?_
      refine WP_region ?_
      refine O (r_fieldAddr Tryd.underlying27 ti3 rfl rfl (by decide) rfl rfl) rfl ?_
      refine O (r_load (v := Value.int .i64 k1.Kind) ti3 rfl (hs.cell (i := 0) (o := 0) rfl (by simp [k1.Set.2]))) rfl ?_
      refine O (r_move (v := Value.int .i64 e6) rfl) rfl ?_
      refine O (r_eql rfl rfl) rfl ?_
      refine OW_nil ?_
      rcases condS hM with ⟨hc12, hM⟩ | ⟨hc12, hM⟩
      · refine WP_true rfl hc12 ?_
        refine WP_seq ?_
        refine WP_region ?_
        refine O (r_loadN (cs := ([Value.int .i64 k1.Kind]) ++ ((k1.Set.1.map (Value.int .u64)) ++ ([v2]))) ti27 rfl (by simp [k1.Set.2]) (hs.cells (i := 0) rfl)) rfl ?_
        obtain ⟨rv6, hrv6, hM⟩ := bindS hM
        refine C [Value.agg (List.toArray (α := Value) (([Value.int .i64 k1.Kind]) ++ ((k1.Set.1.map (Value.int .u64)) ++ ([v2]))))] cf21 rfl (ih_regex_Format hrv6 hs.imm (tT_Regex_iff.2 ⟨[Value.int .i64 k1.Kind], k1.Set.1.map (Value.int .u64), [v2], rfl, rfl, rfl, ⟨_, rfl, hRv2⟩⟩) hG0) rfl ?_
        rintro v8 wv7 ⟨gg6, hvv8, hegg6⟩
        have hlegg6 := hegg6.le hs.imm
        replace hs := hs.call hegg6
        replace hRv2 := hRv2.mono hlegg6
        replace hRv1 := hRv1.mono hlegg6
        replace hG0 := hG0.mono hlegg6
        replace hag0 := hag0.trans hlegg6
        obtain ⟨cs16, rfl, hcs16⟩ := hvv8
        have hcs16 : cs16 = _ := hcs16; subst hcs16
        obtain ⟨s11, hs11, hM⟩ := bindS hM
        refine O (r_catS rfl rfl hs11) rfl ?_
        obtain ⟨s12, hs12, hM⟩ := bindS hM
        refine O (r_catS rfl rfl hs12) rfl ?_
        refine O (r_assign (v := encS s12) rfl) rfl ?_
        refine OW_nil ?_
        refine WP_ret ?_
        obtain rfl := Option.some.inj hM
        refine fun hr => ?_
        have hM := congrArg some hr
        obtain rfl := Option.some.inj hM
        have hM := hKhx1
        obtain rfl := Option.some.inj hM
        refine FL_nil hds ?_
        exact ⟨_, res1 Tryd.results38 (rv_tmp (v := encS s12) rfl), gg6, ⟨[encS s12], rfl, rfl⟩, hs.ext⟩
      · refine WP_false rfl hc12 ?_
        refine WP_skip ?_
        refine WP_region ?_
        obtain ⟨t6, ht6, hM⟩ := bindS hM
        refine O (r_addM rfl rfl ht6) rfl ?_
        refine O (r_move (v := Value.int .i64 t6) rfl) rfl ?_
        refine OW_nil ?_
        obtain rfl := Option.some.inj hM
        exact ⟨rfl, rfl, rfl, rfl, hds, hs⟩
    · refine WP_false rfl hc11 ?_
      refine WP_exit ?_
      obtain rfl := Option.some.inj hM
      refine fun hr => ?_
      have hM := congrArg some hr
      obtain rfl := Option.some.inj hM
      exact ⟨(), rfl, rfl, hds, hs⟩
  · clear hs
    rintro E w ⟨_, rfl, hE2, hds, hs⟩
    have hM := hKhx1
    dsimp only [onStep] at hM
    obtain ⟨E, rfl⟩ := open1 (E := E) hE2
    refine WP_seq ?_
    refine WP_region ?_
    refine O (r_loadN (cs := ([Value.int .i64 k1.Kind]) ++ ((k1.Set.1.map (Value.int .u64)) ++ ([v2]))) ti27 rfl (by simp [k1.Set.2]) (hs.cells (i := 0) rfl)) rfl ?_
    obtain ⟨rv7, hrv7, hM⟩ := bindS hM
    refine C [Value.agg (List.toArray (α := Value) (([Value.int .i64 k1.Kind]) ++ ((k1.Set.1.map (Value.int .u64)) ++ ([v2]))))] cf21 rfl (ih_regex_Format hrv7 hs.imm (tT_Regex_iff.2 ⟨[Value.int .i64 k1.Kind], k1.Set.1.map (Value.int .u64), [v2], rfl, rfl, rfl, ⟨_, rfl, hRv2⟩⟩) hG0) rfl ?_
    rintro v9 wv8 ⟨gg7, hvv9, hegg7⟩
    have hlegg7 := hegg7.le hs.imm
    replace hs := hs.call hegg7
    replace hRv2 := hRv2.mono hlegg7
    replace hG0 := hG0.mono hlegg7
    obtain ⟨cs17, rfl, hcs17⟩ := hvv9
    have hcs17 : cs17 = _ := hcs17; subst hcs17
    refine O (r_assign (v := encS rv7) rfl) rfl ?_
    refine OW_nil ?_
    refine WP_ret ?_
    obtain rfl := Option.some.inj hM
    refine FL_nil hds ?_
    exact ⟨_, res1 Tryd.results38 (rv_tmp (v := encS rv7) rfl), gg7, ⟨[encS rv7], rfl, rfl⟩, hs.ext⟩

set_option maxRecDepth 100000 in
theorem regex_Format_step {fl : Nat} (ih_regex_Format_1 : C.regex_Format_1 fl) : C.regex_Format (fl + 1) := by
  intro rv1 r hM g0 w0 hi cs1 hcs1 hG0
  unfold M.regex_Format at hM
  obtain ⟨cs2, cs3, cs4, rfl, hcs2, hcs3, hcs4⟩ := tT_Regex_iff.1 hcs1
  have hcs2 : cs2 = _ := hcs2; subst hcs2
  have hcs3 : cs3 = _ := hcs3; subst hcs3
  obtain ⟨v1, rfl, hRv1⟩ := hcs4
  have hs := Sep.start hi
  refine calls_of_WP (args := [Value.agg (List.toArray (α := Value) (([Value.int .i64 rv1.Kind]) ++ ((rv1.Set.1.map (Value.int .u64)) ++ ([v1]))))]) Tryd.func21 rfl Tryd.ntmps21 rfl ?_
  have hds : (argEnv [Value.agg (List.toArray (α := Value) (([Value.int .i64 rv1.Kind]) ++ ((rv1.Set.1.map (Value.int .u64)) ++ ([v1]))))]).ds = [] := rfl
  refine WP_seq ?_
  refine WP_region ?_
  refine OW_box (v := Value.agg (List.toArray (α := Value) (([Value.int .i64 rv1.Kind]) ++ ((rv1.Set.1.map (Value.int .u64)) ++ ([v1]))))) rfl hs (zs := ([Value.int .i64 rv1.Kind]) ++ ((rv1.Set.1.map (Value.int .u64)) ++ ([v1]))) rfl rfl ?_
  intro b1 wv1 hs
  refine O (r_assign (v := encS []) rfl) rfl ?_
  refine OW_nil ?_
  refine WP_seq ?_
  refine WP_region ?_
  refine O (r_assign (v := Value.func (.func 38) #[] #[]) rfl) rfl ?_
  refine OW_nil ?_
  refine WP_seq ?_
  refine WP_region ?_
  refine O (r_assign (v := Value.slice none 0 0) rfl) rfl ?_
  refine OW_nil ?_
  refine WP_seq ?_
  refine WP_seq ?_
  refine WP_region ?_
  refine O (r_fieldAddr Tryd.underlying27 ti3 rfl rfl (by decide) rfl rfl) rfl ?_
  refine O (r_load (v := Value.int .i64 rv1.Kind) ti3 rfl (hs.cell (i := 0) (o := 0) rfl (by simp [rv1.Set.2]))) rfl ?_
  refine OW_nil ?_
  refine WP_block ?_
  refine WP_seq ?_
  refine WP_region ?_
  refine O (r_eql rfl rfl) rfl ?_
  refine O (r_assign (v := Value.bool (rv1.Kind == 3)) rfl) rfl ?_
  refine OW_nil ?_
  rcases condS hM with ⟨hc1, hM⟩ | ⟨hc1, hM⟩
  · refine WP_true rfl hc1 ?_
    refine WP_seq ?_
    refine WP_region ?_
    refine O (r_fieldAddr Tryd.underlying27 ti24 rfl rfl (by decide) rfl rfl) rfl ?_
    refine O (r_loadN (cs := rv1.Set.1.map (Value.int .u64)) ti24 rfl (by simp [rv1.Set.2]) (hs.cellsAt (i := 0) (o := 1) rfl (by intro j u hj; exact sub_at (pre := [Value.int .i64 rv1.Kind]) (ds := rv1.Set.1.map (Value.int .u64)) (post := [v1]) rfl ((by simp)) hj))) rfl ?_
    obtain ⟨rv2, hrv2, hM⟩ := bindS hM
    refine C [encV .u64 rv1.Set] cf39 rfl (regex_formatSet_ok hrv2 hs.imm hG0) rfl ?_
    rintro v2 wv2 ⟨gg1, hvv2, hegg1⟩
    have hlegg1 := hegg1.le hs.imm
    replace hs := hs.call hegg1
    replace hG0 := hG0.mono hlegg1
    replace hRv1 := hRv1.mono hlegg1
    obtain ⟨cs5, rfl, hcs5⟩ := hvv2
    have hcs5 : cs5 = _ := hcs5; subst hcs5
    refine O (r_assign (v := encS rv2) rfl) rfl ?_
    refine OW_nil ?_
    refine WP_ret ?_
    obtain rfl := Option.some.inj hM
    refine FL_nil hds ?_
    exact ⟨_, res1 Tryd.results21 (rv_tmp (v := encS rv2) rfl), gg1, ⟨[encS rv2], rfl, rfl⟩, hs.ext⟩
  · refine WP_false rfl hc1 ?_
    refine WP_seq ?_
    refine WP_region ?_
    refine O (r_eql rfl rfl) rfl ?_
    refine O (r_assign (v := Value.bool (rv1.Kind == 6)) rfl) rfl ?_
    refine OW_nil ?_
    rcases condS hM with ⟨hc2, hM⟩ | ⟨hc2, hM⟩
    · refine WP_true rfl hc2 ?_
      refine WP_seq ?_
      refine WP_region ?_
      refine O (r_move (v := Value.func (.func 38) #[] #[]) rfl) rfl ?_
      refine O (r_fieldAddr Tryd.underlying27 ti25 rfl rfl (by decide) rfl rfl) rfl ?_
      refine O (r_load (v := v1) ti25 rfl (hs.cell (i := 0) (o := 5) rfl (by simp [rv1.Set.2]))) rfl ?_
      obtain ⟨e1, he1, hM⟩ := bindS hM
      obtain ⟨b2, ob2, cb2, hvb2, cs6, hcs6, hcb2⟩ := hRv1.at he1
      obtain ⟨cs7, cs8, cs9, rfl, hcs7, hcs8, hcs9⟩ := tT_Regex_iff.1 hcs6
      have hcs7 : cs7 = _ := hcs7; subst hcs7
      have hcs8 : cs8 = _ := hcs8; subst hcs8
      obtain ⟨v3, rfl, hRv3⟩ := hcs9
      refine O (r_idxSl Tryd.underlying25 ti27 (v := v1) rfl hvb2 rfl (idxL_some he1).1 (idxL_some he1).2.1) rfl ?_
      refine O (r_loadEl (cs := ([Value.int .i64 e1.Kind]) ++ ((e1.Set.1.map (Value.int .u64)) ++ ([v3]))) ti27 rfl (by simp [e1.Set.2]) (.inl rfl) (hcb2 _ hs.imm) (v := Value.agg (List.toArray (α := Value) (([Value.int .i64 e1.Kind]) ++ ((e1.Set.1.map (Value.int .u64)) ++ ([v3]))))) rfl) rfl ?_
      refine OW_lit (τ := (tInt .i64)) [Value.int .i64 2, Value.int .i64 4, Value.int .i64 5, Value.int .i64 6] [2, 4, 5, 6] Tryd.underlying56 ti3 (by decide) hs rfl rfl rfl ⟨rfl, rfl, rfl, rfl, trivial⟩ rfl ?_
      intro v4 wv3 xs1 hrelxs1 hs
      have hsL1 := hs
      have hG0L1 := hG0
      have hRv1L1 := hRv1
      have hRv3L1 := hRv3
      have hrelxs1L1 := hrelxs1
      obtain ⟨gg2, hlegg2, hRgg2, hs⟩ := hs.relRow (i := 0) rfl hrelxs1
      replace hG0 := hG0.mono hlegg2
      replace hRv1 := hRv1.mono hlegg2
      replace hRv3 := hRv3.mono hlegg2
      obtain ⟨rv3, hrv3, hM⟩ := bindS hM
      refine CV [Value.agg (List.toArray (α := Value) (([Value.int .i64 e1.Kind]) ++ ((e1.Set.1.map (Value.int .u64)) ++ ([v3])))), v4] [] cf38 rfl rfl (ih_regex_Format_1 hrv3 hs.imm (tT_Regex_iff.2 ⟨[Value.int .i64 e1.Kind], e1.Set.1.map (Value.int .u64), [v3], rfl, rfl, rfl, ⟨_, rfl, hRv3⟩⟩) hRgg2 hG0) rfl ?_
      rintro v5 wv4 ⟨gg3, hvv5, hegg3⟩
      obtain ⟨gg4, hlegg4, hs⟩ := hsL1.lent hegg3
      replace hG0 := hG0L1.mono hlegg4
      replace hRv1 := hRv1L1.mono hlegg4
      replace hRv3 := hRv3L1.mono hlegg4
      replace hrelxs1 := hrelxs1L1.mono hlegg4
      obtain ⟨cs10, rfl, hcs10⟩ := hvv5
      have hcs10 : cs10 = _ := hcs10; subst hcs10
      obtain ⟨s1, hs1, hM⟩ := bindS hM
      refine O (r_catS rfl rfl hs1) rfl ?_
      refine O (r_assign (v := encS s1) rfl) rfl ?_
      refine OW_nil ?_
      refine WP_ret ?_
      obtain rfl := Option.some.inj hM
      refine FL_nil hds ?_
      exact ⟨_, res1 Tryd.results21 (rv_tmp (v := encS s1) rfl), gg4, ⟨[encS s1], rfl, rfl⟩, hs.ext⟩
    · refine WP_false rfl hc2 ?_
      refine WP_seq ?_
      refine WP_region ?_
      refine O (r_eql rfl rfl) rfl ?_
      refine O (r_assign (v := Value.bool (rv1.Kind == 4)) rfl) rfl ?_
      refine OW_nil ?_
      rcases condS hM with ⟨hc3, hM⟩ | ⟨hc3, hM⟩
      · refine WP_true rfl hc3 ?_
        obtain ⟨xv7, hx1, hKhx1⟩ := bindS hM
        refine WP_cut (fun E w => ∃ (gg17 : Hp) (v24 : Value) (xs15 : List Value), E 4 = v24 ∧ E.ds = [] ∧ Hle g0 gg17 ∧ RowRel tStr gg17 xs15 xv7 ∧ Go.Lx.Sep g0 w0 gg17 w [.row v24 9 tStr.sz xv7.length xs15]) ?_ ?_
        · have hM := hx1
          have hag0 := Hle.refl g0
          refine WP_seq ?_
          refine WP_region ?_
          refine O (r_fieldAddr Tryd.underlying27 ti25 rfl rfl (by decide) rfl rfl) rfl ?_
          refine O (r_load (v := v1) ti25 rfl (hs.cell (i := 0) (o := 5) rfl (by simp [rv1.Set.2]))) rfl ?_
          obtain ⟨a2, ca2, hva2⟩ := hRv1.shape
          refine O (r_lenSl (v := v1) Tryd.underlying25 rfl hva2) rfl ?_
          refine O (r_move (v := Value.int .i64 0) rfl) rfl ?_
          refine OW_nil ?_
          refine WP_block ?_
          have hs := hs.nilRow 9 tStr.sz
          refine WP_loop (fun (st9 : (List Str) × Int) E w => match st9 with | (xv10, xv11) => ∃ (gg22 : Hp) (v31 : Value) (xs21 : List Value), E 3 = Value.func (.func 38) #[] #[] ∧ E 4 = v31 ∧ E 29 = v1 ∧ E 30 = Value.int .i64 (rv1.Kids.length : Int) ∧ E 31 = Value.int .i64 xv11 ∧ E.ds = [] ∧ Hle g0 gg22 ∧ RowRel tStr gg22 xs21 xv10 ∧ Go.Lx.Sep g0 w0 gg22 w [.row v31 9 tStr.sz xv10.length xs21]) hM ⟨g0, (Value.slice none 0 0), [], rfl, rfl, rfl, rfl, rfl, hds, (Hle.refl _), RowRel.nil, (hs.sub (.cons_cons _ (.cons _ .slnil)))⟩ ?_
          clear hs hM
          rintro ⟨xv10, xv11⟩ o2 E w hM ⟨gg22, v31, xs21, hE3, hE4, hE29, hE30, hE31, hds, hlegg22, hrelxs21, hs⟩
          obtain ⟨E, rfl⟩ := open1 (E := E) hE3
          obtain ⟨E, rfl⟩ := open1 (E := E) hE4
          obtain ⟨E, rfl⟩ := open1 (E := E) hE29
          obtain ⟨E, rfl⟩ := open1 (E := E) hE30
          obtain ⟨E, rfl⟩ := open1 (E := E) hE31
          replace hRv1 := hRv1.mono hlegg22
          replace hG0 := hG0.mono hlegg22
          replace hag0 := hag0.trans hlegg22
          have hagg22 := Hle.refl gg22
          refine WP_seq ?_
          refine WP_region ?_
          refine O (r_lss rfl rfl) rfl ?_
          refine OW_nil ?_
          refine WP_seq ?_
          rcases condS hM with ⟨hc9, hM⟩ | ⟨hc9, hM⟩
          · refine WP_true rfl hc9 ?_
            refine WP_skip ?_
            refine WP_seq ?_
            refine WP_block ?_
            refine WP_seq ?_
            refine WP_region ?_
            obtain ⟨e7, he7, hM⟩ := bindS hM
            obtain ⟨b13, ob13, cb13, hvb13, cs36, hcs36, hcb13⟩ := hRv1.at he7
            obtain ⟨cs37, cs38, cs39, rfl, hcs37, hcs38, hcs39⟩ := tT_Regex_iff.1 hcs36
            have hcs37 : cs37 = _ := hcs37; subst hcs37
            have hcs38 : cs38 = _ := hcs38; subst hcs38
            obtain ⟨v38, rfl, hRv38⟩ := hcs39
            refine O (r_idxSl Tryd.underlying25 ti27 (v := v1) rfl hvb13 rfl (idxL_some he7).1 (idxL_some he7).2.1) rfl ?_
            refine O (r_loadEl (cs := ([Value.int .i64 e7.Kind]) ++ ((e7.Set.1.map (Value.int .u64)) ++ ([v38]))) ti27 rfl (by simp [e7.Set.2]) (.inl rfl) (hcb13 _ hs.imm) (v := Value.agg (List.toArray (α := Value) (([Value.int .i64 e7.Kind]) ++ ((e7.Set.1.map (Value.int .u64)) ++ ([v38]))))) rfl) rfl ?_
            refine OW_alloc ti27 hs (zs := ([Value.int .i64 0]) ++ (((Vec.zero 4).1.map (Value.int .u64)) ++ ([Value.slice none 0 0]))) rfl rfl ?_
            intro b14 wv35 hs
            refine OW_storeAll ti27 hs (i := 0) rfl rfl (v := Value.agg (List.toArray (α := Value) (([Value.int .i64 e7.Kind]) ++ ((e7.Set.1.map (Value.int .u64)) ++ ([v38]))))) rfl (vs := ([Value.int .i64 e7.Kind]) ++ ((e7.Set.1.map (Value.int .u64)) ++ ([v38]))) rfl (one_append (one_cons rfl one_nil) (one_append vec_one (one_cons (by obtain ⟨_, _, h9⟩ := hRv38.shape; rw [h9]; rfl) one_nil))) (by simp [e7.Set.2]) (by simp [e7.Set.2, (Vec.zero 4).2]) ?_
            intro wv36 hs
            refine OW_nil ?_
            refine WP_region ?_
            refine O (r_move (v := v31) rfl) rfl ?_
            refine O (r_move (v := Value.func (.func 38) #[] #[]) rfl) rfl ?_
            refine O (r_loadN (cs := ([Value.int .i64 e7.Kind]) ++ ((e7.Set.1.map (Value.int .u64)) ++ ([v38]))) ti27 rfl (by simp [e7.Set.2]) (hs.cells (i := 0) rfl)) rfl ?_
            refine OW_lit (τ := (tInt .i64)) [Value.int .i64 4, Value.int .i64 5] [4, 5] Tryd.underlying56 ti3 (by decide) hs rfl rfl rfl ⟨rfl, rfl, trivial⟩ rfl ?_
            intro v39 wv37 xs26 hrelxs26 hs
            have hsL7 := hs
            have hRv1L7 := hRv1
            have hG0L7 := hG0
            have hrelxs21L7 := hrelxs21
            have hRv38L7 := hRv38
            have hrelxs26L7 := hrelxs26
            have hlegg22L7 := hlegg22
            have hagg22L7 := hagg22
            obtain ⟨gg27, hlegg27, hRgg27, hs⟩ := hs.relRow (i := 0) rfl hrelxs26
            replace hRv1 := hRv1.mono hlegg27
            replace hG0 := hG0.mono hlegg27
            replace hrelxs21 := hrelxs21.mono hlegg27
            replace hRv38 := hRv38.mono hlegg27
            replace hlegg22 := hlegg22.trans hlegg27
            replace hagg22 := hagg22.trans hlegg27
            obtain ⟨rv9, hrv9, hM⟩ := bindS hM
            refine CV [Value.agg (List.toArray (α := Value) (([Value.int .i64 e7.Kind]) ++ ((e7.Set.1.map (Value.int .u64)) ++ ([v38])))), v39] [] cf38 rfl rfl (ih_regex_Format_1 hrv9 hs.imm (tT_Regex_iff.2 ⟨[Value.int .i64 e7.Kind], e7.Set.1.map (Value.int .u64), [v38], rfl, rfl, rfl, ⟨_, rfl, hRv38⟩⟩) hRgg27 hG0) rfl ?_
            rintro v40 wv38 ⟨gg28, hvv40, hegg28⟩
            obtain ⟨gg29, hlegg29, hs⟩ := hsL7.lent hegg28
            replace hRv1 := hRv1L7.mono hlegg29
            replace hG0 := hG0L7.mono hlegg29
            replace hrelxs21 := hrelxs21L7.mono hlegg29
            replace hRv38 := hRv38L7.mono hlegg29
            replace hrelxs26 := hrelxs26L7.mono hlegg29
            replace hlegg22 := hlegg22L7.trans hlegg29
            replace hagg22 := hagg22L7.trans hlegg29
            obtain ⟨cs40, rfl, hcs40⟩ := hvv40
            have hcs40 : cs40 = _ := hcs40; subst hcs40
            refine OW_lit (τ := tStr) [encS rv9] [rv9] Tryd.underlying58 ti9 (by decide) hs rfl rfl rfl ⟨rfl, trivial⟩ rfl ?_
            intro v41 wv39 xs27 hrelxs27 hs
            obtain ⟨l4, hl4, hM⟩ := bindS hM
            refine OW_append Tryd.underlying58 ti9 rfl (by decide) (by decide) hs (i := 3) rfl hrelxs21 (v := v31) rfl (u := v41) rfl (hs.rowSrc (i := 0) rfl) hrelxs27 hl4 rfl ?_
            intro v42 wv40 xs28 hrelxs28 hs
            refine O (r_assign (v := v42) rfl) rfl ?_
            refine OW_nil ?_
            refine WP_region ?_
            obtain ⟨t6, ht6, hM⟩ := bindS hM
            refine O (r_addM rfl rfl ht6) rfl ?_
            refine O (r_move (v := Value.int .i64 t6) rfl) rfl ?_
            refine OW_nil ?_
            obtain rfl := Option.some.inj hM
            exact ⟨gg29, v42, xs28, rfl, rfl, rfl, rfl, rfl, hds, hlegg22, hrelxs28, (hs.sub (.cons _ (.cons _ (.cons _ (.cons_cons _ .slnil)))))⟩
          · refine WP_false rfl hc9 ?_
            refine WP_exit ?_
            obtain rfl := Option.some.inj hM
            refine fun hr => ?_
            have hM := congrArg some hr
            obtain rfl := Option.some.inj hM
            exact ⟨gg22, v31, xs21, rfl, hds, hlegg22, hrelxs21, hs⟩
        · clear hs
          rintro E w ⟨gg17, v24, xs15, hE4, hds, hlegg17, hrelxs15, hs⟩
          have hM := hKhx1
          obtain ⟨E, rfl⟩ := open1 (E := E) hE4
          replace hG0 := hG0.mono hlegg17
          refine WP_seq ?_
          refine WP_region ?_
          refine O (r_move (v := v24) rfl) rfl ?_
          have hsL8 := hs
          have hG0L8 := hG0
          have hrelxs15L8 := hrelxs15
          obtain ⟨gg30, hlegg30, hRgg30, hs⟩ := hs.relRow (i := 0) rfl hrelxs15
          replace hG0 := hG0.mono hlegg30
          obtain ⟨rv10, hrv10, hM⟩ := bindS hM
          refine C [v24, encS []] cf40 rfl (strings_Join_ok hrv10 hs.imm hRgg30) rfl ?_
          rintro v43 wv41 ⟨gg31, hvv43, hegg31⟩
          obtain ⟨gg32, hlegg32, hs⟩ := hsL8.lent hegg31
          replace hG0 := hG0L8.mono hlegg32
          replace hrelxs15 := hrelxs15L8.mono hlegg32
          obtain ⟨cs41, rfl, hcs41⟩ := hvv43
          have hcs41 : cs41 = _ := hcs41; subst hcs41
          refine O (r_assign (v := encS rv10) rfl) rfl ?_
          refine OW_nil ?_
          refine WP_ret ?_
          obtain rfl := Option.some.inj hM
          refine FL_nil hds ?_
          exact ⟨_, res1 Tryd.results21 (rv_tmp (v := encS rv10) rfl), gg32, ⟨[encS rv10], rfl, rfl⟩, hs.ext⟩
      · refine WP_false rfl hc3 ?_
        refine WP_seq ?_
        refine WP_region ?_
        refine O (r_eql rfl rfl) rfl ?_
        refine O (r_assign (v := Value.bool (rv1.Kind == 5)) rfl) rfl ?_
        refine OW_nil ?_
        rcases condS hM with ⟨hc10, hM⟩ | ⟨hc10, hM⟩
        · refine WP_true rfl hc10 ?_
          obtain ⟨xv20, hx2, hKhx2⟩ := bindS hM
          refine WP_cut (fun E w => ∃ (gg45 : Hp) (v62 : Value) (xs42 : List Value), E 4 = v62 ∧ E.ds = [] ∧ Hle g0 gg45 ∧ RowRel tStr gg45 xs42 xv20 ∧ Go.Lx.Sep g0 w0 gg45 w [.row v62 9 tStr.sz xv20.length xs42]) ?_ ?_
          · have hM := hx2
            have hag0 := Hle.refl g0
            refine WP_seq ?_
            refine WP_region ?_
            refine O (r_fieldAddr Tryd.underlying27 ti25 rfl rfl (by decide) rfl rfl) rfl ?_
            refine O (r_load (v := v1) ti25 rfl (hs.cell (i := 0) (o := 5) rfl (by simp [rv1.Set.2]))) rfl ?_
            obtain ⟨a4, ca4, hva4⟩ := hRv1.shape
            refine O (r_lenSl (v := v1) Tryd.underlying25 rfl hva4) rfl ?_
            refine O (r_move (v := Value.int .i64 0) rfl) rfl ?_
            refine OW_nil ?_
            refine WP_block ?_
            have hs := hs.nilRow 9 tStr.sz
            refine WP_loop (fun (st9 : (List Str) × Int) E w => match st9 with | (xv23, xv24) => ∃ (gg50 : Hp) (v69 : Value) (xs48 : List Value), E 3 = Value.func (.func 38) #[] #[] ∧ E 4 = v69 ∧ E 48 = v1 ∧ E 49 = Value.int .i64 (rv1.Kids.length : Int) ∧ E 50 = Value.int .i64 xv24 ∧ E.ds = [] ∧ Hle g0 gg50 ∧ RowRel tStr gg50 xs48 xv23 ∧ Go.Lx.Sep g0 w0 gg50 w [.row v69 9 tStr.sz xv23.length xs48]) hM ⟨g0, (Value.slice none 0 0), [], rfl, rfl, rfl, rfl, rfl, hds, (Hle.refl _), RowRel.nil, (hs.sub (.cons_cons _ (.cons _ .slnil)))⟩ ?_
            clear hs hM
            rintro ⟨xv23, xv24⟩ o4 E w hM ⟨gg50, v69, xs48, hE3, hE4, hE48, hE49, hE50, hds, hlegg50, hrelxs48, hs⟩
            obtain ⟨E, rfl⟩ := open1 (E := E) hE3
            obtain ⟨E, rfl⟩ := open1 (E := E) hE4
            obtain ⟨E, rfl⟩ := open1 (E := E) hE48
            obtain ⟨E, rfl⟩ := open1 (E := E) hE49
            obtain ⟨E, rfl⟩ := open1 (E := E) hE50
            replace hRv1 := hRv1.mono hlegg50
            replace hG0 := hG0.mono hlegg50
            replace hag0 := hag0.trans hlegg50
            have hagg50 := Hle.refl gg50
            refine WP_seq ?_
            refine WP_region ?_
            refine O (r_lss rfl rfl) rfl ?_
            refine OW_nil ?_
            refine WP_seq ?_
            rcases condS hM with ⟨hc16, hM⟩ | ⟨hc16, hM⟩
            · refine WP_true rfl hc16 ?_
              refine WP_skip ?_
              refine WP_seq ?_
              refine WP_block ?_
              refine WP_seq ?_
              refine WP_region ?_
              obtain ⟨e13, he13, hM⟩ := bindS hM
              obtain ⟨b25, ob25, cb25, hvb25, cs67, hcs67, hcb25⟩ := hRv1.at he13
              obtain ⟨cs68, cs69, cs70, rfl, hcs68, hcs69, hcs70⟩ := tT_Regex_iff.1 hcs67
              have hcs68 : cs68 = _ := hcs68; subst hcs68
              have hcs69 : cs69 = _ := hcs69; subst hcs69
              obtain ⟨v76, rfl, hRv76⟩ := hcs70
              refine O (r_idxSl Tryd.underlying25 ti27 (v := v1) rfl hvb25 rfl (idxL_some he13).1 (idxL_some he13).2.1) rfl ?_
              refine O (r_loadEl (cs := ([Value.int .i64 e13.Kind]) ++ ((e13.Set.1.map (Value.int .u64)) ++ ([v76]))) ti27 rfl (by simp [e13.Set.2]) (.inl rfl) (hcb25 _ hs.imm) (v := Value.agg (List.toArray (α := Value) (([Value.int .i64 e13.Kind]) ++ ((e13.Set.1.map (Value.int .u64)) ++ ([v76]))))) rfl) rfl ?_
              refine OW_alloc ti27 hs (zs := ([Value.int .i64 0]) ++ (((Vec.zero 4).1.map (Value.int .u64)) ++ ([Value.slice none 0 0]))) rfl rfl ?_
              intro b26 wv72 hs
              refine OW_storeAll ti27 hs (i := 0) rfl rfl (v := Value.agg (List.toArray (α := Value) (([Value.int .i64 e13.Kind]) ++ ((e13.Set.1.map (Value.int .u64)) ++ ([v76]))))) rfl (vs := ([Value.int .i64 e13.Kind]) ++ ((e13.Set.1.map (Value.int .u64)) ++ ([v76]))) rfl (one_append (one_cons rfl one_nil) (one_append vec_one (one_cons (by obtain ⟨_, _, h9⟩ := hRv76.shape; rw [h9]; rfl) one_nil))) (by simp [e13.Set.2]) (by simp [e13.Set.2, (Vec.zero 4).2]) ?_
              intro wv73 hs
              refine OW_nil ?_
              refine WP_region ?_
              refine O (r_move (v := v69) rfl) rfl ?_
              refine O (r_move (v := Value.func (.func 38) #[] #[]) rfl) rfl ?_
              refine O (r_loadN (cs := ([Value.int .i64 e13.Kind]) ++ ((e13.Set.1.map (Value.int .u64)) ++ ([v76]))) ti27 rfl (by simp [e13.Set.2]) (hs.cells (i := 0) rfl)) rfl ?_
              refine OW_lit (τ := (tInt .i64)) [Value.int .i64 5] [5] Tryd.underlying56 ti3 (by decide) hs rfl rfl rfl ⟨rfl, trivial⟩ rfl ?_
              intro v77 wv74 xs53 hrelxs53 hs
              have hsL14 := hs
              have hRv1L14 := hRv1
              have hG0L14 := hG0
              have hrelxs48L14 := hrelxs48
              have hRv76L14 := hRv76
              have hrelxs53L14 := hrelxs53
              have hlegg50L14 := hlegg50
              have hagg50L14 := hagg50
              obtain ⟨gg55, hlegg55, hRgg55, hs⟩ := hs.relRow (i := 0) rfl hrelxs53
              replace hRv1 := hRv1.mono hlegg55
              replace hG0 := hG0.mono hlegg55
              replace hrelxs48 := hrelxs48.mono hlegg55
              replace hRv76 := hRv76.mono hlegg55
              replace hlegg50 := hlegg50.trans hlegg55
              replace hagg50 := hagg50.trans hlegg55
              obtain ⟨rv16, hrv16, hM⟩ := bindS hM
              refine CV [Value.agg (List.toArray (α := Value) (([Value.int .i64 e13.Kind]) ++ ((e13.Set.1.map (Value.int .u64)) ++ ([v76])))), v77] [] cf38 rfl rfl (ih_regex_Format_1 hrv16 hs.imm (tT_Regex_iff.2 ⟨[Value.int .i64 e13.Kind], e13.Set.1.map (Value.int .u64), [v76], rfl, rfl, rfl, ⟨_, rfl, hRv76⟩⟩) hRgg55 hG0) rfl ?_
              rintro v78 wv75 ⟨gg56, hvv78, hegg56⟩
              obtain ⟨gg57, hlegg57, hs⟩ := hsL14.lent hegg56
              replace hRv1 := hRv1L14.mono hlegg57
              replace hG0 := hG0L14.mono hlegg57
              replace hrelxs48 := hrelxs48L14.mono hlegg57
              replace hRv76 := hRv76L14.mono hlegg57
              replace hrelxs53 := hrelxs53L14.mono hlegg57
              replace hlegg50 := hlegg50L14.trans hlegg57
              replace hagg50 := hagg50L14.trans hlegg57
              obtain ⟨cs71, rfl, hcs71⟩ := hvv78
              have hcs71 : cs71 = _ := hcs71; subst hcs71
              refine OW_lit (τ := tStr) [encS rv16] [rv16] Tryd.underlying58 ti9 (by decide) hs rfl rfl rfl ⟨rfl, trivial⟩ rfl ?_
              intro v79 wv76 xs54 hrelxs54 hs
              obtain ⟨l8, hl8, hM⟩ := bindS hM
              refine OW_append Tryd.underlying58 ti9 rfl (by decide) (by decide) hs (i := 3) rfl hrelxs48 (v := v69) rfl (u := v79) rfl (hs.rowSrc (i := 0) rfl) hrelxs54 hl8 rfl ?_
              intro v80 wv77 xs55 hrelxs55 hs
              refine O (r_assign (v := v80) rfl) rfl ?_
              refine OW_nil ?_
              refine WP_region ?_
              obtain ⟨t12, ht12, hM⟩ := bindS hM
              refine O (r_addM rfl rfl ht12) rfl ?_
              refine O (r_move (v := Value.int .i64 t12) rfl) rfl ?_
              refine OW_nil ?_
              obtain rfl := Option.some.inj hM
              exact ⟨gg57, v80, xs55, rfl, rfl, rfl, rfl, rfl, hds, hlegg50, hrelxs55, (hs.sub (.cons _ (.cons _ (.cons _ (.cons_cons _ .slnil)))))⟩
            · refine WP_false rfl hc16 ?_
              refine WP_exit ?_
              obtain rfl := Option.some.inj hM
              refine fun hr => ?_
              have hM := congrArg some hr
              obtain rfl := Option.some.inj hM
              exact ⟨gg50, v69, xs48, rfl, hds, hlegg50, hrelxs48, hs⟩
          · clear hs
            rintro E w ⟨gg45, v62, xs42, hE4, hds, hlegg45, hrelxs42, hs⟩
            have hM := hKhx2
            obtain ⟨E, rfl⟩ := open1 (E := E) hE4
            replace hG0 := hG0.mono hlegg45
            refine WP_seq ?_
            refine WP_region ?_
            refine O (r_move (v := v62) rfl) rfl ?_
            have hsL15 := hs
            have hG0L15 := hG0
            have hrelxs42L15 := hrelxs42
            obtain ⟨gg58, hlegg58, hRgg58, hs⟩ := hs.relRow (i := 0) rfl hrelxs42
            replace hG0 := hG0.mono hlegg58
            obtain ⟨rv17, hrv17, hM⟩ := bindS hM
            refine C [v62, encS [124]] cf40 rfl (strings_Join_ok hrv17 hs.imm hRgg58) rfl ?_
            rintro v81 wv78 ⟨gg59, hvv81, hegg59⟩
            obtain ⟨gg60, hlegg60, hs⟩ := hsL15.lent hegg59
            replace hG0 := hG0L15.mono hlegg60
            replace hrelxs42 := hrelxs42L15.mono hlegg60
            obtain ⟨cs72, rfl, hcs72⟩ := hvv81
            have hcs72 : cs72 = _ := hcs72; subst hcs72
            refine O (r_assign (v := encS rv17) rfl) rfl ?_
            refine OW_nil ?_
            refine WP_ret ?_
            obtain rfl := Option.some.inj hM
            refine FL_nil hds ?_
            exact ⟨_, res1 Tryd.results21 (rv_tmp (v := encS rv17) rfl), gg60, ⟨[encS rv17], rfl, rfl⟩, hs.ext⟩
        · refine WP_false rfl hc10 ?_
          refine WP_skip ?_
          refine WP_seq ?_
          refine WP_region ?_
          refine O (r_assign (v := encS [40, 41]) rfl) rfl ?_
          refine OW_nil ?_
          refine WP_ret ?_
          obtain rfl := Option.some.inj hM
          refine FL_nil hds ?_
          exact ⟨_, res1 Tryd.results21 (rv_tmp (v := encS [40, 41]) rfl), g0, ⟨[encS [40, 41]], rfl, rfl⟩, hs.ext⟩
theorem regex_Format_1_zero : C.regex_Format_1 0 := by
  unfold C.regex_Format_1
  intros
  simp_all only [M.regex_Format_1, reduceCtorEq]
theorem regex_Format_zero : C.regex_Format 0 := by
  unfold C.regex_Format
  intros
  simp_all only [M.regex_Format, reduceCtorEq]
theorem regex_Format_1_all : ∀ fl, C.regex_Format_1 fl ∧ C.regex_Format fl := by
  intro fl
  induction fl with
  | zero => exact ⟨regex_Format_1_zero, regex_Format_zero⟩
  | succ fl ih =>
    obtain ⟨ih_regex_Format_1, ih_regex_Format⟩ := ih
    exact ⟨regex_Format_1_step ih_regex_Format, regex_Format_step ih_regex_Format_1⟩
theorem regex_Format_1_ok {fl : Nat} : C.regex_Format_1 fl := (regex_Format_1_all fl).1
theorem regex_Format_ok {fl : Nat} : C.regex_Format fl := (regex_Format_1_all fl).2

set_option maxRecDepth 100000 in
theorem law08_awake_ok {r : Bool} (hM : M.law08_awake = some r) {g0 : Hp} {w0 : World} (hi : Imm g0 w0) (hG0 : GBox 0 (M.deBruijn.1.map (Value.int .u8)) g0) :
    CallsV Tryd.prog 13 #[] w0 (fun v w' => ∃ g', (VRd tBool false g' v r) ∧ Ext g0 w0 g' w') := by
  unfold M.law08_awake at hM
  have hs := Sep.start hi
  refine calls_of_WP (args := []) Tryd.func13 rfl Tryd.ntmps13 rfl ?_
  have hds : (argEnv []).ds = [] := rfl
  refine WP_seq ?_
  refine WP_region ?_
  refine O (r_assign (v := Value.bool false) rfl) rfl ?_
  refine OW_nil ?_
  refine WP_seq ?_
  refine WP_region ?_
  obtain ⟨rv1, hrv1, hM⟩ := bindS hM
  refine C [encS [97, 40, 98, 124, 99, 41, 42]] cf16 rfl (regex_Parse_ok hrv1 hs.imm) rfl ?_
  rintro v1 wv1 ⟨gg1, hvv1, hegg1⟩
  have hlegg1 := hegg1.le hs.imm
  replace hs := hs.call hegg1
  replace hG0 := hG0.mono hlegg1
  obtain ⟨v2, v3, v4, rfl, hvv2, hvv3, hvv4⟩ := hvv1
  obtain ⟨cs1, rfl, hcs1⟩ := hvv4
  have hcs1 : cs1 = _ := hcs1; subst hcs1
  obtain ⟨cs2, rfl, hcs2⟩ := hvv3
  have hcs2 : cs2 = _ := hcs2; subst hcs2
  obtain ⟨cs3, rfl, hcs3⟩ := hvv2
  obtain ⟨cs4, cs5, cs6, rfl, hcs4, hcs5, hcs6⟩ := tT_Regex_iff.1 hcs3
  have hcs4 : cs4 = _ := hcs4; subst hcs4
  have hcs5 : cs5 = _ := hcs5; subst hcs5
  obtain ⟨v5, rfl, hRv5⟩ := hcs6
  refine O (r_move (v := Value.tuple #[Value.agg (List.toArray (α := Value) (([Value.int .i64 rv1.1.Kind]) ++ ((rv1.1.Set.1.map (Value.int .u64)) ++ ([v5])))), Value.int .i64 rv1.2.1, Value.int .i64 rv1.2.2]) rfl) rfl ?_
  refine O (r_extract (vs := [Value.agg (List.toArray (α := Value) (([Value.int .i64 rv1.1.Kind]) ++ ((rv1.1.Set.1.map (Value.int .u64)) ++ ([v5])))), Value.int .i64 rv1.2.1, Value.int .i64 rv1.2.2]) (v := Value.agg (List.toArray (α := Value) (([Value.int .i64 rv1.1.Kind]) ++ ((rv1.1.Set.1.map (Value.int .u64)) ++ ([v5]))))) rfl rfl) rfl ?_
  refine O (r_extract (vs := [Value.agg (List.toArray (α := Value) (([Value.int .i64 rv1.1.Kind]) ++ ((rv1.1.Set.1.map (Value.int .u64)) ++ ([v5])))), Value.int .i64 rv1.2.1, Value.int .i64 rv1.2.2]) (v := Value.int .i64 rv1.2.1) rfl rfl) rfl ?_
  refine O (r_extract (vs := [Value.agg (List.toArray (α := Value) (([Value.int .i64 rv1.1.Kind]) ++ ((rv1.1.Set.1.map (Value.int .u64)) ++ ([v5])))), Value.int .i64 rv1.2.1, Value.int .i64 rv1.2.2]) (v := Value.int .i64 rv1.2.2) rfl rfl) rfl ?_
  refine OW_alloc ti27 hs (zs := ([Value.int .i64 0]) ++ (((Vec.zero 4).1.map (Value.int .u64)) ++ ([Value.slice none 0 0]))) rfl rfl ?_
  intro b1 wv2 hs
  refine OW_storeAll ti27 hs (i := 0) rfl rfl (v := Value.agg (List.toArray (α := Value) (([Value.int .i64 rv1.1.Kind]) ++ ((rv1.1.Set.1.map (Value.int .u64)) ++ ([v5]))))) rfl (vs := ([Value.int .i64 rv1.1.Kind]) ++ ((rv1.1.Set.1.map (Value.int .u64)) ++ ([v5]))) rfl (one_append (one_cons rfl one_nil) (one_append vec_one (one_cons (by obtain ⟨_, _, h9⟩ := hRv5.shape; rw [h9]; rfl) one_nil))) (by simp [rv1.1.Set.2]) (by simp [rv1.1.Set.2, (Vec.zero 4).2]) ?_
  intro wv3 hs
  refine O (r_assign (v := Value.int .i64 rv1.2.1) rfl) rfl ?_
  refine O (r_assign (v := Value.int .i64 rv1.2.2) rfl) rfl ?_
  refine OW_nil ?_
  refine WP_seq ?_
  refine WP_region ?_
  obtain ⟨rv2, hrv2, hM⟩ := bindS hM
  refine C [encS [97, 43]] cf16 rfl (regex_Parse_ok hrv2 hs.imm) rfl ?_
  rintro v6 wv4 ⟨gg2, hvv6, hegg2⟩
  have hlegg2 := hegg2.le hs.imm
  replace hs := hs.call hegg2
  replace hG0 := hG0.mono hlegg2
  replace hRv5 := hRv5.mono hlegg2
  obtain ⟨v7, v8, v9, rfl, hvv7, hvv8, hvv9⟩ := hvv6
  obtain ⟨cs7, rfl, hcs7⟩ := hvv9
  have hcs7 : cs7 = _ := hcs7; subst hcs7
  obtain ⟨cs8, rfl, hcs8⟩ := hvv8
  have hcs8 : cs8 = _ := hcs8; subst hcs8
  obtain ⟨cs9, rfl, hcs9⟩ := hvv7
  obtain ⟨cs10, cs11, cs12, rfl, hcs10, hcs11, hcs12⟩ := tT_Regex_iff.1 hcs9
  have hcs10 : cs10 = _ := hcs10; subst hcs10
  have hcs11 : cs11 = _ := hcs11; subst hcs11
  obtain ⟨v10, rfl, hRv10⟩ := hcs12
  refine O (r_move (v := Value.tuple #[Value.agg (List.toArray (α := Value) (([Value.int .i64 rv2.1.Kind]) ++ ((rv2.1.Set.1.map (Value.int .u64)) ++ ([v10])))), Value.int .i64 rv2.2.1, Value.int .i64 rv2.2.2]) rfl) rfl ?_
  refine O (r_extract (vs := [Value.agg (List.toArray (α := Value) (([Value.int .i64 rv2.1.Kind]) ++ ((rv2.1.Set.1.map (Value.int .u64)) ++ ([v10])))), Value.int .i64 rv2.2.1, Value.int .i64 rv2.2.2]) (v := Value.agg (List.toArray (α := Value) (([Value.int .i64 rv2.1.Kind]) ++ ((rv2.1.Set.1.map (Value.int .u64)) ++ ([v10]))))) rfl rfl) rfl ?_
  refine O (r_extract (vs := [Value.agg (List.toArray (α := Value) (([Value.int .i64 rv2.1.Kind]) ++ ((rv2.1.Set.1.map (Value.int .u64)) ++ ([v10])))), Value.int .i64 rv2.2.1, Value.int .i64 rv2.2.2]) (v := Value.int .i64 rv2.2.1) rfl rfl) rfl ?_
  refine O (r_extract (vs := [Value.agg (List.toArray (α := Value) (([Value.int .i64 rv2.1.Kind]) ++ ((rv2.1.Set.1.map (Value.int .u64)) ++ ([v10])))), Value.int .i64 rv2.2.1, Value.int .i64 rv2.2.2]) (v := Value.int .i64 rv2.2.2) rfl rfl) rfl ?_
  refine OW_alloc ti27 hs (zs := ([Value.int .i64 0]) ++ (((Vec.zero 4).1.map (Value.int .u64)) ++ ([Value.slice none 0 0]))) rfl rfl ?_
  intro b2 wv5 hs
  refine OW_storeAll ti27 hs (i := 0) rfl rfl (v := Value.agg (List.toArray (α := Value) (([Value.int .i64 rv2.1.Kind]) ++ ((rv2.1.Set.1.map (Value.int .u64)) ++ ([v10]))))) rfl (vs := ([Value.int .i64 rv2.1.Kind]) ++ ((rv2.1.Set.1.map (Value.int .u64)) ++ ([v10]))) rfl (one_append (one_cons rfl one_nil) (one_append vec_one (one_cons (by obtain ⟨_, _, h9⟩ := hRv10.shape; rw [h9]; rfl) one_nil))) (by simp [rv2.1.Set.2]) (by simp [rv2.1.Set.2, (Vec.zero 4).2]) ?_
  intro wv6 hs
  refine O (r_assign (v := Value.int .i64 rv2.2.1) rfl) rfl ?_
  refine O (r_assign (v := Value.int .i64 rv2.2.2) rfl) rfl ?_
  refine OW_nil ?_
  refine WP_seq ?_
  refine WP_region ?_
  obtain ⟨rv3, hrv3, hM⟩ := bindS hM
  refine C [encS [91, 97, 45, 99, 120, 93, 63]] cf16 rfl (regex_Parse_ok hrv3 hs.imm) rfl ?_
  rintro v11 wv7 ⟨gg3, hvv11, hegg3⟩
  have hlegg3 := hegg3.le hs.imm
  replace hs := hs.call hegg3
  replace hG0 := hG0.mono hlegg3
  replace hRv5 := hRv5.mono hlegg3
  replace hRv10 := hRv10.mono hlegg3
  obtain ⟨v12, v13, v14, rfl, hvv12, hvv13, hvv14⟩ := hvv11
  obtain ⟨cs13, rfl, hcs13⟩ := hvv14
  have hcs13 : cs13 = _ := hcs13; subst hcs13
  obtain ⟨cs14, rfl, hcs14⟩ := hvv13
  have hcs14 : cs14 = _ := hcs14; subst hcs14
  obtain ⟨cs15, rfl, hcs15⟩ := hvv12
  obtain ⟨cs16, cs17, cs18, rfl, hcs16, hcs17, hcs18⟩ := tT_Regex_iff.1 hcs15
  have hcs16 : cs16 = _ := hcs16; subst hcs16
  have hcs17 : cs17 = _ := hcs17; subst hcs17
  obtain ⟨v15, rfl, hRv15⟩ := hcs18
  refine O (r_move (v := Value.tuple #[Value.agg (List.toArray (α := Value) (([Value.int .i64 rv3.1.Kind]) ++ ((rv3.1.Set.1.map (Value.int .u64)) ++ ([v15])))), Value.int .i64 rv3.2.1, Value.int .i64 rv3.2.2]) rfl) rfl ?_
  refine O (r_extract (vs := [Value.agg (List.toArray (α := Value) (([Value.int .i64 rv3.1.Kind]) ++ ((rv3.1.Set.1.map (Value.int .u64)) ++ ([v15])))), Value.int .i64 rv3.2.1, Value.int .i64 rv3.2.2]) (v := Value.agg (List.toArray (α := Value) (([Value.int .i64 rv3.1.Kind]) ++ ((rv3.1.Set.1.map (Value.int .u64)) ++ ([v15]))))) rfl rfl) rfl ?_
  refine O (r_extract (vs := [Value.agg (List.toArray (α := Value) (([Value.int .i64 rv3.1.Kind]) ++ ((rv3.1.Set.1.map (Value.int .u64)) ++ ([v15])))), Value.int .i64 rv3.2.1, Value.int .i64 rv3.2.2]) (v := Value.int .i64 rv3.2.1) rfl rfl) rfl ?_
  refine O (r_extract (vs := [Value.agg (List.toArray (α := Value) (([Value.int .i64 rv3.1.Kind]) ++ ((rv3.1.Set.1.map (Value.int .u64)) ++ ([v15])))), Value.int .i64 rv3.2.1, Value.int .i64 rv3.2.2]) (v := Value.int .i64 rv3.2.2) rfl rfl) rfl ?_
  refine OW_alloc ti27 hs (zs := ([Value.int .i64 0]) ++ (((Vec.zero 4).1.map (Value.int .u64)) ++ ([Value.slice none 0 0]))) rfl rfl ?_
  intro b3 wv8 hs
  refine OW_storeAll ti27 hs (i := 0) rfl rfl (v := Value.agg (List.toArray (α := Value) (([Value.int .i64 rv3.1.Kind]) ++ ((rv3.1.Set.1.map (Value.int .u64)) ++ ([v15]))))) rfl (vs := ([Value.int .i64 rv3.1.Kind]) ++ ((rv3.1.Set.1.map (Value.int .u64)) ++ ([v15]))) rfl (one_append (one_cons rfl one_nil) (one_append vec_one (one_cons (by obtain ⟨_, _, h9⟩ := hRv15.shape; rw [h9]; rfl) one_nil))) (by simp [rv3.1.Set.2]) (by simp [rv3.1.Set.2, (Vec.zero 4).2]) ?_
  intro wv9 hs
  refine O (r_assign (v := Value.int .i64 rv3.2.1) rfl) rfl ?_
  refine O (r_assign (v := Value.int .i64 rv3.2.2) rfl) rfl ?_
  refine OW_nil ?_
  refine WP_seq ?_
  refine WP_region ?_
  obtain ⟨rv4, hrv4, hM⟩ := bindS hM
  refine C [encS [97, 41]] cf16 rfl (regex_Parse_ok hrv4 hs.imm) rfl ?_
  rintro v16 wv10 ⟨gg4, hvv16, hegg4⟩
  have hlegg4 := hegg4.le hs.imm
  replace hs := hs.call hegg4
  replace hG0 := hG0.mono hlegg4
  replace hRv5 := hRv5.mono hlegg4
  replace hRv10 := hRv10.mono hlegg4
  replace hRv15 := hRv15.mono hlegg4
  obtain ⟨v17, v18, v19, rfl, hvv17, hvv18, hvv19⟩ := hvv16
  obtain ⟨cs19, rfl, hcs19⟩ := hvv19
  have hcs19 : cs19 = _ := hcs19; subst hcs19
  obtain ⟨cs20, rfl, hcs20⟩ := hvv18
  have hcs20 : cs20 = _ := hcs20; subst hcs20
  obtain ⟨cs21, rfl, hcs21⟩ := hvv17
  obtain ⟨cs22, cs23, cs24, rfl, hcs22, hcs23, hcs24⟩ := tT_Regex_iff.1 hcs21
  have hcs22 : cs22 = _ := hcs22; subst hcs22
  have hcs23 : cs23 = _ := hcs23; subst hcs23
  obtain ⟨v20, rfl, hRv20⟩ := hcs24
  refine O (r_move (v := Value.tuple #[Value.agg (List.toArray (α := Value) (([Value.int .i64 rv4.1.Kind]) ++ ((rv4.1.Set.1.map (Value.int .u64)) ++ ([v20])))), Value.int .i64 rv4.2.1, Value.int .i64 rv4.2.2]) rfl) rfl ?_
  refine O (r_extract (vs := [Value.agg (List.toArray (α := Value) (([Value.int .i64 rv4.1.Kind]) ++ ((rv4.1.Set.1.map (Value.int .u64)) ++ ([v20])))), Value.int .i64 rv4.2.1, Value.int .i64 rv4.2.2]) (v := Value.agg (List.toArray (α := Value) (([Value.int .i64 rv4.1.Kind]) ++ ((rv4.1.Set.1.map (Value.int .u64)) ++ ([v20]))))) rfl rfl) rfl ?_
  refine O (r_extract (vs := [Value.agg (List.toArray (α := Value) (([Value.int .i64 rv4.1.Kind]) ++ ((rv4.1.Set.1.map (Value.int .u64)) ++ ([v20])))), Value.int .i64 rv4.2.1, Value.int .i64 rv4.2.2]) (v := Value.int .i64 rv4.2.1) rfl rfl) rfl ?_
  refine O (r_extract (vs := [Value.agg (List.toArray (α := Value) (([Value.int .i64 rv4.1.Kind]) ++ ((rv4.1.Set.1.map (Value.int .u64)) ++ ([v20])))), Value.int .i64 rv4.2.1, Value.int .i64 rv4.2.2]) (v := Value.int .i64 rv4.2.2) rfl rfl) rfl ?_
  refine OW_alloc ti27 hs (zs := ([Value.int .i64 0]) ++ (((Vec.zero 4).1.map (Value.int .u64)) ++ ([Value.slice none 0 0]))) rfl rfl ?_
  intro b4 wv11 hs
  refine OW_storeAll ti27 hs (i := 0) rfl rfl (v := Value.agg (List.toArray (α := Value) (([Value.int .i64 rv4.1.Kind]) ++ ((rv4.1.Set.1.map (Value.int .u64)) ++ ([v20]))))) rfl (vs := ([Value.int .i64 rv4.1.Kind]) ++ ((rv4.1.Set.1.map (Value.int .u64)) ++ ([v20]))) rfl (one_append (one_cons rfl one_nil) (one_append vec_one (one_cons (by obtain ⟨_, _, h9⟩ := hRv20.shape; rw [h9]; rfl) one_nil))) (by simp [rv4.1.Set.2]) (by simp [rv4.1.Set.2, (Vec.zero 4).2]) ?_
  intro wv12 hs
  refine O (r_assign (v := Value.int .i64 rv4.2.1) rfl) rfl ?_
  refine O (r_assign (v := Value.int .i64 rv4.2.2) rfl) rfl ?_
  refine OW_nil ?_
  refine WP_seq ?_
  refine WP_region ?_
  obtain ⟨rv5, hrv5, hM⟩ := bindS hM
  refine C [encS [91, 97]] cf16 rfl (regex_Parse_ok hrv5 hs.imm) rfl ?_
  rintro v21 wv13 ⟨gg5, hvv21, hegg5⟩
  have hlegg5 := hegg5.le hs.imm
  replace hs := hs.call hegg5
  replace hG0 := hG0.mono hlegg5
  replace hRv5 := hRv5.mono hlegg5
  replace hRv10 := hRv10.mono hlegg5
  replace hRv15 := hRv15.mono hlegg5
  replace hRv20 := hRv20.mono hlegg5
  obtain ⟨v22, v23, v24, rfl, hvv22, hvv23, hvv24⟩ := hvv21
  obtain ⟨cs25, rfl, hcs25⟩ := hvv24
  have hcs25 : cs25 = _ := hcs25; subst hcs25
  obtain ⟨cs26, rfl, hcs26⟩ := hvv23
  have hcs26 : cs26 = _ := hcs26; subst hcs26
  obtain ⟨cs27, rfl, hcs27⟩ := hvv22
  obtain ⟨cs28, cs29, cs30, rfl, hcs28, hcs29, hcs30⟩ := tT_Regex_iff.1 hcs27
  have hcs28 : cs28 = _ := hcs28; subst hcs28
  have hcs29 : cs29 = _ := hcs29; subst hcs29
  obtain ⟨v25, rfl, hRv25⟩ := hcs30
  refine O (r_move (v := Value.tuple #[Value.agg (List.toArray (α := Value) (([Value.int .i64 rv5.1.Kind]) ++ ((rv5.1.Set.1.map (Value.int .u64)) ++ ([v25])))), Value.int .i64 rv5.2.1, Value.int .i64 rv5.2.2]) rfl) rfl ?_
  refine O (r_extract (vs := [Value.agg (List.toArray (α := Value) (([Value.int .i64 rv5.1.Kind]) ++ ((rv5.1.Set.1.map (Value.int .u64)) ++ ([v25])))), Value.int .i64 rv5.2.1, Value.int .i64 rv5.2.2]) (v := Value.agg (List.toArray (α := Value) (([Value.int .i64 rv5.1.Kind]) ++ ((rv5.1.Set.1.map (Value.int .u64)) ++ ([v25]))))) rfl rfl) rfl ?_
  refine O (r_extract (vs := [Value.agg (List.toArray (α := Value) (([Value.int .i64 rv5.1.Kind]) ++ ((rv5.1.Set.1.map (Value.int .u64)) ++ ([v25])))), Value.int .i64 rv5.2.1, Value.int .i64 rv5.2.2]) (v := Value.int .i64 rv5.2.1) rfl rfl) rfl ?_
  refine O (r_extract (vs := [Value.agg (List.toArray (α := Value) (([Value.int .i64 rv5.1.Kind]) ++ ((rv5.1.Set.1.map (Value.int .u64)) ++ ([v25])))), Value.int .i64 rv5.2.1, Value.int .i64 rv5.2.2]) (v := Value.int .i64 rv5.2.2) rfl rfl) rfl ?_
  refine OW_alloc ti27 hs (zs := ([Value.int .i64 0]) ++ (((Vec.zero 4).1.map (Value.int .u64)) ++ ([Value.slice none 0 0]))) rfl rfl ?_
  intro b5 wv14 hs
  refine OW_storeAll ti27 hs (i := 0) rfl rfl (v := Value.agg (List.toArray (α := Value) (([Value.int .i64 rv5.1.Kind]) ++ ((rv5.1.Set.1.map (Value.int .u64)) ++ ([v25]))))) rfl (vs := ([Value.int .i64 rv5.1.Kind]) ++ ((rv5.1.Set.1.map (Value.int .u64)) ++ ([v25]))) rfl (one_append (one_cons rfl one_nil) (one_append vec_one (one_cons (by obtain ⟨_, _, h9⟩ := hRv25.shape; rw [h9]; rfl) one_nil))) (by simp [rv5.1.Set.2]) (by simp [rv5.1.Set.2, (Vec.zero 4).2]) ?_
  intro wv15 hs
  refine O (r_assign (v := Value.int .i64 rv5.2.1) rfl) rfl ?_
  refine O (r_assign (v := Value.int .i64 rv5.2.2) rfl) rfl ?_
  refine OW_nil ?_
  refine WP_seq ?_
  obtain ⟨xv1, hx1, hKhx1⟩ := bindS hM
  refine WP_cut (fun E w => E 1 = Value.pointer (some ⟨b1, 0, none⟩) ∧ E 4 = Value.pointer (some ⟨b2, 0, none⟩) ∧ E 7 = Value.pointer (some ⟨b3, 0, none⟩) ∧ E 66 = Value.bool xv1 ∧ E.ds = [] ∧ Go.Lx.Sep g0 w0 gg5 w [Go.Lx.box b3 27 (([Value.int .i64 rv3.1.Kind]) ++ ((rv3.1.Set.1.map (Value.int .u64)) ++ ([v15]))), Go.Lx.box b2 27 (([Value.int .i64 rv2.1.Kind]) ++ ((rv2.1.Set.1.map (Value.int .u64)) ++ ([v10]))), Go.Lx.box b1 27 (([Value.int .i64 rv1.1.Kind]) ++ ((rv1.1.Set.1.map (Value.int .u64)) ++ ([v5])))]) ?_ ?_
  · have hM := hx1
    have hagg5 := Hle.refl gg5
    refine WP_region ?_
    refine O (r_move (v := Value.int .i64 rv1.2.2) rfl) rfl ?_
    refine O (r_neq rfl rfl) rfl ?_
    refine O (r_move (v := Value.bool (rv1.2.2 != 0)) rfl) rfl ?_
    rcases condS hM with ⟨hg7, hM⟩ | ⟨hg7, hM⟩
    · refine OK rfl rfl rfl (by rw [hg7]; rfl) rfl ?_
      refine OK rfl rfl rfl (by rw [hg7]; rfl) rfl ?_
      refine O (r_pickT (v := Value.bool true) rfl hg7 rfl) rfl ?_
      refine O (r_move (v := Value.bool true) rfl) rfl ?_
      refine OK rfl rfl rfl rfl rfl ?_
      refine OK rfl rfl rfl rfl rfl ?_
      refine O (r_pickT (v := Value.bool true) rfl rfl rfl) rfl ?_
      refine O (r_move (v := Value.bool true) rfl) rfl ?_
      refine OK rfl rfl rfl rfl rfl ?_
      refine OK rfl rfl rfl rfl rfl ?_
      refine O (r_pickT (v := Value.bool true) rfl rfl rfl) rfl ?_
      refine O (r_move (v := Value.bool true) rfl) rfl ?_
      refine OK rfl rfl rfl rfl rfl ?_
      refine OK rfl rfl rfl rfl rfl ?_
      refine O (r_pickT (v := Value.bool true) rfl rfl rfl) rfl ?_
      refine O (r_move (v := Value.bool true) rfl) rfl ?_
      refine OK rfl rfl rfl rfl rfl ?_
      refine OK rfl rfl rfl rfl rfl ?_
      refine O (r_pickT (v := Value.bool true) rfl rfl rfl) rfl ?_
      refine O (r_move (v := Value.bool true) rfl) rfl ?_
      refine OK rfl rfl rfl rfl rfl ?_
      refine OK rfl rfl rfl rfl rfl ?_
      refine O (r_pickT (v := Value.bool true) rfl rfl rfl) rfl ?_
      refine OW_nil ?_
      obtain rfl := Option.some.inj hM
      exact ⟨rfl, rfl, rfl, rfl, hds, (hs.sub (.cons _ (.cons _ (.cons_cons _ (.cons_cons _ (.cons_cons _ .slnil))))))⟩
    · refine OG rfl rfl rfl (by rw [hg7]; rfl) (r_move (v := Value.int .i64 rv2.2.2) rfl) rfl ?_
      refine OG rfl rfl rfl (by rw [hg7]; rfl) (r_neq rfl rfl) rfl ?_
      refine O (r_pickF (v := Value.bool (rv2.2.2 != 0)) rfl hg7 rfl) rfl ?_
      refine O (r_move (v := Value.bool (rv2.2.2 != 0)) rfl) rfl ?_
      rcases condS hM with ⟨hg8, hM⟩ | ⟨hg8, hM⟩
      · refine OK rfl rfl rfl (by rw [hg8]; rfl) rfl ?_
        refine OK rfl rfl rfl (by rw [hg8]; rfl) rfl ?_
        refine O (r_pickT (v := Value.bool true) rfl hg8 rfl) rfl ?_
        refine O (r_move (v := Value.bool true) rfl) rfl ?_
        refine OK rfl rfl rfl rfl rfl ?_
        refine OK rfl rfl rfl rfl rfl ?_
        refine O (r_pickT (v := Value.bool true) rfl rfl rfl) rfl ?_
        refine O (r_move (v := Value.bool true) rfl) rfl ?_
        refine OK rfl rfl rfl rfl rfl ?_
        refine OK rfl rfl rfl rfl rfl ?_
        refine O (r_pickT (v := Value.bool true) rfl rfl rfl) rfl ?_
        refine O (r_move (v := Value.bool true) rfl) rfl ?_
        refine OK rfl rfl rfl rfl rfl ?_
        refine OK rfl rfl rfl rfl rfl ?_
        refine O (r_pickT (v := Value.bool true) rfl rfl rfl) rfl ?_
        refine O (r_move (v := Value.bool true) rfl) rfl ?_
        refine OK rfl rfl rfl rfl rfl ?_
        refine OK rfl rfl rfl rfl rfl ?_
        refine O (r_pickT (v := Value.bool true) rfl rfl rfl) rfl ?_
        refine OW_nil ?_
        obtain rfl := Option.some.inj hM
        exact ⟨rfl, rfl, rfl, rfl, hds, (hs.sub (.cons _ (.cons _ (.cons_cons _ (.cons_cons _ (.cons_cons _ .slnil))))))⟩
      · refine OG rfl rfl rfl (by rw [hg8]; rfl) (r_move (v := Value.int .i64 rv3.2.2) rfl) rfl ?_
        refine OG rfl rfl rfl (by rw [hg8]; rfl) (r_neq rfl rfl) rfl ?_
        refine O (r_pickF (v := Value.bool (rv3.2.2 != 0)) rfl hg8 rfl) rfl ?_
        refine O (r_move (v := Value.bool (rv3.2.2 != 0)) rfl) rfl ?_
        rcases condS hM with ⟨hg9, hM⟩ | ⟨hg9, hM⟩
        · refine OK rfl rfl rfl (by rw [hg9]; rfl) rfl ?_
          refine OK rfl rfl rfl (by rw [hg9]; rfl) rfl ?_
          refine O (r_pickT (v := Value.bool true) rfl hg9 rfl) rfl ?_
          refine O (r_move (v := Value.bool true) rfl) rfl ?_
          refine OK rfl rfl rfl rfl rfl ?_
          refine OK rfl rfl rfl rfl rfl ?_
          refine O (r_pickT (v := Value.bool true) rfl rfl rfl) rfl ?_
          refine O (r_move (v := Value.bool true) rfl) rfl ?_
          refine OK rfl rfl rfl rfl rfl ?_
          refine OK rfl rfl rfl rfl rfl ?_
          refine O (r_pickT (v := Value.bool true) rfl rfl rfl) rfl ?_
          refine O (r_move (v := Value.bool true) rfl) rfl ?_
          refine OK rfl rfl rfl rfl rfl ?_
          refine OK rfl rfl rfl rfl rfl ?_
          refine O (r_pickT (v := Value.bool true) rfl rfl rfl) rfl ?_
          refine OW_nil ?_
          obtain rfl := Option.some.inj hM
          exact ⟨rfl, rfl, rfl, rfl, hds, (hs.sub (.cons _ (.cons _ (.cons_cons _ (.cons_cons _ (.cons_cons _ .slnil))))))⟩
        · refine OG rfl rfl rfl (by rw [hg9]; rfl) (r_move (v := Value.int .i64 rv4.2.2) rfl) rfl ?_
          refine OG rfl rfl rfl (by rw [hg9]; rfl) (r_neq rfl rfl) rfl ?_
          refine O (r_pickF (v := Value.bool (rv4.2.2 != 3)) rfl hg9 rfl) rfl ?_
          refine O (r_move (v := Value.bool (rv4.2.2 != 3)) rfl) rfl ?_
          rcases condS hM with ⟨hg10, hM⟩ | ⟨hg10, hM⟩
          · refine OK rfl rfl rfl (by rw [hg10]; rfl) rfl ?_
            refine OK rfl rfl rfl (by rw [hg10]; rfl) rfl ?_
            refine O (r_pickT (v := Value.bool true) rfl hg10 rfl) rfl ?_
            refine O (r_move (v := Value.bool true) rfl) rfl ?_
            refine OK rfl rfl rfl rfl rfl ?_
            refine OK rfl rfl rfl rfl rfl ?_
            refine O (r_pickT (v := Value.bool true) rfl rfl rfl) rfl ?_
            refine O (r_move (v := Value.bool true) rfl) rfl ?_
            refine OK rfl rfl rfl rfl rfl ?_
            refine OK rfl rfl rfl rfl rfl ?_
            refine O (r_pickT (v := Value.bool true) rfl rfl rfl) rfl ?_
            refine OW_nil ?_
            obtain rfl := Option.some.inj hM
            exact ⟨rfl, rfl, rfl, rfl, hds, (hs.sub (.cons _ (.cons _ (.cons_cons _ (.cons_cons _ (.cons_cons _ .slnil))))))⟩
          · refine OG rfl rfl rfl (by rw [hg10]; rfl) (r_move (v := Value.int .i64 rv4.2.1) rfl) rfl ?_
            refine OG rfl rfl rfl (by rw [hg10]; rfl) (r_neq rfl rfl) rfl ?_
            refine O (r_pickF (v := Value.bool (rv4.2.1 != 1)) rfl hg10 rfl) rfl ?_
            refine O (r_move (v := Value.bool (rv4.2.1 != 1)) rfl) rfl ?_
            rcases condS hM with ⟨hg11, hM⟩ | ⟨hg11, hM⟩
            · refine OK rfl rfl rfl (by rw [hg11]; rfl) rfl ?_
              refine OK rfl rfl rfl (by rw [hg11]; rfl) rfl ?_
              refine O (r_pickT (v := Value.bool true) rfl hg11 rfl) rfl ?_
              refine O (r_move (v := Value.bool true) rfl) rfl ?_
              refine OK rfl rfl rfl rfl rfl ?_
              refine OK rfl rfl rfl rfl rfl ?_
              refine O (r_pickT (v := Value.bool true) rfl rfl rfl) rfl ?_
              refine OW_nil ?_
              obtain rfl := Option.some.inj hM
              exact ⟨rfl, rfl, rfl, rfl, hds, (hs.sub (.cons _ (.cons _ (.cons_cons _ (.cons_cons _ (.cons_cons _ .slnil))))))⟩
            · refine OG rfl rfl rfl (by rw [hg11]; rfl) (r_move (v := Value.int .i64 rv5.2.2) rfl) rfl ?_
              refine OG rfl rfl rfl (by rw [hg11]; rfl) (r_neq rfl rfl) rfl ?_
              refine O (r_pickF (v := Value.bool (rv5.2.2 != 3)) rfl hg11 rfl) rfl ?_
              refine O (r_move (v := Value.bool (rv5.2.2 != 3)) rfl) rfl ?_
              rcases condS hM with ⟨hg12, hM⟩ | ⟨hg12, hM⟩
              · refine OK rfl rfl rfl (by rw [hg12]; rfl) rfl ?_
                refine OK rfl rfl rfl (by rw [hg12]; rfl) rfl ?_
                refine O (r_pickT (v := Value.bool true) rfl hg12 rfl) rfl ?_
                refine OW_nil ?_
                obtain rfl := Option.some.inj hM
                exact ⟨rfl, rfl, rfl, rfl, hds, (hs.sub (.cons _ (.cons _ (.cons_cons _ (.cons_cons _ (.cons_cons _ .slnil))))))⟩
              · refine OG rfl rfl rfl (by rw [hg12]; rfl) (r_move (v := Value.int .i64 rv5.2.1) rfl) rfl ?_
                refine OG rfl rfl rfl (by rw [hg12]; rfl) (r_neq rfl rfl) rfl ?_
                refine O (r_pickF (v := Value.bool (rv5.2.1 != 2)) rfl hg12 rfl) rfl ?_
                refine OW_nil ?_
                obtain rfl := Option.some.inj hM
                exact ⟨rfl, rfl, rfl, rfl, hds, (hs.sub (.cons _ (.cons _ (.cons_cons _ (.cons_cons _ (.cons_cons _ .slnil))))))⟩
  · clear hs
    rintro E w ⟨hE1, hE4, hE7, hE66, hds, hs⟩
    have hM := hKhx1
    obtain ⟨E, rfl⟩ := open1 (E := E) hE1
    obtain ⟨E, rfl⟩ := open1 (E := E) hE4
    obtain ⟨E, rfl⟩ := open1 (E := E) hE7
    obtain ⟨E, rfl⟩ := open1 (E := E) hE66
    rcases condS hM with ⟨hc1, hM⟩ | ⟨hc1, hM⟩
    · refine WP_true rfl hc1 ?_
      refine WP_seq ?_
      refine WP_region ?_
      refine O (r_assign (v := Value.bool false) rfl) rfl ?_
      refine OW_nil ?_
      refine WP_ret ?_
      obtain rfl := Option.some.inj hM
      refine FL_nil hds ?_
      exact ⟨_, res1 Tryd.results13 (rv_tmp (v := Value.bool false) rfl), gg5, ⟨[Value.bool false], rfl, rfl⟩, hs.ext⟩
    · refine WP_false rfl hc1 ?_
      refine WP_skip ?_
      obtain ⟨xv2, hx2, hKhx2⟩ := bindS hM
      refine WP_cut (fun E w => ∃ (gg16 : Hp), E 0 = Value.bool xv2 ∧ E.ds = [] ∧ Hle gg5 gg16 ∧ Go.Lx.Sep g0 w0 gg16 w []) ?_ ?_
      · have hM := hx2
        have hagg5 := Hle.refl gg5
        refine WP_region ?_
        refine O (r_fieldAddr Tryd.underlying27 ti3 rfl rfl (by decide) rfl rfl) rfl ?_
        refine O (r_load (v := Value.int .i64 rv1.1.Kind) ti3 rfl (hs.cell (i := 2) (o := 0) rfl (by simp [rv1.1.Set.2]))) rfl ?_
        refine O (r_eql rfl rfl) rfl ?_
        refine O (r_move (v := Value.bool (rv1.1.Kind == 4)) rfl) rfl ?_
        rcases condS hM with ⟨hg22, hM⟩ | ⟨hg22, hM⟩
        · refine OG rfl rfl rfl (by rw [hg22]; rfl) (r_fieldAddr Tryd.underlying27 ti25 rfl rfl (by decide) rfl rfl) rfl ?_
          refine OG rfl rfl rfl (by rw [hg22]; rfl) (r_load (v := v5) ti25 rfl (hs.cell (i := 2) (o := 5) rfl (by simp [rv1.1.Set.2]))) rfl ?_
          obtain ⟨a2, ca2, hva2⟩ := hRv5.shape
          refine OG rfl rfl rfl (by rw [hg22]; rfl) (r_lenSl (v := v5) Tryd.underlying25 rfl hva2) rfl ?_
          refine OG rfl rfl rfl (by rw [hg22]; rfl) (r_eql rfl rfl) rfl ?_
          refine O (r_pickT (v := Value.bool ((rv1.1.Kids.length : Int) == 2)) rfl hg22 rfl) rfl ?_
          refine O (r_move (v := Value.bool ((rv1.1.Kids.length : Int) == 2)) rfl) rfl ?_
          rcases condS hM with ⟨hg23, hM⟩ | ⟨hg23, hM⟩
          · refine OG rfl rfl rfl (by rw [hg23]; rfl) (r_loadN (cs := ([Value.int .i64 rv1.1.Kind]) ++ ((rv1.1.Set.1.map (Value.int .u64)) ++ ([v5]))) ti27 rfl (by simp [rv1.1.Set.2]) (hs.cells (i := 2) rfl)) rfl ?_
            obtain ⟨rv16, hrv16, hM⟩ := bindS hM
            refine CG rfl rfl rfl (by rw [hg23]; rfl) [Value.agg (List.toArray (α := Value) (([Value.int .i64 rv1.1.Kind]) ++ ((rv1.1.Set.1.map (Value.int .u64)) ++ ([v5])))), encS [97, 98, 99, 98]] cf23 rfl (regex_Match_ok hrv16 hs.imm (tT_Regex_iff.2 ⟨[Value.int .i64 rv1.1.Kind], rv1.1.Set.1.map (Value.int .u64), [v5], rfl, rfl, rfl, ⟨_, rfl, hRv5⟩⟩)) rfl ?_
            rintro v38 wv26 ⟨gg17, hvv38, hegg17⟩
            have hlegg17 := hegg17.le hs.imm
            replace hs := hs.call hegg17
            replace hRv5 := hRv5.mono hlegg17
            replace hRv10 := hRv10.mono hlegg17
            replace hRv15 := hRv15.mono hlegg17
            replace hG0 := hG0.mono hlegg17
            replace hagg5 := hagg5.trans hlegg17
            obtain ⟨cs47, rfl, hcs47⟩ := hvv38
            have hcs47 : cs47 = _ := hcs47; subst hcs47
            refine O (r_pickT (v := Value.bool rv16) rfl hg23 rfl) rfl ?_
            refine O (r_move (v := Value.bool rv16) rfl) rfl ?_
            rcases condS hM with ⟨hg24, hM⟩ | ⟨hg24, hM⟩
            · refine OG rfl rfl rfl (by rw [hg24]; rfl) (r_loadN (cs := ([Value.int .i64 rv1.1.Kind]) ++ ((rv1.1.Set.1.map (Value.int .u64)) ++ ([v5]))) ti27 rfl (by simp [rv1.1.Set.2]) (hs.cells (i := 2) rfl)) rfl ?_
              obtain ⟨rv17, hrv17, hM⟩ := bindS hM
              refine CG rfl rfl rfl (by rw [hg24]; rfl) [Value.agg (List.toArray (α := Value) (([Value.int .i64 rv1.1.Kind]) ++ ((rv1.1.Set.1.map (Value.int .u64)) ++ ([v5])))), encS [98, 97]] cf23 rfl (regex_Match_ok hrv17 hs.imm (tT_Regex_iff.2 ⟨[Value.int .i64 rv1.1.Kind], rv1.1.Set.1.map (Value.int .u64), [v5], rfl, rfl, rfl, ⟨_, rfl, hRv5⟩⟩)) rfl ?_
              rintro v39 wv27 ⟨gg18, hvv39, hegg18⟩
              have hlegg18 := hegg18.le hs.imm
              replace hs := hs.call hegg18
              replace hRv5 := hRv5.mono hlegg18
              replace hRv10 := hRv10.mono hlegg18
              replace hRv15 := hRv15.mono hlegg18
              replace hG0 := hG0.mono hlegg18
              replace hagg5 := hagg5.trans hlegg18
              obtain ⟨cs48, rfl, hcs48⟩ := hvv39
              have hcs48 : cs48 = _ := hcs48; subst hcs48
              refine OG rfl rfl rfl (by rw [hg24]; rfl) (r_not rfl) rfl ?_
              refine O (r_pickT (v := Value.bool (!rv17)) rfl hg24 rfl) rfl ?_
              refine O (r_move (v := Value.bool (!rv17)) rfl) rfl ?_
              rcases condS hM with ⟨hg25, hM⟩ | ⟨hg25, hM⟩
              · refine OG rfl rfl rfl (by rw [hg25]; rfl) (r_loadN (cs := ([Value.int .i64 rv2.1.Kind]) ++ ((rv2.1.Set.1.map (Value.int .u64)) ++ ([v10]))) ti27 rfl (by simp [rv2.1.Set.2]) (hs.cells (i := 1) rfl)) rfl ?_
                obtain ⟨rv18, hrv18, hM⟩ := bindS hM
                refine CG rfl rfl rfl (by rw [hg25]; rfl) [Value.agg (List.toArray (α := Value) (([Value.int .i64 rv2.1.Kind]) ++ ((rv2.1.Set.1.map (Value.int .u64)) ++ ([v10]))))] cf21 rfl (regex_Format_ok hrv18 hs.imm (tT_Regex_iff.2 ⟨[Value.int .i64 rv2.1.Kind], rv2.1.Set.1.map (Value.int .u64), [v10], rfl, rfl, rfl, ⟨_, rfl, hRv10⟩⟩) hG0) rfl ?_
                rintro v40 wv28 ⟨gg19, hvv40, hegg19⟩
                have hlegg19 := hegg19.le hs.imm
                replace hs := hs.call hegg19
                replace hRv5 := hRv5.mono hlegg19
                replace hRv10 := hRv10.mono hlegg19
                replace hRv15 := hRv15.mono hlegg19
                replace hG0 := hG0.mono hlegg19
                replace hagg5 := hagg5.trans hlegg19
                obtain ⟨cs49, rfl, hcs49⟩ := hvv40
                have hcs49 : cs49 = _ := hcs49; subst hcs49
                refine OG rfl rfl rfl (by rw [hg25]; rfl) (r_eqlS rfl rfl) rfl ?_
                refine O (r_pickT (v := Value.bool (rv18 == [97, 97, 42])) rfl hg25 rfl) rfl ?_
                refine O (r_move (v := Value.bool (rv18 == [97, 97, 42])) rfl) rfl ?_
                rcases condS hM with ⟨hg26, hM⟩ | ⟨hg26, hM⟩
                · refine OG rfl rfl rfl (by rw [hg26]; rfl) (r_loadN (cs := ([Value.int .i64 rv3.1.Kind]) ++ ((rv3.1.Set.1.map (Value.int .u64)) ++ ([v15]))) ti27 rfl (by simp [rv3.1.Set.2]) (hs.cells (i := 0) rfl)) rfl ?_
                  obtain ⟨rv19, hrv19, hM⟩ := bindS hM
                  refine CG rfl rfl rfl (by rw [hg26]; rfl) [Value.agg (List.toArray (α := Value) (([Value.int .i64 rv3.1.Kind]) ++ ((rv3.1.Set.1.map (Value.int .u64)) ++ ([v15]))))] cf21 rfl (regex_Format_ok hrv19 hs.imm (tT_Regex_iff.2 ⟨[Value.int .i64 rv3.1.Kind], rv3.1.Set.1.map (Value.int .u64), [v15], rfl, rfl, rfl, ⟨_, rfl, hRv15⟩⟩) hG0) rfl ?_
                  rintro v41 wv29 ⟨gg20, hvv41, hegg20⟩
                  have hlegg20 := hegg20.le hs.imm
                  replace hs := hs.call hegg20
                  replace hRv5 := hRv5.mono hlegg20
                  replace hRv10 := hRv10.mono hlegg20
                  replace hRv15 := hRv15.mono hlegg20
                  replace hG0 := hG0.mono hlegg20
                  replace hagg5 := hagg5.trans hlegg20
                  obtain ⟨cs50, rfl, hcs50⟩ := hvv41
                  have hcs50 : cs50 = _ := hcs50; subst hcs50
                  refine OG rfl rfl rfl (by rw [hg26]; rfl) (r_eqlS rfl rfl) rfl ?_
                  refine O (r_pickT (v := Value.bool (rv19 == [91, 97, 45, 99, 120, 93, 124, 40, 41])) rfl hg26 rfl) rfl ?_
                  refine O (r_move (v := Value.bool (rv19 == [91, 97, 45, 99, 120, 93, 124, 40, 41])) rfl) rfl ?_
                  rcases condS hM with ⟨hg27, hM⟩ | ⟨hg27, hM⟩
                  · refine OG rfl rfl rfl (by rw [hg27]; rfl) (r_loadN (cs := ([Value.int .i64 rv1.1.Kind]) ++ ((rv1.1.Set.1.map (Value.int .u64)) ++ ([v5]))) ti27 rfl (by simp [rv1.1.Set.2]) (hs.cells (i := 2) rfl)) rfl ?_
                    obtain ⟨rv20, hrv20, hM⟩ := bindS hM
                    refine CG rfl rfl rfl (by rw [hg27]; rfl) [Value.agg (List.toArray (α := Value) (([Value.int .i64 rv1.1.Kind]) ++ ((rv1.1.Set.1.map (Value.int .u64)) ++ ([v5]))))] cf14 rfl (regex_Valid_ok hrv20 hs.imm (tT_Regex_iff.2 ⟨[Value.int .i64 rv1.1.Kind], rv1.1.Set.1.map (Value.int .u64), [v5], rfl, rfl, rfl, ⟨_, rfl, hRv5⟩⟩)) rfl ?_
                    rintro v42 wv30 ⟨gg21, hvv42, hegg21⟩
                    have hlegg21 := hegg21.le hs.imm
                    replace hs := hs.call hegg21
                    replace hRv5 := hRv5.mono hlegg21
                    replace hRv10 := hRv10.mono hlegg21
                    replace hRv15 := hRv15.mono hlegg21
                    replace hG0 := hG0.mono hlegg21
                    replace hagg5 := hagg5.trans hlegg21
                    obtain ⟨cs51, rfl, hcs51⟩ := hvv42
                    have hcs51 : cs51 = _ := hcs51; subst hcs51
                    refine O (r_pickT (v := Value.bool rv20) rfl hg27 rfl) rfl ?_
                    refine O (r_move (v := Value.bool rv20) rfl) rfl ?_
                    rcases condS hM with ⟨hg28, hM⟩ | ⟨hg28, hM⟩
                    · refine OG rfl rfl rfl (by rw [hg28]; rfl) (r_loadN (cs := ([Value.int .i64 rv1.1.Kind]) ++ ((rv1.1.Set.1.map (Value.int .u64)) ++ ([v5]))) ti27 rfl (by simp [rv1.1.Set.2]) (hs.cells (i := 2) rfl)) rfl ?_
                      obtain ⟨rv21, hrv21, hM⟩ := bindS hM
                      refine CG rfl rfl rfl (by rw [hg28]; rfl) [Value.agg (List.toArray (α := Value) (([Value.int .i64 rv1.1.Kind]) ++ ((rv1.1.Set.1.map (Value.int .u64)) ++ ([v5]))))] cf25 rfl (regex_Nullable_ok hrv21 hs.imm (tT_Regex_iff.2 ⟨[Value.int .i64 rv1.1.Kind], rv1.1.Set.1.map (Value.int .u64), [v5], rfl, rfl, rfl, ⟨_, rfl, hRv5⟩⟩)) rfl ?_
                      rintro v43 wv31 ⟨gg22, hvv43, hegg22⟩
                      have hlegg22 := hegg22.le hs.imm
                      replace hs := hs.call hegg22
                      replace hRv5 := hRv5.mono hlegg22
                      replace hRv10 := hRv10.mono hlegg22
                      replace hRv15 := hRv15.mono hlegg22
                      replace hG0 := hG0.mono hlegg22
                      replace hagg5 := hagg5.trans hlegg22
                      obtain ⟨cs52, rfl, hcs52⟩ := hvv43
                      have hcs52 : cs52 = _ := hcs52; subst hcs52
                      refine OG rfl rfl rfl (by rw [hg28]; rfl) (r_not rfl) rfl ?_
                      refine O (r_pickT (v := Value.bool (!rv21)) rfl hg28 rfl) rfl ?_
                      refine O (r_move (v := Value.bool (!rv21)) rfl) rfl ?_
                      rcases condS hM with ⟨hg29, hM⟩ | ⟨hg29, hM⟩
                      · refine OG rfl rfl rfl (by rw [hg29]; rfl) (r_loadN (cs := ([Value.int .i64 rv1.1.Kind]) ++ ((rv1.1.Set.1.map (Value.int .u64)) ++ ([v5]))) ti27 rfl (by simp [rv1.1.Set.2]) (hs.cells (i := 2) rfl)) rfl ?_
                        obtain ⟨rv22, hrv22, hM⟩ := bindS hM
                        refine CG rfl rfl rfl (by rw [hg29]; rfl) [Value.agg (List.toArray (α := Value) (([Value.int .i64 rv1.1.Kind]) ++ ((rv1.1.Set.1.map (Value.int .u64)) ++ ([v5])))), Value.int .u8 97] cf26 rfl (regex_Derive_ok hrv22 hs.imm (tT_Regex_iff.2 ⟨[Value.int .i64 rv1.1.Kind], rv1.1.Set.1.map (Value.int .u64), [v5], rfl, rfl, rfl, ⟨_, rfl, hRv5⟩⟩)) rfl ?_
                        rintro v44 wv32 ⟨gg23, hvv44, hegg23⟩
                        have hlegg23 := hegg23.le hs.imm
                        replace hs := hs.call hegg23
                        replace hRv5 := hRv5.mono hlegg23
                        replace hRv10 := hRv10.mono hlegg23
                        replace hRv15 := hRv15.mono hlegg23
                        replace hG0 := hG0.mono hlegg23
                        replace hagg5 := hagg5.trans hlegg23
                        obtain ⟨cs53, rfl, hcs53⟩ := hvv44
                        obtain ⟨cs54, cs55, cs56, rfl, hcs54, hcs55, hcs56⟩ := tT_Regex_iff.1 hcs53
                        have hcs54 : cs54 = _ := hcs54; subst hcs54
                        have hcs55 : cs55 = _ := hcs55; subst hcs55
                        obtain ⟨v45, rfl, hRv45⟩ := hcs56
                        obtain ⟨rv23, hrv23, hM⟩ := bindS hM
                        refine CG rfl rfl rfl (by rw [hg29]; rfl) [Value.agg (List.toArray (α := Value) (([Value.int .i64 rv22.Kind]) ++ ((rv22.Set.1.map (Value.int .u64)) ++ ([v45])))), encS [99, 98]] cf23 rfl (regex_Match_ok hrv23 hs.imm (tT_Regex_iff.2 ⟨[Value.int .i64 rv22.Kind], rv22.Set.1.map (Value.int .u64), [v45], rfl, rfl, rfl, ⟨_, rfl, hRv45⟩⟩)) rfl ?_
                        rintro v46 wv33 ⟨gg24, hvv46, hegg24⟩
                        have hlegg24 := hegg24.le hs.imm
                        replace hs := hs.call hegg24
                        replace hRv5 := hRv5.mono hlegg24
                        replace hRv10 := hRv10.mono hlegg24
                        replace hRv15 := hRv15.mono hlegg24
                        replace hG0 := hG0.mono hlegg24
                        replace hRv45 := hRv45.mono hlegg24
                        replace hagg5 := hagg5.trans hlegg24
                        obtain ⟨cs57, rfl, hcs57⟩ := hvv46
                        have hcs57 : cs57 = _ := hcs57; subst hcs57
                        refine O (r_pickT (v := Value.bool rv23) rfl hg29 rfl) rfl ?_
                        refine O (r_move (v := Value.bool rv23) rfl) rfl ?_
                        rcases condS hM with ⟨hg30, hM⟩ | ⟨hg30, hM⟩
                        · refine OG rfl rfl rfl (by rw [hg30]; rfl) (r_loadN (cs := ([Value.int .i64 rv1.1.Kind]) ++ ((rv1.1.Set.1.map (Value.int .u64)) ++ ([v5]))) ti27 rfl (by simp [rv1.1.Set.2]) (hs.cells (i := 2) rfl)) rfl ?_
                          obtain ⟨rv24, hrv24, hM⟩ := bindS hM
                          refine CG rfl rfl rfl (by rw [hg30]; rfl) [Value.agg (List.toArray (α := Value) (([Value.int .i64 rv1.1.Kind]) ++ ((rv1.1.Set.1.map (Value.int .u64)) ++ ([v5])))), Value.int .u8 98] cf26 rfl (regex_Derive_ok hrv24 hs.imm (tT_Regex_iff.2 ⟨[Value.int .i64 rv1.1.Kind], rv1.1.Set.1.map (Value.int .u64), [v5], rfl, rfl, rfl, ⟨_, rfl, hRv5⟩⟩)) rfl ?_
                          rintro v47 wv34 ⟨gg25, hvv47, hegg25⟩
                          have hlegg25 := hegg25.le hs.imm
                          replace hs := hs.call hegg25
                          replace hRv5 := hRv5.mono hlegg25
                          replace hRv10 := hRv10.mono hlegg25
                          replace hRv15 := hRv15.mono hlegg25
                          replace hG0 := hG0.mono hlegg25
                          replace hRv45 := hRv45.mono hlegg25
                          replace hagg5 := hagg5.trans hlegg25
                          obtain ⟨cs58, rfl, hcs58⟩ := hvv47
                          obtain ⟨cs59, cs60, cs61, rfl, hcs59, hcs60, hcs61⟩ := tT_Regex_iff.1 hcs58
                          have hcs59 : cs59 = _ := hcs59; subst hcs59
                          have hcs60 : cs60 = _ := hcs60; subst hcs60
                          obtain ⟨v48, rfl, hRv48⟩ := hcs61
                          obtain ⟨rv25, hrv25, hM⟩ := bindS hM
                          refine CG rfl rfl rfl (by rw [hg30]; rfl) [Value.agg (List.toArray (α := Value) (([Value.int .i64 rv24.Kind]) ++ ((rv24.Set.1.map (Value.int .u64)) ++ ([v48])))), encS []] cf23 rfl (regex_Match_ok hrv25 hs.imm (tT_Regex_iff.2 ⟨[Value.int .i64 rv24.Kind], rv24.Set.1.map (Value.int .u64), [v48], rfl, rfl, rfl, ⟨_, rfl, hRv48⟩⟩)) rfl ?_
                          rintro v49 wv35 ⟨gg26, hvv49, hegg26⟩
                          have hlegg26 := hegg26.le hs.imm
                          replace hs := hs.call hegg26
                          replace hRv5 := hRv5.mono hlegg26
                          replace hRv10 := hRv10.mono hlegg26
                          replace hRv15 := hRv15.mono hlegg26
                          replace hG0 := hG0.mono hlegg26
                          replace hRv45 := hRv45.mono hlegg26
                          replace hRv48 := hRv48.mono hlegg26
                          replace hagg5 := hagg5.trans hlegg26
                          obtain ⟨cs62, rfl, hcs62⟩ := hvv49
                          have hcs62 : cs62 = _ := hcs62; subst hcs62
                          refine OG rfl rfl rfl (by rw [hg30]; rfl) (r_not rfl) rfl ?_
                          refine O (r_pickT (v := Value.bool (!rv25)) rfl hg30 rfl) rfl ?_
                          refine O (r_assign (v := Value.bool (!rv25)) rfl) rfl ?_
                          refine OW_nil ?_
                          obtain rfl := Option.some.inj hM
                          exact ⟨gg26, rfl, hds, hagg5, (hs.sub (.cons _ (.cons _ (.cons _ .slnil))))⟩
                        · refine OK rfl rfl rfl (by rw [hg30]; rfl) rfl ?_
                          refine OK rfl rfl rfl (by rw [hg30]; rfl) rfl ?_
                          refine OK rfl rfl rfl (by rw [hg30]; rfl) rfl ?_
                          refine OK rfl rfl rfl (by rw [hg30]; rfl) rfl ?_
                          refine O (r_pickF (v := Value.bool false) rfl hg30 rfl) rfl ?_
                          refine O (r_assign (v := Value.bool false) rfl) rfl ?_
                          refine OW_nil ?_
                          obtain rfl := Option.some.inj hM
                          exact ⟨gg24, rfl, hds, hagg5, (hs.sub (.cons _ (.cons _ (.cons _ .slnil))))⟩
                      · refine OK rfl rfl rfl (by rw [hg29]; rfl) rfl ?_
                        refine OK rfl rfl rfl (by rw [hg29]; rfl) rfl ?_
                        refine OK rfl rfl rfl (by rw [hg29]; rfl) rfl ?_
                        refine O (r_pickF (v := Value.bool false) rfl hg29 rfl) rfl ?_
                        refine O (r_move (v := Value.bool false) rfl) rfl ?_
                        refine OK rfl rfl rfl rfl rfl ?_
                        refine OK rfl rfl rfl rfl rfl ?_
                        refine OK rfl rfl rfl rfl rfl ?_
                        refine OK rfl rfl rfl rfl rfl ?_
                        refine O (r_pickF (v := Value.bool false) rfl rfl rfl) rfl ?_
                        refine O (r_assign (v := Value.bool false) rfl) rfl ?_
                        refine OW_nil ?_
                        obtain rfl := Option.some.inj hM
                        exact ⟨gg22, rfl, hds, hagg5, (hs.sub (.cons _ (.cons _ (.cons _ .slnil))))⟩
                    · refine OK rfl rfl rfl (by rw [hg28]; rfl) rfl ?_
                      refine OK rfl rfl rfl (by rw [hg28]; rfl) rfl ?_
                      refine OK rfl rfl rfl (by rw [hg28]; rfl) rfl ?_
                      refine O (r_pickF (v := Value.bool false) rfl hg28 rfl) rfl ?_
                      refine O (r_move (v := Value.bool false) rfl) rfl ?_
                      refine OK rfl rfl rfl rfl rfl ?_
                      refine OK rfl rfl rfl rfl rfl ?_
                      refine OK rfl rfl rfl rfl rfl ?_
                      refine O (r_pickF (v := Value.bool false) rfl rfl rfl) rfl ?_
                      refine O (r_move (v := Value.bool false) rfl) rfl ?_
                      refine OK rfl rfl rfl rfl rfl ?_
                      refine OK rfl rfl rfl rfl rfl ?_
                      refine OK rfl rfl rfl rfl rfl ?_
                      refine OK rfl rfl rfl rfl rfl ?_
                      refine O (r_pickF (v := Value.bool false) rfl rfl rfl) rfl ?_
                      refine O (r_assign (v := Value.bool false) rfl) rfl ?_
                      refine OW_nil ?_
                      obtain rfl := Option.some.inj hM
                      exact ⟨gg21, rfl, hds, hagg5, (hs.sub (.cons _ (.cons _ (.cons _ .slnil))))⟩
                  · refine OK rfl rfl rfl (by rw [hg27]; rfl) rfl ?_
                    refine OK rfl rfl rfl (by rw [hg27]; rfl) rfl ?_
                    refine O (r_pickF (v := Value.bool false) rfl hg27 rfl) rfl ?_
                    refine O (r_move (v := Value.bool false) rfl) rfl ?_
                    refine OK rfl rfl rfl rfl rfl ?_
                    refine OK rfl rfl rfl rfl rfl ?_
                    refine OK rfl rfl rfl rfl rfl ?_
                    refine O (r_pickF (v := Value.bool false) rfl rfl rfl) rfl ?_
                    refine O (r_move (v := Value.bool false) rfl) rfl ?_
                    refine OK rfl rfl rfl rfl rfl ?_
                    refine OK rfl rfl rfl rfl rfl ?_
                    refine OK rfl rfl rfl rfl rfl ?_
                    refine O (r_pickF (v := Value.bool false) rfl rfl rfl) rfl ?_
                    refine O (r_move (v := Value.bool false) rfl) rfl ?_
                    refine OK rfl rfl rfl rfl rfl ?_
                    refine OK rfl rfl rfl rfl rfl ?_
                    refine OK rfl rfl rfl rfl rfl ?_
                    refine OK rfl rfl rfl rfl rfl ?_
                    refine O (r_pickF (v := Value.bool false) rfl rfl rfl) rfl ?_
                    refine O (r_assign (v := Value.bool false) rfl) rfl ?_
                    refine OW_nil ?_
                    obtain rfl := Option.some.inj hM
                    exact ⟨gg20, rfl, hds, hagg5, (hs.sub (.cons _ (.cons _ (.cons _ .slnil))))⟩
                · refine OK rfl rfl rfl (by rw [hg26]; rfl) rfl ?_
                  refine OK rfl rfl rfl (by rw [hg26]; rfl) rfl ?_
                  refine OK rfl rfl rfl (by rw [hg26]; rfl) rfl ?_
                  refine O (r_pickF (v := Value.bool false) rfl hg26 rfl) rfl ?_
                  refine O (r_move (v := Value.bool false) rfl) rfl ?_
                  refine OK rfl rfl rfl rfl rfl ?_
                  refine OK rfl rfl rfl rfl rfl ?_
                  refine O (r_pickF (v := Value.bool false) rfl rfl rfl) rfl ?_
                  refine O (r_move (v := Value.bool false) rfl) rfl ?_
                  refine OK rfl rfl rfl rfl rfl ?_
                  refine OK rfl rfl rfl rfl rfl ?_
                  refine OK rfl rfl rfl rfl rfl ?_
                  refine O (r_pickF (v := Value.bool false) rfl rfl rfl) rfl ?_
                  refine O (r_move (v := Value.bool false) rfl) rfl ?_
                  refine OK rfl rfl rfl rfl rfl ?_
                  refine OK rfl rfl rfl rfl rfl ?_
                  refine OK rfl rfl rfl rfl rfl ?_
                  refine O (r_pickF (v := Value.bool false) rfl rfl rfl) rfl ?_
                  refine O (r_move (v := Value.bool false) rfl) rfl ?_
                  refine OK rfl rfl rfl rfl rfl ?_
                  refine OK rfl rfl rfl rfl rfl ?_
                  refine OK rfl rfl rfl rfl rfl ?_
                  refine OK rfl rfl rfl rfl rfl ?_
                  refine O (r_pickF (v := Value.bool false) rfl rfl rfl) rfl ?_
                  refine O (r_assign (v := Value.bool false) rfl) rfl ?_
                  refine OW_nil ?_
                  obtain rfl := Option.some.inj hM
                  exact ⟨gg19, rfl, hds, hagg5, (hs.sub (.cons _ (.cons _ (.cons _ .slnil))))⟩
              · refine OK rfl rfl rfl (by rw [hg25]; rfl) rfl ?_
                refine OK rfl rfl rfl (by rw [hg25]; rfl) rfl ?_
                refine OK rfl rfl rfl (by rw [hg25]; rfl) rfl ?_
                refine O (r_pickF (v := Value.bool false) rfl hg25 rfl) rfl ?_
                refine O (r_move (v := Value.bool false) rfl) rfl ?_
                refine OK rfl rfl rfl rfl rfl ?_
                refine OK rfl rfl rfl rfl rfl ?_
                refine OK rfl rfl rfl rfl rfl ?_
                refine O (r_pickF (v := Value.bool false) rfl rfl rfl) rfl ?_
                refine O (r_move (v := Value.bool false) rfl) rfl ?_
                refine OK rfl rfl rfl rfl rfl ?_
                refine OK rfl rfl rfl rfl rfl ?_
                refine O (r_pickF (v := Value.bool false) rfl rfl rfl) rfl ?_
                refine O (r_move (v := Value.bool false) rfl) rfl ?_
                refine OK rfl rfl rfl rfl rfl ?_
                refine OK rfl rfl rfl rfl rfl ?_
                refine OK rfl rfl rfl rfl rfl ?_
                refine O (r_pickF (v := Value.bool false) rfl rfl rfl) rfl ?_
                refine O (r_move (v := Value.bool false) rfl) rfl ?_
                refine OK rfl rfl rfl rfl rfl ?_
                refine OK rfl rfl rfl rfl rfl ?_
                refine OK rfl rfl rfl rfl rfl ?_
                refine O (r_pickF (v := Value.bool false) rfl rfl rfl) rfl ?_
                refine O (r_move (v := Value.bool false) rfl) rfl ?_
                refine OK rfl rfl rfl rfl rfl ?_
                refine OK rfl rfl rfl rfl rfl ?_
                refine OK rfl rfl rfl rfl rfl ?_
                refine OK rfl rfl rfl rfl rfl ?_
                refine O (r_pickF (v := Value.bool false) rfl rfl rfl) rfl ?_
                refine O (r_assign (v := Value.bool false) rfl) rfl ?_
                refine OW_nil ?_
                obtain rfl := Option.some.inj hM
                exact ⟨gg18, rfl, hds, hagg5, (hs.sub (.cons _ (.cons _ (.cons _ .slnil))))⟩
            · refine OK rfl rfl rfl (by rw [hg24]; rfl) rfl ?_
              refine OK rfl rfl rfl (by rw [hg24]; rfl) rfl ?_
              refine OK rfl rfl rfl (by rw [hg24]; rfl) rfl ?_
              refine O (r_pickF (v := Value.bool false) rfl hg24 rfl) rfl ?_
              refine O (r_move (v := Value.bool false) rfl) rfl ?_
              refine OK rfl rfl rfl rfl rfl ?_
              refine OK rfl rfl rfl rfl rfl ?_
              refine OK rfl rfl rfl rfl rfl ?_
              refine O (r_pickF (v := Value.bool false) rfl rfl rfl) rfl ?_
              refine O (r_move (v := Value.bool false) rfl) rfl ?_
              refine OK rfl rfl rfl rfl rfl ?_
              refine OK rfl rfl rfl rfl rfl ?_
              refine OK rfl rfl rfl rfl rfl ?_
              refine O (r_pickF (v := Value.bool false) rfl rfl rfl) rfl ?_
              refine O (r_move (v := Value.bool false) rfl) rfl ?_
              refine OK rfl rfl rfl rfl rfl ?_
              refine OK rfl rfl rfl rfl rfl ?_
              refine O (r_pickF (v := Value.bool false) rfl rfl rfl) rfl ?_
              refine O (r_move (v := Value.bool false) rfl) rfl ?_
              refine OK rfl rfl rfl rfl rfl ?_
              refine OK rfl rfl rfl rfl rfl ?_
              refine OK rfl rfl rfl rfl rfl ?_
              refine O (r_pickF (v := Value.bool false) rfl rfl rfl) rfl ?_
              refine O (r_move (v := Value.bool false) rfl) rfl ?_
              refine OK rfl rfl rfl rfl rfl ?_
              refine OK rfl rfl rfl rfl rfl ?_
              refine OK rfl rfl rfl rfl rfl ?_
              refine O (r_pickF (v := Value.bool false) rfl rfl rfl) rfl ?_
              refine O (r_move (v := Value.bool false) rfl) rfl ?_
              refine OK rfl rfl rfl rfl rfl ?_
              refine OK rfl rfl rfl rfl rfl ?_
              refine OK rfl rfl rfl rfl rfl ?_
              refine OK rfl rfl rfl rfl rfl ?_
              refine O (r_pickF (v := Value.bool false) rfl rfl rfl) rfl ?_
              refine O (r_assign (v := Value.bool false) rfl) rfl ?_
              refine OW_nil ?_
              obtain rfl := Option.some.inj hM
              exact ⟨gg17, rfl, hds, hagg5, (hs.sub (.cons _ (.cons _ (.cons _ .slnil))))⟩
          · refine OK rfl rfl rfl (by rw [hg23]; rfl) rfl ?_
            refine OK rfl rfl rfl (by rw [hg23]; rfl) rfl ?_
            refine O (r_pickF (v := Value.bool false) rfl hg23 rfl) rfl ?_
            refine O (r_move (v := Value.bool false) rfl) rfl ?_
            refine OK rfl rfl rfl rfl rfl ?_
            refine OK rfl rfl rfl rfl rfl ?_
            refine OK rfl rfl rfl rfl rfl ?_
            refine O (r_pickF (v := Value.bool false) rfl rfl rfl) rfl ?_
            refine O (r_move (v := Value.bool false) rfl) rfl ?_
            refine OK rfl rfl rfl rfl rfl ?_
            refine OK rfl rfl rfl rfl rfl ?_
            refine OK rfl rfl rfl rfl rfl ?_
            refine O (r_pickF (v := Value.bool false) rfl rfl rfl) rfl ?_
            refine O (r_move (v := Value.bool false) rfl) rfl ?_
            refine OK rfl rfl rfl rfl rfl ?_
            refine OK rfl rfl rfl rfl rfl ?_
            refine OK rfl rfl rfl rfl rfl ?_
            refine O (r_pickF (v := Value.bool false) rfl rfl rfl) rfl ?_
            refine O (r_move (v := Value.bool false) rfl) rfl ?_
            refine OK rfl rfl rfl rfl rfl ?_
            refine OK rfl rfl rfl rfl rfl ?_
            refine O (r_pickF (v := Value.bool false) rfl rfl rfl) rfl ?_
            refine O (r_move (v := Value.bool false) rfl) rfl ?_
            refine OK rfl rfl rfl rfl rfl ?_
            refine OK rfl rfl rfl rfl rfl ?_
            refine OK rfl rfl rfl rfl rfl ?_
            refine O (r_pickF (v := Value.bool false) rfl rfl rfl) rfl ?_
            refine O (r_move (v := Value.bool false) rfl) rfl ?_
            refine OK rfl rfl rfl rfl rfl ?_
            refine OK rfl rfl rfl rfl rfl ?_
            refine OK rfl rfl rfl rfl rfl ?_
            refine O (r_pickF (v := Value.bool false) rfl rfl rfl) rfl ?_
            refine O (r_move (v := Value.bool false) rfl) rfl ?_
            refine OK rfl rfl rfl rfl rfl ?_
            refine OK rfl rfl rfl rfl rfl ?_
            refine OK rfl rfl rfl rfl rfl ?_
            refine OK rfl rfl rfl rfl rfl ?_
            refine O (r_pickF (v := Value.bool false) rfl rfl rfl) rfl ?_
            refine O (r_assign (v := Value.bool false) rfl) rfl ?_
            refine OW_nil ?_
            obtain rfl := Option.some.inj hM
            exact ⟨gg5, rfl, hds, (Hle.refl _), (hs.sub (.cons _ (.cons _ (.cons _ .slnil))))⟩
        · refine OK rfl rfl rfl (by rw [hg22]; rfl) rfl ?_
          refine OK rfl rfl rfl (by rw [hg22]; rfl) rfl ?_
          refine OK rfl rfl rfl (by rw [hg22]; rfl) rfl ?_
          refine OK rfl rfl rfl (by rw [hg22]; rfl) rfl ?_
          refine O (r_pickF (v := Value.bool false) rfl hg22 rfl) rfl ?_
          refine O (r_move (v := Value.bool false) rfl) rfl ?_
          refine OK rfl rfl rfl rfl rfl ?_
          refine OK rfl rfl rfl rfl rfl ?_
          refine O (r_pickF (v := Value.bool false) rfl rfl rfl) rfl ?_
          refine O (r_move (v := Value.bool false) rfl) rfl ?_
          refine OK rfl rfl rfl rfl rfl ?_
          refine OK rfl rfl rfl rfl rfl ?_
          refine OK rfl rfl rfl rfl rfl ?_
          refine O (r_pickF (v := Value.bool false) rfl rfl rfl) rfl ?_
          refine O (r_move (v := Value.bool false) rfl) rfl ?_
          refine OK rfl rfl rfl rfl rfl ?_
          refine OK rfl rfl rfl rfl rfl ?_
          refine OK rfl rfl rfl rfl rfl ?_
          refine O (r_pickF (v := Value.bool false) rfl rfl rfl) rfl ?_
          refine O (r_move (v := Value.bool false) rfl) rfl ?_
          refine OK rfl rfl rfl rfl rfl ?_
          refine OK rfl rfl rfl rfl rfl ?_
          refine OK rfl rfl rfl rfl rfl ?_
          refine O (r_pickF (v := Value.bool false) rfl rfl rfl) rfl ?_
          refine O (r_move (v := Value.bool false) rfl) rfl ?_
          refine OK rfl rfl rfl rfl rfl ?_
          refine OK rfl rfl rfl rfl rfl ?_
          refine O (r_pickF (v := Value.bool false) rfl rfl rfl) rfl ?_
          refine O (r_move (v := Value.bool false) rfl) rfl ?_
          refine OK rfl rfl rfl rfl rfl ?_
          refine OK rfl rfl rfl rfl rfl ?_
          refine OK rfl rfl rfl rfl rfl ?_
          refine O (r_pickF (v := Value.bool false) rfl rfl rfl) rfl ?_
          refine O (r_move (v := Value.bool false) rfl) rfl ?_
          refine OK rfl rfl rfl rfl rfl ?_
          refine OK rfl rfl rfl rfl rfl ?_
          refine OK rfl rfl rfl rfl rfl ?_
          refine O (r_pickF (v := Value.bool false) rfl rfl rfl) rfl ?_
          refine O (r_move (v := Value.bool false) rfl) rfl ?_
          refine OK rfl rfl rfl rfl rfl ?_
          refine OK rfl rfl rfl rfl rfl ?_
          refine OK rfl rfl rfl rfl rfl ?_
          refine OK rfl rfl rfl rfl rfl ?_
          refine O (r_pickF (v := Value.bool false) rfl rfl rfl) rfl ?_
          refine O (r_assign (v := Value.bool false) rfl) rfl ?_
          refine OW_nil ?_
          obtain rfl := Option.some.inj hM
          exact ⟨gg5, rfl, hds, (Hle.refl _), (hs.sub (.cons _ (.cons _ (.cons _ .slnil))))⟩
      · clear hs
        rintro E w ⟨gg16, hE0, hds, hlegg16, hs⟩
        have hM := hKhx2
        obtain ⟨E, rfl⟩ := open1 (E := E) hE0
        replace hG0 := hG0.mono hlegg16
        refine WP_ret ?_
        obtain rfl := Option.some.inj hM
        refine FL_nil hds ?_
        exact ⟨_, res1 Tryd.results13 (rv_tmp (v := Value.bool xv2) rfl), gg16, ⟨[Value.bool xv2], rfl, rfl⟩, hs.ext⟩


end Go.Proofs.YtffienmbeifioaaDoor
