/- The walk of the law. Printed by a program of my own. -/
import Derived.Test.YtjdmfabmacdpgaaTyp
import Derived.Test.YtjdmfabmacdpgaaWalk4
import Derived.Test.YtjdmfabmacdpgaaWalk5
set_option linter.unusedVariables false
set_option linter.unusedSimpArgs false
namespace Go.Proofs.Ytjdmfabmacdpgaa
open Go.Lx Go.RowKit
set_option maxRecDepth 100000 in
theorem law14_LexrepairSingleEdit_ok {p1 : Str} {p2 : Int} {p3 : Int} {r : Bool} (hM : M.law14_LexrepairSingleEdit p1 p2 p3 = some r) {g0 : Hp} {w0 : World} (hi : Imm g0 w0) :
    CallsV Try.prog 5 #[encS p1, Value.int .u8 p2, Value.int .u8 p3] w0 (fun v w' => ∃ g', (VRd tBool false g' v r) ∧ Ext g0 w0 g' w') := by
  unfold M.law14_LexrepairSingleEdit at hM
  have hs := Sep.start hi
  refine calls_of_WP (args := [encS p1, Value.int .u8 p2, Value.int .u8 p3]) Try.func5 rfl Try.ntmps5 rfl ?_
  have hds : (argEnv [encS p1, Value.int .u8 p2, Value.int .u8 p3]).ds = [] := rfl
  refine WP_seq ?_
  refine WP_region ?_
  refine O (r_assign (v := Value.bool false) rfl) rfl ?_
  refine OW_nil ?_
  refine WP_seq ?_
  obtain ⟨xv1, hx1, hKhx1⟩ := bindS hM
  refine WP_cut (fun E w => E 0 = encS p1 ∧ E 1 = Value.int .u8 p2 ∧ E 2 = Value.int .u8 p3 ∧ E 20 = Value.bool xv1 ∧ E.ds = [] ∧ Go.Lx.Sep g0 w0 g0 w []) ?_ ?_
  · have hM := hx1
    have hag0 := Hle.refl g0
    refine WP_region ?_
    refine O (r_move (v := encS p1) rfl) rfl ?_
    refine O (r_lenStr Try.underlying9 rfl) rfl ?_
    refine O (r_lss rfl rfl) rfl ?_
    refine O (r_move (v := Value.bool (decide ((p1.length : Int) < 2))) rfl) rfl ?_
    rcases condS hM with ⟨hg2, hM⟩ | ⟨hg2, hM⟩
    · refine OK rfl rfl rfl (by rw [hg2]; rfl) rfl ?_
      refine OK rfl rfl rfl (by rw [hg2]; rfl) rfl ?_
      refine OK rfl rfl rfl (by rw [hg2]; rfl) rfl ?_
      refine O (r_pickT (v := Value.bool true) rfl hg2 rfl) rfl ?_
      refine OW_nil ?_
      obtain rfl := Option.some.inj hM
      exact ⟨rfl, rfl, rfl, rfl, hds, hs⟩
    · refine OG rfl rfl rfl (by rw [hg2]; rfl) (r_move (v := encS p1) rfl) rfl ?_
      refine OG rfl rfl rfl (by rw [hg2]; rfl) (r_lenStr Try.underlying9 rfl) rfl ?_
      refine OG rfl rfl rfl (by rw [hg2]; rfl) (r_gtr rfl rfl) rfl ?_
      refine O (r_pickF (v := Value.bool (decide (30 < (p1.length : Int)))) rfl hg2 rfl) rfl ?_
      refine OW_nil ?_
      obtain rfl := Option.some.inj hM
      exact ⟨rfl, rfl, rfl, rfl, hds, hs⟩
  · clear hs
    rintro E w ⟨hE0, hE1, hE2, hE20, hds, hs⟩
    have hM := hKhx1
    obtain ⟨E, rfl⟩ := open1 (E := E) hE0
    obtain ⟨E, rfl⟩ := open1 (E := E) hE1
    obtain ⟨E, rfl⟩ := open1 (E := E) hE2
    obtain ⟨E, rfl⟩ := open1 (E := E) hE20
    rcases condS hM with ⟨hc1, hM⟩ | ⟨hc1, hM⟩
    · refine WP_true rfl hc1 ?_
      refine WP_seq ?_
      refine WP_region ?_
      obtain ⟨rv1, hrv1, hM⟩ := bindS hM
      refine C [] cf6 rfl (law14_awake_ok hrv1 hs.imm) rfl ?_
      rintro v1 wv1 ⟨gg1, hvv1, hegg1⟩
      have hlegg1 := hegg1.le hs.imm
      replace hs := hs.call hegg1
      obtain ⟨cs1, rfl, hcs1⟩ := hvv1
      have hcs1 : cs1 = _ := hcs1; subst hcs1
      refine O (r_assign (v := Value.bool rv1) rfl) rfl ?_
      refine OW_nil ?_
      refine WP_ret ?_
      obtain rfl := Option.some.inj hM
      refine FL_nil hds ?_
      exact ⟨_, res1 Try.results5 (rv_tmp (v := Value.bool rv1) rfl), gg1, ⟨[Value.bool rv1], rfl, rfl⟩, hs.ext⟩
    · refine WP_false rfl hc1 ?_
      refine WP_skip ?_
      refine WP_seq ?_
      refine WP_region ?_
      refine O (r_move (v := Value.int .u8 p2) rfl) rfl ?_
      refine O (r_conv Try.underlying5 Try.underlying3 rfl) rfl ?_
      refine O (r_move (v := encS p1) rfl) rfl ?_
      refine O (r_lenStr Try.underlying9 rfl) rfl ?_
      obtain ⟨t1, ht1, hM⟩ := bindS hM
      refine O (r_subM rfl rfl ht1) rfl ?_
      obtain ⟨t2, ht2, hM⟩ := bindS hM
      refine O (r_remM rfl rfl ht2) rfl ?_
      refine O (r_assign (v := Value.int .i64 t2) rfl) rfl ?_
      refine OW_nil ?_
      refine WP_seq ?_
      refine WP_region ?_
      refine O (r_move (v := Value.int .u8 p3) rfl) rfl ?_
      refine OW_lit (τ := (tInt .u8)) [Value.int .u8 p3] [p3] Try.underlying25 ti5 (by decide) hs rfl rfl rfl ⟨rfl, trivial⟩ rfl ?_
      intro v2 wv2 xs1 hrelxs1 hs
      refine O (r_toStr (l := [p3]) Try.underlying25 Try.underlying5 Try.underlying9 (v := v2) rfl (hs.rowSrc (i := 0) rfl) hrelxs1) rfl ?_
      refine O (r_assign (v := encS (toStr [p3])) rfl) rfl ?_
      refine OW_nil ?_
      refine WP_seq ?_
      refine WP_draw mo (by decide +kernel) ?_
      have hs := hs.drew
      refine S (r_move (v := encS p1) rfl) rfl ?_
      refine S (r_move (v := Value.int .i64 t2) rfl) rfl ?_
      obtain ⟨s1, hs1, hM⟩ := bindS hM
      refine S (r_sliceS_hi Try.underlying9 rfl rfl hs1) rfl ?_
      refine S (r_move (v := encS (toStr [p3])) rfl) rfl ?_
      obtain ⟨s2, hs2, hM⟩ := bindS hM
      refine S (r_catS rfl rfl hs2) rfl ?_
      refine S (r_move (v := encS p1) rfl) rfl ?_
      refine S (r_move (v := Value.int .i64 t2) rfl) rfl ?_
      obtain ⟨s3, hs3, hM⟩ := bindS hM
      refine S (r_sliceS_lo Try.underlying9 rfl rfl hs3) rfl ?_
      obtain ⟨s4, hs4, hM⟩ := bindS hM
      refine S (r_catS rfl rfl hs4) rfl ?_
      refine S (r_assign (v := encS s4) rfl) rfl ?_
      refine SW_nil ?_
      refine WP_seq ?_
      refine WP_draw mo (by decide +kernel) ?_
      have hs := hs.drew
      refine S (r_move (v := encS p1) rfl) rfl ?_
      refine S (r_move (v := Value.int .i64 t2) rfl) rfl ?_
      refine S (r_sliceS_hi Try.underlying9 rfl rfl hs1) rfl ?_
      refine S (r_move (v := encS p1) rfl) rfl ?_
      refine S (r_move (v := Value.int .i64 t2) rfl) rfl ?_
      obtain ⟨t3, ht3, hM⟩ := bindS hM
      refine S (r_addM rfl rfl ht3) rfl ?_
      obtain ⟨s5, hs5, hM⟩ := bindS hM
      refine S (r_sliceS_lo Try.underlying9 rfl rfl hs5) rfl ?_
      obtain ⟨s6, hs6, hM⟩ := bindS hM
      refine S (r_catS rfl rfl hs6) rfl ?_
      refine S (r_assign (v := encS s6) rfl) rfl ?_
      refine SW_nil ?_
      refine WP_seq ?_
      refine WP_draw mo (by decide +kernel) ?_
      have hs := hs.drew
      refine S (r_move (v := encS p1) rfl) rfl ?_
      refine S (r_move (v := Value.int .i64 t2) rfl) rfl ?_
      refine S (r_sliceS_hi Try.underlying9 rfl rfl hs1) rfl ?_
      refine S (r_move (v := encS p1) rfl) rfl ?_
      refine S (r_move (v := Value.int .i64 t2) rfl) rfl ?_
      refine S (r_addM rfl rfl ht3) rfl ?_
      refine S (r_move (v := Value.int .i64 t2) rfl) rfl ?_
      obtain ⟨t4, ht4, hM⟩ := bindS hM
      refine S (r_addM rfl rfl ht4) rfl ?_
      obtain ⟨s7, hs7, hM⟩ := bindS hM
      refine S (r_sliceS Try.underlying9 rfl rfl rfl hs7) rfl ?_
      obtain ⟨s8, hs8, hM⟩ := bindS hM
      refine S (r_catS rfl rfl hs8) rfl ?_
      refine S (r_move (v := encS p1) rfl) rfl ?_
      refine S (r_move (v := Value.int .i64 t2) rfl) rfl ?_
      refine S (r_move (v := Value.int .i64 t2) rfl) rfl ?_
      refine S (r_addM rfl rfl ht3) rfl ?_
      obtain ⟨s9, hs9, hM⟩ := bindS hM
      refine S (r_sliceS Try.underlying9 rfl rfl rfl hs9) rfl ?_
      obtain ⟨s10, hs10, hM⟩ := bindS hM
      refine S (r_catS rfl rfl hs10) rfl ?_
      refine S (r_move (v := encS p1) rfl) rfl ?_
      refine S (r_move (v := Value.int .i64 t2) rfl) rfl ?_
      refine S (r_addM rfl rfl ht4) rfl ?_
      obtain ⟨s11, hs11, hM⟩ := bindS hM
      refine S (r_sliceS_lo Try.underlying9 rfl rfl hs11) rfl ?_
      obtain ⟨s12, hs12, hM⟩ := bindS hM
      refine S (r_catS rfl rfl hs12) rfl ?_
      refine S (r_assign (v := encS s12) rfl) rfl ?_
      refine SW_nil ?_
      refine WP_seq ?_
      refine WP_draw mo (by decide +kernel) ?_
      have hs := hs.drew
      refine S (r_move (v := encS p1) rfl) rfl ?_
      refine S (r_move (v := Value.int .i64 t2) rfl) rfl ?_
      refine S (r_sliceS_hi Try.underlying9 rfl rfl hs1) rfl ?_
      refine S (r_move (v := encS (toStr [p3])) rfl) rfl ?_
      refine S (r_catS rfl rfl hs2) rfl ?_
      refine S (r_move (v := encS p1) rfl) rfl ?_
      refine S (r_move (v := Value.int .i64 t2) rfl) rfl ?_
      refine S (r_addM rfl rfl ht3) rfl ?_
      refine S (r_sliceS_lo Try.underlying9 rfl rfl hs5) rfl ?_
      obtain ⟨s13, hs13, hM⟩ := bindS hM
      refine S (r_catS rfl rfl hs13) rfl ?_
      refine S (r_assign (v := encS s13) rfl) rfl ?_
      refine SW_nil ?_
      obtain ⟨xv2, hx2, hKhx2⟩ := bindS hM
      refine WP_cut (fun E w => ∃ (gg8 : Hp), E 6 = Value.bool xv2 ∧ E.ds = [] ∧ Hle g0 gg8 ∧ Go.Lx.Sep g0 w0 gg8 w []) ?_ ?_
      · have hM := hx2
        have hag0 := Hle.refl g0
        refine WP_any (.s 0 (.q 1 (.q 2 (.q 3 (.s 4 (.q 5 (.q 6 (.q 7 (.q 8 (.q 9 (.s 10 (.q 11 (.q 12 (.q 13 (.q 14 (.q 15 (.s 16 (.q 17 (.q 18 (.q 19 (.q 20 (.q 21 (.s 22 (.q 23 (.q 24 (.q 25 (.q 26 (.q 27 (.q 30 (.q 31 (.q 32 (.q 33 (.q 34 (.s 28 (.q 29 (.q 35 (.q 36 (.q 37 (.leaf))))))))))))))))))))))))))))))))))))))) (SS g0 w0 g0 [.row v2 5 (tInt .u8).sz [p3].length xs1]) mo (by decide +kernel) ?_
        have hs := hs.drew
        have hrelxs1b := hrelxs1
        have hS : SS g0 w0 g0 [.row v2 5 (tInt .u8).sz [p3].length xs1] _ := ⟨g0, Hle.refl _, hs⟩
        refine A1 rfl ?_
        obtain ⟨rv8, hrv8, hM⟩ := bindS hM
        refine C [] cf6 rfl (law14_awake_ok hrv8 hs.imm) rfl ?_
        rintro v9 wv9 ⟨gg9, hvv9, hegg9⟩
        have hlegg9 := hegg9.le hs.imm
        replace hs := hs.call hegg9
        replace hrelxs1 := hrelxs1.mono hlegg9
        replace hag0 := hag0.trans hlegg9
        obtain ⟨cs8, rfl, hcs8⟩ := hvv9
        have hcs8 : cs8 = _ := hcs8; subst hcs8
        refine OW_nil ?_
        have hS : SS g0 w0 g0 [.row v2 5 (tInt .u8).sz [p3].length xs1] _ := ⟨gg9, hag0, hs⟩
        refine ⟨fun _ => hS, ?_⟩
        refine A rfl hS (fun w9 h9 => by obtain ⟨g9, hle9, hs⟩ := h9; exact r_move (v := Value.bool rv8) rfl) rfl ?_
        rcases condS hM with ⟨hg8, hM⟩ | ⟨hg8, hM⟩
        · refine AG rfl rfl rfl rfl (by rw [hg8]; rfl) hS (fun w9 h9 => by obtain ⟨g9, hle9, hs⟩ := h9; exact r_move (v := encS p1) rfl) rfl ?_
          refine AG rfl rfl rfl rfl (by rw [hg8]; rfl) hS (fun w9 h9 => by obtain ⟨g9, hle9, hs⟩ := h9; exact r_move (v := encS s4) rfl) rfl ?_
          refine A1 rfl ?_
          obtain ⟨rv9, hrv9, hM⟩ := bindS hM
          refine CG rfl rfl rfl (by rw [hg8]; rfl) [encS p1, encS s4] cf7 rfl (lexrepair_Distance_ok hrv9 hs.imm) rfl ?_
          rintro v10 wv10 ⟨gg10, hvv10, hegg10⟩
          have hlegg10 := hegg10.le hs.imm
          replace hs := hs.call hegg10
          replace hrelxs1 := hrelxs1.mono hlegg10
          replace hag0 := hag0.trans hlegg10
          obtain ⟨cs9, rfl, hcs9⟩ := hvv10
          have hcs9 : cs9 = _ := hcs9; subst hcs9
          refine OW_nil ?_
          have hS : SS g0 w0 g0 [.row v2 5 (tInt .u8).sz [p3].length xs1] _ := ⟨gg10, hag0, hs⟩
          refine ⟨fun _ => hS, ?_⟩
          refine AG rfl rfl rfl rfl (by rw [hg8]; rfl) hS (fun w9 h9 => by obtain ⟨g9, hle9, hs⟩ := h9; exact r_eql rfl rfl) rfl ?_
          refine A rfl hS (fun w9 h9 => by obtain ⟨g9, hle9, hs⟩ := h9; exact r_pickT (v := Value.bool (rv9 == 1)) rfl hg8 rfl) rfl ?_
          refine A rfl hS (fun w9 h9 => by obtain ⟨g9, hle9, hs⟩ := h9; exact r_move (v := Value.bool (rv9 == 1)) rfl) rfl ?_
          rcases condS hM with ⟨hg9, hM⟩ | ⟨hg9, hM⟩
          · refine AG rfl rfl rfl rfl (by rw [hg9]; rfl) hS (fun w9 h9 => by obtain ⟨g9, hle9, hs⟩ := h9; exact r_move (v := encS p1) rfl) rfl ?_
            refine AG rfl rfl rfl rfl (by rw [hg9]; rfl) hS (fun w9 h9 => by obtain ⟨g9, hle9, hs⟩ := h9; exact r_move (v := encS s6) rfl) rfl ?_
            refine A1 rfl ?_
            obtain ⟨rv10, hrv10, hM⟩ := bindS hM
            refine CG rfl rfl rfl (by rw [hg9]; rfl) [encS p1, encS s6] cf7 rfl (lexrepair_Distance_ok hrv10 hs.imm) rfl ?_
            rintro v11 wv11 ⟨gg11, hvv11, hegg11⟩
            have hlegg11 := hegg11.le hs.imm
            replace hs := hs.call hegg11
            replace hrelxs1 := hrelxs1.mono hlegg11
            replace hag0 := hag0.trans hlegg11
            obtain ⟨cs10, rfl, hcs10⟩ := hvv11
            have hcs10 : cs10 = _ := hcs10; subst hcs10
            refine OW_nil ?_
            have hS : SS g0 w0 g0 [.row v2 5 (tInt .u8).sz [p3].length xs1] _ := ⟨gg11, hag0, hs⟩
            refine ⟨fun _ => hS, ?_⟩
            refine AG rfl rfl rfl rfl (by rw [hg9]; rfl) hS (fun w9 h9 => by obtain ⟨g9, hle9, hs⟩ := h9; exact r_eql rfl rfl) rfl ?_
            refine A rfl hS (fun w9 h9 => by obtain ⟨g9, hle9, hs⟩ := h9; exact r_pickT (v := Value.bool (rv10 == 1)) rfl hg9 rfl) rfl ?_
            refine A rfl hS (fun w9 h9 => by obtain ⟨g9, hle9, hs⟩ := h9; exact r_move (v := Value.bool (rv10 == 1)) rfl) rfl ?_
            rcases condS hM with ⟨hg10, hM⟩ | ⟨hg10, hM⟩
            · refine AG rfl rfl rfl rfl (by rw [hg10]; rfl) hS (fun w9 h9 => by obtain ⟨g9, hle9, hs⟩ := h9; exact r_move (v := encS p1) rfl) rfl ?_
              refine AG rfl rfl rfl rfl (by rw [hg10]; rfl) hS (fun w9 h9 => by obtain ⟨g9, hle9, hs⟩ := h9; exact r_move (v := encS s12) rfl) rfl ?_
              refine A1 rfl ?_
              obtain ⟨rv11, hrv11, hM⟩ := bindS hM
              refine CG rfl rfl rfl (by rw [hg10]; rfl) [encS p1, encS s12] cf7 rfl (lexrepair_Distance_ok hrv11 hs.imm) rfl ?_
              rintro v12 wv12 ⟨gg12, hvv12, hegg12⟩
              have hlegg12 := hegg12.le hs.imm
              replace hs := hs.call hegg12
              replace hrelxs1 := hrelxs1.mono hlegg12
              replace hag0 := hag0.trans hlegg12
              obtain ⟨cs11, rfl, hcs11⟩ := hvv12
              have hcs11 : cs11 = _ := hcs11; subst hcs11
              refine OW_nil ?_
              have hS : SS g0 w0 g0 [.row v2 5 (tInt .u8).sz [p3].length xs1] _ := ⟨gg12, hag0, hs⟩
              refine ⟨fun _ => hS, ?_⟩
              refine AG rfl rfl rfl rfl (by rw [hg10]; rfl) hS (fun w9 h9 => by obtain ⟨g9, hle9, hs⟩ := h9; exact r_leq rfl rfl) rfl ?_
              refine A rfl hS (fun w9 h9 => by obtain ⟨g9, hle9, hs⟩ := h9; exact r_pickT (v := Value.bool (decide (rv11 ≤ 1))) rfl hg10 rfl) rfl ?_
              refine A rfl hS (fun w9 h9 => by obtain ⟨g9, hle9, hs⟩ := h9; exact r_move (v := Value.bool (decide (rv11 ≤ 1))) rfl) rfl ?_
              rcases condS hM with ⟨hg11, hM⟩ | ⟨hg11, hM⟩
              · refine AG rfl rfl rfl rfl (by rw [hg11]; rfl) hS (fun w9 h9 => by obtain ⟨g9, hle9, hs⟩ := h9; exact r_move (v := encS p1) rfl) rfl ?_
                refine AG rfl rfl rfl rfl (by rw [hg11]; rfl) hS (fun w9 h9 => by obtain ⟨g9, hle9, hs⟩ := h9; exact r_move (v := encS s13) rfl) rfl ?_
                refine A1 rfl ?_
                obtain ⟨rv12, hrv12, hM⟩ := bindS hM
                refine CG rfl rfl rfl (by rw [hg11]; rfl) [encS p1, encS s13] cf7 rfl (lexrepair_Distance_ok hrv12 hs.imm) rfl ?_
                rintro v13 wv13 ⟨gg13, hvv13, hegg13⟩
                have hlegg13 := hegg13.le hs.imm
                replace hs := hs.call hegg13
                replace hrelxs1 := hrelxs1.mono hlegg13
                replace hag0 := hag0.trans hlegg13
                obtain ⟨cs12, rfl, hcs12⟩ := hvv13
                have hcs12 : cs12 = _ := hcs12; subst hcs12
                refine OW_nil ?_
                have hS : SS g0 w0 g0 [.row v2 5 (tInt .u8).sz [p3].length xs1] _ := ⟨gg13, hag0, hs⟩
                refine ⟨fun _ => hS, ?_⟩
                refine AG rfl rfl rfl rfl (by rw [hg11]; rfl) hS (fun w9 h9 => by obtain ⟨g9, hle9, hs⟩ := h9; exact r_leq rfl rfl) rfl ?_
                refine A rfl hS (fun w9 h9 => by obtain ⟨g9, hle9, hs⟩ := h9; exact r_pickT (v := Value.bool (decide (rv12 ≤ 1))) rfl hg11 rfl) rfl ?_
                refine A rfl hS (fun w9 h9 => by obtain ⟨g9, hle9, hs⟩ := h9; exact r_move (v := Value.bool (decide (rv12 ≤ 1))) rfl) rfl ?_
                rcases condS hM with ⟨hg12, hM⟩ | ⟨hg12, hM⟩
                · refine AG rfl rfl rfl rfl (by rw [hg12]; rfl) hS (fun w9 h9 => by obtain ⟨g9, hle9, hs⟩ := h9; exact r_move (v := encS p1) rfl) rfl ?_
                  refine AG rfl rfl rfl rfl (by rw [hg12]; rfl) hS (fun w9 h9 => by obtain ⟨g9, hle9, hs⟩ := h9; exact r_move (v := encS s13) rfl) rfl ?_
                  refine AG rfl rfl rfl rfl (by rw [hg12]; rfl) hS (fun w9 h9 => by obtain ⟨g9, hle9, hs⟩ := h9; exact r_move (v := Value.int .u8 p3) rfl) rfl ?_
                  refine AG rfl rfl rfl rfl (by rw [hg12]; rfl) hS (fun w9 h9 => by obtain ⟨g9, hle9, hs⟩ := h9; exact r_move (v := encS p1) rfl) rfl ?_
                  refine AG rfl rfl rfl rfl (by rw [hg12]; rfl) hS (fun w9 h9 => by obtain ⟨g9, hle9, hs⟩ := h9; exact r_move (v := Value.int .i64 t2) rfl) rfl ?_
                  obtain ⟨c2, hc2, hM⟩ := bindS hM
                  refine AG rfl rfl rfl rfl (by rw [hg12]; rfl) hS (fun w9 h9 => by obtain ⟨g9, hle9, hs⟩ := h9; exact r_idxStr Try.underlying9 rfl rfl hc2) rfl ?_
                  refine AG rfl rfl rfl rfl (by rw [hg12]; rfl) hS (fun w9 h9 => by obtain ⟨g9, hle9, hs⟩ := h9; exact r_eql rfl rfl) rfl ?_
                  refine A1 rfl ?_
                  obtain ⟨rv13, hrv13, hM⟩ := bindS hM
                  refine CG rfl rfl rfl (by rw [hg12]; rfl) [encS p1, encS s13] cf7 rfl (lexrepair_Distance_ok hrv13 hs.imm) rfl ?_
                  rintro v14 wv14 ⟨gg14, hvv14, hegg14⟩
                  have hlegg14 := hegg14.le hs.imm
                  replace hs := hs.call hegg14
                  replace hrelxs1 := hrelxs1.mono hlegg14
                  replace hag0 := hag0.trans hlegg14
                  obtain ⟨cs13, rfl, hcs13⟩ := hvv14
                  have hcs13 : cs13 = _ := hcs13; subst hcs13
                  refine OW_nil ?_
                  have hS : SS g0 w0 g0 [.row v2 5 (tInt .u8).sz [p3].length xs1] _ := ⟨gg14, hag0, hs⟩
                  refine ⟨fun _ => hS, ?_⟩
                  refine AG rfl rfl rfl rfl (by rw [hg12]; rfl) hS (fun w9 h9 => by obtain ⟨g9, hle9, hs⟩ := h9; exact r_eql rfl rfl) rfl ?_
                  refine AG rfl rfl rfl rfl (by rw [hg12]; rfl) hS (fun w9 h9 => by obtain ⟨g9, hle9, hs⟩ := h9; exact r_eqlB Try.underlying4 rfl rfl) rfl ?_
                  refine A rfl hS (fun w9 h9 => by obtain ⟨g9, hle9, hs⟩ := h9; exact r_pickT (v := Value.bool ((rv13 == 0) == (p3 == c2))) rfl hg12 rfl) rfl ?_
                  refine A rfl hS (fun w9 h9 => by obtain ⟨g9, hle9, hs⟩ := h9; exact r_assign (v := Value.bool ((rv13 == 0) == (p3 == c2))) rfl) rfl ?_
                  refine AN ?_
                  obtain rfl := Option.some.inj hM
                  exact ⟨gg14, rfl, hds, hag0, (hs.sub (.cons _ .slnil))⟩
                · refine AK rfl rfl rfl rfl (by rw [hg12]; rfl) hS rfl ?_
                  refine AK rfl rfl rfl rfl (by rw [hg12]; rfl) hS rfl ?_
                  refine AK rfl rfl rfl rfl (by rw [hg12]; rfl) hS rfl ?_
                  refine AK rfl rfl rfl rfl (by rw [hg12]; rfl) hS rfl ?_
                  refine AK rfl rfl rfl rfl (by rw [hg12]; rfl) hS rfl ?_
                  refine AK rfl rfl rfl rfl (by rw [hg12]; rfl) hS rfl ?_
                  refine AK rfl rfl rfl rfl (by rw [hg12]; rfl) hS rfl ?_
                  refine A1 rfl ?_
                  refine OK rfl rfl rfl (by rw [hg12]; rfl) rfl ?_
                  refine OW_nil ⟨fun _ => hS, ?_⟩
                  refine AK rfl rfl rfl rfl (by rw [hg12]; rfl) hS rfl ?_
                  refine AK rfl rfl rfl rfl (by rw [hg12]; rfl) hS rfl ?_
                  refine A rfl hS (fun w9 h9 => by obtain ⟨g9, hle9, hs⟩ := h9; exact r_pickF (v := Value.bool false) rfl hg12 rfl) rfl ?_
                  refine A rfl hS (fun w9 h9 => by obtain ⟨g9, hle9, hs⟩ := h9; exact r_assign (v := Value.bool false) rfl) rfl ?_
                  refine AN ?_
                  obtain rfl := Option.some.inj hM
                  exact ⟨gg13, rfl, hds, hag0, (hs.sub (.cons _ .slnil))⟩
              · refine AK rfl rfl rfl rfl (by rw [hg11]; rfl) hS rfl ?_
                refine AK rfl rfl rfl rfl (by rw [hg11]; rfl) hS rfl ?_
                refine A1 rfl ?_
                refine OK rfl rfl rfl (by rw [hg11]; rfl) rfl ?_
                refine OW_nil ⟨fun _ => hS, ?_⟩
                refine AK rfl rfl rfl rfl (by rw [hg11]; rfl) hS rfl ?_
                refine A rfl hS (fun w9 h9 => by obtain ⟨g9, hle9, hs⟩ := h9; exact r_pickF (v := Value.bool false) rfl hg11 rfl) rfl ?_
                refine A rfl hS (fun w9 h9 => by obtain ⟨g9, hle9, hs⟩ := h9; exact r_move (v := Value.bool false) rfl) rfl ?_
                refine AK rfl rfl rfl rfl rfl hS rfl ?_
                refine AK rfl rfl rfl rfl rfl hS rfl ?_
                refine AK rfl rfl rfl rfl rfl hS rfl ?_
                refine AK rfl rfl rfl rfl rfl hS rfl ?_
                refine AK rfl rfl rfl rfl rfl hS rfl ?_
                refine AK rfl rfl rfl rfl rfl hS rfl ?_
                refine AK rfl rfl rfl rfl rfl hS rfl ?_
                refine A1 rfl ?_
                refine OK rfl rfl rfl rfl rfl ?_
                refine OW_nil ⟨fun _ => hS, ?_⟩
                refine AK rfl rfl rfl rfl rfl hS rfl ?_
                refine AK rfl rfl rfl rfl rfl hS rfl ?_
                refine A rfl hS (fun w9 h9 => by obtain ⟨g9, hle9, hs⟩ := h9; exact r_pickF (v := Value.bool false) rfl rfl rfl) rfl ?_
                refine A rfl hS (fun w9 h9 => by obtain ⟨g9, hle9, hs⟩ := h9; exact r_assign (v := Value.bool false) rfl) rfl ?_
                refine AN ?_
                obtain rfl := Option.some.inj hM
                exact ⟨gg12, rfl, hds, hag0, (hs.sub (.cons _ .slnil))⟩
            · refine AK rfl rfl rfl rfl (by rw [hg10]; rfl) hS rfl ?_
              refine AK rfl rfl rfl rfl (by rw [hg10]; rfl) hS rfl ?_
              refine A1 rfl ?_
              refine OK rfl rfl rfl (by rw [hg10]; rfl) rfl ?_
              refine OW_nil ⟨fun _ => hS, ?_⟩
              refine AK rfl rfl rfl rfl (by rw [hg10]; rfl) hS rfl ?_
              refine A rfl hS (fun w9 h9 => by obtain ⟨g9, hle9, hs⟩ := h9; exact r_pickF (v := Value.bool false) rfl hg10 rfl) rfl ?_
              refine A rfl hS (fun w9 h9 => by obtain ⟨g9, hle9, hs⟩ := h9; exact r_move (v := Value.bool false) rfl) rfl ?_
              refine AK rfl rfl rfl rfl rfl hS rfl ?_
              refine AK rfl rfl rfl rfl rfl hS rfl ?_
              refine A1 rfl ?_
              refine OK rfl rfl rfl rfl rfl ?_
              refine OW_nil ⟨fun _ => hS, ?_⟩
              refine AK rfl rfl rfl rfl rfl hS rfl ?_
              refine A rfl hS (fun w9 h9 => by obtain ⟨g9, hle9, hs⟩ := h9; exact r_pickF (v := Value.bool false) rfl rfl rfl) rfl ?_
              refine A rfl hS (fun w9 h9 => by obtain ⟨g9, hle9, hs⟩ := h9; exact r_move (v := Value.bool false) rfl) rfl ?_
              refine AK rfl rfl rfl rfl rfl hS rfl ?_
              refine AK rfl rfl rfl rfl rfl hS rfl ?_
              refine AK rfl rfl rfl rfl rfl hS rfl ?_
              refine AK rfl rfl rfl rfl rfl hS rfl ?_
              refine AK rfl rfl rfl rfl rfl hS rfl ?_
              refine AK rfl rfl rfl rfl rfl hS rfl ?_
              refine AK rfl rfl rfl rfl rfl hS rfl ?_
              refine A1 rfl ?_
              refine OK rfl rfl rfl rfl rfl ?_
              refine OW_nil ⟨fun _ => hS, ?_⟩
              refine AK rfl rfl rfl rfl rfl hS rfl ?_
              refine AK rfl rfl rfl rfl rfl hS rfl ?_
              refine A rfl hS (fun w9 h9 => by obtain ⟨g9, hle9, hs⟩ := h9; exact r_pickF (v := Value.bool false) rfl rfl rfl) rfl ?_
              refine A rfl hS (fun w9 h9 => by obtain ⟨g9, hle9, hs⟩ := h9; exact r_assign (v := Value.bool false) rfl) rfl ?_
              refine AN ?_
              obtain rfl := Option.some.inj hM
              exact ⟨gg11, rfl, hds, hag0, (hs.sub (.cons _ .slnil))⟩
          · refine AK rfl rfl rfl rfl (by rw [hg9]; rfl) hS rfl ?_
            refine AK rfl rfl rfl rfl (by rw [hg9]; rfl) hS rfl ?_
            refine A1 rfl ?_
            refine OK rfl rfl rfl (by rw [hg9]; rfl) rfl ?_
            refine OW_nil ⟨fun _ => hS, ?_⟩
            refine AK rfl rfl rfl rfl (by rw [hg9]; rfl) hS rfl ?_
            refine A rfl hS (fun w9 h9 => by obtain ⟨g9, hle9, hs⟩ := h9; exact r_pickF (v := Value.bool false) rfl hg9 rfl) rfl ?_
            refine A rfl hS (fun w9 h9 => by obtain ⟨g9, hle9, hs⟩ := h9; exact r_move (v := Value.bool false) rfl) rfl ?_
            refine AK rfl rfl rfl rfl rfl hS rfl ?_
            refine AK rfl rfl rfl rfl rfl hS rfl ?_
            refine A1 rfl ?_
            refine OK rfl rfl rfl rfl rfl ?_
            refine OW_nil ⟨fun _ => hS, ?_⟩
            refine AK rfl rfl rfl rfl rfl hS rfl ?_
            refine A rfl hS (fun w9 h9 => by obtain ⟨g9, hle9, hs⟩ := h9; exact r_pickF (v := Value.bool false) rfl rfl rfl) rfl ?_
            refine A rfl hS (fun w9 h9 => by obtain ⟨g9, hle9, hs⟩ := h9; exact r_move (v := Value.bool false) rfl) rfl ?_
            refine AK rfl rfl rfl rfl rfl hS rfl ?_
            refine AK rfl rfl rfl rfl rfl hS rfl ?_
            refine A1 rfl ?_
            refine OK rfl rfl rfl rfl rfl ?_
            refine OW_nil ⟨fun _ => hS, ?_⟩
            refine AK rfl rfl rfl rfl rfl hS rfl ?_
            refine A rfl hS (fun w9 h9 => by obtain ⟨g9, hle9, hs⟩ := h9; exact r_pickF (v := Value.bool false) rfl rfl rfl) rfl ?_
            refine A rfl hS (fun w9 h9 => by obtain ⟨g9, hle9, hs⟩ := h9; exact r_move (v := Value.bool false) rfl) rfl ?_
            refine AK rfl rfl rfl rfl rfl hS rfl ?_
            refine AK rfl rfl rfl rfl rfl hS rfl ?_
            refine AK rfl rfl rfl rfl rfl hS rfl ?_
            refine AK rfl rfl rfl rfl rfl hS rfl ?_
            refine AK rfl rfl rfl rfl rfl hS rfl ?_
            refine AK rfl rfl rfl rfl rfl hS rfl ?_
            refine AK rfl rfl rfl rfl rfl hS rfl ?_
            refine A1 rfl ?_
            refine OK rfl rfl rfl rfl rfl ?_
            refine OW_nil ⟨fun _ => hS, ?_⟩
            refine AK rfl rfl rfl rfl rfl hS rfl ?_
            refine AK rfl rfl rfl rfl rfl hS rfl ?_
            refine A rfl hS (fun w9 h9 => by obtain ⟨g9, hle9, hs⟩ := h9; exact r_pickF (v := Value.bool false) rfl rfl rfl) rfl ?_
            refine A rfl hS (fun w9 h9 => by obtain ⟨g9, hle9, hs⟩ := h9; exact r_assign (v := Value.bool false) rfl) rfl ?_
            refine AN ?_
            obtain rfl := Option.some.inj hM
            exact ⟨gg10, rfl, hds, hag0, (hs.sub (.cons _ .slnil))⟩
        · refine AK rfl rfl rfl rfl (by rw [hg8]; rfl) hS rfl ?_
          refine AK rfl rfl rfl rfl (by rw [hg8]; rfl) hS rfl ?_
          refine A1 rfl ?_
          refine OK rfl rfl rfl (by rw [hg8]; rfl) rfl ?_
          refine OW_nil ⟨fun _ => hS, ?_⟩
          refine AK rfl rfl rfl rfl (by rw [hg8]; rfl) hS rfl ?_
          refine A rfl hS (fun w9 h9 => by obtain ⟨g9, hle9, hs⟩ := h9; exact r_pickF (v := Value.bool false) rfl hg8 rfl) rfl ?_
          refine A rfl hS (fun w9 h9 => by obtain ⟨g9, hle9, hs⟩ := h9; exact r_move (v := Value.bool false) rfl) rfl ?_
          refine AK rfl rfl rfl rfl rfl hS rfl ?_
          refine AK rfl rfl rfl rfl rfl hS rfl ?_
          refine A1 rfl ?_
          refine OK rfl rfl rfl rfl rfl ?_
          refine OW_nil ⟨fun _ => hS, ?_⟩
          refine AK rfl rfl rfl rfl rfl hS rfl ?_
          refine A rfl hS (fun w9 h9 => by obtain ⟨g9, hle9, hs⟩ := h9; exact r_pickF (v := Value.bool false) rfl rfl rfl) rfl ?_
          refine A rfl hS (fun w9 h9 => by obtain ⟨g9, hle9, hs⟩ := h9; exact r_move (v := Value.bool false) rfl) rfl ?_
          refine AK rfl rfl rfl rfl rfl hS rfl ?_
          refine AK rfl rfl rfl rfl rfl hS rfl ?_
          refine A1 rfl ?_
          refine OK rfl rfl rfl rfl rfl ?_
          refine OW_nil ⟨fun _ => hS, ?_⟩
          refine AK rfl rfl rfl rfl rfl hS rfl ?_
          refine A rfl hS (fun w9 h9 => by obtain ⟨g9, hle9, hs⟩ := h9; exact r_pickF (v := Value.bool false) rfl rfl rfl) rfl ?_
          refine A rfl hS (fun w9 h9 => by obtain ⟨g9, hle9, hs⟩ := h9; exact r_move (v := Value.bool false) rfl) rfl ?_
          refine AK rfl rfl rfl rfl rfl hS rfl ?_
          refine AK rfl rfl rfl rfl rfl hS rfl ?_
          refine A1 rfl ?_
          refine OK rfl rfl rfl rfl rfl ?_
          refine OW_nil ⟨fun _ => hS, ?_⟩
          refine AK rfl rfl rfl rfl rfl hS rfl ?_
          refine A rfl hS (fun w9 h9 => by obtain ⟨g9, hle9, hs⟩ := h9; exact r_pickF (v := Value.bool false) rfl rfl rfl) rfl ?_
          refine A rfl hS (fun w9 h9 => by obtain ⟨g9, hle9, hs⟩ := h9; exact r_move (v := Value.bool false) rfl) rfl ?_
          refine AK rfl rfl rfl rfl rfl hS rfl ?_
          refine AK rfl rfl rfl rfl rfl hS rfl ?_
          refine AK rfl rfl rfl rfl rfl hS rfl ?_
          refine AK rfl rfl rfl rfl rfl hS rfl ?_
          refine AK rfl rfl rfl rfl rfl hS rfl ?_
          refine AK rfl rfl rfl rfl rfl hS rfl ?_
          refine AK rfl rfl rfl rfl rfl hS rfl ?_
          refine A1 rfl ?_
          refine OK rfl rfl rfl rfl rfl ?_
          refine OW_nil ⟨fun _ => hS, ?_⟩
          refine AK rfl rfl rfl rfl rfl hS rfl ?_
          refine AK rfl rfl rfl rfl rfl hS rfl ?_
          refine A rfl hS (fun w9 h9 => by obtain ⟨g9, hle9, hs⟩ := h9; exact r_pickF (v := Value.bool false) rfl rfl rfl) rfl ?_
          refine A rfl hS (fun w9 h9 => by obtain ⟨g9, hle9, hs⟩ := h9; exact r_assign (v := Value.bool false) rfl) rfl ?_
          refine AN ?_
          obtain rfl := Option.some.inj hM
          exact ⟨gg9, rfl, hds, hag0, (hs.sub (.cons _ .slnil))⟩
      · clear hs
        rintro E w ⟨gg8, hE6, hds, hlegg8, hs⟩
        have hM := hKhx2
        obtain ⟨E, rfl⟩ := open1 (E := E) hE6
        refine WP_ret ?_
        obtain rfl := Option.some.inj hM
        refine FL_nil hds ?_
        exact ⟨_, res1 Try.results5 (rv_tmp (v := Value.bool xv2) rfl), gg8, ⟨[Value.bool xv2], rfl, rfl⟩, hs.ext⟩

end Go.Proofs.Ytjdmfabmacdpgaa
