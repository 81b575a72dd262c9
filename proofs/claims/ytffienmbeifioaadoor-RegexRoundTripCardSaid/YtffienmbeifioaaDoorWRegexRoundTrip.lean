/- The walk of the law. Printed by a program of my own. -/
import Derived.Test.YtffienmbeifioaaDoorTyp
import Derived.Test.YtffienmbeifioaaDoorWalk2
import Derived.Test.YtffienmbeifioaaDoorWalk3
import Derived.Test.YtffienmbeifioaaDoorWalk4
import Derived.Test.YtffienmbeifioaaDoorWalk7
import Derived.Test.YtffienmbeifioaaDoorWalk12
set_option linter.unusedVariables false
set_option linter.unusedSimpArgs false
namespace Go.Proofs.YtffienmbeifioaaDoor
open Go.Lx Go.RowKit
set_option maxRecDepth 100000 in
theorem law08_RegexRoundTrip_ok {rv1 : T_Regex} {s1 : Str} {r : Bool} (hM : M.law08_RegexRoundTrip rv1 s1 = some r) {g0 : Hp} {w0 : World} (hi : Imm g0 w0) {cs1 : List Value} (hcs1 : tT_Regex.rel g0 cs1 rv1) (hG0 : GBox 0 (M.deBruijn.1.map (Value.int .u8)) g0) :
    CallsV Tryd.prog 6 #[Value.agg cs1.toArray, encS s1] w0 (fun v w' => ∃ g', (VRd tBool false g' v r) ∧ Ext g0 w0 g' w') := by
  unfold M.law08_RegexRoundTrip at hM
  obtain ⟨cs2, cs3, cs4, rfl, hcs2, hcs3, hcs4⟩ := tT_Regex_iff.1 hcs1
  have hcs2 : cs2 = _ := hcs2; subst hcs2
  have hcs3 : cs3 = _ := hcs3; subst hcs3
  obtain ⟨v1, rfl, hRv1⟩ := hcs4
  have hs := Sep.start hi
  refine calls_of_WP (args := [Value.agg (List.toArray (α := Value) (([Value.int .i64 rv1.Kind]) ++ ((rv1.Set.1.map (Value.int .u64)) ++ ([v1])))), encS s1]) Tryd.func6 rfl Tryd.ntmps6 rfl ?_
  have hds : (argEnv [Value.agg (List.toArray (α := Value) (([Value.int .i64 rv1.Kind]) ++ ((rv1.Set.1.map (Value.int .u64)) ++ ([v1])))), encS s1]).ds = [] := rfl
  refine WP_seq ?_
  refine WP_region ?_
  refine OW_box (v := Value.agg (List.toArray (α := Value) (([Value.int .i64 rv1.Kind]) ++ ((rv1.Set.1.map (Value.int .u64)) ++ ([v1]))))) rfl hs (zs := ([Value.int .i64 rv1.Kind]) ++ ((rv1.Set.1.map (Value.int .u64)) ++ ([v1]))) rfl rfl ?_
  intro b1 wv1 hs
  refine O (r_assign (v := Value.bool false) rfl) rfl ?_
  refine OW_nil ?_
  refine WP_seq ?_
  obtain ⟨xv1, hx1, hKhx1⟩ := bindS hM
  refine WP_cut (fun E w => ∃ (gg3 : Hp), E 1 = encS s1 ∧ E 2 = Value.pointer (some ⟨b1, 0, none⟩) ∧ E 21 = Value.bool xv1 ∧ E.ds = [] ∧ Hle g0 gg3 ∧ Go.Lx.Sep g0 w0 gg3 w [Go.Lx.box b1 27 (([Value.int .i64 rv1.Kind]) ++ ((rv1.Set.1.map (Value.int .u64)) ++ ([v1])))]) ?_ ?_
  · have hM := hx1
    have hag0 := Hle.refl g0
    refine WP_region ?_
    refine O (r_loadN (cs := ([Value.int .i64 rv1.Kind]) ++ ((rv1.Set.1.map (Value.int .u64)) ++ ([v1]))) ti27 rfl (by simp [rv1.Set.2]) (hs.cells (i := 0) rfl)) rfl ?_
    obtain ⟨rv4, hrv4, hM⟩ := bindS hM
    refine C [Value.agg (List.toArray (α := Value) (([Value.int .i64 rv1.Kind]) ++ ((rv1.Set.1.map (Value.int .u64)) ++ ([v1])))), Value.int .i64 40] cf19 rfl (law08_small_ok hrv4 hs.imm (tT_Regex_iff.2 ⟨[Value.int .i64 rv1.Kind], rv1.Set.1.map (Value.int .u64), [v1], rfl, rfl, rfl, ⟨_, rfl, hRv1⟩⟩)) rfl ?_
    rintro v4 wv4 ⟨gg4, hvv4, hegg4⟩
    have hlegg4 := hegg4.le hs.imm
    replace hs := hs.call hegg4
    replace hG0 := hG0.mono hlegg4
    replace hRv1 := hRv1.mono hlegg4
    replace hag0 := hag0.trans hlegg4
    obtain ⟨cs7, rfl, hcs7⟩ := hvv4
    have hcs7 : cs7 = _ := hcs7; subst hcs7
    refine O (r_not rfl) rfl ?_
    refine O (r_move (v := Value.bool (!rv4)) rfl) rfl ?_
    rcases condS hM with ⟨hg3, hM⟩ | ⟨hg3, hM⟩
    · refine OK rfl rfl rfl (by rw [hg3]; rfl) rfl ?_
      refine OK rfl rfl rfl (by rw [hg3]; rfl) rfl ?_
      refine OK rfl rfl rfl (by rw [hg3]; rfl) rfl ?_
      refine O (r_pickT (v := Value.bool true) rfl hg3 rfl) rfl ?_
      refine O (r_move (v := Value.bool true) rfl) rfl ?_
      refine OK rfl rfl rfl rfl rfl ?_
      refine OK rfl rfl rfl rfl rfl ?_
      refine OK rfl rfl rfl rfl rfl ?_
      refine O (r_pickT (v := Value.bool true) rfl rfl rfl) rfl ?_
      refine OW_nil ?_
      obtain rfl := Option.some.inj hM
      exact ⟨gg4, rfl, rfl, rfl, hds, hag0, hs⟩
    · refine OG rfl rfl rfl (by rw [hg3]; rfl) (r_loadN (cs := ([Value.int .i64 rv1.Kind]) ++ ((rv1.Set.1.map (Value.int .u64)) ++ ([v1]))) ti27 rfl (by simp [rv1.Set.2]) (hs.cells (i := 0) rfl)) rfl ?_
      obtain ⟨rv5, hrv5, hM⟩ := bindS hM
      refine CG rfl rfl rfl (by rw [hg3]; rfl) [Value.agg (List.toArray (α := Value) (([Value.int .i64 rv1.Kind]) ++ ((rv1.Set.1.map (Value.int .u64)) ++ ([v1]))))] cf20 rfl (ref08_Printable_ok hrv5 hs.imm (tT_Regex_iff.2 ⟨[Value.int .i64 rv1.Kind], rv1.Set.1.map (Value.int .u64), [v1], rfl, rfl, rfl, ⟨_, rfl, hRv1⟩⟩)) rfl ?_
      rintro v5 wv5 ⟨gg5, hvv5, hegg5⟩
      have hlegg5 := hegg5.le hs.imm
      replace hs := hs.call hegg5
      replace hG0 := hG0.mono hlegg5
      replace hRv1 := hRv1.mono hlegg5
      replace hag0 := hag0.trans hlegg5
      obtain ⟨cs8, rfl, hcs8⟩ := hvv5
      have hcs8 : cs8 = _ := hcs8; subst hcs8
      refine OG rfl rfl rfl (by rw [hg3]; rfl) (r_not rfl) rfl ?_
      refine O (r_pickF (v := Value.bool (!rv5)) rfl hg3 rfl) rfl ?_
      refine O (r_move (v := Value.bool (!rv5)) rfl) rfl ?_
      rcases condS hM with ⟨hg4, hM⟩ | ⟨hg4, hM⟩
      · refine OK rfl rfl rfl (by rw [hg4]; rfl) rfl ?_
        refine OK rfl rfl rfl (by rw [hg4]; rfl) rfl ?_
        refine OK rfl rfl rfl (by rw [hg4]; rfl) rfl ?_
        refine O (r_pickT (v := Value.bool true) rfl hg4 rfl) rfl ?_
        refine OW_nil ?_
        obtain rfl := Option.some.inj hM
        exact ⟨gg5, rfl, rfl, rfl, hds, hag0, hs⟩
      · refine OG rfl rfl rfl (by rw [hg4]; rfl) (r_move (v := encS s1) rfl) rfl ?_
        refine OG rfl rfl rfl (by rw [hg4]; rfl) (r_lenStr Tryd.underlying9 rfl) rfl ?_
        refine OG rfl rfl rfl (by rw [hg4]; rfl) (r_gtr rfl rfl) rfl ?_
        refine O (r_pickF (v := Value.bool (decide (12 < (s1.length : Int)))) rfl hg4 rfl) rfl ?_
        refine OW_nil ?_
        obtain rfl := Option.some.inj hM
        exact ⟨gg5, rfl, rfl, rfl, hds, hag0, hs⟩
  · clear hs
    rintro E w ⟨gg3, hE1, hE2, hE21, hds, hlegg3, hs⟩
    have hM := hKhx1
    obtain ⟨E, rfl⟩ := open1 (E := E) hE1
    obtain ⟨E, rfl⟩ := open1 (E := E) hE2
    obtain ⟨E, rfl⟩ := open1 (E := E) hE21
    replace hRv1 := hRv1.mono hlegg3
    replace hG0 := hG0.mono hlegg3
    rcases condS hM with ⟨hc1, hM⟩ | ⟨hc1, hM⟩
    · refine WP_true rfl hc1 ?_
      refine WP_seq ?_
      refine WP_region ?_
      obtain ⟨rv6, hrv6, hM⟩ := bindS hM
      refine C [] cf13 rfl (law08_awake_ok hrv6 hs.imm hG0) rfl ?_
      rintro v6 wv6 ⟨gg6, hvv6, hegg6⟩
      have hlegg6 := hegg6.le hs.imm
      replace hs := hs.call hegg6
      replace hRv1 := hRv1.mono hlegg6
      replace hG0 := hG0.mono hlegg6
      obtain ⟨cs9, rfl, hcs9⟩ := hvv6
      have hcs9 : cs9 = _ := hcs9; subst hcs9
      refine O (r_assign (v := Value.bool rv6) rfl) rfl ?_
      refine OW_nil ?_
      refine WP_ret ?_
      obtain rfl := Option.some.inj hM
      refine FL_nil hds ?_
      exact ⟨_, res1 Tryd.results6 (rv_tmp (v := Value.bool rv6) rfl), gg6, ⟨[Value.bool rv6], rfl, rfl⟩, hs.ext⟩
    · refine WP_false rfl hc1 ?_
      refine WP_skip ?_
      refine WP_seq ?_
      refine WP_region ?_
      refine O (r_loadN (cs := ([Value.int .i64 rv1.Kind]) ++ ((rv1.Set.1.map (Value.int .u64)) ++ ([v1]))) ti27 rfl (by simp [rv1.Set.2]) (hs.cells (i := 0) rfl)) rfl ?_
      obtain ⟨t1, ht1, hM⟩ := bindS hM
      refine C [Value.agg (List.toArray (α := Value) (([Value.int .i64 rv1.Kind]) ++ ((rv1.Set.1.map (Value.int .u64)) ++ ([v1]))))] cf21 rfl (regex_Format_ok ht1 hs.imm (tT_Regex_iff.2 ⟨[Value.int .i64 rv1.Kind], rv1.Set.1.map (Value.int .u64), [v1], rfl, rfl, rfl, ⟨_, rfl, hRv1⟩⟩) hG0) rfl ?_
      rintro v7 wv7 ⟨gg7, hvv7, hegg7⟩
      have hlegg7 := hegg7.le hs.imm
      replace hs := hs.call hegg7
      replace hRv1 := hRv1.mono hlegg7
      replace hG0 := hG0.mono hlegg7
      obtain ⟨cs10, rfl, hcs10⟩ := hvv7
      have hcs10 : cs10 = _ := hcs10; subst hcs10
      refine O (r_assign (v := encS t1) rfl) rfl ?_
      refine OW_nil ?_
      refine WP_seq ?_
      refine WP_region ?_
      refine O (r_move (v := encS t1) rfl) rfl ?_
      obtain ⟨rv7, hrv7, hM⟩ := bindS hM
      refine C [encS t1] cf16 rfl (regex_Parse_ok hrv7 hs.imm) rfl ?_
      rintro v8 wv8 ⟨gg8, hvv8, hegg8⟩
      have hlegg8 := hegg8.le hs.imm
      replace hs := hs.call hegg8
      replace hRv1 := hRv1.mono hlegg8
      replace hG0 := hG0.mono hlegg8
      obtain ⟨v9, v10, v11, rfl, hvv9, hvv10, hvv11⟩ := hvv8
      obtain ⟨cs11, rfl, hcs11⟩ := hvv11
      have hcs11 : cs11 = _ := hcs11; subst hcs11
      obtain ⟨cs12, rfl, hcs12⟩ := hvv10
      have hcs12 : cs12 = _ := hcs12; subst hcs12
      obtain ⟨cs13, rfl, hcs13⟩ := hvv9
      obtain ⟨cs14, cs15, cs16, rfl, hcs14, hcs15, hcs16⟩ := tT_Regex_iff.1 hcs13
      have hcs14 : cs14 = _ := hcs14; subst hcs14
      have hcs15 : cs15 = _ := hcs15; subst hcs15
      obtain ⟨v12, rfl, hRv12⟩ := hcs16
      refine O (r_move (v := Value.tuple #[Value.agg (List.toArray (α := Value) (([Value.int .i64 rv7.1.Kind]) ++ ((rv7.1.Set.1.map (Value.int .u64)) ++ ([v12])))), Value.int .i64 rv7.2.1, Value.int .i64 rv7.2.2]) rfl) rfl ?_
      refine O (r_extract (vs := [Value.agg (List.toArray (α := Value) (([Value.int .i64 rv7.1.Kind]) ++ ((rv7.1.Set.1.map (Value.int .u64)) ++ ([v12])))), Value.int .i64 rv7.2.1, Value.int .i64 rv7.2.2]) (v := Value.agg (List.toArray (α := Value) (([Value.int .i64 rv7.1.Kind]) ++ ((rv7.1.Set.1.map (Value.int .u64)) ++ ([v12]))))) rfl rfl) rfl ?_
      refine O (r_extract (vs := [Value.agg (List.toArray (α := Value) (([Value.int .i64 rv7.1.Kind]) ++ ((rv7.1.Set.1.map (Value.int .u64)) ++ ([v12])))), Value.int .i64 rv7.2.1, Value.int .i64 rv7.2.2]) (v := Value.int .i64 rv7.2.1) rfl rfl) rfl ?_
      refine O (r_extract (vs := [Value.agg (List.toArray (α := Value) (([Value.int .i64 rv7.1.Kind]) ++ ((rv7.1.Set.1.map (Value.int .u64)) ++ ([v12])))), Value.int .i64 rv7.2.1, Value.int .i64 rv7.2.2]) (v := Value.int .i64 rv7.2.2) rfl rfl) rfl ?_
      refine OW_alloc ti27 hs (zs := ([Value.int .i64 0]) ++ (((Vec.zero 4).1.map (Value.int .u64)) ++ ([Value.slice none 0 0]))) rfl rfl ?_
      intro b2 wv9 hs
      refine OW_storeAll ti27 hs (i := 0) rfl rfl (v := Value.agg (List.toArray (α := Value) (([Value.int .i64 rv7.1.Kind]) ++ ((rv7.1.Set.1.map (Value.int .u64)) ++ ([v12]))))) rfl (vs := ([Value.int .i64 rv7.1.Kind]) ++ ((rv7.1.Set.1.map (Value.int .u64)) ++ ([v12]))) rfl (one_append (one_cons rfl one_nil) (one_append vec_one (one_cons (by obtain ⟨_, _, h9⟩ := hRv12.shape; rw [h9]; rfl) one_nil))) (by simp [rv7.1.Set.2]) (by simp [rv7.1.Set.2, (Vec.zero 4).2]) ?_
      intro wv10 hs
      refine O (r_assign (v := Value.int .i64 rv7.2.1) rfl) rfl ?_
      refine O (r_assign (v := Value.int .i64 rv7.2.2) rfl) rfl ?_
      refine OW_nil ?_
      refine WP_seq ?_
      refine WP_seq ?_
      refine WP_region ?_
      refine O (r_move (v := Value.int .i64 rv7.2.2) rfl) rfl ?_
      refine O (r_eql rfl rfl) rfl ?_
      refine OW_nil ?_
      rcases condS hM with ⟨hc2, hM⟩ | ⟨hc2, hM⟩
      · refine WP_true rfl hc2 ?_
        refine WP_seq ?_
        refine WP_region ?_
        obtain ⟨rv8, hrv8, hM⟩ := bindS hM
        refine C [] cf13 rfl (law08_awake_ok hrv8 hs.imm hG0) rfl ?_
        rintro v13 wv11 ⟨gg9, hvv13, hegg9⟩
        have hlegg9 := hegg9.le hs.imm
        replace hs := hs.call hegg9
        replace hRv1 := hRv1.mono hlegg9
        replace hG0 := hG0.mono hlegg9
        replace hRv12 := hRv12.mono hlegg9
        obtain ⟨cs17, rfl, hcs17⟩ := hvv13
        have hcs17 : cs17 = _ := hcs17; subst hcs17
        refine O (r_assign (v := Value.bool rv8) rfl) rfl ?_
        refine OW_nil ?_
        refine WP_ret ?_
        obtain rfl := Option.some.inj hM
        refine FL_nil hds ?_
        exact ⟨_, res1 Tryd.results6 (rv_tmp (v := Value.bool rv8) rfl), gg9, ⟨[Value.bool rv8], rfl, rfl⟩, hs.ext⟩
      · refine WP_false rfl hc2 ?_
        refine WP_skip ?_
        obtain ⟨xv2, hx2, hKhx2⟩ := bindS hM
        refine WP_cut (fun E w => ∃ (gg14 : Hp), E 4 = Value.bool xv2 ∧ E.ds = [] ∧ Hle gg8 gg14 ∧ Go.Lx.Sep g0 w0 gg14 w []) ?_ ?_
        · have hM := hx2
          have hagg8 := Hle.refl gg8
          refine WP_any (.s 0 (.q 1 (.q 2 (.q 3 (.q 4 (.q 5 (.q 6 (.q 8 (.s 7 (.q 9 (.q 10 (.q 11 (.q 12 (.q 13 (.q 15 (.q 16 (.s 14 (.s 17 (.q 18 (.q 19 (.q 20 (.leaf)))))))))))))))))))))) (SS g0 w0 gg8 [Go.Lx.box b2 27 (([Value.int .i64 rv7.1.Kind]) ++ ((rv7.1.Set.1.map (Value.int .u64)) ++ ([v12]))), Go.Lx.box b1 27 (([Value.int .i64 rv1.Kind]) ++ ((rv1.Set.1.map (Value.int .u64)) ++ ([v1])))]) mo (by decide +kernel) ?_
          have hs := hs.drew
          have hRv1b := hRv1
          have hG0b := hG0
          have hRv12b := hRv12
          have hS : SS g0 w0 gg8 [Go.Lx.box b2 27 (([Value.int .i64 rv7.1.Kind]) ++ ((rv7.1.Set.1.map (Value.int .u64)) ++ ([v12]))), Go.Lx.box b1 27 (([Value.int .i64 rv1.Kind]) ++ ((rv1.Set.1.map (Value.int .u64)) ++ ([v1])))] _ := ⟨gg8, Hle.refl _, hs⟩
          refine A1 rfl ?_
          obtain ⟨rv13, hrv13, hM⟩ := bindS hM
          refine C [] cf13 rfl (law08_awake_ok hrv13 hs.imm hG0) rfl ?_
          rintro v18 wv16 ⟨gg15, hvv18, hegg15⟩
          have hlegg15 := hegg15.le hs.imm
          replace hs := hs.call hegg15
          replace hRv1 := hRv1.mono hlegg15
          replace hG0 := hG0.mono hlegg15
          replace hRv12 := hRv12.mono hlegg15
          replace hagg8 := hagg8.trans hlegg15
          obtain ⟨cs22, rfl, hcs22⟩ := hvv18
          have hcs22 : cs22 = _ := hcs22; subst hcs22
          refine OW_nil ?_
          have hS : SS g0 w0 gg8 [Go.Lx.box b2 27 (([Value.int .i64 rv7.1.Kind]) ++ ((rv7.1.Set.1.map (Value.int .u64)) ++ ([v12]))), Go.Lx.box b1 27 (([Value.int .i64 rv1.Kind]) ++ ((rv1.Set.1.map (Value.int .u64)) ++ ([v1])))] _ := ⟨gg15, hagg8, hs⟩
          refine ⟨fun _ => hS, ?_⟩
          refine A rfl hS (fun w9 h9 => by obtain ⟨g9, hle9, hs⟩ := h9; exact r_move (v := Value.bool rv13) rfl) rfl ?_
          rcases condS hM with ⟨hg8, hM⟩ | ⟨hg8, hM⟩
          · refine AG rfl rfl rfl rfl (by rw [hg8]; rfl) hS (fun w9 h9 => by obtain ⟨g9, hle9, hs⟩ := h9; exact r_move (v := Value.int .i64 rv7.2.2) rfl) rfl ?_
            refine AG rfl rfl rfl rfl (by rw [hg8]; rfl) hS (fun w9 h9 => by obtain ⟨g9, hle9, hs⟩ := h9; exact r_eql rfl rfl) rfl ?_
            refine A rfl hS (fun w9 h9 => by obtain ⟨g9, hle9, hs⟩ := h9; exact r_pickT (v := Value.bool (rv7.2.2 == 0)) rfl hg8 rfl) rfl ?_
            refine A rfl hS (fun w9 h9 => by obtain ⟨g9, hle9, hs⟩ := h9; exact r_move (v := Value.bool (rv7.2.2 == 0)) rfl) rfl ?_
            rcases condS hM with ⟨hg9, hM⟩ | ⟨hg9, hM⟩
            · refine AG rfl rfl rfl rfl (by rw [hg9]; rfl) hS (fun w9 h9 => by obtain ⟨g9, hle9, hs⟩ := h9; exact r_loadN (cs := ([Value.int .i64 rv7.1.Kind]) ++ ((rv7.1.Set.1.map (Value.int .u64)) ++ ([v12]))) ti27 rfl (by simp [rv7.1.Set.2]) (hs.cells (i := 0) rfl)) rfl ?_
              refine AG rfl rfl rfl rfl (by rw [hg9]; rfl) hS (fun w9 h9 => by obtain ⟨g9, hle9, hs⟩ := h9; exact r_move (v := encS t1) rfl) rfl ?_
              refine A1 rfl ?_
              obtain ⟨rv14, hrv14, hM⟩ := bindS hM
              refine CG rfl rfl rfl (by rw [hg9]; rfl) [Value.agg (List.toArray (α := Value) (([Value.int .i64 rv7.1.Kind]) ++ ((rv7.1.Set.1.map (Value.int .u64)) ++ ([v12]))))] cf21 rfl (regex_Format_ok hrv14 hs.imm (tT_Regex_iff.2 ⟨[Value.int .i64 rv7.1.Kind], rv7.1.Set.1.map (Value.int .u64), [v12], rfl, rfl, rfl, ⟨_, rfl, hRv12⟩⟩) hG0) rfl ?_
              rintro v19 wv17 ⟨gg16, hvv19, hegg16⟩
              have hlegg16 := hegg16.le hs.imm
              replace hs := hs.call hegg16
              replace hRv1 := hRv1.mono hlegg16
              replace hG0 := hG0.mono hlegg16
              replace hRv12 := hRv12.mono hlegg16
              replace hagg8 := hagg8.trans hlegg16
              obtain ⟨cs23, rfl, hcs23⟩ := hvv19
              have hcs23 : cs23 = _ := hcs23; subst hcs23
              refine OW_nil ?_
              have hS : SS g0 w0 gg8 [Go.Lx.box b2 27 (([Value.int .i64 rv7.1.Kind]) ++ ((rv7.1.Set.1.map (Value.int .u64)) ++ ([v12]))), Go.Lx.box b1 27 (([Value.int .i64 rv1.Kind]) ++ ((rv1.Set.1.map (Value.int .u64)) ++ ([v1])))] _ := ⟨gg16, hagg8, hs⟩
              refine ⟨fun _ => hS, ?_⟩
              refine AG rfl rfl rfl rfl (by rw [hg9]; rfl) hS (fun w9 h9 => by obtain ⟨g9, hle9, hs⟩ := h9; exact r_eqlS rfl rfl) rfl ?_
              refine A rfl hS (fun w9 h9 => by obtain ⟨g9, hle9, hs⟩ := h9; exact r_pickT (v := Value.bool (rv14 == t1)) rfl hg9 rfl) rfl ?_
              refine A rfl hS (fun w9 h9 => by obtain ⟨g9, hle9, hs⟩ := h9; exact r_move (v := Value.bool (rv14 == t1)) rfl) rfl ?_
              rcases condS hM with ⟨hg10, hM⟩ | ⟨hg10, hM⟩
              · refine AG rfl rfl rfl rfl (by rw [hg10]; rfl) hS (fun w9 h9 => by obtain ⟨g9, hle9, hs⟩ := h9; exact r_loadN (cs := ([Value.int .i64 rv7.1.Kind]) ++ ((rv7.1.Set.1.map (Value.int .u64)) ++ ([v12]))) ti27 rfl (by simp [rv7.1.Set.2]) (hs.cells (i := 0) rfl)) rfl ?_
                refine AG rfl rfl rfl rfl (by rw [hg10]; rfl) hS (fun w9 h9 => by obtain ⟨g9, hle9, hs⟩ := h9; exact r_move (v := encS s1) rfl) rfl ?_
                refine AG rfl rfl rfl rfl (by rw [hg10]; rfl) hS (fun w9 h9 => by obtain ⟨g9, hle9, hs⟩ := h9; exact r_loadN (cs := ([Value.int .i64 rv1.Kind]) ++ ((rv1.Set.1.map (Value.int .u64)) ++ ([v1]))) ti27 rfl (by simp [rv1.Set.2]) (hs.cells (i := 1) rfl)) rfl ?_
                refine AG rfl rfl rfl rfl (by rw [hg10]; rfl) hS (fun w9 h9 => by obtain ⟨g9, hle9, hs⟩ := h9; exact r_move (v := encS s1) rfl) rfl ?_
                refine A1 rfl ?_
                obtain ⟨rv15, hrv15, hM⟩ := bindS hM
                refine CG rfl rfl rfl (by rw [hg10]; rfl) [Value.agg (List.toArray (α := Value) (([Value.int .i64 rv7.1.Kind]) ++ ((rv7.1.Set.1.map (Value.int .u64)) ++ ([v12])))), encS s1] cf23 rfl (regex_Match_ok hrv15 hs.imm (tT_Regex_iff.2 ⟨[Value.int .i64 rv7.1.Kind], rv7.1.Set.1.map (Value.int .u64), [v12], rfl, rfl, rfl, ⟨_, rfl, hRv12⟩⟩)) rfl ?_
                rintro v20 wv18 ⟨gg17, hvv20, hegg17⟩
                have hlegg17 := hegg17.le hs.imm
                replace hs := hs.call hegg17
                replace hRv1 := hRv1.mono hlegg17
                replace hG0 := hG0.mono hlegg17
                replace hRv12 := hRv12.mono hlegg17
                replace hagg8 := hagg8.trans hlegg17
                obtain ⟨cs24, rfl, hcs24⟩ := hvv20
                have hcs24 : cs24 = _ := hcs24; subst hcs24
                refine OW_nil ?_
                have hS : SS g0 w0 gg8 [Go.Lx.box b2 27 (([Value.int .i64 rv7.1.Kind]) ++ ((rv7.1.Set.1.map (Value.int .u64)) ++ ([v12]))), Go.Lx.box b1 27 (([Value.int .i64 rv1.Kind]) ++ ((rv1.Set.1.map (Value.int .u64)) ++ ([v1])))] _ := ⟨gg17, hagg8, hs⟩
                refine ⟨fun _ => hS, ?_⟩
                refine A1 rfl ?_
                obtain ⟨rv16, hrv16, hM⟩ := bindS hM
                refine CG rfl rfl rfl (by rw [hg10]; rfl) [Value.agg (List.toArray (α := Value) (([Value.int .i64 rv1.Kind]) ++ ((rv1.Set.1.map (Value.int .u64)) ++ ([v1])))), encS s1] cf23 rfl (regex_Match_ok hrv16 hs.imm (tT_Regex_iff.2 ⟨[Value.int .i64 rv1.Kind], rv1.Set.1.map (Value.int .u64), [v1], rfl, rfl, rfl, ⟨_, rfl, hRv1⟩⟩)) rfl ?_
                rintro v21 wv19 ⟨gg18, hvv21, hegg18⟩
                have hlegg18 := hegg18.le hs.imm
                replace hs := hs.call hegg18
                replace hRv1 := hRv1.mono hlegg18
                replace hG0 := hG0.mono hlegg18
                replace hRv12 := hRv12.mono hlegg18
                replace hagg8 := hagg8.trans hlegg18
                obtain ⟨cs25, rfl, hcs25⟩ := hvv21
                have hcs25 : cs25 = _ := hcs25; subst hcs25
                refine OW_nil ?_
                have hS : SS g0 w0 gg8 [Go.Lx.box b2 27 (([Value.int .i64 rv7.1.Kind]) ++ ((rv7.1.Set.1.map (Value.int .u64)) ++ ([v12]))), Go.Lx.box b1 27 (([Value.int .i64 rv1.Kind]) ++ ((rv1.Set.1.map (Value.int .u64)) ++ ([v1])))] _ := ⟨gg18, hagg8, hs⟩
                refine ⟨fun _ => hS, ?_⟩
                refine AG rfl rfl rfl rfl (by rw [hg10]; rfl) hS (fun w9 h9 => by obtain ⟨g9, hle9, hs⟩ := h9; exact r_eqlB Tryd.underlying4 rfl rfl) rfl ?_
                refine A rfl hS (fun w9 h9 => by obtain ⟨g9, hle9, hs⟩ := h9; exact r_pickT (v := Value.bool (rv15 == rv16)) rfl hg10 rfl) rfl ?_
                refine A rfl hS (fun w9 h9 => by obtain ⟨g9, hle9, hs⟩ := h9; exact r_assign (v := Value.bool (rv15 == rv16)) rfl) rfl ?_
                refine AN ?_
                obtain rfl := Option.some.inj hM
                exact ⟨gg18, rfl, hds, hagg8, (hs.sub (.cons _ (.cons _ .slnil)))⟩
              · refine AK rfl rfl rfl rfl (by rw [hg10]; rfl) hS rfl ?_
                refine AK rfl rfl rfl rfl (by rw [hg10]; rfl) hS rfl ?_
                refine AK rfl rfl rfl rfl (by rw [hg10]; rfl) hS rfl ?_
                refine AK rfl rfl rfl rfl (by rw [hg10]; rfl) hS rfl ?_
                refine A1 rfl ?_
                refine OK rfl rfl rfl (by rw [hg10]; rfl) rfl ?_
                refine OW_nil ⟨fun _ => hS, ?_⟩
                refine A1 rfl ?_
                refine OK rfl rfl rfl (by rw [hg10]; rfl) rfl ?_
                refine OW_nil ⟨fun _ => hS, ?_⟩
                refine AK rfl rfl rfl rfl (by rw [hg10]; rfl) hS rfl ?_
                refine A rfl hS (fun w9 h9 => by obtain ⟨g9, hle9, hs⟩ := h9; exact r_pickF (v := Value.bool false) rfl hg10 rfl) rfl ?_
                refine A rfl hS (fun w9 h9 => by obtain ⟨g9, hle9, hs⟩ := h9; exact r_assign (v := Value.bool false) rfl) rfl ?_
                refine AN ?_
                obtain rfl := Option.some.inj hM
                exact ⟨gg16, rfl, hds, hagg8, (hs.sub (.cons _ (.cons _ .slnil)))⟩
            · refine AK rfl rfl rfl rfl (by rw [hg9]; rfl) hS rfl ?_
              refine AK rfl rfl rfl rfl (by rw [hg9]; rfl) hS rfl ?_
              refine A1 rfl ?_
              refine OK rfl rfl rfl (by rw [hg9]; rfl) rfl ?_
              refine OW_nil ⟨fun _ => hS, ?_⟩
              refine AK rfl rfl rfl rfl (by rw [hg9]; rfl) hS rfl ?_
              refine A rfl hS (fun w9 h9 => by obtain ⟨g9, hle9, hs⟩ := h9; exact r_pickF (v := Value.bool false) rfl hg9 rfl) rfl ?_
              refine A rfl hS (fun w9 h9 => by obtain ⟨g9, hle9, hs⟩ := h9; exact r_move (v := Value.bool false) rfl) rfl ?_
              refine AK rfl rfl rfl rfl rfl hS rfl ?_
              refine AK rfl rfl rfl rfl rfl hS rfl ?_
              refine AK rfl rfl rfl rfl rfl hS rfl ?_
              refine AK rfl rfl rfl rfl rfl hS rfl ?_
              refine A1 rfl ?_
              refine OK rfl rfl rfl rfl rfl ?_
              refine OW_nil ⟨fun _ => hS, ?_⟩
              refine A1 rfl ?_
              refine OK rfl rfl rfl rfl rfl ?_
              refine OW_nil ⟨fun _ => hS, ?_⟩
              refine AK rfl rfl rfl rfl rfl hS rfl ?_
              refine A rfl hS (fun w9 h9 => by obtain ⟨g9, hle9, hs⟩ := h9; exact r_pickF (v := Value.bool false) rfl rfl rfl) rfl ?_
              refine A rfl hS (fun w9 h9 => by obtain ⟨g9, hle9, hs⟩ := h9; exact r_assign (v := Value.bool false) rfl) rfl ?_
              refine AN ?_
              obtain rfl := Option.some.inj hM
              exact ⟨gg15, rfl, hds, hagg8, (hs.sub (.cons _ (.cons _ .slnil)))⟩
          · refine AK rfl rfl rfl rfl (by rw [hg8]; rfl) hS rfl ?_
            refine AK rfl rfl rfl rfl (by rw [hg8]; rfl) hS rfl ?_
            refine A rfl hS (fun w9 h9 => by obtain ⟨g9, hle9, hs⟩ := h9; exact r_pickF (v := Value.bool false) rfl hg8 rfl) rfl ?_
            refine A rfl hS (fun w9 h9 => by obtain ⟨g9, hle9, hs⟩ := h9; exact r_move (v := Value.bool false) rfl) rfl ?_
            refine AK rfl rfl rfl rfl rfl hS rfl ?_
            refine AK rfl rfl rfl rfl rfl hS rfl ?_
            refine A1 rfl ?_
            refine OK rfl rfl rfl rfl rfl ?_
            refine OW_nil ⟨fun _ => hS, ?_⟩
            refine AK rfl rfl rfl rfl rfl hS rfl ?_
            refine A rfl hS (fun w9 h9 => by obtain ⟨g9, hle9, hs⟩ := h9; exact r_pickF (v := Value.bool false) rfl rfl rfl) rfl ?_
            refine A rfl hS (fun w9 h9 => by obtain ⟨g9, hle9, hs⟩ := h9; exact r_move (v := Value.bool false) rfl) rfl ?_
            refine AK rfl rfl rfl rfl rfl hS rfl ?_
            refine AK rfl rfl rfl rfl rfl hS rfl ?_
            refine AK rfl rfl rfl rfl rfl hS rfl ?_
            refine AK rfl rfl rfl rfl rfl hS rfl ?_
            refine A1 rfl ?_
            refine OK rfl rfl rfl rfl rfl ?_
            refine OW_nil ⟨fun _ => hS, ?_⟩
            refine A1 rfl ?_
            refine OK rfl rfl rfl rfl rfl ?_
            refine OW_nil ⟨fun _ => hS, ?_⟩
            refine AK rfl rfl rfl rfl rfl hS rfl ?_
            refine A rfl hS (fun w9 h9 => by obtain ⟨g9, hle9, hs⟩ := h9; exact r_pickF (v := Value.bool false) rfl rfl rfl) rfl ?_
            refine A rfl hS (fun w9 h9 => by obtain ⟨g9, hle9, hs⟩ := h9; exact r_assign (v := Value.bool false) rfl) rfl ?_
            refine AN ?_
            obtain rfl := Option.some.inj hM
            exact ⟨gg15, rfl, hds, hagg8, (hs.sub (.cons _ (.cons _ .slnil)))⟩
        · clear hs
          rintro E w ⟨gg14, hE4, hds, hlegg14, hs⟩
          have hM := hKhx2
          obtain ⟨E, rfl⟩ := open1 (E := E) hE4
          replace hG0 := hG0.mono hlegg14
          refine WP_ret ?_
          obtain rfl := Option.some.inj hM
          refine FL_nil hds ?_
          exact ⟨_, res1 Tryd.results6 (rv_tmp (v := Value.bool xv2) rfl), gg14, ⟨[Value.bool xv2], rfl, rfl⟩, hs.ext⟩

end Go.Proofs.YtffienmbeifioaaDoor
