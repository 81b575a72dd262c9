/- The walk of the law. Printed by a program of my own. -/
import Derived.Test.YtffienmbeifioaaDoorTyp
import Derived.Test.YtffienmbeifioaaDoorWalk1
import Derived.Test.YtffienmbeifioaaDoorWalk2
import Derived.Test.YtffienmbeifioaaDoorWalk4
import Derived.Test.YtffienmbeifioaaDoorWalk7
import Derived.Test.YtffienmbeifioaaDoorWalk10
set_option linter.unusedVariables false
set_option linter.unusedSimpArgs false
namespace Go.Proofs.YtffienmbeifioaaDoor
open Go.Lx Go.RowKit
set_option maxRecDepth 100000 in
theorem law08_RegexDeriveAll_ok {rv1 : T_Regex} {s1 : Str} {r : Bool} (hM : M.law08_RegexDeriveAll rv1 s1 = some r) {g0 : Hp} {w0 : World} (hi : Imm g0 w0) {cs1 : List Value} (hcs1 : tT_Regex.rel g0 cs1 rv1) (hG0 : GBox 0 (M.deBruijn.1.map (Value.int .u8)) g0) :
    CallsV Tryd.prog 9 #[Value.agg cs1.toArray, encS s1] w0 (fun v w' => ∃ g', (VRd tBool false g' v r) ∧ Ext g0 w0 g' w') := by
  unfold M.law08_RegexDeriveAll at hM
  obtain ⟨cs2, cs3, cs4, rfl, hcs2, hcs3, hcs4⟩ := tT_Regex_iff.1 hcs1
  have hcs2 : cs2 = _ := hcs2; subst hcs2
  have hcs3 : cs3 = _ := hcs3; subst hcs3
  obtain ⟨v1, rfl, hRv1⟩ := hcs4
  have hs := Sep.start hi
  refine calls_of_WP (args := [Value.agg (List.toArray (α := Value) (([Value.int .i64 rv1.Kind]) ++ ((rv1.Set.1.map (Value.int .u64)) ++ ([v1])))), encS s1]) Tryd.func9 rfl Tryd.ntmps9 rfl ?_
  have hds : (argEnv [Value.agg (List.toArray (α := Value) (([Value.int .i64 rv1.Kind]) ++ ((rv1.Set.1.map (Value.int .u64)) ++ ([v1])))), encS s1]).ds = [] := rfl
  refine WP_seq ?_
  refine WP_region ?_
  refine OW_box (v := Value.agg (List.toArray (α := Value) (([Value.int .i64 rv1.Kind]) ++ ((rv1.Set.1.map (Value.int .u64)) ++ ([v1]))))) rfl hs (zs := ([Value.int .i64 rv1.Kind]) ++ ((rv1.Set.1.map (Value.int .u64)) ++ ([v1]))) rfl rfl ?_
  intro b1 wv1 hs
  refine O (r_assign (v := Value.bool false) rfl) rfl ?_
  refine OW_nil ?_
  refine WP_seq ?_
  obtain ⟨xv1, hx1, hKhx1⟩ := bindS hM
  refine WP_cut (fun E w => ∃ (gg2 : Hp), E 1 = encS s1 ∧ E 2 = Value.pointer (some ⟨b1, 0, none⟩) ∧ E 14 = Value.bool xv1 ∧ E.ds = [] ∧ Hle g0 gg2 ∧ Go.Lx.Sep g0 w0 gg2 w [Go.Lx.box b1 27 (([Value.int .i64 rv1.Kind]) ++ ((rv1.Set.1.map (Value.int .u64)) ++ ([v1])))]) ?_ ?_
  · have hM := hx1
    have hag0 := Hle.refl g0
    refine WP_region ?_
    refine O (r_loadN (cs := ([Value.int .i64 rv1.Kind]) ++ ((rv1.Set.1.map (Value.int .u64)) ++ ([v1]))) ti27 rfl (by simp [rv1.Set.2]) (hs.cells (i := 0) rfl)) rfl ?_
    obtain ⟨rv3, hrv3, hM⟩ := bindS hM
    refine C [Value.agg (List.toArray (α := Value) (([Value.int .i64 rv1.Kind]) ++ ((rv1.Set.1.map (Value.int .u64)) ++ ([v1])))), Value.int .i64 20] cf19 rfl (law08_small_ok hrv3 hs.imm (tT_Regex_iff.2 ⟨[Value.int .i64 rv1.Kind], rv1.Set.1.map (Value.int .u64), [v1], rfl, rfl, rfl, ⟨_, rfl, hRv1⟩⟩)) rfl ?_
    rintro v3 wv3 ⟨gg3, hvv3, hegg3⟩
    have hlegg3 := hegg3.le hs.imm
    replace hs := hs.call hegg3
    replace hG0 := hG0.mono hlegg3
    replace hRv1 := hRv1.mono hlegg3
    replace hag0 := hag0.trans hlegg3
    obtain ⟨cs6, rfl, hcs6⟩ := hvv3
    have hcs6 : cs6 = _ := hcs6; subst hcs6
    refine O (r_not rfl) rfl ?_
    refine O (r_move (v := Value.bool (!rv3)) rfl) rfl ?_
    rcases condS hM with ⟨hg2, hM⟩ | ⟨hg2, hM⟩
    · refine OK rfl rfl rfl (by rw [hg2]; rfl) rfl ?_
      refine OK rfl rfl rfl (by rw [hg2]; rfl) rfl ?_
      refine OK rfl rfl rfl (by rw [hg2]; rfl) rfl ?_
      refine O (r_pickT (v := Value.bool true) rfl hg2 rfl) rfl ?_
      refine OW_nil ?_
      obtain rfl := Option.some.inj hM
      exact ⟨gg3, rfl, rfl, rfl, hds, hag0, hs⟩
    · refine OG rfl rfl rfl (by rw [hg2]; rfl) (r_move (v := encS s1) rfl) rfl ?_
      refine OG rfl rfl rfl (by rw [hg2]; rfl) (r_lenStr Tryd.underlying9 rfl) rfl ?_
      refine OG rfl rfl rfl (by rw [hg2]; rfl) (r_gtr rfl rfl) rfl ?_
      refine O (r_pickF (v := Value.bool (decide (6 < (s1.length : Int)))) rfl hg2 rfl) rfl ?_
      refine OW_nil ?_
      obtain rfl := Option.some.inj hM
      exact ⟨gg3, rfl, rfl, rfl, hds, hag0, hs⟩
  · clear hs
    rintro E w ⟨gg2, hE1, hE2, hE14, hds, hlegg2, hs⟩
    have hM := hKhx1
    obtain ⟨E, rfl⟩ := open1 (E := E) hE1
    obtain ⟨E, rfl⟩ := open1 (E := E) hE2
    obtain ⟨E, rfl⟩ := open1 (E := E) hE14
    replace hRv1 := hRv1.mono hlegg2
    replace hG0 := hG0.mono hlegg2
    rcases condS hM with ⟨hc1, hM⟩ | ⟨hc1, hM⟩
    · refine WP_true rfl hc1 ?_
      refine WP_seq ?_
      refine WP_region ?_
      obtain ⟨rv4, hrv4, hM⟩ := bindS hM
      refine C [] cf13 rfl (law08_awake_ok hrv4 hs.imm hG0) rfl ?_
      rintro v4 wv4 ⟨gg4, hvv4, hegg4⟩
      have hlegg4 := hegg4.le hs.imm
      replace hs := hs.call hegg4
      replace hRv1 := hRv1.mono hlegg4
      replace hG0 := hG0.mono hlegg4
      obtain ⟨cs7, rfl, hcs7⟩ := hvv4
      have hcs7 : cs7 = _ := hcs7; subst hcs7
      refine O (r_assign (v := Value.bool rv4) rfl) rfl ?_
      refine OW_nil ?_
      refine WP_ret ?_
      obtain rfl := Option.some.inj hM
      refine FL_nil hds ?_
      exact ⟨_, res1 Tryd.results9 (rv_tmp (v := Value.bool rv4) rfl), gg4, ⟨[Value.bool rv4], rfl, rfl⟩, hs.ext⟩
    · refine WP_false rfl hc1 ?_
      refine WP_skip ?_
      refine WP_seq ?_
      refine WP_region ?_
      refine O (r_loadN (cs := ([Value.int .i64 rv1.Kind]) ++ ((rv1.Set.1.map (Value.int .u64)) ++ ([v1]))) ti27 rfl (by simp [rv1.Set.2]) (hs.cells (i := 0) rfl)) rfl ?_
      refine OW_alloc ti27 hs (zs := ([Value.int .i64 0]) ++ (((Vec.zero 4).1.map (Value.int .u64)) ++ ([Value.slice none 0 0]))) rfl rfl ?_
      intro b2 wv5 hs
      refine OW_storeAll ti27 hs (i := 0) rfl rfl (v := Value.agg (List.toArray (α := Value) (([Value.int .i64 rv1.Kind]) ++ ((rv1.Set.1.map (Value.int .u64)) ++ ([v1]))))) rfl (vs := ([Value.int .i64 rv1.Kind]) ++ ((rv1.Set.1.map (Value.int .u64)) ++ ([v1]))) rfl (one_append (one_cons rfl one_nil) (one_append vec_one (one_cons (by obtain ⟨_, _, h9⟩ := hRv1.shape; rw [h9]; rfl) one_nil))) (by simp [rv1.Set.2]) (by simp [rv1.Set.2, (Vec.zero 4).2]) ?_
      intro wv6 hs
      refine OW_nil ?_
      obtain ⟨⟨d10, d11, d12⟩, hx2, hKhx2⟩ := bindS hM
      refine WP_cut (fun E w => ∃ (gg11 : Hp) (v14 : Value), E 1 = encS s1 ∧ E 2 = Value.pointer (some ⟨b1, 0, none⟩) ∧ E 5 = Value.pointer (some ⟨b2, 0, none⟩) ∧ E.ds = [] ∧ Hle gg2 gg11 ∧ RdS tT_Regex gg11 v14 d12 ∧ Go.Lx.Sep g0 w0 gg11 w [Go.Lx.box b2 27 (([Value.int .i64 d10]) ++ ((d11.1.map (Value.int .u64)) ++ ([v14]))), Go.Lx.box b1 27 (([Value.int .i64 rv1.Kind]) ++ ((rv1.Set.1.map (Value.int .u64)) ++ ([v1])))]) ?_ ?_
      · have hM := hx2
        have hagg2 := Hle.refl gg2
        refine WP_seq ?_
        refine WP_region ?_
        refine O (r_assign (v := Value.int .i64 0) rfl) rfl ?_
        refine OW_nil ?_
        refine WP_block ?_
        refine WP_loop (fun (st9 : Int × (Vec 4) × (List T_Regex) × Int) E w => match st9 with | (d16, d17, d18, i5) => ∃ (gg14 : Hp) (v18 : Value), E 1 = encS s1 ∧ E 2 = Value.pointer (some ⟨b1, 0, none⟩) ∧ E 5 = Value.pointer (some ⟨b2, 0, none⟩) ∧ E 6 = Value.int .i64 i5 ∧ E.ds = [] ∧ Hle gg2 gg14 ∧ RdS tT_Regex gg14 v18 d18 ∧ Go.Lx.Sep g0 w0 gg14 w [Go.Lx.box b2 27 (([Value.int .i64 d16]) ++ ((d17.1.map (Value.int .u64)) ++ ([v18]))), Go.Lx.box b1 27 (([Value.int .i64 rv1.Kind]) ++ ((rv1.Set.1.map (Value.int .u64)) ++ ([v1])))]) hM ⟨gg2, v1, rfl, rfl, rfl, rfl, hds, (Hle.refl _), hRv1, hs⟩ ?_
        clear hs hM
        rintro ⟨d16, d17, d18, i5⟩ o2 E w hM ⟨gg14, v18, hE1, hE2, hE5, hE6, hds, hlegg14, hRv18, hs⟩
        obtain ⟨E, rfl⟩ := open1 (E := E) hE1
        obtain ⟨E, rfl⟩ := open1 (E := E) hE2
        obtain ⟨E, rfl⟩ := open1 (E := E) hE5
        obtain ⟨E, rfl⟩ := open1 (E := E) hE6
        replace hRv1 := hRv1.mono hlegg14
        replace hG0 := hG0.mono hlegg14
        replace hagg2 := hagg2.trans hlegg14
        have hagg14 := Hle.refl gg14
        refine WP_seq ?_
        refine WP_seq ?_
        refine WP_region ?_
        refine O (r_move (v := Value.int .i64 i5) rfl) rfl ?_
        refine O (r_move (v := encS s1) rfl) rfl ?_
        refine O (r_lenStr Tryd.underlying9 rfl) rfl ?_
        refine O (r_lss rfl rfl) rfl ?_
        refine OW_nil ?_
        rcases condS hM with ⟨hc7, hM⟩ | ⟨hc7, hM⟩
        · refine WP_true rfl hc7 ?_
          refine WP_skip ?_
          refine WP_seq ?_
          refine WP_block ?_
          refine WP_drawTail 4 mo (by decide +kernel) ?_
          have hs := hs.drew
          refine S (r_loadN (cs := ([Value.int .i64 d16]) ++ ((d17.1.map (Value.int .u64)) ++ ([v18]))) ti27 rfl (by simp [d17.2]) (hs.cells (i := 0) rfl)) rfl ?_
          refine S (r_move (v := encS s1) rfl) rfl ?_
          refine S (r_move (v := Value.int .i64 i5) rfl) rfl ?_
          obtain ⟨c6, hc6, hM⟩ := bindS hM
          refine S (r_idxStr Tryd.underlying9 rfl rfl hc6) rfl ?_
          refine SW_nil ?_
          obtain ⟨rv10, hrv10, hM⟩ := bindS hM
          refine C [Value.agg (List.toArray (α := Value) (([Value.int .i64 d16]) ++ ((d17.1.map (Value.int .u64)) ++ ([v18])))), Value.int .u8 c6] cf26 rfl (regex_Derive_ok hrv10 hs.imm (tT_Regex_iff.2 ⟨[Value.int .i64 d16], d17.1.map (Value.int .u64), [v18], rfl, rfl, rfl, ⟨_, rfl, hRv18⟩⟩)) rfl ?_
          rintro v22 wv17 ⟨gg17, hvv22, hegg17⟩
          have hlegg17 := hegg17.le hs.imm
          replace hs := hs.call hegg17
          replace hRv1 := hRv1.mono hlegg17
          replace hRv18 := hRv18.mono hlegg17
          replace hG0 := hG0.mono hlegg17
          replace hlegg14 := hlegg14.trans hlegg17
          replace hagg14 := hagg14.trans hlegg17
          obtain ⟨cs28, rfl, hcs28⟩ := hvv22
          obtain ⟨cs29, cs30, cs31, rfl, hcs29, hcs30, hcs31⟩ := tT_Regex_iff.1 hcs28
          have hcs29 : cs29 = _ := hcs29; subst hcs29
          have hcs30 : cs30 = _ := hcs30; subst hcs30
          obtain ⟨v23, rfl, hRv23⟩ := hcs31
          refine OW_storeAll ti27 hs (i := 0) rfl rfl (v := Value.agg (List.toArray (α := Value) (([Value.int .i64 rv10.Kind]) ++ ((rv10.Set.1.map (Value.int .u64)) ++ ([v23]))))) rfl (vs := ([Value.int .i64 rv10.Kind]) ++ ((rv10.Set.1.map (Value.int .u64)) ++ ([v23]))) rfl (one_append (one_cons rfl one_nil) (one_append vec_one (one_cons (by obtain ⟨_, _, h9⟩ := hRv23.shape; rw [h9]; rfl) one_nil))) (by simp [rv10.Set.2]) (by simp [rv10.Set.2, d17.2]) ?_
          intro wv18 hs
          refine OW_nil ?_
          refine WP_region ?_
          refine O (r_move (v := Value.int .i64 i5) rfl) rfl ?_
          obtain ⟨t6, ht6, hM⟩ := bindS hM
          refine O (r_addM rfl rfl ht6) rfl ?_
          refine O (r_assign (v := Value.int .i64 t6) rfl) rfl ?_
          refine OW_nil ?_
          obtain rfl := Option.some.inj hM
          exact ⟨gg17, v23, rfl, rfl, rfl, rfl, hds, hlegg14, hRv23, hs⟩
        · refine WP_false rfl hc7 ?_
          refine WP_exit ?_
          obtain rfl := Option.some.inj hM
          refine fun hr => ?_
          have hM := congrArg some hr
          simp only [Option.some.injEq, Prod.mk.injEq] at hM
          obtain ⟨rfl, rfl, rfl⟩ := hM
          exact ⟨gg14, v18, rfl, rfl, rfl, hds, hlegg14, hRv18, hs⟩
      · clear hs
        rintro E w ⟨gg11, v14, hE1, hE2, hE5, hds, hlegg11, hRv14, hs⟩
        have hM := hKhx2
        obtain ⟨E, rfl⟩ := open1 (E := E) hE1
        obtain ⟨E, rfl⟩ := open1 (E := E) hE2
        obtain ⟨E, rfl⟩ := open1 (E := E) hE5
        replace hRv1 := hRv1.mono hlegg11
        replace hG0 := hG0.mono hlegg11
        obtain ⟨xv2, hx3, hKhx3⟩ := bindS hM
        refine WP_cut (fun E w => ∃ (gg21 : Hp), E 4 = Value.bool xv2 ∧ E.ds = [] ∧ Hle gg11 gg21 ∧ Go.Lx.Sep g0 w0 gg21 w []) ?_ ?_
        · have hM := hx3
          have hagg11 := Hle.refl gg11
          refine WP_any (.s 0 (.q 1 (.q 2 (.q 4 (.q 5 (.s 3 (.s 6 (.q 7 (.q 8 (.q 9 (.leaf))))))))))) (SS g0 w0 gg11 [Go.Lx.box b2 27 (([Value.int .i64 d10]) ++ ((d11.1.map (Value.int .u64)) ++ ([v14]))), Go.Lx.box b1 27 (([Value.int .i64 rv1.Kind]) ++ ((rv1.Set.1.map (Value.int .u64)) ++ ([v1])))]) mo (by decide +kernel) ?_
          have hs := hs.drew
          have hRv1b := hRv1
          have hRv14b := hRv14
          have hG0b := hG0
          have hS : SS g0 w0 gg11 [Go.Lx.box b2 27 (([Value.int .i64 d10]) ++ ((d11.1.map (Value.int .u64)) ++ ([v14]))), Go.Lx.box b1 27 (([Value.int .i64 rv1.Kind]) ++ ((rv1.Set.1.map (Value.int .u64)) ++ ([v1])))] _ := ⟨gg11, Hle.refl _, hs⟩
          refine A1 rfl ?_
          obtain ⟨rv14, hrv14, hM⟩ := bindS hM
          refine C [] cf13 rfl (law08_awake_ok hrv14 hs.imm hG0) rfl ?_
          rintro v27 wv22 ⟨gg22, hvv27, hegg22⟩
          have hlegg22 := hegg22.le hs.imm
          replace hs := hs.call hegg22
          replace hRv1 := hRv1.mono hlegg22
          replace hRv14 := hRv14.mono hlegg22
          replace hG0 := hG0.mono hlegg22
          replace hagg11 := hagg11.trans hlegg22
          obtain ⟨cs35, rfl, hcs35⟩ := hvv27
          have hcs35 : cs35 = _ := hcs35; subst hcs35
          refine OW_nil ?_
          have hS : SS g0 w0 gg11 [Go.Lx.box b2 27 (([Value.int .i64 d10]) ++ ((d11.1.map (Value.int .u64)) ++ ([v14]))), Go.Lx.box b1 27 (([Value.int .i64 rv1.Kind]) ++ ((rv1.Set.1.map (Value.int .u64)) ++ ([v1])))] _ := ⟨gg22, hagg11, hs⟩
          refine ⟨fun _ => hS, ?_⟩
          refine A rfl hS (fun w9 h9 => by obtain ⟨g9, hle9, hs⟩ := h9; exact r_move (v := Value.bool rv14) rfl) rfl ?_
          rcases condS hM with ⟨hg4, hM⟩ | ⟨hg4, hM⟩
          · refine AG rfl rfl rfl rfl (by rw [hg4]; rfl) hS (fun w9 h9 => by obtain ⟨g9, hle9, hs⟩ := h9; exact r_loadN (cs := ([Value.int .i64 d10]) ++ ((d11.1.map (Value.int .u64)) ++ ([v14]))) ti27 rfl (by simp [d11.2]) (hs.cells (i := 0) rfl)) rfl ?_
            refine AG rfl rfl rfl rfl (by rw [hg4]; rfl) hS (fun w9 h9 => by obtain ⟨g9, hle9, hs⟩ := h9; exact r_loadN (cs := ([Value.int .i64 rv1.Kind]) ++ ((rv1.Set.1.map (Value.int .u64)) ++ ([v1]))) ti27 rfl (by simp [rv1.Set.2]) (hs.cells (i := 1) rfl)) rfl ?_
            refine AG rfl rfl rfl rfl (by rw [hg4]; rfl) hS (fun w9 h9 => by obtain ⟨g9, hle9, hs⟩ := h9; exact r_move (v := encS s1) rfl) rfl ?_
            refine A1 rfl ?_
            obtain ⟨rv15, hrv15, hM⟩ := bindS hM
            refine CG rfl rfl rfl (by rw [hg4]; rfl) [Value.agg (List.toArray (α := Value) (([Value.int .i64 d10]) ++ ((d11.1.map (Value.int .u64)) ++ ([v14]))))] cf25 rfl (regex_Nullable_ok hrv15 hs.imm (tT_Regex_iff.2 ⟨[Value.int .i64 d10], d11.1.map (Value.int .u64), [v14], rfl, rfl, rfl, ⟨_, rfl, hRv14⟩⟩)) rfl ?_
            rintro v28 wv23 ⟨gg23, hvv28, hegg23⟩
            have hlegg23 := hegg23.le hs.imm
            replace hs := hs.call hegg23
            replace hRv1 := hRv1.mono hlegg23
            replace hRv14 := hRv14.mono hlegg23
            replace hG0 := hG0.mono hlegg23
            replace hagg11 := hagg11.trans hlegg23
            obtain ⟨cs36, rfl, hcs36⟩ := hvv28
            have hcs36 : cs36 = _ := hcs36; subst hcs36
            refine OW_nil ?_
            have hS : SS g0 w0 gg11 [Go.Lx.box b2 27 (([Value.int .i64 d10]) ++ ((d11.1.map (Value.int .u64)) ++ ([v14]))), Go.Lx.box b1 27 (([Value.int .i64 rv1.Kind]) ++ ((rv1.Set.1.map (Value.int .u64)) ++ ([v1])))] _ := ⟨gg23, hagg11, hs⟩
            refine ⟨fun _ => hS, ?_⟩
            refine A1 rfl ?_
            obtain ⟨rv16, hrv16, hM⟩ := bindS hM
            refine CG rfl rfl rfl (by rw [hg4]; rfl) [Value.agg (List.toArray (α := Value) (([Value.int .i64 rv1.Kind]) ++ ((rv1.Set.1.map (Value.int .u64)) ++ ([v1])))), encS s1] cf24 rfl (ref08_Match_ok hrv16 hs.imm (tT_Regex_iff.2 ⟨[Value.int .i64 rv1.Kind], rv1.Set.1.map (Value.int .u64), [v1], rfl, rfl, rfl, ⟨_, rfl, hRv1⟩⟩)) rfl ?_
            rintro v29 wv24 ⟨gg24, hvv29, hegg24⟩
            have hlegg24 := hegg24.le hs.imm
            replace hs := hs.call hegg24
            replace hRv1 := hRv1.mono hlegg24
            replace hRv14 := hRv14.mono hlegg24
            replace hG0 := hG0.mono hlegg24
            replace hagg11 := hagg11.trans hlegg24
            obtain ⟨cs37, rfl, hcs37⟩ := hvv29
            have hcs37 : cs37 = _ := hcs37; subst hcs37
            refine OW_nil ?_
            have hS : SS g0 w0 gg11 [Go.Lx.box b2 27 (([Value.int .i64 d10]) ++ ((d11.1.map (Value.int .u64)) ++ ([v14]))), Go.Lx.box b1 27 (([Value.int .i64 rv1.Kind]) ++ ((rv1.Set.1.map (Value.int .u64)) ++ ([v1])))] _ := ⟨gg24, hagg11, hs⟩
            refine ⟨fun _ => hS, ?_⟩
            refine AG rfl rfl rfl rfl (by rw [hg4]; rfl) hS (fun w9 h9 => by obtain ⟨g9, hle9, hs⟩ := h9; exact r_eqlB Tryd.underlying4 rfl rfl) rfl ?_
            refine A rfl hS (fun w9 h9 => by obtain ⟨g9, hle9, hs⟩ := h9; exact r_pickT (v := Value.bool (rv15 == rv16)) rfl hg4 rfl) rfl ?_
            refine A rfl hS (fun w9 h9 => by obtain ⟨g9, hle9, hs⟩ := h9; exact r_assign (v := Value.bool (rv15 == rv16)) rfl) rfl ?_
            refine AN ?_
            obtain rfl := Option.some.inj hM
            exact ⟨gg24, rfl, hds, hagg11, (hs.sub (.cons _ (.cons _ .slnil)))⟩
          · refine AK rfl rfl rfl rfl (by rw [hg4]; rfl) hS rfl ?_
            refine AK rfl rfl rfl rfl (by rw [hg4]; rfl) hS rfl ?_
            refine AK rfl rfl rfl rfl (by rw [hg4]; rfl) hS rfl ?_
            refine A1 rfl ?_
            refine OK rfl rfl rfl (by rw [hg4]; rfl) rfl ?_
            refine OW_nil ⟨fun _ => hS, ?_⟩
            refine A1 rfl ?_
            refine OK rfl rfl rfl (by rw [hg4]; rfl) rfl ?_
            refine OW_nil ⟨fun _ => hS, ?_⟩
            refine AK rfl rfl rfl rfl (by rw [hg4]; rfl) hS rfl ?_
            refine A rfl hS (fun w9 h9 => by obtain ⟨g9, hle9, hs⟩ := h9; exact r_pickF (v := Value.bool false) rfl hg4 rfl) rfl ?_
            refine A rfl hS (fun w9 h9 => by obtain ⟨g9, hle9, hs⟩ := h9; exact r_assign (v := Value.bool false) rfl) rfl ?_
            refine AN ?_
            obtain rfl := Option.some.inj hM
            exact ⟨gg22, rfl, hds, hagg11, (hs.sub (.cons _ (.cons _ .slnil)))⟩
        · clear hs
          rintro E w ⟨gg21, hE4, hds, hlegg21, hs⟩
          have hM := hKhx3
          obtain ⟨E, rfl⟩ := open1 (E := E) hE4
          replace hG0 := hG0.mono hlegg21
          refine WP_ret ?_
          obtain rfl := Option.some.inj hM
          refine FL_nil hds ?_
          exact ⟨_, res1 Tryd.results9 (rv_tmp (v := Value.bool xv2) rfl), gg21, ⟨[Value.bool xv2], rfl, rfl⟩, hs.ext⟩

end Go.Proofs.YtffienmbeifioaaDoor
