/- The walk of the law. Printed by a program of my own. -/
import Derived.Test.YtffienmbeifioaaDoorWalk7
set_option linter.unusedVariables false
namespace Go.Proofs.YtffienmbeifioaaDoor
open Go.Lx Go.RowKit
set_option maxRecDepth 100000 in
theorem law08_RegexNesting_ok {nv1 : Int} {r : Bool} (hM : M.law08_RegexNesting nv1 = some r) {g0 : Hp} {w0 : World} (hi : Imm g0 w0) (hG0 : GBox 0 (M.deBruijn.1.map (Value.int .u8)) g0) :
    CallsV Tryd.prog 11 #[Value.int .u8 nv1] w0 (fun v w' => ∃ g', (VRd tBool false g' v r) ∧ Ext g0 w0 g' w') := by
  unfold M.law08_RegexNesting at hM
  have hs := Sep.start hi
  refine calls_of_WP (args := [Value.int .u8 nv1]) Tryd.func11 rfl Tryd.ntmps11 rfl ?_
  have hds : (argEnv [Value.int .u8 nv1]).ds = [] := rfl
  refine WP_seq ?_
  refine WP_region ?_
  refine O (r_assign (v := Value.bool false) rfl) rfl ?_
  refine OW_nil ?_
  refine WP_seq ?_
  refine WP_region ?_
  refine O (r_move (v := Value.int .u8 nv1) rfl) rfl ?_
  obtain ⟨t1, ht1, hM⟩ := bindS hM
  refine O (r_remM rfl rfl ht1) rfl ?_
  refine O (r_conv Tryd.underlying5 Tryd.underlying3 rfl) rfl ?_
  refine O (r_assign (v := Value.int .i64 (IntKind.i64.wrap t1)) rfl) rfl ?_
  refine OW_nil ?_
  refine WP_seq ?_
  refine WP_region ?_
  refine O (r_move (v := Value.int .i64 (IntKind.i64.wrap t1)) rfl) rfl ?_
  obtain ⟨rv1, hrv1, hM⟩ := bindS hM
  refine C [Value.int .i64 (IntKind.i64.wrap t1)] cf27 rfl (law08_nested_ok hrv1 hs.imm) rfl ?_
  rintro v1 wv1 ⟨gg1, hvv1, hegg1⟩
  have hlegg1 := hegg1.le hs.imm
  replace hs := hs.call hegg1
  replace hG0 := hG0.mono hlegg1
  obtain ⟨cs1, rfl, hcs1⟩ := hvv1
  have hcs1 : cs1 = _ := hcs1; subst hcs1
  obtain ⟨rv2, hrv2, hM⟩ := bindS hM
  refine C [encS rv1] cf16 rfl (regex_Parse_ok hrv2 hs.imm) rfl ?_
  rintro v2 wv2 ⟨gg2, hvv2, hegg2⟩
  have hlegg2 := hegg2.le hs.imm
  replace hs := hs.call hegg2
  replace hG0 := hG0.mono hlegg2
  obtain ⟨v3, v4, v5, rfl, hvv3, hvv4, hvv5⟩ := hvv2
  obtain ⟨cs2, rfl, hcs2⟩ := hvv5
  have hcs2 : cs2 = _ := hcs2; subst hcs2
  obtain ⟨cs3, rfl, hcs3⟩ := hvv4
  have hcs3 : cs3 = _ := hcs3; subst hcs3
  obtain ⟨cs4, rfl, hcs4⟩ := hvv3
  obtain ⟨cs5, cs6, cs7, rfl, hcs5, hcs6, hcs7⟩ := tT_Regex_iff.1 hcs4
  have hcs5 : cs5 = _ := hcs5; subst hcs5
  have hcs6 : cs6 = _ := hcs6; subst hcs6
  obtain ⟨v6, rfl, hRv6⟩ := hcs7
  refine O (r_move (v := Value.tuple #[Value.agg (List.toArray (α := Value) (([Value.int .i64 rv2.1.Kind]) ++ ((rv2.1.Set.1.map (Value.int .u64)) ++ ([v6])))), Value.int .i64 rv2.2.1, Value.int .i64 rv2.2.2]) rfl) rfl ?_
  refine O (r_extract (vs := [Value.agg (List.toArray (α := Value) (([Value.int .i64 rv2.1.Kind]) ++ ((rv2.1.Set.1.map (Value.int .u64)) ++ ([v6])))), Value.int .i64 rv2.2.1, Value.int .i64 rv2.2.2]) (v := Value.agg (List.toArray (α := Value) (([Value.int .i64 rv2.1.Kind]) ++ ((rv2.1.Set.1.map (Value.int .u64)) ++ ([v6]))))) rfl rfl) rfl ?_
  refine O (r_extract (vs := [Value.agg (List.toArray (α := Value) (([Value.int .i64 rv2.1.Kind]) ++ ((rv2.1.Set.1.map (Value.int .u64)) ++ ([v6])))), Value.int .i64 rv2.2.1, Value.int .i64 rv2.2.2]) (v := Value.int .i64 rv2.2.1) rfl rfl) rfl ?_
  refine O (r_extract (vs := [Value.agg (List.toArray (α := Value) (([Value.int .i64 rv2.1.Kind]) ++ ((rv2.1.Set.1.map (Value.int .u64)) ++ ([v6])))), Value.int .i64 rv2.2.1, Value.int .i64 rv2.2.2]) (v := Value.int .i64 rv2.2.2) rfl rfl) rfl ?_
  refine OW_alloc ti27 hs (zs := ([Value.int .i64 0]) ++ (((Vec.zero 4).1.map (Value.int .u64)) ++ ([Value.slice none 0 0]))) rfl rfl ?_
  intro b1 wv3 hs
  refine OW_storeAll ti27 hs (i := 0) rfl rfl (v := Value.agg (List.toArray (α := Value) (([Value.int .i64 rv2.1.Kind]) ++ ((rv2.1.Set.1.map (Value.int .u64)) ++ ([v6]))))) rfl (vs := ([Value.int .i64 rv2.1.Kind]) ++ ((rv2.1.Set.1.map (Value.int .u64)) ++ ([v6]))) rfl (one_append (one_cons rfl one_nil) (one_append vec_one (one_cons (by obtain ⟨_, _, h9⟩ := hRv6.shape; rw [h9]; rfl) one_nil))) (by simp [rv2.1.Set.2]) (by simp [rv2.1.Set.2, (Vec.zero 4).2]) ?_
  intro wv4 hs
  refine O (r_assign (v := Value.int .i64 rv2.2.1) rfl) rfl ?_
  refine O (r_assign (v := Value.int .i64 rv2.2.2) rfl) rfl ?_
  refine OW_nil ?_
  refine WP_seq ?_
  refine WP_seq ?_
  refine WP_region ?_
  refine O (r_move (v := Value.int .i64 (IntKind.i64.wrap t1)) rfl) rfl ?_
  obtain ⟨t2, ht2, hM⟩ := bindS hM
  refine O (r_addM rfl rfl ht2) rfl ?_
  refine O (r_gtr rfl rfl) rfl ?_
  refine OW_nil ?_
  rcases condS hM with ⟨hc1, hM⟩ | ⟨hc1, hM⟩
  · refine WP_true rfl hc1 ?_
    obtain ⟨xv1, hx1, hKhx1⟩ := bindS hM
    refine WP_cut (fun E w => ∃ (gg4 : Hp), E 2 = Value.bool xv1 ∧ E.ds = [] ∧ Hle gg2 gg4 ∧ Go.Lx.Sep g0 w0 gg4 w []) ?_ ?_
    · have hM := hx1
      have hagg2 := Hle.refl gg2
      refine WP_region ?_
      obtain ⟨rv4, hrv4, hM⟩ := bindS hM
      refine C [] cf13 rfl (law08_awake_ok hrv4 hs.imm hG0) rfl ?_
      rintro v8 wv6 ⟨gg5, hvv8, hegg5⟩
      have hlegg5 := hegg5.le hs.imm
      replace hs := hs.call hegg5
      replace hG0 := hG0.mono hlegg5
      replace hRv6 := hRv6.mono hlegg5
      replace hagg2 := hagg2.trans hlegg5
      obtain ⟨cs9, rfl, hcs9⟩ := hvv8
      have hcs9 : cs9 = _ := hcs9; subst hcs9
      refine O (r_move (v := Value.bool rv4) rfl) rfl ?_
      rcases condS hM with ⟨hg3, hM⟩ | ⟨hg3, hM⟩
      · refine OG rfl rfl rfl (by rw [hg3]; rfl) (r_move (v := Value.int .i64 rv2.2.2) rfl) rfl ?_
        refine OG rfl rfl rfl (by rw [hg3]; rfl) (r_eql rfl rfl) rfl ?_
        refine O (r_pickT (v := Value.bool (rv2.2.2 == 11)) rfl hg3 rfl) rfl ?_
        refine O (r_move (v := Value.bool (rv2.2.2 == 11)) rfl) rfl ?_
        rcases condS hM with ⟨hg4, hM⟩ | ⟨hg4, hM⟩
        · refine OG rfl rfl rfl (by rw [hg4]; rfl) (r_move (v := Value.int .i64 rv2.2.1) rfl) rfl ?_
          refine OG rfl rfl rfl (by rw [hg4]; rfl) (r_eql rfl rfl) rfl ?_
          refine O (r_pickT (v := Value.bool (rv2.2.1 == 0)) rfl hg4 rfl) rfl ?_
          refine O (r_assign (v := Value.bool (rv2.2.1 == 0)) rfl) rfl ?_
          refine OW_nil ?_
          obtain rfl := Option.some.inj hM
          exact ⟨gg5, rfl, hds, hagg2, (hs.sub (.cons _ .slnil))⟩
        · refine OK rfl rfl rfl (by rw [hg4]; rfl) rfl ?_
          refine OK rfl rfl rfl (by rw [hg4]; rfl) rfl ?_
          refine O (r_pickF (v := Value.bool false) rfl hg4 rfl) rfl ?_
          refine O (r_assign (v := Value.bool false) rfl) rfl ?_
          refine OW_nil ?_
          obtain rfl := Option.some.inj hM
          exact ⟨gg5, rfl, hds, hagg2, (hs.sub (.cons _ .slnil))⟩
      · refine OK rfl rfl rfl (by rw [hg3]; rfl) rfl ?_
        refine OK rfl rfl rfl (by rw [hg3]; rfl) rfl ?_
        refine O (r_pickF (v := Value.bool false) rfl hg3 rfl) rfl ?_
        refine O (r_move (v := Value.bool false) rfl) rfl ?_
        refine OK rfl rfl rfl rfl rfl ?_
        refine OK rfl rfl rfl rfl rfl ?_
        refine O (r_pickF (v := Value.bool false) rfl rfl rfl) rfl ?_
        refine O (r_assign (v := Value.bool false) rfl) rfl ?_
        refine OW_nil ?_
        obtain rfl := Option.some.inj hM
        exact ⟨gg5, rfl, hds, hagg2, (hs.sub (.cons _ .slnil))⟩
    · clear hs
      rintro E w ⟨gg4, hE2, hds, hlegg4, hs⟩
      have hM := hKhx1
      obtain ⟨E, rfl⟩ := open1 (E := E) hE2
      replace hG0 := hG0.mono hlegg4
      refine WP_ret ?_
      obtain rfl := Option.some.inj hM
      refine FL_nil hds ?_
      exact ⟨_, res1 Tryd.results11 (rv_tmp (v := Value.bool xv1) rfl), gg4, ⟨[Value.bool xv1], rfl, rfl⟩, hs.ext⟩
  · refine WP_false rfl hc1 ?_
    refine WP_skip ?_
    obtain ⟨rv8, hx2, hKhx2⟩ := bindS hM
    refine WP_cut (fun E w => ∃ (gg9 : Hp), E 2 = Value.bool rv8 ∧ E.ds = [] ∧ Hle gg2 gg9 ∧ Go.Lx.Sep g0 w0 gg9 w []) ?_ ?_
    · have hM := hx2
      have hagg2 := Hle.refl gg2
      refine WP_region ?_
      obtain ⟨rv9, hrv9, hM⟩ := bindS hM
      refine C [] cf13 rfl (law08_awake_ok hrv9 hs.imm hG0) rfl ?_
      rintro v12 wv10 ⟨gg10, hvv12, hegg10⟩
      have hlegg10 := hegg10.le hs.imm
      replace hs := hs.call hegg10
      replace hG0 := hG0.mono hlegg10
      replace hRv6 := hRv6.mono hlegg10
      replace hagg2 := hagg2.trans hlegg10
      obtain ⟨cs13, rfl, hcs13⟩ := hvv12
      have hcs13 : cs13 = _ := hcs13; subst hcs13
      refine O (r_move (v := Value.bool rv9) rfl) rfl ?_
      rcases condS hM with ⟨hg8, hM⟩ | ⟨hg8, hM⟩
      · refine OG rfl rfl rfl (by rw [hg8]; rfl) (r_move (v := Value.int .i64 rv2.2.2) rfl) rfl ?_
        refine OG rfl rfl rfl (by rw [hg8]; rfl) (r_eql rfl rfl) rfl ?_
        refine O (r_pickT (v := Value.bool (rv2.2.2 == 0)) rfl hg8 rfl) rfl ?_
        refine O (r_move (v := Value.bool (rv2.2.2 == 0)) rfl) rfl ?_
        rcases condS hM with ⟨hg9, hM⟩ | ⟨hg9, hM⟩
        · refine OG rfl rfl rfl (by rw [hg9]; rfl) (r_loadN (cs := ([Value.int .i64 rv2.1.Kind]) ++ ((rv2.1.Set.1.map (Value.int .u64)) ++ ([v6]))) ti27 rfl (by simp [rv2.1.Set.2]) (hs.cells (i := 0) rfl)) rfl ?_
          obtain ⟨rv10, hrv10, hM⟩ := bindS hM
          refine CG rfl rfl rfl (by rw [hg9]; rfl) [Value.agg (List.toArray (α := Value) (([Value.int .i64 rv2.1.Kind]) ++ ((rv2.1.Set.1.map (Value.int .u64)) ++ ([v6]))))] cf14 rfl (regex_Valid_ok hrv10 hs.imm (tT_Regex_iff.2 ⟨[Value.int .i64 rv2.1.Kind], rv2.1.Set.1.map (Value.int .u64), [v6], rfl, rfl, rfl, ⟨_, rfl, hRv6⟩⟩)) rfl ?_
          rintro v13 wv11 ⟨gg11, hvv13, hegg11⟩
          have hlegg11 := hegg11.le hs.imm
          replace hs := hs.call hegg11
          replace hG0 := hG0.mono hlegg11
          replace hRv6 := hRv6.mono hlegg11
          replace hagg2 := hagg2.trans hlegg11
          obtain ⟨cs14, rfl, hcs14⟩ := hvv13
          have hcs14 : cs14 = _ := hcs14; subst hcs14
          refine O (r_pickT (v := Value.bool rv10) rfl hg9 rfl) rfl ?_
          refine O (r_move (v := Value.bool rv10) rfl) rfl ?_
          rcases condS hM with ⟨hg10, hM⟩ | ⟨hg10, hM⟩
          · refine OG rfl rfl rfl (by rw [hg10]; rfl) (r_loadN (cs := ([Value.int .i64 rv2.1.Kind]) ++ ((rv2.1.Set.1.map (Value.int .u64)) ++ ([v6]))) ti27 rfl (by simp [rv2.1.Set.2]) (hs.cells (i := 0) rfl)) rfl ?_
            obtain ⟨rv11, hrv11, hM⟩ := bindS hM
            refine CG rfl rfl rfl (by rw [hg10]; rfl) [Value.agg (List.toArray (α := Value) (([Value.int .i64 rv2.1.Kind]) ++ ((rv2.1.Set.1.map (Value.int .u64)) ++ ([v6])))), encS [97]] cf23 rfl (regex_Match_ok hrv11 hs.imm (tT_Regex_iff.2 ⟨[Value.int .i64 rv2.1.Kind], rv2.1.Set.1.map (Value.int .u64), [v6], rfl, rfl, rfl, ⟨_, rfl, hRv6⟩⟩)) rfl ?_
            rintro v14 wv12 ⟨gg12, hvv14, hegg12⟩
            have hlegg12 := hegg12.le hs.imm
            replace hs := hs.call hegg12
            replace hG0 := hG0.mono hlegg12
            replace hRv6 := hRv6.mono hlegg12
            replace hagg2 := hagg2.trans hlegg12
            obtain ⟨cs15, rfl, hcs15⟩ := hvv14
            have hcs15 : cs15 = _ := hcs15; subst hcs15
            refine O (r_pickT (v := Value.bool rv11) rfl hg10 rfl) rfl ?_
            refine O (r_assign (v := Value.bool rv11) rfl) rfl ?_
            refine OW_nil ?_
            obtain rfl := Option.some.inj hM
            exact ⟨gg12, rfl, hds, hagg2, (hs.sub (.cons _ .slnil))⟩
          · refine OK rfl rfl rfl (by rw [hg10]; rfl) rfl ?_
            refine OK rfl rfl rfl (by rw [hg10]; rfl) rfl ?_
            refine O (r_pickF (v := Value.bool false) rfl hg10 rfl) rfl ?_
            refine O (r_assign (v := Value.bool false) rfl) rfl ?_
            refine OW_nil ?_
            obtain rfl := Option.some.inj hM
            exact ⟨gg11, rfl, hds, hagg2, (hs.sub (.cons _ .slnil))⟩
        · refine OK rfl rfl rfl (by rw [hg9]; rfl) rfl ?_
          refine OK rfl rfl rfl (by rw [hg9]; rfl) rfl ?_
          refine O (r_pickF (v := Value.bool false) rfl hg9 rfl) rfl ?_
          refine O (r_move (v := Value.bool false) rfl) rfl ?_
          refine OK rfl rfl rfl rfl rfl ?_
          refine OK rfl rfl rfl rfl rfl ?_
          refine O (r_pickF (v := Value.bool false) rfl rfl rfl) rfl ?_
          refine O (r_assign (v := Value.bool false) rfl) rfl ?_
          refine OW_nil ?_
          obtain rfl := Option.some.inj hM
          exact ⟨gg10, rfl, hds, hagg2, (hs.sub (.cons _ .slnil))⟩
      · refine OK rfl rfl rfl (by rw [hg8]; rfl) rfl ?_
        refine OK rfl rfl rfl (by rw [hg8]; rfl) rfl ?_
        refine O (r_pickF (v := Value.bool false) rfl hg8 rfl) rfl ?_
        refine O (r_move (v := Value.bool false) rfl) rfl ?_
        refine OK rfl rfl rfl rfl rfl ?_
        refine OK rfl rfl rfl rfl rfl ?_
        refine O (r_pickF (v := Value.bool false) rfl rfl rfl) rfl ?_
        refine O (r_move (v := Value.bool false) rfl) rfl ?_
        refine OK rfl rfl rfl rfl rfl ?_
        refine OK rfl rfl rfl rfl rfl ?_
        refine O (r_pickF (v := Value.bool false) rfl rfl rfl) rfl ?_
        refine O (r_assign (v := Value.bool false) rfl) rfl ?_
        refine OW_nil ?_
        obtain rfl := Option.some.inj hM
        exact ⟨gg10, rfl, hds, hagg2, (hs.sub (.cons _ .slnil))⟩
    · clear hs
      rintro E w ⟨gg9, hE2, hds, hlegg9, hs⟩
      have hM := hKhx2
      obtain ⟨E, rfl⟩ := open1 (E := E) hE2
      replace hG0 := hG0.mono hlegg9
      refine WP_ret ?_
      obtain rfl := Option.some.inj hM
      refine FL_nil hds ?_
      exact ⟨_, res1 Tryd.results11 (rv_tmp (v := Value.bool rv8) rfl), gg9, ⟨[Value.bool rv8], rfl, rfl⟩, hs.ext⟩

end Go.Proofs.YtffienmbeifioaaDoor
