/- The walk of the law. Printed by a program of my own. -/
import Derived.Test.YtffienmbeifioaaDoorTyp
import Derived.Test.YtffienmbeifioaaDoorWalk3
import Derived.Test.YtffienmbeifioaaDoorWalk4
import Derived.Test.YtffienmbeifioaaDoorWalk13
import Derived.Test.YtffienmbeifioaaDoorWalk14
set_option linter.unusedVariables false
set_option linter.unusedSimpArgs false
namespace Go.Proofs.YtffienmbeifioaaDoor
open Go.Lx Go.RowKit
set_option maxRecDepth 100000 in
theorem law08_RegexParse_ok {s1 : Str} {r : Bool} (hM : M.law08_RegexParse s1 = some r) {g0 : Hp} {w0 : World} (hi : Imm g0 w0) (hG0 : GBox 0 (M.deBruijn.1.map (Value.int .u8)) g0) :
    CallsV Tryd.prog 4 #[encS s1] w0 (fun v w' => ∃ g', (VRd tBool false g' v r) ∧ Ext g0 w0 g' w') := by
  unfold M.law08_RegexParse at hM
  have hs := Sep.start hi
  refine calls_of_WP (args := [encS s1]) Tryd.func4 rfl Tryd.ntmps4 rfl ?_
  have hds : (argEnv [encS s1]).ds = [] := rfl
  refine WP_seq ?_
  refine WP_region ?_
  refine O (r_assign (v := Value.bool false) rfl) rfl ?_
  refine OW_nil ?_
  refine WP_seq ?_
  refine WP_seq ?_
  refine WP_region ?_
  refine O (r_move (v := encS s1) rfl) rfl ?_
  refine O (r_lenStr Tryd.underlying9 rfl) rfl ?_
  refine O (r_gtr rfl rfl) rfl ?_
  refine OW_nil ?_
  rcases condS hM with ⟨hc1, hM⟩ | ⟨hc1, hM⟩
  · refine WP_true rfl hc1 ?_
    refine WP_seq ?_
    refine WP_region ?_
    obtain ⟨rv1, hrv1, hM⟩ := bindS hM
    refine C [] cf13 rfl (law08_awake_ok hrv1 hs.imm hG0) rfl ?_
    rintro v1 wv1 ⟨gg1, hvv1, hegg1⟩
    have hlegg1 := hegg1.le hs.imm
    replace hs := hs.call hegg1
    replace hG0 := hG0.mono hlegg1
    obtain ⟨cs1, rfl, hcs1⟩ := hvv1
    have hcs1 : cs1 = _ := hcs1; subst hcs1
    refine O (r_assign (v := Value.bool rv1) rfl) rfl ?_
    refine OW_nil ?_
    refine WP_ret ?_
    obtain rfl := Option.some.inj hM
    refine FL_nil hds ?_
    exact ⟨_, res1 Tryd.results4 (rv_tmp (v := Value.bool rv1) rfl), gg1, ⟨[Value.bool rv1], rfl, rfl⟩, hs.ext⟩
  · refine WP_false rfl hc1 ?_
    refine WP_skip ?_
    refine WP_seq ?_
    refine WP_region ?_
    refine O (r_move (v := encS s1) rfl) rfl ?_
    obtain ⟨rv2, hrv2, hM⟩ := bindS hM
    refine C [encS s1] cf16 rfl (regex_Parse_ok hrv2 hs.imm) rfl ?_
    rintro v2 wv2 ⟨gg2, hvv2, hegg2⟩
    have hlegg2 := hegg2.le hs.imm
    replace hs := hs.call hegg2
    replace hG0 := hG0.mono hlegg2
    obtain ⟨v3, v4, v5, rfl, hvv3, hvv4, hvv5⟩ := hvv2
    obtain ⟨cs2, rfl, hcs2⟩ := hvv5
    have hcs2 : cs2 = _ := hcs2; subst hcs2
    obtain ⟨cs3, rfl, hcs3⟩ := hvv4
    have hcs3 : cs3 = _ := hcs3; subst hcs3
    obtain ⟨cs4, rfl, hcs4⟩ := hvv3
    obtain ⟨cs5, cs6, cs7, rfl, hcs5, hcs6, hcs7⟩ := tT_Regex_iff.1 hcs4
    have hcs5 : cs5 = _ := hcs5; subst hcs5
    have hcs6 : cs6 = _ := hcs6; subst hcs6
    obtain ⟨v6, rfl, hRv6⟩ := hcs7
    refine O (r_move (v := Value.tuple #[Value.agg (List.toArray (α := Value) (([Value.int .i64 rv2.1.Kind]) ++ ((rv2.1.Set.1.map (Value.int .u64)) ++ ([v6])))), Value.int .i64 rv2.2.1, Value.int .i64 rv2.2.2]) rfl) rfl ?_
    refine O (r_extract (vs := [Value.agg (List.toArray (α := Value) (([Value.int .i64 rv2.1.Kind]) ++ ((rv2.1.Set.1.map (Value.int .u64)) ++ ([v6])))), Value.int .i64 rv2.2.1, Value.int .i64 rv2.2.2]) (v := Value.agg (List.toArray (α := Value) (([Value.int .i64 rv2.1.Kind]) ++ ((rv2.1.Set.1.map (Value.int .u64)) ++ ([v6]))))) rfl rfl) rfl ?_
    refine O (r_extract (vs := [Value.agg (List.toArray (α := Value) (([Value.int .i64 rv2.1.Kind]) ++ ((rv2.1.Set.1.map (Value.int .u64)) ++ ([v6])))), Value.int .i64 rv2.2.1, Value.int .i64 rv2.2.2]) (v := Value.int .i64 rv2.2.1) rfl rfl) rfl ?_
    refine O (r_extract (vs := [Value.agg (List.toArray (α := Value) (([Value.int .i64 rv2.1.Kind]) ++ ((rv2.1.Set.1.map (Value.int .u64)) ++ ([v6])))), Value.int .i64 rv2.2.1, Value.int .i64 rv2.2.2]) (v := Value.int .i64 rv2.2.2) rfl rfl) rfl ?_
    refine OW_alloc ti27 hs (zs := ([Value.int .i64 0]) ++ (((Vec.zero 4).1.map (Value.int .u64)) ++ ([Value.slice none 0 0]))) rfl rfl ?_
    intro b1 wv3 hs
    refine OW_storeAll ti27 hs (i := 0) rfl rfl (v := Value.agg (List.toArray (α := Value) (([Value.int .i64 rv2.1.Kind]) ++ ((rv2.1.Set.1.map (Value.int .u64)) ++ ([v6]))))) rfl (vs := ([Value.int .i64 rv2.1.Kind]) ++ ((rv2.1.Set.1.map (Value.int .u64)) ++ ([v6]))) rfl (one_append (one_cons rfl one_nil) (one_append vec_one (one_cons (by obtain ⟨_, _, h9⟩ := hRv6.shape; rw [h9]; rfl) one_nil))) (by simp [rv2.1.Set.2]) (by simp [rv2.1.Set.2, (Vec.zero 4).2]) ?_
    intro wv4 hs
    refine O (r_assign (v := Value.int .i64 rv2.2.1) rfl) rfl ?_
    refine O (r_assign (v := Value.int .i64 rv2.2.2) rfl) rfl ?_
    refine OW_nil ?_
    refine WP_seq ?_
    refine WP_region ?_
    refine O (r_move (v := encS s1) rfl) rfl ?_
    obtain ⟨rv3, hrv3, hM⟩ := bindS hM
    refine C [encS s1] cf17 rfl (ref08_Parse_ok hrv3 hs.imm) rfl ?_
    rintro v7 wv5 ⟨gg3, hvv7, hegg3⟩
    have hlegg3 := hegg3.le hs.imm
    replace hs := hs.call hegg3
    replace hG0 := hG0.mono hlegg3
    replace hRv6 := hRv6.mono hlegg3
    obtain ⟨v8, v9, v10, rfl, hvv8, hvv9, hvv10⟩ := hvv7
    obtain ⟨cs8, rfl, hcs8⟩ := hvv10
    have hcs8 : cs8 = _ := hcs8; subst hcs8
    obtain ⟨cs9, rfl, hcs9⟩ := hvv9
    have hcs9 : cs9 = _ := hcs9; subst hcs9
    obtain ⟨cs10, rfl, hcs10⟩ := hvv8
    obtain ⟨cs11, cs12, cs13, rfl, hcs11, hcs12, hcs13⟩ := tT_Regex_iff.1 hcs10
    have hcs11 : cs11 = _ := hcs11; subst hcs11
    have hcs12 : cs12 = _ := hcs12; subst hcs12
    obtain ⟨v11, rfl, hRv11⟩ := hcs13
    refine O (r_move (v := Value.tuple #[Value.agg (List.toArray (α := Value) (([Value.int .i64 rv3.1.Kind]) ++ ((rv3.1.Set.1.map (Value.int .u64)) ++ ([v11])))), Value.int .i64 rv3.2.1, Value.int .i64 rv3.2.2]) rfl) rfl ?_
    refine O (r_extract (vs := [Value.agg (List.toArray (α := Value) (([Value.int .i64 rv3.1.Kind]) ++ ((rv3.1.Set.1.map (Value.int .u64)) ++ ([v11])))), Value.int .i64 rv3.2.1, Value.int .i64 rv3.2.2]) (v := Value.agg (List.toArray (α := Value) (([Value.int .i64 rv3.1.Kind]) ++ ((rv3.1.Set.1.map (Value.int .u64)) ++ ([v11]))))) rfl rfl) rfl ?_
    refine O (r_extract (vs := [Value.agg (List.toArray (α := Value) (([Value.int .i64 rv3.1.Kind]) ++ ((rv3.1.Set.1.map (Value.int .u64)) ++ ([v11])))), Value.int .i64 rv3.2.1, Value.int .i64 rv3.2.2]) (v := Value.int .i64 rv3.2.1) rfl rfl) rfl ?_
    refine O (r_extract (vs := [Value.agg (List.toArray (α := Value) (([Value.int .i64 rv3.1.Kind]) ++ ((rv3.1.Set.1.map (Value.int .u64)) ++ ([v11])))), Value.int .i64 rv3.2.1, Value.int .i64 rv3.2.2]) (v := Value.int .i64 rv3.2.2) rfl rfl) rfl ?_
    refine OW_alloc ti27 hs (zs := ([Value.int .i64 0]) ++ (((Vec.zero 4).1.map (Value.int .u64)) ++ ([Value.slice none 0 0]))) rfl rfl ?_
    intro b2 wv6 hs
    refine OW_storeAll ti27 hs (i := 0) rfl rfl (v := Value.agg (List.toArray (α := Value) (([Value.int .i64 rv3.1.Kind]) ++ ((rv3.1.Set.1.map (Value.int .u64)) ++ ([v11]))))) rfl (vs := ([Value.int .i64 rv3.1.Kind]) ++ ((rv3.1.Set.1.map (Value.int .u64)) ++ ([v11]))) rfl (one_append (one_cons rfl one_nil) (one_append vec_one (one_cons (by obtain ⟨_, _, h9⟩ := hRv11.shape; rw [h9]; rfl) one_nil))) (by simp [rv3.1.Set.2]) (by simp [rv3.1.Set.2, (Vec.zero 4).2]) ?_
    intro wv7 hs
    refine O (r_assign (v := Value.int .i64 rv3.2.1) rfl) rfl ?_
    refine O (r_assign (v := Value.int .i64 rv3.2.2) rfl) rfl ?_
    refine OW_nil ?_
    obtain ⟨rv6, hx1, hKhx1⟩ := bindS hM
    refine WP_cut (fun E w => ∃ (gg6 : Hp), E 2 = Value.bool rv6 ∧ E.ds = [] ∧ Hle gg3 gg6 ∧ Go.Lx.Sep g0 w0 gg6 w []) ?_ ?_
    · have hM := hx1
      have hagg3 := Hle.refl gg3
      refine WP_region ?_
      obtain ⟨rv7, hrv7, hM⟩ := bindS hM
      refine C [] cf13 rfl (law08_awake_ok hrv7 hs.imm hG0) rfl ?_
      rintro v14 wv10 ⟨gg7, hvv14, hegg7⟩
      have hlegg7 := hegg7.le hs.imm
      replace hs := hs.call hegg7
      replace hG0 := hG0.mono hlegg7
      replace hRv6 := hRv6.mono hlegg7
      replace hRv11 := hRv11.mono hlegg7
      replace hagg3 := hagg3.trans hlegg7
      obtain ⟨cs16, rfl, hcs16⟩ := hvv14
      have hcs16 : cs16 = _ := hcs16; subst hcs16
      refine O (r_move (v := Value.bool rv7) rfl) rfl ?_
      rcases condS hM with ⟨hg4, hM⟩ | ⟨hg4, hM⟩
      · refine OG rfl rfl rfl (by rw [hg4]; rfl) (r_move (v := Value.int .i64 rv2.2.2) rfl) rfl ?_
        refine OG rfl rfl rfl (by rw [hg4]; rfl) (r_move (v := Value.int .i64 rv3.2.2) rfl) rfl ?_
        refine OG rfl rfl rfl (by rw [hg4]; rfl) (r_eql rfl rfl) rfl ?_
        refine O (r_pickT (v := Value.bool (rv2.2.2 == rv3.2.2)) rfl hg4 rfl) rfl ?_
        refine O (r_move (v := Value.bool (rv2.2.2 == rv3.2.2)) rfl) rfl ?_
        rcases condS hM with ⟨hg5, hM⟩ | ⟨hg5, hM⟩
        · refine OG rfl rfl rfl (by rw [hg5]; rfl) (r_move (v := Value.int .i64 rv2.2.1) rfl) rfl ?_
          refine OG rfl rfl rfl (by rw [hg5]; rfl) (r_move (v := Value.int .i64 rv3.2.1) rfl) rfl ?_
          refine OG rfl rfl rfl (by rw [hg5]; rfl) (r_eql rfl rfl) rfl ?_
          refine O (r_pickT (v := Value.bool (rv2.2.1 == rv3.2.1)) rfl hg5 rfl) rfl ?_
          refine O (r_move (v := Value.bool (rv2.2.1 == rv3.2.1)) rfl) rfl ?_
          rcases condS hM with ⟨hg6, hM⟩ | ⟨hg6, hM⟩
          · refine OG rfl rfl rfl (by rw [hg6]; rfl) (r_loadN (cs := ([Value.int .i64 rv2.1.Kind]) ++ ((rv2.1.Set.1.map (Value.int .u64)) ++ ([v6]))) ti27 rfl (by simp [rv2.1.Set.2]) (hs.cells (i := 1) rfl)) rfl ?_
            refine OG rfl rfl rfl (by rw [hg6]; rfl) (r_loadN (cs := ([Value.int .i64 rv3.1.Kind]) ++ ((rv3.1.Set.1.map (Value.int .u64)) ++ ([v11]))) ti27 rfl (by simp [rv3.1.Set.2]) (hs.cells (i := 0) rfl)) rfl ?_
            obtain ⟨rv8, hrv8, hM⟩ := bindS hM
            refine CG rfl rfl rfl (by rw [hg6]; rfl) [Value.agg (List.toArray (α := Value) (([Value.int .i64 rv2.1.Kind]) ++ ((rv2.1.Set.1.map (Value.int .u64)) ++ ([v6])))), Value.agg (List.toArray (α := Value) (([Value.int .i64 rv3.1.Kind]) ++ ((rv3.1.Set.1.map (Value.int .u64)) ++ ([v11]))))] cf18 rfl (ref08_Equal_ok hrv8 hs.imm (tT_Regex_iff.2 ⟨[Value.int .i64 rv2.1.Kind], rv2.1.Set.1.map (Value.int .u64), [v6], rfl, rfl, rfl, ⟨_, rfl, hRv6⟩⟩) (tT_Regex_iff.2 ⟨[Value.int .i64 rv3.1.Kind], rv3.1.Set.1.map (Value.int .u64), [v11], rfl, rfl, rfl, ⟨_, rfl, hRv11⟩⟩)) rfl ?_
            rintro v15 wv11 ⟨gg8, hvv15, hegg8⟩
            have hlegg8 := hegg8.le hs.imm
            replace hs := hs.call hegg8
            replace hG0 := hG0.mono hlegg8
            replace hRv6 := hRv6.mono hlegg8
            replace hRv11 := hRv11.mono hlegg8
            replace hagg3 := hagg3.trans hlegg8
            obtain ⟨cs17, rfl, hcs17⟩ := hvv15
            have hcs17 : cs17 = _ := hcs17; subst hcs17
            refine O (r_pickT (v := Value.bool rv8) rfl hg6 rfl) rfl ?_
            refine O (r_assign (v := Value.bool rv8) rfl) rfl ?_
            refine OW_nil ?_
            obtain rfl := Option.some.inj hM
            exact ⟨gg8, rfl, hds, hagg3, (hs.sub (.cons _ (.cons _ .slnil)))⟩
          · refine OK rfl rfl rfl (by rw [hg6]; rfl) rfl ?_
            refine OK rfl rfl rfl (by rw [hg6]; rfl) rfl ?_
            refine OK rfl rfl rfl (by rw [hg6]; rfl) rfl ?_
            refine O (r_pickF (v := Value.bool false) rfl hg6 rfl) rfl ?_
            refine O (r_assign (v := Value.bool false) rfl) rfl ?_
            refine OW_nil ?_
            obtain rfl := Option.some.inj hM
            exact ⟨gg7, rfl, hds, hagg3, (hs.sub (.cons _ (.cons _ .slnil)))⟩
        · refine OK rfl rfl rfl (by rw [hg5]; rfl) rfl ?_
          refine OK rfl rfl rfl (by rw [hg5]; rfl) rfl ?_
          refine OK rfl rfl rfl (by rw [hg5]; rfl) rfl ?_
          refine O (r_pickF (v := Value.bool false) rfl hg5 rfl) rfl ?_
          refine O (r_move (v := Value.bool false) rfl) rfl ?_
          refine OK rfl rfl rfl rfl rfl ?_
          refine OK rfl rfl rfl rfl rfl ?_
          refine OK rfl rfl rfl rfl rfl ?_
          refine O (r_pickF (v := Value.bool false) rfl rfl rfl) rfl ?_
          refine O (r_assign (v := Value.bool false) rfl) rfl ?_
          refine OW_nil ?_
          obtain rfl := Option.some.inj hM
          exact ⟨gg7, rfl, hds, hagg3, (hs.sub (.cons _ (.cons _ .slnil)))⟩
      · refine OK rfl rfl rfl (by rw [hg4]; rfl) rfl ?_
        refine OK rfl rfl rfl (by rw [hg4]; rfl) rfl ?_
        refine OK rfl rfl rfl (by rw [hg4]; rfl) rfl ?_
        refine O (r_pickF (v := Value.bool false) rfl hg4 rfl) rfl ?_
        refine O (r_move (v := Value.bool false) rfl) rfl ?_
        refine OK rfl rfl rfl rfl rfl ?_
        refine OK rfl rfl rfl rfl rfl ?_
        refine OK rfl rfl rfl rfl rfl ?_
        refine O (r_pickF (v := Value.bool false) rfl rfl rfl) rfl ?_
        refine O (r_move (v := Value.bool false) rfl) rfl ?_
        refine OK rfl rfl rfl rfl rfl ?_
        refine OK rfl rfl rfl rfl rfl ?_
        refine OK rfl rfl rfl rfl rfl ?_
        refine O (r_pickF (v := Value.bool false) rfl rfl rfl) rfl ?_
        refine O (r_assign (v := Value.bool false) rfl) rfl ?_
        refine OW_nil ?_
        obtain rfl := Option.some.inj hM
        exact ⟨gg7, rfl, hds, hagg3, (hs.sub (.cons _ (.cons _ .slnil)))⟩
    · clear hs
      rintro E w ⟨gg6, hE2, hds, hlegg6, hs⟩
      have hM := hKhx1
      obtain ⟨E, rfl⟩ := open1 (E := E) hE2
      replace hG0 := hG0.mono hlegg6
      refine WP_ret ?_
      obtain rfl := Option.some.inj hM
      refine FL_nil hds ?_
      exact ⟨_, res1 Tryd.results4 (rv_tmp (v := Value.bool rv6) rfl), gg6, ⟨[Value.bool rv6], rfl, rfl⟩, hs.ext⟩

end Go.Proofs.YtffienmbeifioaaDoor
