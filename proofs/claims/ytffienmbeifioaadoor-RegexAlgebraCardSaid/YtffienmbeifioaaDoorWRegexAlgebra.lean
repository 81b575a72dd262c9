/- The walk of the law. Printed by a program of my own. -/
import Derived.Test.YtffienmbeifioaaDoorTyp
import Derived.Test.YtffienmbeifioaaDoorWalk2
import Derived.Test.YtffienmbeifioaaDoorWalk4
import Derived.Test.YtffienmbeifioaaDoorWalk5
import Derived.Test.YtffienmbeifioaaDoorWalk7
set_option linter.unusedVariables false
set_option linter.unusedSimpArgs false
namespace Go.Proofs.YtffienmbeifioaaDoor
open Go.Lx Go.RowKit
set_option maxRecDepth 100000 in
theorem law08_RegexAlgebra_ok {p1 : T_Regex} {p2 : T_Regex} {p3 : Str} {r : Bool} (hM : M.law08_RegexAlgebra p1 p2 p3 = some r) {g0 : Hp} {w0 : World} (hi : Imm g0 w0) {cs1 : List Value} (hcs1 : tT_Regex.rel g0 cs1 p1) {cs2 : List Value} (hcs2 : tT_Regex.rel g0 cs2 p2) (hG0 : GBox 0 (M.deBruijn.1.map (Value.int .u8)) g0) :
    CallsV Tryd.prog 10 #[Value.agg cs1.toArray, Value.agg cs2.toArray, encS p3] w0 (fun v w' => ∃ g', (VRd tBool false g' v r) ∧ Ext g0 w0 g' w') := by
  unfold M.law08_RegexAlgebra at hM
  obtain ⟨cs3, cs4, cs5, rfl, hcs3, hcs4, hcs5⟩ := tT_Regex_iff.1 hcs1
  have hcs3 : cs3 = _ := hcs3; subst hcs3
  have hcs4 : cs4 = _ := hcs4; subst hcs4
  obtain ⟨v1, rfl, hRv1⟩ := hcs5
  obtain ⟨cs6, cs7, cs8, rfl, hcs6, hcs7, hcs8⟩ := tT_Regex_iff.1 hcs2
  have hcs6 : cs6 = _ := hcs6; subst hcs6
  have hcs7 : cs7 = _ := hcs7; subst hcs7
  obtain ⟨v2, rfl, hRv2⟩ := hcs8
  have hs := Sep.start hi
  refine calls_of_WP (args := [Value.agg (List.toArray (α := Value) (([Value.int .i64 p1.Kind]) ++ ((p1.Set.1.map (Value.int .u64)) ++ ([v1])))), Value.agg (List.toArray (α := Value) (([Value.int .i64 p2.Kind]) ++ ((p2.Set.1.map (Value.int .u64)) ++ ([v2])))), encS p3]) Tryd.func10 rfl Tryd.ntmps10 rfl ?_
  have hds : (argEnv [Value.agg (List.toArray (α := Value) (([Value.int .i64 p1.Kind]) ++ ((p1.Set.1.map (Value.int .u64)) ++ ([v1])))), Value.agg (List.toArray (α := Value) (([Value.int .i64 p2.Kind]) ++ ((p2.Set.1.map (Value.int .u64)) ++ ([v2])))), encS p3]).ds = [] := rfl
  refine WP_seq ?_
  refine WP_region ?_
  refine OW_box (v := Value.agg (List.toArray (α := Value) (([Value.int .i64 p1.Kind]) ++ ((p1.Set.1.map (Value.int .u64)) ++ ([v1]))))) rfl hs (zs := ([Value.int .i64 p1.Kind]) ++ ((p1.Set.1.map (Value.int .u64)) ++ ([v1]))) rfl rfl ?_
  intro b1 wv1 hs
  refine OW_box (v := Value.agg (List.toArray (α := Value) (([Value.int .i64 p2.Kind]) ++ ((p2.Set.1.map (Value.int .u64)) ++ ([v2]))))) rfl hs (zs := ([Value.int .i64 p2.Kind]) ++ ((p2.Set.1.map (Value.int .u64)) ++ ([v2]))) rfl rfl ?_
  intro b2 wv2 hs
  refine O (r_assign (v := Value.bool false) rfl) rfl ?_
  refine OW_nil ?_
  refine WP_seq ?_
  obtain ⟨xv1, hx1, hKhx1⟩ := bindS hM
  refine WP_cut (fun E w => ∃ (gg3 : Hp), E 2 = encS p3 ∧ E 3 = Value.pointer (some ⟨b1, 0, none⟩) ∧ E 4 = Value.pointer (some ⟨b2, 0, none⟩) ∧ E 25 = Value.bool xv1 ∧ E.ds = [] ∧ Hle g0 gg3 ∧ Go.Lx.Sep g0 w0 gg3 w [Go.Lx.box b2 27 (([Value.int .i64 p2.Kind]) ++ ((p2.Set.1.map (Value.int .u64)) ++ ([v2]))), Go.Lx.box b1 27 (([Value.int .i64 p1.Kind]) ++ ((p1.Set.1.map (Value.int .u64)) ++ ([v1])))]) ?_ ?_
  · have hM := hx1
    have hag0 := Hle.refl g0
    refine WP_region ?_
    refine O (r_loadN (cs := ([Value.int .i64 p1.Kind]) ++ ((p1.Set.1.map (Value.int .u64)) ++ ([v1]))) ti27 rfl (by simp [p1.Set.2]) (hs.cells (i := 1) rfl)) rfl ?_
    obtain ⟨rv3, hrv3, hM⟩ := bindS hM
    refine C [Value.agg (List.toArray (α := Value) (([Value.int .i64 p1.Kind]) ++ ((p1.Set.1.map (Value.int .u64)) ++ ([v1])))), Value.int .i64 15] cf19 rfl (law08_small_ok hrv3 hs.imm (tT_Regex_iff.2 ⟨[Value.int .i64 p1.Kind], p1.Set.1.map (Value.int .u64), [v1], rfl, rfl, rfl, ⟨_, rfl, hRv1⟩⟩)) rfl ?_
    rintro v5 wv5 ⟨gg4, hvv5, hegg4⟩
    have hlegg4 := hegg4.le hs.imm
    replace hs := hs.call hegg4
    replace hG0 := hG0.mono hlegg4
    replace hRv1 := hRv1.mono hlegg4
    replace hRv2 := hRv2.mono hlegg4
    replace hag0 := hag0.trans hlegg4
    obtain ⟨cs11, rfl, hcs11⟩ := hvv5
    have hcs11 : cs11 = _ := hcs11; subst hcs11
    refine O (r_not rfl) rfl ?_
    refine O (r_move (v := Value.bool (!rv3)) rfl) rfl ?_
    rcases condS hM with ⟨hg3, hM⟩ | ⟨hg3, hM⟩
    · refine OK rfl rfl rfl (by rw [hg3]; rfl) rfl ?_
      refine OK rfl rfl rfl (by rw [hg3]; rfl) rfl ?_
      refine OK rfl rfl rfl (by rw [hg3]; rfl) rfl ?_
      refine O (r_pickT (v := Value.bool true) rfl hg3 rfl) rfl ?_
      refine O (r_move (v := Value.bool true) rfl) rfl ?_
      refine OK rfl rfl rfl rfl rfl ?_
      refine OK rfl rfl rfl rfl rfl ?_
      refine OK rfl rfl rfl rfl rfl ?_
      refine O (r_pickT (v := Value.bool true) rfl rfl rfl) rfl ?_
      refine OW_nil ?_
      obtain rfl := Option.some.inj hM
      exact ⟨gg4, rfl, rfl, rfl, rfl, hds, hag0, hs⟩
    · refine OG rfl rfl rfl (by rw [hg3]; rfl) (r_loadN (cs := ([Value.int .i64 p2.Kind]) ++ ((p2.Set.1.map (Value.int .u64)) ++ ([v2]))) ti27 rfl (by simp [p2.Set.2]) (hs.cells (i := 0) rfl)) rfl ?_
      obtain ⟨rv4, hrv4, hM⟩ := bindS hM
      refine CG rfl rfl rfl (by rw [hg3]; rfl) [Value.agg (List.toArray (α := Value) (([Value.int .i64 p2.Kind]) ++ ((p2.Set.1.map (Value.int .u64)) ++ ([v2])))), Value.int .i64 15] cf19 rfl (law08_small_ok hrv4 hs.imm (tT_Regex_iff.2 ⟨[Value.int .i64 p2.Kind], p2.Set.1.map (Value.int .u64), [v2], rfl, rfl, rfl, ⟨_, rfl, hRv2⟩⟩)) rfl ?_
      rintro v6 wv6 ⟨gg5, hvv6, hegg5⟩
      have hlegg5 := hegg5.le hs.imm
      replace hs := hs.call hegg5
      replace hG0 := hG0.mono hlegg5
      replace hRv1 := hRv1.mono hlegg5
      replace hRv2 := hRv2.mono hlegg5
      replace hag0 := hag0.trans hlegg5
      obtain ⟨cs12, rfl, hcs12⟩ := hvv6
      have hcs12 : cs12 = _ := hcs12; subst hcs12
      refine OG rfl rfl rfl (by rw [hg3]; rfl) (r_not rfl) rfl ?_
      refine O (r_pickF (v := Value.bool (!rv4)) rfl hg3 rfl) rfl ?_
      refine O (r_move (v := Value.bool (!rv4)) rfl) rfl ?_
      rcases condS hM with ⟨hg4, hM⟩ | ⟨hg4, hM⟩
      · refine OK rfl rfl rfl (by rw [hg4]; rfl) rfl ?_
        refine OK rfl rfl rfl (by rw [hg4]; rfl) rfl ?_
        refine OK rfl rfl rfl (by rw [hg4]; rfl) rfl ?_
        refine O (r_pickT (v := Value.bool true) rfl hg4 rfl) rfl ?_
        refine OW_nil ?_
        obtain rfl := Option.some.inj hM
        exact ⟨gg5, rfl, rfl, rfl, rfl, hds, hag0, hs⟩
      · refine OG rfl rfl rfl (by rw [hg4]; rfl) (r_move (v := encS p3) rfl) rfl ?_
        refine OG rfl rfl rfl (by rw [hg4]; rfl) (r_lenStr Tryd.underlying9 rfl) rfl ?_
        refine OG rfl rfl rfl (by rw [hg4]; rfl) (r_gtr rfl rfl) rfl ?_
        refine O (r_pickF (v := Value.bool (decide (8 < (p3.length : Int)))) rfl hg4 rfl) rfl ?_
        refine OW_nil ?_
        obtain rfl := Option.some.inj hM
        exact ⟨gg5, rfl, rfl, rfl, rfl, hds, hag0, hs⟩
  · clear hs
    rintro E w ⟨gg3, hE2, hE3, hE4, hE25, hds, hlegg3, hs⟩
    have hM := hKhx1
    obtain ⟨E, rfl⟩ := open1 (E := E) hE2
    obtain ⟨E, rfl⟩ := open1 (E := E) hE3
    obtain ⟨E, rfl⟩ := open1 (E := E) hE4
    obtain ⟨E, rfl⟩ := open1 (E := E) hE25
    replace hRv1 := hRv1.mono hlegg3
    replace hRv2 := hRv2.mono hlegg3
    replace hG0 := hG0.mono hlegg3
    rcases condS hM with ⟨hc1, hM⟩ | ⟨hc1, hM⟩
    · refine WP_true rfl hc1 ?_
      refine WP_seq ?_
      refine WP_region ?_
      obtain ⟨rv5, hrv5, hM⟩ := bindS hM
      refine C [] cf13 rfl (law08_awake_ok hrv5 hs.imm hG0) rfl ?_
      rintro v7 wv7 ⟨gg6, hvv7, hegg6⟩
      have hlegg6 := hegg6.le hs.imm
      replace hs := hs.call hegg6
      replace hRv1 := hRv1.mono hlegg6
      replace hRv2 := hRv2.mono hlegg6
      replace hG0 := hG0.mono hlegg6
      obtain ⟨cs13, rfl, hcs13⟩ := hvv7
      have hcs13 : cs13 = _ := hcs13; subst hcs13
      refine O (r_assign (v := Value.bool rv5) rfl) rfl ?_
      refine OW_nil ?_
      refine WP_ret ?_
      obtain rfl := Option.some.inj hM
      refine FL_nil hds ?_
      exact ⟨_, res1 Tryd.results10 (rv_tmp (v := Value.bool rv5) rfl), gg6, ⟨[Value.bool rv5], rfl, rfl⟩, hs.ext⟩
    · refine WP_false rfl hc1 ?_
      refine WP_skip ?_
      refine WP_seq ?_
      refine WP_region ?_
      refine O (r_loadN (cs := ([Value.int .i64 p1.Kind]) ++ ((p1.Set.1.map (Value.int .u64)) ++ ([v1]))) ti27 rfl (by simp [p1.Set.2]) (hs.cells (i := 1) rfl)) rfl ?_
      refine O (r_loadN (cs := ([Value.int .i64 p2.Kind]) ++ ((p2.Set.1.map (Value.int .u64)) ++ ([v2]))) ti27 rfl (by simp [p2.Set.2]) (hs.cells (i := 0) rfl)) rfl ?_
      refine OW_lit (τ := tT_Regex) [Value.agg (List.toArray (α := Value) (([Value.int .i64 p1.Kind]) ++ ((p1.Set.1.map (Value.int .u64)) ++ ([v1])))), Value.agg (List.toArray (α := Value) (([Value.int .i64 p2.Kind]) ++ ((p2.Set.1.map (Value.int .u64)) ++ ([v2]))))] [p1, p2] Tryd.underlying25 ti27 (by decide) hs rfl rfl rfl ⟨(tT_Regex_iff.2 ⟨[Value.int .i64 p1.Kind], p1.Set.1.map (Value.int .u64), [v1], rfl, rfl, rfl, ⟨_, rfl, hRv1⟩⟩), (tT_Regex_iff.2 ⟨[Value.int .i64 p2.Kind], p2.Set.1.map (Value.int .u64), [v2], rfl, rfl, rfl, ⟨_, rfl, hRv2⟩⟩), trivial⟩ rfl ?_
      intro v8 wv8 xs1 hrelxs1 hs
      have ho1 := one_of_shape (hs.rowShape (i := 0) rfl)
      refine O (r_build (vs := [(0, Value.int .i64 4), (2, v8)]) (cs := ([Value.int .i64 4]) ++ (((Vec.zero 4).1.map (Value.int .u64)) ++ ([v8]))) rfl (built_fill [(0, 1), (1, 4), (5, 1)] (([Value.int .i64 0]) ++ (((Vec.zero 4).1.map (Value.int .u64)) ++ ([Value.slice none 0 0]))) (fun _ => by kernel_rfl) (fill_step ([]) ([Value.int .i64 0]) (((Vec.zero 4).1.map (Value.int .u64)) ++ ([Value.slice none 0 0])) ([Value.int .i64 4]) rfl (by simp) rfl rfl rfl rfl <| fill_step (([Value.int .i64 4]) ++ ((Vec.zero 4).1.map (Value.int .u64))) ([Value.slice none 0 0]) ([]) ([v8]) rfl (by simp) (cells_one ho1) (by simp [(Vec.zero 4).2]) rfl rfl <| fill_done))) rfl ?_
      refine OW_alloc ti27 hs (zs := ([Value.int .i64 0]) ++ (((Vec.zero 4).1.map (Value.int .u64)) ++ ([Value.slice none 0 0]))) rfl rfl ?_
      intro b3 wv9 hs
      refine OW_storeAll ti27 hs (i := 0) rfl rfl (v := Value.agg (List.toArray (α := Value) (([Value.int .i64 4]) ++ (((Vec.zero 4).1.map (Value.int .u64)) ++ ([v8]))))) rfl (vs := ([Value.int .i64 4]) ++ (((Vec.zero 4).1.map (Value.int .u64)) ++ ([v8]))) rfl (one_append (one_cons rfl one_nil) (one_append vec_one (one_cons (by obtain ⟨_, _, h9⟩ := hs.rowShape (i := 1) rfl; rw [h9]; rfl) one_nil))) (by simp [(Vec.zero 4).2]) (by simp [(Vec.zero 4).2, (Vec.zero 4).2]) ?_
      intro wv10 hs
      refine OW_nil ?_
      refine WP_seq ?_
      refine WP_region ?_
      refine O (r_loadN (cs := ([Value.int .i64 p1.Kind]) ++ ((p1.Set.1.map (Value.int .u64)) ++ ([v1]))) ti27 rfl (by simp [p1.Set.2]) (hs.cells (i := 3) rfl)) rfl ?_
      refine O (r_loadN (cs := ([Value.int .i64 p2.Kind]) ++ ((p2.Set.1.map (Value.int .u64)) ++ ([v2]))) ti27 rfl (by simp [p2.Set.2]) (hs.cells (i := 2) rfl)) rfl ?_
      refine OW_lit (τ := tT_Regex) [Value.agg (List.toArray (α := Value) (([Value.int .i64 p1.Kind]) ++ ((p1.Set.1.map (Value.int .u64)) ++ ([v1])))), Value.agg (List.toArray (α := Value) (([Value.int .i64 p2.Kind]) ++ ((p2.Set.1.map (Value.int .u64)) ++ ([v2]))))] [p1, p2] Tryd.underlying25 ti27 (by decide) hs rfl rfl rfl ⟨(tT_Regex_iff.2 ⟨[Value.int .i64 p1.Kind], p1.Set.1.map (Value.int .u64), [v1], rfl, rfl, rfl, ⟨_, rfl, hRv1⟩⟩), (tT_Regex_iff.2 ⟨[Value.int .i64 p2.Kind], p2.Set.1.map (Value.int .u64), [v2], rfl, rfl, rfl, ⟨_, rfl, hRv2⟩⟩), trivial⟩ rfl ?_
      intro v9 wv11 xs2 hrelxs2 hs
      have ho2 := one_of_shape (hs.rowShape (i := 0) rfl)
      refine O (r_build (vs := [(0, Value.int .i64 5), (2, v9)]) (cs := ([Value.int .i64 5]) ++ (((Vec.zero 4).1.map (Value.int .u64)) ++ ([v9]))) rfl (built_fill [(0, 1), (1, 4), (5, 1)] (([Value.int .i64 0]) ++ (((Vec.zero 4).1.map (Value.int .u64)) ++ ([Value.slice none 0 0]))) (fun _ => by kernel_rfl) (fill_step ([]) ([Value.int .i64 0]) (((Vec.zero 4).1.map (Value.int .u64)) ++ ([Value.slice none 0 0])) ([Value.int .i64 5]) rfl (by simp) rfl rfl rfl rfl <| fill_step (([Value.int .i64 5]) ++ ((Vec.zero 4).1.map (Value.int .u64))) ([Value.slice none 0 0]) ([]) ([v9]) rfl (by simp) (cells_one ho2) (by simp [(Vec.zero 4).2]) rfl rfl <| fill_done))) rfl ?_
      refine OW_alloc ti27 hs (zs := ([Value.int .i64 0]) ++ (((Vec.zero 4).1.map (Value.int .u64)) ++ ([Value.slice none 0 0]))) rfl rfl ?_
      intro b4 wv12 hs
      refine OW_storeAll ti27 hs (i := 0) rfl rfl (v := Value.agg (List.toArray (α := Value) (([Value.int .i64 5]) ++ (((Vec.zero 4).1.map (Value.int .u64)) ++ ([v9]))))) rfl (vs := ([Value.int .i64 5]) ++ (((Vec.zero 4).1.map (Value.int .u64)) ++ ([v9]))) rfl (one_append (one_cons rfl one_nil) (one_append vec_one (one_cons (by obtain ⟨_, _, h9⟩ := hs.rowShape (i := 1) rfl; rw [h9]; rfl) one_nil))) (by simp [(Vec.zero 4).2]) (by simp [(Vec.zero 4).2, (Vec.zero 4).2]) ?_
      intro wv13 hs
      refine OW_nil ?_
      refine WP_seq ?_
      refine WP_region ?_
      refine O (r_loadN (cs := ([Value.int .i64 p1.Kind]) ++ ((p1.Set.1.map (Value.int .u64)) ++ ([v1]))) ti27 rfl (by simp [p1.Set.2]) (hs.cells (i := 5) rfl)) rfl ?_
      refine OW_lit (τ := tT_Regex) [Value.agg (List.toArray (α := Value) (([Value.int .i64 p1.Kind]) ++ ((p1.Set.1.map (Value.int .u64)) ++ ([v1]))))] [p1] Tryd.underlying25 ti27 (by decide) hs rfl rfl rfl ⟨(tT_Regex_iff.2 ⟨[Value.int .i64 p1.Kind], p1.Set.1.map (Value.int .u64), [v1], rfl, rfl, rfl, ⟨_, rfl, hRv1⟩⟩), trivial⟩ rfl ?_
      intro v10 wv14 xs3 hrelxs3 hs
      have ho3 := one_of_shape (hs.rowShape (i := 0) rfl)
      refine O (r_build (vs := [(0, Value.int .i64 6), (2, v10)]) (cs := ([Value.int .i64 6]) ++ (((Vec.zero 4).1.map (Value.int .u64)) ++ ([v10]))) rfl (built_fill [(0, 1), (1, 4), (5, 1)] (([Value.int .i64 0]) ++ (((Vec.zero 4).1.map (Value.int .u64)) ++ ([Value.slice none 0 0]))) (fun _ => by kernel_rfl) (fill_step ([]) ([Value.int .i64 0]) (((Vec.zero 4).1.map (Value.int .u64)) ++ ([Value.slice none 0 0])) ([Value.int .i64 6]) rfl (by simp) rfl rfl rfl rfl <| fill_step (([Value.int .i64 6]) ++ ((Vec.zero 4).1.map (Value.int .u64))) ([Value.slice none 0 0]) ([]) ([v10]) rfl (by simp) (cells_one ho3) (by simp [(Vec.zero 4).2]) rfl rfl <| fill_done))) rfl ?_
      refine OW_alloc ti27 hs (zs := ([Value.int .i64 0]) ++ (((Vec.zero 4).1.map (Value.int .u64)) ++ ([Value.slice none 0 0]))) rfl rfl ?_
      intro b5 wv15 hs
      refine OW_storeAll ti27 hs (i := 0) rfl rfl (v := Value.agg (List.toArray (α := Value) (([Value.int .i64 6]) ++ (((Vec.zero 4).1.map (Value.int .u64)) ++ ([v10]))))) rfl (vs := ([Value.int .i64 6]) ++ (((Vec.zero 4).1.map (Value.int .u64)) ++ ([v10]))) rfl (one_append (one_cons rfl one_nil) (one_append vec_one (one_cons (by obtain ⟨_, _, h9⟩ := hs.rowShape (i := 1) rfl; rw [h9]; rfl) one_nil))) (by simp [(Vec.zero 4).2]) (by simp [(Vec.zero 4).2, (Vec.zero 4).2]) ?_
      intro wv16 hs
      refine OW_nil ?_
      refine WP_seq ?_
      obtain ⟨xv2, hx2, hKhx2⟩ := bindS hM
      refine WP_cut (fun E w => ∃ (gg13 : Hp), E 2 = encS p3 ∧ E 3 = Value.pointer (some ⟨b1, 0, none⟩) ∧ E 4 = Value.pointer (some ⟨b2, 0, none⟩) ∧ E 7 = Value.pointer (some ⟨b3, 0, none⟩) ∧ E 8 = Value.pointer (some ⟨b4, 0, none⟩) ∧ E 9 = Value.pointer (some ⟨b5, 0, none⟩) ∧ E 45 = Value.bool xv2 ∧ E.ds = [] ∧ Hle gg3 gg13 ∧ Go.Lx.Sep g0 w0 gg13 w [Go.Lx.box b5 27 (([Value.int .i64 6]) ++ (((Vec.zero 4).1.map (Value.int .u64)) ++ ([v10]))), .row v10 27 tT_Regex.sz [p1].length xs3, Go.Lx.box b4 27 (([Value.int .i64 5]) ++ (((Vec.zero 4).1.map (Value.int .u64)) ++ ([v9]))), .row v9 27 tT_Regex.sz [p1, p2].length xs2, Go.Lx.box b3 27 (([Value.int .i64 4]) ++ (((Vec.zero 4).1.map (Value.int .u64)) ++ ([v8]))), .row v8 27 tT_Regex.sz [p1, p2].length xs1, Go.Lx.box b2 27 (([Value.int .i64 p2.Kind]) ++ ((p2.Set.1.map (Value.int .u64)) ++ ([v2]))), Go.Lx.box b1 27 (([Value.int .i64 p1.Kind]) ++ ((p1.Set.1.map (Value.int .u64)) ++ ([v1])))]) ?_ ?_
      · have hM := hx2
        have hagg3 := Hle.refl gg3
        refine WP_region ?_
        refine O (r_loadN (cs := ([Value.int .i64 4]) ++ (((Vec.zero 4).1.map (Value.int .u64)) ++ ([v8]))) ti27 rfl (by simp [(Vec.zero 4).2]) (hs.cells (i := 4) rfl)) rfl ?_
        have hsL3 := hs
        have hRv1L3 := hRv1
        have hRv2L3 := hRv2
        have hG0L3 := hG0
        have hrelxs1L3 := hrelxs1
        have hrelxs2L3 := hrelxs2
        have hrelxs3L3 := hrelxs3
        have hagg3L3 := hagg3
        obtain ⟨gg14, hlegg14, hRgg14, hs⟩ := hs.relRow (i := 5) rfl hrelxs1
        replace hRv1 := hRv1.mono hlegg14
        replace hRv2 := hRv2.mono hlegg14
        replace hG0 := hG0.mono hlegg14
        replace hrelxs2 := hrelxs2.mono hlegg14
        replace hrelxs3 := hrelxs3.mono hlegg14
        replace hagg3 := hagg3.trans hlegg14
        obtain ⟨rv8, hrv8, hM⟩ := bindS hM
        refine C [Value.agg (List.toArray (α := Value) (([Value.int .i64 4]) ++ (((Vec.zero 4).1.map (Value.int .u64)) ++ ([v8]))))] cf15 rfl (ref08_Valid_ok hrv8 hs.imm (tT_Regex_iff.2 ⟨[Value.int .i64 4], (Vec.zero 4).1.map (Value.int .u64), [v8], rfl, rfl, rfl, ⟨_, rfl, hRgg14⟩⟩)) rfl ?_
        rintro v13 wv19 ⟨gg15, hvv13, hegg15⟩
        obtain ⟨gg16, hlegg16, hs⟩ := hsL3.lent hegg15
        replace hRv1 := hRv1L3.mono hlegg16
        replace hRv2 := hRv2L3.mono hlegg16
        replace hG0 := hG0L3.mono hlegg16
        replace hrelxs1 := hrelxs1L3.mono hlegg16
        replace hrelxs2 := hrelxs2L3.mono hlegg16
        replace hrelxs3 := hrelxs3L3.mono hlegg16
        replace hagg3 := hagg3L3.trans hlegg16
        obtain ⟨cs16, rfl, hcs16⟩ := hvv13
        have hcs16 : cs16 = _ := hcs16; subst hcs16
        refine O (r_not rfl) rfl ?_
        refine O (r_move (v := Value.bool (!rv8)) rfl) rfl ?_
        rcases condS hM with ⟨hg6, hM⟩ | ⟨hg6, hM⟩
        · refine OK rfl rfl rfl (by rw [hg6]; rfl) rfl ?_
          refine OK rfl rfl rfl (by rw [hg6]; rfl) rfl ?_
          refine OK rfl rfl rfl (by rw [hg6]; rfl) rfl ?_
          refine O (r_pickT (v := Value.bool true) rfl hg6 rfl) rfl ?_
          refine OW_nil ?_
          obtain rfl := Option.some.inj hM
          exact ⟨gg16, rfl, rfl, rfl, rfl, rfl, rfl, rfl, hds, hagg3, hs⟩
        · refine OG rfl rfl rfl (by rw [hg6]; rfl) (r_loadN (cs := ([Value.int .i64 6]) ++ (((Vec.zero 4).1.map (Value.int .u64)) ++ ([v10]))) ti27 rfl (by simp [(Vec.zero 4).2]) (hs.cells (i := 0) rfl)) rfl ?_
          have hsL4 := hs
          have hRv1L4 := hRv1
          have hRv2L4 := hRv2
          have hG0L4 := hG0
          have hrelxs1L4 := hrelxs1
          have hrelxs2L4 := hrelxs2
          have hrelxs3L4 := hrelxs3
          have hagg3L4 := hagg3
          obtain ⟨gg17, hlegg17, hRgg17, hs⟩ := hs.relRow (i := 1) rfl hrelxs3
          replace hRv1 := hRv1.mono hlegg17
          replace hRv2 := hRv2.mono hlegg17
          replace hG0 := hG0.mono hlegg17
          replace hrelxs1 := hrelxs1.mono hlegg17
          replace hrelxs2 := hrelxs2.mono hlegg17
          replace hagg3 := hagg3.trans hlegg17
          obtain ⟨rv9, hrv9, hM⟩ := bindS hM
          refine CG rfl rfl rfl (by rw [hg6]; rfl) [Value.agg (List.toArray (α := Value) (([Value.int .i64 6]) ++ (((Vec.zero 4).1.map (Value.int .u64)) ++ ([v10]))))] cf15 rfl (ref08_Valid_ok hrv9 hs.imm (tT_Regex_iff.2 ⟨[Value.int .i64 6], (Vec.zero 4).1.map (Value.int .u64), [v10], rfl, rfl, rfl, ⟨_, rfl, hRgg17⟩⟩)) rfl ?_
          rintro v14 wv20 ⟨gg18, hvv14, hegg18⟩
          obtain ⟨gg19, hlegg19, hs⟩ := hsL4.lent hegg18
          replace hRv1 := hRv1L4.mono hlegg19
          replace hRv2 := hRv2L4.mono hlegg19
          replace hG0 := hG0L4.mono hlegg19
          replace hrelxs1 := hrelxs1L4.mono hlegg19
          replace hrelxs2 := hrelxs2L4.mono hlegg19
          replace hrelxs3 := hrelxs3L4.mono hlegg19
          replace hagg3 := hagg3L4.trans hlegg19
          obtain ⟨cs17, rfl, hcs17⟩ := hvv14
          have hcs17 : cs17 = _ := hcs17; subst hcs17
          refine OG rfl rfl rfl (by rw [hg6]; rfl) (r_not rfl) rfl ?_
          refine O (r_pickF (v := Value.bool (!rv9)) rfl hg6 rfl) rfl ?_
          refine OW_nil ?_
          obtain rfl := Option.some.inj hM
          exact ⟨gg19, rfl, rfl, rfl, rfl, rfl, rfl, rfl, hds, hagg3, hs⟩
      · clear hs
        rintro E w ⟨gg13, hE2, hE3, hE4, hE7, hE8, hE9, hE45, hds, hlegg13, hs⟩
        have hM := hKhx2
        obtain ⟨E, rfl⟩ := open1 (E := E) hE2
        obtain ⟨E, rfl⟩ := open1 (E := E) hE3
        obtain ⟨E, rfl⟩ := open1 (E := E) hE4
        obtain ⟨E, rfl⟩ := open1 (E := E) hE7
        obtain ⟨E, rfl⟩ := open1 (E := E) hE8
        obtain ⟨E, rfl⟩ := open1 (E := E) hE9
        obtain ⟨E, rfl⟩ := open1 (E := E) hE45
        replace hRv1 := hRv1.mono hlegg13
        replace hRv2 := hRv2.mono hlegg13
        replace hG0 := hG0.mono hlegg13
        replace hrelxs3 := hrelxs3.mono hlegg13
        replace hrelxs2 := hrelxs2.mono hlegg13
        replace hrelxs1 := hrelxs1.mono hlegg13
        rcases condS hM with ⟨hc2, hM⟩ | ⟨hc2, hM⟩
        · refine WP_true rfl hc2 ?_
          refine WP_seq ?_
          refine WP_region ?_
          obtain ⟨rv10, hrv10, hM⟩ := bindS hM
          refine C [] cf13 rfl (law08_awake_ok hrv10 hs.imm hG0) rfl ?_
          rintro v15 wv21 ⟨gg20, hvv15, hegg20⟩
          have hlegg20 := hegg20.le hs.imm
          replace hs := hs.call hegg20
          replace hRv1 := hRv1.mono hlegg20
          replace hRv2 := hRv2.mono hlegg20
          replace hG0 := hG0.mono hlegg20
          replace hrelxs3 := hrelxs3.mono hlegg20
          replace hrelxs2 := hrelxs2.mono hlegg20
          replace hrelxs1 := hrelxs1.mono hlegg20
          obtain ⟨cs18, rfl, hcs18⟩ := hvv15
          have hcs18 : cs18 = _ := hcs18; subst hcs18
          refine O (r_assign (v := Value.bool rv10) rfl) rfl ?_
          refine OW_nil ?_
          refine WP_ret ?_
          obtain rfl := Option.some.inj hM
          refine FL_nil hds ?_
          exact ⟨_, res1 Tryd.results10 (rv_tmp (v := Value.bool rv10) rfl), gg20, ⟨[Value.bool rv10], rfl, rfl⟩, hs.ext⟩
        · refine WP_false rfl hc2 ?_
          refine WP_skip ?_
          refine WP_seq ?_
          refine WP_region ?_
          refine O (r_move (v := encS p3) rfl) rfl ?_
          refine O (r_eqlS rfl rfl) rfl ?_
          refine O (r_assign (v := Value.bool false) rfl) rfl ?_
          refine O (r_assign (v := Value.bool (p3 == [])) rfl) rfl ?_
          refine OW_nil ?_
          obtain ⟨⟨xv14, xv15⟩, hx6, hKhx6⟩ := bindS hM
          refine WP_cut (fun E w => ∃ (gg51 : Hp) (v36 : Value) (xs6 : List Value) (v35 : Value) (xs5 : List Value) (v34 : Value) (xs4 : List Value), E 2 = encS p3 ∧ E 3 = Value.pointer (some ⟨b1, 0, none⟩) ∧ E 4 = Value.pointer (some ⟨b2, 0, none⟩) ∧ E 7 = Value.pointer (some ⟨b3, 0, none⟩) ∧ E 8 = Value.pointer (some ⟨b4, 0, none⟩) ∧ E 9 = Value.pointer (some ⟨b5, 0, none⟩) ∧ E 10 = Value.bool xv14 ∧ E 11 = Value.bool xv15 ∧ E.ds = [] ∧ Hle gg13 gg51 ∧ RowRel tT_Regex gg51 xs6 [p1] ∧ RowRel tT_Regex gg51 xs5 [p1, p2] ∧ RowRel tT_Regex gg51 xs4 [p1, p2] ∧ Go.Lx.Sep g0 w0 gg51 w [Go.Lx.box b5 27 (([Value.int .i64 6]) ++ (((Vec.zero 4).1.map (Value.int .u64)) ++ ([v36]))), .row v36 27 tT_Regex.sz [p1].length xs6, Go.Lx.box b4 27 (([Value.int .i64 5]) ++ (((Vec.zero 4).1.map (Value.int .u64)) ++ ([v35]))), .row v35 27 tT_Regex.sz [p1, p2].length xs5, Go.Lx.box b3 27 (([Value.int .i64 4]) ++ (((Vec.zero 4).1.map (Value.int .u64)) ++ ([v34]))), .row v34 27 tT_Regex.sz [p1, p2].length xs4, Go.Lx.box b2 27 (([Value.int .i64 p2.Kind]) ++ ((p2.Set.1.map (Value.int .u64)) ++ ([v2]))), Go.Lx.box b1 27 (([Value.int .i64 p1.Kind]) ++ ((p1.Set.1.map (Value.int .u64)) ++ ([v1])))]) ?_ ?_
          · have hM := hx6
            have hagg13 := Hle.refl gg13
            refine WP_seq ?_
            refine WP_region ?_
            refine O (r_assign (v := Value.int .i64 0) rfl) rfl ?_
            refine OW_nil ?_
            refine WP_block ?_
            refine WP_loop (fun (st9 : Bool × Bool × Int) E w => match st9 with | (xv19, xv20, xv21) => ∃ (gg62 : Hp), E 2 = encS p3 ∧ E 3 = Value.pointer (some ⟨b1, 0, none⟩) ∧ E 4 = Value.pointer (some ⟨b2, 0, none⟩) ∧ E 7 = Value.pointer (some ⟨b3, 0, none⟩) ∧ E 8 = Value.pointer (some ⟨b4, 0, none⟩) ∧ E 9 = Value.pointer (some ⟨b5, 0, none⟩) ∧ E 10 = Value.bool xv19 ∧ E 11 = Value.bool xv20 ∧ E 12 = Value.int .i64 xv21 ∧ E.ds = [] ∧ Hle gg13 gg62 ∧ Go.Lx.Sep g0 w0 gg62 w [Go.Lx.box b5 27 (([Value.int .i64 6]) ++ (((Vec.zero 4).1.map (Value.int .u64)) ++ ([v10]))), .row v10 27 tT_Regex.sz [p1].length xs3, Go.Lx.box b4 27 (([Value.int .i64 5]) ++ (((Vec.zero 4).1.map (Value.int .u64)) ++ ([v9]))), .row v9 27 tT_Regex.sz [p1, p2].length xs2, Go.Lx.box b3 27 (([Value.int .i64 4]) ++ (((Vec.zero 4).1.map (Value.int .u64)) ++ ([v8]))), .row v8 27 tT_Regex.sz [p1, p2].length xs1, Go.Lx.box b2 27 (([Value.int .i64 p2.Kind]) ++ ((p2.Set.1.map (Value.int .u64)) ++ ([v2]))), Go.Lx.box b1 27 (([Value.int .i64 p1.Kind]) ++ ((p1.Set.1.map (Value.int .u64)) ++ ([v1])))]) hM ⟨gg13, rfl, rfl, rfl, rfl, rfl, rfl, rfl, rfl, rfl, hds, (Hle.refl _), hs⟩ ?_
            clear hs hM
            rintro ⟨xv19, xv20, xv21⟩ o2 E w hM ⟨gg62, hE2, hE3, hE4, hE7, hE8, hE9, hE10, hE11, hE12, hds, hlegg62, hs⟩
            obtain ⟨E, rfl⟩ := open1 (E := E) hE2
            obtain ⟨E, rfl⟩ := open1 (E := E) hE3
            obtain ⟨E, rfl⟩ := open1 (E := E) hE4
            obtain ⟨E, rfl⟩ := open1 (E := E) hE7
            obtain ⟨E, rfl⟩ := open1 (E := E) hE8
            obtain ⟨E, rfl⟩ := open1 (E := E) hE9
            obtain ⟨E, rfl⟩ := open1 (E := E) hE10
            obtain ⟨E, rfl⟩ := open1 (E := E) hE11
            obtain ⟨E, rfl⟩ := open1 (E := E) hE12
            replace hRv1 := hRv1.mono hlegg62
            replace hRv2 := hRv2.mono hlegg62
            replace hG0 := hG0.mono hlegg62
            replace hrelxs3 := hrelxs3.mono hlegg62
            replace hrelxs2 := hrelxs2.mono hlegg62
            replace hrelxs1 := hrelxs1.mono hlegg62
            replace hagg13 := hagg13.trans hlegg62
            have hagg62 := Hle.refl gg62
            refine WP_seq ?_
            refine WP_seq ?_
            refine WP_region ?_
            refine O (r_move (v := Value.int .i64 xv21) rfl) rfl ?_
            refine O (r_move (v := encS p3) rfl) rfl ?_
            refine O (r_lenStr Tryd.underlying9 rfl) rfl ?_
            refine O (r_leq rfl rfl) rfl ?_
            refine OW_nil ?_
            rcases condS hM with ⟨hc8, hM⟩ | ⟨hc8, hM⟩
            · refine WP_true rfl hc8 ?_
              refine WP_skip ?_
              refine WP_seq ?_
              refine WP_block ?_
              obtain ⟨xv26, hx9, hKhx9⟩ := bindS hM
              refine WP_cut (fun E w => ∃ (gg75 : Hp), E 2 = encS p3 ∧ E 3 = Value.pointer (some ⟨b1, 0, none⟩) ∧ E 4 = Value.pointer (some ⟨b2, 0, none⟩) ∧ E 7 = Value.pointer (some ⟨b3, 0, none⟩) ∧ E 8 = Value.pointer (some ⟨b4, 0, none⟩) ∧ E 9 = Value.pointer (some ⟨b5, 0, none⟩) ∧ E 10 = Value.bool xv26 ∧ E 11 = Value.bool xv20 ∧ E 12 = Value.int .i64 xv21 ∧ E.ds = [] ∧ Hle gg62 gg75 ∧ Go.Lx.Sep g0 w0 gg75 w [Go.Lx.box b5 27 (([Value.int .i64 6]) ++ (((Vec.zero 4).1.map (Value.int .u64)) ++ ([v10]))), .row v10 27 tT_Regex.sz [p1].length xs3, Go.Lx.box b4 27 (([Value.int .i64 5]) ++ (((Vec.zero 4).1.map (Value.int .u64)) ++ ([v9]))), .row v9 27 tT_Regex.sz [p1, p2].length xs2, Go.Lx.box b3 27 (([Value.int .i64 4]) ++ (((Vec.zero 4).1.map (Value.int .u64)) ++ ([v8]))), .row v8 27 tT_Regex.sz [p1, p2].length xs1, Go.Lx.box b2 27 (([Value.int .i64 p2.Kind]) ++ ((p2.Set.1.map (Value.int .u64)) ++ ([v2]))), Go.Lx.box b1 27 (([Value.int .i64 p1.Kind]) ++ ((p1.Set.1.map (Value.int .u64)) ++ ([v1])))]) ?_ ?_
              · have hM := hx9
                refine WP_any (.q 0 (.q 1 (.q 2 (.q 3 (.q 4 (.q 5 (.s 6 (.q 7 (.q 8 (.q 9 (.q 10 (.q 11 (.s 12 (.q 13 (.q 14 (.q 15 (.leaf))))))))))))))))) (SS g0 w0 gg62 [Go.Lx.box b5 27 (([Value.int .i64 6]) ++ (((Vec.zero 4).1.map (Value.int .u64)) ++ ([v10]))), .row v10 27 tT_Regex.sz [p1].length xs3, Go.Lx.box b4 27 (([Value.int .i64 5]) ++ (((Vec.zero 4).1.map (Value.int .u64)) ++ ([v9]))), .row v9 27 tT_Regex.sz [p1, p2].length xs2, Go.Lx.box b3 27 (([Value.int .i64 4]) ++ (((Vec.zero 4).1.map (Value.int .u64)) ++ ([v8]))), .row v8 27 tT_Regex.sz [p1, p2].length xs1, Go.Lx.box b2 27 (([Value.int .i64 p2.Kind]) ++ ((p2.Set.1.map (Value.int .u64)) ++ ([v2]))), Go.Lx.box b1 27 (([Value.int .i64 p1.Kind]) ++ ((p1.Set.1.map (Value.int .u64)) ++ ([v1])))]) mo (by decide +kernel) ?_
                have hs := hs.drew
                have hRv1b := hRv1
                have hRv2b := hRv2
                have hG0b := hG0
                have hrelxs3b := hrelxs3
                have hrelxs2b := hrelxs2
                have hrelxs1b := hrelxs1
                have hS : SS g0 w0 gg62 [Go.Lx.box b5 27 (([Value.int .i64 6]) ++ (((Vec.zero 4).1.map (Value.int .u64)) ++ ([v10]))), .row v10 27 tT_Regex.sz [p1].length xs3, Go.Lx.box b4 27 (([Value.int .i64 5]) ++ (((Vec.zero 4).1.map (Value.int .u64)) ++ ([v9]))), .row v9 27 tT_Regex.sz [p1, p2].length xs2, Go.Lx.box b3 27 (([Value.int .i64 4]) ++ (((Vec.zero 4).1.map (Value.int .u64)) ++ ([v8]))), .row v8 27 tT_Regex.sz [p1, p2].length xs1, Go.Lx.box b2 27 (([Value.int .i64 p2.Kind]) ++ ((p2.Set.1.map (Value.int .u64)) ++ ([v2]))), Go.Lx.box b1 27 (([Value.int .i64 p1.Kind]) ++ ((p1.Set.1.map (Value.int .u64)) ++ ([v1])))] _ := ⟨gg62, Hle.refl _, hs⟩
                refine A rfl hS (fun w9 h9 => by obtain ⟨g9, hle9, hs⟩ := h9; exact r_move (v := Value.bool xv19) rfl) rfl ?_
                refine A rfl hS (fun w9 h9 => by obtain ⟨g9, hle9, hs⟩ := h9; exact r_move (v := Value.bool xv19) rfl) rfl ?_
                rcases condS hM with ⟨hg40, hM⟩ | ⟨hg40, hM⟩
                · refine AK rfl rfl rfl rfl (by rw [hg40]; rfl) hS rfl ?_
                  refine AK rfl rfl rfl rfl (by rw [hg40]; rfl) hS rfl ?_
                  refine AK rfl rfl rfl rfl (by rw [hg40]; rfl) hS rfl ?_
                  refine AK rfl rfl rfl rfl (by rw [hg40]; rfl) hS rfl ?_
                  refine A1 rfl ?_
                  refine OK rfl rfl rfl (by rw [hg40]; rfl) rfl ?_
                  refine OW_nil ⟨fun _ => hS, ?_⟩
                  refine AK rfl rfl rfl rfl (by rw [hg40]; rfl) hS rfl ?_
                  refine AKU rfl rfl rfl rfl hS rfl ?_
                  refine AKU rfl rfl rfl rfl hS rfl ?_
                  refine AKU rfl rfl rfl rfl hS rfl ?_
                  refine AKU rfl rfl rfl rfl hS rfl ?_
                  refine A1 rfl ?_
                  refine OKU rfl rfl rfl rfl ?_
                  refine OW_nil ⟨fun _ => hS, ?_⟩
                  refine AK rfl rfl rfl rfl (by rw [hg40]; rfl) hS rfl ?_
                  refine A rfl hS (fun w9 h9 => by obtain ⟨g9, hle9, hs⟩ := h9; exact r_pickT (v := Value.bool true) rfl hg40 rfl) rfl ?_
                  refine A rfl hS (fun w9 h9 => by obtain ⟨g9, hle9, hs⟩ := h9; exact r_assign (v := Value.bool true) rfl) rfl ?_
                  refine AN ?_
                  obtain rfl := Option.some.inj hM
                  exact ⟨gg62, rfl, rfl, rfl, rfl, rfl, rfl, rfl, rfl, rfl, hds, (Hle.refl _), hs⟩
                · refine AG rfl rfl rfl rfl (by rw [hg40]; rfl) hS (fun w9 h9 => by obtain ⟨g9, hle9, hs⟩ := h9; exact r_loadN (cs := ([Value.int .i64 p1.Kind]) ++ ((p1.Set.1.map (Value.int .u64)) ++ ([v1]))) ti27 rfl (by simp [p1.Set.2]) (hs.cells (i := 7) rfl)) rfl ?_
                  refine AG rfl rfl rfl rfl (by rw [hg40]; rfl) hS (fun w9 h9 => by obtain ⟨g9, hle9, hs⟩ := h9; exact r_move (v := encS p3) rfl) rfl ?_
                  refine AG rfl rfl rfl rfl (by rw [hg40]; rfl) hS (fun w9 h9 => by obtain ⟨g9, hle9, hs⟩ := h9; exact r_move (v := Value.int .i64 xv21) rfl) rfl ?_
                  obtain ⟨s35, hs35, hM⟩ := bindS hM
                  refine AG rfl rfl rfl rfl (by rw [hg40]; rfl) hS (fun w9 h9 => by obtain ⟨g9, hle9, hs⟩ := h9; exact r_sliceS_hi Tryd.underlying9 rfl rfl hs35) rfl ?_
                  refine A1 rfl ?_
                  obtain ⟨rv47, hrv47, hM⟩ := bindS hM
                  refine CG rfl rfl rfl (by rw [hg40]; rfl) [Value.agg (List.toArray (α := Value) (([Value.int .i64 p1.Kind]) ++ ((p1.Set.1.map (Value.int .u64)) ++ ([v1])))), encS s35] cf23 rfl (regex_Match_ok hrv47 hs.imm (tT_Regex_iff.2 ⟨[Value.int .i64 p1.Kind], p1.Set.1.map (Value.int .u64), [v1], rfl, rfl, rfl, ⟨_, rfl, hRv1⟩⟩)) rfl ?_
                  rintro v51 wv54 ⟨gg76, hvv51, hegg76⟩
                  have hlegg76 := hegg76.le hs.imm
                  replace hs := hs.call hegg76
                  replace hRv1 := hRv1.mono hlegg76
                  replace hRv2 := hRv2.mono hlegg76
                  replace hG0 := hG0.mono hlegg76
                  replace hrelxs3 := hrelxs3.mono hlegg76
                  replace hrelxs2 := hrelxs2.mono hlegg76
                  replace hrelxs1 := hrelxs1.mono hlegg76
                  replace hlegg62 := hlegg62.trans hlegg76
                  replace hagg62 := hagg62.trans hlegg76
                  obtain ⟨cs51, rfl, hcs51⟩ := hvv51
                  have hcs51 : cs51 = _ := hcs51; subst hcs51
                  refine OW_nil ?_
                  have hS : SS g0 w0 gg62 [Go.Lx.box b5 27 (([Value.int .i64 6]) ++ (((Vec.zero 4).1.map (Value.int .u64)) ++ ([v10]))), .row v10 27 tT_Regex.sz [p1].length xs3, Go.Lx.box b4 27 (([Value.int .i64 5]) ++ (((Vec.zero 4).1.map (Value.int .u64)) ++ ([v9]))), .row v9 27 tT_Regex.sz [p1, p2].length xs2, Go.Lx.box b3 27 (([Value.int .i64 4]) ++ (((Vec.zero 4).1.map (Value.int .u64)) ++ ([v8]))), .row v8 27 tT_Regex.sz [p1, p2].length xs1, Go.Lx.box b2 27 (([Value.int .i64 p2.Kind]) ++ ((p2.Set.1.map (Value.int .u64)) ++ ([v2]))), Go.Lx.box b1 27 (([Value.int .i64 p1.Kind]) ++ ((p1.Set.1.map (Value.int .u64)) ++ ([v1])))] _ := ⟨gg76, hagg62, hs⟩
                  refine ⟨fun _ => hS, ?_⟩
                  refine AG rfl rfl rfl rfl (by rw [hg40]; rfl) hS (fun w9 h9 => by obtain ⟨g9, hle9, hs⟩ := h9; exact r_move (v := Value.bool rv47) rfl) rfl ?_
                  rcases condS hM with ⟨hg41, hM⟩ | ⟨hg41, hM⟩
                  · refine AG rfl rfl rfl rfl (by rw [hg41]; rfl) hS (fun w9 h9 => by obtain ⟨g9, hle9, hs⟩ := h9; exact r_loadN (cs := ([Value.int .i64 p2.Kind]) ++ ((p2.Set.1.map (Value.int .u64)) ++ ([v2]))) ti27 rfl (by simp [p2.Set.2]) (hs.cells (i := 6) rfl)) rfl ?_
                    refine AG rfl rfl rfl rfl (by rw [hg41]; rfl) hS (fun w9 h9 => by obtain ⟨g9, hle9, hs⟩ := h9; exact r_move (v := encS p3) rfl) rfl ?_
                    refine AG rfl rfl rfl rfl (by rw [hg41]; rfl) hS (fun w9 h9 => by obtain ⟨g9, hle9, hs⟩ := h9; exact r_move (v := Value.int .i64 xv21) rfl) rfl ?_
                    obtain ⟨s36, hs36, hM⟩ := bindS hM
                    refine AG rfl rfl rfl rfl (by rw [hg41]; rfl) hS (fun w9 h9 => by obtain ⟨g9, hle9, hs⟩ := h9; exact r_sliceS_lo Tryd.underlying9 rfl rfl hs36) rfl ?_
                    refine A1 rfl ?_
                    obtain ⟨rv48, hrv48, hM⟩ := bindS hM
                    refine CG rfl rfl rfl (by rw [hg41]; rfl) [Value.agg (List.toArray (α := Value) (([Value.int .i64 p2.Kind]) ++ ((p2.Set.1.map (Value.int .u64)) ++ ([v2])))), encS s36] cf23 rfl (regex_Match_ok hrv48 hs.imm (tT_Regex_iff.2 ⟨[Value.int .i64 p2.Kind], p2.Set.1.map (Value.int .u64), [v2], rfl, rfl, rfl, ⟨_, rfl, hRv2⟩⟩)) rfl ?_
                    rintro v52 wv55 ⟨gg77, hvv52, hegg77⟩
                    have hlegg77 := hegg77.le hs.imm
                    replace hs := hs.call hegg77
                    replace hRv1 := hRv1.mono hlegg77
                    replace hRv2 := hRv2.mono hlegg77
                    replace hG0 := hG0.mono hlegg77
                    replace hrelxs3 := hrelxs3.mono hlegg77
                    replace hrelxs2 := hrelxs2.mono hlegg77
                    replace hrelxs1 := hrelxs1.mono hlegg77
                    replace hlegg62 := hlegg62.trans hlegg77
                    replace hagg62 := hagg62.trans hlegg77
                    obtain ⟨cs52, rfl, hcs52⟩ := hvv52
                    have hcs52 : cs52 = _ := hcs52; subst hcs52
                    refine OW_nil ?_
                    have hS : SS g0 w0 gg62 [Go.Lx.box b5 27 (([Value.int .i64 6]) ++ (((Vec.zero 4).1.map (Value.int .u64)) ++ ([v10]))), .row v10 27 tT_Regex.sz [p1].length xs3, Go.Lx.box b4 27 (([Value.int .i64 5]) ++ (((Vec.zero 4).1.map (Value.int .u64)) ++ ([v9]))), .row v9 27 tT_Regex.sz [p1, p2].length xs2, Go.Lx.box b3 27 (([Value.int .i64 4]) ++ (((Vec.zero 4).1.map (Value.int .u64)) ++ ([v8]))), .row v8 27 tT_Regex.sz [p1, p2].length xs1, Go.Lx.box b2 27 (([Value.int .i64 p2.Kind]) ++ ((p2.Set.1.map (Value.int .u64)) ++ ([v2]))), Go.Lx.box b1 27 (([Value.int .i64 p1.Kind]) ++ ((p1.Set.1.map (Value.int .u64)) ++ ([v1])))] _ := ⟨gg77, hagg62, hs⟩
                    refine ⟨fun _ => hS, ?_⟩
                    refine AG rfl rfl rfl rfl (by rw [hg40]; rfl) hS (fun w9 h9 => by obtain ⟨g9, hle9, hs⟩ := h9; exact r_pickT (v := Value.bool rv48) rfl hg41 rfl) rfl ?_
                    refine A rfl hS (fun w9 h9 => by obtain ⟨g9, hle9, hs⟩ := h9; exact r_pickF (v := Value.bool rv48) rfl hg40 rfl) rfl ?_
                    refine A rfl hS (fun w9 h9 => by obtain ⟨g9, hle9, hs⟩ := h9; exact r_assign (v := Value.bool rv48) rfl) rfl ?_
                    refine AN ?_
                    obtain rfl := Option.some.inj hM
                    exact ⟨gg77, rfl, rfl, rfl, rfl, rfl, rfl, rfl, rfl, rfl, hds, hagg62, hs⟩
                  · refine AK rfl rfl rfl rfl (by rw [hg41]; rfl) hS rfl ?_
                    refine AK rfl rfl rfl rfl (by rw [hg41]; rfl) hS rfl ?_
                    refine AK rfl rfl rfl rfl (by rw [hg41]; rfl) hS rfl ?_
                    refine AK rfl rfl rfl rfl (by rw [hg41]; rfl) hS rfl ?_
                    refine A1 rfl ?_
                    refine OK rfl rfl rfl (by rw [hg41]; rfl) rfl ?_
                    refine OW_nil ⟨fun _ => hS, ?_⟩
                    refine AG rfl rfl rfl rfl (by rw [hg40]; rfl) hS (fun w9 h9 => by obtain ⟨g9, hle9, hs⟩ := h9; exact r_pickF (v := Value.bool false) rfl hg41 rfl) rfl ?_
                    refine A rfl hS (fun w9 h9 => by obtain ⟨g9, hle9, hs⟩ := h9; exact r_pickF (v := Value.bool false) rfl hg40 rfl) rfl ?_
                    refine A rfl hS (fun w9 h9 => by obtain ⟨g9, hle9, hs⟩ := h9; exact r_assign (v := Value.bool false) rfl) rfl ?_
                    refine AN ?_
                    obtain rfl := Option.some.inj hM
                    exact ⟨gg76, rfl, rfl, rfl, rfl, rfl, rfl, rfl, rfl, rfl, hds, hagg62, hs⟩
              · clear hs
                rintro E w ⟨gg75, hE2, hE3, hE4, hE7, hE8, hE9, hE10, hE11, hE12, hds, hlegg75, hs⟩
                have hM := hKhx9
                obtain ⟨E, rfl⟩ := open1 (E := E) hE2
                obtain ⟨E, rfl⟩ := open1 (E := E) hE3
                obtain ⟨E, rfl⟩ := open1 (E := E) hE4
                obtain ⟨E, rfl⟩ := open1 (E := E) hE7
                obtain ⟨E, rfl⟩ := open1 (E := E) hE8
                obtain ⟨E, rfl⟩ := open1 (E := E) hE9
                obtain ⟨E, rfl⟩ := open1 (E := E) hE10
                obtain ⟨E, rfl⟩ := open1 (E := E) hE11
                obtain ⟨E, rfl⟩ := open1 (E := E) hE12
                replace hRv1 := hRv1.mono hlegg75
                replace hRv2 := hRv2.mono hlegg75
                replace hG0 := hG0.mono hlegg75
                replace hrelxs3 := hrelxs3.mono hlegg75
                replace hrelxs2 := hrelxs2.mono hlegg75
                replace hrelxs1 := hrelxs1.mono hlegg75
                replace hlegg62 := hlegg62.trans hlegg75
                replace hagg62 := hagg62.trans hlegg75
                refine WP_any (.q 0 (.q 1 (.q 2 (.q 3 (.q 4 (.q 5 (.q 6 (.q 7 (.q 8 (.s 9 (.q 10 (.q 11 (.q 12 (.q 13 (.q 14 (.q 15 (.s 16 (.q 17 (.q 18 (.q 19 (.leaf))))))))))))))))))))) (SS g0 w0 gg75 [Go.Lx.box b5 27 (([Value.int .i64 6]) ++ (((Vec.zero 4).1.map (Value.int .u64)) ++ ([v10]))), .row v10 27 tT_Regex.sz [p1].length xs3, Go.Lx.box b4 27 (([Value.int .i64 5]) ++ (((Vec.zero 4).1.map (Value.int .u64)) ++ ([v9]))), .row v9 27 tT_Regex.sz [p1, p2].length xs2, Go.Lx.box b3 27 (([Value.int .i64 4]) ++ (((Vec.zero 4).1.map (Value.int .u64)) ++ ([v8]))), .row v8 27 tT_Regex.sz [p1, p2].length xs1, Go.Lx.box b2 27 (([Value.int .i64 p2.Kind]) ++ ((p2.Set.1.map (Value.int .u64)) ++ ([v2]))), Go.Lx.box b1 27 (([Value.int .i64 p1.Kind]) ++ ((p1.Set.1.map (Value.int .u64)) ++ ([v1])))]) mo (by decide +kernel) ?_
                have hs := hs.drew
                have hagg75 := Hle.refl gg75
                have hRv1b := hRv1
                have hRv2b := hRv2
                have hG0b := hG0
                have hrelxs3b := hrelxs3
                have hrelxs2b := hrelxs2
                have hrelxs1b := hrelxs1
                have hS : SS g0 w0 gg75 [Go.Lx.box b5 27 (([Value.int .i64 6]) ++ (((Vec.zero 4).1.map (Value.int .u64)) ++ ([v10]))), .row v10 27 tT_Regex.sz [p1].length xs3, Go.Lx.box b4 27 (([Value.int .i64 5]) ++ (((Vec.zero 4).1.map (Value.int .u64)) ++ ([v9]))), .row v9 27 tT_Regex.sz [p1, p2].length xs2, Go.Lx.box b3 27 (([Value.int .i64 4]) ++ (((Vec.zero 4).1.map (Value.int .u64)) ++ ([v8]))), .row v8 27 tT_Regex.sz [p1, p2].length xs1, Go.Lx.box b2 27 (([Value.int .i64 p2.Kind]) ++ ((p2.Set.1.map (Value.int .u64)) ++ ([v2]))), Go.Lx.box b1 27 (([Value.int .i64 p1.Kind]) ++ ((p1.Set.1.map (Value.int .u64)) ++ ([v1])))] _ := ⟨gg75, Hle.refl _, hs⟩
                refine A rfl hS (fun w9 h9 => by obtain ⟨g9, hle9, hs⟩ := h9; exact r_move (v := Value.bool xv20) rfl) rfl ?_
                refine A rfl hS (fun w9 h9 => by obtain ⟨g9, hle9, hs⟩ := h9; exact r_move (v := Value.bool xv20) rfl) rfl ?_
                rcases condS hM with ⟨hg42, hM⟩ | ⟨hg42, hM⟩
                · refine AK rfl rfl rfl rfl (by rw [hg42]; rfl) hS rfl ?_
                  refine AK rfl rfl rfl rfl (by rw [hg42]; rfl) hS rfl ?_
                  refine AK rfl rfl rfl rfl (by rw [hg42]; rfl) hS rfl ?_
                  refine AKU rfl rfl rfl rfl hS rfl ?_
                  refine AKU rfl rfl rfl rfl hS rfl ?_
                  refine AKU rfl rfl rfl rfl hS rfl ?_
                  refine AKU rfl rfl rfl rfl hS rfl ?_
                  refine A1 rfl ?_
                  refine OKU rfl rfl rfl rfl ?_
                  refine OW_nil ⟨fun _ => hS, ?_⟩
                  refine AK rfl rfl rfl rfl (by rw [hg42]; rfl) hS rfl ?_
                  refine AK rfl rfl rfl rfl (by rw [hg42]; rfl) hS rfl ?_
                  refine AKU rfl rfl rfl rfl hS rfl ?_
                  refine AKU rfl rfl rfl rfl hS rfl ?_
                  refine AKU rfl rfl rfl rfl hS rfl ?_
                  refine AKU rfl rfl rfl rfl hS rfl ?_
                  refine A1 rfl ?_
                  refine OKU rfl rfl rfl rfl ?_
                  refine OW_nil ⟨fun _ => hS, ?_⟩
                  refine AK rfl rfl rfl rfl (by rw [hg42]; rfl) hS rfl ?_
                  refine A rfl hS (fun w9 h9 => by obtain ⟨g9, hle9, hs⟩ := h9; exact r_pickT (v := Value.bool true) rfl hg42 rfl) rfl ?_
                  refine A rfl hS (fun w9 h9 => by obtain ⟨g9, hle9, hs⟩ := h9; exact r_assign (v := Value.bool true) rfl) rfl ?_
                  refine AN ?_
                  refine WP_region ?_
                  refine O (r_move (v := Value.int .i64 xv21) rfl) rfl ?_
                  obtain ⟨t21, ht21, hM⟩ := bindS hM
                  refine O (r_addM rfl rfl ht21) rfl ?_
                  refine O (r_assign (v := Value.int .i64 t21) rfl) rfl ?_
                  refine OW_nil ?_
                  obtain rfl := Option.some.inj hM
                  exact ⟨gg75, rfl, rfl, rfl, rfl, rfl, rfl, rfl, rfl, rfl, hds, hlegg62, hs⟩
                · refine AG rfl rfl rfl rfl (by rw [hg42]; rfl) hS (fun w9 h9 => by obtain ⟨g9, hle9, hs⟩ := h9; exact r_move (v := Value.int .i64 xv21) rfl) rfl ?_
                  refine AG rfl rfl rfl rfl (by rw [hg42]; rfl) hS (fun w9 h9 => by obtain ⟨g9, hle9, hs⟩ := h9; exact r_gtr rfl rfl) rfl ?_
                  refine AG rfl rfl rfl rfl (by rw [hg42]; rfl) hS (fun w9 h9 => by obtain ⟨g9, hle9, hs⟩ := h9; exact r_move (v := Value.bool (decide (0 < xv21))) rfl) rfl ?_
                  rcases condS hM with ⟨hg43, hM⟩ | ⟨hg43, hM⟩
                  · refine AG rfl rfl rfl rfl (by rw [hg43]; rfl) hS (fun w9 h9 => by obtain ⟨g9, hle9, hs⟩ := h9; exact r_loadN (cs := ([Value.int .i64 p1.Kind]) ++ ((p1.Set.1.map (Value.int .u64)) ++ ([v1]))) ti27 rfl (by simp [p1.Set.2]) (hs.cells (i := 7) rfl)) rfl ?_
                    refine AG rfl rfl rfl rfl (by rw [hg43]; rfl) hS (fun w9 h9 => by obtain ⟨g9, hle9, hs⟩ := h9; exact r_move (v := encS p3) rfl) rfl ?_
                    refine AG rfl rfl rfl rfl (by rw [hg43]; rfl) hS (fun w9 h9 => by obtain ⟨g9, hle9, hs⟩ := h9; exact r_move (v := Value.int .i64 xv21) rfl) rfl ?_
                    obtain ⟨s37, hs37, hM⟩ := bindS hM
                    refine AG rfl rfl rfl rfl (by rw [hg43]; rfl) hS (fun w9 h9 => by obtain ⟨g9, hle9, hs⟩ := h9; exact r_sliceS_hi Tryd.underlying9 rfl rfl hs37) rfl ?_
                    refine A1 rfl ?_
                    obtain ⟨rv49, hrv49, hM⟩ := bindS hM
                    refine CG rfl rfl rfl (by rw [hg43]; rfl) [Value.agg (List.toArray (α := Value) (([Value.int .i64 p1.Kind]) ++ ((p1.Set.1.map (Value.int .u64)) ++ ([v1])))), encS s37] cf23 rfl (regex_Match_ok hrv49 hs.imm (tT_Regex_iff.2 ⟨[Value.int .i64 p1.Kind], p1.Set.1.map (Value.int .u64), [v1], rfl, rfl, rfl, ⟨_, rfl, hRv1⟩⟩)) rfl ?_
                    rintro v53 wv56 ⟨gg78, hvv53, hegg78⟩
                    have hlegg78 := hegg78.le hs.imm
                    replace hs := hs.call hegg78
                    replace hRv1 := hRv1.mono hlegg78
                    replace hRv2 := hRv2.mono hlegg78
                    replace hG0 := hG0.mono hlegg78
                    replace hrelxs3 := hrelxs3.mono hlegg78
                    replace hrelxs2 := hrelxs2.mono hlegg78
                    replace hrelxs1 := hrelxs1.mono hlegg78
                    replace hlegg62 := hlegg62.trans hlegg78
                    replace hagg62 := hagg62.trans hlegg78
                    replace hagg75 := hagg75.trans hlegg78
                    obtain ⟨cs53, rfl, hcs53⟩ := hvv53
                    have hcs53 : cs53 = _ := hcs53; subst hcs53
                    refine OW_nil ?_
                    have hS : SS g0 w0 gg75 [Go.Lx.box b5 27 (([Value.int .i64 6]) ++ (((Vec.zero 4).1.map (Value.int .u64)) ++ ([v10]))), .row v10 27 tT_Regex.sz [p1].length xs3, Go.Lx.box b4 27 (([Value.int .i64 5]) ++ (((Vec.zero 4).1.map (Value.int .u64)) ++ ([v9]))), .row v9 27 tT_Regex.sz [p1, p2].length xs2, Go.Lx.box b3 27 (([Value.int .i64 4]) ++ (((Vec.zero 4).1.map (Value.int .u64)) ++ ([v8]))), .row v8 27 tT_Regex.sz [p1, p2].length xs1, Go.Lx.box b2 27 (([Value.int .i64 p2.Kind]) ++ ((p2.Set.1.map (Value.int .u64)) ++ ([v2]))), Go.Lx.box b1 27 (([Value.int .i64 p1.Kind]) ++ ((p1.Set.1.map (Value.int .u64)) ++ ([v1])))] _ := ⟨gg78, hagg75, hs⟩
                    refine ⟨fun _ => hS, ?_⟩
                    refine AG rfl rfl rfl rfl (by rw [hg42]; rfl) hS (fun w9 h9 => by obtain ⟨g9, hle9, hs⟩ := h9; exact r_pickT (v := Value.bool rv49) rfl hg43 rfl) rfl ?_
                    refine AG rfl rfl rfl rfl (by rw [hg42]; rfl) hS (fun w9 h9 => by obtain ⟨g9, hle9, hs⟩ := h9; exact r_move (v := Value.bool rv49) rfl) rfl ?_
                    rcases condS hM with ⟨hg44, hM⟩ | ⟨hg44, hM⟩
                    · refine AG rfl rfl rfl rfl (by rw [hg44]; rfl) hS (fun w9 h9 => by obtain ⟨g9, hle9, hs⟩ := h9; exact r_loadN (cs := ([Value.int .i64 6]) ++ (((Vec.zero 4).1.map (Value.int .u64)) ++ ([v10]))) ti27 rfl (by simp [(Vec.zero 4).2]) (hs.cells (i := 0) rfl)) rfl ?_
                      refine AG rfl rfl rfl rfl (by rw [hg44]; rfl) hS (fun w9 h9 => by obtain ⟨g9, hle9, hs⟩ := h9; exact r_move (v := encS p3) rfl) rfl ?_
                      refine AG rfl rfl rfl rfl (by rw [hg44]; rfl) hS (fun w9 h9 => by obtain ⟨g9, hle9, hs⟩ := h9; exact r_move (v := Value.int .i64 xv21) rfl) rfl ?_
                      obtain ⟨s38, hs38, hM⟩ := bindS hM
                      refine AG rfl rfl rfl rfl (by rw [hg44]; rfl) hS (fun w9 h9 => by obtain ⟨g9, hle9, hs⟩ := h9; exact r_sliceS_lo Tryd.underlying9 rfl rfl hs38) rfl ?_
                      refine A1 rfl ?_
                      have hsL10 := hs
                      have hRv1L10 := hRv1
                      have hRv2L10 := hRv2
                      have hG0L10 := hG0
                      have hrelxs3L10 := hrelxs3
                      have hrelxs2L10 := hrelxs2
                      have hrelxs1L10 := hrelxs1
                      have hlegg62L10 := hlegg62
                      have hagg62L10 := hagg62
                      have hagg75L10 := hagg75
                      obtain ⟨gg79, hlegg79, hRgg79, hs⟩ := hs.relRow (i := 1) rfl hrelxs3
                      replace hRv1 := hRv1.mono hlegg79
                      replace hRv2 := hRv2.mono hlegg79
                      replace hG0 := hG0.mono hlegg79
                      replace hrelxs2 := hrelxs2.mono hlegg79
                      replace hrelxs1 := hrelxs1.mono hlegg79
                      replace hlegg62 := hlegg62.trans hlegg79
                      replace hagg62 := hagg62.trans hlegg79
                      replace hagg75 := hagg75.trans hlegg79
                      obtain ⟨rv50, hrv50, hM⟩ := bindS hM
                      refine CG rfl rfl rfl (by rw [hg44]; rfl) [Value.agg (List.toArray (α := Value) (([Value.int .i64 6]) ++ (((Vec.zero 4).1.map (Value.int .u64)) ++ ([v10])))), encS s38] cf23 rfl (regex_Match_ok hrv50 hs.imm (tT_Regex_iff.2 ⟨[Value.int .i64 6], (Vec.zero 4).1.map (Value.int .u64), [v10], rfl, rfl, rfl, ⟨_, rfl, hRgg79⟩⟩)) rfl ?_
                      rintro v54 wv57 ⟨gg80, hvv54, hegg80⟩
                      obtain ⟨gg81, hlegg81, hs⟩ := hsL10.lent hegg80
                      replace hRv1 := hRv1L10.mono hlegg81
                      replace hRv2 := hRv2L10.mono hlegg81
                      replace hG0 := hG0L10.mono hlegg81
                      replace hrelxs3 := hrelxs3L10.mono hlegg81
                      replace hrelxs2 := hrelxs2L10.mono hlegg81
                      replace hrelxs1 := hrelxs1L10.mono hlegg81
                      replace hlegg62 := hlegg62L10.trans hlegg81
                      replace hagg62 := hagg62L10.trans hlegg81
                      replace hagg75 := hagg75L10.trans hlegg81
                      obtain ⟨cs54, rfl, hcs54⟩ := hvv54
                      have hcs54 : cs54 = _ := hcs54; subst hcs54
                      refine OW_nil ?_
                      have hS : SS g0 w0 gg75 [Go.Lx.box b5 27 (([Value.int .i64 6]) ++ (((Vec.zero 4).1.map (Value.int .u64)) ++ ([v10]))), .row v10 27 tT_Regex.sz [p1].length xs3, Go.Lx.box b4 27 (([Value.int .i64 5]) ++ (((Vec.zero 4).1.map (Value.int .u64)) ++ ([v9]))), .row v9 27 tT_Regex.sz [p1, p2].length xs2, Go.Lx.box b3 27 (([Value.int .i64 4]) ++ (((Vec.zero 4).1.map (Value.int .u64)) ++ ([v8]))), .row v8 27 tT_Regex.sz [p1, p2].length xs1, Go.Lx.box b2 27 (([Value.int .i64 p2.Kind]) ++ ((p2.Set.1.map (Value.int .u64)) ++ ([v2]))), Go.Lx.box b1 27 (([Value.int .i64 p1.Kind]) ++ ((p1.Set.1.map (Value.int .u64)) ++ ([v1])))] _ := ⟨gg81, hagg75, hs⟩
                      refine ⟨fun _ => hS, ?_⟩
                      refine AG rfl rfl rfl rfl (by rw [hg42]; rfl) hS (fun w9 h9 => by obtain ⟨g9, hle9, hs⟩ := h9; exact r_pickT (v := Value.bool rv50) rfl hg44 rfl) rfl ?_
                      refine A rfl hS (fun w9 h9 => by obtain ⟨g9, hle9, hs⟩ := h9; exact r_pickF (v := Value.bool rv50) rfl hg42 rfl) rfl ?_
                      refine A rfl hS (fun w9 h9 => by obtain ⟨g9, hle9, hs⟩ := h9; exact r_assign (v := Value.bool rv50) rfl) rfl ?_
                      refine AN ?_
                      refine WP_region ?_
                      refine O (r_move (v := Value.int .i64 xv21) rfl) rfl ?_
                      obtain ⟨t22, ht22, hM⟩ := bindS hM
                      refine O (r_addM rfl rfl ht22) rfl ?_
                      refine O (r_assign (v := Value.int .i64 t22) rfl) rfl ?_
                      refine OW_nil ?_
                      obtain rfl := Option.some.inj hM
                      exact ⟨gg81, rfl, rfl, rfl, rfl, rfl, rfl, rfl, rfl, rfl, hds, hlegg62, hs⟩
                    · refine AK rfl rfl rfl rfl (by rw [hg44]; rfl) hS rfl ?_
                      refine AK rfl rfl rfl rfl (by rw [hg44]; rfl) hS rfl ?_
                      refine AK rfl rfl rfl rfl (by rw [hg44]; rfl) hS rfl ?_
                      refine AK rfl rfl rfl rfl (by rw [hg44]; rfl) hS rfl ?_
                      refine A1 rfl ?_
                      refine OK rfl rfl rfl (by rw [hg44]; rfl) rfl ?_
                      refine OW_nil ⟨fun _ => hS, ?_⟩
                      refine AG rfl rfl rfl rfl (by rw [hg42]; rfl) hS (fun w9 h9 => by obtain ⟨g9, hle9, hs⟩ := h9; exact r_pickF (v := Value.bool false) rfl hg44 rfl) rfl ?_
                      refine A rfl hS (fun w9 h9 => by obtain ⟨g9, hle9, hs⟩ := h9; exact r_pickF (v := Value.bool false) rfl hg42 rfl) rfl ?_
                      refine A rfl hS (fun w9 h9 => by obtain ⟨g9, hle9, hs⟩ := h9; exact r_assign (v := Value.bool false) rfl) rfl ?_
                      refine AN ?_
                      refine WP_region ?_
                      refine O (r_move (v := Value.int .i64 xv21) rfl) rfl ?_
                      obtain ⟨t23, ht23, hM⟩ := bindS hM
                      refine O (r_addM rfl rfl ht23) rfl ?_
                      refine O (r_assign (v := Value.int .i64 t23) rfl) rfl ?_
                      refine OW_nil ?_
                      obtain rfl := Option.some.inj hM
                      exact ⟨gg78, rfl, rfl, rfl, rfl, rfl, rfl, rfl, rfl, rfl, hds, hlegg62, hs⟩
                  · refine AK rfl rfl rfl rfl (by rw [hg43]; rfl) hS rfl ?_
                    refine AK rfl rfl rfl rfl (by rw [hg43]; rfl) hS rfl ?_
                    refine AK rfl rfl rfl rfl (by rw [hg43]; rfl) hS rfl ?_
                    refine AK rfl rfl rfl rfl (by rw [hg43]; rfl) hS rfl ?_
                    refine A1 rfl ?_
                    refine OK rfl rfl rfl (by rw [hg43]; rfl) rfl ?_
                    refine OW_nil ⟨fun _ => hS, ?_⟩
                    refine AG rfl rfl rfl rfl (by rw [hg42]; rfl) hS (fun w9 h9 => by obtain ⟨g9, hle9, hs⟩ := h9; exact r_pickF (v := Value.bool false) rfl hg43 rfl) rfl ?_
                    refine AG rfl rfl rfl rfl (by rw [hg42]; rfl) hS (fun w9 h9 => by obtain ⟨g9, hle9, hs⟩ := h9; exact r_move (v := Value.bool false) rfl) rfl ?_
                    refine AK rfl rfl rfl rfl rfl hS rfl ?_
                    refine AK rfl rfl rfl rfl rfl hS rfl ?_
                    refine AK rfl rfl rfl rfl rfl hS rfl ?_
                    refine AK rfl rfl rfl rfl rfl hS rfl ?_
                    refine A1 rfl ?_
                    refine OK rfl rfl rfl rfl rfl ?_
                    refine OW_nil ⟨fun _ => hS, ?_⟩
                    refine AG rfl rfl rfl rfl (by rw [hg42]; rfl) hS (fun w9 h9 => by obtain ⟨g9, hle9, hs⟩ := h9; exact r_pickF (v := Value.bool false) rfl rfl rfl) rfl ?_
                    refine A rfl hS (fun w9 h9 => by obtain ⟨g9, hle9, hs⟩ := h9; exact r_pickF (v := Value.bool false) rfl hg42 rfl) rfl ?_
                    refine A rfl hS (fun w9 h9 => by obtain ⟨g9, hle9, hs⟩ := h9; exact r_assign (v := Value.bool false) rfl) rfl ?_
                    refine AN ?_
                    refine WP_region ?_
                    refine O (r_move (v := Value.int .i64 xv21) rfl) rfl ?_
                    obtain ⟨t24, ht24, hM⟩ := bindS hM
                    refine O (r_addM rfl rfl ht24) rfl ?_
                    refine O (r_assign (v := Value.int .i64 t24) rfl) rfl ?_
                    refine OW_nil ?_
                    obtain rfl := Option.some.inj hM
                    exact ⟨gg75, rfl, rfl, rfl, rfl, rfl, rfl, rfl, rfl, rfl, hds, hlegg62, hs⟩
            · refine WP_false rfl hc8 ?_
              refine WP_exit ?_
              obtain rfl := Option.some.inj hM
              refine fun hr => ?_
              have hM := congrArg some hr
              simp only [Option.some.injEq, Prod.mk.injEq] at hM
              obtain ⟨rfl, rfl⟩ := hM
              exact ⟨gg62, v10, xs3, v9, xs2, v8, xs1, rfl, rfl, rfl, rfl, rfl, rfl, rfl, rfl, hds, hlegg62, hrelxs3, hrelxs2, hrelxs1, hs⟩
          · clear hs
            rintro E w ⟨gg51, v36, xs6, v35, xs5, v34, xs4, hE2, hE3, hE4, hE7, hE8, hE9, hE10, hE11, hds, hlegg51, hrelxs6, hrelxs5, hrelxs4, hs⟩
            have hM := hKhx6
            obtain ⟨E, rfl⟩ := open1 (E := E) hE2
            obtain ⟨E, rfl⟩ := open1 (E := E) hE3
            obtain ⟨E, rfl⟩ := open1 (E := E) hE4
            obtain ⟨E, rfl⟩ := open1 (E := E) hE7
            obtain ⟨E, rfl⟩ := open1 (E := E) hE8
            obtain ⟨E, rfl⟩ := open1 (E := E) hE9
            obtain ⟨E, rfl⟩ := open1 (E := E) hE10
            obtain ⟨E, rfl⟩ := open1 (E := E) hE11
            replace hRv1 := hRv1.mono hlegg51
            replace hRv2 := hRv2.mono hlegg51
            replace hG0 := hG0.mono hlegg51
            obtain ⟨xv27, hx10, hKhx10⟩ := bindS hM
            refine WP_cut (fun E w => ∃ (gg97 : Hp), E 6 = Value.bool xv27 ∧ E.ds = [] ∧ Hle gg51 gg97 ∧ Go.Lx.Sep g0 w0 gg97 w []) ?_ ?_
            · have hM := hx10
              have hagg51 := Hle.refl gg51
              refine WP_any (.s 0 (.q 1 (.q 2 (.q 3 (.q 5 (.s 4 (.q 6 (.q 7 (.q 8 (.q 9 (.q 10 (.q 12 (.q 13 (.s 11 (.s 14 (.q 15 (.q 16 (.q 17 (.s 18 (.q 19 (.q 20 (.q 21 (.q 22 (.q 23 (.q 24 (.q 26 (.s 25 (.q 27 (.q 28 (.q 29 (.leaf))))))))))))))))))))))))))))))) (SS g0 w0 gg51 [Go.Lx.box b5 27 (([Value.int .i64 6]) ++ (((Vec.zero 4).1.map (Value.int .u64)) ++ ([v36]))), .row v36 27 tT_Regex.sz [p1].length xs6, Go.Lx.box b4 27 (([Value.int .i64 5]) ++ (((Vec.zero 4).1.map (Value.int .u64)) ++ ([v35]))), .row v35 27 tT_Regex.sz [p1, p2].length xs5, Go.Lx.box b3 27 (([Value.int .i64 4]) ++ (((Vec.zero 4).1.map (Value.int .u64)) ++ ([v34]))), .row v34 27 tT_Regex.sz [p1, p2].length xs4, Go.Lx.box b2 27 (([Value.int .i64 p2.Kind]) ++ ((p2.Set.1.map (Value.int .u64)) ++ ([v2]))), Go.Lx.box b1 27 (([Value.int .i64 p1.Kind]) ++ ((p1.Set.1.map (Value.int .u64)) ++ ([v1])))]) mo (by decide +kernel) ?_
              have hs := hs.drew
              have hRv1b := hRv1
              have hRv2b := hRv2
              have hG0b := hG0
              have hrelxs6b := hrelxs6
              have hrelxs5b := hrelxs5
              have hrelxs4b := hrelxs4
              have hS : SS g0 w0 gg51 [Go.Lx.box b5 27 (([Value.int .i64 6]) ++ (((Vec.zero 4).1.map (Value.int .u64)) ++ ([v36]))), .row v36 27 tT_Regex.sz [p1].length xs6, Go.Lx.box b4 27 (([Value.int .i64 5]) ++ (((Vec.zero 4).1.map (Value.int .u64)) ++ ([v35]))), .row v35 27 tT_Regex.sz [p1, p2].length xs5, Go.Lx.box b3 27 (([Value.int .i64 4]) ++ (((Vec.zero 4).1.map (Value.int .u64)) ++ ([v34]))), .row v34 27 tT_Regex.sz [p1, p2].length xs4, Go.Lx.box b2 27 (([Value.int .i64 p2.Kind]) ++ ((p2.Set.1.map (Value.int .u64)) ++ ([v2]))), Go.Lx.box b1 27 (([Value.int .i64 p1.Kind]) ++ ((p1.Set.1.map (Value.int .u64)) ++ ([v1])))] _ := ⟨gg51, Hle.refl _, hs⟩
              refine A1 rfl ?_
              obtain ⟨rv58, hrv58, hM⟩ := bindS hM
              refine C [] cf13 rfl (law08_awake_ok hrv58 hs.imm hG0) rfl ?_
              rintro v62 wv65 ⟨gg98, hvv62, hegg98⟩
              have hlegg98 := hegg98.le hs.imm
              replace hs := hs.call hegg98
              replace hRv1 := hRv1.mono hlegg98
              replace hRv2 := hRv2.mono hlegg98
              replace hG0 := hG0.mono hlegg98
              replace hrelxs6 := hrelxs6.mono hlegg98
              replace hrelxs5 := hrelxs5.mono hlegg98
              replace hrelxs4 := hrelxs4.mono hlegg98
              replace hagg51 := hagg51.trans hlegg98
              obtain ⟨cs62, rfl, hcs62⟩ := hvv62
              have hcs62 : cs62 = _ := hcs62; subst hcs62
              refine OW_nil ?_
              have hS : SS g0 w0 gg51 [Go.Lx.box b5 27 (([Value.int .i64 6]) ++ (((Vec.zero 4).1.map (Value.int .u64)) ++ ([v36]))), .row v36 27 tT_Regex.sz [p1].length xs6, Go.Lx.box b4 27 (([Value.int .i64 5]) ++ (((Vec.zero 4).1.map (Value.int .u64)) ++ ([v35]))), .row v35 27 tT_Regex.sz [p1, p2].length xs5, Go.Lx.box b3 27 (([Value.int .i64 4]) ++ (((Vec.zero 4).1.map (Value.int .u64)) ++ ([v34]))), .row v34 27 tT_Regex.sz [p1, p2].length xs4, Go.Lx.box b2 27 (([Value.int .i64 p2.Kind]) ++ ((p2.Set.1.map (Value.int .u64)) ++ ([v2]))), Go.Lx.box b1 27 (([Value.int .i64 p1.Kind]) ++ ((p1.Set.1.map (Value.int .u64)) ++ ([v1])))] _ := ⟨gg98, hagg51, hs⟩
              refine ⟨fun _ => hS, ?_⟩
              refine A rfl hS (fun w9 h9 => by obtain ⟨g9, hle9, hs⟩ := h9; exact r_move (v := Value.bool rv58) rfl) rfl ?_
              rcases condS hM with ⟨hg50, hM⟩ | ⟨hg50, hM⟩
              · refine AG rfl rfl rfl rfl (by rw [hg50]; rfl) hS (fun w9 h9 => by obtain ⟨g9, hle9, hs⟩ := h9; exact r_loadN (cs := ([Value.int .i64 4]) ++ (((Vec.zero 4).1.map (Value.int .u64)) ++ ([v34]))) ti27 rfl (by simp [(Vec.zero 4).2]) (hs.cells (i := 4) rfl)) rfl ?_
                refine AG rfl rfl rfl rfl (by rw [hg50]; rfl) hS (fun w9 h9 => by obtain ⟨g9, hle9, hs⟩ := h9; exact r_move (v := encS p3) rfl) rfl ?_
                refine AG rfl rfl rfl rfl (by rw [hg50]; rfl) hS (fun w9 h9 => by obtain ⟨g9, hle9, hs⟩ := h9; exact r_move (v := Value.bool xv14) rfl) rfl ?_
                refine A1 rfl ?_
                have hsL15 := hs
                have hRv1L15 := hRv1
                have hRv2L15 := hRv2
                have hG0L15 := hG0
                have hrelxs6L15 := hrelxs6
                have hrelxs5L15 := hrelxs5
                have hrelxs4L15 := hrelxs4
                have hagg51L15 := hagg51
                obtain ⟨gg99, hlegg99, hRgg99, hs⟩ := hs.relRow (i := 5) rfl hrelxs4
                replace hRv1 := hRv1.mono hlegg99
                replace hRv2 := hRv2.mono hlegg99
                replace hG0 := hG0.mono hlegg99
                replace hrelxs6 := hrelxs6.mono hlegg99
                replace hrelxs5 := hrelxs5.mono hlegg99
                replace hagg51 := hagg51.trans hlegg99
                obtain ⟨rv59, hrv59, hM⟩ := bindS hM
                refine CG rfl rfl rfl (by rw [hg50]; rfl) [Value.agg (List.toArray (α := Value) (([Value.int .i64 4]) ++ (((Vec.zero 4).1.map (Value.int .u64)) ++ ([v34])))), encS p3] cf23 rfl (regex_Match_ok hrv59 hs.imm (tT_Regex_iff.2 ⟨[Value.int .i64 4], (Vec.zero 4).1.map (Value.int .u64), [v34], rfl, rfl, rfl, ⟨_, rfl, hRgg99⟩⟩)) rfl ?_
                rintro v63 wv66 ⟨gg100, hvv63, hegg100⟩
                obtain ⟨gg101, hlegg101, hs⟩ := hsL15.lent hegg100
                replace hRv1 := hRv1L15.mono hlegg101
                replace hRv2 := hRv2L15.mono hlegg101
                replace hG0 := hG0L15.mono hlegg101
                replace hrelxs6 := hrelxs6L15.mono hlegg101
                replace hrelxs5 := hrelxs5L15.mono hlegg101
                replace hrelxs4 := hrelxs4L15.mono hlegg101
                replace hagg51 := hagg51L15.trans hlegg101
                obtain ⟨cs63, rfl, hcs63⟩ := hvv63
                have hcs63 : cs63 = _ := hcs63; subst hcs63
                refine OW_nil ?_
                have hS : SS g0 w0 gg51 [Go.Lx.box b5 27 (([Value.int .i64 6]) ++ (((Vec.zero 4).1.map (Value.int .u64)) ++ ([v36]))), .row v36 27 tT_Regex.sz [p1].length xs6, Go.Lx.box b4 27 (([Value.int .i64 5]) ++ (((Vec.zero 4).1.map (Value.int .u64)) ++ ([v35]))), .row v35 27 tT_Regex.sz [p1, p2].length xs5, Go.Lx.box b3 27 (([Value.int .i64 4]) ++ (((Vec.zero 4).1.map (Value.int .u64)) ++ ([v34]))), .row v34 27 tT_Regex.sz [p1, p2].length xs4, Go.Lx.box b2 27 (([Value.int .i64 p2.Kind]) ++ ((p2.Set.1.map (Value.int .u64)) ++ ([v2]))), Go.Lx.box b1 27 (([Value.int .i64 p1.Kind]) ++ ((p1.Set.1.map (Value.int .u64)) ++ ([v1])))] _ := ⟨gg101, hagg51, hs⟩
                refine ⟨fun _ => hS, ?_⟩
                refine AG rfl rfl rfl rfl (by rw [hg50]; rfl) hS (fun w9 h9 => by obtain ⟨g9, hle9, hs⟩ := h9; exact r_eqlB Tryd.underlying4 rfl rfl) rfl ?_
                refine A rfl hS (fun w9 h9 => by obtain ⟨g9, hle9, hs⟩ := h9; exact r_pickT (v := Value.bool (rv59 == xv14)) rfl hg50 rfl) rfl ?_
                refine A rfl hS (fun w9 h9 => by obtain ⟨g9, hle9, hs⟩ := h9; exact r_move (v := Value.bool (rv59 == xv14)) rfl) rfl ?_
                rcases condS hM with ⟨hg51, hM⟩ | ⟨hg51, hM⟩
                · refine AG rfl rfl rfl rfl (by rw [hg51]; rfl) hS (fun w9 h9 => by obtain ⟨g9, hle9, hs⟩ := h9; exact r_loadN (cs := ([Value.int .i64 5]) ++ (((Vec.zero 4).1.map (Value.int .u64)) ++ ([v35]))) ti27 rfl (by simp [(Vec.zero 4).2]) (hs.cells (i := 2) rfl)) rfl ?_
                  refine AG rfl rfl rfl rfl (by rw [hg51]; rfl) hS (fun w9 h9 => by obtain ⟨g9, hle9, hs⟩ := h9; exact r_move (v := encS p3) rfl) rfl ?_
                  refine AG rfl rfl rfl rfl (by rw [hg51]; rfl) hS (fun w9 h9 => by obtain ⟨g9, hle9, hs⟩ := h9; exact r_loadN (cs := ([Value.int .i64 p1.Kind]) ++ ((p1.Set.1.map (Value.int .u64)) ++ ([v1]))) ti27 rfl (by simp [p1.Set.2]) (hs.cells (i := 7) rfl)) rfl ?_
                  refine AG rfl rfl rfl rfl (by rw [hg51]; rfl) hS (fun w9 h9 => by obtain ⟨g9, hle9, hs⟩ := h9; exact r_move (v := encS p3) rfl) rfl ?_
                  refine A1 rfl ?_
                  have hsL16 := hs
                  have hRv1L16 := hRv1
                  have hRv2L16 := hRv2
                  have hG0L16 := hG0
                  have hrelxs6L16 := hrelxs6
                  have hrelxs5L16 := hrelxs5
                  have hrelxs4L16 := hrelxs4
                  have hagg51L16 := hagg51
                  obtain ⟨gg102, hlegg102, hRgg102, hs⟩ := hs.relRow (i := 3) rfl hrelxs5
                  replace hRv1 := hRv1.mono hlegg102
                  replace hRv2 := hRv2.mono hlegg102
                  replace hG0 := hG0.mono hlegg102
                  replace hrelxs6 := hrelxs6.mono hlegg102
                  replace hrelxs4 := hrelxs4.mono hlegg102
                  replace hagg51 := hagg51.trans hlegg102
                  obtain ⟨rv60, hrv60, hM⟩ := bindS hM
                  refine CG rfl rfl rfl (by rw [hg51]; rfl) [Value.agg (List.toArray (α := Value) (([Value.int .i64 5]) ++ (((Vec.zero 4).1.map (Value.int .u64)) ++ ([v35])))), encS p3] cf23 rfl (regex_Match_ok hrv60 hs.imm (tT_Regex_iff.2 ⟨[Value.int .i64 5], (Vec.zero 4).1.map (Value.int .u64), [v35], rfl, rfl, rfl, ⟨_, rfl, hRgg102⟩⟩)) rfl ?_
                  rintro v64 wv67 ⟨gg103, hvv64, hegg103⟩
                  obtain ⟨gg104, hlegg104, hs⟩ := hsL16.lent hegg103
                  replace hRv1 := hRv1L16.mono hlegg104
                  replace hRv2 := hRv2L16.mono hlegg104
                  replace hG0 := hG0L16.mono hlegg104
                  replace hrelxs6 := hrelxs6L16.mono hlegg104
                  replace hrelxs5 := hrelxs5L16.mono hlegg104
                  replace hrelxs4 := hrelxs4L16.mono hlegg104
                  replace hagg51 := hagg51L16.trans hlegg104
                  obtain ⟨cs64, rfl, hcs64⟩ := hvv64
                  have hcs64 : cs64 = _ := hcs64; subst hcs64
                  refine OW_nil ?_
                  have hS : SS g0 w0 gg51 [Go.Lx.box b5 27 (([Value.int .i64 6]) ++ (((Vec.zero 4).1.map (Value.int .u64)) ++ ([v36]))), .row v36 27 tT_Regex.sz [p1].length xs6, Go.Lx.box b4 27 (([Value.int .i64 5]) ++ (((Vec.zero 4).1.map (Value.int .u64)) ++ ([v35]))), .row v35 27 tT_Regex.sz [p1, p2].length xs5, Go.Lx.box b3 27 (([Value.int .i64 4]) ++ (((Vec.zero 4).1.map (Value.int .u64)) ++ ([v34]))), .row v34 27 tT_Regex.sz [p1, p2].length xs4, Go.Lx.box b2 27 (([Value.int .i64 p2.Kind]) ++ ((p2.Set.1.map (Value.int .u64)) ++ ([v2]))), Go.Lx.box b1 27 (([Value.int .i64 p1.Kind]) ++ ((p1.Set.1.map (Value.int .u64)) ++ ([v1])))] _ := ⟨gg104, hagg51, hs⟩
                  refine ⟨fun _ => hS, ?_⟩
                  refine A1 rfl ?_
                  obtain ⟨rv61, hrv61, hM⟩ := bindS hM
                  refine CG rfl rfl rfl (by rw [hg51]; rfl) [Value.agg (List.toArray (α := Value) (([Value.int .i64 p1.Kind]) ++ ((p1.Set.1.map (Value.int .u64)) ++ ([v1])))), encS p3] cf23 rfl (regex_Match_ok hrv61 hs.imm (tT_Regex_iff.2 ⟨[Value.int .i64 p1.Kind], p1.Set.1.map (Value.int .u64), [v1], rfl, rfl, rfl, ⟨_, rfl, hRv1⟩⟩)) rfl ?_
                  rintro v65 wv68 ⟨gg105, hvv65, hegg105⟩
                  have hlegg105 := hegg105.le hs.imm
                  replace hs := hs.call hegg105
                  replace hRv1 := hRv1.mono hlegg105
                  replace hRv2 := hRv2.mono hlegg105
                  replace hG0 := hG0.mono hlegg105
                  replace hrelxs6 := hrelxs6.mono hlegg105
                  replace hrelxs5 := hrelxs5.mono hlegg105
                  replace hrelxs4 := hrelxs4.mono hlegg105
                  replace hagg51 := hagg51.trans hlegg105
                  obtain ⟨cs65, rfl, hcs65⟩ := hvv65
                  have hcs65 : cs65 = _ := hcs65; subst hcs65
                  refine OW_nil ?_
                  have hS : SS g0 w0 gg51 [Go.Lx.box b5 27 (([Value.int .i64 6]) ++ (((Vec.zero 4).1.map (Value.int .u64)) ++ ([v36]))), .row v36 27 tT_Regex.sz [p1].length xs6, Go.Lx.box b4 27 (([Value.int .i64 5]) ++ (((Vec.zero 4).1.map (Value.int .u64)) ++ ([v35]))), .row v35 27 tT_Regex.sz [p1, p2].length xs5, Go.Lx.box b3 27 (([Value.int .i64 4]) ++ (((Vec.zero 4).1.map (Value.int .u64)) ++ ([v34]))), .row v34 27 tT_Regex.sz [p1, p2].length xs4, Go.Lx.box b2 27 (([Value.int .i64 p2.Kind]) ++ ((p2.Set.1.map (Value.int .u64)) ++ ([v2]))), Go.Lx.box b1 27 (([Value.int .i64 p1.Kind]) ++ ((p1.Set.1.map (Value.int .u64)) ++ ([v1])))] _ := ⟨gg105, hagg51, hs⟩
                  refine ⟨fun _ => hS, ?_⟩
                  refine AG rfl rfl rfl rfl (by rw [hg51]; rfl) hS (fun w9 h9 => by obtain ⟨g9, hle9, hs⟩ := h9; exact r_move (v := Value.bool rv61) rfl) rfl ?_
                  rcases condS hM with ⟨hg52, hM⟩ | ⟨hg52, hM⟩
                  · refine AK rfl rfl rfl rfl (by rw [hg52]; rfl) hS rfl ?_
                    refine AK rfl rfl rfl rfl (by rw [hg52]; rfl) hS rfl ?_
                    refine A1 rfl ?_
                    refine OK rfl rfl rfl (by rw [hg52]; rfl) rfl ?_
                    refine OW_nil ⟨fun _ => hS, ?_⟩
                    refine AG rfl rfl rfl rfl (by rw [hg51]; rfl) hS (fun w9 h9 => by obtain ⟨g9, hle9, hs⟩ := h9; exact r_pickT (v := Value.bool true) rfl hg52 rfl) rfl ?_
                    refine AG rfl rfl rfl rfl (by rw [hg51]; rfl) hS (fun w9 h9 => by obtain ⟨g9, hle9, hs⟩ := h9; exact r_eqlB Tryd.underlying4 rfl rfl) rfl ?_
                    refine A rfl hS (fun w9 h9 => by obtain ⟨g9, hle9, hs⟩ := h9; exact r_pickT (v := Value.bool (rv60 == true)) rfl hg51 rfl) rfl ?_
                    refine A rfl hS (fun w9 h9 => by obtain ⟨g9, hle9, hs⟩ := h9; exact r_move (v := Value.bool (rv60 == true)) rfl) rfl ?_
                    rcases condS hM with ⟨hg53, hM⟩ | ⟨hg53, hM⟩
                    · refine AG rfl rfl rfl rfl (by rw [hg53]; rfl) hS (fun w9 h9 => by obtain ⟨g9, hle9, hs⟩ := h9; exact r_loadN (cs := ([Value.int .i64 6]) ++ (((Vec.zero 4).1.map (Value.int .u64)) ++ ([v36]))) ti27 rfl (by simp [(Vec.zero 4).2]) (hs.cells (i := 0) rfl)) rfl ?_
                      refine AG rfl rfl rfl rfl (by rw [hg53]; rfl) hS (fun w9 h9 => by obtain ⟨g9, hle9, hs⟩ := h9; exact r_move (v := encS p3) rfl) rfl ?_
                      refine AG rfl rfl rfl rfl (by rw [hg53]; rfl) hS (fun w9 h9 => by obtain ⟨g9, hle9, hs⟩ := h9; exact r_move (v := Value.bool xv15) rfl) rfl ?_
                      refine A1 rfl ?_
                      have hsL17 := hs
                      have hRv1L17 := hRv1
                      have hRv2L17 := hRv2
                      have hG0L17 := hG0
                      have hrelxs6L17 := hrelxs6
                      have hrelxs5L17 := hrelxs5
                      have hrelxs4L17 := hrelxs4
                      have hagg51L17 := hagg51
                      obtain ⟨gg106, hlegg106, hRgg106, hs⟩ := hs.relRow (i := 1) rfl hrelxs6
                      replace hRv1 := hRv1.mono hlegg106
                      replace hRv2 := hRv2.mono hlegg106
                      replace hG0 := hG0.mono hlegg106
                      replace hrelxs5 := hrelxs5.mono hlegg106
                      replace hrelxs4 := hrelxs4.mono hlegg106
                      replace hagg51 := hagg51.trans hlegg106
                      obtain ⟨rv62, hrv62, hM⟩ := bindS hM
                      refine CG rfl rfl rfl (by rw [hg53]; rfl) [Value.agg (List.toArray (α := Value) (([Value.int .i64 6]) ++ (((Vec.zero 4).1.map (Value.int .u64)) ++ ([v36])))), encS p3] cf23 rfl (regex_Match_ok hrv62 hs.imm (tT_Regex_iff.2 ⟨[Value.int .i64 6], (Vec.zero 4).1.map (Value.int .u64), [v36], rfl, rfl, rfl, ⟨_, rfl, hRgg106⟩⟩)) rfl ?_
                      rintro v66 wv69 ⟨gg107, hvv66, hegg107⟩
                      obtain ⟨gg108, hlegg108, hs⟩ := hsL17.lent hegg107
                      replace hRv1 := hRv1L17.mono hlegg108
                      replace hRv2 := hRv2L17.mono hlegg108
                      replace hG0 := hG0L17.mono hlegg108
                      replace hrelxs6 := hrelxs6L17.mono hlegg108
                      replace hrelxs5 := hrelxs5L17.mono hlegg108
                      replace hrelxs4 := hrelxs4L17.mono hlegg108
                      replace hagg51 := hagg51L17.trans hlegg108
                      obtain ⟨cs66, rfl, hcs66⟩ := hvv66
                      have hcs66 : cs66 = _ := hcs66; subst hcs66
                      refine OW_nil ?_
                      have hS : SS g0 w0 gg51 [Go.Lx.box b5 27 (([Value.int .i64 6]) ++ (((Vec.zero 4).1.map (Value.int .u64)) ++ ([v36]))), .row v36 27 tT_Regex.sz [p1].length xs6, Go.Lx.box b4 27 (([Value.int .i64 5]) ++ (((Vec.zero 4).1.map (Value.int .u64)) ++ ([v35]))), .row v35 27 tT_Regex.sz [p1, p2].length xs5, Go.Lx.box b3 27 (([Value.int .i64 4]) ++ (((Vec.zero 4).1.map (Value.int .u64)) ++ ([v34]))), .row v34 27 tT_Regex.sz [p1, p2].length xs4, Go.Lx.box b2 27 (([Value.int .i64 p2.Kind]) ++ ((p2.Set.1.map (Value.int .u64)) ++ ([v2]))), Go.Lx.box b1 27 (([Value.int .i64 p1.Kind]) ++ ((p1.Set.1.map (Value.int .u64)) ++ ([v1])))] _ := ⟨gg108, hagg51, hs⟩
                      refine ⟨fun _ => hS, ?_⟩
                      refine AG rfl rfl rfl rfl (by rw [hg53]; rfl) hS (fun w9 h9 => by obtain ⟨g9, hle9, hs⟩ := h9; exact r_eqlB Tryd.underlying4 rfl rfl) rfl ?_
                      refine A rfl hS (fun w9 h9 => by obtain ⟨g9, hle9, hs⟩ := h9; exact r_pickT (v := Value.bool (rv62 == xv15)) rfl hg53 rfl) rfl ?_
                      refine A rfl hS (fun w9 h9 => by obtain ⟨g9, hle9, hs⟩ := h9; exact r_assign (v := Value.bool (rv62 == xv15)) rfl) rfl ?_
                      refine AN ?_
                      obtain rfl := Option.some.inj hM
                      exact ⟨gg108, rfl, hds, hagg51, (hs.sub (.cons _ (.cons _ (.cons _ (.cons _ (.cons _ (.cons _ (.cons _ (.cons _ .slnil)))))))))⟩
                    · refine AK rfl rfl rfl rfl (by rw [hg53]; rfl) hS rfl ?_
                      refine AK rfl rfl rfl rfl (by rw [hg53]; rfl) hS rfl ?_
                      refine AK rfl rfl rfl rfl (by rw [hg53]; rfl) hS rfl ?_
                      refine A1 rfl ?_
                      refine OK rfl rfl rfl (by rw [hg53]; rfl) rfl ?_
                      refine OW_nil ⟨fun _ => hS, ?_⟩
                      refine AK rfl rfl rfl rfl (by rw [hg53]; rfl) hS rfl ?_
                      refine A rfl hS (fun w9 h9 => by obtain ⟨g9, hle9, hs⟩ := h9; exact r_pickF (v := Value.bool false) rfl hg53 rfl) rfl ?_
                      refine A rfl hS (fun w9 h9 => by obtain ⟨g9, hle9, hs⟩ := h9; exact r_assign (v := Value.bool false) rfl) rfl ?_
                      refine AN ?_
                      obtain rfl := Option.some.inj hM
                      exact ⟨gg105, rfl, hds, hagg51, (hs.sub (.cons _ (.cons _ (.cons _ (.cons _ (.cons _ (.cons _ (.cons _ (.cons _ .slnil)))))))))⟩
                  · refine AG rfl rfl rfl rfl (by rw [hg52]; rfl) hS (fun w9 h9 => by obtain ⟨g9, hle9, hs⟩ := h9; exact r_loadN (cs := ([Value.int .i64 p2.Kind]) ++ ((p2.Set.1.map (Value.int .u64)) ++ ([v2]))) ti27 rfl (by simp [p2.Set.2]) (hs.cells (i := 6) rfl)) rfl ?_
                    refine AG rfl rfl rfl rfl (by rw [hg52]; rfl) hS (fun w9 h9 => by obtain ⟨g9, hle9, hs⟩ := h9; exact r_move (v := encS p3) rfl) rfl ?_
                    refine A1 rfl ?_
                    obtain ⟨rv63, hrv63, hM⟩ := bindS hM
                    refine CG rfl rfl rfl (by rw [hg52]; rfl) [Value.agg (List.toArray (α := Value) (([Value.int .i64 p2.Kind]) ++ ((p2.Set.1.map (Value.int .u64)) ++ ([v2])))), encS p3] cf23 rfl (regex_Match_ok hrv63 hs.imm (tT_Regex_iff.2 ⟨[Value.int .i64 p2.Kind], p2.Set.1.map (Value.int .u64), [v2], rfl, rfl, rfl, ⟨_, rfl, hRv2⟩⟩)) rfl ?_
                    rintro v67 wv70 ⟨gg109, hvv67, hegg109⟩
                    have hlegg109 := hegg109.le hs.imm
                    replace hs := hs.call hegg109
                    replace hRv1 := hRv1.mono hlegg109
                    replace hRv2 := hRv2.mono hlegg109
                    replace hG0 := hG0.mono hlegg109
                    replace hrelxs6 := hrelxs6.mono hlegg109
                    replace hrelxs5 := hrelxs5.mono hlegg109
                    replace hrelxs4 := hrelxs4.mono hlegg109
                    replace hagg51 := hagg51.trans hlegg109
                    obtain ⟨cs67, rfl, hcs67⟩ := hvv67
                    have hcs67 : cs67 = _ := hcs67; subst hcs67
                    refine OW_nil ?_
                    have hS : SS g0 w0 gg51 [Go.Lx.box b5 27 (([Value.int .i64 6]) ++ (((Vec.zero 4).1.map (Value.int .u64)) ++ ([v36]))), .row v36 27 tT_Regex.sz [p1].length xs6, Go.Lx.box b4 27 (([Value.int .i64 5]) ++ (((Vec.zero 4).1.map (Value.int .u64)) ++ ([v35]))), .row v35 27 tT_Regex.sz [p1, p2].length xs5, Go.Lx.box b3 27 (([Value.int .i64 4]) ++ (((Vec.zero 4).1.map (Value.int .u64)) ++ ([v34]))), .row v34 27 tT_Regex.sz [p1, p2].length xs4, Go.Lx.box b2 27 (([Value.int .i64 p2.Kind]) ++ ((p2.Set.1.map (Value.int .u64)) ++ ([v2]))), Go.Lx.box b1 27 (([Value.int .i64 p1.Kind]) ++ ((p1.Set.1.map (Value.int .u64)) ++ ([v1])))] _ := ⟨gg109, hagg51, hs⟩
                    refine ⟨fun _ => hS, ?_⟩
                    refine AG rfl rfl rfl rfl (by rw [hg51]; rfl) hS (fun w9 h9 => by obtain ⟨g9, hle9, hs⟩ := h9; exact r_pickF (v := Value.bool rv63) rfl hg52 rfl) rfl ?_
                    refine AG rfl rfl rfl rfl (by rw [hg51]; rfl) hS (fun w9 h9 => by obtain ⟨g9, hle9, hs⟩ := h9; exact r_eqlB Tryd.underlying4 rfl rfl) rfl ?_
                    refine A rfl hS (fun w9 h9 => by obtain ⟨g9, hle9, hs⟩ := h9; exact r_pickT (v := Value.bool (rv60 == rv63)) rfl hg51 rfl) rfl ?_
                    refine A rfl hS (fun w9 h9 => by obtain ⟨g9, hle9, hs⟩ := h9; exact r_move (v := Value.bool (rv60 == rv63)) rfl) rfl ?_
                    rcases condS hM with ⟨hg54, hM⟩ | ⟨hg54, hM⟩
                    · refine AG rfl rfl rfl rfl (by rw [hg54]; rfl) hS (fun w9 h9 => by obtain ⟨g9, hle9, hs⟩ := h9; exact r_loadN (cs := ([Value.int .i64 6]) ++ (((Vec.zero 4).1.map (Value.int .u64)) ++ ([v36]))) ti27 rfl (by simp [(Vec.zero 4).2]) (hs.cells (i := 0) rfl)) rfl ?_
                      refine AG rfl rfl rfl rfl (by rw [hg54]; rfl) hS (fun w9 h9 => by obtain ⟨g9, hle9, hs⟩ := h9; exact r_move (v := encS p3) rfl) rfl ?_
                      refine AG rfl rfl rfl rfl (by rw [hg54]; rfl) hS (fun w9 h9 => by obtain ⟨g9, hle9, hs⟩ := h9; exact r_move (v := Value.bool xv15) rfl) rfl ?_
                      refine A1 rfl ?_
                      have hsL18 := hs
                      have hRv1L18 := hRv1
                      have hRv2L18 := hRv2
                      have hG0L18 := hG0
                      have hrelxs6L18 := hrelxs6
                      have hrelxs5L18 := hrelxs5
                      have hrelxs4L18 := hrelxs4
                      have hagg51L18 := hagg51
                      obtain ⟨gg110, hlegg110, hRgg110, hs⟩ := hs.relRow (i := 1) rfl hrelxs6
                      replace hRv1 := hRv1.mono hlegg110
                      replace hRv2 := hRv2.mono hlegg110
                      replace hG0 := hG0.mono hlegg110
                      replace hrelxs5 := hrelxs5.mono hlegg110
                      replace hrelxs4 := hrelxs4.mono hlegg110
                      replace hagg51 := hagg51.trans hlegg110
                      obtain ⟨rv64, hrv64, hM⟩ := bindS hM
                      refine CG rfl rfl rfl (by rw [hg54]; rfl) [Value.agg (List.toArray (α := Value) (([Value.int .i64 6]) ++ (((Vec.zero 4).1.map (Value.int .u64)) ++ ([v36])))), encS p3] cf23 rfl (regex_Match_ok hrv64 hs.imm (tT_Regex_iff.2 ⟨[Value.int .i64 6], (Vec.zero 4).1.map (Value.int .u64), [v36], rfl, rfl, rfl, ⟨_, rfl, hRgg110⟩⟩)) rfl ?_
                      rintro v68 wv71 ⟨gg111, hvv68, hegg111⟩
                      obtain ⟨gg112, hlegg112, hs⟩ := hsL18.lent hegg111
                      replace hRv1 := hRv1L18.mono hlegg112
                      replace hRv2 := hRv2L18.mono hlegg112
                      replace hG0 := hG0L18.mono hlegg112
                      replace hrelxs6 := hrelxs6L18.mono hlegg112
                      replace hrelxs5 := hrelxs5L18.mono hlegg112
                      replace hrelxs4 := hrelxs4L18.mono hlegg112
                      replace hagg51 := hagg51L18.trans hlegg112
                      obtain ⟨cs68, rfl, hcs68⟩ := hvv68
                      have hcs68 : cs68 = _ := hcs68; subst hcs68
                      refine OW_nil ?_
                      have hS : SS g0 w0 gg51 [Go.Lx.box b5 27 (([Value.int .i64 6]) ++ (((Vec.zero 4).1.map (Value.int .u64)) ++ ([v36]))), .row v36 27 tT_Regex.sz [p1].length xs6, Go.Lx.box b4 27 (([Value.int .i64 5]) ++ (((Vec.zero 4).1.map (Value.int .u64)) ++ ([v35]))), .row v35 27 tT_Regex.sz [p1, p2].length xs5, Go.Lx.box b3 27 (([Value.int .i64 4]) ++ (((Vec.zero 4).1.map (Value.int .u64)) ++ ([v34]))), .row v34 27 tT_Regex.sz [p1, p2].length xs4, Go.Lx.box b2 27 (([Value.int .i64 p2.Kind]) ++ ((p2.Set.1.map (Value.int .u64)) ++ ([v2]))), Go.Lx.box b1 27 (([Value.int .i64 p1.Kind]) ++ ((p1.Set.1.map (Value.int .u64)) ++ ([v1])))] _ := ⟨gg112, hagg51, hs⟩
                      refine ⟨fun _ => hS, ?_⟩
                      refine AG rfl rfl rfl rfl (by rw [hg54]; rfl) hS (fun w9 h9 => by obtain ⟨g9, hle9, hs⟩ := h9; exact r_eqlB Tryd.underlying4 rfl rfl) rfl ?_
                      refine A rfl hS (fun w9 h9 => by obtain ⟨g9, hle9, hs⟩ := h9; exact r_pickT (v := Value.bool (rv64 == xv15)) rfl hg54 rfl) rfl ?_
                      refine A rfl hS (fun w9 h9 => by obtain ⟨g9, hle9, hs⟩ := h9; exact r_assign (v := Value.bool (rv64 == xv15)) rfl) rfl ?_
                      refine AN ?_
                      obtain rfl := Option.some.inj hM
                      exact ⟨gg112, rfl, hds, hagg51, (hs.sub (.cons _ (.cons _ (.cons _ (.cons _ (.cons _ (.cons _ (.cons _ (.cons _ .slnil)))))))))⟩
                    · refine AK rfl rfl rfl rfl (by rw [hg54]; rfl) hS rfl ?_
                      refine AK rfl rfl rfl rfl (by rw [hg54]; rfl) hS rfl ?_
                      refine AK rfl rfl rfl rfl (by rw [hg54]; rfl) hS rfl ?_
                      refine A1 rfl ?_
                      refine OK rfl rfl rfl (by rw [hg54]; rfl) rfl ?_
                      refine OW_nil ⟨fun _ => hS, ?_⟩
                      refine AK rfl rfl rfl rfl (by rw [hg54]; rfl) hS rfl ?_
                      refine A rfl hS (fun w9 h9 => by obtain ⟨g9, hle9, hs⟩ := h9; exact r_pickF (v := Value.bool false) rfl hg54 rfl) rfl ?_
                      refine A rfl hS (fun w9 h9 => by obtain ⟨g9, hle9, hs⟩ := h9; exact r_assign (v := Value.bool false) rfl) rfl ?_
                      refine AN ?_
                      obtain rfl := Option.some.inj hM
                      exact ⟨gg109, rfl, hds, hagg51, (hs.sub (.cons _ (.cons _ (.cons _ (.cons _ (.cons _ (.cons _ (.cons _ (.cons _ .slnil)))))))))⟩
                · refine AK rfl rfl rfl rfl (by rw [hg51]; rfl) hS rfl ?_
                  refine AK rfl rfl rfl rfl (by rw [hg51]; rfl) hS rfl ?_
                  refine AK rfl rfl rfl rfl (by rw [hg51]; rfl) hS rfl ?_
                  refine AK rfl rfl rfl rfl (by rw [hg51]; rfl) hS rfl ?_
                  refine A1 rfl ?_
                  refine OK rfl rfl rfl (by rw [hg51]; rfl) rfl ?_
                  refine OW_nil ⟨fun _ => hS, ?_⟩
                  refine A1 rfl ?_
                  refine OK rfl rfl rfl (by rw [hg51]; rfl) rfl ?_
                  refine OW_nil ⟨fun _ => hS, ?_⟩
                  refine AK rfl rfl rfl rfl (by rw [hg51]; rfl) hS rfl ?_
                  refine AKU rfl rfl rfl rfl hS rfl ?_
                  refine AKU rfl rfl rfl rfl hS rfl ?_
                  refine A1 rfl ?_
                  refine OKU rfl rfl rfl rfl ?_
                  refine OW_nil ⟨fun _ => hS, ?_⟩
                  refine AK rfl rfl rfl rfl (by rw [hg51]; rfl) hS rfl ?_
                  refine AK rfl rfl rfl rfl (by rw [hg51]; rfl) hS rfl ?_
                  refine A rfl hS (fun w9 h9 => by obtain ⟨g9, hle9, hs⟩ := h9; exact r_pickF (v := Value.bool false) rfl hg51 rfl) rfl ?_
                  refine A rfl hS (fun w9 h9 => by obtain ⟨g9, hle9, hs⟩ := h9; exact r_move (v := Value.bool false) rfl) rfl ?_
                  refine AK rfl rfl rfl rfl rfl hS rfl ?_
                  refine AK rfl rfl rfl rfl rfl hS rfl ?_
                  refine AK rfl rfl rfl rfl rfl hS rfl ?_
                  refine A1 rfl ?_
                  refine OK rfl rfl rfl rfl rfl ?_
                  refine OW_nil ⟨fun _ => hS, ?_⟩
                  refine AK rfl rfl rfl rfl rfl hS rfl ?_
                  refine A rfl hS (fun w9 h9 => by obtain ⟨g9, hle9, hs⟩ := h9; exact r_pickF (v := Value.bool false) rfl rfl rfl) rfl ?_
                  refine A rfl hS (fun w9 h9 => by obtain ⟨g9, hle9, hs⟩ := h9; exact r_assign (v := Value.bool false) rfl) rfl ?_
                  refine AN ?_
                  obtain rfl := Option.some.inj hM
                  exact ⟨gg101, rfl, hds, hagg51, (hs.sub (.cons _ (.cons _ (.cons _ (.cons _ (.cons _ (.cons _ (.cons _ (.cons _ .slnil)))))))))⟩
              · refine AK rfl rfl rfl rfl (by rw [hg50]; rfl) hS rfl ?_
                refine AK rfl rfl rfl rfl (by rw [hg50]; rfl) hS rfl ?_
                refine AK rfl rfl rfl rfl (by rw [hg50]; rfl) hS rfl ?_
                refine A1 rfl ?_
                refine OK rfl rfl rfl (by rw [hg50]; rfl) rfl ?_
                refine OW_nil ⟨fun _ => hS, ?_⟩
                refine AK rfl rfl rfl rfl (by rw [hg50]; rfl) hS rfl ?_
                refine A rfl hS (fun w9 h9 => by obtain ⟨g9, hle9, hs⟩ := h9; exact r_pickF (v := Value.bool false) rfl hg50 rfl) rfl ?_
                refine A rfl hS (fun w9 h9 => by obtain ⟨g9, hle9, hs⟩ := h9; exact r_move (v := Value.bool false) rfl) rfl ?_
                refine AK rfl rfl rfl rfl rfl hS rfl ?_
                refine AK rfl rfl rfl rfl rfl hS rfl ?_
                refine AK rfl rfl rfl rfl rfl hS rfl ?_
                refine AK rfl rfl rfl rfl rfl hS rfl ?_
                refine A1 rfl ?_
                refine OK rfl rfl rfl rfl rfl ?_
                refine OW_nil ⟨fun _ => hS, ?_⟩
                refine A1 rfl ?_
                refine OK rfl rfl rfl rfl rfl ?_
                refine OW_nil ⟨fun _ => hS, ?_⟩
                refine AK rfl rfl rfl rfl rfl hS rfl ?_
                refine AKU rfl rfl rfl rfl hS rfl ?_
                refine AKU rfl rfl rfl rfl hS rfl ?_
                refine A1 rfl ?_
                refine OKU rfl rfl rfl rfl ?_
                refine OW_nil ⟨fun _ => hS, ?_⟩
                refine AK rfl rfl rfl rfl rfl hS rfl ?_
                refine AK rfl rfl rfl rfl rfl hS rfl ?_
                refine A rfl hS (fun w9 h9 => by obtain ⟨g9, hle9, hs⟩ := h9; exact r_pickF (v := Value.bool false) rfl rfl rfl) rfl ?_
                refine A rfl hS (fun w9 h9 => by obtain ⟨g9, hle9, hs⟩ := h9; exact r_move (v := Value.bool false) rfl) rfl ?_
                refine AK rfl rfl rfl rfl rfl hS rfl ?_
                refine AK rfl rfl rfl rfl rfl hS rfl ?_
                refine AK rfl rfl rfl rfl rfl hS rfl ?_
                refine A1 rfl ?_
                refine OK rfl rfl rfl rfl rfl ?_
                refine OW_nil ⟨fun _ => hS, ?_⟩
                refine AK rfl rfl rfl rfl rfl hS rfl ?_
                refine A rfl hS (fun w9 h9 => by obtain ⟨g9, hle9, hs⟩ := h9; exact r_pickF (v := Value.bool false) rfl rfl rfl) rfl ?_
                refine A rfl hS (fun w9 h9 => by obtain ⟨g9, hle9, hs⟩ := h9; exact r_assign (v := Value.bool false) rfl) rfl ?_
                refine AN ?_
                obtain rfl := Option.some.inj hM
                exact ⟨gg98, rfl, hds, hagg51, (hs.sub (.cons _ (.cons _ (.cons _ (.cons _ (.cons _ (.cons _ (.cons _ (.cons _ .slnil)))))))))⟩
            · clear hs
              rintro E w ⟨gg97, hE6, hds, hlegg97, hs⟩
              have hM := hKhx10
              obtain ⟨E, rfl⟩ := open1 (E := E) hE6
              replace hG0 := hG0.mono hlegg97
              refine WP_ret ?_
              obtain rfl := Option.some.inj hM
              refine FL_nil hds ?_
              exact ⟨_, res1 Tryd.results10 (rv_tmp (v := Value.bool xv27) rfl), gg97, ⟨[Value.bool xv27], rfl, rfl⟩, hs.ext⟩

end Go.Proofs.YtffienmbeifioaaDoor
