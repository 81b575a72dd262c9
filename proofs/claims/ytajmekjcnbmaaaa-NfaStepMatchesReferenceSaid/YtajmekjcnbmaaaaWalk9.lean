/- The walks: what each function does is what its model says. Printed by a program of my own. -/
import Derived.Test.YtajmekjcnbmaaaaTyp
import Derived.Test.YtajmekjcnbmaaaaWalk7
set_option linter.unusedVariables false
set_option linter.unusedSimpArgs false
namespace Go.Proofs.Ytajmekjcnbmaaaa
open Go.Lx Go.RowKit
set_option maxRecDepth 100000 in
theorem ref07_Has_ok {s1 : (Vec 4)} {b1 : Int} {r : Bool} (hM : M.ref07_Has s1 b1 = some r) {g0 : Hp} {w0 : World} (hi : Imm g0 w0) :
    CallsV Try.prog 37 #[encV .u64 s1, Value.int .u8 b1] w0 (fun v w' => ∃ g', (VRd tBool false g' v r) ∧ Ext g0 w0 g' w') := by
 unfold M.ref07_Has at hM
 have hs := Sep.start hi
 refine calls_of_WP (args := [encV .u64 s1, Value.int .u8 b1]) Try.func37 rfl Try.ntmps37 rfl ?_
 have hds : (argEnv [encV .u64 s1, Value.int .u8 b1]).ds = [] := rfl
 refine WP_seq <| WP_region <| OW_box (v := encV .u64 s1) rfl hs (zs := s1.1.map (Value.int .u64)) rfl rfl ?_
 intro b2 wv1 hs
 refine O (r_assign (v := Value.bool false) rfl) rfl <| OW_nil <| WP_seq <| WP_region <| O (r_move (v := Value.int .u8 b1) rfl) rfl ?_
 obtain ⟨t1, ht1, hM⟩ := bindS hM
 refine O (r_quoM rfl rfl ht1) rfl ?_
 obtain ⟨c1, hc1, hM⟩ := bindS hM
 refine O (r_idxArr Try.underlying48 ti46 rfl rfl (vget_some hc1).1 (vget_some hc1).2.1) rfl <| O (r_load ti46 rfl (hs.cell (i := 0) rfl (vget_cell hc1))) rfl <| O (r_move (v := Value.int .u8 b1) rfl) rfl ?_
 obtain ⟨t2, ht2, hM⟩ := bindS hM
 refine O (r_remM rfl rfl ht2) rfl ?_
 obtain ⟨t3, ht3, hM⟩ := bindS hM
 refine O (r_shrM rfl rfl ht3) rfl <| O (r_and rfl rfl) rfl <| O (r_eql rfl rfl) rfl <| O (r_assign (v := Value.bool ((bits .and .u64 t3 1) == 1)) rfl) rfl <| OW_nil <| WP_ret ?_
 obtain rfl := Option.some.inj hM
 refine FL_nil hds ?_
 exact ⟨_, res1 Try.results37 (rv_tmp (v := Value.bool ((bits .and .u64 t3 1) == 1)) rfl), g0, ⟨[Value.bool ((bits .and .u64 t3 1) == 1)], rfl, rfl⟩, hs.ext⟩

set_option maxRecDepth 100000 in
theorem ref09_Step_ok {p1 : T_NFA} {p2 : (List Int)} {p3 : Int} {r : (List Int)} (hM : M.ref09_Step p1 p2 p3 = some r) {g0 : Hp} {w0 : World} (hi : Imm g0 w0) {cs1 : List Value} (hcs1 : tT_NFA.rel g0 cs1 p1) {v1 : Value} (hRv1 : RdS (tInt .i64) g0 v1 p2) :
    CallsV Try.prog 19 #[Value.agg cs1.toArray, v1, Value.int .u8 p3] w0 (fun v w' => ∃ g' y0, (RowRel (tInt .i64) g' y0 r) ∧ Sep g0 w0 g' w' [.row v 3 (tInt .i64).sz r.length y0]) := by
 unfold M.ref09_Step at hM
 obtain ⟨cs2, cs3, cs4, cs5, rfl, hcs2, hcs3, hcs4, hcs5⟩ := hcs1
 have hcs2 : cs2 = _ := hcs2; subst hcs2
 have hcs3 : cs3 = _ := hcs3; subst hcs3
 obtain ⟨v2, rfl, hRv2⟩ := hcs4
 obtain ⟨v3, rfl, hRv3⟩ := hcs5
 have hs := Sep.start hi
 refine calls_of_WP (args := [Value.agg (List.toArray (α := Value) [Value.int .i64 p1.States, Value.int .i64 p1.Start, v2, v3]), v1, Value.int .u8 p3]) Try.func19 rfl Try.ntmps19 rfl ?_
 have hds : (argEnv [Value.agg (List.toArray (α := Value) [Value.int .i64 p1.States, Value.int .i64 p1.Start, v2, v3]), v1, Value.int .u8 p3]).ds = [] := rfl
 refine WP_seq <| WP_region <| OW_box (v := Value.agg (List.toArray (α := Value) [Value.int .i64 p1.States, Value.int .i64 p1.Start, v2, v3])) rfl hs (zs := [Value.int .i64 p1.States, Value.int .i64 p1.Start, v2, v3]) rfl rfl ?_
 intro b1 wv1 hs
 refine O (r_assign (v := Value.slice none 0 0) rfl) rfl <| OW_nil <| WP_seq <| WP_region <| O (r_fieldAddr Try.underlying25 ti3 rfl rfl (by decide) rfl rfl) rfl <| O (r_load (v := Value.int .i64 p1.States) ti3 rfl (hs.cell (i := 0) (o := 0) rfl rfl)) rfl ?_
 obtain ⟨l1, hl1, hM⟩ := bindS hM
 refine OW_make (τ := tBool) (zc := [Value.bool false]) (zx := false) Try.underlying56 ti4 rfl rfl (by decide) hs rfl rfl hl1 rfl ?_
 intro v4 wv2 xs1 hrelxs1 hs
 refine O (r_assign (v := v4) rfl) rfl <| OW_nil <| WP_seq <| WP_region <| O (r_loadN (cs := [Value.int .i64 p1.States, Value.int .i64 p1.Start, v2, v3]) ti25 rfl rfl (hs.cells (i := 1) rfl)) rfl <| O (r_move (v := v1) rfl) rfl ?_
 obtain ⟨rv1, hrv1, hM⟩ := bindS hM
 refine C [Value.agg (List.toArray (α := Value) [Value.int .i64 p1.States, Value.int .i64 p1.Start, v2, v3]), v1] cf17 rfl (ref09_Closure_ok hrv1 hs.imm (⟨[Value.int .i64 p1.States], [Value.int .i64 p1.Start], [v2], [v3], rfl, rfl, rfl, ⟨_, rfl, hRv2⟩, ⟨_, rfl, hRv3⟩⟩) hRv1) rfl ?_
 rintro v5 wv3 ⟨gg1, xs2, hvv5, hegg1⟩
 have hlegg1 := hegg1.ext.le hs.imm
 replace hs := hs.callOwn hegg1
 simp only [List.cons_append, List.nil_append] at hs
 replace hRv2 := hRv2.mono hlegg1
 replace hRv3 := hRv3.mono hlegg1
 replace hrelxs1 := hrelxs1.mono hlegg1
 refine O (r_assign (v := v5) rfl) rfl <| OW_nil ?_
 obtain ⟨l5, hx1, hKhx1⟩ := bindS hM
 refine WP_cut (fun E w => ∃ (v9 : Value) (xs9 : List Value), E 2 = Value.int .u8 p3 ∧ E 3 = Value.pointer (some ⟨b1, 0, none⟩) ∧ E 7 = v9 ∧ E.ds = [] ∧ RowRel tBool gg1 xs9 l5 ∧ Go.Lx.Sep g0 w0 gg1 w [.row v9 4 tBool.sz l5.length xs9, Go.Lx.box b1 25 ([Value.int .i64 p1.States, Value.int .i64 p1.Start, v2, v3])]) ?_ ?_
 ·have hM := hx1
  have hagg1 := Hle.refl gg1
  refine WP_seq <| WP_region <| O (r_assign (v := Value.int .i64 0) rfl) rfl <| OW_nil <| WP_block <| WP_loop (fun (st9 : (List Bool) × Int) E w => match st9 with | (l7, xv5) => ∃ (v11 : Value) (xs12 : List Value), E 2 = Value.int .u8 p3 ∧ E 3 = Value.pointer (some ⟨b1, 0, none⟩) ∧ E 7 = v11 ∧ E 8 = v5 ∧ E 9 = Value.int .i64 xv5 ∧ E.ds = [] ∧ RowRel tBool gg1 xs12 l7 ∧ Go.Lx.Sep g0 w0 gg1 w [.row v5 3 (tInt .i64).sz rv1.length xs2, .row v11 4 tBool.sz l7.length xs12, Go.Lx.box b1 25 ([Value.int .i64 p1.States, Value.int .i64 p1.Start, v2, v3])]) hM ⟨v4, xs1, rfl, rfl, rfl, rfl, rfl, hds, hrelxs1, hs⟩ ?_
  clear hs hM
  rintro ⟨l7, xv5⟩ o2 E w hM ⟨v11, xs12, hE2, hE3, hE7, hE8, hE9, hds, hrelxs12, hs⟩
  obtain ⟨E, rfl⟩ := open5 (E := E) hE2 hE3 hE7 hE8 hE9
  refine WP_seq <| WP_seq <| WP_region <| O (r_move (v := Value.int .i64 xv5) rfl) rfl <| O (r_move (v := v5) rfl) rfl ?_
  obtain ⟨a6, ca6, hva6⟩ := hs.rowShape (i := 0) rfl
  refine O (r_lenSl (v := v5) Try.underlying23 rfl hva6) rfl <| O (r_lss rfl rfl) rfl <| OW_nil ?_
  rcases condS hM with ⟨hc6, hM⟩ | ⟨hc6, hM⟩
  ·refine WP_true rfl hc6 <| WP_skip <| WP_seq <| WP_block <| WP_region <| O (r_move (v := v11) rfl) rfl <| O (r_move (v := v5) rfl) rfl <| O (r_move (v := Value.int .i64 xv5) rfl) rfl ?_
   obtain ⟨e6, he6, hM⟩ := bindS hM
   obtain ⟨b12, cb12, hvb12, cs11, hcs11, hcb12⟩ := hs.rowEl (i := 0) rfl hvv5 he6
   have hcs11 : cs11 = _ := hcs11; subst hcs11
   refine O (r_idxSl Try.underlying23 ti3 (v := v5) rfl hvb12 rfl (idxL_some he6).1 (idxL_some he6).2.1) rfl <| O (r_loadEl (cs := [Value.int .i64 e6]) ti3 rfl rfl (.inr rfl) (hcb12 _ (hs.at (i := 0) rfl)) (v := Value.int .i64 e6) rfl) rfl ?_
   obtain ⟨y6, hy6, hM⟩ := bindS hM
   obtain ⟨b13, cb13, hvb13, wv9, xs15, hstb13, hrelb13, hsb13⟩ := hs.rowPut (i := 1) rfl hrelxs12 hy6 (cs := [Value.bool true]) rfl
   refine O (r_idxSl Try.underlying56 ti4 (v := v11) rfl hvb13 rfl (setL_some hy6).1 (setL_some hy6).2.1) rfl <| O0 (r_store ti4 rfl (v := Value.bool true) rfl rfl hstb13) ?_
   have hs := hsb13
   refine OW_nil <| WP_region <| O (r_move (v := Value.int .i64 xv5) rfl) rfl ?_
   obtain ⟨t6, ht6, hM⟩ := bindS hM
   refine O (r_addM rfl rfl ht6) rfl <| O (r_assign (v := Value.int .i64 t6) rfl) rfl <| OW_nil ?_
   obtain rfl := Option.some.inj hM
   exact ⟨v11, xs15, rfl, rfl, rfl, rfl, rfl, hds, hrelb13, hs⟩
  ·refine WP_false rfl hc6 <| WP_exit ?_
   obtain rfl := Option.some.inj hM
   refine fun hr => ?_
   have hM := congrArg some hr
   obtain rfl := Option.some.inj hM
   exact ⟨v11, xs12, rfl, rfl, rfl, hds, hrelxs12, (hs.sub (.cons _ (.cons_cons _ (.cons_cons _ .slnil))))⟩
 ·clear hs
  rintro E w ⟨v9, xs9, hE2, hE3, hE7, hds, hrelxs9, hs⟩
  have hM := hKhx1
  obtain ⟨E, rfl⟩ := open3 (E := E) hE2 hE3 hE7
  refine WP_seq <| WP_region <| O (r_assign (v := Value.slice none 0 0) rfl) rfl <| OW_nil ?_
  obtain ⟨xv13, hx11, hKhx11⟩ := bindS hM
  refine WP_cut (fun E w => ∃ (gg26 : Hp) (v49 : Value) (xs42 : List Value), E 3 = Value.pointer (some ⟨b1, 0, none⟩) ∧ E 10 = v49 ∧ E.ds = [] ∧ Hle gg1 gg26 ∧ RowRel (tInt .i64) gg26 xs42 xv13 ∧ Go.Lx.Sep g0 w0 gg26 w [.row v49 3 (tInt .i64).sz xv13.length xs42, Go.Lx.box b1 25 ([Value.int .i64 p1.States, Value.int .i64 p1.Start, v2, v3])]) ?_ ?_
  ·have hM := hx11
   have hagg1 := Hle.refl gg1
   refine WP_seq <| WP_region <| O (r_assign (v := Value.int .i64 0) rfl) rfl <| OW_nil <| WP_block ?_
   have hs := hs.nilRow 3 (tInt .i64).sz
   refine WP_loop (fun (st9 : (List Int) × Int) E w => match st9 with | (xv16, xv17) => ∃ (gg35 : Hp) (v63 : Value) (xs54 : List Value) (v62 : Value) (xs53 : List Value), E 2 = Value.int .u8 p3 ∧ E 3 = Value.pointer (some ⟨b1, 0, none⟩) ∧ E 7 = v62 ∧ E 10 = v63 ∧ E 11 = Value.int .i64 xv17 ∧ E.ds = [] ∧ Hle gg1 gg35 ∧ RowRel (tInt .i64) gg35 xs54 xv16 ∧ RowRel tBool gg35 xs53 l5 ∧ Go.Lx.Sep g0 w0 gg35 w [.row v63 3 (tInt .i64).sz xv16.length xs54, .row v62 4 tBool.sz l5.length xs53, Go.Lx.box b1 25 ([Value.int .i64 p1.States, Value.int .i64 p1.Start, v2, v3])]) hM ⟨gg1, (Value.slice none 0 0), [], v9, xs9, rfl, rfl, rfl, rfl, rfl, hds, (Hle.refl _), RowRel.nil, hrelxs9, hs⟩ ?_
   clear hs hM
   rintro ⟨xv16, xv17⟩ o4 E w hM ⟨gg35, v63, xs54, v62, xs53, hE2, hE3, hE7, hE10, hE11, hds, hlegg35, hrelxs54, hrelxs53, hs⟩
   obtain ⟨E, rfl⟩ := open5 (E := E) hE2 hE3 hE7 hE10 hE11
   replace hRv2 := hRv2.mono hlegg35
   have hagg35 := Hle.refl gg35
   refine WP_seq <| WP_seq <| WP_region <| O (r_move (v := Value.int .i64 xv17) rfl) rfl <| O (r_fieldAddr Try.underlying25 ti22 rfl rfl (by decide) rfl rfl) rfl <| O (r_load (v := v2) ti22 rfl (hs.cell (i := 2) (o := 2) rfl rfl)) rfl ?_
   obtain ⟨a12, ca12, hva12⟩ := hRv2.shape
   refine O (r_lenSl (v := v2) Try.underlying22 rfl hva12) rfl <| O (r_lss rfl rfl) rfl <| OW_nil ?_
   rcases condS hM with ⟨hc22, hM⟩ | ⟨hc22, hM⟩
   ·refine WP_true rfl hc22 <| WP_skip ?_
    obtain ⟨y23, hx19, hKhx19⟩ := bindS hM
    refine WP_cut (fun E w => ∃ (gg47 : Hp) (v81 : Value) (xs66 : List Value) (v80 : Value) (xs65 : List Value), E 2 = Value.int .u8 p3 ∧ E 3 = Value.pointer (some ⟨b1, 0, none⟩) ∧ E 7 = v80 ∧ E 10 = v81 ∧ E 11 = Value.int .i64 xv17 ∧ E.ds = [] ∧ Hle gg35 gg47 ∧ RowRel (tInt .i64) gg47 xs66 y23 ∧ RowRel tBool gg47 xs65 l5 ∧ Go.Lx.Sep g0 w0 gg47 w [.row v81 3 (tInt .i64).sz y23.length xs66, .row v80 4 tBool.sz l5.length xs65, Go.Lx.box b1 25 ([Value.int .i64 p1.States, Value.int .i64 p1.Start, v2, v3])]) ?_ ?_
    ·have hM := hx19
     refine WP_block <| WP_seq <| WP_region <| O (r_fieldAddr Try.underlying25 ti22 rfl rfl (by decide) rfl rfl) rfl <| O (r_load (v := v2) ti22 rfl (hs.cell (i := 2) (o := 2) rfl rfl)) rfl <| O (r_move (v := Value.int .i64 xv17) rfl) rfl ?_
     obtain ⟨e40, he40, hM⟩ := bindS hM
     obtain ⟨b58, ob58, cb58, hvb58, cs111, hcs111, hcb58⟩ := hRv2.at he40
     obtain ⟨cs112, cs113, cs114, cs115, rfl, hcs112, hcs113, hcs114, hcs115⟩ := hcs111
     have hcs112 : cs112 = _ := hcs112; subst hcs112
     have hcs113 : cs113 = _ := hcs113; subst hcs113
     have hcs114 : cs114 = _ := hcs114; subst hcs114
     have hcs115 : cs115 = _ := hcs115; subst hcs115
     refine O (r_idxSl Try.underlying22 ti54 (v := v2) rfl hvb58 rfl (idxL_some he40).1 (idxL_some he40).2.1) rfl <| O (r_loadEl (cs := ([Value.int .i64 e40.From]) ++ (([Value.int .i64 e40.To]) ++ (([Value.bool e40.Epsilon]) ++ (e40.Set.1.map (Value.int .u64))))) ti54 rfl (by simp [e40.Set.2]) (.inl rfl) (hcb58 _ hs.imm) (v := Value.agg (List.toArray (α := Value) (([Value.int .i64 e40.From]) ++ (([Value.int .i64 e40.To]) ++ (([Value.bool e40.Epsilon]) ++ (e40.Set.1.map (Value.int .u64))))))) rfl) rfl <| OW_alloc ti54 hs (zs := ([Value.int .i64 0]) ++ (([Value.int .i64 0]) ++ (([Value.bool false]) ++ ((Vec.zero 4).1.map (Value.int .u64))))) rfl rfl ?_
     intro b59 wv76 hs
     refine OW_storeAll ti54 hs (i := 0) rfl rfl (v := Value.agg (List.toArray (α := Value) (([Value.int .i64 e40.From]) ++ (([Value.int .i64 e40.To]) ++ (([Value.bool e40.Epsilon]) ++ (e40.Set.1.map (Value.int .u64))))))) rfl (vs := ([Value.int .i64 e40.From]) ++ (([Value.int .i64 e40.To]) ++ (([Value.bool e40.Epsilon]) ++ (e40.Set.1.map (Value.int .u64))))) rfl (one_append (one_cons rfl one_nil) (one_append (one_cons rfl one_nil) (one_append (one_cons rfl one_nil) vec_one))) (by simp [e40.Set.2]) (by simp [e40.Set.2, (Vec.zero 4).2]) ?_
     intro wv77 hs
     refine OW_nil ?_
     obtain ⟨rv36, hx20, hKhx20⟩ := bindS hM
     refine WP_cut (fun E w => ∃ (gg49 : Hp), E 2 = Value.int .u8 p3 ∧ E 3 = Value.pointer (some ⟨b1, 0, none⟩) ∧ E 7 = v62 ∧ E 10 = v63 ∧ E 11 = Value.int .i64 xv17 ∧ E 12 = Value.pointer (some ⟨b59, 0, none⟩) ∧ E 58 = Value.bool rv36 ∧ E.ds = [] ∧ Hle gg35 gg49 ∧ Go.Lx.Sep g0 w0 gg49 w [Go.Lx.box b59 54 (([Value.int .i64 e40.From]) ++ (([Value.int .i64 e40.To]) ++ (([Value.bool e40.Epsilon]) ++ (e40.Set.1.map (Value.int .u64))))), .row v63 3 (tInt .i64).sz xv16.length xs54, .row v62 4 tBool.sz l5.length xs53, Go.Lx.box b1 25 ([Value.int .i64 p1.States, Value.int .i64 p1.Start, v2, v3])]) ?_ ?_
     ·have hM := hx20
      refine WP_region <| O (r_fieldAddr Try.underlying54 ti4 rfl rfl (by decide) rfl rfl) rfl <| O (r_load (v := Value.bool e40.Epsilon) ti4 rfl (hs.cell (i := 0) (o := 2) rfl (by simp [e40.Set.2]))) rfl <| O (r_not rfl) rfl <| O (r_move (v := Value.bool (!e40.Epsilon)) rfl) rfl ?_
      rcases condS hM with ⟨hg47, hM⟩ | ⟨hg47, hM⟩
      ·refine OG rfl rfl rfl (by rw [hg47]; rfl) (r_move (v := v62) rfl) rfl <| OG rfl rfl rfl (by rw [hg47]; rfl) (r_fieldAddr Try.underlying54 ti3 rfl rfl (by decide) rfl rfl) rfl <| OG rfl rfl rfl (by rw [hg47]; rfl) (r_load (v := Value.int .i64 e40.From) ti3 rfl (hs.cell (i := 0) (o := 0) rfl (by simp [e40.Set.2]))) rfl ?_
       obtain ⟨e42, he42, hM⟩ := bindS hM
       obtain ⟨b61, cb61, hvb61, cs118, hcs118, hcb61⟩ := hs.rowEl (i := 2) rfl hrelxs53 he42
       have hcs118 : cs118 = _ := hcs118; subst hcs118
       refine OG rfl rfl rfl (by rw [hg47]; rfl) (r_idxSl Try.underlying56 ti4 (v := v62) rfl hvb61 rfl (idxL_some he42).1 (idxL_some he42).2.1) rfl <| OG rfl rfl rfl (by rw [hg47]; rfl) (r_loadEl (cs := [Value.bool e42]) ti4 rfl rfl (.inr rfl) (hcb61 _ (hs.at (i := 2) rfl)) (v := Value.bool e42) rfl) rfl <| O (r_pickT (v := Value.bool e42) rfl hg47 rfl) rfl <| O (r_move (v := Value.bool e42) rfl) rfl ?_
       rcases condS hM with ⟨hg48, hM⟩ | ⟨hg48, hM⟩
       ·refine OG rfl rfl rfl (by rw [hg48]; rfl) (r_fieldAddr Try.underlying54 ti48 rfl rfl (by decide) rfl rfl) rfl <| OG rfl rfl rfl (by rw [hg48]; rfl) (r_loadN (cs := e40.Set.1.map (Value.int .u64)) ti48 rfl (by simp [e40.Set.2]) (hs.cellsAt (i := 0) (o := 3) rfl (by intro j u hj; exact sub_at (pre := [Value.int .i64 e40.From, Value.int .i64 e40.To, Value.bool e40.Epsilon]) (ds := e40.Set.1.map (Value.int .u64)) (post := []) rfl ((by simp)) hj))) rfl <| OG rfl rfl rfl (by rw [hg48]; rfl) (r_move (v := Value.int .u8 p3) rfl) rfl ?_
        obtain ⟨rv37, hrv37, hM⟩ := bindS hM
        refine CG rfl rfl rfl (by rw [hg48]; rfl) [encV .u64 e40.Set, Value.int .u8 p3] cf37 rfl (ref07_Has_ok hrv37 hs.imm) rfl ?_
        rintro v83 wv79 ⟨gg50, hvv83, hegg50⟩
        have hlegg50 := hegg50.le hs.imm
        replace hs := hs.call hegg50
        replace hagg35 := hagg35.trans hlegg50
        obtain ⟨cs119, rfl, hcs119⟩ := hvv83
        have hcs119 : cs119 = _ := hcs119; subst hcs119
        refine O (r_pickT (v := Value.bool rv37) rfl hg48 rfl) rfl <| OW_nil ?_
        obtain rfl := Option.some.inj hM
        exact ⟨gg50, rfl, rfl, rfl, rfl, rfl, rfl, rfl, hds, hagg35, hs⟩
       ·refine OK rfl rfl rfl (by rw [hg48]; rfl) rfl <| OK rfl rfl rfl (by rw [hg48]; rfl) rfl <| OK rfl rfl rfl (by rw [hg48]; rfl) rfl <| OK rfl rfl rfl (by rw [hg48]; rfl) rfl <| O (r_pickF (v := Value.bool false) rfl hg48 rfl) rfl <| OW_nil ?_
        obtain rfl := Option.some.inj hM
        exact ⟨gg35, rfl, rfl, rfl, rfl, rfl, rfl, rfl, hds, (Hle.refl _), hs⟩
      ·refine OK rfl rfl rfl (by rw [hg47]; rfl) rfl <| OK rfl rfl rfl (by rw [hg47]; rfl) rfl <| OK rfl rfl rfl (by rw [hg47]; rfl) rfl <| OK rfl rfl rfl (by rw [hg47]; rfl) rfl <| OK rfl rfl rfl (by rw [hg47]; rfl) rfl <| O (r_pickF (v := Value.bool false) rfl hg47 rfl) rfl <| O (r_move (v := Value.bool false) rfl) rfl <| OK rfl rfl rfl rfl rfl <| OK rfl rfl rfl rfl rfl <| OK rfl rfl rfl rfl rfl <| OK rfl rfl rfl rfl rfl <| O (r_pickF (v := Value.bool false) rfl rfl rfl) rfl <| OW_nil ?_
       obtain rfl := Option.some.inj hM
       exact ⟨gg35, rfl, rfl, rfl, rfl, rfl, rfl, rfl, hds, (Hle.refl _), hs⟩
     ·clear hs
      rintro E w ⟨gg49, hE2, hE3, hE7, hE10, hE11, hE12, hE58, hds, hlegg49, hs⟩
      have hM := hKhx20
      obtain ⟨E, rfl⟩ := open7 (E := E) hE2 hE3 hE7 hE10 hE11 hE12 hE58
      replace hrelxs54 := hrelxs54.mono hlegg49
      replace hrelxs53 := hrelxs53.mono hlegg49
      replace hagg35 := hagg35.trans hlegg49
      rcases condS hM with ⟨hc24, hM⟩ | ⟨hc24, hM⟩
      ·refine WP_true rfl hc24 <| WP_region <| O (r_move (v := v63) rfl) rfl <| O (r_fieldAddr Try.underlying54 ti3 rfl rfl (by decide) rfl rfl) rfl <| O (r_load (v := Value.int .i64 e40.To) ti3 rfl (hs.cell (i := 0) (o := 1) rfl (by simp [e40.Set.2]))) rfl <| OW_lit (τ := (tInt .i64)) [Value.int .i64 e40.To] [e40.To] Try.underlying23 ti3 (by decide) hs rfl rfl rfl ⟨rfl, trivial⟩ rfl ?_
       intro v84 wv80 xs67 hrelxs67 hs
       obtain ⟨y24, hy24, hM⟩ := bindS hM
       refine OW_append Try.underlying23 ti3 rfl (by decide) (by decide) hs (i := 2) rfl hrelxs54 (v := v63) rfl (u := v84) rfl (hs.rowSrc (i := 0) rfl) hrelxs67 hy24 rfl ?_
       intro v85 wv81 xs68 hrelxs68 hs
       refine O (r_assign (v := v85) rfl) rfl <| OW_nil ?_
       obtain rfl := Option.some.inj hM
       exact ⟨gg49, v85, xs68, v62, xs53, rfl, rfl, rfl, rfl, rfl, hds, hagg35, hrelxs68, hrelxs53, (hs.sub (.cons _ (.cons _ (.cons_cons _ (.cons_cons _ (.cons_cons _ .slnil))))))⟩
      ·refine WP_false rfl hc24 <| WP_skip ?_
       obtain rfl := Option.some.inj hM
       exact ⟨gg49, v63, xs54, v62, xs53, rfl, rfl, rfl, rfl, rfl, hds, hagg35, hrelxs54, hrelxs53, (hs.sub (.cons _ (.cons_cons _ (.cons_cons _ (.cons_cons _ .slnil)))))⟩
    ·clear hs
     rintro E w ⟨gg47, v81, xs66, v80, xs65, hE2, hE3, hE7, hE10, hE11, hds, hlegg47, hrelxs66, hrelxs65, hs⟩
     have hM := hKhx19
     obtain ⟨E, rfl⟩ := open5 (E := E) hE2 hE3 hE7 hE10 hE11
     replace hlegg35 := hlegg35.trans hlegg47
     refine WP_region <| O (r_move (v := Value.int .i64 xv17) rfl) rfl ?_
     obtain ⟨t12, ht12, hM⟩ := bindS hM
     refine O (r_addM rfl rfl ht12) rfl <| O (r_assign (v := Value.int .i64 t12) rfl) rfl <| OW_nil ?_
     obtain rfl := Option.some.inj hM
     exact ⟨gg47, v81, xs66, v80, xs65, rfl, rfl, rfl, rfl, rfl, hds, hlegg35, hrelxs66, hrelxs65, hs⟩
   ·refine WP_false rfl hc22 <| WP_exit ?_
    obtain rfl := Option.some.inj hM
    refine fun hr => ?_
    have hM := congrArg some hr
    obtain rfl := Option.some.inj hM
    exact ⟨gg35, v63, xs54, rfl, rfl, hds, hlegg35, hrelxs54, (hs.sub (.cons_cons _ (.cons _ (.cons_cons _ .slnil))))⟩
  ·clear hs
   rintro E w ⟨gg26, v49, xs42, hE3, hE10, hds, hlegg26, hrelxs42, hs⟩
   have hM := hKhx11
   obtain ⟨E, rfl⟩ := open2 (E := E) hE3 hE10
   replace hRv2 := hRv2.mono hlegg26
   replace hRv3 := hRv3.mono hlegg26
   refine WP_seq <| WP_region <| O (r_loadN (cs := [Value.int .i64 p1.States, Value.int .i64 p1.Start, v2, v3]) ti25 rfl rfl (hs.cells (i := 1) rfl)) rfl <| O (r_move (v := v49) rfl) rfl ?_
   have hsL1 := hs
   obtain ⟨gg51, hlegg51, hRgg51, hs⟩ := hs.relRow (i := 0) rfl hrelxs42
   replace hRv2 := hRv2.mono hlegg51
   replace hRv3 := hRv3.mono hlegg51
   obtain ⟨rv38, hrv38, hM⟩ := bindS hM
   refine C [Value.agg (List.toArray (α := Value) [Value.int .i64 p1.States, Value.int .i64 p1.Start, v2, v3]), v49] cf17 rfl (ref09_Closure_ok hrv38 hs.imm (⟨[Value.int .i64 p1.States], [Value.int .i64 p1.Start], [v2], [v3], rfl, rfl, rfl, ⟨_, rfl, hRv2⟩, ⟨_, rfl, hRv3⟩⟩) hRgg51) rfl ?_
   rintro v86 wv82 ⟨gg52, xs69, hvv86, hegg52⟩
   obtain ⟨gg53, hlegg53, hs⟩ := hsL1.lentOwn hegg52
   simp only [List.cons_append, List.nil_append] at hs
   have hvv86 : RowRel (tInt .i64) gg53 xs69 rv38 := RowRel.flat (fun _ _ _ _ h => h) hvv86
   refine O (r_assign (v := v86) rfl) rfl <| OW_nil <| WP_ret ?_
   obtain rfl := Option.some.inj hM
   refine FL_nil hds ?_
   exact ⟨_, res1 Try.results19 (rv_tmp (v := v86) rfl), gg53, xs69, hvv86, (hs.sub (.cons_cons _ (.cons _ (.cons _ .slnil))))⟩


end Go.Proofs.Ytajmekjcnbmaaaa
