/- Part 6 of what the law leans on: my own layer, printed walks, plain facts. -/
import Derived.Test.YtajmekjcnbmaaaaKNfaFromRegexesMatches5
set_option linter.unusedVariables false
set_option linter.unusedSimpArgs false
namespace Go.Proofs.Ytajmekjcnbmaaaa
open Go.Lx Go.RowKit
set_option maxRecDepth 100000 in
theorem nfa_Step_ok {nv1 : T_NFA} {states1 : (List Int)} {b1 : Int} {r : (List Int)} (hM : M.nfa_Step nv1 states1 b1 = some r) {g0 : Hp} {w0 : World} (hi : Imm g0 w0) {cs1 : List Value} (hcs1 : tT_NFA.rel g0 cs1 nv1) {v1 : Value} (hRv1 : RdS (tInt .i64) g0 v1 states1) :
    CallsV Try.prog 18 #[Value.agg cs1.toArray, v1, Value.int .u8 b1] w0 (fun v w' => ∃ g' y0, (RowRel (tInt .i64) g' y0 r) ∧ Sep g0 w0 g' w' [.row v 3 (tInt .i64).sz r.length y0]) := by
 unfold M.nfa_Step at hM
 obtain ⟨cs2, cs3, cs4, cs5, rfl, hcs2, hcs3, hcs4, hcs5⟩ := hcs1
 have hcs2 : cs2 = _ := hcs2; subst hcs2
 have hcs3 : cs3 = _ := hcs3; subst hcs3
 obtain ⟨v2, rfl, hRv2⟩ := hcs4
 obtain ⟨v3, rfl, hRv3⟩ := hcs5
 have hs := Sep.start hi
 refine calls_of_WP (args := [Value.agg (List.toArray (α := Value) [Value.int .i64 nv1.States, Value.int .i64 nv1.Start, v2, v3]), v1, Value.int .u8 b1]) Try.func18 rfl Try.ntmps18 rfl ?_
 have hds : (argEnv [Value.agg (List.toArray (α := Value) [Value.int .i64 nv1.States, Value.int .i64 nv1.Start, v2, v3]), v1, Value.int .u8 b1]).ds = [] := rfl
 refine WP_seq <| WP_region <| OW_box (v := Value.agg (List.toArray (α := Value) [Value.int .i64 nv1.States, Value.int .i64 nv1.Start, v2, v3])) rfl hs (zs := [Value.int .i64 nv1.States, Value.int .i64 nv1.Start, v2, v3]) rfl rfl ?_
 intro b2 wv1 hs
 refine O (r_assign (v := Value.slice none 0 0) rfl) rfl <| OW_nil <| WP_seq <| WP_region <| O (r_fieldAddr Try.underlying25 ti3 rfl rfl (by decide) rfl rfl) rfl <| O (r_load (v := Value.int .i64 nv1.States) ti3 rfl (hs.cell (i := 0) (o := 0) rfl rfl)) rfl ?_
 obtain ⟨fromv1, hfromv1, hM⟩ := bindS hM
 refine OW_make (τ := tBool) (zc := [Value.bool false]) (zx := false) Try.underlying56 ti4 rfl rfl (by decide) hs rfl rfl hfromv1 rfl ?_
 intro v4 wv2 xs1 hrelxs1 hs
 refine O (r_assign (v := v4) rfl) rfl <| OW_nil ?_
 obtain ⟨fromv8, hx1, hKhx1⟩ := bindS hM
 refine WP_cut (fun E w => ∃ (gg2 : Hp) (v9 : Value) (xs9 : List Value), E 2 = Value.int .u8 b1 ∧ E 3 = Value.pointer (some ⟨b2, 0, none⟩) ∧ E 7 = v9 ∧ E.ds = [] ∧ Hle g0 gg2 ∧ RowRel tBool gg2 xs9 fromv8 ∧ Go.Lx.Sep g0 w0 gg2 w [.row v9 4 tBool.sz fromv8.length xs9, Go.Lx.box b2 25 ([Value.int .i64 nv1.States, Value.int .i64 nv1.Start, v2, v3])]) ?_ ?_
 ·have hM := hx1
  have hag0 := Hle.refl g0
  refine WP_seq <| WP_region <| O (r_loadN (cs := [Value.int .i64 nv1.States, Value.int .i64 nv1.Start, v2, v3]) ti25 rfl rfl (hs.cells (i := 1) rfl)) rfl <| O (r_move (v := v1) rfl) rfl ?_
  obtain ⟨rv2, hrv2, hM⟩ := bindS hM
  refine C [Value.agg (List.toArray (α := Value) [Value.int .i64 nv1.States, Value.int .i64 nv1.Start, v2, v3]), v1] cf15 rfl (nfa_Closure_ok hrv2 hs.imm (⟨[Value.int .i64 nv1.States], [Value.int .i64 nv1.Start], [v2], [v3], rfl, rfl, rfl, ⟨_, rfl, hRv2⟩, ⟨_, rfl, hRv3⟩⟩) hRv1) rfl ?_
  rintro v10 wv7 ⟨gg3, xs10, hvv10, hegg3⟩
  have hlegg3 := hegg3.ext.le hs.imm
  replace hs := hs.callOwn hegg3
  simp only [List.cons_append, List.nil_append] at hs
  replace hrelxs1 := hrelxs1.mono hlegg3
  replace hag0 := hag0.trans hlegg3
  obtain ⟨a2, ca2, hva2⟩ := hs.rowShape (i := 0) rfl
  refine O (r_lenSl (v := v10) Try.underlying23 rfl hva2) rfl <| O (r_move (v := Value.int .i64 0) rfl) rfl <| OW_nil <| WP_block <| WP_loop (fun (st9 : (List Bool) × Int) E w => match st9 with | (fromv11, xv5) => ∃ (v12 : Value) (xs13 : List Value), E 2 = Value.int .u8 b1 ∧ E 3 = Value.pointer (some ⟨b2, 0, none⟩) ∧ E 7 = v12 ∧ E 18 = v10 ∧ E 19 = Value.int .i64 (rv2.length : Int) ∧ E 20 = Value.int .i64 xv5 ∧ E.ds = [] ∧ RowRel tBool gg3 xs13 fromv11 ∧ Go.Lx.Sep g0 w0 gg3 w [.row v10 3 (tInt .i64).sz rv2.length xs10, .row v12 4 tBool.sz fromv11.length xs13, Go.Lx.box b2 25 ([Value.int .i64 nv1.States, Value.int .i64 nv1.Start, v2, v3])]) hM ⟨v4, xs1, rfl, rfl, rfl, rfl, rfl, rfl, hds, hrelxs1, hs⟩ ?_
  clear hs hM
  rintro ⟨fromv11, xv5⟩ o2 E w hM ⟨v12, xs13, hE2, hE3, hE7, hE18, hE19, hE20, hds, hrelxs13, hs⟩
  obtain ⟨E, rfl⟩ := open6 (E := E) hE2 hE3 hE7 hE18 hE19 hE20
  refine WP_seq <| WP_region <| O (r_lss rfl rfl) rfl <| OW_nil <| WP_seq ?_
  rcases condS hM with ⟨hc6, hM⟩ | ⟨hc6, hM⟩
  ·refine WP_true rfl hc6 <| WP_skip <| WP_seq <| WP_block <| WP_seq <| WP_region ?_
   obtain ⟨e6, he6, hM⟩ := bindS hM
   obtain ⟨b13, cb13, hvb13, cs11, hcs11, hcb13⟩ := hs.rowEl (i := 0) rfl hvv10 he6
   have hcs11 : cs11 = _ := hcs11; subst hcs11
   refine O (r_idxSl Try.underlying23 ti3 (v := v10) rfl hvb13 rfl (idxL_some he6).1 (idxL_some he6).2.1) rfl <| O (r_loadEl (cs := [Value.int .i64 e6]) ti3 rfl rfl (.inr rfl) (hcb13 _ (hs.at (i := 0) rfl)) (v := Value.int .i64 e6) rfl) rfl <| O (r_assign (v := Value.int .i64 e6) rfl) rfl <| OW_nil <| WP_region <| O (r_move (v := v12) rfl) rfl <| O (r_move (v := Value.int .i64 e6) rfl) rfl ?_
   obtain ⟨fromv14, hfromv14, hM⟩ := bindS hM
   obtain ⟨b14, cb14, hvb14, wv10, xs16, hstb14, hrelb14, hsb14⟩ := hs.rowPut (i := 1) rfl hrelxs13 hfromv14 (cs := [Value.bool true]) rfl
   refine O (r_idxSl Try.underlying56 ti4 (v := v12) rfl hvb14 rfl (setL_some hfromv14).1 (setL_some hfromv14).2.1) rfl <| O0 (r_store ti4 rfl (v := Value.bool true) rfl rfl hstb14) ?_
   have hs := hsb14
   refine OW_nil <| WP_region ?_
   obtain ⟨t6, ht6, hM⟩ := bindS hM
   refine O (r_addM rfl rfl ht6) rfl <| O (r_move (v := Value.int .i64 t6) rfl) rfl <| OW_nil ?_
   obtain rfl := Option.some.inj hM
   exact ⟨v12, xs16, rfl, rfl, rfl, rfl, rfl, rfl, hds, hrelb14, hs⟩
  ·refine WP_false rfl hc6 <| WP_exit ?_
   obtain rfl := Option.some.inj hM
   refine fun hr => ?_
   have hM := congrArg some hr
   obtain rfl := Option.some.inj hM
   exact ⟨gg3, v12, xs13, rfl, rfl, rfl, hds, hag0, hrelxs13, (hs.sub (.cons _ (.cons_cons _ (.cons_cons _ .slnil))))⟩
 ·clear hs
  rintro E w ⟨gg2, v9, xs9, hE2, hE3, hE7, hds, hlegg2, hrelxs9, hs⟩
  have hM := hKhx1
  obtain ⟨E, rfl⟩ := open3 (E := E) hE2 hE3 hE7
  replace hRv2 := hRv2.mono hlegg2
  replace hRv3 := hRv3.mono hlegg2
  refine WP_seq <| WP_region <| O (r_assign (v := Value.slice none 0 0) rfl) rfl <| OW_nil ?_
  obtain ⟨xv13, hx11, hKhx11⟩ := bindS hM
  refine WP_cut (fun E w => ∃ (gg28 : Hp) (v50 : Value) (xs43 : List Value), E 3 = Value.pointer (some ⟨b2, 0, none⟩) ∧ E 10 = v50 ∧ E.ds = [] ∧ Hle gg2 gg28 ∧ RowRel (tInt .i64) gg28 xs43 xv13 ∧ Go.Lx.Sep g0 w0 gg28 w [.row v50 3 (tInt .i64).sz xv13.length xs43, Go.Lx.box b2 25 ([Value.int .i64 nv1.States, Value.int .i64 nv1.Start, v2, v3])]) ?_ ?_
  ·have hM := hx11
   have hagg2 := Hle.refl gg2
   refine WP_seq <| WP_region <| O (r_fieldAddr Try.underlying25 ti22 rfl rfl (by decide) rfl rfl) rfl <| O (r_load (v := v2) ti22 rfl (hs.cell (i := 1) (o := 2) rfl rfl)) rfl ?_
   obtain ⟨a4, ca4, hva4⟩ := hRv2.shape
   refine O (r_lenSl (v := v2) Try.underlying22 rfl hva4) rfl <| O (r_move (v := Value.int .i64 0) rfl) rfl <| OW_nil <| WP_block ?_
   have hs := hs.nilRow 3 (tInt .i64).sz
   refine WP_loop (fun (st9 : (List Int) × Int) E w => match st9 with | (xv16, xv17) => ∃ (gg37 : Hp) (v64 : Value) (xs55 : List Value) (v63 : Value) (xs54 : List Value), E 2 = Value.int .u8 b1 ∧ E 3 = Value.pointer (some ⟨b2, 0, none⟩) ∧ E 7 = v63 ∧ E 10 = v64 ∧ E 29 = v2 ∧ E 30 = Value.int .i64 (nv1.Arcs.length : Int) ∧ E 31 = Value.int .i64 xv17 ∧ E.ds = [] ∧ Hle gg2 gg37 ∧ RowRel (tInt .i64) gg37 xs55 xv16 ∧ RowRel tBool gg37 xs54 fromv8 ∧ Go.Lx.Sep g0 w0 gg37 w [.row v64 3 (tInt .i64).sz xv16.length xs55, .row v63 4 tBool.sz fromv8.length xs54, Go.Lx.box b2 25 ([Value.int .i64 nv1.States, Value.int .i64 nv1.Start, v2, v3])]) hM ⟨gg2, (Value.slice none 0 0), [], v9, xs9, rfl, rfl, rfl, rfl, rfl, rfl, rfl, hds, (Hle.refl _), RowRel.nil, hrelxs9, hs⟩ ?_
   clear hs hM
   rintro ⟨xv16, xv17⟩ o4 E w hM ⟨gg37, v64, xs55, v63, xs54, hE2, hE3, hE7, hE10, hE29, hE30, hE31, hds, hlegg37, hrelxs55, hrelxs54, hs⟩
   obtain ⟨E, rfl⟩ := open7 (E := E) hE2 hE3 hE7 hE10 hE29 hE30 hE31
   replace hRv2 := hRv2.mono hlegg37
   have hagg37 := Hle.refl gg37
   refine WP_seq <| WP_region <| O (r_lss rfl rfl) rfl <| OW_nil <| WP_seq ?_
   rcases condS hM with ⟨hc22, hM⟩ | ⟨hc22, hM⟩
   ·refine WP_true rfl hc22 <| WP_skip ?_
    obtain ⟨tov11, hx19, hKhx19⟩ := bindS hM
    refine WP_cut (fun E w => ∃ (gg49 : Hp) (v82 : Value) (xs67 : List Value) (v81 : Value) (xs66 : List Value), E 2 = Value.int .u8 b1 ∧ E 3 = Value.pointer (some ⟨b2, 0, none⟩) ∧ E 7 = v81 ∧ E 10 = v82 ∧ E 29 = v2 ∧ E 30 = Value.int .i64 (nv1.Arcs.length : Int) ∧ E 31 = Value.int .i64 xv17 ∧ E.ds = [] ∧ Hle gg37 gg49 ∧ RowRel (tInt .i64) gg49 xs67 tov11 ∧ RowRel tBool gg49 xs66 fromv8 ∧ Go.Lx.Sep g0 w0 gg49 w [.row v82 3 (tInt .i64).sz tov11.length xs67, .row v81 4 tBool.sz fromv8.length xs66, Go.Lx.box b2 25 ([Value.int .i64 nv1.States, Value.int .i64 nv1.Start, v2, v3])]) ?_ ?_
    ·have hM := hx19
     refine WP_block <| WP_seq <| WP_region ?_
     obtain ⟨e40, he40, hM⟩ := bindS hM
     obtain ⟨b59, ob59, cb59, hvb59, cs111, hcs111, hcb59⟩ := hRv2.at he40
     obtain ⟨cs112, cs113, cs114, cs115, rfl, hcs112, hcs113, hcs114, hcs115⟩ := hcs111
     have hcs112 : cs112 = _ := hcs112; subst hcs112
     have hcs113 : cs113 = _ := hcs113; subst hcs113
     have hcs114 : cs114 = _ := hcs114; subst hcs114
     have hcs115 : cs115 = _ := hcs115; subst hcs115
     refine O (r_idxSl Try.underlying22 ti54 (v := v2) rfl hvb59 rfl (idxL_some he40).1 (idxL_some he40).2.1) rfl <| O (r_loadEl (cs := ([Value.int .i64 e40.From]) ++ (([Value.int .i64 e40.To]) ++ (([Value.bool e40.Epsilon]) ++ (e40.Set.1.map (Value.int .u64))))) ti54 rfl (by simp [e40.Set.2]) (.inl rfl) (hcb59 _ hs.imm) (v := Value.agg (List.toArray (α := Value) (([Value.int .i64 e40.From]) ++ (([Value.int .i64 e40.To]) ++ (([Value.bool e40.Epsilon]) ++ (e40.Set.1.map (Value.int .u64))))))) rfl) rfl <| OW_alloc ti54 hs (zs := ([Value.int .i64 0]) ++ (([Value.int .i64 0]) ++ (([Value.bool false]) ++ ((Vec.zero 4).1.map (Value.int .u64))))) rfl rfl ?_
     intro b60 wv77 hs
     refine OW_storeAll ti54 hs (i := 0) rfl rfl (v := Value.agg (List.toArray (α := Value) (([Value.int .i64 e40.From]) ++ (([Value.int .i64 e40.To]) ++ (([Value.bool e40.Epsilon]) ++ (e40.Set.1.map (Value.int .u64))))))) rfl (vs := ([Value.int .i64 e40.From]) ++ (([Value.int .i64 e40.To]) ++ (([Value.bool e40.Epsilon]) ++ (e40.Set.1.map (Value.int .u64))))) rfl (one_append (one_cons rfl one_nil) (one_append (one_cons rfl one_nil) (one_append (one_cons rfl one_nil) vec_one))) (by simp [e40.Set.2]) (by simp [e40.Set.2, (Vec.zero 4).2]) ?_
     intro wv78 hs
     refine OW_nil ?_
     obtain ⟨rv37, hx20, hKhx20⟩ := bindS hM
     refine WP_cut (fun E w => ∃ (gg51 : Hp), E 2 = Value.int .u8 b1 ∧ E 3 = Value.pointer (some ⟨b2, 0, none⟩) ∧ E 7 = v63 ∧ E 10 = v64 ∧ E 12 = Value.pointer (some ⟨b60, 0, none⟩) ∧ E 29 = v2 ∧ E 30 = Value.int .i64 (nv1.Arcs.length : Int) ∧ E 31 = Value.int .i64 xv17 ∧ E 50 = Value.bool rv37 ∧ E.ds = [] ∧ Hle gg37 gg51 ∧ Go.Lx.Sep g0 w0 gg51 w [Go.Lx.box b60 54 (([Value.int .i64 e40.From]) ++ (([Value.int .i64 e40.To]) ++ (([Value.bool e40.Epsilon]) ++ (e40.Set.1.map (Value.int .u64))))), .row v64 3 (tInt .i64).sz xv16.length xs55, .row v63 4 tBool.sz fromv8.length xs54, Go.Lx.box b2 25 ([Value.int .i64 nv1.States, Value.int .i64 nv1.Start, v2, v3])]) ?_ ?_
     ·have hM := hx20
      refine WP_region <| O (r_fieldAddr Try.underlying54 ti4 rfl rfl (by decide) rfl rfl) rfl <| O (r_load (v := Value.bool e40.Epsilon) ti4 rfl (hs.cell (i := 0) (o := 2) rfl (by simp [e40.Set.2]))) rfl <| O (r_not rfl) rfl <| O (r_move (v := Value.bool (!e40.Epsilon)) rfl) rfl ?_
      rcases condS hM with ⟨hg47, hM⟩ | ⟨hg47, hM⟩
      ·refine OG rfl rfl rfl (by rw [hg47]; rfl) (r_move (v := v63) rfl) rfl <| OG rfl rfl rfl (by rw [hg47]; rfl) (r_fieldAddr Try.underlying54 ti3 rfl rfl (by decide) rfl rfl) rfl <| OG rfl rfl rfl (by rw [hg47]; rfl) (r_load (v := Value.int .i64 e40.From) ti3 rfl (hs.cell (i := 0) (o := 0) rfl (by simp [e40.Set.2]))) rfl ?_
       obtain ⟨e42, he42, hM⟩ := bindS hM
       obtain ⟨b62, cb62, hvb62, cs118, hcs118, hcb62⟩ := hs.rowEl (i := 2) rfl hrelxs54 he42
       have hcs118 : cs118 = _ := hcs118; subst hcs118
       refine OG rfl rfl rfl (by rw [hg47]; rfl) (r_idxSl Try.underlying56 ti4 (v := v63) rfl hvb62 rfl (idxL_some he42).1 (idxL_some he42).2.1) rfl <| OG rfl rfl rfl (by rw [hg47]; rfl) (r_loadEl (cs := [Value.bool e42]) ti4 rfl rfl (.inr rfl) (hcb62 _ (hs.at (i := 2) rfl)) (v := Value.bool e42) rfl) rfl <| O (r_pickT (v := Value.bool e42) rfl hg47 rfl) rfl <| O (r_move (v := Value.bool e42) rfl) rfl ?_
       rcases condS hM with ⟨hg48, hM⟩ | ⟨hg48, hM⟩
       ·refine OG rfl rfl rfl (by rw [hg48]; rfl) (r_fieldAddr Try.underlying54 ti48 rfl rfl (by decide) rfl rfl) rfl <| OG rfl rfl rfl (by rw [hg48]; rfl) (r_loadN (cs := e40.Set.1.map (Value.int .u64)) ti48 rfl (by simp [e40.Set.2]) (hs.cellsAt (i := 0) (o := 3) rfl (by intro j u hj; exact sub_at (pre := [Value.int .i64 e40.From, Value.int .i64 e40.To, Value.bool e40.Epsilon]) (ds := e40.Set.1.map (Value.int .u64)) (post := []) rfl ((by simp)) hj))) rfl <| OG rfl rfl rfl (by rw [hg48]; rfl) (r_move (v := Value.int .u8 b1) rfl) rfl ?_
        obtain ⟨rv38, hrv38, hM⟩ := bindS hM
        refine CG rfl rfl rfl (by rw [hg48]; rfl) [encV .u64 e40.Set, Value.int .u8 b1] cf36 rfl (byteset_Has_ok hrv38 hs.imm) rfl ?_
        rintro v84 wv80 ⟨gg52, hvv84, hegg52⟩
        have hlegg52 := hegg52.le hs.imm
        replace hs := hs.call hegg52
        replace hagg37 := hagg37.trans hlegg52
        obtain ⟨cs119, rfl, hcs119⟩ := hvv84
        have hcs119 : cs119 = _ := hcs119; subst hcs119
        refine O (r_pickT (v := Value.bool rv38) rfl hg48 rfl) rfl <| OW_nil ?_
        obtain rfl := Option.some.inj hM
        exact ⟨gg52, rfl, rfl, rfl, rfl, rfl, rfl, rfl, rfl, rfl, hds, hagg37, hs⟩
       ·refine OK rfl rfl rfl (by rw [hg48]; rfl) rfl <| OK rfl rfl rfl (by rw [hg48]; rfl) rfl <| OK rfl rfl rfl (by rw [hg48]; rfl) rfl <| OK rfl rfl rfl (by rw [hg48]; rfl) rfl <| O (r_pickF (v := Value.bool false) rfl hg48 rfl) rfl <| OW_nil ?_
        obtain rfl := Option.some.inj hM
        exact ⟨gg37, rfl, rfl, rfl, rfl, rfl, rfl, rfl, rfl, rfl, hds, (Hle.refl _), hs⟩
      ·refine OK rfl rfl rfl (by rw [hg47]; rfl) rfl <| OK rfl rfl rfl (by rw [hg47]; rfl) rfl <| OK rfl rfl rfl (by rw [hg47]; rfl) rfl <| OK rfl rfl rfl (by rw [hg47]; rfl) rfl <| OK rfl rfl rfl (by rw [hg47]; rfl) rfl <| O (r_pickF (v := Value.bool false) rfl hg47 rfl) rfl <| O (r_move (v := Value.bool false) rfl) rfl <| OK rfl rfl rfl rfl rfl <| OK rfl rfl rfl rfl rfl <| OK rfl rfl rfl rfl rfl <| OK rfl rfl rfl rfl rfl <| O (r_pickF (v := Value.bool false) rfl rfl rfl) rfl <| OW_nil ?_
       obtain rfl := Option.some.inj hM
       exact ⟨gg37, rfl, rfl, rfl, rfl, rfl, rfl, rfl, rfl, rfl, hds, (Hle.refl _), hs⟩
     ·clear hs
      rintro E w ⟨gg51, hE2, hE3, hE7, hE10, hE12, hE29, hE30, hE31, hE50, hds, hlegg51, hs⟩
      have hM := hKhx20
      obtain ⟨E, rfl⟩ := open8 (E := E) hE2 hE3 hE7 hE10 hE12 hE29 hE30 hE31
      obtain ⟨E, rfl⟩ := open1 (E := E) hE50
      replace hrelxs55 := hrelxs55.mono hlegg51
      replace hrelxs54 := hrelxs54.mono hlegg51
      replace hagg37 := hagg37.trans hlegg51
      rcases condS hM with ⟨hc24, hM⟩ | ⟨hc24, hM⟩
      ·refine WP_true rfl hc24 <| WP_region <| O (r_move (v := v64) rfl) rfl <| O (r_fieldAddr Try.underlying54 ti3 rfl rfl (by decide) rfl rfl) rfl <| O (r_load (v := Value.int .i64 e40.To) ti3 rfl (hs.cell (i := 0) (o := 1) rfl (by simp [e40.Set.2]))) rfl <| OW_lit (τ := (tInt .i64)) [Value.int .i64 e40.To] [e40.To] Try.underlying23 ti3 (by decide) hs rfl rfl rfl ⟨rfl, trivial⟩ rfl ?_
       intro v85 wv81 xs68 hrelxs68 hs
       obtain ⟨tov12, htov12, hM⟩ := bindS hM
       refine OW_append Try.underlying23 ti3 rfl (by decide) (by decide) hs (i := 2) rfl hrelxs55 (v := v64) rfl (u := v85) rfl (hs.rowSrc (i := 0) rfl) hrelxs68 htov12 rfl ?_
       intro v86 wv82 xs69 hrelxs69 hs
       refine O (r_assign (v := v86) rfl) rfl <| OW_nil ?_
       obtain rfl := Option.some.inj hM
       exact ⟨gg51, v86, xs69, v63, xs54, rfl, rfl, rfl, rfl, rfl, rfl, rfl, hds, hagg37, hrelxs69, hrelxs54, (hs.sub (.cons _ (.cons _ (.cons_cons _ (.cons_cons _ (.cons_cons _ .slnil))))))⟩
      ·refine WP_false rfl hc24 <| WP_skip ?_
       obtain rfl := Option.some.inj hM
       exact ⟨gg51, v64, xs55, v63, xs54, rfl, rfl, rfl, rfl, rfl, rfl, rfl, hds, hagg37, hrelxs55, hrelxs54, (hs.sub (.cons _ (.cons_cons _ (.cons_cons _ (.cons_cons _ .slnil)))))⟩
    ·clear hs
     rintro E w ⟨gg49, v82, xs67, v81, xs66, hE2, hE3, hE7, hE10, hE29, hE30, hE31, hds, hlegg49, hrelxs67, hrelxs66, hs⟩
     have hM := hKhx19
     obtain ⟨E, rfl⟩ := open7 (E := E) hE2 hE3 hE7 hE10 hE29 hE30 hE31
     replace hlegg37 := hlegg37.trans hlegg49
     refine WP_region ?_
     obtain ⟨t12, ht12, hM⟩ := bindS hM
     refine O (r_addM rfl rfl ht12) rfl <| O (r_move (v := Value.int .i64 t12) rfl) rfl <| OW_nil ?_
     obtain rfl := Option.some.inj hM
     exact ⟨gg49, v82, xs67, v81, xs66, rfl, rfl, rfl, rfl, rfl, rfl, rfl, hds, hlegg37, hrelxs67, hrelxs66, hs⟩
   ·refine WP_false rfl hc22 <| WP_exit ?_
    obtain rfl := Option.some.inj hM
    refine fun hr => ?_
    have hM := congrArg some hr
    obtain rfl := Option.some.inj hM
    exact ⟨gg37, v64, xs55, rfl, rfl, hds, hlegg37, hrelxs55, (hs.sub (.cons_cons _ (.cons _ (.cons_cons _ .slnil))))⟩
  ·clear hs
   rintro E w ⟨gg28, v50, xs43, hE3, hE10, hds, hlegg28, hrelxs43, hs⟩
   have hM := hKhx11
   obtain ⟨E, rfl⟩ := open2 (E := E) hE3 hE10
   replace hRv2 := hRv2.mono hlegg28
   replace hRv3 := hRv3.mono hlegg28
   refine WP_seq <| WP_region <| O (r_loadN (cs := [Value.int .i64 nv1.States, Value.int .i64 nv1.Start, v2, v3]) ti25 rfl rfl (hs.cells (i := 1) rfl)) rfl <| O (r_move (v := v50) rfl) rfl ?_
   have hsL1 := hs
   obtain ⟨gg53, hlegg53, hRgg53, hs⟩ := hs.relRow (i := 0) rfl hrelxs43
   replace hRv2 := hRv2.mono hlegg53
   replace hRv3 := hRv3.mono hlegg53
   obtain ⟨rv39, hrv39, hM⟩ := bindS hM
   refine C [Value.agg (List.toArray (α := Value) [Value.int .i64 nv1.States, Value.int .i64 nv1.Start, v2, v3]), v50] cf15 rfl (nfa_Closure_ok hrv39 hs.imm (⟨[Value.int .i64 nv1.States], [Value.int .i64 nv1.Start], [v2], [v3], rfl, rfl, rfl, ⟨_, rfl, hRv2⟩, ⟨_, rfl, hRv3⟩⟩) hRgg53) rfl ?_
   rintro v87 wv83 ⟨gg54, xs70, hvv87, hegg54⟩
   obtain ⟨gg55, hlegg55, hs⟩ := hsL1.lentOwn hegg54
   simp only [List.cons_append, List.nil_append] at hs
   have hvv87 : RowRel (tInt .i64) gg55 xs70 rv39 := RowRel.flat (fun _ _ _ _ h => h) hvv87
   refine O (r_assign (v := v87) rfl) rfl <| OW_nil <| WP_ret ?_
   obtain rfl := Option.some.inj hM
   refine FL_nil hds ?_
   exact ⟨_, res1 Try.results18 (rv_tmp (v := v87) rfl), gg55, xs70, hvv87, (hs.sub (.cons_cons _ (.cons _ (.cons _ .slnil))))⟩
set_option maxRecDepth 100000 in
theorem nfa_Run_ok {nv1 : T_NFA} {s1 : Str} {r : Int} (hM : M.nfa_Run nv1 s1 = some r) {g0 : Hp} {w0 : World} (hi : Imm g0 w0) {cs1 : List Value} (hcs1 : tT_NFA.rel g0 cs1 nv1) :
    CallsV Try.prog 20 #[Value.agg cs1.toArray, encS s1] w0 (fun v w' => ∃ g', (VRd (tInt .i64) false g' v r) ∧ Ext g0 w0 g' w') := by
 unfold M.nfa_Run at hM
 obtain ⟨cs2, cs3, cs4, cs5, rfl, hcs2, hcs3, hcs4, hcs5⟩ := hcs1
 have hcs2 : cs2 = _ := hcs2; subst hcs2
 have hcs3 : cs3 = _ := hcs3; subst hcs3
 obtain ⟨v1, rfl, hRv1⟩ := hcs4
 obtain ⟨v2, rfl, hRv2⟩ := hcs5
 have hs := Sep.start hi
 refine calls_of_WP (args := [Value.agg (List.toArray (α := Value) [Value.int .i64 nv1.States, Value.int .i64 nv1.Start, v1, v2]), encS s1]) Try.func20 rfl Try.ntmps20 rfl ?_
 have hds : (argEnv [Value.agg (List.toArray (α := Value) [Value.int .i64 nv1.States, Value.int .i64 nv1.Start, v1, v2]), encS s1]).ds = [] := rfl
 refine WP_seq <| WP_region <| OW_box (v := Value.agg (List.toArray (α := Value) [Value.int .i64 nv1.States, Value.int .i64 nv1.Start, v1, v2])) rfl hs (zs := [Value.int .i64 nv1.States, Value.int .i64 nv1.Start, v1, v2]) rfl rfl ?_
 intro b1 wv1 hs
 refine O (r_assign (v := Value.int .i64 0) rfl) rfl <| OW_nil <| WP_seq <| WP_region <| O (r_loadN (cs := [Value.int .i64 nv1.States, Value.int .i64 nv1.Start, v1, v2]) ti25 rfl rfl (hs.cells (i := 0) rfl)) rfl <| O (r_fieldAddr Try.underlying25 ti3 rfl rfl (by decide) rfl rfl) rfl <| O (r_load (v := Value.int .i64 nv1.Start) ti3 rfl (hs.cell (i := 0) (o := 1) rfl rfl)) rfl <| OW_lit (τ := (tInt .i64)) [Value.int .i64 nv1.Start] [nv1.Start] Try.underlying23 ti3 (by decide) hs rfl rfl rfl ⟨rfl, trivial⟩ rfl ?_
 intro v3 wv2 xs1 hrelxs1 hs
 have hsL1 := hs
 have hRv1L1 := hRv1
 have hRv2L1 := hRv2
 obtain ⟨gg1, hlegg1, hRgg1, hs⟩ := hs.relRow (i := 0) rfl hrelxs1
 replace hRv1 := hRv1.mono hlegg1
 replace hRv2 := hRv2.mono hlegg1
 obtain ⟨states1, hstates1, hM⟩ := bindS hM
 refine C [Value.agg (List.toArray (α := Value) [Value.int .i64 nv1.States, Value.int .i64 nv1.Start, v1, v2]), v3] cf15 rfl (nfa_Closure_ok hstates1 hs.imm (⟨[Value.int .i64 nv1.States], [Value.int .i64 nv1.Start], [v1], [v2], rfl, rfl, rfl, ⟨_, rfl, hRv1⟩, ⟨_, rfl, hRv2⟩⟩) hRgg1) rfl ?_
 rintro v4 wv3 ⟨gg2, xs2, hvv4, hegg2⟩
 obtain ⟨gg3, hlegg3, hs⟩ := hsL1.lentOwn hegg2
 simp only [List.cons_append, List.nil_append] at hs
 have hvv4 : RowRel (tInt .i64) gg3 xs2 states1 := RowRel.flat (fun _ _ _ _ h => h) hvv4
 replace hRv1 := hRv1L1.mono hlegg3
 replace hRv2 := hRv2L1.mono hlegg3
 refine O (r_assign (v := v4) rfl) rfl <| OW_nil ?_
 obtain ⟨states8, hx1, hKhx1⟩ := bindS hM
 refine WP_cut (fun E w => ∃ (gg17 : Hp) (v12 : Value) (xs9 : List Value), E 2 = Value.pointer (some ⟨b1, 0, none⟩) ∧ E 5 = v12 ∧ E.ds = [] ∧ Hle gg3 gg17 ∧ RowRel (tInt .i64) gg17 xs9 states8 ∧ Go.Lx.Sep g0 w0 gg17 w [.row v12 3 (tInt .i64).sz states8.length xs9, Go.Lx.box b1 25 ([Value.int .i64 nv1.States, Value.int .i64 nv1.Start, v1, v2])]) ?_ ?_
 ·have hM := hx1
  have hagg3 := Hle.refl gg3
  refine WP_seq <| WP_region <| O (r_move (v := encS s1) rfl) rfl <| OW_bytes (s := s1) Try.underlying9 Try.underlying60 Try.underlying5 hs rfl rfl ?_
  intro v13 wv8 gg18 hlegg18 hRv13 hs
  replace hRv1 := hRv1.mono hlegg18
  replace hRv2 := hRv2.mono hlegg18
  replace hvv4 := hvv4.mono hlegg18
  replace hagg3 := hagg3.trans hlegg18
  obtain ⟨a2, ca2, hva2⟩ := hRv13.shape
  refine O (r_lenSl (v := v13) Try.underlying60 rfl hva2) rfl <| O (r_move (v := Value.int .i64 0) rfl) rfl <| OW_nil <| WP_block ?_
  have hagg18 := Hle.refl gg18
  refine WP_loop (fun (st9 : (List Int) × Int) E w => match st9 with | (states11, xv5) => ∃ (gg23 : Hp) (v16 : Value) (xs12 : List Value), E 2 = Value.pointer (some ⟨b1, 0, none⟩) ∧ E 5 = v16 ∧ E 18 = v13 ∧ E 19 = Value.int .i64 ((bytesL s1).length : Int) ∧ E 20 = Value.int .i64 xv5 ∧ E.ds = [] ∧ Hle gg18 gg23 ∧ RowRel (tInt .i64) gg23 xs12 states11 ∧ Go.Lx.Sep g0 w0 gg23 w [.row v16 3 (tInt .i64).sz states11.length xs12, Go.Lx.box b1 25 ([Value.int .i64 nv1.States, Value.int .i64 nv1.Start, v1, v2])]) hM ⟨gg18, v4, xs2, rfl, rfl, rfl, rfl, rfl, hds, (Hle.refl _), hvv4, (hs.sub (.cons_cons _ (.cons _ (.cons_cons _ .slnil))))⟩ ?_
  clear hs hM
  rintro ⟨states11, xv5⟩ o2 E w hM ⟨gg23, v16, xs12, hE2, hE5, hE18, hE19, hE20, hds, hlegg23, hrelxs12, hs⟩
  obtain ⟨E, rfl⟩ := open5 (E := E) hE2 hE5 hE18 hE19 hE20
  replace hRv1 := hRv1.mono hlegg23
  replace hRv2 := hRv2.mono hlegg23
  replace hRv13 := hRv13.mono hlegg23
  replace hagg3 := hagg3.trans hlegg23
  have hagg23 := Hle.refl gg23
  refine WP_seq <| WP_region <| O (r_lss rfl rfl) rfl <| OW_nil <| WP_seq ?_
  rcases condS hM with ⟨hc6, hM⟩ | ⟨hc6, hM⟩
  ·refine WP_true rfl hc6 <| WP_skip <| WP_seq <| WP_block <| WP_seq <| WP_region ?_
   obtain ⟨e6, he6, hM⟩ := bindS hM
   obtain ⟨b7, ob7, cb7, hvb7, cs11, hcs11, hcb7⟩ := hRv13.at he6
   have hcs11 : cs11 = _ := hcs11; subst hcs11
   refine O (r_idxSl Try.underlying60 ti5 (v := v13) rfl hvb7 rfl (idxL_some he6).1 (idxL_some he6).2.1) rfl <| O (r_loadEl (cs := [Value.int .u8 e6]) ti5 rfl rfl (.inr rfl) (hcb7 _ hs.imm) (v := Value.int .u8 e6) rfl) rfl <| O (r_assign (v := Value.int .u8 e6) rfl) rfl <| OW_nil <| WP_region <| O (r_loadN (cs := [Value.int .i64 nv1.States, Value.int .i64 nv1.Start, v1, v2]) ti25 rfl rfl (hs.cells (i := 1) rfl)) rfl <| O (r_move (v := v16) rfl) rfl <| O (r_move (v := Value.int .u8 e6) rfl) rfl ?_
   have hsL7 := hs
   have hlegg23L7 := hlegg23
   obtain ⟨gg28, hlegg28, hRgg28, hs⟩ := hs.relRow (i := 0) rfl hrelxs12
   replace hRv1 := hRv1.mono hlegg28
   replace hRv2 := hRv2.mono hlegg28
   replace hlegg23 := hlegg23.trans hlegg28
   obtain ⟨states14, hstates14, hM⟩ := bindS hM
   refine C [Value.agg (List.toArray (α := Value) [Value.int .i64 nv1.States, Value.int .i64 nv1.Start, v1, v2]), v16, Value.int .u8 e6] cf18 rfl (nfa_Step_ok hstates14 hs.imm (⟨[Value.int .i64 nv1.States], [Value.int .i64 nv1.Start], [v1], [v2], rfl, rfl, rfl, ⟨_, rfl, hRv1⟩, ⟨_, rfl, hRv2⟩⟩) hRgg28) rfl ?_
   rintro v19 wv11 ⟨gg29, xs15, hvv19, hegg29⟩
   obtain ⟨gg30, hlegg30, hs⟩ := hsL7.lentOwn hegg29
   simp only [List.cons_append, List.nil_append] at hs
   have hvv19 : RowRel (tInt .i64) gg30 xs15 states14 := RowRel.flat (fun _ _ _ _ h => h) hvv19
   replace hlegg23 := hlegg23L7.trans hlegg30
   refine O (r_assign (v := v19) rfl) rfl <| OW_nil <| WP_region ?_
   obtain ⟨t6, ht6, hM⟩ := bindS hM
   refine O (r_addM rfl rfl ht6) rfl <| O (r_move (v := Value.int .i64 t6) rfl) rfl <| OW_nil ?_
   obtain rfl := Option.some.inj hM
   exact ⟨gg30, v19, xs15, rfl, rfl, rfl, rfl, rfl, hds, hlegg23, hvv19, (hs.sub (.cons_cons _ (.cons _ (.cons_cons _ .slnil))))⟩
  ·refine WP_false rfl hc6 <| WP_exit ?_
   obtain rfl := Option.some.inj hM
   refine fun hr => ?_
   have hM := congrArg some hr
   obtain rfl := Option.some.inj hM
   exact ⟨gg23, v16, xs12, rfl, rfl, hds, hagg3, hrelxs12, hs⟩
 ·clear hs
  rintro E w ⟨gg17, v12, xs9, hE2, hE5, hds, hlegg17, hrelxs9, hs⟩
  have hM := hKhx1
  obtain ⟨E, rfl⟩ := open2 (E := E) hE2 hE5
  replace hRv2 := hRv2.mono hlegg17
  refine WP_seq <| WP_region <| O (r_assign (v := Value.int .i64 (-1)) rfl) rfl <| OW_nil ?_
  obtain ⟨best7, hx11, hKhx11⟩ := bindS hM
  refine WP_cut (fun E w => E 8 = Value.int .i64 best7 ∧ E.ds = [] ∧ Go.Lx.Sep g0 w0 gg17 w []) ?_ ?_
  ·have hM := hx11
   have hagg17 := Hle.refl gg17
   refine WP_seq <| WP_region <| O (r_move (v := v12) rfl) rfl ?_
   obtain ⟨a4, ca4, hva4⟩ := hs.rowShape (i := 0) rfl
   refine O (r_lenSl (v := v12) Try.underlying23 rfl hva4) rfl <| O (r_move (v := Value.int .i64 0) rfl) rfl <| OW_nil <| WP_block <| WP_loop (fun (st9 : Int × Int) E w => match st9 with | (best10, xv19) => ∃ (v28 : Value) (xs24 : List Value), E 2 = Value.pointer (some ⟨b1, 0, none⟩) ∧ E 8 = Value.int .i64 best10 ∧ E 29 = v28 ∧ E 30 = Value.int .i64 (states8.length : Int) ∧ E 31 = Value.int .i64 xv19 ∧ E.ds = [] ∧ RowRel (tInt .i64) gg17 xs24 states8 ∧ Go.Lx.Sep g0 w0 gg17 w [.row v28 3 (tInt .i64).sz states8.length xs24, Go.Lx.box b1 25 ([Value.int .i64 nv1.States, Value.int .i64 nv1.Start, v1, v2])]) hM ⟨v12, xs9, rfl, rfl, rfl, rfl, rfl, hds, hrelxs9, hs⟩ ?_
   clear hs hM
   rintro ⟨best10, xv19⟩ o4 E w hM ⟨v28, xs24, hE2, hE8, hE29, hE30, hE31, hds, hrelxs24, hs⟩
   obtain ⟨E, rfl⟩ := open5 (E := E) hE2 hE8 hE29 hE30 hE31
   refine WP_seq <| WP_region <| O (r_lss rfl rfl) rfl <| OW_nil <| WP_seq ?_
   rcases condS hM with ⟨hc22, hM⟩ | ⟨hc22, hM⟩
   ·refine WP_true rfl hc22 <| WP_skip ?_
    obtain ⟨best13, hx19, hKhx19⟩ := bindS hM
    refine WP_cut (fun E w => ∃ (v31 : Value) (xs27 : List Value), E 2 = Value.pointer (some ⟨b1, 0, none⟩) ∧ E 8 = Value.int .i64 best13 ∧ E 29 = v31 ∧ E 30 = Value.int .i64 (states8.length : Int) ∧ E 31 = Value.int .i64 xv19 ∧ E.ds = [] ∧ RowRel (tInt .i64) gg17 xs27 states8 ∧ Go.Lx.Sep g0 w0 gg17 w [.row v31 3 (tInt .i64).sz states8.length xs27, Go.Lx.box b1 25 ([Value.int .i64 nv1.States, Value.int .i64 nv1.Start, v1, v2])]) ?_ ?_
    ·have hM := hx19
     refine WP_block <| WP_seq <| WP_region ?_
     obtain ⟨e29, he29, hM⟩ := bindS hM
     obtain ⟨b30, cb30, hvb30, cs34, hcs34, hcb30⟩ := hs.rowEl (i := 0) rfl hrelxs24 he29
     have hcs34 : cs34 = _ := hcs34; subst hcs34
     refine O (r_idxSl Try.underlying23 ti3 (v := v28) rfl hvb30 rfl (idxL_some he29).1 (idxL_some he29).2.1) rfl <| O (r_loadEl (cs := [Value.int .i64 e29]) ti3 rfl rfl (.inr rfl) (hcb30 _ (hs.at (i := 0) rfl)) (v := Value.int .i64 e29) rfl) rfl <| O (r_assign (v := Value.int .i64 e29) rfl) rfl <| OW_nil <| WP_seq <| WP_region <| O (r_fieldAddr Try.underlying25 ti23 rfl rfl (by decide) rfl rfl) rfl <| O (r_load (v := v2) ti23 rfl (hs.cell (i := 1) (o := 3) rfl rfl)) rfl <| O (r_move (v := Value.int .i64 e29) rfl) rfl ?_
     obtain ⟨e30, he30, hM⟩ := bindS hM
     obtain ⟨b31, ob31, cb31, hvb31, cs35, hcs35, hcb31⟩ := hRv2.at he30
     have hcs35 : cs35 = _ := hcs35; subst hcs35
     refine O (r_idxSl Try.underlying23 ti3 (v := v2) rfl hvb31 rfl (idxL_some he30).1 (idxL_some he30).2.1) rfl <| O (r_loadEl (cs := [Value.int .i64 e30]) ti3 rfl rfl (.inr rfl) (hcb31 _ hs.imm) (v := Value.int .i64 e30) rfl) rfl <| O (r_assign (v := Value.int .i64 e30) rfl) rfl <| OW_nil ?_
     obtain ⟨xv24, hx20, hKhx20⟩ := bindS hM
     refine WP_cut (fun E w => E 2 = Value.pointer (some ⟨b1, 0, none⟩) ∧ E 8 = Value.int .i64 best10 ∧ E 11 = Value.int .i64 e30 ∧ E 29 = v28 ∧ E 30 = Value.int .i64 (states8.length : Int) ∧ E 31 = Value.int .i64 xv19 ∧ E 50 = Value.bool xv24 ∧ E.ds = [] ∧ Go.Lx.Sep g0 w0 gg17 w [.row v28 3 (tInt .i64).sz states8.length xs24, Go.Lx.box b1 25 ([Value.int .i64 nv1.States, Value.int .i64 nv1.Start, v1, v2])]) ?_ ?_
     ·have hM := hx20
      refine WP_region <| O (r_move (v := Value.int .i64 e30) rfl) rfl <| O (r_geq rfl rfl) rfl <| O (r_move (v := Value.bool (decide (0 ≤ e30))) rfl) rfl ?_
      rcases condS hM with ⟨hg47, hM⟩ | ⟨hg47, hM⟩
      ·refine OG rfl rfl rfl (by rw [hg47]; rfl) (r_move (v := Value.int .i64 best10) rfl) rfl <| OG rfl rfl rfl (by rw [hg47]; rfl) (r_lss rfl rfl) rfl <| OG rfl rfl rfl (by rw [hg47]; rfl) (r_move (v := Value.bool (decide (best10 < 0))) rfl) rfl ?_
       rcases condS hM with ⟨hg48, hM⟩ | ⟨hg48, hM⟩
       ·refine OK rfl rfl rfl (by rw [hg48]; rfl) rfl <| OK rfl rfl rfl (by rw [hg48]; rfl) rfl <| OK rfl rfl rfl (by rw [hg48]; rfl) rfl <| OG rfl rfl rfl (by rw [hg47]; rfl) (r_pickT (v := Value.bool true) rfl hg48 rfl) rfl <| O (r_pickT (v := Value.bool true) rfl hg47 rfl) rfl <| OW_nil ?_
        obtain rfl := Option.some.inj hM
        exact ⟨rfl, rfl, rfl, rfl, rfl, rfl, rfl, hds, hs⟩
       ·refine OG rfl rfl rfl (by rw [hg48]; rfl) (r_move (v := Value.int .i64 e30) rfl) rfl <| OG rfl rfl rfl (by rw [hg48]; rfl) (r_move (v := Value.int .i64 best10) rfl) rfl <| OG rfl rfl rfl (by rw [hg48]; rfl) (r_lss rfl rfl) rfl <| OG rfl rfl rfl (by rw [hg47]; rfl) (r_pickF (v := Value.bool (decide (e30 < best10))) rfl hg48 rfl) rfl <| O (r_pickT (v := Value.bool (decide (e30 < best10))) rfl hg47 rfl) rfl <| OW_nil ?_
        obtain rfl := Option.some.inj hM
        exact ⟨rfl, rfl, rfl, rfl, rfl, rfl, rfl, hds, hs⟩
      ·refine OK rfl rfl rfl (by rw [hg47]; rfl) rfl <| OK rfl rfl rfl (by rw [hg47]; rfl) rfl <| OK rfl rfl rfl (by rw [hg47]; rfl) rfl <| OKU rfl rfl rfl rfl <| OKU rfl rfl rfl rfl <| OKU rfl rfl rfl rfl <| OK rfl rfl rfl (by rw [hg47]; rfl) rfl <| O (r_pickF (v := Value.bool false) rfl hg47 rfl) rfl <| OW_nil ?_
       obtain rfl := Option.some.inj hM
       exact ⟨rfl, rfl, rfl, rfl, rfl, rfl, rfl, hds, hs⟩
     ·clear hs
      rintro E w ⟨hE2, hE8, hE11, hE29, hE30, hE31, hE50, hds, hs⟩
      have hM := hKhx20
      obtain ⟨E, rfl⟩ := open7 (E := E) hE2 hE8 hE11 hE29 hE30 hE31 hE50
      rcases condS hM with ⟨hc24, hM⟩ | ⟨hc24, hM⟩
      ·refine WP_true rfl hc24 <| WP_region <| O (r_move (v := Value.int .i64 e30) rfl) rfl <| O (r_assign (v := Value.int .i64 e30) rfl) rfl <| OW_nil ?_
       obtain rfl := Option.some.inj hM
       exact ⟨v28, xs24, rfl, rfl, rfl, rfl, rfl, hds, hrelxs24, hs⟩
      ·refine WP_false rfl hc24 <| WP_skip ?_
       obtain rfl := Option.some.inj hM
       exact ⟨v28, xs24, rfl, rfl, rfl, rfl, rfl, hds, hrelxs24, hs⟩
    ·clear hs
     rintro E w ⟨v31, xs27, hE2, hE8, hE29, hE30, hE31, hds, hrelxs27, hs⟩
     have hM := hKhx19
     obtain ⟨E, rfl⟩ := open5 (E := E) hE2 hE8 hE29 hE30 hE31
     refine WP_region ?_
     obtain ⟨t12, ht12, hM⟩ := bindS hM
     refine O (r_addM rfl rfl ht12) rfl <| O (r_move (v := Value.int .i64 t12) rfl) rfl <| OW_nil ?_
     obtain rfl := Option.some.inj hM
     exact ⟨v31, xs27, rfl, rfl, rfl, rfl, rfl, hds, hrelxs27, hs⟩
   ·refine WP_false rfl hc22 <| WP_exit ?_
    obtain rfl := Option.some.inj hM
    refine fun hr => ?_
    have hM := congrArg some hr
    obtain rfl := Option.some.inj hM
    exact ⟨rfl, hds, (hs.sub (.cons _ (.cons _ .slnil)))⟩
  ·clear hs
   rintro E w ⟨hE8, hds, hs⟩
   have hM := hKhx11
   obtain ⟨E, rfl⟩ := open1 (E := E) hE8
   refine WP_seq <| WP_region <| O (r_move (v := Value.int .i64 best7) rfl) rfl <| O (r_assign (v := Value.int .i64 best7) rfl) rfl <| OW_nil <| WP_ret ?_
   obtain rfl := Option.some.inj hM
   refine FL_nil hds ?_
   exact ⟨_, res1 Try.results20 (rv_tmp (v := Value.int .i64 best7) rfl), gg17, ⟨[Value.int .i64 best7], rfl, rfl⟩, hs.ext⟩
set_option maxRecDepth 100000 in
theorem law09_awake_ok {r : Bool} (hM : M.law09_awake = some r) {g0 : Hp} {w0 : World} (hi : Imm g0 w0) :
    CallsV Try.prog 11 #[] w0 (fun v w' => ∃ g', (VRd tBool false g' v r) ∧ Ext g0 w0 g' w') := by
 unfold M.law09_awake at hM
 have hs := Sep.start hi
 refine calls_of_WP (args := []) Try.func11 rfl Try.ntmps11 rfl ?_
 have hds : (argEnv []).ds = [] := rfl
 refine WP_seq <| WP_region <| O (r_assign (v := Value.bool false) rfl) rfl <| OW_nil <| WP_seq <| WP_region ?_
 obtain ⟨rv1, hrv1, hM⟩ := bindS hM
 refine C [Value.int .u8 97] cf29 rfl (law09_set_ok hrv1 hs.imm) rfl ?_
 rintro v1 wv1 ⟨gg1, hvv1, hegg1⟩
 have hlegg1 := hegg1.le hs.imm
 replace hs := hs.call hegg1
 obtain ⟨cs1, rfl, hcs1⟩ := hvv1
 obtain ⟨cs2, cs3, cs4, rfl, hcs2, hcs3, hcs4⟩ := tT_Regex_iff.1 hcs1
 have hcs2 : cs2 = _ := hcs2; subst hcs2
 have hcs3 : cs3 = _ := hcs3; subst hcs3
 obtain ⟨v2, rfl, hRv2⟩ := hcs4
 refine OW_lit (τ := tT_Regex) [Value.agg (List.toArray (α := Value) (([Value.int .i64 rv1.Kind]) ++ ((rv1.Set.1.map (Value.int .u64)) ++ ([v2]))))] [rv1] Try.underlying37 ti50 (by decide) hs rfl rfl rfl ⟨(tT_Regex_iff.2 ⟨[Value.int .i64 rv1.Kind], rv1.Set.1.map (Value.int .u64), [v2], rfl, rfl, rfl, ⟨_, rfl, hRv2⟩⟩), trivial⟩ rfl ?_
 intro v3 wv2 xs1 hrelxs1 hs
 have ho1 := one_of_shape (hs.rowShape (i := 0) rfl)
 refine O (r_build (vs := [(0, Value.int .i64 6), (2, v3)]) (cs := ([Value.int .i64 6]) ++ (((Vec.zero 4).1.map (Value.int .u64)) ++ ([v3]))) rfl (built_fill [(0, 1), (1, 4), (5, 1)] (([Value.int .i64 0]) ++ (((Vec.zero 4).1.map (Value.int .u64)) ++ ([Value.slice none 0 0]))) (fun _ => by kernel_rfl) (fill_step ([]) ([Value.int .i64 0]) (((Vec.zero 4).1.map (Value.int .u64)) ++ ([Value.slice none 0 0])) ([Value.int .i64 6]) rfl (by simp) rfl rfl rfl rfl <| fill_step (([Value.int .i64 6]) ++ ((Vec.zero 4).1.map (Value.int .u64))) ([Value.slice none 0 0]) ([]) ([v3]) rfl (by simp) (cells_one ho1) (by simp [(Vec.zero 4).2]) rfl rfl <| fill_done))) rfl ?_
 obtain ⟨rv2, hrv2, hM⟩ := bindS hM
 refine C [Value.int .u8 97] cf29 rfl (law09_set_ok hrv2 hs.imm) rfl ?_
 rintro v4 wv3 ⟨gg2, hvv4, hegg2⟩
 have hlegg2 := hegg2.le hs.imm
 replace hs := hs.call hegg2
 replace hrelxs1 := hrelxs1.mono hlegg2
 obtain ⟨cs5, rfl, hcs5⟩ := hvv4
 obtain ⟨cs6, cs7, cs8, rfl, hcs6, hcs7, hcs8⟩ := tT_Regex_iff.1 hcs5
 have hcs6 : cs6 = _ := hcs6; subst hcs6
 have hcs7 : cs7 = _ := hcs7; subst hcs7
 obtain ⟨v5, rfl, hRv5⟩ := hcs8
 obtain ⟨rv3, hrv3, hM⟩ := bindS hM
 refine C [Value.int .u8 98] cf29 rfl (law09_set_ok hrv3 hs.imm) rfl ?_
 rintro v6 wv4 ⟨gg3, hvv6, hegg3⟩
 have hlegg3 := hegg3.le hs.imm
 replace hs := hs.call hegg3
 replace hrelxs1 := hrelxs1.mono hlegg3
 replace hRv5 := hRv5.mono hlegg3
 obtain ⟨cs9, rfl, hcs9⟩ := hvv6
 obtain ⟨cs10, cs11, cs12, rfl, hcs10, hcs11, hcs12⟩ := tT_Regex_iff.1 hcs9
 have hcs10 : cs10 = _ := hcs10; subst hcs10
 have hcs11 : cs11 = _ := hcs11; subst hcs11
 obtain ⟨v7, rfl, hRv7⟩ := hcs12
 refine OW_lit (τ := tT_Regex) [Value.agg (List.toArray (α := Value) (([Value.int .i64 rv2.Kind]) ++ ((rv2.Set.1.map (Value.int .u64)) ++ ([v5])))), Value.agg (List.toArray (α := Value) (([Value.int .i64 rv3.Kind]) ++ ((rv3.Set.1.map (Value.int .u64)) ++ ([v7]))))] [rv2, rv3] Try.underlying37 ti50 (by decide) hs rfl rfl rfl ⟨(tT_Regex_iff.2 ⟨[Value.int .i64 rv2.Kind], rv2.Set.1.map (Value.int .u64), [v5], rfl, rfl, rfl, ⟨_, rfl, hRv5⟩⟩), (tT_Regex_iff.2 ⟨[Value.int .i64 rv3.Kind], rv3.Set.1.map (Value.int .u64), [v7], rfl, rfl, rfl, ⟨_, rfl, hRv7⟩⟩), trivial⟩ rfl ?_
 intro v8 wv5 xs2 hrelxs2 hs
 have ho2 := one_of_shape (hs.rowShape (i := 0) rfl)
 refine O (r_build (vs := [(0, Value.int .i64 4), (2, v8)]) (cs := ([Value.int .i64 4]) ++ (((Vec.zero 4).1.map (Value.int .u64)) ++ ([v8]))) rfl (built_fill [(0, 1), (1, 4), (5, 1)] (([Value.int .i64 0]) ++ (((Vec.zero 4).1.map (Value.int .u64)) ++ ([Value.slice none 0 0]))) (fun _ => by kernel_rfl) (fill_step ([]) ([Value.int .i64 0]) (((Vec.zero 4).1.map (Value.int .u64)) ++ ([Value.slice none 0 0])) ([Value.int .i64 4]) rfl (by simp) rfl rfl rfl rfl <| fill_step (([Value.int .i64 4]) ++ ((Vec.zero 4).1.map (Value.int .u64))) ([Value.slice none 0 0]) ([]) ([v8]) rfl (by simp) (cells_one ho2) (by simp [(Vec.zero 4).2]) rfl rfl <| fill_done))) rfl ?_
 obtain ⟨gg4, hlegg4, hRgg4, hs⟩ := hs.relRow (i := 1) rfl hrelxs1
 replace hrelxs2 := hrelxs2.mono hlegg4
 obtain ⟨gg5, hlegg5, hRgg5, hs⟩ := hs.relRow (i := 0) rfl hrelxs2
 replace hRgg4 := hRgg4.mono hlegg5
 refine OW_lit (τ := tT_Regex) [Value.agg (List.toArray (α := Value) (([Value.int .i64 6]) ++ (((Vec.zero 4).1.map (Value.int .u64)) ++ ([v3])))), Value.agg (List.toArray (α := Value) (([Value.int .i64 4]) ++ (((Vec.zero 4).1.map (Value.int .u64)) ++ ([v8]))))] [(T_Regex.mk 6 (Vec.zero 4) [rv1]), (T_Regex.mk 4 (Vec.zero 4) [rv2, rv3])] Try.underlying37 ti50 (by decide) hs rfl rfl rfl ⟨(tT_Regex_iff.2 ⟨[Value.int .i64 6], (Vec.zero 4).1.map (Value.int .u64), [v3], rfl, rfl, rfl, ⟨_, rfl, hRgg4⟩⟩), (tT_Regex_iff.2 ⟨[Value.int .i64 4], (Vec.zero 4).1.map (Value.int .u64), [v8], rfl, rfl, rfl, ⟨_, rfl, hRgg5⟩⟩), trivial⟩ rfl ?_
 intro v9 wv6 xs3 hrelxs3 hs
 refine O (r_assign (v := v9) rfl) rfl <| OW_nil <| WP_seq <| WP_region <| O (r_move (v := v9) rfl) rfl ?_
 obtain ⟨gg6, hlegg6, hRgg6, hs⟩ := hs.relRow (i := 0) rfl hrelxs3
 obtain ⟨rv4, hrv4, hM⟩ := bindS hM
 refine C [v9] cf24 rfl (nfa_FromRegexes_ok hrv4 hs.imm hRgg6) rfl ?_
 rintro v10 wv7 ⟨gg7, hvv10, hegg7⟩
 have hlegg7 := hegg7.le hs.imm
 replace hs := hs.call hegg7
 obtain ⟨v11, v12, rfl, hvv11, hvv12⟩ := hvv10
 obtain ⟨cs13, rfl, hcs13⟩ := hvv12
 have hcs13 : cs13 = _ := hcs13; subst hcs13
 obtain ⟨cs14, rfl, hcs14⟩ := hvv11
 obtain ⟨cs15, cs16, cs17, cs18, rfl, hcs15, hcs16, hcs17, hcs18⟩ := hcs14
 have hcs15 : cs15 = _ := hcs15; subst hcs15
 have hcs16 : cs16 = _ := hcs16; subst hcs16
 obtain ⟨v13, rfl, hRv13⟩ := hcs17
 obtain ⟨v14, rfl, hRv14⟩ := hcs18
 refine O (r_move (v := Value.tuple #[Value.agg (List.toArray (α := Value) [Value.int .i64 rv4.1.States, Value.int .i64 rv4.1.Start, v13, v14]), Value.int .i64 rv4.2]) rfl) rfl <| O (r_extract (vs := [Value.agg (List.toArray (α := Value) [Value.int .i64 rv4.1.States, Value.int .i64 rv4.1.Start, v13, v14]), Value.int .i64 rv4.2]) (v := Value.agg (List.toArray (α := Value) [Value.int .i64 rv4.1.States, Value.int .i64 rv4.1.Start, v13, v14])) rfl rfl) rfl <| O (r_extract (vs := [Value.agg (List.toArray (α := Value) [Value.int .i64 rv4.1.States, Value.int .i64 rv4.1.Start, v13, v14]), Value.int .i64 rv4.2]) (v := Value.int .i64 rv4.2) rfl rfl) rfl <| OW_alloc ti25 hs (zs := [Value.int .i64 0, Value.int .i64 0, Value.slice none 0 0, Value.slice none 0 0]) rfl rfl ?_
 intro b1 wv8 hs
 refine OW_storeAll ti25 hs (i := 0) rfl rfl (v := Value.agg (List.toArray (α := Value) [Value.int .i64 rv4.1.States, Value.int .i64 rv4.1.Start, v13, v14])) rfl (vs := [Value.int .i64 rv4.1.States, Value.int .i64 rv4.1.Start, v13, v14]) rfl (one_cons rfl (one_cons rfl (one_cons (by obtain ⟨_, _, h9⟩ := hRv13.shape; rw [h9]; rfl) (one_cons (by obtain ⟨_, _, h9⟩ := hRv14.shape; rw [h9]; rfl) one_nil)))) rfl rfl ?_
 intro wv9 hs
 refine O (r_assign (v := Value.int .i64 rv4.2) rfl) rfl <| OW_nil ?_
 obtain ⟨xv1, hx1, hKhx1⟩ := bindS hM
 refine WP_cut (fun E w => ∃ (gg13 : Hp), E 0 = Value.bool xv1 ∧ E.ds = [] ∧ Hle gg7 gg13 ∧ Go.Lx.Sep g0 w0 gg13 w []) ?_ ?_
 ·have hM := hx1
  have hagg7 := Hle.refl gg7
  refine WP_region <| O (r_move (v := Value.int .i64 rv4.2) rfl) rfl <| O (r_eql rfl rfl) rfl <| O (r_move (v := Value.bool (rv4.2 == 0)) rfl) rfl ?_
  rcases condS hM with ⟨hg6, hM⟩ | ⟨hg6, hM⟩
  ·refine OG rfl rfl rfl (by rw [hg6]; rfl) (r_loadN (cs := [Value.int .i64 rv4.1.States, Value.int .i64 rv4.1.Start, v13, v14]) ti25 rfl rfl (hs.cells (i := 0) rfl)) rfl ?_
   obtain ⟨rv10, hrv10, hM⟩ := bindS hM
   refine CG rfl rfl rfl (by rw [hg6]; rfl) [Value.agg (List.toArray (α := Value) [Value.int .i64 rv4.1.States, Value.int .i64 rv4.1.Start, v13, v14])] cf12 rfl (nfa_Valid_ok hrv10 hs.imm (⟨[Value.int .i64 rv4.1.States], [Value.int .i64 rv4.1.Start], [v13], [v14], rfl, rfl, rfl, ⟨_, rfl, hRv13⟩, ⟨_, rfl, hRv14⟩⟩)) rfl ?_
   rintro v20 wv15 ⟨gg14, hvv20, hegg14⟩
   have hlegg14 := hegg14.le hs.imm
   replace hs := hs.call hegg14
   replace hRv13 := hRv13.mono hlegg14
   replace hRv14 := hRv14.mono hlegg14
   replace hagg7 := hagg7.trans hlegg14
   obtain ⟨cs24, rfl, hcs24⟩ := hvv20
   have hcs24 : cs24 = _ := hcs24; subst hcs24
   refine O (r_pickT (v := Value.bool rv10) rfl hg6 rfl) rfl <| O (r_move (v := Value.bool rv10) rfl) rfl ?_
   rcases condS hM with ⟨hg7, hM⟩ | ⟨hg7, hM⟩
   ·refine OG rfl rfl rfl (by rw [hg7]; rfl) (r_loadN (cs := [Value.int .i64 rv4.1.States, Value.int .i64 rv4.1.Start, v13, v14]) ti25 rfl rfl (hs.cells (i := 0) rfl)) rfl ?_
    obtain ⟨rv11, hrv11, hM⟩ := bindS hM
    refine CG rfl rfl rfl (by rw [hg7]; rfl) [Value.agg (List.toArray (α := Value) [Value.int .i64 rv4.1.States, Value.int .i64 rv4.1.Start, v13, v14]), encS [97, 97]] cf20 rfl (nfa_Run_ok hrv11 hs.imm (⟨[Value.int .i64 rv4.1.States], [Value.int .i64 rv4.1.Start], [v13], [v14], rfl, rfl, rfl, ⟨_, rfl, hRv13⟩, ⟨_, rfl, hRv14⟩⟩)) rfl ?_
    rintro v21 wv16 ⟨gg15, hvv21, hegg15⟩
    have hlegg15 := hegg15.le hs.imm
    replace hs := hs.call hegg15
    replace hRv13 := hRv13.mono hlegg15
    replace hRv14 := hRv14.mono hlegg15
    replace hagg7 := hagg7.trans hlegg15
    obtain ⟨cs25, rfl, hcs25⟩ := hvv21
    have hcs25 : cs25 = _ := hcs25; subst hcs25
    refine OG rfl rfl rfl (by rw [hg7]; rfl) (r_eql rfl rfl) rfl <| O (r_pickT (v := Value.bool (rv11 == 0)) rfl hg7 rfl) rfl <| O (r_move (v := Value.bool (rv11 == 0)) rfl) rfl ?_
    rcases condS hM with ⟨hg8, hM⟩ | ⟨hg8, hM⟩
    ·refine OG rfl rfl rfl (by rw [hg8]; rfl) (r_loadN (cs := [Value.int .i64 rv4.1.States, Value.int .i64 rv4.1.Start, v13, v14]) ti25 rfl rfl (hs.cells (i := 0) rfl)) rfl ?_
     obtain ⟨rv12, hrv12, hM⟩ := bindS hM
     refine CG rfl rfl rfl (by rw [hg8]; rfl) [Value.agg (List.toArray (α := Value) [Value.int .i64 rv4.1.States, Value.int .i64 rv4.1.Start, v13, v14]), encS [97, 98]] cf20 rfl (nfa_Run_ok hrv12 hs.imm (⟨[Value.int .i64 rv4.1.States], [Value.int .i64 rv4.1.Start], [v13], [v14], rfl, rfl, rfl, ⟨_, rfl, hRv13⟩, ⟨_, rfl, hRv14⟩⟩)) rfl ?_
     rintro v22 wv17 ⟨gg16, hvv22, hegg16⟩
     have hlegg16 := hegg16.le hs.imm
     replace hs := hs.call hegg16
     replace hRv13 := hRv13.mono hlegg16
     replace hRv14 := hRv14.mono hlegg16
     replace hagg7 := hagg7.trans hlegg16
     obtain ⟨cs26, rfl, hcs26⟩ := hvv22
     have hcs26 : cs26 = _ := hcs26; subst hcs26
     refine OG rfl rfl rfl (by rw [hg8]; rfl) (r_eql rfl rfl) rfl <| O (r_pickT (v := Value.bool (rv12 == 1)) rfl hg8 rfl) rfl <| O (r_move (v := Value.bool (rv12 == 1)) rfl) rfl ?_
     rcases condS hM with ⟨hg9, hM⟩ | ⟨hg9, hM⟩
     ·refine OG rfl rfl rfl (by rw [hg9]; rfl) (r_loadN (cs := [Value.int .i64 rv4.1.States, Value.int .i64 rv4.1.Start, v13, v14]) ti25 rfl rfl (hs.cells (i := 0) rfl)) rfl ?_
      obtain ⟨rv13, hrv13, hM⟩ := bindS hM
      refine CG rfl rfl rfl (by rw [hg9]; rfl) [Value.agg (List.toArray (α := Value) [Value.int .i64 rv4.1.States, Value.int .i64 rv4.1.Start, v13, v14]), encS [98]] cf20 rfl (nfa_Run_ok hrv13 hs.imm (⟨[Value.int .i64 rv4.1.States], [Value.int .i64 rv4.1.Start], [v13], [v14], rfl, rfl, rfl, ⟨_, rfl, hRv13⟩, ⟨_, rfl, hRv14⟩⟩)) rfl ?_
      rintro v23 wv18 ⟨gg17, hvv23, hegg17⟩
      have hlegg17 := hegg17.le hs.imm
      replace hs := hs.call hegg17
      replace hagg7 := hagg7.trans hlegg17
      obtain ⟨cs27, rfl, hcs27⟩ := hvv23
      have hcs27 : cs27 = _ := hcs27; subst hcs27
      refine OG rfl rfl rfl (by rw [hg9]; rfl) (r_eql rfl rfl) rfl <| O (r_pickT (v := Value.bool (rv13 == (-1))) rfl hg9 rfl) rfl <| O (r_move (v := Value.bool (rv13 == (-1))) rfl) rfl ?_
      rcases condS hM with ⟨hg10, hM⟩ | ⟨hg10, hM⟩
      ·refine OG rfl rfl rfl (by rw [hg10]; rfl) (r_build (vs := []) (cs := [Value.int .i64 0, Value.int .i64 0, Value.slice none 0 0, Value.slice none 0 0]) rfl (built_fill [(0, 1), (1, 1), (2, 1), (3, 1)] [Value.int .i64 0, Value.int .i64 0, Value.slice none 0 0, Value.slice none 0 0] (fun _ => by kernel_rfl) (fill_done))) rfl ?_
       obtain ⟨rv14, hrv14, hM⟩ := bindS hM
       refine CG rfl rfl rfl (by rw [hg10]; rfl) [Value.agg (List.toArray (α := Value) [Value.int .i64 0, Value.int .i64 0, Value.slice none 0 0, Value.slice none 0 0])] cf12 rfl (nfa_Valid_ok hrv14 hs.imm (⟨[Value.int .i64 0], [Value.int .i64 0], [Value.slice none 0 0], [Value.slice none 0 0], rfl, rfl, rfl, ⟨_, rfl, RdS.nil⟩, ⟨_, rfl, RdS.nil⟩⟩)) rfl ?_
       rintro v24 wv19 ⟨gg18, hvv24, hegg18⟩
       have hlegg18 := hegg18.le hs.imm
       replace hs := hs.call hegg18
       replace hagg7 := hagg7.trans hlegg18
       obtain ⟨cs28, rfl, hcs28⟩ := hvv24
       have hcs28 : cs28 = _ := hcs28; subst hcs28
       refine OG rfl rfl rfl (by rw [hg10]; rfl) (r_not rfl) rfl <| O (r_pickT (v := Value.bool (!rv14)) rfl hg10 rfl) rfl <| O (r_assign (v := Value.bool (!rv14)) rfl) rfl <| OW_nil ?_
       obtain rfl := Option.some.inj hM
       exact ⟨gg18, rfl, hds, hagg7, (hs.sub (.cons _ .slnil))⟩
      ·refine OK rfl rfl rfl (by rw [hg10]; rfl) rfl <| OK rfl rfl rfl (by rw [hg10]; rfl) rfl <| OK rfl rfl rfl (by rw [hg10]; rfl) rfl <| O (r_pickF (v := Value.bool false) rfl hg10 rfl) rfl <| O (r_assign (v := Value.bool false) rfl) rfl <| OW_nil ?_
       obtain rfl := Option.some.inj hM
       exact ⟨gg17, rfl, hds, hagg7, (hs.sub (.cons _ .slnil))⟩
     ·refine OK rfl rfl rfl (by rw [hg9]; rfl) rfl <| OK rfl rfl rfl (by rw [hg9]; rfl) rfl <| OK rfl rfl rfl (by rw [hg9]; rfl) rfl <| O (r_pickF (v := Value.bool false) rfl hg9 rfl) rfl <| O (r_move (v := Value.bool false) rfl) rfl <| OK rfl rfl rfl rfl rfl <| OK rfl rfl rfl rfl rfl <| OK rfl rfl rfl rfl rfl <| O (r_pickF (v := Value.bool false) rfl rfl rfl) rfl <| O (r_assign (v := Value.bool false) rfl) rfl <| OW_nil ?_
      obtain rfl := Option.some.inj hM
      exact ⟨gg16, rfl, hds, hagg7, (hs.sub (.cons _ .slnil))⟩
    ·refine OK rfl rfl rfl (by rw [hg8]; rfl) rfl <| OK rfl rfl rfl (by rw [hg8]; rfl) rfl <| OK rfl rfl rfl (by rw [hg8]; rfl) rfl <| O (r_pickF (v := Value.bool false) rfl hg8 rfl) rfl <| O (r_move (v := Value.bool false) rfl) rfl <| OK rfl rfl rfl rfl rfl <| OK rfl rfl rfl rfl rfl <| OK rfl rfl rfl rfl rfl <| O (r_pickF (v := Value.bool false) rfl rfl rfl) rfl <| O (r_move (v := Value.bool false) rfl) rfl <| OK rfl rfl rfl rfl rfl <| OK rfl rfl rfl rfl rfl <| OK rfl rfl rfl rfl rfl <| O (r_pickF (v := Value.bool false) rfl rfl rfl) rfl <| O (r_assign (v := Value.bool false) rfl) rfl <| OW_nil ?_
     obtain rfl := Option.some.inj hM
     exact ⟨gg15, rfl, hds, hagg7, (hs.sub (.cons _ .slnil))⟩
   ·refine OK rfl rfl rfl (by rw [hg7]; rfl) rfl <| OK rfl rfl rfl (by rw [hg7]; rfl) rfl <| OK rfl rfl rfl (by rw [hg7]; rfl) rfl <| O (r_pickF (v := Value.bool false) rfl hg7 rfl) rfl <| O (r_move (v := Value.bool false) rfl) rfl <| OK rfl rfl rfl rfl rfl <| OK rfl rfl rfl rfl rfl <| OK rfl rfl rfl rfl rfl <| O (r_pickF (v := Value.bool false) rfl rfl rfl) rfl <| O (r_move (v := Value.bool false) rfl) rfl <| OK rfl rfl rfl rfl rfl <| OK rfl rfl rfl rfl rfl <| OK rfl rfl rfl rfl rfl <| O (r_pickF (v := Value.bool false) rfl rfl rfl) rfl <| O (r_move (v := Value.bool false) rfl) rfl <| OK rfl rfl rfl rfl rfl <| OK rfl rfl rfl rfl rfl <| OK rfl rfl rfl rfl rfl <| O (r_pickF (v := Value.bool false) rfl rfl rfl) rfl ?_
    refine O (r_assign (v := Value.bool false) rfl) rfl <| OW_nil ?_
    obtain rfl := Option.some.inj hM
    exact ⟨gg14, rfl, hds, hagg7, (hs.sub (.cons _ .slnil))⟩
  ·refine OK rfl rfl rfl (by rw [hg6]; rfl) rfl <| OK rfl rfl rfl (by rw [hg6]; rfl) rfl <| O (r_pickF (v := Value.bool false) rfl hg6 rfl) rfl <| O (r_move (v := Value.bool false) rfl) rfl <| OK rfl rfl rfl rfl rfl <| OK rfl rfl rfl rfl rfl <| OK rfl rfl rfl rfl rfl <| O (r_pickF (v := Value.bool false) rfl rfl rfl) rfl <| O (r_move (v := Value.bool false) rfl) rfl <| OK rfl rfl rfl rfl rfl <| OK rfl rfl rfl rfl rfl <| OK rfl rfl rfl rfl rfl <| O (r_pickF (v := Value.bool false) rfl rfl rfl) rfl <| O (r_move (v := Value.bool false) rfl) rfl <| OK rfl rfl rfl rfl rfl <| OK rfl rfl rfl rfl rfl <| OK rfl rfl rfl rfl rfl <| O (r_pickF (v := Value.bool false) rfl rfl rfl) rfl <| O (r_move (v := Value.bool false) rfl) rfl ?_
   refine OK rfl rfl rfl rfl rfl <| OK rfl rfl rfl rfl rfl <| OK rfl rfl rfl rfl rfl <| O (r_pickF (v := Value.bool false) rfl rfl rfl) rfl <| O (r_assign (v := Value.bool false) rfl) rfl <| OW_nil ?_
   obtain rfl := Option.some.inj hM
   exact ⟨gg7, rfl, hds, (Hle.refl _), (hs.sub (.cons _ .slnil))⟩
 ·clear hs
  rintro E w ⟨gg13, hE0, hds, hlegg13, hs⟩
  have hM := hKhx1
  obtain ⟨E, rfl⟩ := open1 (E := E) hE0
  refine WP_ret ?_
  obtain rfl := Option.some.inj hM
  refine FL_nil hds ?_
  exact ⟨_, res1 Try.results11 (rv_tmp (v := Value.bool xv1) rfl), gg13, ⟨[Value.bool xv1], rfl, rfl⟩, hs.ext⟩
end Go.Proofs.Ytajmekjcnbmaaaa
set_option linter.unusedVariables false
set_option linter.unusedSimpArgs false
namespace Go.Proofs.Ytajmekjcnbmaaaa
open Go.Lx Go.RowKit
def C.ref08_valid (fl : Nat) : Prop := ∀ {rv1 : T_Regex} {above1 : Int} {r : Bool} (_ : M.ref08_valid fl rv1 above1 = some r) {g0 : Hp} {w0 : World} (hi : Imm g0 w0) {cs1 : List Value} (hcs1 : tT_Regex.rel g0 cs1 rv1),
    CallsV Try.prog 50 #[Value.agg cs1.toArray, Value.int .i64 above1] w0 (fun v w' => ∃ g', (VRd tBool false g' v r) ∧ Ext g0 w0 g' w')
set_option maxRecDepth 100000 in
theorem ref08_valid_step {fl : Nat} (ih_ref08_valid : C.ref08_valid fl) : C.ref08_valid (fl + 1) := by
 intro rv1 above1 r hM g0 w0 hi cs1 hcs1
 unfold M.ref08_valid at hM
 obtain ⟨cs2, cs3, cs4, rfl, hcs2, hcs3, hcs4⟩ := tT_Regex_iff.1 hcs1
 have hcs2 : cs2 = _ := hcs2; subst hcs2
 have hcs3 : cs3 = _ := hcs3; subst hcs3
 obtain ⟨v1, rfl, hRv1⟩ := hcs4
 have hs := Sep.start hi
 refine calls_of_WP (args := [Value.agg (List.toArray (α := Value) (([Value.int .i64 rv1.Kind]) ++ ((rv1.Set.1.map (Value.int .u64)) ++ ([v1])))), Value.int .i64 above1]) Try.func50 rfl Try.ntmps50 rfl ?_
 have hds : (argEnv [Value.agg (List.toArray (α := Value) (([Value.int .i64 rv1.Kind]) ++ ((rv1.Set.1.map (Value.int .u64)) ++ ([v1])))), Value.int .i64 above1]).ds = [] := rfl
 refine WP_seq <| WP_region <| OW_box (v := Value.agg (List.toArray (α := Value) (([Value.int .i64 rv1.Kind]) ++ ((rv1.Set.1.map (Value.int .u64)) ++ ([v1]))))) rfl hs (zs := ([Value.int .i64 rv1.Kind]) ++ ((rv1.Set.1.map (Value.int .u64)) ++ ([v1]))) rfl rfl ?_
 intro b1 wv1 hs
 refine O (r_assign (v := Value.bool false) rfl) rfl <| OW_nil <| WP_seq ?_
 obtain ⟨xv1, hx1, hKhx1⟩ := bindS hM
 refine WP_cut (fun E w => E 1 = Value.int .i64 above1 ∧ E 2 = Value.pointer (some ⟨b1, 0, none⟩) ∧ E 19 = Value.bool xv1 ∧ E.ds = [] ∧ Go.Lx.Sep g0 w0 g0 w [Go.Lx.box b1 50 (([Value.int .i64 rv1.Kind]) ++ ((rv1.Set.1.map (Value.int .u64)) ++ ([v1])))]) ?_ ?_
 ·have hM := hx1
  have hag0 := Hle.refl g0
  refine WP_region <| O (r_move (v := Value.int .i64 above1) rfl) rfl <| O (r_geq rfl rfl) rfl <| O (r_move (v := Value.bool (decide (30 ≤ above1))) rfl) rfl ?_
  rcases condS hM with ⟨hg3, hM⟩ | ⟨hg3, hM⟩
  ·refine OK rfl rfl rfl (by rw [hg3]; rfl) rfl <| OK rfl rfl rfl (by rw [hg3]; rfl) rfl <| OK rfl rfl rfl (by rw [hg3]; rfl) rfl <| OK rfl rfl rfl (by rw [hg3]; rfl) rfl <| OKU rfl rfl rfl rfl <| OKU rfl rfl rfl rfl <| OKU rfl rfl rfl rfl <| OKU rfl rfl rfl rfl <| OK rfl rfl rfl (by rw [hg3]; rfl) rfl <| O (r_pickT (v := Value.bool true) rfl hg3 rfl) rfl <| OW_nil ?_
   obtain rfl := Option.some.inj hM
   exact ⟨rfl, rfl, rfl, hds, hs⟩
  ·refine OG rfl rfl rfl (by rw [hg3]; rfl) (r_fieldAddr Try.underlying50 ti3 rfl rfl (by decide) rfl rfl) rfl <| OG rfl rfl rfl (by rw [hg3]; rfl) (r_load (v := Value.int .i64 rv1.Kind) ti3 rfl (hs.cell (i := 0) (o := 0) rfl (by simp [rv1.Set.2]))) rfl <| OG rfl rfl rfl (by rw [hg3]; rfl) (r_neq rfl rfl) rfl <| OG rfl rfl rfl (by rw [hg3]; rfl) (r_move (v := Value.bool (rv1.Kind != 3)) rfl) rfl ?_
   rcases condS hM with ⟨hg4, hM⟩ | ⟨hg4, hM⟩
   ·refine OG rfl rfl rfl (by rw [hg4]; rfl) (r_fieldAddr Try.underlying50 ti48 rfl rfl (by decide) rfl rfl) rfl <| OG rfl rfl rfl (by rw [hg4]; rfl) (r_loadN (cs := rv1.Set.1.map (Value.int .u64)) ti48 rfl (by simp [rv1.Set.2]) (hs.cellsAt (i := 0) (o := 1) rfl (by intro j u hj; exact sub_at (pre := [Value.int .i64 rv1.Kind]) (ds := rv1.Set.1.map (Value.int .u64)) (post := [v1]) rfl ((by simp)) hj))) rfl <| OG rfl rfl rfl (by rw [hg4]; rfl) (r_build (vs := []) (cs := (Vec.zero 4).1.map (Value.int .u64)) rfl (by kernel_rfl)) rfl <| OG rfl rfl rfl (by rw [hg4]; rfl) (r_neqV Try.underlying48 Try.underlying46 ti46 rfl rfl eg48) rfl <| OG rfl rfl rfl (by rw [hg3]; rfl) (r_pickT (v := Value.bool (rv1.Set != (Vec.zero 4))) rfl hg4 rfl) rfl ?_
    refine O (r_pickF (v := Value.bool (rv1.Set != (Vec.zero 4))) rfl hg3 rfl) rfl <| OW_nil ?_
    obtain rfl := Option.some.inj hM
    exact ⟨rfl, rfl, rfl, hds, hs⟩
   ·refine OK rfl rfl rfl (by rw [hg4]; rfl) rfl <| OK rfl rfl rfl (by rw [hg4]; rfl) rfl <| OK rfl rfl rfl (by rw [hg4]; rfl) rfl <| OK rfl rfl rfl (by rw [hg4]; rfl) rfl <| OG rfl rfl rfl (by rw [hg3]; rfl) (r_pickF (v := Value.bool false) rfl hg4 rfl) rfl <| O (r_pickF (v := Value.bool false) rfl hg3 rfl) rfl <| OW_nil ?_
    obtain rfl := Option.some.inj hM
    exact ⟨rfl, rfl, rfl, hds, hs⟩
 ·clear hs
  rintro E w ⟨hE1, hE2, hE19, hds, hs⟩
  have hM := hKhx1
  obtain ⟨E, rfl⟩ := open3 (E := E) hE1 hE2 hE19
  rcases condS hM with ⟨hc1, hM⟩ | ⟨hc1, hM⟩
  ·refine WP_true rfl hc1 <| WP_seq <| WP_region <| O (r_assign (v := Value.bool false) rfl) rfl <| OW_nil <| WP_ret ?_
   obtain rfl := Option.some.inj hM
   refine FL_nil hds ?_
   exact ⟨_, res1 Try.results50 (rv_tmp (v := Value.bool false) rfl), g0, ⟨[Value.bool false], rfl, rfl⟩, hs.ext⟩
  ·refine WP_false rfl hc1 <| WP_skip <| WP_seq <| WP_region <| O (r_fieldAddr Try.underlying50 ti37 rfl rfl (by decide) rfl rfl) rfl <| O (r_load (v := v1) ti37 rfl (hs.cell (i := 0) (o := 5) rfl (by simp [rv1.Set.2]))) rfl ?_
   obtain ⟨a1, ca1, hva1⟩ := hRv1.shape
   refine O (r_lenSl (v := v1) Try.underlying37 rfl hva1) rfl <| O (r_assign (v := Value.int .i64 (rv1.Kids.length : Int)) rfl) rfl <| OW_nil ?_
   obtain ⟨o1, hx5, hKhx5⟩ := stepS hM
   refine WP_cut (fun E w => ∃ u9 : Unit, o1 = .next u9 ∧ E 1 = Value.int .i64 above1 ∧ E 2 = Value.pointer (some ⟨b1, 0, none⟩) ∧ E 5 = Value.int .i64 (rv1.Kids.length : Int) ∧ E.ds = [] ∧ Go.Lx.Sep g0 w0 g0 w [Go.Lx.box b1 50 (([Value.int .i64 rv1.Kind]) ++ ((rv1.Set.1.map (Value.int .u64)) ++ ([v1])))]) ?_ ?_
   ·have hM := hx5
    have hag0 := Hle.refl g0
    refine WP_seq <| WP_region <| O (r_fieldAddr Try.underlying50 ti3 rfl rfl (by decide) rfl rfl) rfl <| O (r_load (v := Value.int .i64 rv1.Kind) ti3 rfl (hs.cell (i := 0) (o := 0) rfl (by simp [rv1.Set.2]))) rfl <| OW_nil <| WP_block ?_
    obtain ⟨xv5, hx6, hKhx6⟩ := bindS hM
    refine WP_cut (fun E w => E 1 = Value.int .i64 above1 ∧ E 2 = Value.pointer (some ⟨b1, 0, none⟩) ∧ E 5 = Value.int .i64 (rv1.Kids.length : Int) ∧ E 24 = Value.int .i64 rv1.Kind ∧ E 25 = Value.bool xv5 ∧ E.ds = [] ∧ Go.Lx.Sep g0 w0 g0 w [Go.Lx.box b1 50 (([Value.int .i64 rv1.Kind]) ++ ((rv1.Set.1.map (Value.int .u64)) ++ ([v1])))]) ?_ ?_
    ·have hM := hx6
     refine WP_seq <| WP_region <| O (r_eql rfl rfl) rfl <| O (r_assign (v := Value.bool (rv1.Kind == 1)) rfl) rfl <| OW_nil ?_
     rcases condS hM with ⟨hc13, hM⟩ | ⟨hc13, hM⟩
     ·refine WP_true rfl hc13 <| WP_skip ?_
      obtain rfl := Option.some.inj hM
      exact ⟨rfl, rfl, rfl, rfl, rfl, hds, hs⟩
     ·refine WP_false rfl hc13 <| WP_region <| O (r_eql rfl rfl) rfl <| O (r_assign (v := Value.bool (rv1.Kind == 2)) rfl) rfl <| OW_nil ?_
      obtain rfl := Option.some.inj hM
      exact ⟨rfl, rfl, rfl, rfl, rfl, hds, hs⟩
    ·clear hs
     rintro E w ⟨hE1, hE2, hE5, hE24, hE25, hds, hs⟩
     have hM := hKhx6
     obtain ⟨E, rfl⟩ := open5 (E := E) hE1 hE2 hE5 hE24 hE25
     rcases condS hM with ⟨hc14, hM⟩ | ⟨hc14, hM⟩
     ·refine WP_true rfl hc14 <| WP_seq <| WP_region <| O (r_move (v := Value.int .i64 (rv1.Kids.length : Int)) rfl) rfl <| O (r_eql rfl rfl) rfl <| O (r_assign (v := Value.bool ((rv1.Kids.length : Int) == 0)) rfl) rfl <| OW_nil <| WP_ret ?_
      obtain rfl := Option.some.inj hM
      have hM := hKhx5
      obtain rfl := Option.some.inj hM
      refine FL_nil hds ?_
      exact ⟨_, res1 Try.results50 (rv_tmp (v := Value.bool ((rv1.Kids.length : Int) == 0)) rfl), g0, ⟨[Value.bool ((rv1.Kids.length : Int) == 0)], rfl, rfl⟩, hs.ext⟩
     ·refine WP_false rfl hc14 <| WP_seq <| WP_region <| O (r_eql rfl rfl) rfl <| O (r_assign (v := Value.bool (rv1.Kind == 3)) rfl) rfl <| OW_nil ?_
      rcases condS hM with ⟨hc15, hM⟩ | ⟨hc15, hM⟩
      ·refine WP_true rfl hc15 ?_
       obtain ⟨xv6, hx7, hKhx7⟩ := bindS hM
       refine WP_cut (fun E w => E 4 = Value.bool xv6 ∧ E.ds = [] ∧ Go.Lx.Sep g0 w0 g0 w []) ?_ ?_
       ·have hM := hx7
        refine WP_region <| O (r_move (v := Value.int .i64 (rv1.Kids.length : Int)) rfl) rfl <| O (r_eql rfl rfl) rfl <| O (r_move (v := Value.bool ((rv1.Kids.length : Int) == 0)) rfl) rfl ?_
        rcases condS hM with ⟨hg8, hM⟩ | ⟨hg8, hM⟩
        ·refine OG rfl rfl rfl (by rw [hg8]; rfl) (r_fieldAddr Try.underlying50 ti48 rfl rfl (by decide) rfl rfl) rfl <| OG rfl rfl rfl (by rw [hg8]; rfl) (r_loadN (cs := rv1.Set.1.map (Value.int .u64)) ti48 rfl (by simp [rv1.Set.2]) (hs.cellsAt (i := 0) (o := 1) rfl (by intro j u hj; exact sub_at (pre := [Value.int .i64 rv1.Kind]) (ds := rv1.Set.1.map (Value.int .u64)) (post := [v1]) rfl ((by simp)) hj))) rfl <| OG rfl rfl rfl (by rw [hg8]; rfl) (r_build (vs := []) (cs := (Vec.zero 4).1.map (Value.int .u64)) rfl (by kernel_rfl)) rfl <| OG rfl rfl rfl (by rw [hg8]; rfl) (r_neqV Try.underlying48 Try.underlying46 ti46 rfl rfl eg48) rfl <| O (r_pickT (v := Value.bool (rv1.Set != (Vec.zero 4))) rfl hg8 rfl) rfl ?_
         refine O (r_assign (v := Value.bool (rv1.Set != (Vec.zero 4))) rfl) rfl <| OW_nil ?_
         obtain rfl := Option.some.inj hM
         exact ⟨rfl, hds, (hs.sub (.cons _ .slnil))⟩
        ·refine OK rfl rfl rfl (by rw [hg8]; rfl) rfl <| OK rfl rfl rfl (by rw [hg8]; rfl) rfl <| OK rfl rfl rfl (by rw [hg8]; rfl) rfl <| OK rfl rfl rfl (by rw [hg8]; rfl) rfl <| O (r_pickF (v := Value.bool false) rfl hg8 rfl) rfl <| O (r_assign (v := Value.bool false) rfl) rfl <| OW_nil ?_
         obtain rfl := Option.some.inj hM
         exact ⟨rfl, hds, (hs.sub (.cons _ .slnil))⟩
       ·clear hs
        rintro E w ⟨hE4, hds, hs⟩
        have hM := hKhx7
        obtain ⟨E, rfl⟩ := open1 (E := E) hE4
        refine WP_ret ?_
        obtain rfl := Option.some.inj hM
        have hM := hKhx5
        obtain rfl := Option.some.inj hM
        refine FL_nil hds ?_
        exact ⟨_, res1 Try.results50 (rv_tmp (v := Value.bool xv6) rfl), g0, ⟨[Value.bool xv6], rfl, rfl⟩, hs.ext⟩
      ·refine WP_false rfl hc15 ?_
       obtain ⟨xv7, hx8, hKhx8⟩ := bindS hM
       refine WP_cut (fun E w => E 1 = Value.int .i64 above1 ∧ E 2 = Value.pointer (some ⟨b1, 0, none⟩) ∧ E 5 = Value.int .i64 (rv1.Kids.length : Int) ∧ E 24 = Value.int .i64 rv1.Kind ∧ E 40 = Value.bool xv7 ∧ E.ds = [] ∧ Go.Lx.Sep g0 w0 g0 w [Go.Lx.box b1 50 (([Value.int .i64 rv1.Kind]) ++ ((rv1.Set.1.map (Value.int .u64)) ++ ([v1])))]) ?_ ?_
       ·have hM := hx8
        refine WP_seq <| WP_region <| O (r_eql rfl rfl) rfl <| O (r_assign (v := Value.bool (rv1.Kind == 4)) rfl) rfl <| OW_nil ?_
        rcases condS hM with ⟨hc17, hM⟩ | ⟨hc17, hM⟩
        ·refine WP_true rfl hc17 <| WP_skip ?_
         obtain rfl := Option.some.inj hM
         exact ⟨rfl, rfl, rfl, rfl, rfl, hds, hs⟩
        ·refine WP_false rfl hc17 <| WP_region <| O (r_eql rfl rfl) rfl <| O (r_assign (v := Value.bool (rv1.Kind == 5)) rfl) rfl <| OW_nil ?_
         obtain rfl := Option.some.inj hM
         exact ⟨rfl, rfl, rfl, rfl, rfl, hds, hs⟩
       ·clear hs
        rintro E w ⟨hE1, hE2, hE5, hE24, hE40, hds, hs⟩
        have hM := hKhx8
        obtain ⟨E, rfl⟩ := open5 (E := E) hE1 hE2 hE5 hE24 hE40
        rcases condS hM with ⟨hc18, hM⟩ | ⟨hc18, hM⟩
        ·refine WP_true rfl hc18 <| WP_seq <| WP_region <| O (r_move (v := Value.int .i64 (rv1.Kids.length : Int)) rfl) rfl <| O (r_lss rfl rfl) rfl <| OW_nil ?_
         rcases condS hM with ⟨hc19, hM⟩ | ⟨hc19, hM⟩
         ·refine WP_true rfl hc19 <| WP_seq <| WP_region <| O (r_assign (v := Value.bool false) rfl) rfl <| OW_nil <| WP_ret ?_
          obtain rfl := Option.some.inj hM
          have hM := hKhx5
          obtain rfl := Option.some.inj hM
          refine FL_nil hds ?_
          exact ⟨_, res1 Try.results50 (rv_tmp (v := Value.bool false) rfl), g0, ⟨[Value.bool false], rfl, rfl⟩, hs.ext⟩
         ·refine WP_false rfl hc19 <| WP_skip ?_
          obtain rfl := Option.some.inj hM
          exact ⟨(), rfl, rfl, rfl, rfl, hds, hs⟩
        ·refine WP_false rfl hc18 <| WP_seq <| WP_region <| O (r_eql rfl rfl) rfl <| O (r_assign (v := Value.bool (rv1.Kind == 6)) rfl) rfl <| OW_nil ?_
         rcases condS hM with ⟨hc20, hM⟩ | ⟨hc20, hM⟩
         ·refine WP_true rfl hc20 <| WP_seq <| WP_region <| O (r_move (v := Value.int .i64 (rv1.Kids.length : Int)) rfl) rfl <| O (r_neq rfl rfl) rfl <| OW_nil ?_
          rcases condS hM with ⟨hc21, hM⟩ | ⟨hc21, hM⟩
          ·refine WP_true rfl hc21 <| WP_seq <| WP_region <| O (r_assign (v := Value.bool false) rfl) rfl <| OW_nil <| WP_ret ?_
           obtain rfl := Option.some.inj hM
           have hM := hKhx5
           obtain rfl := Option.some.inj hM
           refine FL_nil hds ?_
           exact ⟨_, res1 Try.results50 (rv_tmp (v := Value.bool false) rfl), g0, ⟨[Value.bool false], rfl, rfl⟩, hs.ext⟩
          ·refine WP_false rfl hc21 <| WP_skip ?_
           obtain rfl := Option.some.inj hM
           exact ⟨(), rfl, rfl, rfl, rfl, hds, hs⟩
         ·refine WP_false rfl hc20 <| WP_seq <| WP_region <| O (r_assign (v := Value.bool false) rfl) rfl <| OW_nil <| WP_ret ?_
          obtain rfl := Option.some.inj hM
          have hM := hKhx5
          obtain rfl := Option.some.inj hM
          refine FL_nil hds ?_
          exact ⟨_, res1 Try.results50 (rv_tmp (v := Value.bool false) rfl), g0, ⟨[Value.bool false], rfl, rfl⟩, hs.ext⟩
   ·clear hs
    rintro E w ⟨_, rfl, hE1, hE2, hE5, hds, hs⟩
    have hM := hKhx5
    dsimp only [onStep] at hM
    obtain ⟨E, rfl⟩ := open3 (E := E) hE1 hE2 hE5
    obtain ⟨o4, hx9, hKhx9⟩ := stepS hM
    refine WP_cut (fun E w => ∃ u9 : Unit, o4 = .next u9 ∧ ∃ (gg7 : Hp), E.ds = [] ∧ Hle g0 gg7 ∧ Go.Lx.Sep g0 w0 gg7 w []) ?_ ?_
    ·have hM := hx9
     have hag0 := Hle.refl g0
     refine WP_seq <| WP_region <| O (r_assign (v := Value.int .i64 0) rfl) rfl <| OW_nil <| WP_block <| WP_loop (fun (i5 : Int) E w => ∃ (gg10 : Hp), E 1 = Value.int .i64 above1 ∧ E 2 = Value.pointer (some ⟨b1, 0, none⟩) ∧ E 5 = Value.int .i64 (rv1.Kids.length : Int) ∧ E 6 = Value.int .i64 i5 ∧ E.ds = [] ∧ Hle g0 gg10 ∧ Go.Lx.Sep g0 w0 gg10 w [Go.Lx.box b1 50 (([Value.int .i64 rv1.Kind]) ++ ((rv1.Set.1.map (Value.int .u64)) ++ ([v1])))]) hM ⟨g0, rfl, rfl, rfl, rfl, hds, (Hle.refl _), hs⟩ ?_
     clear hs hM
     rintro i5 o3 E w hM ⟨gg10, hE1, hE2, hE5, hE6, hds, hlegg10, hs⟩
     obtain ⟨E, rfl⟩ := open4 (E := E) hE1 hE2 hE5 hE6
     replace hRv1 := hRv1.mono hlegg10
     have hagg10 := Hle.refl gg10
     refine WP_seq <| WP_seq <| WP_region <| O (r_move (v := Value.int .i64 i5) rfl) rfl <| O (r_move (v := Value.int .i64 (rv1.Kids.length : Int)) rfl) rfl <| O (r_lss rfl rfl) rfl <| OW_nil ?_
     rcases condS hM with ⟨hc32, hM⟩ | ⟨hc32, hM⟩
     ·refine WP_true rfl hc32 <| WP_skip <| WP_seq <| WP_block <| WP_seq <| WP_region <| O (r_fieldAddr Try.underlying50 ti37 rfl rfl (by decide) rfl rfl) rfl <| O (r_load (v := v1) ti37 rfl (hs.cell (i := 0) (o := 5) rfl (by simp [rv1.Set.2]))) rfl <| O (r_move (v := Value.int .i64 i5) rfl) rfl ?_
      obtain ⟨e6, he6, hM⟩ := bindS hM
      obtain ⟨b7, ob7, cb7, hvb7, cs30, hcs30, hcb7⟩ := hRv1.at he6
      obtain ⟨cs31, cs32, cs33, rfl, hcs31, hcs32, hcs33⟩ := tT_Regex_iff.1 hcs30
      have hcs31 : cs31 = _ := hcs31; subst hcs31
      have hcs32 : cs32 = _ := hcs32; subst hcs32
      obtain ⟨v12, rfl, hRv12⟩ := hcs33
      refine O (r_idxSl Try.underlying37 ti50 (v := v1) rfl hvb7 rfl (idxL_some he6).1 (idxL_some he6).2.1) rfl <| O (r_loadEl (cs := ([Value.int .i64 e6.Kind]) ++ ((e6.Set.1.map (Value.int .u64)) ++ ([v12]))) ti50 rfl (by simp [e6.Set.2]) (.inl rfl) (hcb7 _ hs.imm) (v := Value.agg (List.toArray (α := Value) (([Value.int .i64 e6.Kind]) ++ ((e6.Set.1.map (Value.int .u64)) ++ ([v12]))))) rfl) rfl <| O (r_move (v := Value.int .i64 above1) rfl) rfl ?_
      obtain ⟨t11, ht11, hM⟩ := bindS hM
      refine O (r_addM rfl rfl ht11) rfl ?_
      obtain ⟨rv7, hrv7, hM⟩ := bindS hM
      refine C [Value.agg (List.toArray (α := Value) (([Value.int .i64 e6.Kind]) ++ ((e6.Set.1.map (Value.int .u64)) ++ ([v12])))), Value.int .i64 t11] cf50 rfl (ih_ref08_valid hrv7 hs.imm (tT_Regex_iff.2 ⟨[Value.int .i64 e6.Kind], e6.Set.1.map (Value.int .u64), [v12], rfl, rfl, rfl, ⟨_, rfl, hRv12⟩⟩)) rfl ?_
      rintro v13 wv7 ⟨gg13, hvv13, hegg13⟩
      have hlegg13 := hegg13.le hs.imm
      replace hs := hs.call hegg13
      replace hlegg10 := hlegg10.trans hlegg13
      obtain ⟨cs34, rfl, hcs34⟩ := hvv13
      have hcs34 : cs34 = _ := hcs34; subst hcs34
      refine O (r_not rfl) rfl <| OW_nil ?_
      rcases condS hM with ⟨hc33, hM⟩ | ⟨hc33, hM⟩
      ·refine WP_true rfl hc33 <| WP_seq <| WP_region <| O (r_assign (v := Value.bool false) rfl) rfl <| OW_nil <| WP_ret ?_
       obtain rfl := Option.some.inj hM
       refine fun hr => ?_
       have hM := congrArg some hr
       obtain rfl := Option.some.inj hM
       have hM := hKhx9
       obtain rfl := Option.some.inj hM
       refine FL_nil hds ?_
       exact ⟨_, res1 Try.results50 (rv_tmp (v := Value.bool false) rfl), gg13, ⟨[Value.bool false], rfl, rfl⟩, hs.ext⟩
      ·refine WP_false rfl hc33 <| WP_skip <| WP_region <| O (r_move (v := Value.int .i64 i5) rfl) rfl ?_
       obtain ⟨t12, ht12, hM⟩ := bindS hM
       refine O (r_addM rfl rfl ht12) rfl <| O (r_assign (v := Value.int .i64 t12) rfl) rfl <| OW_nil ?_
       obtain rfl := Option.some.inj hM
       exact ⟨gg13, rfl, rfl, rfl, rfl, hds, hlegg10, hs⟩
     ·refine WP_false rfl hc32 <| WP_exit ?_
      obtain rfl := Option.some.inj hM
      refine fun hr => ?_
      have hM := congrArg some hr
      obtain rfl := Option.some.inj hM
      exact ⟨(), rfl, gg10, hds, hlegg10, (hs.sub (.cons _ .slnil))⟩
    ·clear hs
     rintro E w ⟨_, rfl, gg7, hds, hlegg7, hs⟩
     have hM := hKhx9
     dsimp only [onStep] at hM
     refine WP_seq <| WP_region <| O (r_assign (v := Value.bool true) rfl) rfl <| OW_nil <| WP_ret ?_
     obtain rfl := Option.some.inj hM
     refine FL_nil hds ?_
     exact ⟨_, res1 Try.results50 (rv_tmp (v := Value.bool true) rfl), gg7, ⟨[Value.bool true], rfl, rfl⟩, hs.ext⟩
theorem ref08_valid_zero : C.ref08_valid 0 := by
  unfold C.ref08_valid
  intros
  simp_all only [M.ref08_valid, reduceCtorEq]
theorem ref08_valid_all : ∀ fl, C.ref08_valid fl := by
  intro fl
  induction fl with
  | zero => exact ref08_valid_zero
  | succ fl ih =>
    exact ref08_valid_step ih
theorem ref08_valid_ok {fl : Nat} : C.ref08_valid fl := (ref08_valid_all fl)
set_option maxRecDepth 100000 in
theorem ref08_Valid_ok {rv1 : T_Regex} {r : Bool} (hM : M.ref08_Valid rv1 = some r) {g0 : Hp} {w0 : World} (hi : Imm g0 w0) {cs1 : List Value} (hcs1 : tT_Regex.rel g0 cs1 rv1) :
    CallsV Try.prog 38 #[Value.agg cs1.toArray] w0 (fun v w' => ∃ g', (VRd tBool false g' v r) ∧ Ext g0 w0 g' w') := by
 unfold M.ref08_Valid at hM
 obtain ⟨cs2, cs3, cs4, rfl, hcs2, hcs3, hcs4⟩ := tT_Regex_iff.1 hcs1
 have hcs2 : cs2 = _ := hcs2; subst hcs2
 have hcs3 : cs3 = _ := hcs3; subst hcs3
 obtain ⟨v1, rfl, hRv1⟩ := hcs4
 have hs := Sep.start hi
 refine calls_of_WP (args := [Value.agg (List.toArray (α := Value) (([Value.int .i64 rv1.Kind]) ++ ((rv1.Set.1.map (Value.int .u64)) ++ ([v1]))))]) Try.func38 rfl Try.ntmps38 rfl ?_
 have hds : (argEnv [Value.agg (List.toArray (α := Value) (([Value.int .i64 rv1.Kind]) ++ ((rv1.Set.1.map (Value.int .u64)) ++ ([v1]))))]).ds = [] := rfl
 refine WP_seq <| WP_region <| OW_box (v := Value.agg (List.toArray (α := Value) (([Value.int .i64 rv1.Kind]) ++ ((rv1.Set.1.map (Value.int .u64)) ++ ([v1]))))) rfl hs (zs := ([Value.int .i64 rv1.Kind]) ++ ((rv1.Set.1.map (Value.int .u64)) ++ ([v1]))) rfl rfl ?_
 intro b1 wv1 hs
 refine O (r_assign (v := Value.bool false) rfl) rfl <| OW_nil <| WP_seq <| WP_region <| O (r_loadN (cs := ([Value.int .i64 rv1.Kind]) ++ ((rv1.Set.1.map (Value.int .u64)) ++ ([v1]))) ti50 rfl (by simp [rv1.Set.2]) (hs.cells (i := 0) rfl)) rfl ?_
 obtain ⟨rv2, hrv2, hM⟩ := bindS hM
 refine C [Value.agg (List.toArray (α := Value) (([Value.int .i64 rv1.Kind]) ++ ((rv1.Set.1.map (Value.int .u64)) ++ ([v1])))), Value.int .i64 0] cf50 rfl (ref08_valid_ok hrv2 hs.imm (tT_Regex_iff.2 ⟨[Value.int .i64 rv1.Kind], rv1.Set.1.map (Value.int .u64), [v1], rfl, rfl, rfl, ⟨_, rfl, hRv1⟩⟩)) rfl ?_
 rintro v2 wv2 ⟨gg1, hvv2, hegg1⟩
 have hlegg1 := hegg1.le hs.imm
 replace hs := hs.call hegg1
 obtain ⟨cs5, rfl, hcs5⟩ := hvv2
 have hcs5 : cs5 = _ := hcs5; subst hcs5
 refine O (r_assign (v := Value.bool rv2) rfl) rfl <| OW_nil <| WP_ret ?_
 obtain rfl := Option.some.inj hM
 refine FL_nil hds ?_
 exact ⟨_, res1 Try.results38 (rv_tmp (v := Value.bool rv2) rfl), gg1, ⟨[Value.bool rv2], rfl, rfl⟩, hs.ext⟩
def C.ref09_Nodes (fl : Nat) : Prop := ∀ {rv1 : T_Regex} {r : Int} (_ : M.ref09_Nodes fl rv1 = some r) {g0 : Hp} {w0 : World} (hi : Imm g0 w0) {cs1 : List Value} (hcs1 : tT_Regex.rel g0 cs1 rv1),
    CallsV Try.prog 39 #[Value.agg cs1.toArray] w0 (fun v w' => ∃ g', (VRd (tInt .i64) false g' v r) ∧ Ext g0 w0 g' w')
set_option maxRecDepth 100000 in
theorem ref09_Nodes_step {fl : Nat} (ih_ref09_Nodes : C.ref09_Nodes fl) : C.ref09_Nodes (fl + 1) := by
 intro rv1 r hM g0 w0 hi cs1 hcs1
 unfold M.ref09_Nodes at hM
 obtain ⟨cs2, cs3, cs4, rfl, hcs2, hcs3, hcs4⟩ := tT_Regex_iff.1 hcs1
 have hcs2 : cs2 = _ := hcs2; subst hcs2
 have hcs3 : cs3 = _ := hcs3; subst hcs3
 obtain ⟨v1, rfl, hRv1⟩ := hcs4
 have hs := Sep.start hi
 refine calls_of_WP (args := [Value.agg (List.toArray (α := Value) (([Value.int .i64 rv1.Kind]) ++ ((rv1.Set.1.map (Value.int .u64)) ++ ([v1]))))]) Try.func39 rfl Try.ntmps39 rfl ?_
 have hds : (argEnv [Value.agg (List.toArray (α := Value) (([Value.int .i64 rv1.Kind]) ++ ((rv1.Set.1.map (Value.int .u64)) ++ ([v1]))))]).ds = [] := rfl
 refine WP_seq <| WP_region <| OW_box (v := Value.agg (List.toArray (α := Value) (([Value.int .i64 rv1.Kind]) ++ ((rv1.Set.1.map (Value.int .u64)) ++ ([v1]))))) rfl hs (zs := ([Value.int .i64 rv1.Kind]) ++ ((rv1.Set.1.map (Value.int .u64)) ++ ([v1]))) rfl rfl ?_
 intro b1 wv1 hs
 refine O (r_assign (v := Value.int .i64 0) rfl) rfl <| OW_nil <| WP_seq <| WP_region <| O (r_assign (v := Value.int .i64 1) rfl) rfl <| OW_nil ?_
 obtain ⟨nv4, hx1, hKhx1⟩ := bindS hM
 refine WP_cut (fun E w => ∃ (gg7 : Hp), E 3 = Value.int .i64 nv4 ∧ E.ds = [] ∧ Hle g0 gg7 ∧ Go.Lx.Sep g0 w0 gg7 w []) ?_ ?_
 ·have hM := hx1
  have hag0 := Hle.refl g0
  refine WP_seq <| WP_region <| O (r_assign (v := Value.int .i64 0) rfl) rfl <| OW_nil <| WP_block <| WP_loop (fun (st9 : Int × Int) E w => match st9 with | (nv6, i5) => ∃ (gg10 : Hp), E 1 = Value.pointer (some ⟨b1, 0, none⟩) ∧ E 3 = Value.int .i64 nv6 ∧ E 4 = Value.int .i64 i5 ∧ E.ds = [] ∧ Hle g0 gg10 ∧ Go.Lx.Sep g0 w0 gg10 w [Go.Lx.box b1 50 (([Value.int .i64 rv1.Kind]) ++ ((rv1.Set.1.map (Value.int .u64)) ++ ([v1])))]) hM ⟨g0, rfl, rfl, rfl, hds, (Hle.refl _), hs⟩ ?_
  clear hs hM
  rintro ⟨nv6, i5⟩ o2 E w hM ⟨gg10, hE1, hE3, hE4, hds, hlegg10, hs⟩
  obtain ⟨E, rfl⟩ := open3 (E := E) hE1 hE3 hE4
  replace hRv1 := hRv1.mono hlegg10
  have hagg10 := Hle.refl gg10
  refine WP_seq <| WP_seq <| WP_region <| O (r_move (v := Value.int .i64 i5) rfl) rfl <| O (r_fieldAddr Try.underlying50 ti37 rfl rfl (by decide) rfl rfl) rfl <| O (r_load (v := v1) ti37 rfl (hs.cell (i := 0) (o := 5) rfl (by simp [rv1.Set.2]))) rfl ?_
  obtain ⟨a6, ca6, hva6⟩ := hRv1.shape
  refine O (r_lenSl (v := v1) Try.underlying37 rfl hva6) rfl <| O (r_lss rfl rfl) rfl <| OW_nil ?_
  rcases condS hM with ⟨hc6, hM⟩ | ⟨hc6, hM⟩
  ·refine WP_true rfl hc6 <| WP_skip <| WP_seq <| WP_block <| WP_region <| O (r_move (v := Value.int .i64 nv6) rfl) rfl <| O (r_fieldAddr Try.underlying50 ti37 rfl rfl (by decide) rfl rfl) rfl <| O (r_load (v := v1) ti37 rfl (hs.cell (i := 0) (o := 5) rfl (by simp [rv1.Set.2]))) rfl <| O (r_move (v := Value.int .i64 i5) rfl) rfl ?_
   obtain ⟨e6, he6, hM⟩ := bindS hM
   obtain ⟨b7, ob7, cb7, hvb7, cs30, hcs30, hcb7⟩ := hRv1.at he6
   obtain ⟨cs31, cs32, cs33, rfl, hcs31, hcs32, hcs33⟩ := tT_Regex_iff.1 hcs30
   have hcs31 : cs31 = _ := hcs31; subst hcs31
   have hcs32 : cs32 = _ := hcs32; subst hcs32
   obtain ⟨v12, rfl, hRv12⟩ := hcs33
   refine O (r_idxSl Try.underlying37 ti50 (v := v1) rfl hvb7 rfl (idxL_some he6).1 (idxL_some he6).2.1) rfl <| O (r_loadEl (cs := ([Value.int .i64 e6.Kind]) ++ ((e6.Set.1.map (Value.int .u64)) ++ ([v12]))) ti50 rfl (by simp [e6.Set.2]) (.inl rfl) (hcb7 _ hs.imm) (v := Value.agg (List.toArray (α := Value) (([Value.int .i64 e6.Kind]) ++ ((e6.Set.1.map (Value.int .u64)) ++ ([v12]))))) rfl) rfl ?_
   obtain ⟨rv7, hrv7, hM⟩ := bindS hM
   refine C [Value.agg (List.toArray (α := Value) (([Value.int .i64 e6.Kind]) ++ ((e6.Set.1.map (Value.int .u64)) ++ ([v12]))))] cf39 rfl (ih_ref09_Nodes hrv7 hs.imm (tT_Regex_iff.2 ⟨[Value.int .i64 e6.Kind], e6.Set.1.map (Value.int .u64), [v12], rfl, rfl, rfl, ⟨_, rfl, hRv12⟩⟩)) rfl ?_
   rintro v13 wv7 ⟨gg13, hvv13, hegg13⟩
   have hlegg13 := hegg13.le hs.imm
   replace hs := hs.call hegg13
   replace hlegg10 := hlegg10.trans hlegg13
   obtain ⟨cs34, rfl, hcs34⟩ := hvv13
   have hcs34 : cs34 = _ := hcs34; subst hcs34
   obtain ⟨t11, ht11, hM⟩ := bindS hM
   refine O (r_addM rfl rfl ht11) rfl <| O (r_assign (v := Value.int .i64 t11) rfl) rfl <| OW_nil <| WP_region <| O (r_move (v := Value.int .i64 i5) rfl) rfl ?_
   obtain ⟨t12, ht12, hM⟩ := bindS hM
   refine O (r_addM rfl rfl ht12) rfl <| O (r_assign (v := Value.int .i64 t12) rfl) rfl <| OW_nil ?_
   obtain rfl := Option.some.inj hM
   exact ⟨gg13, rfl, rfl, rfl, hds, hlegg10, hs⟩
  ·refine WP_false rfl hc6 <| WP_exit ?_
   obtain rfl := Option.some.inj hM
   refine fun hr => ?_
   have hM := congrArg some hr
   obtain rfl := Option.some.inj hM
   exact ⟨gg10, rfl, hds, hlegg10, (hs.sub (.cons _ .slnil))⟩
 ·clear hs
  rintro E w ⟨gg7, hE3, hds, hlegg7, hs⟩
  have hM := hKhx1
  obtain ⟨E, rfl⟩ := open1 (E := E) hE3
  refine WP_seq <| WP_region <| O (r_move (v := Value.int .i64 nv4) rfl) rfl <| O (r_assign (v := Value.int .i64 nv4) rfl) rfl <| OW_nil <| WP_ret ?_
  obtain rfl := Option.some.inj hM
  refine FL_nil hds ?_
  exact ⟨_, res1 Try.results39 (rv_tmp (v := Value.int .i64 nv4) rfl), gg7, ⟨[Value.int .i64 nv4], rfl, rfl⟩, hs.ext⟩
theorem ref09_Nodes_zero : C.ref09_Nodes 0 := by
  unfold C.ref09_Nodes
  intros
  simp_all only [M.ref09_Nodes, reduceCtorEq]
theorem ref09_Nodes_all : ∀ fl, C.ref09_Nodes fl := by
  intro fl
  induction fl with
  | zero => exact ref09_Nodes_zero
  | succ fl ih =>
    exact ref09_Nodes_step ih
theorem ref09_Nodes_ok {fl : Nat} : C.ref09_Nodes fl := (ref09_Nodes_all fl)
set_option maxRecDepth 100000 in
theorem ref09_Check_ok {l1 : (List T_Regex)} {r : Int} (hM : M.ref09_Check l1 = some r) {g0 : Hp} {w0 : World} (hi : Imm g0 w0) {v1 : Value} (hRv1 : RdS tT_Regex g0 v1 l1) :
    CallsV Try.prog 28 #[v1] w0 (fun v w' => ∃ g', (VRd (tInt .i64) false g' v r) ∧ Ext g0 w0 g' w') := by
 unfold M.ref09_Check at hM
 have hs := Sep.start hi
 refine calls_of_WP (args := [v1]) Try.func28 rfl Try.ntmps28 rfl ?_
 have hds : (argEnv [v1]).ds = [] := rfl
 refine WP_seq <| WP_region <| O (r_assign (v := Value.int .i64 0) rfl) rfl <| OW_nil <| WP_seq <| WP_region <| O (r_assign (v := Value.int .i64 0) rfl) rfl <| OW_nil ?_
 obtain ⟨o3, hx1, hKhx1⟩ := stepS hM
 refine WP_cut (fun E w => ∃ (total4 : Int), o3 = .next total4 ∧ ∃ (gg10 : Hp), E 3 = Value.int .i64 total4 ∧ E.ds = [] ∧ Hle g0 gg10 ∧ Go.Lx.Sep g0 w0 gg10 w []) ?_ ?_
 ·have hM := hx1
  have hag0 := Hle.refl g0
  refine WP_seq <| WP_region <| O (r_assign (v := Value.int .i64 0) rfl) rfl <| OW_nil <| WP_block <| WP_loop (fun (st9 : Int × Int) E w => match st9 with | (total6, i5) => ∃ (gg14 : Hp), E 0 = v1 ∧ E 3 = Value.int .i64 total6 ∧ E 4 = Value.int .i64 i5 ∧ E.ds = [] ∧ Hle g0 gg14 ∧ Go.Lx.Sep g0 w0 gg14 w []) hM ⟨g0, rfl, rfl, rfl, hds, (Hle.refl _), hs⟩ ?_
  clear hs hM
  rintro ⟨total6, i5⟩ o2 E w hM ⟨gg14, hE0, hE3, hE4, hds, hlegg14, hs⟩
  obtain ⟨E, rfl⟩ := open3 (E := E) hE0 hE3 hE4
  replace hRv1 := hRv1.mono hlegg14
  have hagg14 := Hle.refl gg14
  refine WP_seq <| WP_seq <| WP_region <| O (r_move (v := Value.int .i64 i5) rfl) rfl <| O (r_move (v := v1) rfl) rfl ?_
  obtain ⟨a6, ca6, hva6⟩ := hRv1.shape
  refine O (r_lenSl (v := v1) Try.underlying37 rfl hva6) rfl <| O (r_lss rfl rfl) rfl <| OW_nil ?_
  rcases condS hM with ⟨hc11, hM⟩ | ⟨hc11, hM⟩
  ·refine WP_true rfl hc11 <| WP_skip <| WP_seq <| WP_block <| WP_seq <| WP_seq <| WP_region <| O (r_move (v := v1) rfl) rfl <| O (r_move (v := Value.int .i64 i5) rfl) rfl ?_
   obtain ⟨e6, he6, hM⟩ := bindS hM
   obtain ⟨b11, ob11, cb11, hvb11, cs51, hcs51, hcb11⟩ := hRv1.at he6
   obtain ⟨cs52, cs53, cs54, rfl, hcs52, hcs53, hcs54⟩ := tT_Regex_iff.1 hcs51
   have hcs52 : cs52 = _ := hcs52; subst hcs52
   have hcs53 : cs53 = _ := hcs53; subst hcs53
   obtain ⟨v22, rfl, hRv22⟩ := hcs54
   refine O (r_idxSl Try.underlying37 ti50 (v := v1) rfl hvb11 rfl (idxL_some he6).1 (idxL_some he6).2.1) rfl <| O (r_loadEl (cs := ([Value.int .i64 e6.Kind]) ++ ((e6.Set.1.map (Value.int .u64)) ++ ([v22]))) ti50 rfl (by simp [e6.Set.2]) (.inl rfl) (hcb11 _ hs.imm) (v := Value.agg (List.toArray (α := Value) (([Value.int .i64 e6.Kind]) ++ ((e6.Set.1.map (Value.int .u64)) ++ ([v22]))))) rfl) rfl ?_
   obtain ⟨rv11, hrv11, hM⟩ := bindS hM
   refine C [Value.agg (List.toArray (α := Value) (([Value.int .i64 e6.Kind]) ++ ((e6.Set.1.map (Value.int .u64)) ++ ([v22]))))] cf38 rfl (ref08_Valid_ok hrv11 hs.imm (tT_Regex_iff.2 ⟨[Value.int .i64 e6.Kind], e6.Set.1.map (Value.int .u64), [v22], rfl, rfl, rfl, ⟨_, rfl, hRv22⟩⟩)) rfl ?_
   rintro v23 wv11 ⟨gg18, hvv23, hegg18⟩
   have hlegg18 := hegg18.le hs.imm
   replace hs := hs.call hegg18
   replace hRv1 := hRv1.mono hlegg18
   replace hlegg14 := hlegg14.trans hlegg18
   obtain ⟨cs55, rfl, hcs55⟩ := hvv23
   have hcs55 : cs55 = _ := hcs55; subst hcs55
   refine O (r_not rfl) rfl <| OW_nil ?_
   rcases condS hM with ⟨hc12, hM⟩ | ⟨hc12, hM⟩
   ·refine WP_true rfl hc12 <| WP_seq <| WP_region <| O (r_assign (v := Value.int .i64 1) rfl) rfl <| OW_nil <| WP_ret ?_
    obtain rfl := Option.some.inj hM
    refine fun hr => ?_
    have hM := congrArg some hr
    obtain rfl := Option.some.inj hM
    have hM := hKhx1
    obtain rfl := Option.some.inj hM
    refine FL_nil hds ?_
    exact ⟨_, res1 Try.results28 (rv_tmp (v := Value.int .i64 1) rfl), gg18, ⟨[Value.int .i64 1], rfl, rfl⟩, hs.ext⟩
   ·refine WP_false rfl hc12 <| WP_skip <| WP_region <| O (r_move (v := Value.int .i64 total6) rfl) rfl <| O (r_move (v := v1) rfl) rfl <| O (r_move (v := Value.int .i64 i5) rfl) rfl ?_
    obtain ⟨b12, ob12, cb12, hvb12, cs56, hcs56, hcb12⟩ := hRv1.at he6
    obtain ⟨cs57, cs58, cs59, rfl, hcs57, hcs58, hcs59⟩ := tT_Regex_iff.1 hcs56
    have hcs57 : cs57 = _ := hcs57; subst hcs57
    have hcs58 : cs58 = _ := hcs58; subst hcs58
    obtain ⟨v24, rfl, hRv24⟩ := hcs59
    refine O (r_idxSl Try.underlying37 ti50 (v := v1) rfl hvb12 rfl (idxL_some he6).1 (idxL_some he6).2.1) rfl <| O (r_loadEl (cs := ([Value.int .i64 e6.Kind]) ++ ((e6.Set.1.map (Value.int .u64)) ++ ([v24]))) ti50 rfl (by simp [e6.Set.2]) (.inl rfl) (hcb12 _ hs.imm) (v := Value.agg (List.toArray (α := Value) (([Value.int .i64 e6.Kind]) ++ ((e6.Set.1.map (Value.int .u64)) ++ ([v24]))))) rfl) rfl ?_
    obtain ⟨rv12, hrv12, hM⟩ := bindS hM
    refine C [Value.agg (List.toArray (α := Value) (([Value.int .i64 e6.Kind]) ++ ((e6.Set.1.map (Value.int .u64)) ++ ([v24]))))] cf39 rfl (ref09_Nodes_ok hrv12 hs.imm (tT_Regex_iff.2 ⟨[Value.int .i64 e6.Kind], e6.Set.1.map (Value.int .u64), [v24], rfl, rfl, rfl, ⟨_, rfl, hRv24⟩⟩)) rfl ?_
    rintro v25 wv12 ⟨gg19, hvv25, hegg19⟩
    have hlegg19 := hegg19.le hs.imm
    replace hs := hs.call hegg19
    replace hlegg14 := hlegg14.trans hlegg19
    obtain ⟨cs60, rfl, hcs60⟩ := hvv25
    have hcs60 : cs60 = _ := hcs60; subst hcs60
    obtain ⟨t11, ht11, hM⟩ := bindS hM
    refine O (r_addM rfl rfl ht11) rfl <| O (r_assign (v := Value.int .i64 t11) rfl) rfl <| OW_nil <| WP_region <| O (r_move (v := Value.int .i64 i5) rfl) rfl ?_
    obtain ⟨t12, ht12, hM⟩ := bindS hM
    refine O (r_addM rfl rfl ht12) rfl <| O (r_assign (v := Value.int .i64 t12) rfl) rfl <| OW_nil ?_
    obtain rfl := Option.some.inj hM
    exact ⟨gg19, rfl, rfl, rfl, hds, hlegg14, hs⟩
  ·refine WP_false rfl hc11 <| WP_exit ?_
   obtain rfl := Option.some.inj hM
   refine fun hr => ?_
   have hM := congrArg some hr
   obtain rfl := Option.some.inj hM
   exact ⟨total6, rfl, gg14, rfl, hds, hlegg14, hs⟩
 ·clear hs
  rintro E w ⟨total4, rfl, gg10, hE3, hds, hlegg10, hs⟩
  have hM := hKhx1
  dsimp only [onStep] at hM
  obtain ⟨E, rfl⟩ := open1 (E := E) hE3
  refine WP_seq <| WP_seq <| WP_region <| O (r_move (v := Value.int .i64 total4) rfl) rfl <| O (r_gtr rfl rfl) rfl <| OW_nil ?_
  rcases condS hM with ⟨hc13, hM⟩ | ⟨hc13, hM⟩
  ·refine WP_true rfl hc13 <| WP_seq <| WP_region <| O (r_assign (v := Value.int .i64 11) rfl) rfl <| OW_nil <| WP_ret ?_
   obtain rfl := Option.some.inj hM
   refine FL_nil hds ?_
   exact ⟨_, res1 Try.results28 (rv_tmp (v := Value.int .i64 11) rfl), gg10, ⟨[Value.int .i64 11], rfl, rfl⟩, hs.ext⟩
  ·refine WP_false rfl hc13 <| WP_skip <| WP_seq <| WP_region <| O (r_assign (v := Value.int .i64 0) rfl) rfl <| OW_nil <| WP_ret ?_
   obtain rfl := Option.some.inj hM
   refine FL_nil hds ?_
   exact ⟨_, res1 Try.results28 (rv_tmp (v := Value.int .i64 0) rfl), gg10, ⟨[Value.int .i64 0], rfl, rfl⟩, hs.ext⟩
end Go.Proofs.Ytajmekjcnbmaaaa
