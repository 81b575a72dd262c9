/- The walks: what each function does is what its model says. Printed by a program of my own. -/
import Derived.Test.YtajmekjcnbmaaaaTyp
set_option linter.unusedVariables false
set_option linter.unusedSimpArgs false
namespace Go.Proofs.Ytajmekjcnbmaaaa
open Go.Lx Go.RowKit
set_option maxRecDepth 100000 in
theorem ref09_list_ok {inv1 : (List Bool)} {r : (List Int)} (hM : M.ref09_list inv1 = some r) {g0 : Hp} {w0 : World} (hi : Imm g0 w0) {v1 : Value} (hRv1 : RdS tBool g0 v1 inv1) :
    CallsV Try.prog 35 #[v1] w0 (fun v w' => ∃ g' y0, (RowRel (tInt .i64) g' y0 r) ∧ Sep g0 w0 g' w' [.row v 3 (tInt .i64).sz r.length y0]) := by
 unfold M.ref09_list at hM
 have hs := Sep.start hi
 refine calls_of_WP (args := [v1]) Try.func35 rfl Try.ntmps35 rfl ?_
 have hds : (argEnv [v1]).ds = [] := rfl
 refine WP_seq <| WP_region <| O (r_assign (v := Value.slice none 0 0) rfl) rfl <| OW_nil <| WP_seq <| WP_region <| O (r_assign (v := Value.slice none 0 0) rfl) rfl <| OW_nil ?_
 obtain ⟨xv4, hx4, hKhx4⟩ := bindS hM
 refine WP_cut (fun E w => ∃ (v20 : Value) (xs21 : List Value), E 3 = v20 ∧ E.ds = [] ∧ RowRel (tInt .i64) g0 xs21 xv4 ∧ Go.Lx.Sep g0 w0 g0 w [.row v20 3 (tInt .i64).sz xv4.length xs21]) ?_ ?_
 ·have hM := hx4
  have hag0 := Hle.refl g0
  refine WP_seq <| WP_region <| O (r_assign (v := Value.int .i64 0) rfl) rfl <| OW_nil <| WP_block ?_
  have hs := hs.nilRow 3 (tInt .i64).sz
  refine WP_loop (fun (st9 : (List Int) × Int) E w => match st9 with | (xv6, i5) => ∃ (v27 : Value) (xs30 : List Value), E 0 = v1 ∧ E 3 = v27 ∧ E 4 = Value.int .i64 i5 ∧ E.ds = [] ∧ RowRel (tInt .i64) g0 xs30 xv6 ∧ Go.Lx.Sep g0 w0 g0 w [.row v27 3 (tInt .i64).sz xv6.length xs30]) hM ⟨(Value.slice none 0 0), [], rfl, rfl, rfl, hds, RowRel.nil, hs⟩ ?_
  clear hs hM
  rintro ⟨xv6, i5⟩ o2 E w hM ⟨v27, xs30, hE0, hE3, hE4, hds, hrelxs30, hs⟩
  obtain ⟨E, rfl⟩ := open3 (E := E) hE0 hE3 hE4
  refine WP_seq <| WP_seq <| WP_region <| O (r_move (v := Value.int .i64 i5) rfl) rfl <| O (r_move (v := v1) rfl) rfl ?_
  obtain ⟨a6, ca6, hva6⟩ := hRv1.shape
  refine O (r_lenSl (v := v1) Try.underlying56 rfl hva6) rfl <| O (r_lss rfl rfl) rfl <| OW_nil ?_
  rcases condS hM with ⟨hc16, hM⟩ | ⟨hc16, hM⟩
  ·refine WP_true rfl hc16 <| WP_skip ?_
   obtain ⟨out11, hx7, hKhx7⟩ := bindS hM
   refine WP_cut (fun E w => ∃ (v36 : Value) (xs39 : List Value), E 0 = v1 ∧ E 3 = v36 ∧ E 4 = Value.int .i64 i5 ∧ E.ds = [] ∧ RowRel (tInt .i64) g0 xs39 out11 ∧ Go.Lx.Sep g0 w0 g0 w [.row v36 3 (tInt .i64).sz out11.length xs39]) ?_ ?_
   ·have hM := hx7
    refine WP_block <| WP_seq <| WP_region <| O (r_move (v := v1) rfl) rfl <| O (r_move (v := Value.int .i64 i5) rfl) rfl ?_
    obtain ⟨e12, he12, hM⟩ := bindS hM
    obtain ⟨b12, ob12, cb12, hvb12, cs12, hcs12, hcb12⟩ := hRv1.at he12
    have hcs12 : cs12 = _ := hcs12; subst hcs12
    refine O (r_idxSl Try.underlying56 ti4 (v := v1) rfl hvb12 rfl (idxL_some he12).1 (idxL_some he12).2.1) rfl <| O (r_loadEl (cs := [Value.bool e12]) ti4 rfl rfl (.inr rfl) (hcb12 _ hs.imm) (v := Value.bool e12) rfl) rfl <| OW_nil ?_
    rcases condS hM with ⟨hc18, hM⟩ | ⟨hc18, hM⟩
    ·refine WP_true rfl hc18 <| WP_region <| O (r_move (v := v27) rfl) rfl <| O (r_move (v := Value.int .i64 i5) rfl) rfl <| OW_lit (τ := (tInt .i64)) [Value.int .i64 i5] [i5] Try.underlying23 ti3 (by decide) hs rfl rfl rfl ⟨rfl, trivial⟩ rfl ?_
     intro v37 wv23 xs40 hrelxs40 hs
     obtain ⟨out12, hout12, hM⟩ := bindS hM
     refine OW_append Try.underlying23 ti3 rfl (by decide) (by decide) hs (i := 1) rfl hrelxs30 (v := v27) rfl (u := v37) rfl (hs.rowSrc (i := 0) rfl) hrelxs40 hout12 rfl ?_
     intro v38 wv24 xs41 hrelxs41 hs
     refine O (r_assign (v := v38) rfl) rfl <| OW_nil ?_
     obtain rfl := Option.some.inj hM
     exact ⟨v38, xs41, rfl, rfl, rfl, hds, hrelxs41, (hs.sub (.cons _ (.cons_cons _ .slnil)))⟩
    ·refine WP_false rfl hc18 <| WP_skip ?_
     obtain rfl := Option.some.inj hM
     exact ⟨v27, xs30, rfl, rfl, rfl, hds, hrelxs30, hs⟩
   ·clear hs
    rintro E w ⟨v36, xs39, hE0, hE3, hE4, hds, hrelxs39, hs⟩
    have hM := hKhx7
    obtain ⟨E, rfl⟩ := open3 (E := E) hE0 hE3 hE4
    refine WP_region <| O (r_move (v := Value.int .i64 i5) rfl) rfl ?_
    obtain ⟨t6, ht6, hM⟩ := bindS hM
    refine O (r_addM rfl rfl ht6) rfl <| O (r_assign (v := Value.int .i64 t6) rfl) rfl <| OW_nil ?_
    obtain rfl := Option.some.inj hM
    exact ⟨v36, xs39, rfl, rfl, rfl, hds, hrelxs39, hs⟩
  ·refine WP_false rfl hc16 <| WP_exit ?_
   obtain rfl := Option.some.inj hM
   refine fun hr => ?_
   have hM := congrArg some hr
   obtain rfl := Option.some.inj hM
   exact ⟨v27, xs30, rfl, hds, hrelxs30, hs⟩
 ·clear hs
  rintro E w ⟨v20, xs21, hE3, hds, hrelxs21, hs⟩
  have hM := hKhx4
  obtain ⟨E, rfl⟩ := open1 (E := E) hE3
  refine WP_seq <| WP_region <| O (r_move (v := v20) rfl) rfl <| O (r_assign (v := v20) rfl) rfl <| OW_nil <| WP_ret ?_
  obtain rfl := Option.some.inj hM
  refine FL_nil hds ?_
  exact ⟨_, res1 Try.results35 (rv_tmp (v := v20) rfl), g0, xs21, hrelxs21, hs⟩

set_option maxRecDepth 100000 in
theorem ref09_Closure_ok {p1 : T_NFA} {p2 : (List Int)} {r : (List Int)} (hM : M.ref09_Closure p1 p2 = some r) {g0 : Hp} {w0 : World} (hi : Imm g0 w0) {cs1 : List Value} (hcs1 : tT_NFA.rel g0 cs1 p1) {v1 : Value} (hRv1 : RdS (tInt .i64) g0 v1 p2) :
    CallsV Try.prog 17 #[Value.agg cs1.toArray, v1] w0 (fun v w' => ∃ g' y0, (RowRel (tInt .i64) g' y0 r) ∧ Sep g0 w0 g' w' [.row v 3 (tInt .i64).sz r.length y0]) := by
 unfold M.ref09_Closure at hM
 obtain ⟨cs2, cs3, cs4, cs5, rfl, hcs2, hcs3, hcs4, hcs5⟩ := hcs1
 have hcs2 : cs2 = _ := hcs2; subst hcs2
 have hcs3 : cs3 = _ := hcs3; subst hcs3
 obtain ⟨v2, rfl, hRv2⟩ := hcs4
 obtain ⟨v3, rfl, hRv3⟩ := hcs5
 have hs := Sep.start hi
 refine calls_of_WP (args := [Value.agg (List.toArray (α := Value) [Value.int .i64 p1.States, Value.int .i64 p1.Start, v2, v3]), v1]) Try.func17 rfl Try.ntmps17 rfl ?_
 have hds : (argEnv [Value.agg (List.toArray (α := Value) [Value.int .i64 p1.States, Value.int .i64 p1.Start, v2, v3]), v1]).ds = [] := rfl
 refine WP_seq <| WP_region <| OW_box (v := Value.agg (List.toArray (α := Value) [Value.int .i64 p1.States, Value.int .i64 p1.Start, v2, v3])) rfl hs (zs := [Value.int .i64 p1.States, Value.int .i64 p1.Start, v2, v3]) rfl rfl ?_
 intro b1 wv1 hs
 refine O (r_assign (v := Value.slice none 0 0) rfl) rfl <| OW_nil <| WP_seq <| WP_region <| O (r_fieldAddr Try.underlying25 ti3 rfl rfl (by decide) rfl rfl) rfl <| O (r_load (v := Value.int .i64 p1.States) ti3 rfl (hs.cell (i := 0) (o := 0) rfl rfl)) rfl ?_
 obtain ⟨l1, hl1, hM⟩ := bindS hM
 refine OW_make (τ := tBool) (zc := [Value.bool false]) (zx := false) Try.underlying56 ti4 rfl rfl (by decide) hs rfl rfl hl1 rfl ?_
 intro v4 wv2 xs1 hrelxs1 hs
 refine O (r_assign (v := v4) rfl) rfl <| OW_nil ?_
 obtain ⟨l5, hx10, hKhx10⟩ := bindS hM
 refine WP_cut (fun E w => ∃ (v11 : Value) (xs14 : List Value), E 2 = Value.pointer (some ⟨b1, 0, none⟩) ∧ E 5 = v11 ∧ E.ds = [] ∧ RowRel tBool g0 xs14 l5 ∧ Go.Lx.Sep g0 w0 g0 w [.row v11 4 tBool.sz l5.length xs14, Go.Lx.box b1 25 ([Value.int .i64 p1.States, Value.int .i64 p1.Start, v2, v3])]) ?_ ?_
 ·have hM := hx10
  have hag0 := Hle.refl g0
  refine WP_seq <| WP_region <| O (r_assign (v := Value.int .i64 0) rfl) rfl <| OW_nil <| WP_block <| WP_loop (fun (st9 : (List Bool) × Int) E w => match st9 with | (l7, xv13) => ∃ (v14 : Value) (xs19 : List Value), E 1 = v1 ∧ E 2 = Value.pointer (some ⟨b1, 0, none⟩) ∧ E 5 = v14 ∧ E 6 = Value.int .i64 xv13 ∧ E.ds = [] ∧ RowRel tBool g0 xs19 l7 ∧ Go.Lx.Sep g0 w0 g0 w [.row v14 4 tBool.sz l7.length xs19, Go.Lx.box b1 25 ([Value.int .i64 p1.States, Value.int .i64 p1.Start, v2, v3])]) hM ⟨v4, xs1, rfl, rfl, rfl, rfl, hds, hrelxs1, hs⟩ ?_
  clear hs hM
  rintro ⟨l7, xv13⟩ o2 E w hM ⟨v14, xs19, hE1, hE2, hE5, hE6, hds, hrelxs19, hs⟩
  obtain ⟨E, rfl⟩ := open4 (E := E) hE1 hE2 hE5 hE6
  refine WP_seq <| WP_seq <| WP_region <| O (r_move (v := Value.int .i64 xv13) rfl) rfl <| O (r_move (v := v1) rfl) rfl ?_
  obtain ⟨a6, ca6, hva6⟩ := hRv1.shape
  refine O (r_lenSl (v := v1) Try.underlying23 rfl hva6) rfl <| O (r_lss rfl rfl) rfl <| OW_nil ?_
  rcases condS hM with ⟨hc16, hM⟩ | ⟨hc16, hM⟩
  ·refine WP_true rfl hc16 <| WP_skip ?_
   obtain ⟨y17, hx18, hKhx18⟩ := bindS hM
   refine WP_cut (fun E w => ∃ (v17 : Value) (xs25 : List Value), E 1 = v1 ∧ E 2 = Value.pointer (some ⟨b1, 0, none⟩) ∧ E 5 = v17 ∧ E 6 = Value.int .i64 xv13 ∧ E.ds = [] ∧ RowRel tBool g0 xs25 y17 ∧ Go.Lx.Sep g0 w0 g0 w [.row v17 4 tBool.sz y17.length xs25, Go.Lx.box b1 25 ([Value.int .i64 p1.States, Value.int .i64 p1.Start, v2, v3])]) ?_ ?_
   ·have hM := hx18
    refine WP_block ?_
    obtain ⟨xv18, hx19, hKhx19⟩ := bindS hM
    refine WP_cut (fun E w => E 1 = v1 ∧ E 2 = Value.pointer (some ⟨b1, 0, none⟩) ∧ E 5 = v14 ∧ E 6 = Value.int .i64 xv13 ∧ E 32 = Value.bool xv18 ∧ E.ds = [] ∧ Go.Lx.Sep g0 w0 g0 w [.row v14 4 tBool.sz l7.length xs19, Go.Lx.box b1 25 ([Value.int .i64 p1.States, Value.int .i64 p1.Start, v2, v3])]) ?_ ?_
    ·have hM := hx19
     refine WP_draw mo (by decide +kernel) ?_
     have hs := hs.drew
     refine S (r_move (v := v1) rfl) rfl <| S (r_move (v := Value.int .i64 xv13) rfl) rfl ?_
     obtain ⟨e35, he35, hM⟩ := bindS hM
     obtain ⟨b70, ob70, cb70, hvb70, cs63, hcs63, hcb70⟩ := hRv1.at he35
     have hcs63 : cs63 = _ := hcs63; subst hcs63
     refine S (r_idxSl Try.underlying23 ti3 (v := v1) rfl hvb70 rfl (idxL_some he35).1 (idxL_some he35).2.1) rfl <| S (r_loadEl (cs := [Value.int .i64 e35]) ti3 rfl rfl (.inr rfl) (hcb70 _ hs.imm) (v := Value.int .i64 e35) rfl) rfl <| S (r_geq rfl rfl) rfl <| S (r_move (v := Value.bool (decide (0 ≤ e35))) rfl) rfl ?_
     rcases condS hM with ⟨hg24, hM⟩ | ⟨hg24, hM⟩
     ·refine SG rfl rfl rfl (by rw [hg24]; rfl) (r_move (v := v1) rfl) rfl <| SG rfl rfl rfl (by rw [hg24]; rfl) (r_move (v := Value.int .i64 xv13) rfl) rfl ?_
      obtain ⟨b71, ob71, cb71, hvb71, cs64, hcs64, hcb71⟩ := hRv1.at he35
      have hcs64 : cs64 = _ := hcs64; subst hcs64
      refine SG rfl rfl rfl (by rw [hg24]; rfl) (r_idxSl Try.underlying23 ti3 (v := v1) rfl hvb71 rfl (idxL_some he35).1 (idxL_some he35).2.1) rfl <| SG rfl rfl rfl (by rw [hg24]; rfl) (r_loadEl (cs := [Value.int .i64 e35]) ti3 rfl rfl (.inr rfl) (hcb71 _ hs.imm) (v := Value.int .i64 e35) rfl) rfl <| SG rfl rfl rfl (by rw [hg24]; rfl) (r_fieldAddr Try.underlying25 ti3 rfl rfl (by decide) rfl rfl) rfl <| SG rfl rfl rfl (by rw [hg24]; rfl) (r_load (v := Value.int .i64 p1.States) ti3 rfl (hs.cell (i := 1) (o := 0) rfl rfl)) rfl <| SG rfl rfl rfl (by rw [hg24]; rfl) (r_lss rfl rfl) rfl <| S (r_pickT (v := Value.bool (decide (e35 < p1.States))) rfl hg24 rfl) rfl <| SW_nil ?_
      obtain rfl := Option.some.inj hM
      exact ⟨rfl, rfl, rfl, rfl, rfl, hds, hs⟩
     ·refine SK rfl rfl rfl (by rw [hg24]; rfl) rfl <| SK rfl rfl rfl (by rw [hg24]; rfl) rfl <| SK rfl rfl rfl (by rw [hg24]; rfl) rfl <| SK rfl rfl rfl (by rw [hg24]; rfl) rfl <| SK rfl rfl rfl (by rw [hg24]; rfl) rfl <| SK rfl rfl rfl (by rw [hg24]; rfl) rfl <| SK rfl rfl rfl (by rw [hg24]; rfl) rfl <| S (r_pickF (v := Value.bool false) rfl hg24 rfl) rfl <| SW_nil ?_
      obtain rfl := Option.some.inj hM
      exact ⟨rfl, rfl, rfl, rfl, rfl, hds, hs⟩
    ·clear hs
     rintro E w ⟨hE1, hE2, hE5, hE6, hE32, hds, hs⟩
     have hM := hKhx19
     obtain ⟨E, rfl⟩ := open5 (E := E) hE1 hE2 hE5 hE6 hE32
     rcases condS hM with ⟨hc18, hM⟩ | ⟨hc18, hM⟩
     ·refine WP_true rfl hc18 <| WP_region <| O (r_move (v := v14) rfl) rfl <| O (r_move (v := v1) rfl) rfl <| O (r_move (v := Value.int .i64 xv13) rfl) rfl ?_
      obtain ⟨e36, he36, hM⟩ := bindS hM
      obtain ⟨b72, ob72, cb72, hvb72, cs65, hcs65, hcb72⟩ := hRv1.at he36
      have hcs65 : cs65 = _ := hcs65; subst hcs65
      refine O (r_idxSl Try.underlying23 ti3 (v := v1) rfl hvb72 rfl (idxL_some he36).1 (idxL_some he36).2.1) rfl <| O (r_loadEl (cs := [Value.int .i64 e36]) ti3 rfl rfl (.inr rfl) (hcb72 _ hs.imm) (v := Value.int .i64 e36) rfl) rfl ?_
      obtain ⟨y18, hy18, hM⟩ := bindS hM
      obtain ⟨b73, cb73, hvb73, wv14, xs26, hstb73, hrelb73, hsb73⟩ := hs.rowPut (i := 0) rfl hrelxs19 hy18 (cs := [Value.bool true]) rfl
      refine O (r_idxSl Try.underlying56 ti4 (v := v14) rfl hvb73 rfl (setL_some hy18).1 (setL_some hy18).2.1) rfl <| O0 (r_store ti4 rfl (v := Value.bool true) rfl rfl hstb73) ?_
      have hs := hsb73
      refine OW_nil ?_
      obtain rfl := Option.some.inj hM
      exact ⟨v14, xs26, rfl, rfl, rfl, rfl, hds, hrelb73, hs⟩
     ·refine WP_false rfl hc18 <| WP_skip ?_
      obtain rfl := Option.some.inj hM
      exact ⟨v14, xs19, rfl, rfl, rfl, rfl, hds, hrelxs19, hs⟩
   ·clear hs
    rintro E w ⟨v17, xs25, hE1, hE2, hE5, hE6, hds, hrelxs25, hs⟩
    have hM := hKhx18
    obtain ⟨E, rfl⟩ := open4 (E := E) hE1 hE2 hE5 hE6
    refine WP_region <| O (r_move (v := Value.int .i64 xv13) rfl) rfl ?_
    obtain ⟨t6, ht6, hM⟩ := bindS hM
    refine O (r_addM rfl rfl ht6) rfl <| O (r_assign (v := Value.int .i64 t6) rfl) rfl <| OW_nil ?_
    obtain rfl := Option.some.inj hM
    exact ⟨v17, xs25, rfl, rfl, rfl, rfl, hds, hrelxs25, hs⟩
  ·refine WP_false rfl hc16 <| WP_exit ?_
   obtain rfl := Option.some.inj hM
   refine fun hr => ?_
   have hM := congrArg some hr
   obtain rfl := Option.some.inj hM
   exact ⟨v14, xs19, rfl, rfl, hds, hrelxs19, hs⟩
 ·clear hs
  rintro E w ⟨v11, xs14, hE2, hE5, hds, hrelxs14, hs⟩
  have hM := hKhx10
  obtain ⟨E, rfl⟩ := open2 (E := E) hE2 hE5
  obtain ⟨l21, hx47, hKhx47⟩ := bindS hM
  refine WP_cut (fun E w => ∃ (v39 : Value) (xs66 : List Value), E 5 = v39 ∧ E.ds = [] ∧ RowRel tBool g0 xs66 l21 ∧ Go.Lx.Sep g0 w0 g0 w [.row v39 4 tBool.sz l21.length xs66]) ?_ ?_
  ·have hM := hx47
   have hag0 := Hle.refl g0
   refine WP_seq <| WP_region <| O (r_assign (v := Value.bool true) rfl) rfl <| OW_nil <| WP_block <| WP_loop (fun (st9 : (List Bool) × Bool) E w => match st9 with | (l26, xv83) => ∃ (v47 : Value) (xs80 : List Value), E 2 = Value.pointer (some ⟨b1, 0, none⟩) ∧ E 5 = v47 ∧ E 7 = Value.bool xv83 ∧ E.ds = [] ∧ RowRel tBool g0 xs80 l26 ∧ Go.Lx.Sep g0 w0 g0 w [.row v47 4 tBool.sz l26.length xs80, Go.Lx.box b1 25 ([Value.int .i64 p1.States, Value.int .i64 p1.Start, v2, v3])]) hM ⟨v11, xs14, rfl, rfl, rfl, hds, hrelxs14, hs⟩ ?_
   clear hs hM
   rintro ⟨l26, xv83⟩ o9 E w hM ⟨v47, xs80, hE2, hE5, hE7, hds, hrelxs80, hs⟩
   obtain ⟨E, rfl⟩ := open3 (E := E) hE2 hE5 hE7
   refine WP_seq <| WP_seq <| WP_region <| O (r_move (v := Value.bool xv83) rfl) rfl <| OW_nil ?_
   rcases condS hM with ⟨hc67, hM⟩ | ⟨hc67, hM⟩
   ·refine WP_true rfl hc67 <| WP_skip <| WP_block <| WP_seq <| WP_region <| O (r_assign (v := Value.bool false) rfl) rfl <| OW_nil <| WP_seq <| WP_region <| O (r_assign (v := Value.int .i64 0) rfl) rfl <| OW_nil <| WP_block <| WP_loop (fun (st9 : (List Bool) × Bool × Int) E w => match st9 with | (l32, xv105, xv106) => ∃ (v57 : Value) (xs98 : List Value), E 2 = Value.pointer (some ⟨b1, 0, none⟩) ∧ E 5 = v57 ∧ E 7 = Value.bool xv105 ∧ E 8 = Value.int .i64 xv106 ∧ E.ds = [] ∧ RowRel tBool g0 xs98 l32 ∧ Go.Lx.Sep g0 w0 g0 w [.row v57 4 tBool.sz l32.length xs98, Go.Lx.box b1 25 ([Value.int .i64 p1.States, Value.int .i64 p1.Start, v2, v3])]) hM ⟨v47, xs80, rfl, rfl, rfl, rfl, hds, hrelxs80, hs⟩ ?_
    clear hs hM
    rintro ⟨l32, xv105, xv106⟩ o10 E w hM ⟨v57, xs98, hE2, hE5, hE7, hE8, hds, hrelxs98, hs⟩
    obtain ⟨E, rfl⟩ := open4 (E := E) hE2 hE5 hE7 hE8
    refine WP_seq <| WP_seq <| WP_region <| O (r_move (v := Value.int .i64 xv106) rfl) rfl <| O (r_fieldAddr Try.underlying25 ti22 rfl rfl (by decide) rfl rfl) rfl <| O (r_load (v := v2) ti22 rfl (hs.cell (i := 1) (o := 2) rfl rfl)) rfl ?_
    obtain ⟨a24, ca24, hva24⟩ := hRv2.shape
    refine O (r_lenSl (v := v2) Try.underlying22 rfl hva24) rfl <| O (r_lss rfl rfl) rfl <| OW_nil ?_
    rcases condS hM with ⟨hc74, hM⟩ | ⟨hc74, hM⟩
    ·refine WP_true rfl hc74 <| WP_skip ?_
     obtain ⟨⟨y71, xv113⟩, hx73, hKhx73⟩ := bindS hM
     refine WP_cut (fun E w => ∃ (v60 : Value) (xs104 : List Value), E 2 = Value.pointer (some ⟨b1, 0, none⟩) ∧ E 5 = v60 ∧ E 7 = Value.bool xv113 ∧ E 8 = Value.int .i64 xv106 ∧ E.ds = [] ∧ RowRel tBool g0 xs104 y71 ∧ Go.Lx.Sep g0 w0 g0 w [.row v60 4 tBool.sz y71.length xs104, Go.Lx.box b1 25 ([Value.int .i64 p1.States, Value.int .i64 p1.Start, v2, v3])]) ?_ ?_
     ·have hM := hx73
      refine WP_block <| WP_seq <| WP_region <| O (r_fieldAddr Try.underlying25 ti22 rfl rfl (by decide) rfl rfl) rfl <| O (r_load (v := v2) ti22 rfl (hs.cell (i := 1) (o := 2) rfl rfl)) rfl <| O (r_move (v := Value.int .i64 xv106) rfl) rfl ?_
      obtain ⟨e212, he212, hM⟩ := bindS hM
      obtain ⟨b319, ob319, cb319, hvb319, cs381, hcs381, hcb319⟩ := hRv2.at he212
      obtain ⟨cs382, cs383, cs384, cs385, rfl, hcs382, hcs383, hcs384, hcs385⟩ := hcs381
      have hcs382 : cs382 = _ := hcs382; subst hcs382
      have hcs383 : cs383 = _ := hcs383; subst hcs383
      have hcs384 : cs384 = _ := hcs384; subst hcs384
      have hcs385 : cs385 = _ := hcs385; subst hcs385
      refine O (r_idxSl Try.underlying22 ti54 (v := v2) rfl hvb319 rfl (idxL_some he212).1 (idxL_some he212).2.1) rfl <| O (r_loadEl (cs := ([Value.int .i64 e212.From]) ++ (([Value.int .i64 e212.To]) ++ (([Value.bool e212.Epsilon]) ++ (e212.Set.1.map (Value.int .u64))))) ti54 rfl (by simp [e212.Set.2]) (.inl rfl) (hcb319 _ hs.imm) (v := Value.agg (List.toArray (α := Value) (([Value.int .i64 e212.From]) ++ (([Value.int .i64 e212.To]) ++ (([Value.bool e212.Epsilon]) ++ (e212.Set.1.map (Value.int .u64))))))) rfl) rfl <| OW_alloc ti54 hs (zs := ([Value.int .i64 0]) ++ (([Value.int .i64 0]) ++ (([Value.bool false]) ++ ((Vec.zero 4).1.map (Value.int .u64))))) rfl rfl ?_
      intro b320 wv120 hs
      refine OW_storeAll ti54 hs (i := 0) rfl rfl (v := Value.agg (List.toArray (α := Value) (([Value.int .i64 e212.From]) ++ (([Value.int .i64 e212.To]) ++ (([Value.bool e212.Epsilon]) ++ (e212.Set.1.map (Value.int .u64))))))) rfl (vs := ([Value.int .i64 e212.From]) ++ (([Value.int .i64 e212.To]) ++ (([Value.bool e212.Epsilon]) ++ (e212.Set.1.map (Value.int .u64))))) rfl (one_append (one_cons rfl one_nil) (one_append (one_cons rfl one_nil) (one_append (one_cons rfl one_nil) vec_one))) (by simp [e212.Set.2]) (by simp [e212.Set.2, (Vec.zero 4).2]) ?_
      intro wv121 hs
      refine OW_nil ?_
      obtain ⟨xv114, hx74, hKhx74⟩ := bindS hM
      refine WP_cut (fun E w => E 2 = Value.pointer (some ⟨b1, 0, none⟩) ∧ E 5 = v57 ∧ E 7 = Value.bool xv105 ∧ E 8 = Value.int .i64 xv106 ∧ E 9 = Value.pointer (some ⟨b320, 0, none⟩) ∧ E 68 = Value.bool xv114 ∧ E.ds = [] ∧ Go.Lx.Sep g0 w0 g0 w [Go.Lx.box b320 54 (([Value.int .i64 e212.From]) ++ (([Value.int .i64 e212.To]) ++ (([Value.bool e212.Epsilon]) ++ (e212.Set.1.map (Value.int .u64))))), .row v57 4 tBool.sz l32.length xs98, Go.Lx.box b1 25 ([Value.int .i64 p1.States, Value.int .i64 p1.Start, v2, v3])]) ?_ ?_
      ·have hM := hx74
       refine WP_region <| O (r_fieldAddr Try.underlying54 ti4 rfl rfl (by decide) rfl rfl) rfl <| O (r_load (v := Value.bool e212.Epsilon) ti4 rfl (hs.cell (i := 0) (o := 2) rfl (by simp [e212.Set.2]))) rfl <| O (r_move (v := Value.bool e212.Epsilon) rfl) rfl ?_
       rcases condS hM with ⟨hg167, hM⟩ | ⟨hg167, hM⟩
       ·refine OG rfl rfl rfl (by rw [hg167]; rfl) (r_move (v := v57) rfl) rfl <| OG rfl rfl rfl (by rw [hg167]; rfl) (r_fieldAddr Try.underlying54 ti3 rfl rfl (by decide) rfl rfl) rfl <| OG rfl rfl rfl (by rw [hg167]; rfl) (r_load (v := Value.int .i64 e212.From) ti3 rfl (hs.cell (i := 0) (o := 0) rfl (by simp [e212.Set.2]))) rfl ?_
        obtain ⟨e215, he215, hM⟩ := bindS hM
        obtain ⟨b323, cb323, hvb323, cs388, hcs388, hcb323⟩ := hs.rowEl (i := 1) rfl hrelxs98 he215
        have hcs388 : cs388 = _ := hcs388; subst hcs388
        refine OG rfl rfl rfl (by rw [hg167]; rfl) (r_idxSl Try.underlying56 ti4 (v := v57) rfl hvb323 rfl (idxL_some he215).1 (idxL_some he215).2.1) rfl <| OG rfl rfl rfl (by rw [hg167]; rfl) (r_loadEl (cs := [Value.bool e215]) ti4 rfl rfl (.inr rfl) (hcb323 _ (hs.at (i := 1) rfl)) (v := Value.bool e215) rfl) rfl <| O (r_pickT (v := Value.bool e215) rfl hg167 rfl) rfl <| O (r_move (v := Value.bool e215) rfl) rfl ?_
        rcases condS hM with ⟨hg168, hM⟩ | ⟨hg168, hM⟩
        ·refine OG rfl rfl rfl (by rw [hg168]; rfl) (r_move (v := v57) rfl) rfl <| OG rfl rfl rfl (by rw [hg168]; rfl) (r_fieldAddr Try.underlying54 ti3 rfl rfl (by decide) rfl rfl) rfl <| OG rfl rfl rfl (by rw [hg168]; rfl) (r_load (v := Value.int .i64 e212.To) ti3 rfl (hs.cell (i := 0) (o := 1) rfl (by simp [e212.Set.2]))) rfl ?_
         obtain ⟨e216, he216, hM⟩ := bindS hM
         obtain ⟨b324, cb324, hvb324, cs389, hcs389, hcb324⟩ := hs.rowEl (i := 1) rfl hrelxs98 he216
         have hcs389 : cs389 = _ := hcs389; subst hcs389
         refine OG rfl rfl rfl (by rw [hg168]; rfl) (r_idxSl Try.underlying56 ti4 (v := v57) rfl hvb324 rfl (idxL_some he216).1 (idxL_some he216).2.1) rfl <| OG rfl rfl rfl (by rw [hg168]; rfl) (r_loadEl (cs := [Value.bool e216]) ti4 rfl rfl (.inr rfl) (hcb324 _ (hs.at (i := 1) rfl)) (v := Value.bool e216) rfl) rfl <| OG rfl rfl rfl (by rw [hg168]; rfl) (r_not rfl) rfl <| O (r_pickT (v := Value.bool (!e216)) rfl hg168 rfl) rfl <| OW_nil ?_
         obtain rfl := Option.some.inj hM
         exact ⟨rfl, rfl, rfl, rfl, rfl, rfl, hds, hs⟩
        ·refine OK rfl rfl rfl (by rw [hg168]; rfl) rfl <| OK rfl rfl rfl (by rw [hg168]; rfl) rfl <| OK rfl rfl rfl (by rw [hg168]; rfl) rfl <| OK rfl rfl rfl (by rw [hg168]; rfl) rfl <| OK rfl rfl rfl (by rw [hg168]; rfl) rfl <| OK rfl rfl rfl (by rw [hg168]; rfl) rfl <| O (r_pickF (v := Value.bool false) rfl hg168 rfl) rfl <| OW_nil ?_
         obtain rfl := Option.some.inj hM
         exact ⟨rfl, rfl, rfl, rfl, rfl, rfl, hds, hs⟩
       ·refine OK rfl rfl rfl (by rw [hg167]; rfl) rfl <| OK rfl rfl rfl (by rw [hg167]; rfl) rfl <| OK rfl rfl rfl (by rw [hg167]; rfl) rfl <| OK rfl rfl rfl (by rw [hg167]; rfl) rfl <| OK rfl rfl rfl (by rw [hg167]; rfl) rfl <| O (r_pickF (v := Value.bool false) rfl hg167 rfl) rfl <| O (r_move (v := Value.bool false) rfl) rfl <| OK rfl rfl rfl rfl rfl <| OK rfl rfl rfl rfl rfl <| OK rfl rfl rfl rfl rfl <| OK rfl rfl rfl rfl rfl <| OK rfl rfl rfl rfl rfl <| OK rfl rfl rfl rfl rfl <| O (r_pickF (v := Value.bool false) rfl rfl rfl) rfl <| OW_nil ?_
        obtain rfl := Option.some.inj hM
        exact ⟨rfl, rfl, rfl, rfl, rfl, rfl, hds, hs⟩
      ·clear hs
       rintro E w ⟨hE2, hE5, hE7, hE8, hE9, hE68, hds, hs⟩
       have hM := hKhx74
       obtain ⟨E, rfl⟩ := open6 (E := E) hE2 hE5 hE7 hE8 hE9 hE68
       rcases condS hM with ⟨hc76, hM⟩ | ⟨hc76, hM⟩
       ·refine WP_true rfl hc76 <| WP_seq <| WP_region <| O (r_move (v := v57) rfl) rfl <| O (r_fieldAddr Try.underlying54 ti3 rfl rfl (by decide) rfl rfl) rfl <| O (r_load (v := Value.int .i64 e212.To) ti3 rfl (hs.cell (i := 0) (o := 1) rfl (by simp [e212.Set.2]))) rfl ?_
        obtain ⟨y72, hy72, hM⟩ := bindS hM
        obtain ⟨b325, cb325, hvb325, wv122, xs105, hstb325, hrelb325, hsb325⟩ := hs.rowPut (i := 1) rfl hrelxs98 hy72 (cs := [Value.bool true]) rfl
        refine O (r_idxSl Try.underlying56 ti4 (v := v57) rfl hvb325 rfl (setL_some hy72).1 (setL_some hy72).2.1) rfl <| O0 (r_store ti4 rfl (v := Value.bool true) rfl rfl hstb325) ?_
        have hs := hsb325
        refine OW_nil <| WP_region <| O (r_assign (v := Value.bool true) rfl) rfl <| OW_nil ?_
        simp only [Option.some.injEq, Prod.mk.injEq] at hM
        obtain ⟨rfl, rfl⟩ := hM
        exact ⟨v57, xs105, rfl, rfl, rfl, rfl, hds, hrelb325, (hs.sub (.cons _ (.cons_cons _ (.cons_cons _ .slnil))))⟩
       ·refine WP_false rfl hc76 <| WP_skip ?_
        simp only [Option.some.injEq, Prod.mk.injEq] at hM
        obtain ⟨rfl, rfl⟩ := hM
        exact ⟨v57, xs98, rfl, rfl, rfl, rfl, hds, hrelxs98, (hs.sub (.cons _ (.cons_cons _ (.cons_cons _ .slnil))))⟩
     ·clear hs
      rintro E w ⟨v60, xs104, hE2, hE5, hE7, hE8, hds, hrelxs104, hs⟩
      have hM := hKhx73
      obtain ⟨E, rfl⟩ := open4 (E := E) hE2 hE5 hE7 hE8
      refine WP_region <| O (r_move (v := Value.int .i64 xv106) rfl) rfl ?_
      obtain ⟨t24, ht24, hM⟩ := bindS hM
      refine O (r_addM rfl rfl ht24) rfl <| O (r_assign (v := Value.int .i64 t24) rfl) rfl <| OW_nil ?_
      obtain rfl := Option.some.inj hM
      exact ⟨v60, xs104, rfl, rfl, rfl, rfl, hds, hrelxs104, hs⟩
    ·refine WP_false rfl hc74 <| WP_exit ?_
     obtain rfl := Option.some.inj hM
     refine fun hr => ?_
     have hM := congrArg some hr
     obtain rfl := Option.some.inj hM
     exact ⟨v57, xs98, rfl, rfl, rfl, hds, hrelxs98, hs⟩
   ·refine WP_false rfl hc67 <| WP_exit ?_
    obtain rfl := Option.some.inj hM
    refine fun hr => ?_
    have hM := congrArg some hr
    obtain rfl := Option.some.inj hM
    exact ⟨v47, xs80, rfl, hds, hrelxs80, (hs.sub (.cons_cons _ (.cons _ .slnil)))⟩
  ·clear hs
   rintro E w ⟨v39, xs66, hE5, hds, hrelxs66, hs⟩
   have hM := hKhx47
   obtain ⟨E, rfl⟩ := open1 (E := E) hE5
   refine WP_seq <| WP_region <| O (r_move (v := v39) rfl) rfl ?_
   have hsL1 := hs
   obtain ⟨gg1, hlegg1, hRgg1, hs⟩ := hs.relRow (i := 0) rfl hrelxs66
   obtain ⟨rv1, hrv1, hM⟩ := bindS hM
   refine C [v39] cf35 rfl (ref09_list_ok hrv1 hs.imm hRgg1) rfl ?_
   rintro v61 wv123 ⟨gg2, xs106, hvv61, hegg2⟩
   obtain ⟨gg3, hlegg3, hs⟩ := hsL1.lentOwn hegg2
   simp only [List.cons_append, List.nil_append] at hs
   have hvv61 : RowRel (tInt .i64) gg3 xs106 rv1 := RowRel.flat (fun _ _ _ _ h => h) hvv61
   refine O (r_assign (v := v61) rfl) rfl <| OW_nil <| WP_ret ?_
   obtain rfl := Option.some.inj hM
   refine FL_nil hds ?_
   exact ⟨_, res1 Try.results17 (rv_tmp (v := v61) rfl), gg3, xs106, hvv61, (hs.sub (.cons_cons _ (.cons _ .slnil)))⟩


end Go.Proofs.Ytajmekjcnbmaaaa
