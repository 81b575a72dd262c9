/- The walk of the law. Printed by a program of my own. -/
import Derived.Test.YtajmekjcnbmaaaaTyp
import Derived.Test.YtajmekjcnbmaaaaWalk3
import Derived.Test.YtajmekjcnbmaaaaWalk4
import Derived.Test.YtajmekjcnbmaaaaWalk6
import Derived.Test.YtajmekjcnbmaaaaWalk10
set_option linter.unusedVariables false
set_option linter.unusedSimpArgs false
namespace Go.Proofs.Ytajmekjcnbmaaaa
open Go.Lx Go.RowKit
set_option maxRecDepth 100000 in
theorem law09_NfaRunIsCompositional_ok {p1 : T_NFA} {p2 : Str} {p3 : Str} {r : Bool} (hM : M.law09_NfaRunIsCompositional p1 p2 p3 = some r) {g0 : Hp} {w0 : World} (hi : Imm g0 w0) {cs1 : List Value} (hcs1 : tT_NFA.rel g0 cs1 p1) :
    CallsV Try.prog 8 #[Value.agg cs1.toArray, encS p2, encS p3] w0 (fun v w' => ∃ g', (VRd tBool false g' v r) ∧ Ext g0 w0 g' w') := by
 unfold M.law09_NfaRunIsCompositional at hM
 obtain ⟨cs2, cs3, cs4, cs5, rfl, hcs2, hcs3, hcs4, hcs5⟩ := hcs1
 have hcs2 : cs2 = _ := hcs2; subst hcs2
 have hcs3 : cs3 = _ := hcs3; subst hcs3
 obtain ⟨v1, rfl, hRv1⟩ := hcs4
 obtain ⟨v2, rfl, hRv2⟩ := hcs5
 have hs := Sep.start hi
 refine calls_of_WP (args := [Value.agg (List.toArray (α := Value) [Value.int .i64 p1.States, Value.int .i64 p1.Start, v1, v2]), encS p2, encS p3]) Try.func8 rfl Try.ntmps8 rfl ?_
 have hds : (argEnv [Value.agg (List.toArray (α := Value) [Value.int .i64 p1.States, Value.int .i64 p1.Start, v1, v2]), encS p2, encS p3]).ds = [] := rfl
 refine WP_seq <| WP_region <| OW_box (v := Value.agg (List.toArray (α := Value) [Value.int .i64 p1.States, Value.int .i64 p1.Start, v1, v2])) rfl hs (zs := [Value.int .i64 p1.States, Value.int .i64 p1.Start, v1, v2]) rfl rfl ?_
 intro b1 wv1 hs
 refine O (r_assign (v := Value.bool false) rfl) rfl <| OW_nil <| WP_seq <| WP_seq <| WP_region ?_
 obtain ⟨rv1, hrv1, hM⟩ := bindS hM
 refine C [] cf11 rfl (law09_awake_ok hrv1 hs.imm) rfl ?_
 rintro v3 wv2 ⟨gg1, hvv3, hegg1⟩
 have hlegg1 := hegg1.le hs.imm
 replace hs := hs.call hegg1
 replace hRv1 := hRv1.mono hlegg1
 replace hRv2 := hRv2.mono hlegg1
 obtain ⟨cs6, rfl, hcs6⟩ := hvv3
 have hcs6 : cs6 = _ := hcs6; subst hcs6
 refine O (r_not rfl) rfl <| OW_nil ?_
 rcases condS hM with ⟨hc1, hM⟩ | ⟨hc1, hM⟩
 ·refine WP_true rfl hc1 <| WP_seq <| WP_region <| O (r_assign (v := Value.bool false) rfl) rfl <| OW_nil <| WP_ret ?_
  obtain rfl := Option.some.inj hM
  refine FL_nil hds ?_
  exact ⟨_, res1 Try.results8 (rv_tmp (v := Value.bool false) rfl), gg1, ⟨[Value.bool false], rfl, rfl⟩, hs.ext⟩
 ·refine WP_false rfl hc1 <| WP_skip <| WP_seq ?_
  obtain ⟨xv1, hx1, hKhx1⟩ := bindS hM
  refine WP_cut (fun E w => ∃ (gg3 : Hp), E 1 = encS p2 ∧ E 2 = encS p3 ∧ E 3 = Value.pointer (some ⟨b1, 0, none⟩) ∧ E 25 = Value.bool xv1 ∧ E.ds = [] ∧ Hle gg1 gg3 ∧ Go.Lx.Sep g0 w0 gg3 w [Go.Lx.box b1 25 ([Value.int .i64 p1.States, Value.int .i64 p1.Start, v1, v2])]) ?_ ?_
  ·have hM := hx1
   have hagg1 := Hle.refl gg1
   refine WP_region <| O (r_loadN (cs := [Value.int .i64 p1.States, Value.int .i64 p1.Start, v1, v2]) ti25 rfl rfl (hs.cells (i := 0) rfl)) rfl ?_
   obtain ⟨rv3, hrv3, hM⟩ := bindS hM
   refine C [Value.agg (List.toArray (α := Value) [Value.int .i64 p1.States, Value.int .i64 p1.Start, v1, v2])] cf14 rfl (law09_light_ok hrv3 hs.imm (⟨[Value.int .i64 p1.States], [Value.int .i64 p1.Start], [v1], [v2], rfl, rfl, rfl, ⟨_, rfl, hRv1⟩, ⟨_, rfl, hRv2⟩⟩)) rfl ?_
   rintro v5 wv4 ⟨gg4, hvv5, hegg4⟩
   have hlegg4 := hegg4.le hs.imm
   replace hs := hs.call hegg4
   replace hagg1 := hagg1.trans hlegg4
   obtain ⟨cs8, rfl, hcs8⟩ := hvv5
   have hcs8 : cs8 = _ := hcs8; subst hcs8
   refine O (r_not rfl) rfl <| O (r_move (v := Value.bool (!rv3)) rfl) rfl ?_
   rcases condS hM with ⟨hg3, hM⟩ | ⟨hg3, hM⟩
   ·refine OK rfl rfl rfl (by rw [hg3]; rfl) rfl <| OK rfl rfl rfl (by rw [hg3]; rfl) rfl <| OK rfl rfl rfl (by rw [hg3]; rfl) rfl <| O (r_pickT (v := Value.bool true) rfl hg3 rfl) rfl <| O (r_move (v := Value.bool true) rfl) rfl <| OK rfl rfl rfl rfl rfl <| OK rfl rfl rfl rfl rfl <| OK rfl rfl rfl rfl rfl <| O (r_pickT (v := Value.bool true) rfl rfl rfl) rfl <| OW_nil ?_
    obtain rfl := Option.some.inj hM
    exact ⟨gg4, rfl, rfl, rfl, rfl, hds, hagg1, hs⟩
   ·refine OG rfl rfl rfl (by rw [hg3]; rfl) (r_move (v := encS p2) rfl) rfl <| OG rfl rfl rfl (by rw [hg3]; rfl) (r_lenStr Try.underlying9 rfl) rfl <| OG rfl rfl rfl (by rw [hg3]; rfl) (r_gtr rfl rfl) rfl <| O (r_pickF (v := Value.bool (decide (20 < (p2.length : Int)))) rfl hg3 rfl) rfl <| O (r_move (v := Value.bool (decide (20 < (p2.length : Int)))) rfl) rfl ?_
    rcases condS hM with ⟨hg4, hM⟩ | ⟨hg4, hM⟩
    ·refine OK rfl rfl rfl (by rw [hg4]; rfl) rfl <| OK rfl rfl rfl (by rw [hg4]; rfl) rfl <| OK rfl rfl rfl (by rw [hg4]; rfl) rfl <| O (r_pickT (v := Value.bool true) rfl hg4 rfl) rfl <| OW_nil ?_
     obtain rfl := Option.some.inj hM
     exact ⟨gg4, rfl, rfl, rfl, rfl, hds, hagg1, hs⟩
    ·refine OG rfl rfl rfl (by rw [hg4]; rfl) (r_move (v := encS p3) rfl) rfl <| OG rfl rfl rfl (by rw [hg4]; rfl) (r_lenStr Try.underlying9 rfl) rfl <| OG rfl rfl rfl (by rw [hg4]; rfl) (r_gtr rfl rfl) rfl <| O (r_pickF (v := Value.bool (decide (20 < (p3.length : Int)))) rfl hg4 rfl) rfl <| OW_nil ?_
     obtain rfl := Option.some.inj hM
     exact ⟨gg4, rfl, rfl, rfl, rfl, hds, hagg1, hs⟩
  ·clear hs
   rintro E w ⟨gg3, hE1, hE2, hE3, hE25, hds, hlegg3, hs⟩
   have hM := hKhx1
   obtain ⟨E, rfl⟩ := open4 (E := E) hE1 hE2 hE3 hE25
   replace hRv1 := hRv1.mono hlegg3
   replace hRv2 := hRv2.mono hlegg3
   rcases condS hM with ⟨hc2, hM⟩ | ⟨hc2, hM⟩
   ·refine WP_true rfl hc2 <| WP_seq <| WP_region <| O (r_assign (v := Value.bool true) rfl) rfl <| OW_nil <| WP_ret ?_
    obtain rfl := Option.some.inj hM
    refine FL_nil hds ?_
    exact ⟨_, res1 Try.results8 (rv_tmp (v := Value.bool true) rfl), gg3, ⟨[Value.bool true], rfl, rfl⟩, hs.ext⟩
   ·refine WP_false rfl hc2 <| WP_skip <| WP_seq <| WP_region <| O (r_loadN (cs := [Value.int .i64 p1.States, Value.int .i64 p1.Start, v1, v2]) ti25 rfl rfl (hs.cells (i := 0) rfl)) rfl <| O (r_fieldAddr Try.underlying25 ti3 rfl rfl (by decide) rfl rfl) rfl <| O (r_load (v := Value.int .i64 p1.Start) ti3 rfl (hs.cell (i := 0) (o := 1) rfl rfl)) rfl <| OW_lit (τ := (tInt .i64)) [Value.int .i64 p1.Start] [p1.Start] Try.underlying23 ti3 (by decide) hs rfl rfl rfl ⟨rfl, trivial⟩ rfl ?_
    intro v6 wv5 xs1 hrelxs1 hs
    have hsL1 := hs
    have hRv1L1 := hRv1
    have hRv2L1 := hRv2
    obtain ⟨gg5, hlegg5, hRgg5, hs⟩ := hs.relRow (i := 0) rfl hrelxs1
    replace hRv1 := hRv1.mono hlegg5
    replace hRv2 := hRv2.mono hlegg5
    obtain ⟨rv4, hrv4, hM⟩ := bindS hM
    refine C [Value.agg (List.toArray (α := Value) [Value.int .i64 p1.States, Value.int .i64 p1.Start, v1, v2]), v6] cf15 rfl (nfa_Closure_ok hrv4 hs.imm (⟨[Value.int .i64 p1.States], [Value.int .i64 p1.Start], [v1], [v2], rfl, rfl, rfl, ⟨_, rfl, hRv1⟩, ⟨_, rfl, hRv2⟩⟩) hRgg5) rfl ?_
    rintro v7 wv6 ⟨gg6, xs2, hvv7, hegg6⟩
    obtain ⟨gg7, hlegg7, hs⟩ := hsL1.lentOwn hegg6
    simp only [List.cons_append, List.nil_append] at hs
    have hvv7 : RowRel (tInt .i64) gg7 xs2 rv4 := RowRel.flat (fun _ _ _ _ h => h) hvv7
    replace hRv1 := hRv1L1.mono hlegg7
    replace hRv2 := hRv2L1.mono hlegg7
    refine O (r_assign (v := v7) rfl) rfl <| OW_nil <| WP_seq <| WP_region <| O (r_move (v := encS p2) rfl) rfl <| O (r_move (v := encS p3) rfl) rfl ?_
    obtain ⟨s1, hs1, hM⟩ := bindS hM
    refine O (r_catS rfl rfl hs1) rfl <| O (r_assign (v := encS s1) rfl) rfl <| OW_nil ?_
    obtain ⟨rv11, hx2, hKhx2⟩ := bindS hM
    refine WP_cut (fun E w => ∃ (gg20 : Hp) (v14 : Value) (xs9 : List Value), E 3 = Value.pointer (some ⟨b1, 0, none⟩) ∧ E 7 = v14 ∧ E 8 = encS s1 ∧ E.ds = [] ∧ Hle gg7 gg20 ∧ RowRel (tInt .i64) gg20 xs9 rv11 ∧ Go.Lx.Sep g0 w0 gg20 w [.row v14 3 (tInt .i64).sz rv11.length xs9, Go.Lx.box b1 25 ([Value.int .i64 p1.States, Value.int .i64 p1.Start, v1, v2])]) ?_ ?_
    ·have hM := hx2
     have hagg7 := Hle.refl gg7
     refine WP_seq <| WP_region <| O (r_assign (v := Value.int .i64 0) rfl) rfl <| OW_nil <| WP_block <| WP_loop (fun (st9 : (List Int) × Int) E w => match st9 with | (rv14, xv6) => ∃ (gg25 : Hp) (v17 : Value) (xs12 : List Value), E 3 = Value.pointer (some ⟨b1, 0, none⟩) ∧ E 7 = v17 ∧ E 8 = encS s1 ∧ E 9 = Value.int .i64 xv6 ∧ E.ds = [] ∧ Hle gg7 gg25 ∧ RowRel (tInt .i64) gg25 xs12 rv14 ∧ Go.Lx.Sep g0 w0 gg25 w [.row v17 3 (tInt .i64).sz rv14.length xs12, Go.Lx.box b1 25 ([Value.int .i64 p1.States, Value.int .i64 p1.Start, v1, v2])]) hM ⟨gg7, v7, xs2, rfl, rfl, rfl, rfl, hds, (Hle.refl _), hvv7, (hs.sub (.cons_cons _ (.cons _ (.cons_cons _ .slnil))))⟩ ?_
     clear hs hM
     rintro ⟨rv14, xv6⟩ o2 E w hM ⟨gg25, v17, xs12, hE3, hE7, hE8, hE9, hds, hlegg25, hrelxs12, hs⟩
     obtain ⟨E, rfl⟩ := open4 (E := E) hE3 hE7 hE8 hE9
     replace hRv1 := hRv1.mono hlegg25
     replace hRv2 := hRv2.mono hlegg25
     have hagg25 := Hle.refl gg25
     refine WP_seq <| WP_seq <| WP_region <| O (r_move (v := Value.int .i64 xv6) rfl) rfl <| O (r_move (v := encS s1) rfl) rfl <| O (r_lenStr Try.underlying9 rfl) rfl <| O (r_lss rfl rfl) rfl <| OW_nil ?_
     rcases condS hM with ⟨hc8, hM⟩ | ⟨hc8, hM⟩
     ·refine WP_true rfl hc8 <| WP_skip <| WP_seq <| WP_block <| WP_drawTail 5 mo (by decide +kernel) ?_
      have hs := hs.drew
      refine S (r_loadN (cs := [Value.int .i64 p1.States, Value.int .i64 p1.Start, v1, v2]) ti25 rfl rfl (hs.cells (i := 1) rfl)) rfl <| S (r_move (v := v17) rfl) rfl <| S (r_move (v := encS s1) rfl) rfl <| S (r_move (v := Value.int .i64 xv6) rfl) rfl ?_
      obtain ⟨c6, hc6, hM⟩ := bindS hM
      refine S (r_idxStr Try.underlying9 rfl rfl hc6) rfl <| SW_nil ?_
      have hsL7 := hs
      have hlegg25L7 := hlegg25
      obtain ⟨gg30, hlegg30, hRgg30, hs⟩ := hs.relRow (i := 0) rfl hrelxs12
      replace hRv1 := hRv1.mono hlegg30
      replace hRv2 := hRv2.mono hlegg30
      replace hlegg25 := hlegg25.trans hlegg30
      obtain ⟨rv17, hrv17, hM⟩ := bindS hM
      refine C [Value.agg (List.toArray (α := Value) [Value.int .i64 p1.States, Value.int .i64 p1.Start, v1, v2]), v17, Value.int .u8 c6] cf18 rfl (nfa_Step_ok hrv17 hs.imm (⟨[Value.int .i64 p1.States], [Value.int .i64 p1.Start], [v1], [v2], rfl, rfl, rfl, ⟨_, rfl, hRv1⟩, ⟨_, rfl, hRv2⟩⟩) hRgg30) rfl ?_
      rintro v20 wv12 ⟨gg31, xs15, hvv20, hegg31⟩
      obtain ⟨gg32, hlegg32, hs⟩ := hsL7.lentOwn hegg31
      simp only [List.cons_append, List.nil_append] at hs
      have hvv20 : RowRel (tInt .i64) gg32 xs15 rv17 := RowRel.flat (fun _ _ _ _ h => h) hvv20
      replace hlegg25 := hlegg25L7.trans hlegg32
      refine O (r_assign (v := v20) rfl) rfl <| OW_nil <| WP_region <| O (r_move (v := Value.int .i64 xv6) rfl) rfl ?_
      obtain ⟨t6, ht6, hM⟩ := bindS hM
      refine O (r_addM rfl rfl ht6) rfl <| O (r_assign (v := Value.int .i64 t6) rfl) rfl <| OW_nil ?_
      obtain rfl := Option.some.inj hM
      exact ⟨gg32, v20, xs15, rfl, rfl, rfl, rfl, hds, hlegg25, hvv20, (hs.sub (.cons_cons _ (.cons _ (.cons_cons _ .slnil))))⟩
     ·refine WP_false rfl hc8 <| WP_exit ?_
      obtain rfl := Option.some.inj hM
      refine fun hr => ?_
      have hM := congrArg some hr
      obtain rfl := Option.some.inj hM
      exact ⟨gg25, v17, xs12, rfl, rfl, rfl, hds, hlegg25, hrelxs12, hs⟩
    ·clear hs
     rintro E w ⟨gg20, v14, xs9, hE3, hE7, hE8, hds, hlegg20, hrelxs9, hs⟩
     have hM := hKhx2
     obtain ⟨E, rfl⟩ := open3 (E := E) hE3 hE7 hE8
     replace hRv1 := hRv1.mono hlegg20
     replace hRv2 := hRv2.mono hlegg20
     obtain ⟨o5, hx6, hKhx6⟩ := stepS hM
     refine WP_cut (fun E w => ∃ u9 : Unit, o5 = .next u9 ∧ ∃ (v21 : Value) (xs16 : List Value), E 3 = Value.pointer (some ⟨b1, 0, none⟩) ∧ E 7 = v21 ∧ E 8 = encS s1 ∧ E.ds = [] ∧ RowRel (tInt .i64) gg20 xs16 rv11 ∧ Go.Lx.Sep g0 w0 gg20 w [.row v21 3 (tInt .i64).sz rv11.length xs16, Go.Lx.box b1 25 ([Value.int .i64 p1.States, Value.int .i64 p1.Start, v1, v2])]) ?_ ?_
     ·have hM := hx6
      have hagg20 := Hle.refl gg20
      refine WP_seq <| WP_region <| O (r_assign (v := Value.int .i64 0) rfl) rfl <| OW_nil <| WP_block <| WP_loop (fun (xv16 : Int) E w => E 3 = Value.pointer (some ⟨b1, 0, none⟩) ∧ E 7 = v14 ∧ E 8 = encS s1 ∧ E 10 = Value.int .i64 xv16 ∧ E.ds = [] ∧ Go.Lx.Sep g0 w0 gg20 w [.row v14 3 (tInt .i64).sz rv11.length xs9, Go.Lx.box b1 25 ([Value.int .i64 p1.States, Value.int .i64 p1.Start, v1, v2])]) hM ⟨rfl, rfl, rfl, rfl, hds, hs⟩ ?_
      clear hs hM
      rintro xv16 o4 E w hM ⟨hE3, hE7, hE8, hE10, hds, hs⟩
      obtain ⟨E, rfl⟩ := open4 (E := E) hE3 hE7 hE8 hE10
      refine WP_seq <| WP_seq <| WP_region <| O (r_move (v := Value.int .i64 xv16) rfl) rfl <| O (r_move (v := v14) rfl) rfl ?_
      obtain ⟨a6, ca6, hva6⟩ := hs.rowShape (i := 0) rfl
      refine O (r_lenSl (v := v14) Try.underlying23 rfl hva6) rfl <| O (r_lss rfl rfl) rfl <| OW_nil ?_
      rcases condS hM with ⟨hc19, hM⟩ | ⟨hc19, hM⟩
      ·refine WP_true rfl hc19 <| WP_skip <| WP_seq <| WP_block ?_
       obtain ⟨xv19, hx9, hKhx9⟩ := bindS hM
       refine WP_cut (fun E w => E 3 = Value.pointer (some ⟨b1, 0, none⟩) ∧ E 7 = v14 ∧ E 8 = encS s1 ∧ E 10 = Value.int .i64 xv16 ∧ E 65 = Value.bool xv19 ∧ E.ds = [] ∧ Go.Lx.Sep g0 w0 gg20 w [.row v14 3 (tInt .i64).sz rv11.length xs9, Go.Lx.box b1 25 ([Value.int .i64 p1.States, Value.int .i64 p1.Start, v1, v2])]) ?_ ?_
       ·have hM := hx9
        refine WP_draw mo (by decide +kernel) ?_
        have hs := hs.drew
        refine S (r_move (v := v14) rfl) rfl <| S (r_move (v := Value.int .i64 xv16) rfl) rfl ?_
        obtain ⟨e12, he12, hM⟩ := bindS hM
        obtain ⟨b24, cb24, hvb24, cs31, hcs31, hcb24⟩ := hs.rowEl (i := 0) rfl hrelxs9 he12
        have hcs31 : cs31 = _ := hcs31; subst hcs31
        refine S (r_idxSl Try.underlying23 ti3 (v := v14) rfl hvb24 rfl (idxL_some he12).1 (idxL_some he12).2.1) rfl <| S (r_loadEl (cs := [Value.int .i64 e12]) ti3 rfl rfl (.inr rfl) (hcb24 _ (hs.at (i := 0) rfl)) (v := Value.int .i64 e12) rfl) rfl <| S (r_lss rfl rfl) rfl <| S (r_move (v := Value.bool (decide (e12 < 0))) rfl) rfl ?_
        rcases condS hM with ⟨hg16, hM⟩ | ⟨hg16, hM⟩
        ·refine SK rfl rfl rfl (by rw [hg16]; rfl) rfl <| SK rfl rfl rfl (by rw [hg16]; rfl) rfl <| SK rfl rfl rfl (by rw [hg16]; rfl) rfl <| SK rfl rfl rfl (by rw [hg16]; rfl) rfl <| SK rfl rfl rfl (by rw [hg16]; rfl) rfl <| SK rfl rfl rfl (by rw [hg16]; rfl) rfl <| SK rfl rfl rfl (by rw [hg16]; rfl) rfl <| S (r_pickT (v := Value.bool true) rfl hg16 rfl) rfl <| SW_nil ?_
         obtain rfl := Option.some.inj hM
         exact ⟨rfl, rfl, rfl, rfl, rfl, hds, hs⟩
        ·refine SG rfl rfl rfl (by rw [hg16]; rfl) (r_move (v := v14) rfl) rfl <| SG rfl rfl rfl (by rw [hg16]; rfl) (r_move (v := Value.int .i64 xv16) rfl) rfl ?_
         obtain ⟨b25, cb25, hvb25, cs32, hcs32, hcb25⟩ := hs.rowEl (i := 0) rfl hrelxs9 he12
         have hcs32 : cs32 = _ := hcs32; subst hcs32
         refine SG rfl rfl rfl (by rw [hg16]; rfl) (r_idxSl Try.underlying23 ti3 (v := v14) rfl hvb25 rfl (idxL_some he12).1 (idxL_some he12).2.1) rfl <| SG rfl rfl rfl (by rw [hg16]; rfl) (r_loadEl (cs := [Value.int .i64 e12]) ti3 rfl rfl (.inr rfl) (hcb25 _ (hs.at (i := 0) rfl)) (v := Value.int .i64 e12) rfl) rfl <| SG rfl rfl rfl (by rw [hg16]; rfl) (r_fieldAddr Try.underlying25 ti3 rfl rfl (by decide) rfl rfl) rfl <| SG rfl rfl rfl (by rw [hg16]; rfl) (r_load (v := Value.int .i64 p1.States) ti3 rfl (hs.cell (i := 1) (o := 0) rfl rfl)) rfl <| SG rfl rfl rfl (by rw [hg16]; rfl) (r_geq rfl rfl) rfl <| S (r_pickF (v := Value.bool (decide (p1.States ≤ e12))) rfl hg16 rfl) rfl <| SW_nil ?_
         obtain rfl := Option.some.inj hM
         exact ⟨rfl, rfl, rfl, rfl, rfl, hds, hs⟩
       ·clear hs
        rintro E w ⟨hE3, hE7, hE8, hE10, hE65, hds, hs⟩
        have hM := hKhx9
        obtain ⟨E, rfl⟩ := open5 (E := E) hE3 hE7 hE8 hE10 hE65
        rcases condS hM with ⟨hc20, hM⟩ | ⟨hc20, hM⟩
        ·refine WP_true rfl hc20 <| WP_seq <| WP_region <| O (r_assign (v := Value.bool false) rfl) rfl <| OW_nil <| WP_ret ?_
         obtain rfl := Option.some.inj hM
         refine fun hr => ?_
         have hM := congrArg some hr
         obtain rfl := Option.some.inj hM
         have hM := hKhx6
         obtain rfl := Option.some.inj hM
         refine FL_nil hds ?_
         exact ⟨_, res1 Try.results8 (rv_tmp (v := Value.bool false) rfl), gg20, ⟨[Value.bool false], rfl, rfl⟩, hs.ext⟩
        ·refine WP_false rfl hc20 <| WP_skip <| WP_region <| O (r_move (v := Value.int .i64 xv16) rfl) rfl ?_
         obtain ⟨t12, ht12, hM⟩ := bindS hM
         refine O (r_addM rfl rfl ht12) rfl <| O (r_assign (v := Value.int .i64 t12) rfl) rfl <| OW_nil ?_
         obtain rfl := Option.some.inj hM
         exact ⟨rfl, rfl, rfl, rfl, hds, hs⟩
      ·refine WP_false rfl hc19 <| WP_exit ?_
       obtain rfl := Option.some.inj hM
       refine fun hr => ?_
       have hM := congrArg some hr
       obtain rfl := Option.some.inj hM
       exact ⟨(), rfl, v14, xs9, rfl, rfl, rfl, hds, hrelxs9, hs⟩
     ·clear hs
      rintro E w ⟨_, rfl, v21, xs16, hE3, hE7, hE8, hds, hrelxs16, hs⟩
      have hM := hKhx6
      dsimp only [onStep] at hM
      obtain ⟨E, rfl⟩ := open3 (E := E) hE3 hE7 hE8
      refine WP_seq <| WP_any (.q 0 (.q 1 (.q 3 (.q 4 (.s 2 (.s 5 (.q 6 (.q 7 (.leaf))))))))) (SS g0 w0 gg20 [.row v21 3 (tInt .i64).sz rv11.length xs16, Go.Lx.box b1 25 ([Value.int .i64 p1.States, Value.int .i64 p1.Start, v1, v2])]) mo (by decide +kernel) ?_
      have hs := hs.drew
      have hagg20 := Hle.refl gg20
      have hS : SS g0 w0 gg20 [.row v21 3 (tInt .i64).sz rv11.length xs16, Go.Lx.box b1 25 ([Value.int .i64 p1.States, Value.int .i64 p1.Start, v1, v2])] _ := ⟨gg20, Hle.refl _, hs⟩
      refine A rfl hS (fun w9 ⟨g9, hle9, hs⟩ => r_loadN (cs := [Value.int .i64 p1.States, Value.int .i64 p1.Start, v1, v2]) ti25 rfl rfl (hs.cells (i := 1) rfl)) rfl <| A rfl hS (fun w9 ⟨g9, hle9, hs⟩ => r_move (v := encS s1) rfl) rfl <| A rfl hS (fun w9 ⟨g9, hle9, hs⟩ => r_loadN (cs := [Value.int .i64 p1.States, Value.int .i64 p1.Start, v1, v2]) ti25 rfl rfl (hs.cells (i := 1) rfl)) rfl <| A rfl hS (fun w9 ⟨g9, hle9, hs⟩ => r_move (v := v21) rfl) rfl <| A1 rfl ?_
      obtain ⟨rv18, hrv18, hM⟩ := bindS hM
      refine C [Value.agg (List.toArray (α := Value) [Value.int .i64 p1.States, Value.int .i64 p1.Start, v1, v2]), encS s1] cf20 rfl (nfa_Run_ok hrv18 hs.imm (⟨[Value.int .i64 p1.States], [Value.int .i64 p1.Start], [v1], [v2], rfl, rfl, rfl, ⟨_, rfl, hRv1⟩, ⟨_, rfl, hRv2⟩⟩)) rfl ?_
      rintro v22 wv13 ⟨gg33, hvv22, hegg33⟩
      have hlegg33 := hegg33.le hs.imm
      replace hs := hs.call hegg33
      replace hRv1 := hRv1.mono hlegg33
      replace hRv2 := hRv2.mono hlegg33
      replace hrelxs16 := hrelxs16.mono hlegg33
      replace hagg20 := hagg20.trans hlegg33
      obtain ⟨cs33, rfl, hcs33⟩ := hvv22
      have hcs33 : cs33 = _ := hcs33; subst hcs33
      refine OW_nil ?_
      replace hS := hS.to hagg20 hs
      refine ⟨fun _ => hS, ?_⟩
      refine A1 rfl ?_
      have hsL8 := hs
      have hagg20L8 := hagg20
      obtain ⟨gg34, hlegg34, hRgg34, hs⟩ := hs.relRow (i := 0) rfl hrelxs16
      replace hRv1 := hRv1.mono hlegg34
      replace hRv2 := hRv2.mono hlegg34
      replace hagg20 := hagg20.trans hlegg34
      obtain ⟨rv19, hrv19, hM⟩ := bindS hM
      refine C [Value.agg (List.toArray (α := Value) [Value.int .i64 p1.States, Value.int .i64 p1.Start, v1, v2]), v21] cf22 rfl (ref09_Accepted_ok hrv19 hs.imm (⟨[Value.int .i64 p1.States], [Value.int .i64 p1.Start], [v1], [v2], rfl, rfl, rfl, ⟨_, rfl, hRv1⟩, ⟨_, rfl, hRv2⟩⟩) hRgg34) rfl ?_
      rintro v23 wv14 ⟨gg35, hvv23, hegg35⟩
      obtain ⟨gg36, hlegg36, hs⟩ := hsL8.lent hegg35
      replace hagg20 := hagg20L8.trans hlegg36
      obtain ⟨cs34, rfl, hcs34⟩ := hvv23
      have hcs34 : cs34 = _ := hcs34; subst hcs34
      refine OW_nil ?_
      replace hS := hS.to hagg20 hs
      refine ⟨fun _ => hS, ?_⟩
      refine A rfl hS (fun w9 ⟨g9, hle9, hs⟩ => r_eql rfl rfl) rfl <| A rfl hS (fun w9 ⟨g9, hle9, hs⟩ => r_assign (v := Value.bool (rv18 == rv19)) rfl) rfl <| AN <| WP_ret ?_
      obtain rfl := Option.some.inj hM
      refine FL_nil hds ?_
      exact ⟨_, res1 Try.results8 (rv_tmp (v := Value.bool (rv18 == rv19)) rfl), gg36, ⟨[Value.bool (rv18 == rv19)], rfl, rfl⟩, hs.ext⟩

end Go.Proofs.Ytajmekjcnbmaaaa
