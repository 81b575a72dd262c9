/- The walk of the law. Printed by a program of my own. -/
import Derived.Test.YtajmekjcnbmaaaaTyp
import Derived.Test.YtajmekjcnbmaaaaWalk4
import Derived.Test.YtajmekjcnbmaaaaWalk6
set_option linter.unusedVariables false
set_option linter.unusedSimpArgs false
namespace Go.Proofs.Ytajmekjcnbmaaaa
open Go.Lx Go.RowKit
set_option maxRecDepth 100000 in
theorem law09_NfaStepIsMonotone_ok {p1 : T_NFA} {p2 : (List Int)} {p3 : Int} {r : Bool} (hM : M.law09_NfaStepIsMonotone p1 p2 p3 = some r) {g0 : Hp} {w0 : World} (hi : Imm g0 w0) {cs1 : List Value} (hcs1 : tT_NFA.rel g0 cs1 p1) {v1 : Value} (hRv1 : RdS (tInt .i64) g0 v1 p2) :
    CallsV Try.prog 6 #[Value.agg cs1.toArray, v1, Value.int .u8 p3] w0 (fun v w' => ∃ g', (VRd tBool false g' v r) ∧ Ext g0 w0 g' w') := by
 unfold M.law09_NfaStepIsMonotone at hM
 obtain ⟨cs2, cs3, cs4, cs5, rfl, hcs2, hcs3, hcs4, hcs5⟩ := hcs1
 have hcs2 : cs2 = _ := hcs2; subst hcs2
 have hcs3 : cs3 = _ := hcs3; subst hcs3
 obtain ⟨v2, rfl, hRv2⟩ := hcs4
 obtain ⟨v3, rfl, hRv3⟩ := hcs5
 have hs := Sep.start hi
 refine calls_of_WP (args := [Value.agg (List.toArray (α := Value) [Value.int .i64 p1.States, Value.int .i64 p1.Start, v2, v3]), v1, Value.int .u8 p3]) Try.func6 rfl Try.ntmps6 rfl ?_
 have hds : (argEnv [Value.agg (List.toArray (α := Value) [Value.int .i64 p1.States, Value.int .i64 p1.Start, v2, v3]), v1, Value.int .u8 p3]).ds = [] := rfl
 refine WP_seq <| WP_region <| OW_box (v := Value.agg (List.toArray (α := Value) [Value.int .i64 p1.States, Value.int .i64 p1.Start, v2, v3])) rfl hs (zs := [Value.int .i64 p1.States, Value.int .i64 p1.Start, v2, v3]) rfl rfl ?_
 intro b1 wv1 hs
 refine O (r_assign (v := Value.bool false) rfl) rfl <| OW_nil <| WP_seq <| WP_seq <| WP_region ?_
 obtain ⟨rv1, hrv1, hM⟩ := bindS hM
 refine C [] cf11 rfl (law09_awake_ok hrv1 hs.imm) rfl ?_
 rintro v4 wv2 ⟨gg1, hvv4, hegg1⟩
 have hlegg1 := hegg1.le hs.imm
 replace hs := hs.call hegg1
 replace hRv1 := hRv1.mono hlegg1
 replace hRv2 := hRv2.mono hlegg1
 replace hRv3 := hRv3.mono hlegg1
 obtain ⟨cs6, rfl, hcs6⟩ := hvv4
 have hcs6 : cs6 = _ := hcs6; subst hcs6
 refine O (r_not rfl) rfl <| OW_nil ?_
 rcases condS hM with ⟨hc1, hM⟩ | ⟨hc1, hM⟩
 ·refine WP_true rfl hc1 <| WP_seq <| WP_region <| O (r_assign (v := Value.bool false) rfl) rfl <| OW_nil <| WP_ret ?_
  obtain rfl := Option.some.inj hM
  refine FL_nil hds ?_
  exact ⟨_, res1 Try.results6 (rv_tmp (v := Value.bool false) rfl), gg1, ⟨[Value.bool false], rfl, rfl⟩, hs.ext⟩
 ·refine WP_false rfl hc1 <| WP_skip <| WP_seq ?_
  obtain ⟨xv1, hx1, hKhx1⟩ := bindS hM
  refine WP_cut (fun E w => ∃ (gg3 : Hp), E 1 = v1 ∧ E 2 = Value.int .u8 p3 ∧ E 3 = Value.pointer (some ⟨b1, 0, none⟩) ∧ E 25 = Value.bool xv1 ∧ E.ds = [] ∧ Hle gg1 gg3 ∧ Go.Lx.Sep g0 w0 gg3 w [Go.Lx.box b1 25 ([Value.int .i64 p1.States, Value.int .i64 p1.Start, v2, v3])]) ?_ ?_
  ·have hM := hx1
   have hagg1 := Hle.refl gg1
   refine WP_region <| O (r_loadN (cs := [Value.int .i64 p1.States, Value.int .i64 p1.Start, v2, v3]) ti25 rfl rfl (hs.cells (i := 0) rfl)) rfl ?_
   obtain ⟨rv3, hrv3, hM⟩ := bindS hM
   refine C [Value.agg (List.toArray (α := Value) [Value.int .i64 p1.States, Value.int .i64 p1.Start, v2, v3])] cf14 rfl (law09_light_ok hrv3 hs.imm (⟨[Value.int .i64 p1.States], [Value.int .i64 p1.Start], [v2], [v3], rfl, rfl, rfl, ⟨_, rfl, hRv2⟩, ⟨_, rfl, hRv3⟩⟩)) rfl ?_
   rintro v6 wv4 ⟨gg4, hvv6, hegg4⟩
   have hlegg4 := hegg4.le hs.imm
   replace hs := hs.call hegg4
   replace hRv1 := hRv1.mono hlegg4
   replace hagg1 := hagg1.trans hlegg4
   obtain ⟨cs8, rfl, hcs8⟩ := hvv6
   have hcs8 : cs8 = _ := hcs8; subst hcs8
   refine O (r_not rfl) rfl <| O (r_move (v := Value.bool (!rv3)) rfl) rfl ?_
   rcases condS hM with ⟨hg3, hM⟩ | ⟨hg3, hM⟩
   ·refine OK rfl rfl rfl (by rw [hg3]; rfl) rfl <| OK rfl rfl rfl (by rw [hg3]; rfl) rfl <| OK rfl rfl rfl (by rw [hg3]; rfl) rfl <| O (r_pickT (v := Value.bool true) rfl hg3 rfl) rfl <| O (r_move (v := Value.bool true) rfl) rfl <| OK rfl rfl rfl rfl rfl <| OK rfl rfl rfl rfl rfl <| OK rfl rfl rfl rfl rfl <| O (r_pickT (v := Value.bool true) rfl rfl rfl) rfl <| OW_nil ?_
    obtain rfl := Option.some.inj hM
    exact ⟨gg4, rfl, rfl, rfl, rfl, hds, hagg1, hs⟩
   ·refine OG rfl rfl rfl (by rw [hg3]; rfl) (r_move (v := v1) rfl) rfl ?_
    obtain ⟨a3, ca3, hva3⟩ := hRv1.shape
    refine OG rfl rfl rfl (by rw [hg3]; rfl) (r_lenSl (v := v1) Try.underlying23 rfl hva3) rfl <| OG rfl rfl rfl (by rw [hg3]; rfl) (r_gtr rfl rfl) rfl <| O (r_pickF (v := Value.bool (decide (60 < (p2.length : Int)))) rfl hg3 rfl) rfl <| O (r_move (v := Value.bool (decide (60 < (p2.length : Int)))) rfl) rfl ?_
    rcases condS hM with ⟨hg4, hM⟩ | ⟨hg4, hM⟩
    ·refine OK rfl rfl rfl (by rw [hg4]; rfl) rfl <| OK rfl rfl rfl (by rw [hg4]; rfl) rfl <| OK rfl rfl rfl (by rw [hg4]; rfl) rfl <| O (r_pickT (v := Value.bool true) rfl hg4 rfl) rfl <| OW_nil ?_
     obtain rfl := Option.some.inj hM
     exact ⟨gg4, rfl, rfl, rfl, rfl, hds, hagg1, hs⟩
    ·refine OG rfl rfl rfl (by rw [hg4]; rfl) (r_move (v := v1) rfl) rfl ?_
     obtain ⟨a4, ca4, hva4⟩ := hRv1.shape
     refine OG rfl rfl rfl (by rw [hg4]; rfl) (r_lenSl (v := v1) Try.underlying23 rfl hva4) rfl <| OG rfl rfl rfl (by rw [hg4]; rfl) (r_eql rfl rfl) rfl <| O (r_pickF (v := Value.bool ((p2.length : Int) == 0)) rfl hg4 rfl) rfl <| OW_nil ?_
     obtain rfl := Option.some.inj hM
     exact ⟨gg4, rfl, rfl, rfl, rfl, hds, hagg1, hs⟩
  ·clear hs
   rintro E w ⟨gg3, hE1, hE2, hE3, hE25, hds, hlegg3, hs⟩
   have hM := hKhx1
   obtain ⟨E, rfl⟩ := open4 (E := E) hE1 hE2 hE3 hE25
   replace hRv1 := hRv1.mono hlegg3
   replace hRv2 := hRv2.mono hlegg3
   replace hRv3 := hRv3.mono hlegg3
   rcases condS hM with ⟨hc2, hM⟩ | ⟨hc2, hM⟩
   ·refine WP_true rfl hc2 <| WP_seq <| WP_region <| O (r_assign (v := Value.bool true) rfl) rfl <| OW_nil <| WP_ret ?_
    obtain rfl := Option.some.inj hM
    refine FL_nil hds ?_
    exact ⟨_, res1 Try.results6 (rv_tmp (v := Value.bool true) rfl), gg3, ⟨[Value.bool true], rfl, rfl⟩, hs.ext⟩
   ·refine WP_false rfl hc2 <| WP_skip <| WP_seq <| WP_any (.q 0 (.q 1 (.q 2 (.q 4 (.q 5 (.q 6 (.q 7 (.s 3 (.s 8 (.q 9 (.q 10 (.leaf)))))))))))) (SS g0 w0 gg3 [Go.Lx.box b1 25 ([Value.int .i64 p1.States, Value.int .i64 p1.Start, v2, v3])]) mo (by decide +kernel) ?_
    have hs := hs.drew
    have hagg3 := Hle.refl gg3
    have hS : SS g0 w0 gg3 [Go.Lx.box b1 25 ([Value.int .i64 p1.States, Value.int .i64 p1.Start, v2, v3])] _ := ⟨gg3, Hle.refl _, hs⟩
    refine A rfl hS (fun w9 ⟨g9, hle9, hs⟩ => r_loadN (cs := [Value.int .i64 p1.States, Value.int .i64 p1.Start, v2, v3]) ti25 rfl rfl (hs.cells (i := 0) rfl)) rfl <| A rfl hS (fun w9 ⟨g9, hle9, hs⟩ => r_move (v := v1) rfl) rfl <| A rfl hS (fun w9 ⟨g9, hle9, hs⟩ => r_move (v := Value.int .u8 p3) rfl) rfl <| A rfl hS (fun w9 ⟨g9, hle9, hs⟩ => r_loadN (cs := [Value.int .i64 p1.States, Value.int .i64 p1.Start, v2, v3]) ti25 rfl rfl (hs.cells (i := 0) rfl)) rfl <| A rfl hS (fun w9 ⟨g9, hle9, hs⟩ => r_move (v := v1) rfl) rfl ?_
    obtain ⟨l1, hl1, hM⟩ := bindS hM
    obtain ⟨v7, hRv7, hrunv7⟩ := RdS.slice hRv1 hl1
    refine A rfl hS (fun w9 ⟨g9, hle9, hs⟩ => hrunv7 Try.underlying23 ti3 rfl (Bnd.some rfl) Bnd.none) rfl <| A rfl hS (fun w9 ⟨g9, hle9, hs⟩ => r_move (v := Value.int .u8 p3) rfl) rfl <| A1 rfl ?_
    obtain ⟨rv4, hrv4, hM⟩ := bindS hM
    refine C [Value.agg (List.toArray (α := Value) [Value.int .i64 p1.States, Value.int .i64 p1.Start, v2, v3]), v1, Value.int .u8 p3] cf18 rfl (nfa_Step_ok hrv4 hs.imm (⟨[Value.int .i64 p1.States], [Value.int .i64 p1.Start], [v2], [v3], rfl, rfl, rfl, ⟨_, rfl, hRv2⟩, ⟨_, rfl, hRv3⟩⟩) hRv1) rfl ?_
    rintro v8 wv5 ⟨gg5, xs1, hvv8, hegg5⟩
    have hlegg5 := hegg5.ext.le hs.imm
    replace hs := hs.callOwn hegg5
    simp only [List.cons_append, List.nil_append] at hs
    replace hRv2 := hRv2.mono hlegg5
    replace hRv3 := hRv3.mono hlegg5
    replace hRv7 := hRv7.mono hlegg5
    replace hagg3 := hagg3.trans hlegg5
    refine OW_nil ?_
    replace hS := hS.to hagg3 (hs.sub (.cons _ (.cons_cons _ .slnil)))
    refine ⟨fun _ => hS, ?_⟩
    refine A1 rfl ?_
    obtain ⟨rv5, hrv5, hM⟩ := bindS hM
    refine C [Value.agg (List.toArray (α := Value) [Value.int .i64 p1.States, Value.int .i64 p1.Start, v2, v3]), v7, Value.int .u8 p3] cf18 rfl (nfa_Step_ok hrv5 hs.imm (⟨[Value.int .i64 p1.States], [Value.int .i64 p1.Start], [v2], [v3], rfl, rfl, rfl, ⟨_, rfl, hRv2⟩, ⟨_, rfl, hRv3⟩⟩) hRv7) rfl ?_
    rintro v9 wv6 ⟨gg6, xs2, hvv9, hegg6⟩
    have hlegg6 := hegg6.ext.le hs.imm
    replace hs := hs.callOwn hegg6
    simp only [List.cons_append, List.nil_append] at hs
    replace hvv8 := hvv8.mono hlegg6
    replace hagg3 := hagg3.trans hlegg6
    refine OW_nil ?_
    replace hS := hS.to hagg3 (hs.sub (.cons _ (.cons _ (.cons_cons _ .slnil))))
    refine ⟨fun _ => hS, ?_⟩
    refine A rfl hS (fun w9 ⟨g9, hle9, hs⟩ => r_assign (v := v8) rfl) rfl <| A rfl hS (fun w9 ⟨g9, hle9, hs⟩ => r_assign (v := v9) rfl) rfl <| AN <| WP_seq <| WP_region <| O (r_assign (v := Value.int .i64 0) rfl) rfl <| OW_nil ?_
    obtain ⟨o33, hx53, hKhx53⟩ := stepS hM
    refine WP_cut (fun E w => ∃ u9 : Unit, o33 = .next u9 ∧ E.ds = [] ∧ Go.Lx.Sep g0 w0 gg6 w []) ?_ ?_
    ·have hM := hx53
     have hagg6 := Hle.refl gg6
     refine WP_seq <| WP_region <| O (r_assign (v := Value.int .i64 0) rfl) rfl <| OW_nil <| WP_block <| WP_loop (fun (st9 : Int × Int) E w => match st9 with | (xv126, xv127) => ∃ (v43 : Value) (xs36 : List Value) (v42 : Value) (xs35 : List Value), E 7 = v42 ∧ E 8 = v43 ∧ E 9 = Value.int .i64 xv126 ∧ E 10 = Value.int .i64 xv127 ∧ E.ds = [] ∧ RowRel (tInt .i64) gg6 xs36 rv5 ∧ RowRel (tInt .i64) gg6 xs35 rv4 ∧ Go.Lx.Sep g0 w0 gg6 w [.row v43 3 (tInt .i64).sz rv5.length xs36, .row v42 3 (tInt .i64).sz rv4.length xs35]) hM ⟨v9, xs2, v8, xs1, rfl, rfl, rfl, rfl, hds, hvv9, hvv8, (hs.sub (.cons_cons _ (.cons_cons _ (.cons _ .slnil))))⟩ ?_
     clear hs hM
     rintro ⟨xv126, xv127⟩ o27 E w hM ⟨v43, xs36, v42, xs35, hE7, hE8, hE9, hE10, hds, hrelxs36, hrelxs35, hs⟩
     obtain ⟨E, rfl⟩ := open4 (E := E) hE7 hE8 hE9 hE10
     refine WP_seq <| WP_seq <| WP_region <| O (r_move (v := Value.int .i64 xv127) rfl) rfl <| O (r_move (v := v43) rfl) rfl ?_
     obtain ⟨a150, ca150, hva150⟩ := hs.rowShape (i := 0) rfl
     refine O (r_lenSl (v := v43) Try.underlying23 rfl hva150) rfl <| O (r_lss rfl rfl) rfl <| OW_nil ?_
     rcases condS hM with ⟨hc78, hM⟩ | ⟨hc78, hM⟩
     ·refine WP_true rfl hc78 <| WP_skip ?_
      obtain ⟨o32, hx96, hKhx96⟩ := stepS hM
      refine WP_cut (fun E w => ∃ (xv173 : Int), o32 = .next xv173 ∧ ∃ (v55 : Value) (xs48 : List Value) (v54 : Value) (xs47 : List Value), E 7 = v54 ∧ E 8 = v55 ∧ E 9 = Value.int .i64 xv173 ∧ E 10 = Value.int .i64 xv127 ∧ E.ds = [] ∧ RowRel (tInt .i64) gg6 xs48 rv5 ∧ RowRel (tInt .i64) gg6 xs47 rv4 ∧ Go.Lx.Sep g0 w0 gg6 w [.row v55 3 (tInt .i64).sz rv5.length xs48, .row v54 3 (tInt .i64).sz rv4.length xs47]) ?_ ?_
      ·have hM := hx96
       refine WP_block ?_
       obtain ⟨xv180, hx100, hKhx100⟩ := bindS hM
       refine WP_cut (fun E w => ∃ (v57 : Value) (xs50 : List Value) (v56 : Value) (xs49 : List Value), E 7 = v56 ∧ E 8 = v57 ∧ E 9 = Value.int .i64 xv180 ∧ E 10 = Value.int .i64 xv127 ∧ E.ds = [] ∧ RowRel (tInt .i64) gg6 xs50 rv5 ∧ RowRel (tInt .i64) gg6 xs49 rv4 ∧ Go.Lx.Sep g0 w0 gg6 w [.row v57 3 (tInt .i64).sz rv5.length xs50, .row v56 3 (tInt .i64).sz rv4.length xs49]) ?_ ?_
       ·have hM := hx100
        refine WP_block <| WP_loop (fun (xv183 : Int) E w => E 7 = v42 ∧ E 8 = v43 ∧ E 9 = Value.int .i64 xv183 ∧ E 10 = Value.int .i64 xv127 ∧ E.ds = [] ∧ Go.Lx.Sep g0 w0 gg6 w [.row v43 3 (tInt .i64).sz rv5.length xs36, .row v42 3 (tInt .i64).sz rv4.length xs35]) hM ⟨rfl, rfl, rfl, rfl, hds, hs⟩ ?_
        clear hs hM
        rintro xv183 o31 E w hM ⟨hE7, hE8, hE9, hE10, hds, hs⟩
        obtain ⟨E, rfl⟩ := open4 (E := E) hE7 hE8 hE9 hE10
        refine WP_seq ?_
        obtain ⟨xv186, hx103, hKhx103⟩ := bindS hM
        refine WP_cut (fun E w => E 7 = v42 ∧ E 8 = v43 ∧ E 9 = Value.int .i64 xv183 ∧ E 10 = Value.int .i64 xv127 ∧ E 55 = Value.bool xv186 ∧ E.ds = [] ∧ Go.Lx.Sep g0 w0 gg6 w [.row v43 3 (tInt .i64).sz rv5.length xs36, .row v42 3 (tInt .i64).sz rv4.length xs35]) ?_ ?_
        ·have hM := hx103
         refine WP_draw mo (by decide +kernel) ?_
         have hs := hs.drew
         refine S (r_move (v := Value.int .i64 xv183) rfl) rfl <| S (r_move (v := v42) rfl) rfl ?_
         obtain ⟨a176, ca176, hva176⟩ := hs.rowShape (i := 1) rfl
         refine S (r_lenSl (v := v42) Try.underlying23 rfl hva176) rfl <| S (r_lss rfl rfl) rfl <| S (r_move (v := Value.bool (decide (xv183 < (rv4.length : Int)))) rfl) rfl ?_
         rcases condS hM with ⟨hg170, hM⟩ | ⟨hg170, hM⟩
         ·refine SG rfl rfl rfl (by rw [hg170]; rfl) (r_move (v := v42) rfl) rfl <| SG rfl rfl rfl (by rw [hg170]; rfl) (r_move (v := Value.int .i64 xv183) rfl) rfl ?_
          obtain ⟨e331, he331, hM⟩ := bindS hM
          obtain ⟨b332, cb332, hvb332, cs339, hcs339, hcb332⟩ := hs.rowEl (i := 1) rfl hrelxs35 he331
          have hcs339 : cs339 = _ := hcs339; subst hcs339
          refine SG rfl rfl rfl (by rw [hg170]; rfl) (r_idxSl Try.underlying23 ti3 (v := v42) rfl hvb332 rfl (idxL_some he331).1 (idxL_some he331).2.1) rfl <| SG rfl rfl rfl (by rw [hg170]; rfl) (r_loadEl (cs := [Value.int .i64 e331]) ti3 rfl rfl (.inr rfl) (hcb332 _ (hs.at (i := 1) rfl)) (v := Value.int .i64 e331) rfl) rfl <| SG rfl rfl rfl (by rw [hg170]; rfl) (r_move (v := v43) rfl) rfl <| SG rfl rfl rfl (by rw [hg170]; rfl) (r_move (v := Value.int .i64 xv127) rfl) rfl ?_
          obtain ⟨e332, he332, hM⟩ := bindS hM
          obtain ⟨b333, cb333, hvb333, cs340, hcs340, hcb333⟩ := hs.rowEl (i := 0) rfl hrelxs36 he332
          have hcs340 : cs340 = _ := hcs340; subst hcs340
          refine SG rfl rfl rfl (by rw [hg170]; rfl) (r_idxSl Try.underlying23 ti3 (v := v43) rfl hvb333 rfl (idxL_some he332).1 (idxL_some he332).2.1) rfl <| SG rfl rfl rfl (by rw [hg170]; rfl) (r_loadEl (cs := [Value.int .i64 e332]) ti3 rfl rfl (.inr rfl) (hcb333 _ (hs.at (i := 0) rfl)) (v := Value.int .i64 e332) rfl) rfl <| SG rfl rfl rfl (by rw [hg170]; rfl) (r_lss rfl rfl) rfl <| S (r_pickT (v := Value.bool (decide (e331 < e332))) rfl hg170 rfl) rfl <| SW_nil ?_
          obtain rfl := Option.some.inj hM
          exact ⟨rfl, rfl, rfl, rfl, rfl, hds, hs⟩
         ·refine SK rfl rfl rfl (by rw [hg170]; rfl) rfl <| SK rfl rfl rfl (by rw [hg170]; rfl) rfl <| SK rfl rfl rfl (by rw [hg170]; rfl) rfl <| SK rfl rfl rfl (by rw [hg170]; rfl) rfl <| SK rfl rfl rfl (by rw [hg170]; rfl) rfl <| SK rfl rfl rfl (by rw [hg170]; rfl) rfl <| SK rfl rfl rfl (by rw [hg170]; rfl) rfl <| SK rfl rfl rfl (by rw [hg170]; rfl) rfl <| SK rfl rfl rfl (by rw [hg170]; rfl) rfl <| S (r_pickF (v := Value.bool false) rfl hg170 rfl) rfl <| SW_nil ?_
          obtain rfl := Option.some.inj hM
          exact ⟨rfl, rfl, rfl, rfl, rfl, hds, hs⟩
        ·clear hs
         rintro E w ⟨hE7, hE8, hE9, hE10, hE55, hds, hs⟩
         have hM := hKhx103
         obtain ⟨E, rfl⟩ := open5 (E := E) hE7 hE8 hE9 hE10 hE55
         rcases condS hM with ⟨hc91, hM⟩ | ⟨hc91, hM⟩
         ·refine WP_true rfl hc91 <| WP_skip <| WP_block <| WP_region <| O (r_move (v := Value.int .i64 xv183) rfl) rfl ?_
          obtain ⟨t77, ht77, hM⟩ := bindS hM
          refine O (r_addM rfl rfl ht77) rfl <| O (r_assign (v := Value.int .i64 t77) rfl) rfl <| OW_nil ?_
          obtain rfl := Option.some.inj hM
          exact ⟨rfl, rfl, rfl, rfl, hds, hs⟩
         ·refine WP_false rfl hc91 <| WP_exit ?_
          obtain rfl := Option.some.inj hM
          refine fun hr => ?_
          have hM := congrArg some hr
          obtain rfl := Option.some.inj hM
          exact ⟨v43, xs36, v42, xs35, rfl, rfl, rfl, rfl, hds, hrelxs36, hrelxs35, hs⟩
       ·clear hs
        rintro E w ⟨v57, xs50, v56, xs49, hE7, hE8, hE9, hE10, hds, hrelxs50, hrelxs49, hs⟩
        have hM := hKhx100
        obtain ⟨E, rfl⟩ := open4 (E := E) hE7 hE8 hE9 hE10
        obtain ⟨xv187, hx104, hKhx104⟩ := bindS hM
        refine WP_cut (fun E w => E 7 = v56 ∧ E 8 = v57 ∧ E 9 = Value.int .i64 xv180 ∧ E 10 = Value.int .i64 xv127 ∧ E 72 = Value.bool xv187 ∧ E.ds = [] ∧ Go.Lx.Sep g0 w0 gg6 w [.row v57 3 (tInt .i64).sz rv5.length xs50, .row v56 3 (tInt .i64).sz rv4.length xs49]) ?_ ?_
        ·have hM := hx104
         refine WP_draw mo (by decide +kernel) ?_
         have hs := hs.drew
         refine S (r_move (v := Value.int .i64 xv180) rfl) rfl <| S (r_move (v := v56) rfl) rfl ?_
         obtain ⟨a178, ca178, hva178⟩ := hs.rowShape (i := 1) rfl
         refine S (r_lenSl (v := v56) Try.underlying23 rfl hva178) rfl <| S (r_eql rfl rfl) rfl <| S (r_move (v := Value.bool (xv180 == (rv4.length : Int))) rfl) rfl ?_
         rcases condS hM with ⟨hg172, hM⟩ | ⟨hg172, hM⟩
         ·refine SK rfl rfl rfl (by rw [hg172]; rfl) rfl <| SK rfl rfl rfl (by rw [hg172]; rfl) rfl <| SK rfl rfl rfl (by rw [hg172]; rfl) rfl <| SK rfl rfl rfl (by rw [hg172]; rfl) rfl <| SK rfl rfl rfl (by rw [hg172]; rfl) rfl <| SK rfl rfl rfl (by rw [hg172]; rfl) rfl <| SK rfl rfl rfl (by rw [hg172]; rfl) rfl <| SK rfl rfl rfl (by rw [hg172]; rfl) rfl <| SK rfl rfl rfl (by rw [hg172]; rfl) rfl <| S (r_pickT (v := Value.bool true) rfl hg172 rfl) rfl <| SW_nil ?_
          obtain rfl := Option.some.inj hM
          exact ⟨rfl, rfl, rfl, rfl, rfl, hds, hs⟩
         ·refine SG rfl rfl rfl (by rw [hg172]; rfl) (r_move (v := v56) rfl) rfl <| SG rfl rfl rfl (by rw [hg172]; rfl) (r_move (v := Value.int .i64 xv180) rfl) rfl ?_
          obtain ⟨e335, he335, hM⟩ := bindS hM
          obtain ⟨b336, cb336, hvb336, cs343, hcs343, hcb336⟩ := hs.rowEl (i := 1) rfl hrelxs49 he335
          have hcs343 : cs343 = _ := hcs343; subst hcs343
          refine SG rfl rfl rfl (by rw [hg172]; rfl) (r_idxSl Try.underlying23 ti3 (v := v56) rfl hvb336 rfl (idxL_some he335).1 (idxL_some he335).2.1) rfl <| SG rfl rfl rfl (by rw [hg172]; rfl) (r_loadEl (cs := [Value.int .i64 e335]) ti3 rfl rfl (.inr rfl) (hcb336 _ (hs.at (i := 1) rfl)) (v := Value.int .i64 e335) rfl) rfl <| SG rfl rfl rfl (by rw [hg172]; rfl) (r_move (v := v57) rfl) rfl <| SG rfl rfl rfl (by rw [hg172]; rfl) (r_move (v := Value.int .i64 xv127) rfl) rfl ?_
          obtain ⟨e336, he336, hM⟩ := bindS hM
          obtain ⟨b337, cb337, hvb337, cs344, hcs344, hcb337⟩ := hs.rowEl (i := 0) rfl hrelxs50 he336
          have hcs344 : cs344 = _ := hcs344; subst hcs344
          refine SG rfl rfl rfl (by rw [hg172]; rfl) (r_idxSl Try.underlying23 ti3 (v := v57) rfl hvb337 rfl (idxL_some he336).1 (idxL_some he336).2.1) rfl <| SG rfl rfl rfl (by rw [hg172]; rfl) (r_loadEl (cs := [Value.int .i64 e336]) ti3 rfl rfl (.inr rfl) (hcb337 _ (hs.at (i := 0) rfl)) (v := Value.int .i64 e336) rfl) rfl <| SG rfl rfl rfl (by rw [hg172]; rfl) (r_neq rfl rfl) rfl <| S (r_pickF (v := Value.bool (e335 != e336)) rfl hg172 rfl) rfl <| SW_nil ?_
          obtain rfl := Option.some.inj hM
          exact ⟨rfl, rfl, rfl, rfl, rfl, hds, hs⟩
        ·clear hs
         rintro E w ⟨hE7, hE8, hE9, hE10, hE72, hds, hs⟩
         have hM := hKhx104
         obtain ⟨E, rfl⟩ := open5 (E := E) hE7 hE8 hE9 hE10 hE72
         rcases condS hM with ⟨hc92, hM⟩ | ⟨hc92, hM⟩
         ·refine WP_true rfl hc92 <| WP_seq <| WP_region <| O (r_assign (v := Value.bool false) rfl) rfl <| OW_nil <| WP_ret ?_
          obtain rfl := Option.some.inj hM
          have hM := hKhx96
          obtain rfl := Option.some.inj hM
          refine fun hr => ?_
          have hM := congrArg some hr
          obtain rfl := Option.some.inj hM
          have hM := hKhx53
          obtain rfl := Option.some.inj hM
          refine FL_nil hds ?_
          exact ⟨_, res1 Try.results6 (rv_tmp (v := Value.bool false) rfl), gg6, ⟨[Value.bool false], rfl, rfl⟩, hs.ext⟩
         ·refine WP_false rfl hc92 <| WP_skip ?_
          obtain rfl := Option.some.inj hM
          exact ⟨xv180, rfl, v57, xs50, v56, xs49, rfl, rfl, rfl, rfl, hds, hrelxs50, hrelxs49, hs⟩
      ·clear hs
       rintro E w ⟨xv173, rfl, v55, xs48, v54, xs47, hE7, hE8, hE9, hE10, hds, hrelxs48, hrelxs47, hs⟩
       have hM := hKhx96
       dsimp only [onStep] at hM
       obtain ⟨E, rfl⟩ := open4 (E := E) hE7 hE8 hE9 hE10
       refine WP_region <| O (r_move (v := Value.int .i64 xv127) rfl) rfl ?_
       obtain ⟨t78, ht78, hM⟩ := bindS hM
       refine O (r_addM rfl rfl ht78) rfl <| O (r_assign (v := Value.int .i64 t78) rfl) rfl <| OW_nil ?_
       obtain rfl := Option.some.inj hM
       exact ⟨v55, xs48, v54, xs47, rfl, rfl, rfl, rfl, hds, hrelxs48, hrelxs47, hs⟩
     ·refine WP_false rfl hc78 <| WP_exit ?_
      obtain rfl := Option.some.inj hM
      refine fun hr => ?_
      have hM := congrArg some hr
      obtain rfl := Option.some.inj hM
      exact ⟨(), rfl, hds, (hs.sub (.cons _ (.cons _ .slnil)))⟩
    ·clear hs
     rintro E w ⟨_, rfl, hds, hs⟩
     have hM := hKhx53
     dsimp only [onStep] at hM
     refine WP_seq <| WP_region <| O (r_assign (v := Value.bool true) rfl) rfl <| OW_nil <| WP_ret ?_
     obtain rfl := Option.some.inj hM
     refine FL_nil hds ?_
     exact ⟨_, res1 Try.results6 (rv_tmp (v := Value.bool true) rfl), gg6, ⟨[Value.bool true], rfl, rfl⟩, hs.ext⟩

end Go.Proofs.Ytajmekjcnbmaaaa
