/- The walks: what each function does is what its model says. Printed by a program of my own. -/
import Derived.Test.YtogpainomdfpnaaTyp
import Derived.Test.YtogpainomdfpnaaWalk1
import Derived.Test.YtogpainomdfpnaaWalk2
set_option linter.unusedVariables false
set_option linter.unusedSimpArgs false
namespace Go.Proofs.Ytogpainomdfpnaa
open Go.Lx Go.RowKit
set_option maxRecDepth 100000 in
theorem ref10_Same_ok {a1 : T_DFA} {b1 : T_DFA} {r : Bool} (hM : M.ref10_Same a1 b1 = some r) {g0 : Hp} {w0 : World} (hi : Imm g0 w0) {cs1 : List Value} (hcs1 : tT_DFA.rel g0 cs1 a1) {cs2 : List Value} (hcs2 : tT_DFA.rel g0 cs2 b1) :
    CallsV Try.prog 16 #[Value.agg cs1.toArray, Value.agg cs2.toArray] w0 (fun v w' => ∃ g', (VRd tBool false g' v r) ∧ Ext g0 w0 g' w') := by
 unfold M.ref10_Same at hM
 obtain ⟨cs3, cs4, cs5, rfl, hcs3, hcs4, hcs5⟩ := hcs1
 obtain ⟨v1, rfl, hRv1⟩ := hcs3
 obtain ⟨v2, rfl, hRv2⟩ := hcs4
 obtain ⟨v3, rfl, hRv3⟩ := hcs5
 obtain ⟨cs6, cs7, cs8, rfl, hcs6, hcs7, hcs8⟩ := hcs2
 obtain ⟨v4, rfl, hRv4⟩ := hcs6
 obtain ⟨v5, rfl, hRv5⟩ := hcs7
 obtain ⟨v6, rfl, hRv6⟩ := hcs8
 have hs := Sep.start hi
 refine calls_of_WP (args := [Value.agg (List.toArray (α := Value) [v1, v2, v3]), Value.agg (List.toArray (α := Value) [v4, v5, v6])]) Try.func16 rfl Try.ntmps16 rfl ?_
 have hds : (argEnv [Value.agg (List.toArray (α := Value) [v1, v2, v3]), Value.agg (List.toArray (α := Value) [v4, v5, v6])]).ds = [] := rfl
 refine WP_seq <| WP_region <| OW_box (v := Value.agg (List.toArray (α := Value) [v1, v2, v3])) rfl hs (zs := [v1, v2, v3]) rfl rfl ?_
 intro b2 wv1 hs
 refine OW_box (v := Value.agg (List.toArray (α := Value) [v4, v5, v6])) rfl hs (zs := [v4, v5, v6]) rfl rfl ?_
 intro b3 wv2 hs
 refine O (r_assign (v := Value.bool false) rfl) rfl <| OW_nil <| WP_seq ?_
 obtain ⟨xv1, hx1, hKhx1⟩ := bindS hM
 refine WP_cut (fun E w => ∃ (gg3 : Hp), E 2 = Value.pointer (some ⟨b2, 0, none⟩) ∧ E 3 = Value.pointer (some ⟨b3, 0, none⟩) ∧ E 28 = Value.bool xv1 ∧ E.ds = [] ∧ Hle g0 gg3 ∧ Go.Lx.Sep g0 w0 gg3 w [Go.Lx.box b3 25 ([v4, v5, v6]), Go.Lx.box b2 25 ([v1, v2, v3])]) ?_ ?_
 ·have hM := hx1
  have hag0 := Hle.refl g0
  refine WP_region <| O (r_fieldAddr Try.underlying25 ti23 rfl rfl (by decide) rfl rfl) rfl <| O (r_load (v := v2) ti23 rfl (hs.cell (i := 1) (o := 1) rfl rfl)) rfl ?_
  obtain ⟨a4, ca4, hva4⟩ := hRv2.shape
  refine O (r_lenSl (v := v2) Try.underlying23 rfl hva4) rfl <| O (r_fieldAddr Try.underlying25 ti23 rfl rfl (by decide) rfl rfl) rfl <| O (r_load (v := v5) ti23 rfl (hs.cell (i := 0) (o := 1) rfl rfl)) rfl ?_
  obtain ⟨a5, ca5, hva5⟩ := hRv5.shape
  refine O (r_lenSl (v := v5) Try.underlying23 rfl hva5) rfl <| O (r_neq rfl rfl) rfl <| O (r_move (v := Value.bool ((a1.Next.length : Int) != (b1.Next.length : Int))) rfl) rfl ?_
  rcases condS hM with ⟨hg3, hM⟩ | ⟨hg3, hM⟩
  ·refine OK rfl rfl rfl (by rw [hg3]; rfl) rfl <| OK rfl rfl rfl (by rw [hg3]; rfl) rfl <| OK rfl rfl rfl (by rw [hg3]; rfl) rfl <| OK rfl rfl rfl (by rw [hg3]; rfl) rfl <| OK rfl rfl rfl (by rw [hg3]; rfl) rfl <| OK rfl rfl rfl (by rw [hg3]; rfl) rfl <| O (r_pickT (v := Value.bool true) rfl hg3 rfl) rfl <| O (r_move (v := Value.bool true) rfl) rfl <| OK rfl rfl rfl rfl rfl <| OK rfl rfl rfl rfl rfl <| OK rfl rfl rfl rfl rfl <| OK rfl rfl rfl rfl rfl <| OK rfl rfl rfl rfl rfl <| OK rfl rfl rfl rfl rfl <| O (r_pickT (v := Value.bool true) rfl rfl rfl) rfl <| OW_nil ?_
   obtain rfl := Option.some.inj hM
   exact ⟨g0, rfl, rfl, rfl, hds, (Hle.refl _), hs⟩
  ·refine OG rfl rfl rfl (by rw [hg3]; rfl) (r_fieldAddr Try.underlying25 ti22 rfl rfl (by decide) rfl rfl) rfl <| OG rfl rfl rfl (by rw [hg3]; rfl) (r_load (v := v1) ti22 rfl (hs.cell (i := 1) (o := 0) rfl rfl)) rfl <| OG rfl rfl rfl (by rw [hg3]; rfl) (r_fieldAddr Try.underlying25 ti22 rfl rfl (by decide) rfl rfl) rfl <| OG rfl rfl rfl (by rw [hg3]; rfl) (r_load (v := v4) ti22 rfl (hs.cell (i := 0) (o := 0) rfl rfl)) rfl ?_
   obtain ⟨rv3, hrv3, hM⟩ := bindS hM
   refine CG rfl rfl rfl (by rw [hg3]; rfl) [v1, v4] cf19 rfl (ref07_Ints_ok hrv3 hs.imm hRv1 hRv4) rfl ?_
   rintro v9 wv5 ⟨gg4, hvv9, hegg4⟩
   have hlegg4 := hegg4.le hs.imm
   replace hs := hs.call hegg4
   replace hRv3 := hRv3.mono hlegg4
   replace hRv6 := hRv6.mono hlegg4
   replace hag0 := hag0.trans hlegg4
   obtain ⟨cs11, rfl, hcs11⟩ := hvv9
   have hcs11 : cs11 = _ := hcs11; subst hcs11
   refine OG rfl rfl rfl (by rw [hg3]; rfl) (r_not rfl) rfl <| O (r_pickF (v := Value.bool (!rv3)) rfl hg3 rfl) rfl <| O (r_move (v := Value.bool (!rv3)) rfl) rfl ?_
   rcases condS hM with ⟨hg4, hM⟩ | ⟨hg4, hM⟩
   ·refine OK rfl rfl rfl (by rw [hg4]; rfl) rfl <| OK rfl rfl rfl (by rw [hg4]; rfl) rfl <| OK rfl rfl rfl (by rw [hg4]; rfl) rfl <| OK rfl rfl rfl (by rw [hg4]; rfl) rfl <| OK rfl rfl rfl (by rw [hg4]; rfl) rfl <| OK rfl rfl rfl (by rw [hg4]; rfl) rfl <| O (r_pickT (v := Value.bool true) rfl hg4 rfl) rfl <| OW_nil ?_
    obtain rfl := Option.some.inj hM
    exact ⟨gg4, rfl, rfl, rfl, hds, hag0, hs⟩
   ·refine OG rfl rfl rfl (by rw [hg4]; rfl) (r_fieldAddr Try.underlying25 ti22 rfl rfl (by decide) rfl rfl) rfl <| OG rfl rfl rfl (by rw [hg4]; rfl) (r_load (v := v3) ti22 rfl (hs.cell (i := 1) (o := 2) rfl rfl)) rfl <| OG rfl rfl rfl (by rw [hg4]; rfl) (r_fieldAddr Try.underlying25 ti22 rfl rfl (by decide) rfl rfl) rfl <| OG rfl rfl rfl (by rw [hg4]; rfl) (r_load (v := v6) ti22 rfl (hs.cell (i := 0) (o := 2) rfl rfl)) rfl ?_
    obtain ⟨rv4, hrv4, hM⟩ := bindS hM
    refine CG rfl rfl rfl (by rw [hg4]; rfl) [v3, v6] cf19 rfl (ref07_Ints_ok hrv4 hs.imm hRv3 hRv6) rfl ?_
    rintro v10 wv6 ⟨gg5, hvv10, hegg5⟩
    have hlegg5 := hegg5.le hs.imm
    replace hs := hs.call hegg5
    replace hag0 := hag0.trans hlegg5
    obtain ⟨cs12, rfl, hcs12⟩ := hvv10
    have hcs12 : cs12 = _ := hcs12; subst hcs12
    refine OG rfl rfl rfl (by rw [hg4]; rfl) (r_not rfl) rfl <| O (r_pickF (v := Value.bool (!rv4)) rfl hg4 rfl) rfl <| OW_nil ?_
    obtain rfl := Option.some.inj hM
    exact ⟨gg5, rfl, rfl, rfl, hds, hag0, hs⟩
 ·clear hs
  rintro E w ⟨gg3, hE2, hE3, hE28, hds, hlegg3, hs⟩
  have hM := hKhx1
  obtain ⟨E, rfl⟩ := open3 (E := E) hE2 hE3 hE28
  replace hRv2 := hRv2.mono hlegg3
  replace hRv5 := hRv5.mono hlegg3
  rcases condS hM with ⟨hc1, hM⟩ | ⟨hc1, hM⟩
  ·refine WP_true rfl hc1 <| WP_seq <| WP_region <| O (r_assign (v := Value.bool false) rfl) rfl <| OW_nil <| WP_ret ?_
   obtain rfl := Option.some.inj hM
   refine FL_nil hds ?_
   exact ⟨_, res1 Try.results16 (rv_tmp (v := Value.bool false) rfl), gg3, ⟨[Value.bool false], rfl, rfl⟩, hs.ext⟩
  ·refine WP_false rfl hc1 <| WP_skip ?_
   obtain ⟨o3, hx2, hKhx2⟩ := stepS hM
   refine WP_cut (fun E w => ∃ u9 : Unit, o3 = .next u9 ∧ ∃ (gg12 : Hp), E.ds = [] ∧ Hle gg3 gg12 ∧ Go.Lx.Sep g0 w0 gg12 w []) ?_ ?_
   ·have hM := hx2
    have hagg3 := Hle.refl gg3
    refine WP_seq <| WP_region <| O (r_assign (v := Value.int .i64 0) rfl) rfl <| OW_nil <| WP_block <| WP_loop (fun (i5 : Int) E w => ∃ (gg15 : Hp), E 2 = Value.pointer (some ⟨b2, 0, none⟩) ∧ E 3 = Value.pointer (some ⟨b3, 0, none⟩) ∧ E 5 = Value.int .i64 i5 ∧ E.ds = [] ∧ Hle gg3 gg15 ∧ Go.Lx.Sep g0 w0 gg15 w [Go.Lx.box b3 25 ([v4, v5, v6]), Go.Lx.box b2 25 ([v1, v2, v3])]) hM ⟨gg3, rfl, rfl, rfl, hds, (Hle.refl _), hs⟩ ?_
    clear hs hM
    rintro i5 o2 E w hM ⟨gg15, hE2, hE3, hE5, hds, hlegg15, hs⟩
    obtain ⟨E, rfl⟩ := open3 (E := E) hE2 hE3 hE5
    replace hRv2 := hRv2.mono hlegg15
    replace hRv5 := hRv5.mono hlegg15
    have hagg15 := Hle.refl gg15
    refine WP_seq <| WP_seq <| WP_region <| O (r_move (v := Value.int .i64 i5) rfl) rfl <| O (r_fieldAddr Try.underlying25 ti23 rfl rfl (by decide) rfl rfl) rfl <| O (r_load (v := v2) ti23 rfl (hs.cell (i := 1) (o := 1) rfl rfl)) rfl ?_
    obtain ⟨a11, ca11, hva11⟩ := hRv2.shape
    refine O (r_lenSl (v := v2) Try.underlying23 rfl hva11) rfl <| O (r_lss rfl rfl) rfl <| OW_nil ?_
    rcases condS hM with ⟨hc12, hM⟩ | ⟨hc12, hM⟩
    ·refine WP_true rfl hc12 <| WP_skip <| WP_seq <| WP_block <| WP_seq <| WP_drawTail 10 mo (by decide +kernel) ?_
     have hs := hs.drew
     refine S (r_fieldAddr Try.underlying25 ti23 rfl rfl (by decide) rfl rfl) rfl <| S (r_load (v := v2) ti23 rfl (hs.cell (i := 1) (o := 1) rfl rfl)) rfl <| S (r_move (v := Value.int .i64 i5) rfl) rfl ?_
     obtain ⟨e11, he11, hM⟩ := bindS hM
     obtain ⟨b14, ob14, cb14, hvb14, cs28, hcs28, hcb14⟩ := hRv2.at he11
     obtain ⟨v26, rfl, hRv26⟩ := hcs28
     refine S (r_idxSl Try.underlying23 ti22 (v := v2) rfl hvb14 rfl (idxL_some he11).1 (idxL_some he11).2.1) rfl <| S (r_loadEl (cs := [v26]) ti22 rfl rfl (.inr rfl) (hcb14 _ hs.imm) (v := v26) rfl) rfl <| S (r_fieldAddr Try.underlying25 ti23 rfl rfl (by decide) rfl rfl) rfl <| S (r_load (v := v5) ti23 rfl (hs.cell (i := 0) (o := 1) rfl rfl)) rfl <| S (r_move (v := Value.int .i64 i5) rfl) rfl ?_
     obtain ⟨e12, he12, hM⟩ := bindS hM
     obtain ⟨b15, ob15, cb15, hvb15, cs29, hcs29, hcb15⟩ := hRv5.at he12
     obtain ⟨v27, rfl, hRv27⟩ := hcs29
     refine S (r_idxSl Try.underlying23 ti22 (v := v5) rfl hvb15 rfl (idxL_some he12).1 (idxL_some he12).2.1) rfl <| S (r_loadEl (cs := [v27]) ti22 rfl rfl (.inr rfl) (hcb15 _ hs.imm) (v := v27) rfl) rfl <| SW_nil ?_
     obtain ⟨rv10, hrv10, hM⟩ := bindS hM
     refine C [v26, v27] cf19 rfl (ref07_Ints_ok hrv10 hs.imm hRv26 hRv27) rfl ?_
     rintro v28 wv12 ⟨gg18, hvv28, hegg18⟩
     have hlegg18 := hegg18.le hs.imm
     replace hs := hs.call hegg18
     replace hlegg15 := hlegg15.trans hlegg18
     obtain ⟨cs30, rfl, hcs30⟩ := hvv28
     have hcs30 : cs30 = _ := hcs30; subst hcs30
     refine O (r_not rfl) rfl <| OW_nil ?_
     rcases condS hM with ⟨hc13, hM⟩ | ⟨hc13, hM⟩
     ·refine WP_true rfl hc13 <| WP_seq <| WP_region <| O (r_assign (v := Value.bool false) rfl) rfl <| OW_nil <| WP_ret ?_
      obtain rfl := Option.some.inj hM
      refine fun hr => ?_
      have hM := congrArg some hr
      obtain rfl := Option.some.inj hM
      have hM := hKhx2
      obtain rfl := Option.some.inj hM
      refine FL_nil hds ?_
      exact ⟨_, res1 Try.results16 (rv_tmp (v := Value.bool false) rfl), gg18, ⟨[Value.bool false], rfl, rfl⟩, hs.ext⟩
     ·refine WP_false rfl hc13 <| WP_skip <| WP_region <| O (r_move (v := Value.int .i64 i5) rfl) rfl ?_
      obtain ⟨t6, ht6, hM⟩ := bindS hM
      refine O (r_addM rfl rfl ht6) rfl <| O (r_assign (v := Value.int .i64 t6) rfl) rfl <| OW_nil ?_
      obtain rfl := Option.some.inj hM
      exact ⟨gg18, rfl, rfl, rfl, hds, hlegg15, hs⟩
    ·refine WP_false rfl hc12 <| WP_exit ?_
     obtain rfl := Option.some.inj hM
     refine fun hr => ?_
     have hM := congrArg some hr
     obtain rfl := Option.some.inj hM
     exact ⟨(), rfl, gg15, hds, hlegg15, (hs.sub (.cons _ (.cons _ .slnil)))⟩
   ·clear hs
    rintro E w ⟨_, rfl, gg12, hds, hlegg12, hs⟩
    have hM := hKhx2
    dsimp only [onStep] at hM
    refine WP_seq <| WP_region <| O (r_assign (v := Value.bool true) rfl) rfl <| OW_nil <| WP_ret ?_
    obtain rfl := Option.some.inj hM
    refine FL_nil hds ?_
    exact ⟨_, res1 Try.results16 (rv_tmp (v := Value.bool true) rfl), gg12, ⟨[Value.bool true], rfl, rfl⟩, hs.ext⟩

set_option maxRecDepth 100000 in
theorem law10_awake_ok {r : Bool} (hM : M.law10_awake = some r) {g0 : Hp} {w0 : World} (hi : Imm g0 w0) :
    CallsV Try.prog 9 #[] w0 (fun v w' => ∃ g', (VRd tBool false g' v r) ∧ Ext g0 w0 g' w') := by
 unfold M.law10_awake at hM
 have hs := Sep.start hi
 refine calls_of_WP (args := []) Try.func9 rfl Try.ntmps9 rfl ?_
 have hds : (argEnv []).ds = [] := rfl
 refine WP_seq <| WP_region <| O (r_assign (v := Value.bool false) rfl) rfl <| OW_nil <| WP_seq <| WP_region ?_
 obtain ⟨rv1, hrv1, hM⟩ := bindS hM
 refine C [] cf24 rfl (law10_plus_ok hrv1 hs.imm) rfl ?_
 rintro v1 wv1 ⟨gg1, hvv1, hegg1⟩
 have hlegg1 := hegg1.le hs.imm
 replace hs := hs.call hegg1
 obtain ⟨v2, v3, rfl, hvv2, hvv3⟩ := hvv1
 obtain ⟨cs1, rfl, hcs1⟩ := hvv3
 obtain ⟨cs2, cs3, cs4, rfl, hcs2, hcs3, hcs4⟩ := hcs1
 obtain ⟨v4, rfl, hRv4⟩ := hcs2
 obtain ⟨v5, rfl, hRv5⟩ := hcs3
 obtain ⟨v6, rfl, hRv6⟩ := hcs4
 obtain ⟨cs5, rfl, hcs5⟩ := hvv2
 obtain ⟨cs6, cs7, cs8, rfl, hcs6, hcs7, hcs8⟩ := hcs5
 obtain ⟨v7, rfl, hRv7⟩ := hcs6
 obtain ⟨v8, rfl, hRv8⟩ := hcs7
 obtain ⟨v9, rfl, hRv9⟩ := hcs8
 refine O (r_move (v := Value.tuple #[Value.agg (List.toArray (α := Value) [v7, v8, v9]), Value.agg (List.toArray (α := Value) [v4, v5, v6])]) rfl) rfl <| O (r_extract (vs := [Value.agg (List.toArray (α := Value) [v7, v8, v9]), Value.agg (List.toArray (α := Value) [v4, v5, v6])]) (v := Value.agg (List.toArray (α := Value) [v7, v8, v9])) rfl rfl) rfl <| O (r_extract (vs := [Value.agg (List.toArray (α := Value) [v7, v8, v9]), Value.agg (List.toArray (α := Value) [v4, v5, v6])]) (v := Value.agg (List.toArray (α := Value) [v4, v5, v6])) rfl rfl) rfl <| OW_alloc ti25 hs (zs := [Value.slice none 0 0, Value.slice none 0 0, Value.slice none 0 0]) rfl rfl ?_
 intro b1 wv2 hs
 refine OW_alloc ti25 hs (zs := [Value.slice none 0 0, Value.slice none 0 0, Value.slice none 0 0]) rfl rfl ?_
 intro b2 wv3 hs
 refine OW_storeAll ti25 hs (i := 1) rfl rfl (v := Value.agg (List.toArray (α := Value) [v7, v8, v9])) rfl (vs := [v7, v8, v9]) rfl (one_cons (by obtain ⟨_, _, h9⟩ := hRv7.shape; rw [h9]; rfl) (one_cons (by obtain ⟨_, _, h9⟩ := hRv8.shape; rw [h9]; rfl) (one_cons (by obtain ⟨_, _, h9⟩ := hRv9.shape; rw [h9]; rfl) one_nil))) rfl rfl ?_
 intro wv4 hs
 refine OW_storeAll ti25 hs (i := 0) rfl rfl (v := Value.agg (List.toArray (α := Value) [v4, v5, v6])) rfl (vs := [v4, v5, v6]) rfl (one_cons (by obtain ⟨_, _, h9⟩ := hRv4.shape; rw [h9]; rfl) (one_cons (by obtain ⟨_, _, h9⟩ := hRv5.shape; rw [h9]; rfl) (one_cons (by obtain ⟨_, _, h9⟩ := hRv6.shape; rw [h9]; rfl) one_nil))) rfl rfl ?_
 intro wv5 hs
 refine OW_nil <| WP_seq <| WP_region <| O (r_loadN (cs := [v7, v8, v9]) ti25 rfl rfl (hs.cells (i := 1) rfl)) rfl <| O (r_loadN (cs := [v4, v5, v6]) ti25 rfl rfl (hs.cells (i := 0) rfl)) rfl ?_
 obtain ⟨rv2, hrv2, hM⟩ := bindS hM
 refine C [Value.agg (List.toArray (α := Value) [v7, v8, v9]), Value.agg (List.toArray (α := Value) [v4, v5, v6])] cf17 rfl (dfa_Difference_ok hrv2 hs.imm (⟨[v7], [v8], [v9], rfl, ⟨_, rfl, hRv7⟩, ⟨_, rfl, hRv8⟩, ⟨_, rfl, hRv9⟩⟩) (⟨[v4], [v5], [v6], rfl, ⟨_, rfl, hRv4⟩, ⟨_, rfl, hRv5⟩, ⟨_, rfl, hRv6⟩⟩)) rfl ?_
 rintro v10 wv6 ⟨gg2, hvv10, hegg2⟩
 have hlegg2 := hegg2.le hs.imm
 replace hs := hs.call hegg2
 replace hRv4 := hRv4.mono hlegg2
 replace hRv5 := hRv5.mono hlegg2
 replace hRv6 := hRv6.mono hlegg2
 replace hRv7 := hRv7.mono hlegg2
 replace hRv8 := hRv8.mono hlegg2
 replace hRv9 := hRv9.mono hlegg2
 obtain ⟨v11, v12, rfl, hvv11, hvv12⟩ := hvv10
 obtain ⟨cs9, rfl, hcs9⟩ := hvv12
 have hcs9 : cs9 = _ := hcs9; subst hcs9
 obtain ⟨cs10, rfl, hcs10⟩ := hvv11
 have hcs10 : cs10 = _ := hcs10; subst hcs10
 refine O (r_move (v := Value.tuple #[encS rv2.1, Value.bool rv2.2]) rfl) rfl <| O (r_extract (vs := [encS rv2.1, Value.bool rv2.2]) (v := encS rv2.1) rfl rfl) rfl <| O (r_extract (vs := [encS rv2.1, Value.bool rv2.2]) (v := Value.bool rv2.2) rfl rfl) rfl <| O (r_assign (v := encS rv2.1) rfl) rfl <| O (r_assign (v := Value.bool rv2.2) rfl) rfl <| OW_nil ?_
 obtain ⟨⟨xv1, xv2⟩, hx1, hKhx1⟩ := bindS hM
 refine WP_cut (fun E w => ∃ (gg90 : Hp), E 1 = Value.pointer (some ⟨b1, 0, none⟩) ∧ E 2 = Value.pointer (some ⟨b2, 0, none⟩) ∧ E 4 = Value.bool rv2.2 ∧ E 5 = encS xv1 ∧ E 6 = Value.bool xv2 ∧ E.ds = [] ∧ Hle gg2 gg90 ∧ Go.Lx.Sep g0 w0 gg90 w [Go.Lx.box b2 25 ([v4, v5, v6]), Go.Lx.box b1 25 ([v7, v8, v9])]) ?_ ?_
 ·have hM := hx1
  have hagg2 := Hle.refl gg2
  obtain ⟨rv5, hrv5, hM⟩ := bindS hM
  obtain ⟨rv6, hrv6, hM⟩ := bindS hM
  refine WP_any (.q 0 (.c 1 (.c 2 (.c 3 (.s 4 (.q 5 (.s 6 (.q 7 (.q 8 (.q 9 (.q 10 (.q 11 (.leaf))))))))) (.c 4 (.s 3 (.q 5 (.s 6 (.q 7 (.q 8 (.q 9 (.q 10 (.q 11 (.leaf))))))))) (.n))) (.c 4 (.s 2 (.s 3 (.q 5 (.s 6 (.q 7 (.q 8 (.q 9 (.q 10 (.q 11 (.leaf)))))))))) (.n))) (.c 2 (.c 1 (.c 3 (.s 4 (.q 5 (.s 6 (.q 7 (.q 8 (.q 9 (.q 10 (.q 11 (.leaf))))))))) (.c 4 (.s 3 (.q 5 (.s 6 (.q 7 (.q 8 (.q 9 (.q 10 (.q 11 (.leaf))))))))) (.n))) (.c 3 (.c 1 (.s 4 (.q 5 (.s 6 (.q 7 (.q 8 (.q 9 (.q 10 (.q 11 (.leaf))))))))) (.c 4 (.s 1 (.q 5 (.s 6 (.q 7 (.q 8 (.q 9 (.q 10 (.q 11 (.leaf))))))))) (.n))) (.c 4 (.c 1 (.s 3 (.q 5 (.s 6 (.q 7 (.q 8 (.q 9 (.q 10 (.q 11 (.leaf))))))))) (.c 3 (.s 1 (.q 5 (.s 6 (.q 7 (.q 8 (.q 9 (.q 10 (.q 11 (.leaf))))))))) (.n))) (.n)))) (.c 4 (.c 1 (.s 2 (.s 3 (.q 5 (.s 6 (.q 7 (.q 8 (.q 9 (.q 10 (.q 11 (.leaf)))))))))) (.c 2 (.c 1 (.s 3 (.q 5 (.s 6 (.q 7 (.q 8 (.q 9 (.q 10 (.q 11 (.leaf))))))))) (.c 3 (.s 1 (.q 5 (.s 6 (.q 7 (.q 8 (.q 9 (.q 10 (.q 11 (.leaf))))))))) (.n))) (.n))) (.n))))) (SS g0 w0 gg2 [Go.Lx.box b2 25 ([v4, v5, v6]), Go.Lx.box b1 25 ([v7, v8, v9])]) mo (by decide +kernel) ?_
  have hs := hs.drew
  have hS : SS g0 w0 gg2 [Go.Lx.box b2 25 ([v4, v5, v6]), Go.Lx.box b1 25 ([v7, v8, v9])] _ := ⟨gg2, Hle.refl _, hs⟩
  refine A rfl hS (fun w9 ⟨g9, hle9, hs⟩ => r_loadN (cs := [v7, v8, v9]) ti25 rfl rfl (hs.cells (i := 1) rfl)) rfl <| A2 rfl ?_ ?_
  ·refine C [Value.int .u8 97] cf25 rfl (law10_class_ok hrv5 hs.imm) rfl ?_
   rintro v97 wv63 ⟨gg98, xs43, hvv97, hegg98⟩
   have hlegg98 := hegg98.ext.le hs.imm
   replace hs := hs.callOwn hegg98
   simp only [List.cons_append, List.nil_append] at hs
   replace hRv7 := hRv7.mono hlegg98
   replace hRv8 := hRv8.mono hlegg98
   replace hRv9 := hRv9.mono hlegg98
   replace hagg2 := hagg2.trans hlegg98
   refine OW_nil ?_
   replace hS := hS.to hagg2 (hs.sub (.cons _ (.cons_cons _ (.cons_cons _ .slnil))))
   refine ⟨fun _ => hS, ?_⟩
   refine A2 rfl ?_ ?_
   ·refine OW_lit (τ := (tInt .i64)) [Value.int .i64 (-1), Value.int .i64 (-1)] [(-1), (-1)] Try.underlying22 ti3 (by decide) hs rfl rfl rfl ⟨rfl, rfl, trivial⟩ rfl ?_
    intro v98 wv64 xs44 hrelxs44 hs
    refine OW_nil ?_
    replace hS := hS.to hagg2 (hs.sub (.cons _ (.cons _ (.cons_cons _ (.cons_cons _ .slnil)))))
    refine ⟨fun _ => hS, ?_⟩
    refine A2 rfl ?_ ?_
    ·obtain ⟨gg99, hlegg99, hRgg99, hs⟩ := hs.relRow (i := 0) rfl hrelxs44
     replace hRv7 := hRv7.mono hlegg99
     replace hRv8 := hRv8.mono hlegg99
     replace hRv9 := hRv9.mono hlegg99
     replace hvv97 := hvv97.mono hlegg99
     replace hagg2 := hagg2.trans hlegg99
     refine OW_lit (τ := (tSl (tInt .i64))) [v98] [[(-1), (-1)]] Try.underlying23 ti22 (by decide) hs rfl rfl rfl ⟨⟨v98, cells_one (by obtain ⟨_, _, h9⟩ := hRgg99.shape; rw [h9]; rfl), hRgg99⟩, trivial⟩ rfl ?_
     intro v99 wv65 xs45 hrelxs45 hs
     refine OW_nil ?_
     replace hS := hS.to hagg2 (hs.sub (.cons _ (.cons _ (.cons_cons _ (.cons_cons _ .slnil)))))
     refine ⟨fun _ => hS, ?_⟩
     refine A1 rfl <| OW_lit (τ := (tInt .i64)) [Value.int .i64 (-1)] [(-1)] Try.underlying22 ti3 (by decide) hs rfl rfl rfl ⟨rfl, trivial⟩ rfl ?_
     intro v100 wv66 xs46 hrelxs46 hs
     refine OW_nil ?_
     replace hS := hS.to hagg2 (hs.sub (.cons _ (.cons _ (.cons _ (.cons_cons _ (.cons_cons _ .slnil))))))
     refine ⟨fun _ => hS, ?_⟩
     have ho43 := one_of_shape (hs.rowShape (i := 2) rfl)
     have ho44 := one_of_shape (hs.rowShape (i := 1) rfl)
     have ho45 := one_of_shape (hs.rowShape (i := 0) rfl)
     refine A rfl hS (fun w9 ⟨g9, hle9, hs⟩ => r_build (vs := [(0, v97), (1, v99), (2, v100)]) (cs := [v97, v99, v100]) rfl (built_fill [(0, 1), (1, 1), (2, 1)] [Value.slice none 0 0, Value.slice none 0 0, Value.slice none 0 0] (fun _ => by kernel_rfl) (fill_step ([]) ([Value.slice none 0 0]) ([Value.slice none 0 0, Value.slice none 0 0]) ([v97]) rfl rfl (cells_one ho43) rfl rfl rfl <| fill_step ([v97]) ([Value.slice none 0 0]) ([Value.slice none 0 0]) ([v99]) rfl rfl (cells_one ho44) rfl rfl rfl <| fill_step ([v97, v99]) ([Value.slice none 0 0]) ([]) ([v100]) rfl rfl (cells_one ho45) rfl rfl rfl <| fill_done))) rfl <| A1 rfl ?_
     have hsL15 := hs
     have hagg2L15 := hagg2
     obtain ⟨gg100, hlegg100, hRgg100, hs⟩ := hs.relRow (i := 2) rfl hvv97
     replace hRv7 := hRv7.mono hlegg100
     replace hRv8 := hRv8.mono hlegg100
     replace hRv9 := hRv9.mono hlegg100
     replace hrelxs45 := hrelxs45.mono hlegg100
     replace hrelxs46 := hrelxs46.mono hlegg100
     replace hagg2 := hagg2.trans hlegg100
     obtain ⟨gg101, hlegg101, hRgg101, hs⟩ := hs.relRow (i := 1) rfl hrelxs45
     replace hRv7 := hRv7.mono hlegg101
     replace hRv8 := hRv8.mono hlegg101
     replace hRv9 := hRv9.mono hlegg101
     replace hrelxs46 := hrelxs46.mono hlegg101
     replace hRgg100 := hRgg100.mono hlegg101
     replace hagg2 := hagg2.trans hlegg101
     obtain ⟨gg102, hlegg102, hRgg102, hs⟩ := hs.relRow (i := 0) rfl hrelxs46
     replace hRv7 := hRv7.mono hlegg102
     replace hRv8 := hRv8.mono hlegg102
     replace hRv9 := hRv9.mono hlegg102
     replace hRgg100 := hRgg100.mono hlegg102
     replace hRgg101 := hRgg101.mono hlegg102
     replace hagg2 := hagg2.trans hlegg102
     refine C [Value.agg (List.toArray (α := Value) [v7, v8, v9]), Value.agg (List.toArray (α := Value) [v97, v99, v100])] cf17 rfl (dfa_Difference_ok hrv6 hs.imm (⟨[v7], [v8], [v9], rfl, ⟨_, rfl, hRv7⟩, ⟨_, rfl, hRv8⟩, ⟨_, rfl, hRv9⟩⟩) (⟨[v97], [v99], [v100], rfl, ⟨_, rfl, hRgg100⟩, ⟨_, rfl, hRgg101⟩, ⟨_, rfl, hRgg102⟩⟩)) rfl ?_
     rintro v101 wv67 ⟨gg103, hvv101, hegg103⟩
     obtain ⟨gg104, hlegg104, hs⟩ := hsL15.lent hegg103
     replace hagg2 := hagg2L15.trans hlegg104
     obtain ⟨v102, v103, rfl, hvv102, hvv103⟩ := hvv101
     obtain ⟨cs39, rfl, hcs39⟩ := hvv103
     have hcs39 : cs39 = _ := hcs39; subst hcs39
     obtain ⟨cs40, rfl, hcs40⟩ := hvv102
     have hcs40 : cs40 = _ := hcs40; subst hcs40
     refine OW_nil ?_
     replace hS := hS.to hagg2 (hs.sub (.cons _ (.cons _ (.cons _ (.cons_cons _ (.cons_cons _ .slnil))))))
     refine ⟨fun _ => hS, ?_⟩
     refine A rfl hS (fun w9 ⟨g9, hle9, hs⟩ => r_move (v := Value.tuple #[encS rv6.1, Value.bool rv6.2]) rfl) rfl <| A rfl hS (fun w9 ⟨g9, hle9, hs⟩ => r_extract (vs := [encS rv6.1, Value.bool rv6.2]) (v := encS rv6.1) rfl rfl) rfl <| A rfl hS (fun w9 ⟨g9, hle9, hs⟩ => r_extract (vs := [encS rv6.1, Value.bool rv6.2]) (v := Value.bool rv6.2) rfl rfl) rfl <| A rfl hS (fun w9 ⟨g9, hle9, hs⟩ => r_assign (v := encS rv6.1) rfl) rfl <| A rfl hS (fun w9 ⟨g9, hle9, hs⟩ => r_assign (v := Value.bool rv6.2) rfl) rfl <| AN ?_
     simp only [Option.some.injEq, Prod.mk.injEq] at hM
     obtain ⟨rfl, rfl⟩ := hM
     exact ⟨gg104, rfl, rfl, rfl, rfl, rfl, hds, hagg2, (hs.sub (.cons _ (.cons _ (.cons _ (.cons_cons _ (.cons_cons _ .slnil))))))⟩
    refine A2 rfl ?_ ?_
    ·refine OW_lit (τ := (tInt .i64)) [Value.int .i64 (-1)] [(-1)] Try.underlying22 ti3 (by decide) hs rfl rfl rfl ⟨rfl, trivial⟩ rfl ?_
     intro v104 wv68 xs47 hrelxs47 hs
     refine OW_nil ?_
     replace hS := hS.to hagg2 (hs.sub (.cons _ (.cons _ (.cons _ (.cons_cons _ (.cons_cons _ .slnil))))))
     refine ⟨fun _ => hS, ?_⟩
     refine A1 rfl ?_
     obtain ⟨gg105, hlegg105, hRgg105, hs⟩ := hs.relRow (i := 1) rfl hrelxs44
     replace hRv7 := hRv7.mono hlegg105
     replace hRv8 := hRv8.mono hlegg105
     replace hRv9 := hRv9.mono hlegg105
     replace hvv97 := hvv97.mono hlegg105
     replace hrelxs47 := hrelxs47.mono hlegg105
     replace hagg2 := hagg2.trans hlegg105
     refine OW_lit (τ := (tSl (tInt .i64))) [v98] [[(-1), (-1)]] Try.underlying23 ti22 (by decide) hs rfl rfl rfl ⟨⟨v98, cells_one (by obtain ⟨_, _, h9⟩ := hRgg105.shape; rw [h9]; rfl), hRgg105⟩, trivial⟩ rfl ?_
     intro v105 wv69 xs48 hrelxs48 hs
     refine OW_nil ?_
     replace hS := hS.to hagg2 (hs.sub (.cons _ (.cons _ (.cons _ (.cons_cons _ (.cons_cons _ .slnil))))))
     refine ⟨fun _ => hS, ?_⟩
     have ho46 := one_of_shape (hs.rowShape (i := 2) rfl)
     have ho47 := one_of_shape (hs.rowShape (i := 0) rfl)
     have ho48 := one_of_shape (hs.rowShape (i := 1) rfl)
     refine A rfl hS (fun w9 ⟨g9, hle9, hs⟩ => r_build (vs := [(0, v97), (1, v105), (2, v104)]) (cs := [v97, v105, v104]) rfl (built_fill [(0, 1), (1, 1), (2, 1)] [Value.slice none 0 0, Value.slice none 0 0, Value.slice none 0 0] (fun _ => by kernel_rfl) (fill_step ([]) ([Value.slice none 0 0]) ([Value.slice none 0 0, Value.slice none 0 0]) ([v97]) rfl rfl (cells_one ho46) rfl rfl rfl <| fill_step ([v97]) ([Value.slice none 0 0]) ([Value.slice none 0 0]) ([v105]) rfl rfl (cells_one ho47) rfl rfl rfl <| fill_step ([v97, v105]) ([Value.slice none 0 0]) ([]) ([v104]) rfl rfl (cells_one ho48) rfl rfl rfl <| fill_done))) rfl <| A1 rfl ?_
     have hsL16 := hs
     have hagg2L16 := hagg2
     obtain ⟨gg106, hlegg106, hRgg106, hs⟩ := hs.relRow (i := 2) rfl hvv97
     replace hRv7 := hRv7.mono hlegg106
     replace hRv8 := hRv8.mono hlegg106
     replace hRv9 := hRv9.mono hlegg106
     replace hrelxs47 := hrelxs47.mono hlegg106
     replace hrelxs48 := hrelxs48.mono hlegg106
     replace hagg2 := hagg2.trans hlegg106
     obtain ⟨gg107, hlegg107, hRgg107, hs⟩ := hs.relRow (i := 0) rfl hrelxs48
     replace hRv7 := hRv7.mono hlegg107
     replace hRv8 := hRv8.mono hlegg107
     replace hRv9 := hRv9.mono hlegg107
     replace hrelxs47 := hrelxs47.mono hlegg107
     replace hRgg106 := hRgg106.mono hlegg107
     replace hagg2 := hagg2.trans hlegg107
     obtain ⟨gg108, hlegg108, hRgg108, hs⟩ := hs.relRow (i := 0) rfl hrelxs47
     replace hRv7 := hRv7.mono hlegg108
     replace hRv8 := hRv8.mono hlegg108
     replace hRv9 := hRv9.mono hlegg108
     replace hRgg106 := hRgg106.mono hlegg108
     replace hRgg107 := hRgg107.mono hlegg108
     replace hagg2 := hagg2.trans hlegg108
     refine C [Value.agg (List.toArray (α := Value) [v7, v8, v9]), Value.agg (List.toArray (α := Value) [v97, v105, v104])] cf17 rfl (dfa_Difference_ok hrv6 hs.imm (⟨[v7], [v8], [v9], rfl, ⟨_, rfl, hRv7⟩, ⟨_, rfl, hRv8⟩, ⟨_, rfl, hRv9⟩⟩) (⟨[v97], [v105], [v104], rfl, ⟨_, rfl, hRgg106⟩, ⟨_, rfl, hRgg107⟩, ⟨_, rfl, hRgg108⟩⟩)) rfl ?_
     rintro v106 wv70 ⟨gg109, hvv106, hegg109⟩
     obtain ⟨gg110, hlegg110, hs⟩ := hsL16.lent hegg109
     replace hagg2 := hagg2L16.trans hlegg110
     obtain ⟨v107, v108, rfl, hvv107, hvv108⟩ := hvv106
     obtain ⟨cs41, rfl, hcs41⟩ := hvv108
     have hcs41 : cs41 = _ := hcs41; subst hcs41
     obtain ⟨cs42, rfl, hcs42⟩ := hvv107
     have hcs42 : cs42 = _ := hcs42; subst hcs42
     refine OW_nil ?_
     replace hS := hS.to hagg2 (hs.sub (.cons _ (.cons _ (.cons _ (.cons_cons _ (.cons_cons _ .slnil))))))
     refine ⟨fun _ => hS, ?_⟩
     refine A rfl hS (fun w9 ⟨g9, hle9, hs⟩ => r_move (v := Value.tuple #[encS rv6.1, Value.bool rv6.2]) rfl) rfl <| A rfl hS (fun w9 ⟨g9, hle9, hs⟩ => r_extract (vs := [encS rv6.1, Value.bool rv6.2]) (v := encS rv6.1) rfl rfl) rfl <| A rfl hS (fun w9 ⟨g9, hle9, hs⟩ => r_extract (vs := [encS rv6.1, Value.bool rv6.2]) (v := Value.bool rv6.2) rfl rfl) rfl <| A rfl hS (fun w9 ⟨g9, hle9, hs⟩ => r_assign (v := encS rv6.1) rfl) rfl <| A rfl hS (fun w9 ⟨g9, hle9, hs⟩ => r_assign (v := Value.bool rv6.2) rfl) rfl <| AN ?_
     simp only [Option.some.injEq, Prod.mk.injEq] at hM
     obtain ⟨rfl, rfl⟩ := hM
     exact ⟨gg110, rfl, rfl, rfl, rfl, rfl, hds, hagg2, (hs.sub (.cons _ (.cons _ (.cons _ (.cons_cons _ (.cons_cons _ .slnil))))))⟩
    trivial
   refine A2 rfl ?_ ?_
   ·refine OW_lit (τ := (tInt .i64)) [Value.int .i64 (-1)] [(-1)] Try.underlying22 ti3 (by decide) hs rfl rfl rfl ⟨rfl, trivial⟩ rfl ?_
    intro v109 wv71 xs49 hrelxs49 hs
    refine OW_nil ?_
    replace hS := hS.to hagg2 (hs.sub (.cons _ (.cons _ (.cons_cons _ (.cons_cons _ .slnil)))))
    refine ⟨fun _ => hS, ?_⟩
    refine A1 rfl <| OW_lit (τ := (tInt .i64)) [Value.int .i64 (-1), Value.int .i64 (-1)] [(-1), (-1)] Try.underlying22 ti3 (by decide) hs rfl rfl rfl ⟨rfl, rfl, trivial⟩ rfl ?_
    intro v110 wv72 xs50 hrelxs50 hs
    refine OW_nil ?_
    replace hS := hS.to hagg2 (hs.sub (.cons _ (.cons _ (.cons _ (.cons_cons _ (.cons_cons _ .slnil))))))
    refine ⟨fun _ => hS, ?_⟩
    refine A1 rfl ?_
    obtain ⟨gg111, hlegg111, hRgg111, hs⟩ := hs.relRow (i := 0) rfl hrelxs50
    replace hRv7 := hRv7.mono hlegg111
    replace hRv8 := hRv8.mono hlegg111
    replace hRv9 := hRv9.mono hlegg111
    replace hvv97 := hvv97.mono hlegg111
    replace hrelxs49 := hrelxs49.mono hlegg111
    replace hagg2 := hagg2.trans hlegg111
    refine OW_lit (τ := (tSl (tInt .i64))) [v110] [[(-1), (-1)]] Try.underlying23 ti22 (by decide) hs rfl rfl rfl ⟨⟨v110, cells_one (by obtain ⟨_, _, h9⟩ := hRgg111.shape; rw [h9]; rfl), hRgg111⟩, trivial⟩ rfl ?_
    intro v111 wv73 xs51 hrelxs51 hs
    refine OW_nil ?_
    replace hS := hS.to hagg2 (hs.sub (.cons _ (.cons _ (.cons _ (.cons_cons _ (.cons_cons _ .slnil))))))
    refine ⟨fun _ => hS, ?_⟩
    have ho49 := one_of_shape (hs.rowShape (i := 2) rfl)
    have ho50 := one_of_shape (hs.rowShape (i := 0) rfl)
    have ho51 := one_of_shape (hs.rowShape (i := 1) rfl)
    refine A rfl hS (fun w9 ⟨g9, hle9, hs⟩ => r_build (vs := [(0, v97), (1, v111), (2, v109)]) (cs := [v97, v111, v109]) rfl (built_fill [(0, 1), (1, 1), (2, 1)] [Value.slice none 0 0, Value.slice none 0 0, Value.slice none 0 0] (fun _ => by kernel_rfl) (fill_step ([]) ([Value.slice none 0 0]) ([Value.slice none 0 0, Value.slice none 0 0]) ([v97]) rfl rfl (cells_one ho49) rfl rfl rfl <| fill_step ([v97]) ([Value.slice none 0 0]) ([Value.slice none 0 0]) ([v111]) rfl rfl (cells_one ho50) rfl rfl rfl <| fill_step ([v97, v111]) ([Value.slice none 0 0]) ([]) ([v109]) rfl rfl (cells_one ho51) rfl rfl rfl <| fill_done))) rfl <| A1 rfl ?_
    have hsL17 := hs
    have hagg2L17 := hagg2
    obtain ⟨gg112, hlegg112, hRgg112, hs⟩ := hs.relRow (i := 2) rfl hvv97
    replace hRv7 := hRv7.mono hlegg112
    replace hRv8 := hRv8.mono hlegg112
    replace hRv9 := hRv9.mono hlegg112
    replace hrelxs49 := hrelxs49.mono hlegg112
    replace hrelxs51 := hrelxs51.mono hlegg112
    replace hagg2 := hagg2.trans hlegg112
    obtain ⟨gg113, hlegg113, hRgg113, hs⟩ := hs.relRow (i := 0) rfl hrelxs51
    replace hRv7 := hRv7.mono hlegg113
    replace hRv8 := hRv8.mono hlegg113
    replace hRv9 := hRv9.mono hlegg113
    replace hrelxs49 := hrelxs49.mono hlegg113
    replace hRgg112 := hRgg112.mono hlegg113
    replace hagg2 := hagg2.trans hlegg113
    obtain ⟨gg114, hlegg114, hRgg114, hs⟩ := hs.relRow (i := 0) rfl hrelxs49
    replace hRv7 := hRv7.mono hlegg114
    replace hRv8 := hRv8.mono hlegg114
    replace hRv9 := hRv9.mono hlegg114
    replace hRgg112 := hRgg112.mono hlegg114
    replace hRgg113 := hRgg113.mono hlegg114
    replace hagg2 := hagg2.trans hlegg114
    refine C [Value.agg (List.toArray (α := Value) [v7, v8, v9]), Value.agg (List.toArray (α := Value) [v97, v111, v109])] cf17 rfl (dfa_Difference_ok hrv6 hs.imm (⟨[v7], [v8], [v9], rfl, ⟨_, rfl, hRv7⟩, ⟨_, rfl, hRv8⟩, ⟨_, rfl, hRv9⟩⟩) (⟨[v97], [v111], [v109], rfl, ⟨_, rfl, hRgg112⟩, ⟨_, rfl, hRgg113⟩, ⟨_, rfl, hRgg114⟩⟩)) rfl ?_
    rintro v112 wv74 ⟨gg115, hvv112, hegg115⟩
    obtain ⟨gg116, hlegg116, hs⟩ := hsL17.lent hegg115
    replace hagg2 := hagg2L17.trans hlegg116
    obtain ⟨v113, v114, rfl, hvv113, hvv114⟩ := hvv112
    obtain ⟨cs43, rfl, hcs43⟩ := hvv114
    have hcs43 : cs43 = _ := hcs43; subst hcs43
    obtain ⟨cs44, rfl, hcs44⟩ := hvv113
    have hcs44 : cs44 = _ := hcs44; subst hcs44
    refine OW_nil ?_
    replace hS := hS.to hagg2 (hs.sub (.cons _ (.cons _ (.cons _ (.cons_cons _ (.cons_cons _ .slnil))))))
    refine ⟨fun _ => hS, ?_⟩
    refine A rfl hS (fun w9 ⟨g9, hle9, hs⟩ => r_move (v := Value.tuple #[encS rv6.1, Value.bool rv6.2]) rfl) rfl <| A rfl hS (fun w9 ⟨g9, hle9, hs⟩ => r_extract (vs := [encS rv6.1, Value.bool rv6.2]) (v := encS rv6.1) rfl rfl) rfl <| A rfl hS (fun w9 ⟨g9, hle9, hs⟩ => r_extract (vs := [encS rv6.1, Value.bool rv6.2]) (v := Value.bool rv6.2) rfl rfl) rfl <| A rfl hS (fun w9 ⟨g9, hle9, hs⟩ => r_assign (v := encS rv6.1) rfl) rfl <| A rfl hS (fun w9 ⟨g9, hle9, hs⟩ => r_assign (v := Value.bool rv6.2) rfl) rfl <| AN ?_
    simp only [Option.some.injEq, Prod.mk.injEq] at hM
    obtain ⟨rfl, rfl⟩ := hM
    exact ⟨gg116, rfl, rfl, rfl, rfl, rfl, hds, hagg2, (hs.sub (.cons _ (.cons _ (.cons _ (.cons_cons _ (.cons_cons _ .slnil))))))⟩
   trivial
  refine A2 rfl ?_ ?_
  ·refine OW_lit (τ := (tInt .i64)) [Value.int .i64 (-1), Value.int .i64 (-1)] [(-1), (-1)] Try.underlying22 ti3 (by decide) hs rfl rfl rfl ⟨rfl, rfl, trivial⟩ rfl ?_
   intro v115 wv75 xs52 hrelxs52 hs
   refine OW_nil ?_
   replace hS := hS.to (Hle.refl _) (hs.sub (.cons _ (.cons_cons _ (.cons_cons _ .slnil))))
   refine ⟨fun _ => hS, ?_⟩
   refine A2 rfl ?_ ?_
   ·refine C [Value.int .u8 97] cf25 rfl (law10_class_ok hrv5 hs.imm) rfl ?_
    rintro v116 wv76 ⟨gg117, xs53, hvv116, hegg117⟩
    have hlegg117 := hegg117.ext.le hs.imm
    replace hs := hs.callOwn hegg117
    simp only [List.cons_append, List.nil_append] at hs
    replace hRv7 := hRv7.mono hlegg117
    replace hRv8 := hRv8.mono hlegg117
    replace hRv9 := hRv9.mono hlegg117
    replace hrelxs52 := hrelxs52.mono hlegg117
    replace hagg2 := hagg2.trans hlegg117
    refine OW_nil ?_
    replace hS := hS.to hagg2 (hs.sub (.cons _ (.cons _ (.cons_cons _ (.cons_cons _ .slnil)))))
    refine ⟨fun _ => hS, ?_⟩
    refine A2 rfl ?_ ?_
    ·obtain ⟨gg118, hlegg118, hRgg118, hs⟩ := hs.relRow (i := 1) rfl hrelxs52
     replace hRv7 := hRv7.mono hlegg118
     replace hRv8 := hRv8.mono hlegg118
     replace hRv9 := hRv9.mono hlegg118
     replace hvv116 := hvv116.mono hlegg118
     replace hagg2 := hagg2.trans hlegg118
     refine OW_lit (τ := (tSl (tInt .i64))) [v115] [[(-1), (-1)]] Try.underlying23 ti22 (by decide) hs rfl rfl rfl ⟨⟨v115, cells_one (by obtain ⟨_, _, h9⟩ := hRgg118.shape; rw [h9]; rfl), hRgg118⟩, trivial⟩ rfl ?_
     intro v117 wv77 xs54 hrelxs54 hs
     refine OW_nil ?_
     replace hS := hS.to hagg2 (hs.sub (.cons _ (.cons _ (.cons_cons _ (.cons_cons _ .slnil)))))
     refine ⟨fun _ => hS, ?_⟩
     refine A1 rfl <| OW_lit (τ := (tInt .i64)) [Value.int .i64 (-1)] [(-1)] Try.underlying22 ti3 (by decide) hs rfl rfl rfl ⟨rfl, trivial⟩ rfl ?_
     intro v118 wv78 xs55 hrelxs55 hs
     refine OW_nil ?_
     replace hS := hS.to hagg2 (hs.sub (.cons _ (.cons _ (.cons _ (.cons_cons _ (.cons_cons _ .slnil))))))
     refine ⟨fun _ => hS, ?_⟩
     have ho52 := one_of_shape (hs.rowShape (i := 2) rfl)
     have ho53 := one_of_shape (hs.rowShape (i := 1) rfl)
     have ho54 := one_of_shape (hs.rowShape (i := 0) rfl)
     refine A rfl hS (fun w9 ⟨g9, hle9, hs⟩ => r_build (vs := [(0, v116), (1, v117), (2, v118)]) (cs := [v116, v117, v118]) rfl (built_fill [(0, 1), (1, 1), (2, 1)] [Value.slice none 0 0, Value.slice none 0 0, Value.slice none 0 0] (fun _ => by kernel_rfl) (fill_step ([]) ([Value.slice none 0 0]) ([Value.slice none 0 0, Value.slice none 0 0]) ([v116]) rfl rfl (cells_one ho52) rfl rfl rfl <| fill_step ([v116]) ([Value.slice none 0 0]) ([Value.slice none 0 0]) ([v117]) rfl rfl (cells_one ho53) rfl rfl rfl <| fill_step ([v116, v117]) ([Value.slice none 0 0]) ([]) ([v118]) rfl rfl (cells_one ho54) rfl rfl rfl <| fill_done))) rfl <| A1 rfl ?_
     have hsL18 := hs
     have hagg2L18 := hagg2
     obtain ⟨gg119, hlegg119, hRgg119, hs⟩ := hs.relRow (i := 2) rfl hvv116
     replace hRv7 := hRv7.mono hlegg119
     replace hRv8 := hRv8.mono hlegg119
     replace hRv9 := hRv9.mono hlegg119
     replace hrelxs54 := hrelxs54.mono hlegg119
     replace hrelxs55 := hrelxs55.mono hlegg119
     replace hagg2 := hagg2.trans hlegg119
     obtain ⟨gg120, hlegg120, hRgg120, hs⟩ := hs.relRow (i := 1) rfl hrelxs54
     replace hRv7 := hRv7.mono hlegg120
     replace hRv8 := hRv8.mono hlegg120
     replace hRv9 := hRv9.mono hlegg120
     replace hrelxs55 := hrelxs55.mono hlegg120
     replace hRgg119 := hRgg119.mono hlegg120
     replace hagg2 := hagg2.trans hlegg120
     obtain ⟨gg121, hlegg121, hRgg121, hs⟩ := hs.relRow (i := 0) rfl hrelxs55
     replace hRv7 := hRv7.mono hlegg121
     replace hRv8 := hRv8.mono hlegg121
     replace hRv9 := hRv9.mono hlegg121
     replace hRgg119 := hRgg119.mono hlegg121
     replace hRgg120 := hRgg120.mono hlegg121
     replace hagg2 := hagg2.trans hlegg121
     refine C [Value.agg (List.toArray (α := Value) [v7, v8, v9]), Value.agg (List.toArray (α := Value) [v116, v117, v118])] cf17 rfl (dfa_Difference_ok hrv6 hs.imm (⟨[v7], [v8], [v9], rfl, ⟨_, rfl, hRv7⟩, ⟨_, rfl, hRv8⟩, ⟨_, rfl, hRv9⟩⟩) (⟨[v116], [v117], [v118], rfl, ⟨_, rfl, hRgg119⟩, ⟨_, rfl, hRgg120⟩, ⟨_, rfl, hRgg121⟩⟩)) rfl ?_
     rintro v119 wv79 ⟨gg122, hvv119, hegg122⟩
     obtain ⟨gg123, hlegg123, hs⟩ := hsL18.lent hegg122
     replace hagg2 := hagg2L18.trans hlegg123
     obtain ⟨v120, v121, rfl, hvv120, hvv121⟩ := hvv119
     obtain ⟨cs45, rfl, hcs45⟩ := hvv121
     have hcs45 : cs45 = _ := hcs45; subst hcs45
     obtain ⟨cs46, rfl, hcs46⟩ := hvv120
     have hcs46 : cs46 = _ := hcs46; subst hcs46
     refine OW_nil ?_
     replace hS := hS.to hagg2 (hs.sub (.cons _ (.cons _ (.cons _ (.cons_cons _ (.cons_cons _ .slnil))))))
     refine ⟨fun _ => hS, ?_⟩
     refine A rfl hS (fun w9 ⟨g9, hle9, hs⟩ => r_move (v := Value.tuple #[encS rv6.1, Value.bool rv6.2]) rfl) rfl <| A rfl hS (fun w9 ⟨g9, hle9, hs⟩ => r_extract (vs := [encS rv6.1, Value.bool rv6.2]) (v := encS rv6.1) rfl rfl) rfl <| A rfl hS (fun w9 ⟨g9, hle9, hs⟩ => r_extract (vs := [encS rv6.1, Value.bool rv6.2]) (v := Value.bool rv6.2) rfl rfl) rfl <| A rfl hS (fun w9 ⟨g9, hle9, hs⟩ => r_assign (v := encS rv6.1) rfl) rfl <| A rfl hS (fun w9 ⟨g9, hle9, hs⟩ => r_assign (v := Value.bool rv6.2) rfl) rfl <| AN ?_
     simp only [Option.some.injEq, Prod.mk.injEq] at hM
     obtain ⟨rfl, rfl⟩ := hM
     exact ⟨gg123, rfl, rfl, rfl, rfl, rfl, hds, hagg2, (hs.sub (.cons _ (.cons _ (.cons _ (.cons_cons _ (.cons_cons _ .slnil))))))⟩
    refine A2 rfl ?_ ?_
    ·refine OW_lit (τ := (tInt .i64)) [Value.int .i64 (-1)] [(-1)] Try.underlying22 ti3 (by decide) hs rfl rfl rfl ⟨rfl, trivial⟩ rfl ?_
     intro v122 wv80 xs56 hrelxs56 hs
     refine OW_nil ?_
     replace hS := hS.to hagg2 (hs.sub (.cons _ (.cons _ (.cons _ (.cons_cons _ (.cons_cons _ .slnil))))))
     refine ⟨fun _ => hS, ?_⟩
     refine A1 rfl ?_
     obtain ⟨gg124, hlegg124, hRgg124, hs⟩ := hs.relRow (i := 2) rfl hrelxs52
     replace hRv7 := hRv7.mono hlegg124
     replace hRv8 := hRv8.mono hlegg124
     replace hRv9 := hRv9.mono hlegg124
     replace hvv116 := hvv116.mono hlegg124
     replace hrelxs56 := hrelxs56.mono hlegg124
     replace hagg2 := hagg2.trans hlegg124
     refine OW_lit (τ := (tSl (tInt .i64))) [v115] [[(-1), (-1)]] Try.underlying23 ti22 (by decide) hs rfl rfl rfl ⟨⟨v115, cells_one (by obtain ⟨_, _, h9⟩ := hRgg124.shape; rw [h9]; rfl), hRgg124⟩, trivial⟩ rfl ?_
     intro v123 wv81 xs57 hrelxs57 hs
     refine OW_nil ?_
     replace hS := hS.to hagg2 (hs.sub (.cons _ (.cons _ (.cons _ (.cons_cons _ (.cons_cons _ .slnil))))))
     refine ⟨fun _ => hS, ?_⟩
     have ho55 := one_of_shape (hs.rowShape (i := 2) rfl)
     have ho56 := one_of_shape (hs.rowShape (i := 0) rfl)
     have ho57 := one_of_shape (hs.rowShape (i := 1) rfl)
     refine A rfl hS (fun w9 ⟨g9, hle9, hs⟩ => r_build (vs := [(0, v116), (1, v123), (2, v122)]) (cs := [v116, v123, v122]) rfl (built_fill [(0, 1), (1, 1), (2, 1)] [Value.slice none 0 0, Value.slice none 0 0, Value.slice none 0 0] (fun _ => by kernel_rfl) (fill_step ([]) ([Value.slice none 0 0]) ([Value.slice none 0 0, Value.slice none 0 0]) ([v116]) rfl rfl (cells_one ho55) rfl rfl rfl <| fill_step ([v116]) ([Value.slice none 0 0]) ([Value.slice none 0 0]) ([v123]) rfl rfl (cells_one ho56) rfl rfl rfl <| fill_step ([v116, v123]) ([Value.slice none 0 0]) ([]) ([v122]) rfl rfl (cells_one ho57) rfl rfl rfl <| fill_done))) rfl <| A1 rfl ?_
     have hsL19 := hs
     have hagg2L19 := hagg2
     obtain ⟨gg125, hlegg125, hRgg125, hs⟩ := hs.relRow (i := 2) rfl hvv116
     replace hRv7 := hRv7.mono hlegg125
     replace hRv8 := hRv8.mono hlegg125
     replace hRv9 := hRv9.mono hlegg125
     replace hrelxs56 := hrelxs56.mono hlegg125
     replace hrelxs57 := hrelxs57.mono hlegg125
     replace hagg2 := hagg2.trans hlegg125
     obtain ⟨gg126, hlegg126, hRgg126, hs⟩ := hs.relRow (i := 0) rfl hrelxs57
     replace hRv7 := hRv7.mono hlegg126
     replace hRv8 := hRv8.mono hlegg126
     replace hRv9 := hRv9.mono hlegg126
     replace hrelxs56 := hrelxs56.mono hlegg126
     replace hRgg125 := hRgg125.mono hlegg126
     replace hagg2 := hagg2.trans hlegg126
     obtain ⟨gg127, hlegg127, hRgg127, hs⟩ := hs.relRow (i := 0) rfl hrelxs56
     replace hRv7 := hRv7.mono hlegg127
     replace hRv8 := hRv8.mono hlegg127
     replace hRv9 := hRv9.mono hlegg127
     replace hRgg125 := hRgg125.mono hlegg127
     replace hRgg126 := hRgg126.mono hlegg127
     replace hagg2 := hagg2.trans hlegg127
     refine C [Value.agg (List.toArray (α := Value) [v7, v8, v9]), Value.agg (List.toArray (α := Value) [v116, v123, v122])] cf17 rfl (dfa_Difference_ok hrv6 hs.imm (⟨[v7], [v8], [v9], rfl, ⟨_, rfl, hRv7⟩, ⟨_, rfl, hRv8⟩, ⟨_, rfl, hRv9⟩⟩) (⟨[v116], [v123], [v122], rfl, ⟨_, rfl, hRgg125⟩, ⟨_, rfl, hRgg126⟩, ⟨_, rfl, hRgg127⟩⟩)) rfl ?_
     rintro v124 wv82 ⟨gg128, hvv124, hegg128⟩
     obtain ⟨gg129, hlegg129, hs⟩ := hsL19.lent hegg128
     replace hagg2 := hagg2L19.trans hlegg129
     obtain ⟨v125, v126, rfl, hvv125, hvv126⟩ := hvv124
     obtain ⟨cs47, rfl, hcs47⟩ := hvv126
     have hcs47 : cs47 = _ := hcs47; subst hcs47
     obtain ⟨cs48, rfl, hcs48⟩ := hvv125
     have hcs48 : cs48 = _ := hcs48; subst hcs48
     refine OW_nil ?_
     replace hS := hS.to hagg2 (hs.sub (.cons _ (.cons _ (.cons _ (.cons_cons _ (.cons_cons _ .slnil))))))
     refine ⟨fun _ => hS, ?_⟩
     refine A rfl hS (fun w9 ⟨g9, hle9, hs⟩ => r_move (v := Value.tuple #[encS rv6.1, Value.bool rv6.2]) rfl) rfl <| A rfl hS (fun w9 ⟨g9, hle9, hs⟩ => r_extract (vs := [encS rv6.1, Value.bool rv6.2]) (v := encS rv6.1) rfl rfl) rfl <| A rfl hS (fun w9 ⟨g9, hle9, hs⟩ => r_extract (vs := [encS rv6.1, Value.bool rv6.2]) (v := Value.bool rv6.2) rfl rfl) rfl <| A rfl hS (fun w9 ⟨g9, hle9, hs⟩ => r_assign (v := encS rv6.1) rfl) rfl <| A rfl hS (fun w9 ⟨g9, hle9, hs⟩ => r_assign (v := Value.bool rv6.2) rfl) rfl <| AN ?_
     simp only [Option.some.injEq, Prod.mk.injEq] at hM
     obtain ⟨rfl, rfl⟩ := hM
     exact ⟨gg129, rfl, rfl, rfl, rfl, rfl, hds, hagg2, (hs.sub (.cons _ (.cons _ (.cons _ (.cons_cons _ (.cons_cons _ .slnil))))))⟩
    trivial
   refine A2 rfl ?_ ?_
   ·obtain ⟨gg130, hlegg130, hRgg130, hs⟩ := hs.relRow (i := 0) rfl hrelxs52
    replace hRv7 := hRv7.mono hlegg130
    replace hRv8 := hRv8.mono hlegg130
    replace hRv9 := hRv9.mono hlegg130
    replace hagg2 := hagg2.trans hlegg130
    refine OW_lit (τ := (tSl (tInt .i64))) [v115] [[(-1), (-1)]] Try.underlying23 ti22 (by decide) hs rfl rfl rfl ⟨⟨v115, cells_one (by obtain ⟨_, _, h9⟩ := hRgg130.shape; rw [h9]; rfl), hRgg130⟩, trivial⟩ rfl ?_
    intro v127 wv83 xs58 hrelxs58 hs
    refine OW_nil ?_
    replace hS := hS.to hagg2 (hs.sub (.cons _ (.cons_cons _ (.cons_cons _ .slnil))))
    refine ⟨fun _ => hS, ?_⟩
    refine A2 rfl ?_ ?_
    ·refine C [Value.int .u8 97] cf25 rfl (law10_class_ok hrv5 hs.imm) rfl ?_
     rintro v128 wv84 ⟨gg131, xs59, hvv128, hegg131⟩
     have hlegg131 := hegg131.ext.le hs.imm
     replace hs := hs.callOwn hegg131
     simp only [List.cons_append, List.nil_append] at hs
     replace hRv7 := hRv7.mono hlegg131
     replace hRv8 := hRv8.mono hlegg131
     replace hRv9 := hRv9.mono hlegg131
     replace hrelxs58 := hrelxs58.mono hlegg131
     replace hagg2 := hagg2.trans hlegg131
     refine OW_nil ?_
     replace hS := hS.to hagg2 (hs.sub (.cons _ (.cons _ (.cons_cons _ (.cons_cons _ .slnil)))))
     refine ⟨fun _ => hS, ?_⟩
     refine A1 rfl <| OW_lit (τ := (tInt .i64)) [Value.int .i64 (-1)] [(-1)] Try.underlying22 ti3 (by decide) hs rfl rfl rfl ⟨rfl, trivial⟩ rfl ?_
     intro v129 wv85 xs60 hrelxs60 hs
     refine OW_nil ?_
     replace hS := hS.to hagg2 (hs.sub (.cons _ (.cons _ (.cons _ (.cons_cons _ (.cons_cons _ .slnil))))))
     refine ⟨fun _ => hS, ?_⟩
     have ho58 := one_of_shape (hs.rowShape (i := 1) rfl)
     have ho59 := one_of_shape (hs.rowShape (i := 2) rfl)
     have ho60 := one_of_shape (hs.rowShape (i := 0) rfl)
     refine A rfl hS (fun w9 ⟨g9, hle9, hs⟩ => r_build (vs := [(0, v128), (1, v127), (2, v129)]) (cs := [v128, v127, v129]) rfl (built_fill [(0, 1), (1, 1), (2, 1)] [Value.slice none 0 0, Value.slice none 0 0, Value.slice none 0 0] (fun _ => by kernel_rfl) (fill_step ([]) ([Value.slice none 0 0]) ([Value.slice none 0 0, Value.slice none 0 0]) ([v128]) rfl rfl (cells_one ho58) rfl rfl rfl <| fill_step ([v128]) ([Value.slice none 0 0]) ([Value.slice none 0 0]) ([v127]) rfl rfl (cells_one ho59) rfl rfl rfl <| fill_step ([v128, v127]) ([Value.slice none 0 0]) ([]) ([v129]) rfl rfl (cells_one ho60) rfl rfl rfl <| fill_done))) rfl <| A1 rfl ?_
     have hsL20 := hs
     have hagg2L20 := hagg2
     obtain ⟨gg132, hlegg132, hRgg132, hs⟩ := hs.relRow (i := 1) rfl hvv128
     replace hRv7 := hRv7.mono hlegg132
     replace hRv8 := hRv8.mono hlegg132
     replace hRv9 := hRv9.mono hlegg132
     replace hrelxs58 := hrelxs58.mono hlegg132
     replace hrelxs60 := hrelxs60.mono hlegg132
     replace hagg2 := hagg2.trans hlegg132
     obtain ⟨gg133, hlegg133, hRgg133, hs⟩ := hs.relRow (i := 1) rfl hrelxs58
     replace hRv7 := hRv7.mono hlegg133
     replace hRv8 := hRv8.mono hlegg133
     replace hRv9 := hRv9.mono hlegg133
     replace hrelxs60 := hrelxs60.mono hlegg133
     replace hRgg132 := hRgg132.mono hlegg133
     replace hagg2 := hagg2.trans hlegg133
     obtain ⟨gg134, hlegg134, hRgg134, hs⟩ := hs.relRow (i := 0) rfl hrelxs60
     replace hRv7 := hRv7.mono hlegg134
     replace hRv8 := hRv8.mono hlegg134
     replace hRv9 := hRv9.mono hlegg134
     replace hRgg132 := hRgg132.mono hlegg134
     replace hRgg133 := hRgg133.mono hlegg134
     replace hagg2 := hagg2.trans hlegg134
     refine C [Value.agg (List.toArray (α := Value) [v7, v8, v9]), Value.agg (List.toArray (α := Value) [v128, v127, v129])] cf17 rfl (dfa_Difference_ok hrv6 hs.imm (⟨[v7], [v8], [v9], rfl, ⟨_, rfl, hRv7⟩, ⟨_, rfl, hRv8⟩, ⟨_, rfl, hRv9⟩⟩) (⟨[v128], [v127], [v129], rfl, ⟨_, rfl, hRgg132⟩, ⟨_, rfl, hRgg133⟩, ⟨_, rfl, hRgg134⟩⟩)) rfl ?_
     rintro v130 wv86 ⟨gg135, hvv130, hegg135⟩
     obtain ⟨gg136, hlegg136, hs⟩ := hsL20.lent hegg135
     replace hagg2 := hagg2L20.trans hlegg136
     obtain ⟨v131, v132, rfl, hvv131, hvv132⟩ := hvv130
     obtain ⟨cs49, rfl, hcs49⟩ := hvv132
     have hcs49 : cs49 = _ := hcs49; subst hcs49
     obtain ⟨cs50, rfl, hcs50⟩ := hvv131
     have hcs50 : cs50 = _ := hcs50; subst hcs50
     refine OW_nil ?_
     replace hS := hS.to hagg2 (hs.sub (.cons _ (.cons _ (.cons _ (.cons_cons _ (.cons_cons _ .slnil))))))
     refine ⟨fun _ => hS, ?_⟩
     refine A rfl hS (fun w9 ⟨g9, hle9, hs⟩ => r_move (v := Value.tuple #[encS rv6.1, Value.bool rv6.2]) rfl) rfl <| A rfl hS (fun w9 ⟨g9, hle9, hs⟩ => r_extract (vs := [encS rv6.1, Value.bool rv6.2]) (v := encS rv6.1) rfl rfl) rfl <| A rfl hS (fun w9 ⟨g9, hle9, hs⟩ => r_extract (vs := [encS rv6.1, Value.bool rv6.2]) (v := Value.bool rv6.2) rfl rfl) rfl <| A rfl hS (fun w9 ⟨g9, hle9, hs⟩ => r_assign (v := encS rv6.1) rfl) rfl <| A rfl hS (fun w9 ⟨g9, hle9, hs⟩ => r_assign (v := Value.bool rv6.2) rfl) rfl <| AN ?_
     simp only [Option.some.injEq, Prod.mk.injEq] at hM
     obtain ⟨rfl, rfl⟩ := hM
     exact ⟨gg136, rfl, rfl, rfl, rfl, rfl, hds, hagg2, (hs.sub (.cons _ (.cons _ (.cons _ (.cons_cons _ (.cons_cons _ .slnil))))))⟩
    refine A2 rfl ?_ ?_
    ·refine OW_lit (τ := (tInt .i64)) [Value.int .i64 (-1)] [(-1)] Try.underlying22 ti3 (by decide) hs rfl rfl rfl ⟨rfl, trivial⟩ rfl ?_
     intro v133 wv87 xs61 hrelxs61 hs
     refine OW_nil ?_
     replace hS := hS.to hagg2 (hs.sub (.cons _ (.cons _ (.cons_cons _ (.cons_cons _ .slnil)))))
     refine ⟨fun _ => hS, ?_⟩
     refine A1 rfl <| C [Value.int .u8 97] cf25 rfl (law10_class_ok hrv5 hs.imm) rfl ?_
     rintro v134 wv88 ⟨gg137, xs62, hvv134, hegg137⟩
     have hlegg137 := hegg137.ext.le hs.imm
     replace hs := hs.callOwn hegg137
     simp only [List.cons_append, List.nil_append] at hs
     replace hRv7 := hRv7.mono hlegg137
     replace hRv8 := hRv8.mono hlegg137
     replace hRv9 := hRv9.mono hlegg137
     replace hrelxs58 := hrelxs58.mono hlegg137
     replace hrelxs61 := hrelxs61.mono hlegg137
     replace hagg2 := hagg2.trans hlegg137
     refine OW_nil ?_
     replace hS := hS.to hagg2 (hs.sub (.cons _ (.cons _ (.cons _ (.cons_cons _ (.cons_cons _ .slnil))))))
     refine ⟨fun _ => hS, ?_⟩
     have ho61 := one_of_shape (hs.rowShape (i := 0) rfl)
     have ho62 := one_of_shape (hs.rowShape (i := 2) rfl)
     have ho63 := one_of_shape (hs.rowShape (i := 1) rfl)
     refine A rfl hS (fun w9 ⟨g9, hle9, hs⟩ => r_build (vs := [(0, v134), (1, v127), (2, v133)]) (cs := [v134, v127, v133]) rfl (built_fill [(0, 1), (1, 1), (2, 1)] [Value.slice none 0 0, Value.slice none 0 0, Value.slice none 0 0] (fun _ => by kernel_rfl) (fill_step ([]) ([Value.slice none 0 0]) ([Value.slice none 0 0, Value.slice none 0 0]) ([v134]) rfl rfl (cells_one ho61) rfl rfl rfl <| fill_step ([v134]) ([Value.slice none 0 0]) ([Value.slice none 0 0]) ([v127]) rfl rfl (cells_one ho62) rfl rfl rfl <| fill_step ([v134, v127]) ([Value.slice none 0 0]) ([]) ([v133]) rfl rfl (cells_one ho63) rfl rfl rfl <| fill_done))) rfl <| A1 rfl ?_
     have hsL21 := hs
     have hagg2L21 := hagg2
     obtain ⟨gg138, hlegg138, hRgg138, hs⟩ := hs.relRow (i := 0) rfl hvv134
     replace hRv7 := hRv7.mono hlegg138
     replace hRv8 := hRv8.mono hlegg138
     replace hRv9 := hRv9.mono hlegg138
     replace hrelxs58 := hrelxs58.mono hlegg138
     replace hrelxs61 := hrelxs61.mono hlegg138
     replace hagg2 := hagg2.trans hlegg138
     obtain ⟨gg139, hlegg139, hRgg139, hs⟩ := hs.relRow (i := 1) rfl hrelxs58
     replace hRv7 := hRv7.mono hlegg139
     replace hRv8 := hRv8.mono hlegg139
     replace hRv9 := hRv9.mono hlegg139
     replace hrelxs61 := hrelxs61.mono hlegg139
     replace hRgg138 := hRgg138.mono hlegg139
     replace hagg2 := hagg2.trans hlegg139
     obtain ⟨gg140, hlegg140, hRgg140, hs⟩ := hs.relRow (i := 0) rfl hrelxs61
     replace hRv7 := hRv7.mono hlegg140
     replace hRv8 := hRv8.mono hlegg140
     replace hRv9 := hRv9.mono hlegg140
     replace hRgg138 := hRgg138.mono hlegg140
     replace hRgg139 := hRgg139.mono hlegg140
     replace hagg2 := hagg2.trans hlegg140
     refine C [Value.agg (List.toArray (α := Value) [v7, v8, v9]), Value.agg (List.toArray (α := Value) [v134, v127, v133])] cf17 rfl (dfa_Difference_ok hrv6 hs.imm (⟨[v7], [v8], [v9], rfl, ⟨_, rfl, hRv7⟩, ⟨_, rfl, hRv8⟩, ⟨_, rfl, hRv9⟩⟩) (⟨[v134], [v127], [v133], rfl, ⟨_, rfl, hRgg138⟩, ⟨_, rfl, hRgg139⟩, ⟨_, rfl, hRgg140⟩⟩)) rfl ?_
     rintro v135 wv89 ⟨gg141, hvv135, hegg141⟩
     obtain ⟨gg142, hlegg142, hs⟩ := hsL21.lent hegg141
     replace hagg2 := hagg2L21.trans hlegg142
     obtain ⟨v136, v137, rfl, hvv136, hvv137⟩ := hvv135
     obtain ⟨cs51, rfl, hcs51⟩ := hvv137
     have hcs51 : cs51 = _ := hcs51; subst hcs51
     obtain ⟨cs52, rfl, hcs52⟩ := hvv136
     have hcs52 : cs52 = _ := hcs52; subst hcs52
     refine OW_nil ?_
     replace hS := hS.to hagg2 (hs.sub (.cons _ (.cons _ (.cons _ (.cons_cons _ (.cons_cons _ .slnil))))))
     refine ⟨fun _ => hS, ?_⟩
     refine A rfl hS (fun w9 ⟨g9, hle9, hs⟩ => r_move (v := Value.tuple #[encS rv6.1, Value.bool rv6.2]) rfl) rfl <| A rfl hS (fun w9 ⟨g9, hle9, hs⟩ => r_extract (vs := [encS rv6.1, Value.bool rv6.2]) (v := encS rv6.1) rfl rfl) rfl <| A rfl hS (fun w9 ⟨g9, hle9, hs⟩ => r_extract (vs := [encS rv6.1, Value.bool rv6.2]) (v := Value.bool rv6.2) rfl rfl) rfl <| A rfl hS (fun w9 ⟨g9, hle9, hs⟩ => r_assign (v := encS rv6.1) rfl) rfl <| A rfl hS (fun w9 ⟨g9, hle9, hs⟩ => r_assign (v := Value.bool rv6.2) rfl) rfl <| AN ?_
     simp only [Option.some.injEq, Prod.mk.injEq] at hM
     obtain ⟨rfl, rfl⟩ := hM
     exact ⟨gg142, rfl, rfl, rfl, rfl, rfl, hds, hagg2, (hs.sub (.cons _ (.cons _ (.cons _ (.cons_cons _ (.cons_cons _ .slnil))))))⟩
    trivial
   refine A2 rfl ?_ ?_
   ·refine OW_lit (τ := (tInt .i64)) [Value.int .i64 (-1)] [(-1)] Try.underlying22 ti3 (by decide) hs rfl rfl rfl ⟨rfl, trivial⟩ rfl ?_
    intro v138 wv90 xs63 hrelxs63 hs
    refine OW_nil ?_
    replace hS := hS.to (Hle.refl _) (hs.sub (.cons _ (.cons _ (.cons_cons _ (.cons_cons _ .slnil)))))
    refine ⟨fun _ => hS, ?_⟩
    refine A2 rfl ?_ ?_
    ·refine C [Value.int .u8 97] cf25 rfl (law10_class_ok hrv5 hs.imm) rfl ?_
     rintro v139 wv91 ⟨gg143, xs64, hvv139, hegg143⟩
     have hlegg143 := hegg143.ext.le hs.imm
     replace hs := hs.callOwn hegg143
     simp only [List.cons_append, List.nil_append] at hs
     replace hRv7 := hRv7.mono hlegg143
     replace hRv8 := hRv8.mono hlegg143
     replace hRv9 := hRv9.mono hlegg143
     replace hrelxs52 := hrelxs52.mono hlegg143
     replace hrelxs63 := hrelxs63.mono hlegg143
     replace hagg2 := hagg2.trans hlegg143
     refine OW_nil ?_
     replace hS := hS.to hagg2 (hs.sub (.cons _ (.cons _ (.cons _ (.cons_cons _ (.cons_cons _ .slnil))))))
     refine ⟨fun _ => hS, ?_⟩
     refine A1 rfl ?_
     obtain ⟨gg144, hlegg144, hRgg144, hs⟩ := hs.relRow (i := 2) rfl hrelxs52
     replace hRv7 := hRv7.mono hlegg144
     replace hRv8 := hRv8.mono hlegg144
     replace hRv9 := hRv9.mono hlegg144
     replace hrelxs63 := hrelxs63.mono hlegg144
     replace hvv139 := hvv139.mono hlegg144
     replace hagg2 := hagg2.trans hlegg144
     refine OW_lit (τ := (tSl (tInt .i64))) [v115] [[(-1), (-1)]] Try.underlying23 ti22 (by decide) hs rfl rfl rfl ⟨⟨v115, cells_one (by obtain ⟨_, _, h9⟩ := hRgg144.shape; rw [h9]; rfl), hRgg144⟩, trivial⟩ rfl ?_
     intro v140 wv92 xs65 hrelxs65 hs
     refine OW_nil ?_
     replace hS := hS.to hagg2 (hs.sub (.cons _ (.cons _ (.cons _ (.cons_cons _ (.cons_cons _ .slnil))))))
     refine ⟨fun _ => hS, ?_⟩
     have ho64 := one_of_shape (hs.rowShape (i := 1) rfl)
     have ho65 := one_of_shape (hs.rowShape (i := 0) rfl)
     have ho66 := one_of_shape (hs.rowShape (i := 2) rfl)
     refine A rfl hS (fun w9 ⟨g9, hle9, hs⟩ => r_build (vs := [(0, v139), (1, v140), (2, v138)]) (cs := [v139, v140, v138]) rfl (built_fill [(0, 1), (1, 1), (2, 1)] [Value.slice none 0 0, Value.slice none 0 0, Value.slice none 0 0] (fun _ => by kernel_rfl) (fill_step ([]) ([Value.slice none 0 0]) ([Value.slice none 0 0, Value.slice none 0 0]) ([v139]) rfl rfl (cells_one ho64) rfl rfl rfl <| fill_step ([v139]) ([Value.slice none 0 0]) ([Value.slice none 0 0]) ([v140]) rfl rfl (cells_one ho65) rfl rfl rfl <| fill_step ([v139, v140]) ([Value.slice none 0 0]) ([]) ([v138]) rfl rfl (cells_one ho66) rfl rfl rfl <| fill_done))) rfl <| A1 rfl ?_
     have hsL22 := hs
     have hagg2L22 := hagg2
     obtain ⟨gg145, hlegg145, hRgg145, hs⟩ := hs.relRow (i := 1) rfl hvv139
     replace hRv7 := hRv7.mono hlegg145
     replace hRv8 := hRv8.mono hlegg145
     replace hRv9 := hRv9.mono hlegg145
     replace hrelxs63 := hrelxs63.mono hlegg145
     replace hrelxs65 := hrelxs65.mono hlegg145
     replace hagg2 := hagg2.trans hlegg145
     obtain ⟨gg146, hlegg146, hRgg146, hs⟩ := hs.relRow (i := 0) rfl hrelxs65
     replace hRv7 := hRv7.mono hlegg146
     replace hRv8 := hRv8.mono hlegg146
     replace hRv9 := hRv9.mono hlegg146
     replace hrelxs63 := hrelxs63.mono hlegg146
     replace hRgg145 := hRgg145.mono hlegg146
     replace hagg2 := hagg2.trans hlegg146
     obtain ⟨gg147, hlegg147, hRgg147, hs⟩ := hs.relRow (i := 0) rfl hrelxs63
     replace hRv7 := hRv7.mono hlegg147
     replace hRv8 := hRv8.mono hlegg147
     replace hRv9 := hRv9.mono hlegg147
     replace hRgg145 := hRgg145.mono hlegg147
     replace hRgg146 := hRgg146.mono hlegg147
     replace hagg2 := hagg2.trans hlegg147
     refine C [Value.agg (List.toArray (α := Value) [v7, v8, v9]), Value.agg (List.toArray (α := Value) [v139, v140, v138])] cf17 rfl (dfa_Difference_ok hrv6 hs.imm (⟨[v7], [v8], [v9], rfl, ⟨_, rfl, hRv7⟩, ⟨_, rfl, hRv8⟩, ⟨_, rfl, hRv9⟩⟩) (⟨[v139], [v140], [v138], rfl, ⟨_, rfl, hRgg145⟩, ⟨_, rfl, hRgg146⟩, ⟨_, rfl, hRgg147⟩⟩)) rfl ?_
     rintro v141 wv93 ⟨gg148, hvv141, hegg148⟩
     obtain ⟨gg149, hlegg149, hs⟩ := hsL22.lent hegg148
     replace hagg2 := hagg2L22.trans hlegg149
     obtain ⟨v142, v143, rfl, hvv142, hvv143⟩ := hvv141
     obtain ⟨cs53, rfl, hcs53⟩ := hvv143
     have hcs53 : cs53 = _ := hcs53; subst hcs53
     obtain ⟨cs54, rfl, hcs54⟩ := hvv142
     have hcs54 : cs54 = _ := hcs54; subst hcs54
     refine OW_nil ?_
     replace hS := hS.to hagg2 (hs.sub (.cons _ (.cons _ (.cons _ (.cons_cons _ (.cons_cons _ .slnil))))))
     refine ⟨fun _ => hS, ?_⟩
     refine A rfl hS (fun w9 ⟨g9, hle9, hs⟩ => r_move (v := Value.tuple #[encS rv6.1, Value.bool rv6.2]) rfl) rfl <| A rfl hS (fun w9 ⟨g9, hle9, hs⟩ => r_extract (vs := [encS rv6.1, Value.bool rv6.2]) (v := encS rv6.1) rfl rfl) rfl <| A rfl hS (fun w9 ⟨g9, hle9, hs⟩ => r_extract (vs := [encS rv6.1, Value.bool rv6.2]) (v := Value.bool rv6.2) rfl rfl) rfl <| A rfl hS (fun w9 ⟨g9, hle9, hs⟩ => r_assign (v := encS rv6.1) rfl) rfl <| A rfl hS (fun w9 ⟨g9, hle9, hs⟩ => r_assign (v := Value.bool rv6.2) rfl) rfl <| AN ?_
     simp only [Option.some.injEq, Prod.mk.injEq] at hM
     obtain ⟨rfl, rfl⟩ := hM
     exact ⟨gg149, rfl, rfl, rfl, rfl, rfl, hds, hagg2, (hs.sub (.cons _ (.cons _ (.cons _ (.cons_cons _ (.cons_cons _ .slnil))))))⟩
    refine A2 rfl ?_ ?_
    ·obtain ⟨gg150, hlegg150, hRgg150, hs⟩ := hs.relRow (i := 1) rfl hrelxs52
     replace hRv7 := hRv7.mono hlegg150
     replace hRv8 := hRv8.mono hlegg150
     replace hRv9 := hRv9.mono hlegg150
     replace hrelxs63 := hrelxs63.mono hlegg150
     replace hagg2 := hagg2.trans hlegg150
     refine OW_lit (τ := (tSl (tInt .i64))) [v115] [[(-1), (-1)]] Try.underlying23 ti22 (by decide) hs rfl rfl rfl ⟨⟨v115, cells_one (by obtain ⟨_, _, h9⟩ := hRgg150.shape; rw [h9]; rfl), hRgg150⟩, trivial⟩ rfl ?_
     intro v144 wv94 xs66 hrelxs66 hs
     refine OW_nil ?_
     replace hS := hS.to hagg2 (hs.sub (.cons _ (.cons _ (.cons_cons _ (.cons_cons _ .slnil)))))
     refine ⟨fun _ => hS, ?_⟩
     refine A1 rfl <| C [Value.int .u8 97] cf25 rfl (law10_class_ok hrv5 hs.imm) rfl ?_
     rintro v145 wv95 ⟨gg151, xs67, hvv145, hegg151⟩
     have hlegg151 := hegg151.ext.le hs.imm
     replace hs := hs.callOwn hegg151
     simp only [List.cons_append, List.nil_append] at hs
     replace hRv7 := hRv7.mono hlegg151
     replace hRv8 := hRv8.mono hlegg151
     replace hRv9 := hRv9.mono hlegg151
     replace hrelxs63 := hrelxs63.mono hlegg151
     replace hrelxs66 := hrelxs66.mono hlegg151
     replace hagg2 := hagg2.trans hlegg151
     refine OW_nil ?_
     replace hS := hS.to hagg2 (hs.sub (.cons _ (.cons _ (.cons _ (.cons_cons _ (.cons_cons _ .slnil))))))
     refine ⟨fun _ => hS, ?_⟩
     have ho67 := one_of_shape (hs.rowShape (i := 0) rfl)
     have ho68 := one_of_shape (hs.rowShape (i := 1) rfl)
     have ho69 := one_of_shape (hs.rowShape (i := 2) rfl)
     refine A rfl hS (fun w9 ⟨g9, hle9, hs⟩ => r_build (vs := [(0, v145), (1, v144), (2, v138)]) (cs := [v145, v144, v138]) rfl (built_fill [(0, 1), (1, 1), (2, 1)] [Value.slice none 0 0, Value.slice none 0 0, Value.slice none 0 0] (fun _ => by kernel_rfl) (fill_step ([]) ([Value.slice none 0 0]) ([Value.slice none 0 0, Value.slice none 0 0]) ([v145]) rfl rfl (cells_one ho67) rfl rfl rfl <| fill_step ([v145]) ([Value.slice none 0 0]) ([Value.slice none 0 0]) ([v144]) rfl rfl (cells_one ho68) rfl rfl rfl <| fill_step ([v145, v144]) ([Value.slice none 0 0]) ([]) ([v138]) rfl rfl (cells_one ho69) rfl rfl rfl <| fill_done))) rfl <| A1 rfl ?_
     have hsL23 := hs
     have hagg2L23 := hagg2
     obtain ⟨gg152, hlegg152, hRgg152, hs⟩ := hs.relRow (i := 0) rfl hvv145
     replace hRv7 := hRv7.mono hlegg152
     replace hRv8 := hRv8.mono hlegg152
     replace hRv9 := hRv9.mono hlegg152
     replace hrelxs63 := hrelxs63.mono hlegg152
     replace hrelxs66 := hrelxs66.mono hlegg152
     replace hagg2 := hagg2.trans hlegg152
     obtain ⟨gg153, hlegg153, hRgg153, hs⟩ := hs.relRow (i := 0) rfl hrelxs66
     replace hRv7 := hRv7.mono hlegg153
     replace hRv8 := hRv8.mono hlegg153
     replace hRv9 := hRv9.mono hlegg153
     replace hrelxs63 := hrelxs63.mono hlegg153
     replace hRgg152 := hRgg152.mono hlegg153
     replace hagg2 := hagg2.trans hlegg153
     obtain ⟨gg154, hlegg154, hRgg154, hs⟩ := hs.relRow (i := 0) rfl hrelxs63
     replace hRv7 := hRv7.mono hlegg154
     replace hRv8 := hRv8.mono hlegg154
     replace hRv9 := hRv9.mono hlegg154
     replace hRgg152 := hRgg152.mono hlegg154
     replace hRgg153 := hRgg153.mono hlegg154
     replace hagg2 := hagg2.trans hlegg154
     refine C [Value.agg (List.toArray (α := Value) [v7, v8, v9]), Value.agg (List.toArray (α := Value) [v145, v144, v138])] cf17 rfl (dfa_Difference_ok hrv6 hs.imm (⟨[v7], [v8], [v9], rfl, ⟨_, rfl, hRv7⟩, ⟨_, rfl, hRv8⟩, ⟨_, rfl, hRv9⟩⟩) (⟨[v145], [v144], [v138], rfl, ⟨_, rfl, hRgg152⟩, ⟨_, rfl, hRgg153⟩, ⟨_, rfl, hRgg154⟩⟩)) rfl ?_
     rintro v146 wv96 ⟨gg155, hvv146, hegg155⟩
     obtain ⟨gg156, hlegg156, hs⟩ := hsL23.lent hegg155
     replace hagg2 := hagg2L23.trans hlegg156
     obtain ⟨v147, v148, rfl, hvv147, hvv148⟩ := hvv146
     obtain ⟨cs55, rfl, hcs55⟩ := hvv148
     have hcs55 : cs55 = _ := hcs55; subst hcs55
     obtain ⟨cs56, rfl, hcs56⟩ := hvv147
     have hcs56 : cs56 = _ := hcs56; subst hcs56
     refine OW_nil ?_
     replace hS := hS.to hagg2 (hs.sub (.cons _ (.cons _ (.cons _ (.cons_cons _ (.cons_cons _ .slnil))))))
     refine ⟨fun _ => hS, ?_⟩
     refine A rfl hS (fun w9 ⟨g9, hle9, hs⟩ => r_move (v := Value.tuple #[encS rv6.1, Value.bool rv6.2]) rfl) rfl <| A rfl hS (fun w9 ⟨g9, hle9, hs⟩ => r_extract (vs := [encS rv6.1, Value.bool rv6.2]) (v := encS rv6.1) rfl rfl) rfl <| A rfl hS (fun w9 ⟨g9, hle9, hs⟩ => r_extract (vs := [encS rv6.1, Value.bool rv6.2]) (v := Value.bool rv6.2) rfl rfl) rfl <| A rfl hS (fun w9 ⟨g9, hle9, hs⟩ => r_assign (v := encS rv6.1) rfl) rfl <| A rfl hS (fun w9 ⟨g9, hle9, hs⟩ => r_assign (v := Value.bool rv6.2) rfl) rfl <| AN ?_
     simp only [Option.some.injEq, Prod.mk.injEq] at hM
     obtain ⟨rfl, rfl⟩ := hM
     exact ⟨gg156, rfl, rfl, rfl, rfl, rfl, hds, hagg2, (hs.sub (.cons _ (.cons _ (.cons _ (.cons_cons _ (.cons_cons _ .slnil))))))⟩
    trivial
   trivial
  refine A2 rfl ?_ ?_
  ·refine OW_lit (τ := (tInt .i64)) [Value.int .i64 (-1)] [(-1)] Try.underlying22 ti3 (by decide) hs rfl rfl rfl ⟨rfl, trivial⟩ rfl ?_
   intro v149 wv97 xs68 hrelxs68 hs
   refine OW_nil ?_
   replace hS := hS.to (Hle.refl _) (hs.sub (.cons _ (.cons_cons _ (.cons_cons _ .slnil))))
   refine ⟨fun _ => hS, ?_⟩
   refine A2 rfl ?_ ?_
   ·refine C [Value.int .u8 97] cf25 rfl (law10_class_ok hrv5 hs.imm) rfl ?_
    rintro v150 wv98 ⟨gg157, xs69, hvv150, hegg157⟩
    have hlegg157 := hegg157.ext.le hs.imm
    replace hs := hs.callOwn hegg157
    simp only [List.cons_append, List.nil_append] at hs
    replace hRv7 := hRv7.mono hlegg157
    replace hRv8 := hRv8.mono hlegg157
    replace hRv9 := hRv9.mono hlegg157
    replace hrelxs68 := hrelxs68.mono hlegg157
    replace hagg2 := hagg2.trans hlegg157
    refine OW_nil ?_
    replace hS := hS.to hagg2 (hs.sub (.cons _ (.cons _ (.cons_cons _ (.cons_cons _ .slnil)))))
    refine ⟨fun _ => hS, ?_⟩
    refine A1 rfl <| OW_lit (τ := (tInt .i64)) [Value.int .i64 (-1), Value.int .i64 (-1)] [(-1), (-1)] Try.underlying22 ti3 (by decide) hs rfl rfl rfl ⟨rfl, rfl, trivial⟩ rfl ?_
    intro v151 wv99 xs70 hrelxs70 hs
    refine OW_nil ?_
    replace hS := hS.to hagg2 (hs.sub (.cons _ (.cons _ (.cons _ (.cons_cons _ (.cons_cons _ .slnil))))))
    refine ⟨fun _ => hS, ?_⟩
    refine A1 rfl ?_
    obtain ⟨gg158, hlegg158, hRgg158, hs⟩ := hs.relRow (i := 0) rfl hrelxs70
    replace hRv7 := hRv7.mono hlegg158
    replace hRv8 := hRv8.mono hlegg158
    replace hRv9 := hRv9.mono hlegg158
    replace hrelxs68 := hrelxs68.mono hlegg158
    replace hvv150 := hvv150.mono hlegg158
    replace hagg2 := hagg2.trans hlegg158
    refine OW_lit (τ := (tSl (tInt .i64))) [v151] [[(-1), (-1)]] Try.underlying23 ti22 (by decide) hs rfl rfl rfl ⟨⟨v151, cells_one (by obtain ⟨_, _, h9⟩ := hRgg158.shape; rw [h9]; rfl), hRgg158⟩, trivial⟩ rfl ?_
    intro v152 wv100 xs71 hrelxs71 hs
    refine OW_nil ?_
    replace hS := hS.to hagg2 (hs.sub (.cons _ (.cons _ (.cons _ (.cons_cons _ (.cons_cons _ .slnil))))))
    refine ⟨fun _ => hS, ?_⟩
    have ho70 := one_of_shape (hs.rowShape (i := 1) rfl)
    have ho71 := one_of_shape (hs.rowShape (i := 0) rfl)
    have ho72 := one_of_shape (hs.rowShape (i := 2) rfl)
    refine A rfl hS (fun w9 ⟨g9, hle9, hs⟩ => r_build (vs := [(0, v150), (1, v152), (2, v149)]) (cs := [v150, v152, v149]) rfl (built_fill [(0, 1), (1, 1), (2, 1)] [Value.slice none 0 0, Value.slice none 0 0, Value.slice none 0 0] (fun _ => by kernel_rfl) (fill_step ([]) ([Value.slice none 0 0]) ([Value.slice none 0 0, Value.slice none 0 0]) ([v150]) rfl rfl (cells_one ho70) rfl rfl rfl <| fill_step ([v150]) ([Value.slice none 0 0]) ([Value.slice none 0 0]) ([v152]) rfl rfl (cells_one ho71) rfl rfl rfl <| fill_step ([v150, v152]) ([Value.slice none 0 0]) ([]) ([v149]) rfl rfl (cells_one ho72) rfl rfl rfl <| fill_done))) rfl <| A1 rfl ?_
    have hsL24 := hs
    have hagg2L24 := hagg2
    obtain ⟨gg159, hlegg159, hRgg159, hs⟩ := hs.relRow (i := 1) rfl hvv150
    replace hRv7 := hRv7.mono hlegg159
    replace hRv8 := hRv8.mono hlegg159
    replace hRv9 := hRv9.mono hlegg159
    replace hrelxs68 := hrelxs68.mono hlegg159
    replace hrelxs71 := hrelxs71.mono hlegg159
    replace hagg2 := hagg2.trans hlegg159
    obtain ⟨gg160, hlegg160, hRgg160, hs⟩ := hs.relRow (i := 0) rfl hrelxs71
    replace hRv7 := hRv7.mono hlegg160
    replace hRv8 := hRv8.mono hlegg160
    replace hRv9 := hRv9.mono hlegg160
    replace hrelxs68 := hrelxs68.mono hlegg160
    replace hRgg159 := hRgg159.mono hlegg160
    replace hagg2 := hagg2.trans hlegg160
    obtain ⟨gg161, hlegg161, hRgg161, hs⟩ := hs.relRow (i := 0) rfl hrelxs68
    replace hRv7 := hRv7.mono hlegg161
    replace hRv8 := hRv8.mono hlegg161
    replace hRv9 := hRv9.mono hlegg161
    replace hRgg159 := hRgg159.mono hlegg161
    replace hRgg160 := hRgg160.mono hlegg161
    replace hagg2 := hagg2.trans hlegg161
    refine C [Value.agg (List.toArray (α := Value) [v7, v8, v9]), Value.agg (List.toArray (α := Value) [v150, v152, v149])] cf17 rfl (dfa_Difference_ok hrv6 hs.imm (⟨[v7], [v8], [v9], rfl, ⟨_, rfl, hRv7⟩, ⟨_, rfl, hRv8⟩, ⟨_, rfl, hRv9⟩⟩) (⟨[v150], [v152], [v149], rfl, ⟨_, rfl, hRgg159⟩, ⟨_, rfl, hRgg160⟩, ⟨_, rfl, hRgg161⟩⟩)) rfl ?_
    rintro v153 wv101 ⟨gg162, hvv153, hegg162⟩
    obtain ⟨gg163, hlegg163, hs⟩ := hsL24.lent hegg162
    replace hagg2 := hagg2L24.trans hlegg163
    obtain ⟨v154, v155, rfl, hvv154, hvv155⟩ := hvv153
    obtain ⟨cs57, rfl, hcs57⟩ := hvv155
    have hcs57 : cs57 = _ := hcs57; subst hcs57
    obtain ⟨cs58, rfl, hcs58⟩ := hvv154
    have hcs58 : cs58 = _ := hcs58; subst hcs58
    refine OW_nil ?_
    replace hS := hS.to hagg2 (hs.sub (.cons _ (.cons _ (.cons _ (.cons_cons _ (.cons_cons _ .slnil))))))
    refine ⟨fun _ => hS, ?_⟩
    refine A rfl hS (fun w9 ⟨g9, hle9, hs⟩ => r_move (v := Value.tuple #[encS rv6.1, Value.bool rv6.2]) rfl) rfl <| A rfl hS (fun w9 ⟨g9, hle9, hs⟩ => r_extract (vs := [encS rv6.1, Value.bool rv6.2]) (v := encS rv6.1) rfl rfl) rfl <| A rfl hS (fun w9 ⟨g9, hle9, hs⟩ => r_extract (vs := [encS rv6.1, Value.bool rv6.2]) (v := Value.bool rv6.2) rfl rfl) rfl <| A rfl hS (fun w9 ⟨g9, hle9, hs⟩ => r_assign (v := encS rv6.1) rfl) rfl <| A rfl hS (fun w9 ⟨g9, hle9, hs⟩ => r_assign (v := Value.bool rv6.2) rfl) rfl <| AN ?_
    simp only [Option.some.injEq, Prod.mk.injEq] at hM
    obtain ⟨rfl, rfl⟩ := hM
    exact ⟨gg163, rfl, rfl, rfl, rfl, rfl, hds, hagg2, (hs.sub (.cons _ (.cons _ (.cons _ (.cons_cons _ (.cons_cons _ .slnil))))))⟩
   refine A2 rfl ?_ ?_
   ·refine OW_lit (τ := (tInt .i64)) [Value.int .i64 (-1), Value.int .i64 (-1)] [(-1), (-1)] Try.underlying22 ti3 (by decide) hs rfl rfl rfl ⟨rfl, rfl, trivial⟩ rfl ?_
    intro v156 wv102 xs72 hrelxs72 hs
    refine OW_nil ?_
    replace hS := hS.to (Hle.refl _) (hs.sub (.cons _ (.cons _ (.cons_cons _ (.cons_cons _ .slnil)))))
    refine ⟨fun _ => hS, ?_⟩
    refine A2 rfl ?_ ?_
    ·refine C [Value.int .u8 97] cf25 rfl (law10_class_ok hrv5 hs.imm) rfl ?_
     rintro v157 wv103 ⟨gg164, xs73, hvv157, hegg164⟩
     have hlegg164 := hegg164.ext.le hs.imm
     replace hs := hs.callOwn hegg164
     simp only [List.cons_append, List.nil_append] at hs
     replace hRv7 := hRv7.mono hlegg164
     replace hRv8 := hRv8.mono hlegg164
     replace hRv9 := hRv9.mono hlegg164
     replace hrelxs68 := hrelxs68.mono hlegg164
     replace hrelxs72 := hrelxs72.mono hlegg164
     replace hagg2 := hagg2.trans hlegg164
     refine OW_nil ?_
     replace hS := hS.to hagg2 (hs.sub (.cons _ (.cons _ (.cons _ (.cons_cons _ (.cons_cons _ .slnil))))))
     refine ⟨fun _ => hS, ?_⟩
     refine A1 rfl ?_
     obtain ⟨gg165, hlegg165, hRgg165, hs⟩ := hs.relRow (i := 1) rfl hrelxs72
     replace hRv7 := hRv7.mono hlegg165
     replace hRv8 := hRv8.mono hlegg165
     replace hRv9 := hRv9.mono hlegg165
     replace hrelxs68 := hrelxs68.mono hlegg165
     replace hvv157 := hvv157.mono hlegg165
     replace hagg2 := hagg2.trans hlegg165
     refine OW_lit (τ := (tSl (tInt .i64))) [v156] [[(-1), (-1)]] Try.underlying23 ti22 (by decide) hs rfl rfl rfl ⟨⟨v156, cells_one (by obtain ⟨_, _, h9⟩ := hRgg165.shape; rw [h9]; rfl), hRgg165⟩, trivial⟩ rfl ?_
     intro v158 wv104 xs74 hrelxs74 hs
     refine OW_nil ?_
     replace hS := hS.to hagg2 (hs.sub (.cons _ (.cons _ (.cons _ (.cons_cons _ (.cons_cons _ .slnil))))))
     refine ⟨fun _ => hS, ?_⟩
     have ho73 := one_of_shape (hs.rowShape (i := 1) rfl)
     have ho74 := one_of_shape (hs.rowShape (i := 0) rfl)
     have ho75 := one_of_shape (hs.rowShape (i := 2) rfl)
     refine A rfl hS (fun w9 ⟨g9, hle9, hs⟩ => r_build (vs := [(0, v157), (1, v158), (2, v149)]) (cs := [v157, v158, v149]) rfl (built_fill [(0, 1), (1, 1), (2, 1)] [Value.slice none 0 0, Value.slice none 0 0, Value.slice none 0 0] (fun _ => by kernel_rfl) (fill_step ([]) ([Value.slice none 0 0]) ([Value.slice none 0 0, Value.slice none 0 0]) ([v157]) rfl rfl (cells_one ho73) rfl rfl rfl <| fill_step ([v157]) ([Value.slice none 0 0]) ([Value.slice none 0 0]) ([v158]) rfl rfl (cells_one ho74) rfl rfl rfl <| fill_step ([v157, v158]) ([Value.slice none 0 0]) ([]) ([v149]) rfl rfl (cells_one ho75) rfl rfl rfl <| fill_done))) rfl <| A1 rfl ?_
     have hsL25 := hs
     have hagg2L25 := hagg2
     obtain ⟨gg166, hlegg166, hRgg166, hs⟩ := hs.relRow (i := 1) rfl hvv157
     replace hRv7 := hRv7.mono hlegg166
     replace hRv8 := hRv8.mono hlegg166
     replace hRv9 := hRv9.mono hlegg166
     replace hrelxs68 := hrelxs68.mono hlegg166
     replace hrelxs74 := hrelxs74.mono hlegg166
     replace hagg2 := hagg2.trans hlegg166
     obtain ⟨gg167, hlegg167, hRgg167, hs⟩ := hs.relRow (i := 0) rfl hrelxs74
     replace hRv7 := hRv7.mono hlegg167
     replace hRv8 := hRv8.mono hlegg167
     replace hRv9 := hRv9.mono hlegg167
     replace hrelxs68 := hrelxs68.mono hlegg167
     replace hRgg166 := hRgg166.mono hlegg167
     replace hagg2 := hagg2.trans hlegg167
     obtain ⟨gg168, hlegg168, hRgg168, hs⟩ := hs.relRow (i := 0) rfl hrelxs68
     replace hRv7 := hRv7.mono hlegg168
     replace hRv8 := hRv8.mono hlegg168
     replace hRv9 := hRv9.mono hlegg168
     replace hRgg166 := hRgg166.mono hlegg168
     replace hRgg167 := hRgg167.mono hlegg168
     replace hagg2 := hagg2.trans hlegg168
     refine C [Value.agg (List.toArray (α := Value) [v7, v8, v9]), Value.agg (List.toArray (α := Value) [v157, v158, v149])] cf17 rfl (dfa_Difference_ok hrv6 hs.imm (⟨[v7], [v8], [v9], rfl, ⟨_, rfl, hRv7⟩, ⟨_, rfl, hRv8⟩, ⟨_, rfl, hRv9⟩⟩) (⟨[v157], [v158], [v149], rfl, ⟨_, rfl, hRgg166⟩, ⟨_, rfl, hRgg167⟩, ⟨_, rfl, hRgg168⟩⟩)) rfl ?_
     rintro v159 wv105 ⟨gg169, hvv159, hegg169⟩
     obtain ⟨gg170, hlegg170, hs⟩ := hsL25.lent hegg169
     replace hagg2 := hagg2L25.trans hlegg170
     obtain ⟨v160, v161, rfl, hvv160, hvv161⟩ := hvv159
     obtain ⟨cs59, rfl, hcs59⟩ := hvv161
     have hcs59 : cs59 = _ := hcs59; subst hcs59
     obtain ⟨cs60, rfl, hcs60⟩ := hvv160
     have hcs60 : cs60 = _ := hcs60; subst hcs60
     refine OW_nil ?_
     replace hS := hS.to hagg2 (hs.sub (.cons _ (.cons _ (.cons _ (.cons_cons _ (.cons_cons _ .slnil))))))
     refine ⟨fun _ => hS, ?_⟩
     refine A rfl hS (fun w9 ⟨g9, hle9, hs⟩ => r_move (v := Value.tuple #[encS rv6.1, Value.bool rv6.2]) rfl) rfl <| A rfl hS (fun w9 ⟨g9, hle9, hs⟩ => r_extract (vs := [encS rv6.1, Value.bool rv6.2]) (v := encS rv6.1) rfl rfl) rfl <| A rfl hS (fun w9 ⟨g9, hle9, hs⟩ => r_extract (vs := [encS rv6.1, Value.bool rv6.2]) (v := Value.bool rv6.2) rfl rfl) rfl <| A rfl hS (fun w9 ⟨g9, hle9, hs⟩ => r_assign (v := encS rv6.1) rfl) rfl <| A rfl hS (fun w9 ⟨g9, hle9, hs⟩ => r_assign (v := Value.bool rv6.2) rfl) rfl <| AN ?_
     simp only [Option.some.injEq, Prod.mk.injEq] at hM
     obtain ⟨rfl, rfl⟩ := hM
     exact ⟨gg170, rfl, rfl, rfl, rfl, rfl, hds, hagg2, (hs.sub (.cons _ (.cons _ (.cons _ (.cons_cons _ (.cons_cons _ .slnil))))))⟩
    refine A2 rfl ?_ ?_
    ·obtain ⟨gg171, hlegg171, hRgg171, hs⟩ := hs.relRow (i := 0) rfl hrelxs72
     replace hRv7 := hRv7.mono hlegg171
     replace hRv8 := hRv8.mono hlegg171
     replace hRv9 := hRv9.mono hlegg171
     replace hrelxs68 := hrelxs68.mono hlegg171
     replace hagg2 := hagg2.trans hlegg171
     refine OW_lit (τ := (tSl (tInt .i64))) [v156] [[(-1), (-1)]] Try.underlying23 ti22 (by decide) hs rfl rfl rfl ⟨⟨v156, cells_one (by obtain ⟨_, _, h9⟩ := hRgg171.shape; rw [h9]; rfl), hRgg171⟩, trivial⟩ rfl ?_
     intro v162 wv106 xs75 hrelxs75 hs
     refine OW_nil ?_
     replace hS := hS.to hagg2 (hs.sub (.cons _ (.cons _ (.cons_cons _ (.cons_cons _ .slnil)))))
     refine ⟨fun _ => hS, ?_⟩
     refine A1 rfl <| C [Value.int .u8 97] cf25 rfl (law10_class_ok hrv5 hs.imm) rfl ?_
     rintro v163 wv107 ⟨gg172, xs76, hvv163, hegg172⟩
     have hlegg172 := hegg172.ext.le hs.imm
     replace hs := hs.callOwn hegg172
     simp only [List.cons_append, List.nil_append] at hs
     replace hRv7 := hRv7.mono hlegg172
     replace hRv8 := hRv8.mono hlegg172
     replace hRv9 := hRv9.mono hlegg172
     replace hrelxs68 := hrelxs68.mono hlegg172
     replace hrelxs75 := hrelxs75.mono hlegg172
     replace hagg2 := hagg2.trans hlegg172
     refine OW_nil ?_
     replace hS := hS.to hagg2 (hs.sub (.cons _ (.cons _ (.cons _ (.cons_cons _ (.cons_cons _ .slnil))))))
     refine ⟨fun _ => hS, ?_⟩
     have ho76 := one_of_shape (hs.rowShape (i := 0) rfl)
     have ho77 := one_of_shape (hs.rowShape (i := 1) rfl)
     have ho78 := one_of_shape (hs.rowShape (i := 2) rfl)
     refine A rfl hS (fun w9 ⟨g9, hle9, hs⟩ => r_build (vs := [(0, v163), (1, v162), (2, v149)]) (cs := [v163, v162, v149]) rfl (built_fill [(0, 1), (1, 1), (2, 1)] [Value.slice none 0 0, Value.slice none 0 0, Value.slice none 0 0] (fun _ => by kernel_rfl) (fill_step ([]) ([Value.slice none 0 0]) ([Value.slice none 0 0, Value.slice none 0 0]) ([v163]) rfl rfl (cells_one ho76) rfl rfl rfl <| fill_step ([v163]) ([Value.slice none 0 0]) ([Value.slice none 0 0]) ([v162]) rfl rfl (cells_one ho77) rfl rfl rfl <| fill_step ([v163, v162]) ([Value.slice none 0 0]) ([]) ([v149]) rfl rfl (cells_one ho78) rfl rfl rfl <| fill_done))) rfl <| A1 rfl ?_
     have hsL26 := hs
     have hagg2L26 := hagg2
     obtain ⟨gg173, hlegg173, hRgg173, hs⟩ := hs.relRow (i := 0) rfl hvv163
     replace hRv7 := hRv7.mono hlegg173
     replace hRv8 := hRv8.mono hlegg173
     replace hRv9 := hRv9.mono hlegg173
     replace hrelxs68 := hrelxs68.mono hlegg173
     replace hrelxs75 := hrelxs75.mono hlegg173
     replace hagg2 := hagg2.trans hlegg173
     obtain ⟨gg174, hlegg174, hRgg174, hs⟩ := hs.relRow (i := 0) rfl hrelxs75
     replace hRv7 := hRv7.mono hlegg174
     replace hRv8 := hRv8.mono hlegg174
     replace hRv9 := hRv9.mono hlegg174
     replace hrelxs68 := hrelxs68.mono hlegg174
     replace hRgg173 := hRgg173.mono hlegg174
     replace hagg2 := hagg2.trans hlegg174
     obtain ⟨gg175, hlegg175, hRgg175, hs⟩ := hs.relRow (i := 0) rfl hrelxs68
     replace hRv7 := hRv7.mono hlegg175
     replace hRv8 := hRv8.mono hlegg175
     replace hRv9 := hRv9.mono hlegg175
     replace hRgg173 := hRgg173.mono hlegg175
     replace hRgg174 := hRgg174.mono hlegg175
     replace hagg2 := hagg2.trans hlegg175
     refine C [Value.agg (List.toArray (α := Value) [v7, v8, v9]), Value.agg (List.toArray (α := Value) [v163, v162, v149])] cf17 rfl (dfa_Difference_ok hrv6 hs.imm (⟨[v7], [v8], [v9], rfl, ⟨_, rfl, hRv7⟩, ⟨_, rfl, hRv8⟩, ⟨_, rfl, hRv9⟩⟩) (⟨[v163], [v162], [v149], rfl, ⟨_, rfl, hRgg173⟩, ⟨_, rfl, hRgg174⟩, ⟨_, rfl, hRgg175⟩⟩)) rfl ?_
     rintro v164 wv108 ⟨gg176, hvv164, hegg176⟩
     obtain ⟨gg177, hlegg177, hs⟩ := hsL26.lent hegg176
     replace hagg2 := hagg2L26.trans hlegg177
     obtain ⟨v165, v166, rfl, hvv165, hvv166⟩ := hvv164
     obtain ⟨cs61, rfl, hcs61⟩ := hvv166
     have hcs61 : cs61 = _ := hcs61; subst hcs61
     obtain ⟨cs62, rfl, hcs62⟩ := hvv165
     have hcs62 : cs62 = _ := hcs62; subst hcs62
     refine OW_nil ?_
     replace hS := hS.to hagg2 (hs.sub (.cons _ (.cons _ (.cons _ (.cons_cons _ (.cons_cons _ .slnil))))))
     refine ⟨fun _ => hS, ?_⟩
     refine A rfl hS (fun w9 ⟨g9, hle9, hs⟩ => r_move (v := Value.tuple #[encS rv6.1, Value.bool rv6.2]) rfl) rfl <| A rfl hS (fun w9 ⟨g9, hle9, hs⟩ => r_extract (vs := [encS rv6.1, Value.bool rv6.2]) (v := encS rv6.1) rfl rfl) rfl <| A rfl hS (fun w9 ⟨g9, hle9, hs⟩ => r_extract (vs := [encS rv6.1, Value.bool rv6.2]) (v := Value.bool rv6.2) rfl rfl) rfl <| A rfl hS (fun w9 ⟨g9, hle9, hs⟩ => r_assign (v := encS rv6.1) rfl) rfl <| A rfl hS (fun w9 ⟨g9, hle9, hs⟩ => r_assign (v := Value.bool rv6.2) rfl) rfl <| AN ?_
     simp only [Option.some.injEq, Prod.mk.injEq] at hM
     obtain ⟨rfl, rfl⟩ := hM
     exact ⟨gg177, rfl, rfl, rfl, rfl, rfl, hds, hagg2, (hs.sub (.cons _ (.cons _ (.cons _ (.cons_cons _ (.cons_cons _ .slnil))))))⟩
    trivial
   trivial
  trivial
 ·clear hs
  rintro E w ⟨gg90, hE1, hE2, hE4, hE5, hE6, hds, hlegg90, hs⟩
  have hM := hKhx1
  obtain ⟨E, rfl⟩ := open5 (E := E) hE1 hE2 hE4 hE5 hE6
  replace hRv7 := hRv7.mono hlegg90
  replace hRv8 := hRv8.mono hlegg90
  replace hRv9 := hRv9.mono hlegg90
  replace hRv4 := hRv4.mono hlegg90
  replace hRv5 := hRv5.mono hlegg90
  replace hRv6 := hRv6.mono hlegg90
  obtain ⟨xv3, hx2, hKhx2⟩ := bindS hM
  refine WP_cut (fun E w => ∃ (gg187 : Hp), E 0 = Value.bool xv3 ∧ E.ds = [] ∧ Hle gg90 gg187 ∧ Go.Lx.Sep g0 w0 gg187 w []) ?_ ?_
  ·have hM := hx2
   have hagg90 := Hle.refl gg90
   refine WP_any (.q 0 (.s 1 (.q 2 (.q 3 (.s 4 (.q 5 (.q 6 (.q 7 (.q 8 (.s 9 (.q 10 (.q 11 (.q 12 (.q 13 (.s 14 (.q 15 (.q 16 (.q 17 (.q 18 (.s 19 (.q 20 (.q 21 (.q 22 (.q 23 (.q 25 (.s 24 (.s 26 (.q 27 (.q 28 (.q 29 (.q 31 (.s 30 (.s 32 (.q 33 (.q 34 (.q 35 (.q 36 (.q 37 (.q 38 (.q 39 (.q 40 (.q 41 (.q 42 (.q 43 (.q 44 (.q 45 (.leaf))))))))))))))))))))))))))))))))))))))))))))))) (SS g0 w0 gg90 [Go.Lx.box b2 25 ([v4, v5, v6]), Go.Lx.box b1 25 ([v7, v8, v9])]) mo (by decide +kernel) ?_
   have hs := hs.drew
   have hS : SS g0 w0 gg90 [Go.Lx.box b2 25 ([v4, v5, v6]), Go.Lx.box b1 25 ([v7, v8, v9])] _ := ⟨gg90, Hle.refl _, hs⟩
   refine A rfl hS (fun w9 ⟨g9, hle9, hs⟩ => r_loadN (cs := [v7, v8, v9]) ti25 rfl rfl (hs.cells (i := 1) rfl)) rfl <| A1 rfl ?_
   obtain ⟨rv16, hrv16, hM⟩ := bindS hM
   refine C [Value.agg (List.toArray (α := Value) [v7, v8, v9])] cf11 rfl (dfa_Valid_ok hrv16 hs.imm (⟨[v7], [v8], [v9], rfl, ⟨_, rfl, hRv7⟩, ⟨_, rfl, hRv8⟩, ⟨_, rfl, hRv9⟩⟩)) rfl ?_
   rintro v182 wv118 ⟨gg188, hvv182, hegg188⟩
   have hlegg188 := hegg188.le hs.imm
   replace hs := hs.call hegg188
   replace hRv7 := hRv7.mono hlegg188
   replace hRv8 := hRv8.mono hlegg188
   replace hRv9 := hRv9.mono hlegg188
   replace hRv4 := hRv4.mono hlegg188
   replace hRv5 := hRv5.mono hlegg188
   replace hRv6 := hRv6.mono hlegg188
   replace hagg90 := hagg90.trans hlegg188
   obtain ⟨cs78, rfl, hcs78⟩ := hvv182
   have hcs78 : cs78 = _ := hcs78; subst hcs78
   refine OW_nil ?_
   replace hS := hS.to hagg90 hs
   refine ⟨fun _ => hS, ?_⟩
   refine A rfl hS (fun w9 ⟨g9, hle9, hs⟩ => r_move (v := Value.bool rv16) rfl) rfl ?_
   rcases condS hM with ⟨hg10, hM⟩ | ⟨hg10, hM⟩
   ·refine AG rfl rfl rfl rfl (by rw [hg10]; rfl) hS (fun w9 ⟨g9, hle9, hs⟩ => r_build (vs := []) (cs := [Value.slice none 0 0, Value.slice none 0 0, Value.slice none 0 0]) rfl (built_fill [(0, 1), (1, 1), (2, 1)] [Value.slice none 0 0, Value.slice none 0 0, Value.slice none 0 0] (fun _ => by kernel_rfl) (fill_done))) rfl <| A1 rfl ?_
    obtain ⟨rv17, hrv17, hM⟩ := bindS hM
    refine CG rfl rfl rfl (by rw [hg10]; rfl) [Value.agg (List.toArray (α := Value) [Value.slice none 0 0, Value.slice none 0 0, Value.slice none 0 0])] cf11 rfl (dfa_Valid_ok hrv17 hs.imm (⟨[Value.slice none 0 0], [Value.slice none 0 0], [Value.slice none 0 0], rfl, ⟨_, rfl, RdS.nil⟩, ⟨_, rfl, RdS.nil⟩, ⟨_, rfl, RdS.nil⟩⟩)) rfl ?_
    rintro v183 wv119 ⟨gg189, hvv183, hegg189⟩
    have hlegg189 := hegg189.le hs.imm
    replace hs := hs.call hegg189
    replace hRv7 := hRv7.mono hlegg189
    replace hRv8 := hRv8.mono hlegg189
    replace hRv9 := hRv9.mono hlegg189
    replace hRv4 := hRv4.mono hlegg189
    replace hRv5 := hRv5.mono hlegg189
    replace hRv6 := hRv6.mono hlegg189
    replace hagg90 := hagg90.trans hlegg189
    obtain ⟨cs79, rfl, hcs79⟩ := hvv183
    have hcs79 : cs79 = _ := hcs79; subst hcs79
    refine OW_nil ?_
    replace hS := hS.to hagg90 hs
    refine ⟨fun _ => hS, ?_⟩
    refine AG rfl rfl rfl rfl (by rw [hg10]; rfl) hS (fun w9 ⟨g9, hle9, hs⟩ => r_not rfl) rfl <| A rfl hS (fun w9 ⟨g9, hle9, hs⟩ => r_pickT (v := Value.bool (!rv17)) rfl hg10 rfl) rfl <| A rfl hS (fun w9 ⟨g9, hle9, hs⟩ => r_move (v := Value.bool (!rv17)) rfl) rfl ?_
    rcases condS hM with ⟨hg11, hM⟩ | ⟨hg11, hM⟩
    ·refine AG rfl rfl rfl rfl (by rw [hg11]; rfl) hS (fun w9 ⟨g9, hle9, hs⟩ => r_loadN (cs := [v7, v8, v9]) ti25 rfl rfl (hs.cells (i := 1) rfl)) rfl <| A1 rfl ?_
     obtain ⟨rv18, hrv18, hM⟩ := bindS hM
     refine CG rfl rfl rfl (by rw [hg11]; rfl) [Value.agg (List.toArray (α := Value) [v7, v8, v9]), encS [97, 97]] cf12 rfl (dfa_Run_ok hrv18 hs.imm (⟨[v7], [v8], [v9], rfl, ⟨_, rfl, hRv7⟩, ⟨_, rfl, hRv8⟩, ⟨_, rfl, hRv9⟩⟩)) rfl ?_
     rintro v184 wv120 ⟨gg190, hvv184, hegg190⟩
     have hlegg190 := hegg190.le hs.imm
     replace hs := hs.call hegg190
     replace hRv7 := hRv7.mono hlegg190
     replace hRv8 := hRv8.mono hlegg190
     replace hRv9 := hRv9.mono hlegg190
     replace hRv4 := hRv4.mono hlegg190
     replace hRv5 := hRv5.mono hlegg190
     replace hRv6 := hRv6.mono hlegg190
     replace hagg90 := hagg90.trans hlegg190
     obtain ⟨cs80, rfl, hcs80⟩ := hvv184
     have hcs80 : cs80 = _ := hcs80; subst hcs80
     refine OW_nil ?_
     replace hS := hS.to hagg90 hs
     refine ⟨fun _ => hS, ?_⟩
     refine AG rfl rfl rfl rfl (by rw [hg11]; rfl) hS (fun w9 ⟨g9, hle9, hs⟩ => r_eql rfl rfl) rfl <| A rfl hS (fun w9 ⟨g9, hle9, hs⟩ => r_pickT (v := Value.bool (rv18 == 0)) rfl hg11 rfl) rfl <| A rfl hS (fun w9 ⟨g9, hle9, hs⟩ => r_move (v := Value.bool (rv18 == 0)) rfl) rfl ?_
     rcases condS hM with ⟨hg12, hM⟩ | ⟨hg12, hM⟩
     ·refine AG rfl rfl rfl rfl (by rw [hg12]; rfl) hS (fun w9 ⟨g9, hle9, hs⟩ => r_loadN (cs := [v7, v8, v9]) ti25 rfl rfl (hs.cells (i := 1) rfl)) rfl <| A1 rfl ?_
      obtain ⟨rv19, hrv19, hM⟩ := bindS hM
      refine CG rfl rfl rfl (by rw [hg12]; rfl) [Value.agg (List.toArray (α := Value) [v7, v8, v9]), encS []] cf12 rfl (dfa_Run_ok hrv19 hs.imm (⟨[v7], [v8], [v9], rfl, ⟨_, rfl, hRv7⟩, ⟨_, rfl, hRv8⟩, ⟨_, rfl, hRv9⟩⟩)) rfl ?_
      rintro v185 wv121 ⟨gg191, hvv185, hegg191⟩
      have hlegg191 := hegg191.le hs.imm
      replace hs := hs.call hegg191
      replace hRv7 := hRv7.mono hlegg191
      replace hRv8 := hRv8.mono hlegg191
      replace hRv9 := hRv9.mono hlegg191
      replace hRv4 := hRv4.mono hlegg191
      replace hRv5 := hRv5.mono hlegg191
      replace hRv6 := hRv6.mono hlegg191
      replace hagg90 := hagg90.trans hlegg191
      obtain ⟨cs81, rfl, hcs81⟩ := hvv185
      have hcs81 : cs81 = _ := hcs81; subst hcs81
      refine OW_nil ?_
      replace hS := hS.to hagg90 hs
      refine ⟨fun _ => hS, ?_⟩
      refine AG rfl rfl rfl rfl (by rw [hg12]; rfl) hS (fun w9 ⟨g9, hle9, hs⟩ => r_eql rfl rfl) rfl <| A rfl hS (fun w9 ⟨g9, hle9, hs⟩ => r_pickT (v := Value.bool (rv19 == (-1))) rfl hg12 rfl) rfl <| A rfl hS (fun w9 ⟨g9, hle9, hs⟩ => r_move (v := Value.bool (rv19 == (-1))) rfl) rfl ?_
      rcases condS hM with ⟨hg13, hM⟩ | ⟨hg13, hM⟩
      ·refine AG rfl rfl rfl rfl (by rw [hg13]; rfl) hS (fun w9 ⟨g9, hle9, hs⟩ => r_loadN (cs := [v7, v8, v9]) ti25 rfl rfl (hs.cells (i := 1) rfl)) rfl <| A1 rfl ?_
       obtain ⟨rv20, hrv20, hM⟩ := bindS hM
       refine CG rfl rfl rfl (by rw [hg13]; rfl) [Value.agg (List.toArray (α := Value) [v7, v8, v9]), encS [97, 98]] cf12 rfl (dfa_Run_ok hrv20 hs.imm (⟨[v7], [v8], [v9], rfl, ⟨_, rfl, hRv7⟩, ⟨_, rfl, hRv8⟩, ⟨_, rfl, hRv9⟩⟩)) rfl ?_
       rintro v186 wv122 ⟨gg192, hvv186, hegg192⟩
       have hlegg192 := hegg192.le hs.imm
       replace hs := hs.call hegg192
       replace hRv7 := hRv7.mono hlegg192
       replace hRv8 := hRv8.mono hlegg192
       replace hRv9 := hRv9.mono hlegg192
       replace hRv4 := hRv4.mono hlegg192
       replace hRv5 := hRv5.mono hlegg192
       replace hRv6 := hRv6.mono hlegg192
       replace hagg90 := hagg90.trans hlegg192
       obtain ⟨cs82, rfl, hcs82⟩ := hvv186
       have hcs82 : cs82 = _ := hcs82; subst hcs82
       refine OW_nil ?_
       replace hS := hS.to hagg90 hs
       refine ⟨fun _ => hS, ?_⟩
       refine AG rfl rfl rfl rfl (by rw [hg13]; rfl) hS (fun w9 ⟨g9, hle9, hs⟩ => r_eql rfl rfl) rfl <| A rfl hS (fun w9 ⟨g9, hle9, hs⟩ => r_pickT (v := Value.bool (rv20 == (-1))) rfl hg13 rfl) rfl <| A rfl hS (fun w9 ⟨g9, hle9, hs⟩ => r_move (v := Value.bool (rv20 == (-1))) rfl) rfl ?_
       rcases condS hM with ⟨hg14, hM⟩ | ⟨hg14, hM⟩
       ·refine AG rfl rfl rfl rfl (by rw [hg14]; rfl) hS (fun w9 ⟨g9, hle9, hs⟩ => r_loadN (cs := [v4, v5, v6]) ti25 rfl rfl (hs.cells (i := 0) rfl)) rfl <| AG rfl rfl rfl rfl (by rw [hg14]; rfl) hS (fun w9 ⟨g9, hle9, hs⟩ => r_loadN (cs := [v7, v8, v9]) ti25 rfl rfl (hs.cells (i := 1) rfl)) rfl <| A1 rfl ?_
        obtain ⟨rv21, hrv21, hM⟩ := bindS hM
        refine CG rfl rfl rfl (by rw [hg14]; rfl) [Value.agg (List.toArray (α := Value) [v4, v5, v6])] cf15 rfl (dfa_Minimize_ok hrv21 hs.imm (⟨[v4], [v5], [v6], rfl, ⟨_, rfl, hRv4⟩, ⟨_, rfl, hRv5⟩, ⟨_, rfl, hRv6⟩⟩)) rfl ?_
        rintro v187 wv123 ⟨gg193, hvv187, hegg193⟩
        have hlegg193 := hegg193.le hs.imm
        replace hs := hs.call hegg193
        replace hRv7 := hRv7.mono hlegg193
        replace hRv8 := hRv8.mono hlegg193
        replace hRv9 := hRv9.mono hlegg193
        replace hagg90 := hagg90.trans hlegg193
        obtain ⟨cs83, rfl, hcs83⟩ := hvv187
        obtain ⟨cs84, cs85, cs86, rfl, hcs84, hcs85, hcs86⟩ := hcs83
        obtain ⟨v188, rfl, hRv188⟩ := hcs84
        obtain ⟨v189, rfl, hRv189⟩ := hcs85
        obtain ⟨v190, rfl, hRv190⟩ := hcs86
        refine OW_nil ?_
        replace hS := hS.to hagg90 hs
        refine ⟨fun _ => hS, ?_⟩
        refine A1 rfl ?_
        obtain ⟨rv22, hrv22, hM⟩ := bindS hM
        refine CG rfl rfl rfl (by rw [hg14]; rfl) [Value.agg (List.toArray (α := Value) [v188, v189, v190]), Value.agg (List.toArray (α := Value) [v7, v8, v9])] cf16 rfl (ref10_Same_ok hrv22 hs.imm (⟨[v188], [v189], [v190], rfl, ⟨_, rfl, hRv188⟩, ⟨_, rfl, hRv189⟩, ⟨_, rfl, hRv190⟩⟩) (⟨[v7], [v8], [v9], rfl, ⟨_, rfl, hRv7⟩, ⟨_, rfl, hRv8⟩, ⟨_, rfl, hRv9⟩⟩)) rfl ?_
        rintro v191 wv124 ⟨gg194, hvv191, hegg194⟩
        have hlegg194 := hegg194.le hs.imm
        replace hs := hs.call hegg194
        replace hRv7 := hRv7.mono hlegg194
        replace hRv8 := hRv8.mono hlegg194
        replace hRv9 := hRv9.mono hlegg194
        replace hagg90 := hagg90.trans hlegg194
        obtain ⟨cs87, rfl, hcs87⟩ := hvv191
        have hcs87 : cs87 = _ := hcs87; subst hcs87
        refine OW_nil ?_
        replace hS := hS.to hagg90 hs
        refine ⟨fun _ => hS, ?_⟩
        refine A rfl hS (fun w9 ⟨g9, hle9, hs⟩ => r_pickT (v := Value.bool rv22) rfl hg14 rfl) rfl <| A rfl hS (fun w9 ⟨g9, hle9, hs⟩ => r_move (v := Value.bool rv22) rfl) rfl ?_
        rcases condS hM with ⟨hg15, hM⟩ | ⟨hg15, hM⟩
        ·refine AG rfl rfl rfl rfl (by rw [hg15]; rfl) hS (fun w9 ⟨g9, hle9, hs⟩ => r_loadN (cs := [v7, v8, v9]) ti25 rfl rfl (hs.cells (i := 1) rfl)) rfl <| AG rfl rfl rfl rfl (by rw [hg15]; rfl) hS (fun w9 ⟨g9, hle9, hs⟩ => r_loadN (cs := [v7, v8, v9]) ti25 rfl rfl (hs.cells (i := 1) rfl)) rfl <| A1 rfl ?_
         obtain ⟨rv23, hrv23, hM⟩ := bindS hM
         refine CG rfl rfl rfl (by rw [hg15]; rfl) [Value.agg (List.toArray (α := Value) [v7, v8, v9])] cf15 rfl (dfa_Minimize_ok hrv23 hs.imm (⟨[v7], [v8], [v9], rfl, ⟨_, rfl, hRv7⟩, ⟨_, rfl, hRv8⟩, ⟨_, rfl, hRv9⟩⟩)) rfl ?_
         rintro v192 wv125 ⟨gg195, hvv192, hegg195⟩
         have hlegg195 := hegg195.le hs.imm
         replace hs := hs.call hegg195
         replace hRv7 := hRv7.mono hlegg195
         replace hRv8 := hRv8.mono hlegg195
         replace hRv9 := hRv9.mono hlegg195
         replace hagg90 := hagg90.trans hlegg195
         obtain ⟨cs88, rfl, hcs88⟩ := hvv192
         obtain ⟨cs89, cs90, cs91, rfl, hcs89, hcs90, hcs91⟩ := hcs88
         obtain ⟨v193, rfl, hRv193⟩ := hcs89
         obtain ⟨v194, rfl, hRv194⟩ := hcs90
         obtain ⟨v195, rfl, hRv195⟩ := hcs91
         refine OW_nil ?_
         replace hS := hS.to hagg90 hs
         refine ⟨fun _ => hS, ?_⟩
         refine A1 rfl ?_
         obtain ⟨rv24, hrv24, hM⟩ := bindS hM
         refine CG rfl rfl rfl (by rw [hg15]; rfl) [Value.agg (List.toArray (α := Value) [v193, v194, v195]), Value.agg (List.toArray (α := Value) [v7, v8, v9])] cf16 rfl (ref10_Same_ok hrv24 hs.imm (⟨[v193], [v194], [v195], rfl, ⟨_, rfl, hRv193⟩, ⟨_, rfl, hRv194⟩, ⟨_, rfl, hRv195⟩⟩) (⟨[v7], [v8], [v9], rfl, ⟨_, rfl, hRv7⟩, ⟨_, rfl, hRv8⟩, ⟨_, rfl, hRv9⟩⟩)) rfl ?_
         rintro v196 wv126 ⟨gg196, hvv196, hegg196⟩
         have hlegg196 := hegg196.le hs.imm
         replace hs := hs.call hegg196
         replace hagg90 := hagg90.trans hlegg196
         obtain ⟨cs92, rfl, hcs92⟩ := hvv196
         have hcs92 : cs92 = _ := hcs92; subst hcs92
         refine OW_nil ?_
         replace hS := hS.to hagg90 hs
         refine ⟨fun _ => hS, ?_⟩
         refine A rfl hS (fun w9 ⟨g9, hle9, hs⟩ => r_pickT (v := Value.bool rv24) rfl hg15 rfl) rfl <| A rfl hS (fun w9 ⟨g9, hle9, hs⟩ => r_move (v := Value.bool rv24) rfl) rfl ?_
         rcases condS hM with ⟨hg16, hM⟩ | ⟨hg16, hM⟩
         ·refine AG rfl rfl rfl rfl (by rw [hg16]; rfl) hS (fun w9 ⟨g9, hle9, hs⟩ => r_move (v := Value.bool rv2.2) rfl) rfl <| AG rfl rfl rfl rfl (by rw [hg16]; rfl) hS (fun w9 ⟨g9, hle9, hs⟩ => r_not rfl) rfl <| A rfl hS (fun w9 ⟨g9, hle9, hs⟩ => r_pickT (v := Value.bool (!rv2.2)) rfl hg16 rfl) rfl <| A rfl hS (fun w9 ⟨g9, hle9, hs⟩ => r_move (v := Value.bool (!rv2.2)) rfl) rfl ?_
          rcases condS hM with ⟨hg17, hM⟩ | ⟨hg17, hM⟩
          ·refine AG rfl rfl rfl rfl (by rw [hg17]; rfl) hS (fun w9 ⟨g9, hle9, hs⟩ => r_move (v := Value.bool xv2) rfl) rfl <| A rfl hS (fun w9 ⟨g9, hle9, hs⟩ => r_pickT (v := Value.bool xv2) rfl hg17 rfl) rfl <| A rfl hS (fun w9 ⟨g9, hle9, hs⟩ => r_move (v := Value.bool xv2) rfl) rfl ?_
           rcases condS hM with ⟨hg18, hM⟩ | ⟨hg18, hM⟩
           ·refine AG rfl rfl rfl rfl (by rw [hg18]; rfl) hS (fun w9 ⟨g9, hle9, hs⟩ => r_move (v := encS xv1) rfl) rfl <| AG rfl rfl rfl rfl (by rw [hg18]; rfl) hS (fun w9 ⟨g9, hle9, hs⟩ => r_eqlS rfl rfl) rfl <| A rfl hS (fun w9 ⟨g9, hle9, hs⟩ => r_pickT (v := Value.bool (xv1 == [97])) rfl hg18 rfl) rfl <| A rfl hS (fun w9 ⟨g9, hle9, hs⟩ => r_assign (v := Value.bool (xv1 == [97])) rfl) rfl <| AN ?_
            obtain rfl := Option.some.inj hM
            exact ⟨gg196, rfl, hds, hagg90, (hs.sub (.cons _ (.cons _ .slnil)))⟩
           ·refine AK rfl rfl rfl rfl (by rw [hg18]; rfl) hS rfl <| AK rfl rfl rfl rfl (by rw [hg18]; rfl) hS rfl <| A rfl hS (fun w9 ⟨g9, hle9, hs⟩ => r_pickF (v := Value.bool false) rfl hg18 rfl) rfl <| A rfl hS (fun w9 ⟨g9, hle9, hs⟩ => r_assign (v := Value.bool false) rfl) rfl <| AN ?_
            obtain rfl := Option.some.inj hM
            exact ⟨gg196, rfl, hds, hagg90, (hs.sub (.cons _ (.cons _ .slnil)))⟩
          ·refine AK rfl rfl rfl rfl (by rw [hg17]; rfl) hS rfl <| A rfl hS (fun w9 ⟨g9, hle9, hs⟩ => r_pickF (v := Value.bool false) rfl hg17 rfl) rfl <| A rfl hS (fun w9 ⟨g9, hle9, hs⟩ => r_move (v := Value.bool false) rfl) rfl <| AK rfl rfl rfl rfl rfl hS rfl <| AK rfl rfl rfl rfl rfl hS rfl <| A rfl hS (fun w9 ⟨g9, hle9, hs⟩ => r_pickF (v := Value.bool false) rfl rfl rfl) rfl <| A rfl hS (fun w9 ⟨g9, hle9, hs⟩ => r_assign (v := Value.bool false) rfl) rfl <| AN ?_
           obtain rfl := Option.some.inj hM
           exact ⟨gg196, rfl, hds, hagg90, (hs.sub (.cons _ (.cons _ .slnil)))⟩
         ·refine AK rfl rfl rfl rfl (by rw [hg16]; rfl) hS rfl <| AK rfl rfl rfl rfl (by rw [hg16]; rfl) hS rfl <| A rfl hS (fun w9 ⟨g9, hle9, hs⟩ => r_pickF (v := Value.bool false) rfl hg16 rfl) rfl <| A rfl hS (fun w9 ⟨g9, hle9, hs⟩ => r_move (v := Value.bool false) rfl) rfl <| AK rfl rfl rfl rfl rfl hS rfl <| A rfl hS (fun w9 ⟨g9, hle9, hs⟩ => r_pickF (v := Value.bool false) rfl rfl rfl) rfl <| A rfl hS (fun w9 ⟨g9, hle9, hs⟩ => r_move (v := Value.bool false) rfl) rfl <| AK rfl rfl rfl rfl rfl hS rfl <| AK rfl rfl rfl rfl rfl hS rfl <| A rfl hS (fun w9 ⟨g9, hle9, hs⟩ => r_pickF (v := Value.bool false) rfl rfl rfl) rfl <| A rfl hS (fun w9 ⟨g9, hle9, hs⟩ => r_assign (v := Value.bool false) rfl) rfl ?_
          refine AN ?_
          obtain rfl := Option.some.inj hM
          exact ⟨gg196, rfl, hds, hagg90, (hs.sub (.cons _ (.cons _ .slnil)))⟩
        ·refine AK rfl rfl rfl rfl (by rw [hg15]; rfl) hS rfl <| AK rfl rfl rfl rfl (by rw [hg15]; rfl) hS rfl <| A1 rfl <| OK rfl rfl rfl (by rw [hg15]; rfl) rfl <| OW_nil ⟨fun _ => hS, ?_⟩
         refine A1 rfl <| OK rfl rfl rfl (by rw [hg15]; rfl) rfl <| OW_nil ⟨fun _ => hS, ?_⟩
         refine A rfl hS (fun w9 ⟨g9, hle9, hs⟩ => r_pickF (v := Value.bool false) rfl hg15 rfl) rfl <| A rfl hS (fun w9 ⟨g9, hle9, hs⟩ => r_move (v := Value.bool false) rfl) rfl <| AK rfl rfl rfl rfl rfl hS rfl <| AK rfl rfl rfl rfl rfl hS rfl <| A rfl hS (fun w9 ⟨g9, hle9, hs⟩ => r_pickF (v := Value.bool false) rfl rfl rfl) rfl <| A rfl hS (fun w9 ⟨g9, hle9, hs⟩ => r_move (v := Value.bool false) rfl) rfl <| AK rfl rfl rfl rfl rfl hS rfl <| A rfl hS (fun w9 ⟨g9, hle9, hs⟩ => r_pickF (v := Value.bool false) rfl rfl rfl) rfl <| A rfl hS (fun w9 ⟨g9, hle9, hs⟩ => r_move (v := Value.bool false) rfl) rfl <| AK rfl rfl rfl rfl rfl hS rfl <| AK rfl rfl rfl rfl rfl hS rfl <| A rfl hS (fun w9 ⟨g9, hle9, hs⟩ => r_pickF (v := Value.bool false) rfl rfl rfl) rfl ?_
         refine A rfl hS (fun w9 ⟨g9, hle9, hs⟩ => r_assign (v := Value.bool false) rfl) rfl <| AN ?_
         obtain rfl := Option.some.inj hM
         exact ⟨gg194, rfl, hds, hagg90, (hs.sub (.cons _ (.cons _ .slnil)))⟩
       ·refine AK rfl rfl rfl rfl (by rw [hg14]; rfl) hS rfl <| AK rfl rfl rfl rfl (by rw [hg14]; rfl) hS rfl <| A1 rfl <| OK rfl rfl rfl (by rw [hg14]; rfl) rfl <| OW_nil ⟨fun _ => hS, ?_⟩
        refine A1 rfl <| OK rfl rfl rfl (by rw [hg14]; rfl) rfl <| OW_nil ⟨fun _ => hS, ?_⟩
        refine A rfl hS (fun w9 ⟨g9, hle9, hs⟩ => r_pickF (v := Value.bool false) rfl hg14 rfl) rfl <| A rfl hS (fun w9 ⟨g9, hle9, hs⟩ => r_move (v := Value.bool false) rfl) rfl <| AK rfl rfl rfl rfl rfl hS rfl <| AK rfl rfl rfl rfl rfl hS rfl <| A1 rfl <| OK rfl rfl rfl rfl rfl <| OW_nil ⟨fun _ => hS, ?_⟩
        refine A1 rfl <| OK rfl rfl rfl rfl rfl <| OW_nil ⟨fun _ => hS, ?_⟩
        refine A rfl hS (fun w9 ⟨g9, hle9, hs⟩ => r_pickF (v := Value.bool false) rfl rfl rfl) rfl <| A rfl hS (fun w9 ⟨g9, hle9, hs⟩ => r_move (v := Value.bool false) rfl) rfl <| AK rfl rfl rfl rfl rfl hS rfl <| AK rfl rfl rfl rfl rfl hS rfl <| A rfl hS (fun w9 ⟨g9, hle9, hs⟩ => r_pickF (v := Value.bool false) rfl rfl rfl) rfl <| A rfl hS (fun w9 ⟨g9, hle9, hs⟩ => r_move (v := Value.bool false) rfl) rfl <| AK rfl rfl rfl rfl rfl hS rfl <| A rfl hS (fun w9 ⟨g9, hle9, hs⟩ => r_pickF (v := Value.bool false) rfl rfl rfl) rfl <| A rfl hS (fun w9 ⟨g9, hle9, hs⟩ => r_move (v := Value.bool false) rfl) rfl <| AK rfl rfl rfl rfl rfl hS rfl <| AK rfl rfl rfl rfl rfl hS rfl <| A rfl hS (fun w9 ⟨g9, hle9, hs⟩ => r_pickF (v := Value.bool false) rfl rfl rfl) rfl ?_
        refine A rfl hS (fun w9 ⟨g9, hle9, hs⟩ => r_assign (v := Value.bool false) rfl) rfl <| AN ?_
        obtain rfl := Option.some.inj hM
        exact ⟨gg192, rfl, hds, hagg90, (hs.sub (.cons _ (.cons _ .slnil)))⟩
      ·refine AK rfl rfl rfl rfl (by rw [hg13]; rfl) hS rfl <| A1 rfl <| OK rfl rfl rfl (by rw [hg13]; rfl) rfl <| OW_nil ⟨fun _ => hS, ?_⟩
       refine AK rfl rfl rfl rfl (by rw [hg13]; rfl) hS rfl <| A rfl hS (fun w9 ⟨g9, hle9, hs⟩ => r_pickF (v := Value.bool false) rfl hg13 rfl) rfl <| A rfl hS (fun w9 ⟨g9, hle9, hs⟩ => r_move (v := Value.bool false) rfl) rfl <| AK rfl rfl rfl rfl rfl hS rfl <| AK rfl rfl rfl rfl rfl hS rfl <| A1 rfl <| OK rfl rfl rfl rfl rfl <| OW_nil ⟨fun _ => hS, ?_⟩
       refine A1 rfl <| OK rfl rfl rfl rfl rfl <| OW_nil ⟨fun _ => hS, ?_⟩
       refine A rfl hS (fun w9 ⟨g9, hle9, hs⟩ => r_pickF (v := Value.bool false) rfl rfl rfl) rfl <| A rfl hS (fun w9 ⟨g9, hle9, hs⟩ => r_move (v := Value.bool false) rfl) rfl <| AK rfl rfl rfl rfl rfl hS rfl <| AK rfl rfl rfl rfl rfl hS rfl <| A1 rfl <| OK rfl rfl rfl rfl rfl <| OW_nil ⟨fun _ => hS, ?_⟩
       refine A1 rfl <| OK rfl rfl rfl rfl rfl <| OW_nil ⟨fun _ => hS, ?_⟩
       refine A rfl hS (fun w9 ⟨g9, hle9, hs⟩ => r_pickF (v := Value.bool false) rfl rfl rfl) rfl <| A rfl hS (fun w9 ⟨g9, hle9, hs⟩ => r_move (v := Value.bool false) rfl) rfl <| AK rfl rfl rfl rfl rfl hS rfl <| AK rfl rfl rfl rfl rfl hS rfl <| A rfl hS (fun w9 ⟨g9, hle9, hs⟩ => r_pickF (v := Value.bool false) rfl rfl rfl) rfl <| A rfl hS (fun w9 ⟨g9, hle9, hs⟩ => r_move (v := Value.bool false) rfl) rfl <| AK rfl rfl rfl rfl rfl hS rfl <| A rfl hS (fun w9 ⟨g9, hle9, hs⟩ => r_pickF (v := Value.bool false) rfl rfl rfl) rfl <| A rfl hS (fun w9 ⟨g9, hle9, hs⟩ => r_move (v := Value.bool false) rfl) rfl <| AK rfl rfl rfl rfl rfl hS rfl <| AK rfl rfl rfl rfl rfl hS rfl <| A rfl hS (fun w9 ⟨g9, hle9, hs⟩ => r_pickF (v := Value.bool false) rfl rfl rfl) rfl ?_
       refine A rfl hS (fun w9 ⟨g9, hle9, hs⟩ => r_assign (v := Value.bool false) rfl) rfl <| AN ?_
       obtain rfl := Option.some.inj hM
       exact ⟨gg191, rfl, hds, hagg90, (hs.sub (.cons _ (.cons _ .slnil)))⟩
     ·refine AK rfl rfl rfl rfl (by rw [hg12]; rfl) hS rfl <| A1 rfl <| OK rfl rfl rfl (by rw [hg12]; rfl) rfl <| OW_nil ⟨fun _ => hS, ?_⟩
      refine AK rfl rfl rfl rfl (by rw [hg12]; rfl) hS rfl <| A rfl hS (fun w9 ⟨g9, hle9, hs⟩ => r_pickF (v := Value.bool false) rfl hg12 rfl) rfl <| A rfl hS (fun w9 ⟨g9, hle9, hs⟩ => r_move (v := Value.bool false) rfl) rfl <| AK rfl rfl rfl rfl rfl hS rfl <| A1 rfl <| OK rfl rfl rfl rfl rfl <| OW_nil ⟨fun _ => hS, ?_⟩
      refine AK rfl rfl rfl rfl rfl hS rfl <| A rfl hS (fun w9 ⟨g9, hle9, hs⟩ => r_pickF (v := Value.bool false) rfl rfl rfl) rfl <| A rfl hS (fun w9 ⟨g9, hle9, hs⟩ => r_move (v := Value.bool false) rfl) rfl <| AK rfl rfl rfl rfl rfl hS rfl <| AK rfl rfl rfl rfl rfl hS rfl <| A1 rfl <| OK rfl rfl rfl rfl rfl <| OW_nil ⟨fun _ => hS, ?_⟩
      refine A1 rfl <| OK rfl rfl rfl rfl rfl <| OW_nil ⟨fun _ => hS, ?_⟩
      refine A rfl hS (fun w9 ⟨g9, hle9, hs⟩ => r_pickF (v := Value.bool false) rfl rfl rfl) rfl <| A rfl hS (fun w9 ⟨g9, hle9, hs⟩ => r_move (v := Value.bool false) rfl) rfl <| AK rfl rfl rfl rfl rfl hS rfl <| AK rfl rfl rfl rfl rfl hS rfl <| A1 rfl <| OK rfl rfl rfl rfl rfl <| OW_nil ⟨fun _ => hS, ?_⟩
      refine A1 rfl <| OK rfl rfl rfl rfl rfl <| OW_nil ⟨fun _ => hS, ?_⟩
      refine A rfl hS (fun w9 ⟨g9, hle9, hs⟩ => r_pickF (v := Value.bool false) rfl rfl rfl) rfl <| A rfl hS (fun w9 ⟨g9, hle9, hs⟩ => r_move (v := Value.bool false) rfl) rfl <| AK rfl rfl rfl rfl rfl hS rfl <| AK rfl rfl rfl rfl rfl hS rfl <| A rfl hS (fun w9 ⟨g9, hle9, hs⟩ => r_pickF (v := Value.bool false) rfl rfl rfl) rfl <| A rfl hS (fun w9 ⟨g9, hle9, hs⟩ => r_move (v := Value.bool false) rfl) rfl <| AK rfl rfl rfl rfl rfl hS rfl <| A rfl hS (fun w9 ⟨g9, hle9, hs⟩ => r_pickF (v := Value.bool false) rfl rfl rfl) rfl <| A rfl hS (fun w9 ⟨g9, hle9, hs⟩ => r_move (v := Value.bool false) rfl) rfl <| AK rfl rfl rfl rfl rfl hS rfl <| AK rfl rfl rfl rfl rfl hS rfl <| A rfl hS (fun w9 ⟨g9, hle9, hs⟩ => r_pickF (v := Value.bool false) rfl rfl rfl) rfl ?_
      refine A rfl hS (fun w9 ⟨g9, hle9, hs⟩ => r_assign (v := Value.bool false) rfl) rfl <| AN ?_
      obtain rfl := Option.some.inj hM
      exact ⟨gg190, rfl, hds, hagg90, (hs.sub (.cons _ (.cons _ .slnil)))⟩
    ·refine AK rfl rfl rfl rfl (by rw [hg11]; rfl) hS rfl <| A1 rfl <| OK rfl rfl rfl (by rw [hg11]; rfl) rfl <| OW_nil ⟨fun _ => hS, ?_⟩
     refine AK rfl rfl rfl rfl (by rw [hg11]; rfl) hS rfl <| A rfl hS (fun w9 ⟨g9, hle9, hs⟩ => r_pickF (v := Value.bool false) rfl hg11 rfl) rfl <| A rfl hS (fun w9 ⟨g9, hle9, hs⟩ => r_move (v := Value.bool false) rfl) rfl <| AK rfl rfl rfl rfl rfl hS rfl <| A1 rfl <| OK rfl rfl rfl rfl rfl <| OW_nil ⟨fun _ => hS, ?_⟩
     refine AK rfl rfl rfl rfl rfl hS rfl <| A rfl hS (fun w9 ⟨g9, hle9, hs⟩ => r_pickF (v := Value.bool false) rfl rfl rfl) rfl <| A rfl hS (fun w9 ⟨g9, hle9, hs⟩ => r_move (v := Value.bool false) rfl) rfl <| AK rfl rfl rfl rfl rfl hS rfl <| A1 rfl <| OK rfl rfl rfl rfl rfl <| OW_nil ⟨fun _ => hS, ?_⟩
     refine AK rfl rfl rfl rfl rfl hS rfl <| A rfl hS (fun w9 ⟨g9, hle9, hs⟩ => r_pickF (v := Value.bool false) rfl rfl rfl) rfl <| A rfl hS (fun w9 ⟨g9, hle9, hs⟩ => r_move (v := Value.bool false) rfl) rfl <| AK rfl rfl rfl rfl rfl hS rfl <| AK rfl rfl rfl rfl rfl hS rfl <| A1 rfl <| OK rfl rfl rfl rfl rfl <| OW_nil ⟨fun _ => hS, ?_⟩
     refine A1 rfl <| OK rfl rfl rfl rfl rfl <| OW_nil ⟨fun _ => hS, ?_⟩
     refine A rfl hS (fun w9 ⟨g9, hle9, hs⟩ => r_pickF (v := Value.bool false) rfl rfl rfl) rfl <| A rfl hS (fun w9 ⟨g9, hle9, hs⟩ => r_move (v := Value.bool false) rfl) rfl <| AK rfl rfl rfl rfl rfl hS rfl <| AK rfl rfl rfl rfl rfl hS rfl <| A1 rfl <| OK rfl rfl rfl rfl rfl <| OW_nil ⟨fun _ => hS, ?_⟩
     refine A1 rfl <| OK rfl rfl rfl rfl rfl <| OW_nil ⟨fun _ => hS, ?_⟩
     refine A rfl hS (fun w9 ⟨g9, hle9, hs⟩ => r_pickF (v := Value.bool false) rfl rfl rfl) rfl <| A rfl hS (fun w9 ⟨g9, hle9, hs⟩ => r_move (v := Value.bool false) rfl) rfl <| AK rfl rfl rfl rfl rfl hS rfl <| AK rfl rfl rfl rfl rfl hS rfl <| A rfl hS (fun w9 ⟨g9, hle9, hs⟩ => r_pickF (v := Value.bool false) rfl rfl rfl) rfl <| A rfl hS (fun w9 ⟨g9, hle9, hs⟩ => r_move (v := Value.bool false) rfl) rfl <| AK rfl rfl rfl rfl rfl hS rfl <| A rfl hS (fun w9 ⟨g9, hle9, hs⟩ => r_pickF (v := Value.bool false) rfl rfl rfl) rfl <| A rfl hS (fun w9 ⟨g9, hle9, hs⟩ => r_move (v := Value.bool false) rfl) rfl <| AK rfl rfl rfl rfl rfl hS rfl <| AK rfl rfl rfl rfl rfl hS rfl <| A rfl hS (fun w9 ⟨g9, hle9, hs⟩ => r_pickF (v := Value.bool false) rfl rfl rfl) rfl ?_
     refine A rfl hS (fun w9 ⟨g9, hle9, hs⟩ => r_assign (v := Value.bool false) rfl) rfl <| AN ?_
     obtain rfl := Option.some.inj hM
     exact ⟨gg189, rfl, hds, hagg90, (hs.sub (.cons _ (.cons _ .slnil)))⟩
   ·refine AK rfl rfl rfl rfl (by rw [hg10]; rfl) hS rfl <| A1 rfl <| OK rfl rfl rfl (by rw [hg10]; rfl) rfl <| OW_nil ⟨fun _ => hS, ?_⟩
    refine AK rfl rfl rfl rfl (by rw [hg10]; rfl) hS rfl <| A rfl hS (fun w9 ⟨g9, hle9, hs⟩ => r_pickF (v := Value.bool false) rfl hg10 rfl) rfl <| A rfl hS (fun w9 ⟨g9, hle9, hs⟩ => r_move (v := Value.bool false) rfl) rfl <| AK rfl rfl rfl rfl rfl hS rfl <| A1 rfl <| OK rfl rfl rfl rfl rfl <| OW_nil ⟨fun _ => hS, ?_⟩
    refine AK rfl rfl rfl rfl rfl hS rfl <| A rfl hS (fun w9 ⟨g9, hle9, hs⟩ => r_pickF (v := Value.bool false) rfl rfl rfl) rfl <| A rfl hS (fun w9 ⟨g9, hle9, hs⟩ => r_move (v := Value.bool false) rfl) rfl <| AK rfl rfl rfl rfl rfl hS rfl <| A1 rfl <| OK rfl rfl rfl rfl rfl <| OW_nil ⟨fun _ => hS, ?_⟩
    refine AK rfl rfl rfl rfl rfl hS rfl <| A rfl hS (fun w9 ⟨g9, hle9, hs⟩ => r_pickF (v := Value.bool false) rfl rfl rfl) rfl <| A rfl hS (fun w9 ⟨g9, hle9, hs⟩ => r_move (v := Value.bool false) rfl) rfl <| AK rfl rfl rfl rfl rfl hS rfl <| A1 rfl <| OK rfl rfl rfl rfl rfl <| OW_nil ⟨fun _ => hS, ?_⟩
    refine AK rfl rfl rfl rfl rfl hS rfl <| A rfl hS (fun w9 ⟨g9, hle9, hs⟩ => r_pickF (v := Value.bool false) rfl rfl rfl) rfl <| A rfl hS (fun w9 ⟨g9, hle9, hs⟩ => r_move (v := Value.bool false) rfl) rfl <| AK rfl rfl rfl rfl rfl hS rfl <| AK rfl rfl rfl rfl rfl hS rfl <| A1 rfl <| OK rfl rfl rfl rfl rfl <| OW_nil ⟨fun _ => hS, ?_⟩
    refine A1 rfl <| OK rfl rfl rfl rfl rfl <| OW_nil ⟨fun _ => hS, ?_⟩
    refine A rfl hS (fun w9 ⟨g9, hle9, hs⟩ => r_pickF (v := Value.bool false) rfl rfl rfl) rfl <| A rfl hS (fun w9 ⟨g9, hle9, hs⟩ => r_move (v := Value.bool false) rfl) rfl <| AK rfl rfl rfl rfl rfl hS rfl <| AK rfl rfl rfl rfl rfl hS rfl <| A1 rfl <| OK rfl rfl rfl rfl rfl <| OW_nil ⟨fun _ => hS, ?_⟩
    refine A1 rfl <| OK rfl rfl rfl rfl rfl <| OW_nil ⟨fun _ => hS, ?_⟩
    refine A rfl hS (fun w9 ⟨g9, hle9, hs⟩ => r_pickF (v := Value.bool false) rfl rfl rfl) rfl <| A rfl hS (fun w9 ⟨g9, hle9, hs⟩ => r_move (v := Value.bool false) rfl) rfl <| AK rfl rfl rfl rfl rfl hS rfl <| AK rfl rfl rfl rfl rfl hS rfl <| A rfl hS (fun w9 ⟨g9, hle9, hs⟩ => r_pickF (v := Value.bool false) rfl rfl rfl) rfl <| A rfl hS (fun w9 ⟨g9, hle9, hs⟩ => r_move (v := Value.bool false) rfl) rfl <| AK rfl rfl rfl rfl rfl hS rfl <| A rfl hS (fun w9 ⟨g9, hle9, hs⟩ => r_pickF (v := Value.bool false) rfl rfl rfl) rfl <| A rfl hS (fun w9 ⟨g9, hle9, hs⟩ => r_move (v := Value.bool false) rfl) rfl <| AK rfl rfl rfl rfl rfl hS rfl <| AK rfl rfl rfl rfl rfl hS rfl <| A rfl hS (fun w9 ⟨g9, hle9, hs⟩ => r_pickF (v := Value.bool false) rfl rfl rfl) rfl ?_
    refine A rfl hS (fun w9 ⟨g9, hle9, hs⟩ => r_assign (v := Value.bool false) rfl) rfl <| AN ?_
    obtain rfl := Option.some.inj hM
    exact ⟨gg188, rfl, hds, hagg90, (hs.sub (.cons _ (.cons _ .slnil)))⟩
  ·clear hs
   rintro E w ⟨gg187, hE0, hds, hlegg187, hs⟩
   have hM := hKhx2
   obtain ⟨E, rfl⟩ := open1 (E := E) hE0
   refine WP_ret ?_
   obtain rfl := Option.some.inj hM
   refine FL_nil hds ?_
   exact ⟨_, res1 Try.results9 (rv_tmp (v := Value.bool xv3) rfl), gg187, ⟨[Value.bool xv3], rfl, rfl⟩, hs.ext⟩

set_option maxRecDepth 100000 in
theorem nfa_Valid_1_ok {s1 : Int} {c1 : T_NFA} {r : Bool} (hM : M.nfa_Valid_1 s1 c1 = some r) {g0 : Hp} {w0 : World} (hi : Imm g0 w0) {b1 : Nat} {cs1 : List Value} (hBb1 : IBox 41 b1 cs1 g0) (hcs1 : tT_NFA.rel g0 cs1 c1) :
    CallsV Try.prog 58 #[Value.int .i64 s1, Value.pointer (some ⟨b1, 0, none⟩)] w0 (fun v w' => ∃ g', (VRd tBool false g' v r) ∧ Ext g0 w0 g' w') := by
 unfold M.nfa_Valid_1 at hM
 obtain ⟨cs2, cs3, cs4, cs5, rfl, hcs2, hcs3, hcs4, hcs5⟩ := hcs1
 have hcs2 : cs2 = _ := hcs2; subst hcs2
 have hcs3 : cs3 = _ := hcs3; subst hcs3
 obtain ⟨v1, rfl, hRv1⟩ := hcs4
 obtain ⟨v2, rfl, hRv2⟩ := hcs5
 have hs := Sep.start hi
 refine calls_of_WP (args := [Value.int .i64 s1, Value.pointer (some ⟨b1, 0, none⟩)]) Try.func58 rfl Try.ntmps58 rfl ?_
 have hds : (argEnv [Value.int .i64 s1, Value.pointer (some ⟨b1, 0, none⟩)]).ds = [] := rfl
 refine WP_seq <| WP_region <| O (r_assign (v := Value.bool false) rfl) rfl <| OW_nil ?_
 obtain ⟨xv1, hx1, hKhx1⟩ := bindS hM
 refine WP_cut (fun E w => E 3 = Value.bool xv1 ∧ E.ds = [] ∧ Go.Lx.Sep g0 w0 g0 w []) ?_ ?_
 ·have hM := hx1
  have hag0 := Hle.refl g0
  refine WP_region <| O (r_move (v := Value.int .i64 s1) rfl) rfl <| O (r_geq rfl rfl) rfl <| O (r_move (v := Value.bool (decide (0 ≤ s1))) rfl) rfl ?_
  rcases condS hM with ⟨hg2, hM⟩ | ⟨hg2, hM⟩
  ·refine OG rfl rfl rfl (by rw [hg2]; rfl) (r_move (v := Value.int .i64 s1) rfl) rfl <| OG rfl rfl rfl (by rw [hg2]; rfl) (r_fieldAddr Try.underlying41 ti3 rfl rfl (by decide) rfl rfl) rfl <| OG rfl rfl rfl (by rw [hg2]; rfl) (r_loadEl (o := 0) (cs := [Value.int .i64 c1.States]) ti3 rfl rfl (.inr rfl) (elemField (cs := [Value.int .i64 c1.States, Value.int .i64 c1.Start, v1, v2]) (hBb1.cells hs.imm) ([]) ([Value.int .i64 c1.States]) ([Value.int .i64 c1.Start, v1, v2]) rfl rfl) (v := Value.int .i64 c1.States) rfl) rfl <| OG rfl rfl rfl (by rw [hg2]; rfl) (r_lss rfl rfl) rfl <| O (r_pickT (v := Value.bool (decide (s1 < c1.States))) rfl hg2 rfl) rfl <| O (r_assign (v := Value.bool (decide (s1 < c1.States))) rfl) rfl ?_
   refine OW_nil ?_
   obtain rfl := Option.some.inj hM
   exact ⟨rfl, hds, hs⟩
  ·refine OK rfl rfl rfl (by rw [hg2]; rfl) rfl <| OK rfl rfl rfl (by rw [hg2]; rfl) rfl <| OK rfl rfl rfl (by rw [hg2]; rfl) rfl <| OK rfl rfl rfl (by rw [hg2]; rfl) rfl <| O (r_pickF (v := Value.bool false) rfl hg2 rfl) rfl <| O (r_assign (v := Value.bool false) rfl) rfl <| OW_nil ?_
   obtain rfl := Option.some.inj hM
   exact ⟨rfl, hds, hs⟩
 ·clear hs
  rintro E w ⟨hE3, hds, hs⟩
  have hM := hKhx1
  obtain ⟨E, rfl⟩ := open1 (E := E) hE3
  refine WP_ret ?_
  obtain rfl := Option.some.inj hM
  refine FL_nil hds ?_
  exact ⟨_, res1 Try.results58 (rv_tmp (v := Value.bool xv1) rfl), g0, ⟨[Value.bool xv1], rfl, rfl⟩, hs.ext⟩

set_option maxRecDepth 100000 in
theorem nfa_Valid_2_ok {xv1 : Int} {r : Bool} (hM : M.nfa_Valid_2 xv1 = some r) {g0 : Hp} {w0 : World} (hi : Imm g0 w0) :
    CallsV Try.prog 59 #[Value.int .i64 xv1] w0 (fun v w' => ∃ g', (VRd tBool false g' v r) ∧ Ext g0 w0 g' w') := by
 unfold M.nfa_Valid_2 at hM
 have hs := Sep.start hi
 refine calls_of_WP (args := [Value.int .i64 xv1]) Try.func59 rfl Try.ntmps59 rfl ?_
 have hds : (argEnv [Value.int .i64 xv1]).ds = [] := rfl
 refine WP_seq <| WP_region <| O (r_assign (v := Value.bool false) rfl) rfl <| OW_nil <| WP_seq <| WP_region <| O (r_move (v := Value.int .i64 xv1) rfl) rfl <| O (r_lss rfl rfl) rfl <| O (r_assign (v := Value.bool (decide (xv1 < (-1)))) rfl) rfl <| OW_nil <| WP_ret ?_
 obtain rfl := Option.some.inj hM
 refine FL_nil hds ?_
 exact ⟨_, res1 Try.results59 (rv_tmp (v := Value.bool (decide (xv1 < (-1)))) rfl), g0, ⟨[Value.bool (decide (xv1 < (-1)))], rfl, rfl⟩, hs.ext⟩

set_option maxRecDepth 100000 in
theorem nfa_Valid_ok {nv1 : T_NFA} {r : Bool} (hM : M.nfa_Valid nv1 = some r) {g0 : Hp} {w0 : World} (hi : Imm g0 w0) {cs1 : List Value} (hcs1 : tT_NFA.rel g0 cs1 nv1) :
    CallsV Try.prog 39 #[Value.agg cs1.toArray] w0 (fun v w' => ∃ g', (VRd tBool false g' v r) ∧ Ext g0 w0 g' w') := by
 unfold M.nfa_Valid at hM
 obtain ⟨cs2, cs3, cs4, cs5, rfl, hcs2, hcs3, hcs4, hcs5⟩ := hcs1
 have hcs2 : cs2 = _ := hcs2; subst hcs2
 have hcs3 : cs3 = _ := hcs3; subst hcs3
 obtain ⟨v1, rfl, hRv1⟩ := hcs4
 obtain ⟨v2, rfl, hRv2⟩ := hcs5
 have hs := Sep.start hi
 refine calls_of_WP (args := [Value.agg (List.toArray (α := Value) [Value.int .i64 nv1.States, Value.int .i64 nv1.Start, v1, v2])]) Try.func39 rfl Try.ntmps39 rfl ?_
 have hds : (argEnv [Value.agg (List.toArray (α := Value) [Value.int .i64 nv1.States, Value.int .i64 nv1.Start, v1, v2])]).ds = [] := rfl
 refine WP_seq <| WP_region <| OW_box (v := Value.agg (List.toArray (α := Value) [Value.int .i64 nv1.States, Value.int .i64 nv1.Start, v1, v2])) rfl hs (zs := [Value.int .i64 nv1.States, Value.int .i64 nv1.Start, v1, v2]) rfl rfl ?_
 intro b1 wv1 hs
 refine O (r_assign (v := Value.bool false) rfl) rfl <| OW_nil <| WP_seq <| WP_region <| O (r_makeFunc (vs := [Value.pointer (some ⟨b1, 0, none⟩)]) rfl) rfl <| O (r_assign (v := Value.func (.func 58) #[] (List.toArray [Value.pointer (some ⟨b1, 0, none⟩)])) rfl) rfl <| OW_nil <| WP_seq ?_
 obtain ⟨xv1, hx1, hKhx1⟩ := bindS hM
 refine WP_cut (fun E w => ∃ (gg4 : Hp), E 1 = Value.pointer (some ⟨b1, 0, none⟩) ∧ E 3 = Value.func (.func 58) #[] (List.toArray [Value.pointer (some ⟨b1, 0, none⟩)]) ∧ E 29 = Value.bool xv1 ∧ E.ds = [] ∧ Hle g0 gg4 ∧ Go.Lx.Sep g0 w0 gg4 w [Go.Lx.box b1 41 ([Value.int .i64 nv1.States, Value.int .i64 nv1.Start, v1, v2])]) ?_ ?_
 ·have hM := hx1
  have hag0 := Hle.refl g0
  refine WP_region <| O (r_fieldAddr Try.underlying41 ti3 rfl rfl (by decide) rfl rfl) rfl <| O (r_load (v := Value.int .i64 nv1.States) ti3 rfl (hs.cell (i := 0) (o := 0) rfl rfl)) rfl <| O (r_lss rfl rfl) rfl <| O (r_move (v := Value.bool (decide (nv1.States < 1))) rfl) rfl ?_
  rcases condS hM with ⟨hg4, hM⟩ | ⟨hg4, hM⟩
  ·refine OK rfl rfl rfl (by rw [hg4]; rfl) rfl <| OK rfl rfl rfl (by rw [hg4]; rfl) rfl <| OK rfl rfl rfl (by rw [hg4]; rfl) rfl <| O (r_pickT (v := Value.bool true) rfl hg4 rfl) rfl <| O (r_move (v := Value.bool true) rfl) rfl <| OK rfl rfl rfl rfl rfl <| OK rfl rfl rfl rfl rfl <| OK rfl rfl rfl rfl rfl <| OK rfl rfl rfl rfl rfl <| OK rfl rfl rfl rfl rfl <| O (r_pickT (v := Value.bool true) rfl rfl rfl) rfl <| O (r_move (v := Value.bool true) rfl) rfl <| OK rfl rfl rfl rfl rfl <| OK rfl rfl rfl rfl rfl <| OK rfl rfl rfl rfl rfl <| OK rfl rfl rfl rfl rfl <| OK rfl rfl rfl rfl rfl <| OK rfl rfl rfl rfl rfl <| O (r_pickT (v := Value.bool true) rfl rfl rfl) rfl <| OW_nil ?_
   obtain rfl := Option.some.inj hM
   exact ⟨g0, rfl, rfl, rfl, hds, (Hle.refl _), hs⟩
  ·refine OG rfl rfl rfl (by rw [hg4]; rfl) (r_fieldAddr Try.underlying41 ti3 rfl rfl (by decide) rfl rfl) rfl <| OG rfl rfl rfl (by rw [hg4]; rfl) (r_load (v := Value.int .i64 nv1.States) ti3 rfl (hs.cell (i := 0) (o := 0) rfl rfl)) rfl <| OG rfl rfl rfl (by rw [hg4]; rfl) (r_gtr rfl rfl) rfl <| O (r_pickF (v := Value.bool (decide (2000 < nv1.States))) rfl hg4 rfl) rfl <| O (r_move (v := Value.bool (decide (2000 < nv1.States))) rfl) rfl ?_
   rcases condS hM with ⟨hg5, hM⟩ | ⟨hg5, hM⟩
   ·refine OK rfl rfl rfl (by rw [hg5]; rfl) rfl <| OK rfl rfl rfl (by rw [hg5]; rfl) rfl <| OK rfl rfl rfl (by rw [hg5]; rfl) rfl <| OK rfl rfl rfl (by rw [hg5]; rfl) rfl <| OK rfl rfl rfl (by rw [hg5]; rfl) rfl <| O (r_pickT (v := Value.bool true) rfl hg5 rfl) rfl <| O (r_move (v := Value.bool true) rfl) rfl <| OK rfl rfl rfl rfl rfl <| OK rfl rfl rfl rfl rfl <| OK rfl rfl rfl rfl rfl <| OK rfl rfl rfl rfl rfl <| OK rfl rfl rfl rfl rfl <| OK rfl rfl rfl rfl rfl <| O (r_pickT (v := Value.bool true) rfl rfl rfl) rfl <| OW_nil ?_
    obtain rfl := Option.some.inj hM
    exact ⟨g0, rfl, rfl, rfl, hds, (Hle.refl _), hs⟩
   ·refine OG rfl rfl rfl (by rw [hg5]; rfl) (r_move (v := Value.func (.func 58) #[] (List.toArray [Value.pointer (some ⟨b1, 0, none⟩)])) rfl) rfl <| OG rfl rfl rfl (by rw [hg5]; rfl) (r_fieldAddr Try.underlying41 ti3 rfl rfl (by decide) rfl rfl) rfl <| OG rfl rfl rfl (by rw [hg5]; rfl) (r_load (v := Value.int .i64 nv1.Start) ti3 rfl (hs.cell (i := 0) (o := 1) rfl rfl)) rfl ?_
    have hsL2 := hs
    have hRv2L2 := hRv2
    have hag0L2 := hag0
    obtain ⟨gg5, hlegg5, hBgg5, hs⟩ := hs.relBox (i := 0) rfl
    replace hRv1 := hRv1.mono hlegg5
    replace hRv2 := hRv2.mono hlegg5
    replace hag0 := hag0.trans hlegg5
    obtain ⟨rv2, hrv2, hM⟩ := bindS hM
    refine CVG rfl rfl rfl (by rw [hg5]; rfl) [Value.int .i64 nv1.Start] [Value.pointer (some ⟨b1, 0, none⟩)] cf58 rfl rfl (nfa_Valid_1_ok hrv2 hs.imm hBgg5 (⟨[Value.int .i64 nv1.States], [Value.int .i64 nv1.Start], [v1], [v2], rfl, rfl, rfl, ⟨_, rfl, hRv1⟩, ⟨_, rfl, hRv2⟩⟩)) rfl ?_
    rintro v4 wv3 ⟨gg6, hvv4, hegg6⟩
    obtain ⟨gg7, hlegg7, hs⟩ := hsL2.lent hegg6
    replace hRv2 := hRv2L2.mono hlegg7
    replace hag0 := hag0L2.trans hlegg7
    obtain ⟨cs7, rfl, hcs7⟩ := hvv4
    have hcs7 : cs7 = _ := hcs7; subst hcs7
    refine OG rfl rfl rfl (by rw [hg5]; rfl) (r_not rfl) rfl <| O (r_pickF (v := Value.bool (!rv2)) rfl hg5 rfl) rfl <| O (r_move (v := Value.bool (!rv2)) rfl) rfl ?_
    rcases condS hM with ⟨hg6, hM⟩ | ⟨hg6, hM⟩
    ·refine OK rfl rfl rfl (by rw [hg6]; rfl) rfl <| OK rfl rfl rfl (by rw [hg6]; rfl) rfl <| OK rfl rfl rfl (by rw [hg6]; rfl) rfl <| OK rfl rfl rfl (by rw [hg6]; rfl) rfl <| OK rfl rfl rfl (by rw [hg6]; rfl) rfl <| OK rfl rfl rfl (by rw [hg6]; rfl) rfl <| O (r_pickT (v := Value.bool true) rfl hg6 rfl) rfl <| OW_nil ?_
     obtain rfl := Option.some.inj hM
     exact ⟨gg7, rfl, rfl, rfl, hds, hag0, hs⟩
    ·refine OG rfl rfl rfl (by rw [hg6]; rfl) (r_fieldAddr Try.underlying41 ti22 rfl rfl (by decide) rfl rfl) rfl <| OG rfl rfl rfl (by rw [hg6]; rfl) (r_load (v := v2) ti22 rfl (hs.cell (i := 0) (o := 3) rfl rfl)) rfl ?_
     obtain ⟨a2, ca2, hva2⟩ := hRv2.shape
     refine OG rfl rfl rfl (by rw [hg6]; rfl) (r_lenSl (v := v2) Try.underlying22 rfl hva2) rfl <| OG rfl rfl rfl (by rw [hg6]; rfl) (r_fieldAddr Try.underlying41 ti3 rfl rfl (by decide) rfl rfl) rfl <| OG rfl rfl rfl (by rw [hg6]; rfl) (r_load (v := Value.int .i64 nv1.States) ti3 rfl (hs.cell (i := 0) (o := 0) rfl rfl)) rfl <| OG rfl rfl rfl (by rw [hg6]; rfl) (r_neq rfl rfl) rfl <| O (r_pickF (v := Value.bool ((nv1.Accept.length : Int) != nv1.States)) rfl hg6 rfl) rfl <| OW_nil ?_
     obtain rfl := Option.some.inj hM
     exact ⟨gg7, rfl, rfl, rfl, hds, hag0, hs⟩
 ·clear hs
  rintro E w ⟨gg4, hE1, hE3, hE29, hds, hlegg4, hs⟩
  have hM := hKhx1
  obtain ⟨E, rfl⟩ := open3 (E := E) hE1 hE3 hE29
  replace hRv1 := hRv1.mono hlegg4
  replace hRv2 := hRv2.mono hlegg4
  rcases condS hM with ⟨hc1, hM⟩ | ⟨hc1, hM⟩
  ·refine WP_true rfl hc1 <| WP_seq <| WP_region <| O (r_assign (v := Value.bool false) rfl) rfl <| OW_nil <| WP_ret ?_
   obtain rfl := Option.some.inj hM
   refine FL_nil hds ?_
   exact ⟨_, res1 Try.results39 (rv_tmp (v := Value.bool false) rfl), gg4, ⟨[Value.bool false], rfl, rfl⟩, hs.ext⟩
  ·refine WP_false rfl hc1 <| WP_skip ?_
   obtain ⟨o3, hx5, hKhx5⟩ := stepS hM
   refine WP_cut (fun E w => ∃ u9 : Unit, o3 = .next u9 ∧ ∃ (gg50 : Hp), E 1 = Value.pointer (some ⟨b1, 0, none⟩) ∧ E.ds = [] ∧ Hle gg4 gg50 ∧ Go.Lx.Sep g0 w0 gg50 w [Go.Lx.box b1 41 ([Value.int .i64 nv1.States, Value.int .i64 nv1.Start, v1, v2])]) ?_ ?_
   ·have hM := hx5
    have hagg4 := Hle.refl gg4
    refine WP_seq <| WP_region <| O (r_fieldAddr Try.underlying41 ti39 rfl rfl (by decide) rfl rfl) rfl <| O (r_load (v := v1) ti39 rfl (hs.cell (i := 0) (o := 2) rfl rfl)) rfl ?_
    obtain ⟨a4, ca4, hva4⟩ := hRv1.shape
    refine O (r_lenSl (v := v1) Try.underlying39 rfl hva4) rfl <| O (r_move (v := Value.int .i64 0) rfl) rfl <| OW_nil <| WP_block <| WP_loop (fun (xv10 : Int) E w => ∃ (gg65 : Hp), E 1 = Value.pointer (some ⟨b1, 0, none⟩) ∧ E 3 = Value.func (.func 58) #[] (List.toArray [Value.pointer (some ⟨b1, 0, none⟩)]) ∧ E 31 = v1 ∧ E 32 = Value.int .i64 (nv1.Arcs.length : Int) ∧ E 33 = Value.int .i64 xv10 ∧ E.ds = [] ∧ Hle gg4 gg65 ∧ Go.Lx.Sep g0 w0 gg65 w [Go.Lx.box b1 41 ([Value.int .i64 nv1.States, Value.int .i64 nv1.Start, v1, v2])]) hM ⟨gg4, rfl, rfl, rfl, rfl, rfl, hds, (Hle.refl _), hs⟩ ?_
    clear hs hM
    rintro xv10 o2 E w hM ⟨gg65, hE1, hE3, hE31, hE32, hE33, hds, hlegg65, hs⟩
    obtain ⟨E, rfl⟩ := open5 (E := E) hE1 hE3 hE31 hE32 hE33
    replace hRv1 := hRv1.mono hlegg65
    replace hRv2 := hRv2.mono hlegg65
    have hagg65 := Hle.refl gg65
    refine WP_seq <| WP_region <| O (r_lss rfl rfl) rfl <| OW_nil <| WP_seq ?_
    rcases condS hM with ⟨hc12, hM⟩ | ⟨hc12, hM⟩
    ·refine WP_true rfl hc12 <| WP_skip <| WP_seq <| WP_block <| WP_seq <| WP_region ?_
     obtain ⟨e6, he6, hM⟩ := bindS hM
     obtain ⟨b12, ob12, cb12, hvb12, cs53, hcs53, hcb12⟩ := hRv1.at he6
     obtain ⟨cs54, cs55, cs56, cs57, rfl, hcs54, hcs55, hcs56, hcs57⟩ := hcs53
     have hcs54 : cs54 = _ := hcs54; subst hcs54
     have hcs55 : cs55 = _ := hcs55; subst hcs55
     have hcs56 : cs56 = _ := hcs56; subst hcs56
     have hcs57 : cs57 = _ := hcs57; subst hcs57
     refine O (r_idxSl Try.underlying39 ti79 (v := v1) rfl hvb12 rfl (idxL_some he6).1 (idxL_some he6).2.1) rfl <| O (r_loadEl (cs := ([Value.int .i64 e6.From]) ++ (([Value.int .i64 e6.To]) ++ (([Value.bool e6.Epsilon]) ++ (e6.Set.1.map (Value.int .u64))))) ti79 rfl (by simp [e6.Set.2]) (.inl rfl) (hcb12 _ hs.imm) (v := Value.agg (List.toArray (α := Value) (([Value.int .i64 e6.From]) ++ (([Value.int .i64 e6.To]) ++ (([Value.bool e6.Epsilon]) ++ (e6.Set.1.map (Value.int .u64))))))) rfl) rfl <| OW_alloc ti79 hs (zs := ([Value.int .i64 0]) ++ (([Value.int .i64 0]) ++ (([Value.bool false]) ++ ((Vec.zero 4).1.map (Value.int .u64))))) rfl rfl ?_
     intro b13 wv34 hs
     refine OW_storeAll ti79 hs (i := 0) rfl rfl (v := Value.agg (List.toArray (α := Value) (([Value.int .i64 e6.From]) ++ (([Value.int .i64 e6.To]) ++ (([Value.bool e6.Epsilon]) ++ (e6.Set.1.map (Value.int .u64))))))) rfl (vs := ([Value.int .i64 e6.From]) ++ (([Value.int .i64 e6.To]) ++ (([Value.bool e6.Epsilon]) ++ (e6.Set.1.map (Value.int .u64))))) rfl (one_append (one_cons rfl one_nil) (one_append (one_cons rfl one_nil) (one_append (one_cons rfl one_nil) vec_one))) (by simp [e6.Set.2]) (by simp [e6.Set.2, (Vec.zero 4).2]) ?_
     intro wv35 hs
     refine OW_nil ?_
     obtain ⟨xv13, hx8, hKhx8⟩ := bindS hM
     refine WP_cut (fun E w => ∃ (gg86 : Hp), E 1 = Value.pointer (some ⟨b1, 0, none⟩) ∧ E 3 = Value.func (.func 58) #[] (List.toArray [Value.pointer (some ⟨b1, 0, none⟩)]) ∧ E 31 = v1 ∧ E 32 = Value.int .i64 (nv1.Arcs.length : Int) ∧ E 33 = Value.int .i64 xv10 ∧ E 58 = Value.bool xv13 ∧ E.ds = [] ∧ Hle gg65 gg86 ∧ Go.Lx.Sep g0 w0 gg86 w [Go.Lx.box b1 41 ([Value.int .i64 nv1.States, Value.int .i64 nv1.Start, v1, v2])]) ?_ ?_
     ·have hM := hx8
      refine WP_region <| O (r_move (v := Value.func (.func 58) #[] (List.toArray [Value.pointer (some ⟨b1, 0, none⟩)])) rfl) rfl <| O (r_fieldAddr Try.underlying79 ti3 rfl rfl (by decide) rfl rfl) rfl <| O (r_load (v := Value.int .i64 e6.From) ti3 rfl (hs.cell (i := 0) (o := 0) rfl (by simp [e6.Set.2]))) rfl ?_
      have hsL25 := hs
      have hRv1L25 := hRv1
      have hRv2L25 := hRv2
      have hagg65L25 := hagg65
      obtain ⟨gg87, hlegg87, hBgg87, hs⟩ := hs.relBox (i := 1) rfl
      replace hRv1 := hRv1.mono hlegg87
      replace hRv2 := hRv2.mono hlegg87
      replace hagg65 := hagg65.trans hlegg87
      obtain ⟨rv25, hrv25, hM⟩ := bindS hM
      refine CV [Value.int .i64 e6.From] [Value.pointer (some ⟨b1, 0, none⟩)] cf58 rfl rfl (nfa_Valid_1_ok hrv25 hs.imm hBgg87 (⟨[Value.int .i64 nv1.States], [Value.int .i64 nv1.Start], [v1], [v2], rfl, rfl, rfl, ⟨_, rfl, hRv1⟩, ⟨_, rfl, hRv2⟩⟩)) rfl ?_
      rintro v27 wv38 ⟨gg88, hvv27, hegg88⟩
      obtain ⟨gg89, hlegg89, hs⟩ := hsL25.lent hegg88
      replace hRv1 := hRv1L25.mono hlegg89
      replace hRv2 := hRv2L25.mono hlegg89
      replace hagg65 := hagg65L25.trans hlegg89
      obtain ⟨cs60, rfl, hcs60⟩ := hvv27
      have hcs60 : cs60 = _ := hcs60; subst hcs60
      refine O (r_not rfl) rfl <| O (r_move (v := Value.bool (!rv25)) rfl) rfl ?_
      rcases condS hM with ⟨hg40, hM⟩ | ⟨hg40, hM⟩
      ·refine OK rfl rfl rfl (by rw [hg40]; rfl) rfl <| OK rfl rfl rfl (by rw [hg40]; rfl) rfl <| OK rfl rfl rfl (by rw [hg40]; rfl) rfl <| OK rfl rfl rfl (by rw [hg40]; rfl) rfl <| OK rfl rfl rfl (by rw [hg40]; rfl) rfl <| O (r_pickT (v := Value.bool true) rfl hg40 rfl) rfl <| O (r_move (v := Value.bool true) rfl) rfl <| OK rfl rfl rfl rfl rfl <| OK rfl rfl rfl rfl rfl <| OK rfl rfl rfl rfl rfl <| OKU rfl rfl rfl rfl <| OKU rfl rfl rfl rfl <| OKU rfl rfl rfl rfl <| OKU rfl rfl rfl rfl <| OK rfl rfl rfl rfl rfl <| O (r_pickT (v := Value.bool true) rfl rfl rfl) rfl <| OW_nil ?_
       obtain rfl := Option.some.inj hM
       exact ⟨gg89, rfl, rfl, rfl, rfl, rfl, rfl, hds, hagg65, (hs.sub (.cons _ (.cons_cons _ .slnil)))⟩
      ·refine OG rfl rfl rfl (by rw [hg40]; rfl) (r_move (v := Value.func (.func 58) #[] (List.toArray [Value.pointer (some ⟨b1, 0, none⟩)])) rfl) rfl <| OG rfl rfl rfl (by rw [hg40]; rfl) (r_fieldAddr Try.underlying79 ti3 rfl rfl (by decide) rfl rfl) rfl <| OG rfl rfl rfl (by rw [hg40]; rfl) (r_load (v := Value.int .i64 e6.To) ti3 rfl (hs.cell (i := 0) (o := 1) rfl (by simp [e6.Set.2]))) rfl ?_
       have hsL26 := hs
       have hagg65L26 := hagg65
       obtain ⟨gg90, hlegg90, hBgg90, hs⟩ := hs.relBox (i := 1) rfl
       replace hRv1 := hRv1.mono hlegg90
       replace hRv2 := hRv2.mono hlegg90
       replace hagg65 := hagg65.trans hlegg90
       obtain ⟨rv26, hrv26, hM⟩ := bindS hM
       refine CVG rfl rfl rfl (by rw [hg40]; rfl) [Value.int .i64 e6.To] [Value.pointer (some ⟨b1, 0, none⟩)] cf58 rfl rfl (nfa_Valid_1_ok hrv26 hs.imm hBgg90 (⟨[Value.int .i64 nv1.States], [Value.int .i64 nv1.Start], [v1], [v2], rfl, rfl, rfl, ⟨_, rfl, hRv1⟩, ⟨_, rfl, hRv2⟩⟩)) rfl ?_
       rintro v28 wv39 ⟨gg91, hvv28, hegg91⟩
       obtain ⟨gg92, hlegg92, hs⟩ := hsL26.lent hegg91
       replace hagg65 := hagg65L26.trans hlegg92
       obtain ⟨cs61, rfl, hcs61⟩ := hvv28
       have hcs61 : cs61 = _ := hcs61; subst hcs61
       refine OG rfl rfl rfl (by rw [hg40]; rfl) (r_not rfl) rfl <| O (r_pickF (v := Value.bool (!rv26)) rfl hg40 rfl) rfl <| O (r_move (v := Value.bool (!rv26)) rfl) rfl ?_
       rcases condS hM with ⟨hg41, hM⟩ | ⟨hg41, hM⟩
       ·refine OK rfl rfl rfl (by rw [hg41]; rfl) rfl <| OK rfl rfl rfl (by rw [hg41]; rfl) rfl <| OK rfl rfl rfl (by rw [hg41]; rfl) rfl <| OKU rfl rfl rfl rfl <| OKU rfl rfl rfl rfl <| OKU rfl rfl rfl rfl <| OKU rfl rfl rfl rfl <| OK rfl rfl rfl (by rw [hg41]; rfl) rfl <| O (r_pickT (v := Value.bool true) rfl hg41 rfl) rfl <| OW_nil ?_
        obtain rfl := Option.some.inj hM
        exact ⟨gg92, rfl, rfl, rfl, rfl, rfl, rfl, hds, hagg65, (hs.sub (.cons _ (.cons_cons _ .slnil)))⟩
       ·refine OG rfl rfl rfl (by rw [hg41]; rfl) (r_fieldAddr Try.underlying79 ti4 rfl rfl (by decide) rfl rfl) rfl <| OG rfl rfl rfl (by rw [hg41]; rfl) (r_load (v := Value.bool e6.Epsilon) ti4 rfl (hs.cell (i := 0) (o := 2) rfl (by simp [e6.Set.2]))) rfl <| OG rfl rfl rfl (by rw [hg41]; rfl) (r_move (v := Value.bool e6.Epsilon) rfl) rfl ?_
        rcases condS hM with ⟨hg42, hM⟩ | ⟨hg42, hM⟩
        ·refine OG rfl rfl rfl (by rw [hg42]; rfl) (r_fieldAddr Try.underlying79 ti77 rfl rfl (by decide) rfl rfl) rfl <| OG rfl rfl rfl (by rw [hg42]; rfl) (r_loadN (cs := e6.Set.1.map (Value.int .u64)) ti77 rfl (by simp [e6.Set.2]) (hs.cellsAt (i := 0) (o := 3) rfl (by intro j u hj; exact sub_at (pre := [Value.int .i64 e6.From, Value.int .i64 e6.To, Value.bool e6.Epsilon]) (ds := e6.Set.1.map (Value.int .u64)) (post := []) rfl ((by simp)) hj))) rfl <| OG rfl rfl rfl (by rw [hg42]; rfl) (r_build (vs := []) (cs := (Vec.zero 4).1.map (Value.int .u64)) rfl (by kernel_rfl)) rfl <| OG rfl rfl rfl (by rw [hg42]; rfl) (r_neqV Try.underlying77 Try.underlying75 ti75 rfl rfl eg77) rfl <| OG rfl rfl rfl (by rw [hg41]; rfl) (r_pickT (v := Value.bool (e6.Set != (Vec.zero 4))) rfl hg42 rfl) rfl ?_
         refine O (r_pickF (v := Value.bool (e6.Set != (Vec.zero 4))) rfl hg41 rfl) rfl <| OW_nil ?_
         obtain rfl := Option.some.inj hM
         exact ⟨gg92, rfl, rfl, rfl, rfl, rfl, rfl, hds, hagg65, (hs.sub (.cons _ (.cons_cons _ .slnil)))⟩
        ·refine OK rfl rfl rfl (by rw [hg42]; rfl) rfl <| OK rfl rfl rfl (by rw [hg42]; rfl) rfl <| OK rfl rfl rfl (by rw [hg42]; rfl) rfl <| OK rfl rfl rfl (by rw [hg42]; rfl) rfl <| OG rfl rfl rfl (by rw [hg41]; rfl) (r_pickF (v := Value.bool false) rfl hg42 rfl) rfl <| O (r_pickF (v := Value.bool false) rfl hg41 rfl) rfl <| OW_nil ?_
         obtain rfl := Option.some.inj hM
         exact ⟨gg92, rfl, rfl, rfl, rfl, rfl, rfl, hds, hagg65, (hs.sub (.cons _ (.cons_cons _ .slnil)))⟩
     ·clear hs
      rintro E w ⟨gg86, hE1, hE3, hE31, hE32, hE33, hE58, hds, hlegg86, hs⟩
      have hM := hKhx8
      obtain ⟨E, rfl⟩ := open6 (E := E) hE1 hE3 hE31 hE32 hE33 hE58
      replace hlegg65 := hlegg65.trans hlegg86
      rcases condS hM with ⟨hc13, hM⟩ | ⟨hc13, hM⟩
      ·refine WP_true rfl hc13 <| WP_seq <| WP_region <| O (r_assign (v := Value.bool false) rfl) rfl <| OW_nil <| WP_ret ?_
       obtain rfl := Option.some.inj hM
       refine fun hr => ?_
       have hM := congrArg some hr
       obtain rfl := Option.some.inj hM
       have hM := hKhx5
       obtain rfl := Option.some.inj hM
       refine FL_nil hds ?_
       exact ⟨_, res1 Try.results39 (rv_tmp (v := Value.bool false) rfl), gg86, ⟨[Value.bool false], rfl, rfl⟩, hs.ext⟩
      ·refine WP_false rfl hc13 <| WP_skip <| WP_region ?_
       obtain ⟨t6, ht6, hM⟩ := bindS hM
       refine O (r_addM rfl rfl ht6) rfl <| O (r_move (v := Value.int .i64 t6) rfl) rfl <| OW_nil ?_
       obtain rfl := Option.some.inj hM
       exact ⟨gg86, rfl, rfl, rfl, rfl, rfl, hds, hlegg65, hs⟩
    ·refine WP_false rfl hc12 <| WP_exit ?_
     obtain rfl := Option.some.inj hM
     refine fun hr => ?_
     have hM := congrArg some hr
     obtain rfl := Option.some.inj hM
     exact ⟨(), rfl, gg65, rfl, hds, hlegg65, hs⟩
   ·clear hs
    rintro E w ⟨_, rfl, gg50, hE1, hds, hlegg50, hs⟩
    have hM := hKhx5
    dsimp only [onStep] at hM
    obtain ⟨E, rfl⟩ := open1 (E := E) hE1
    replace hRv2 := hRv2.mono hlegg50
    refine WP_seq <| WP_region <| O (r_fieldAddr Try.underlying41 ti22 rfl rfl (by decide) rfl rfl) rfl <| O (r_load (v := v2) ti22 rfl (hs.cell (i := 0) (o := 3) rfl rfl)) rfl ?_
    obtain ⟨rv27, hrv27, hM⟩ := bindS hM
    refine C [v2, Value.func (.func 59) #[] #[]] cf27 rfl (slices_ContainsFunc_int_int_ok hrv27 hs.imm hRv2 (show FnRd1 Try.prog (VRd (tInt .i64) false) (VRd tBool false) (Value.func (.func 59) #[] #[]) M.nfa_Valid_2 gg50 from ⟨59, [], rfl, cf59, fun g9 w9 a90 x90 r9 hle9 hi9 ha90 hM9 => by obtain ⟨c90, rfl, ha90⟩ := ha90; have ha90 : c90 = _ := ha90; subst ha90; exact nfa_Valid_2_ok hM9 hi9 ⟩)) rfl ?_
    rintro v29 wv40 ⟨gg93, hvv29, hegg93⟩
    have hlegg93 := hegg93.le hs.imm
    replace hs := hs.call hegg93
    obtain ⟨cs62, rfl, hcs62⟩ := hvv29
    have hcs62 : cs62 = _ := hcs62; subst hcs62
    refine O (r_not rfl) rfl <| O (r_assign (v := Value.bool (!rv27)) rfl) rfl <| OW_nil <| WP_ret ?_
    obtain rfl := Option.some.inj hM
    refine FL_nil hds ?_
    exact ⟨_, res1 Try.results39 (rv_tmp (v := Value.bool (!rv27)) rfl), gg93, ⟨[Value.bool (!rv27)], rfl, rfl⟩, hs.ext⟩

set_option maxRecDepth 100000 in
theorem byteset_Has_ok {s1 : (Vec 4)} {b1 : Int} {r : Bool} (hM : M.byteset_Has s1 b1 = some r) {g0 : Hp} {w0 : World} (hi : Imm g0 w0) :
    CallsV Try.prog 60 #[encV .u64 s1, Value.int .u8 b1] w0 (fun v w' => ∃ g', (VRd tBool false g' v r) ∧ Ext g0 w0 g' w') := by
 unfold M.byteset_Has at hM
 have hs := Sep.start hi
 refine calls_of_WP (args := [encV .u64 s1, Value.int .u8 b1]) Try.func60 rfl Try.ntmps60 rfl ?_
 have hds : (argEnv [encV .u64 s1, Value.int .u8 b1]).ds = [] := rfl
 refine WP_seq <| WP_region <| OW_box (v := encV .u64 s1) rfl hs (zs := s1.1.map (Value.int .u64)) rfl rfl ?_
 intro b2 wv1 hs
 refine O (r_assign (v := Value.bool false) rfl) rfl <| OW_nil <| WP_seq <| WP_region <| O (r_move (v := Value.int .u8 b1) rfl) rfl ?_
 obtain ⟨t1, ht1, hM⟩ := bindS hM
 refine O (r_quoM rfl rfl ht1) rfl ?_
 obtain ⟨c1, hc1, hM⟩ := bindS hM
 refine O (r_idxArr Try.underlying77 ti75 rfl rfl (vget_some hc1).1 (vget_some hc1).2.1) rfl <| O (r_load ti75 rfl (hs.cell (i := 0) rfl (vget_cell hc1))) rfl <| O (r_move (v := Value.int .u8 b1) rfl) rfl ?_
 obtain ⟨t2, ht2, hM⟩ := bindS hM
 refine O (r_remM rfl rfl ht2) rfl ?_
 obtain ⟨t3, ht3, hM⟩ := bindS hM
 refine O (r_shrM rfl rfl ht3) rfl <| O (r_and rfl rfl) rfl <| O (r_eql rfl rfl) rfl <| O (r_assign (v := Value.bool ((bits .and .u64 t3 1) == 1)) rfl) rfl <| OW_nil <| WP_ret ?_
 obtain rfl := Option.some.inj hM
 refine FL_nil hds ?_
 exact ⟨_, res1 Try.results60 (rv_tmp (v := Value.bool ((bits .and .u64 t3 1) == 1)) rfl), g0, ⟨[Value.bool ((bits .and .u64 t3 1) == 1)], rfl, rfl⟩, hs.ext⟩


end Go.Proofs.Ytogpainomdfpnaa
