/- The walk of the law. Printed by a program of my own. -/
import Derived.Test.YtajmekjcnbmaaaaTyp
import Derived.Test.YtajmekjcnbmaaaaWalk3
import Derived.Test.YtajmekjcnbmaaaaWalk4
import Derived.Test.YtajmekjcnbmaaaaWalk11
set_option linter.unusedVariables false
set_option linter.unusedSimpArgs false
namespace Go.Proofs.Ytajmekjcnbmaaaa
open Go.Lx Go.RowKit
set_option maxRecDepth 100000 in
theorem law09_NfaFromRegexesErrors_ok {l1 : (List T_Regex)} {r : Bool} (hM : M.law09_NfaFromRegexesErrors l1 = some r) {g0 : Hp} {w0 : World} (hi : Imm g0 w0) {v1 : Value} (hRv1 : RdS tT_Regex g0 v1 l1) :
    CallsV Try.prog 10 #[v1] w0 (fun v w' => ∃ g', (VRd tBool false g' v r) ∧ Ext g0 w0 g' w') := by
 unfold M.law09_NfaFromRegexesErrors at hM
 have hs := Sep.start hi
 refine calls_of_WP (args := [v1]) Try.func10 rfl Try.ntmps10 rfl ?_
 have hds : (argEnv [v1]).ds = [] := rfl
 refine WP_seq <| WP_region <| O (r_assign (v := Value.bool false) rfl) rfl <| OW_nil <| WP_seq <| WP_seq <| WP_region ?_
 obtain ⟨rv1, hrv1, hM⟩ := bindS hM
 refine C [] cf11 rfl (law09_awake_ok hrv1 hs.imm) rfl ?_
 rintro v2 wv1 ⟨gg1, hvv2, hegg1⟩
 have hlegg1 := hegg1.le hs.imm
 replace hs := hs.call hegg1
 replace hRv1 := hRv1.mono hlegg1
 obtain ⟨cs1, rfl, hcs1⟩ := hvv2
 have hcs1 : cs1 = _ := hcs1; subst hcs1
 refine O (r_not rfl) rfl <| OW_nil ?_
 rcases condS hM with ⟨hc1, hM⟩ | ⟨hc1, hM⟩
 ·refine WP_true rfl hc1 <| WP_seq <| WP_region <| O (r_assign (v := Value.bool false) rfl) rfl <| OW_nil <| WP_ret ?_
  obtain rfl := Option.some.inj hM
  refine FL_nil hds ?_
  exact ⟨_, res1 Try.results10 (rv_tmp (v := Value.bool false) rfl), gg1, ⟨[Value.bool false], rfl, rfl⟩, hs.ext⟩
 ·refine WP_false rfl hc1 <| WP_skip <| WP_seq <| WP_seq <| WP_region <| O (r_move (v := v1) rfl) rfl ?_
  obtain ⟨a1, ca1, hva1⟩ := hRv1.shape
  refine O (r_lenSl (v := v1) Try.underlying37 rfl hva1) rfl <| O (r_gtr rfl rfl) rfl <| OW_nil ?_
  rcases condS hM with ⟨hc2, hM⟩ | ⟨hc2, hM⟩
  ·refine WP_true rfl hc2 <| WP_seq <| WP_region <| O (r_assign (v := Value.bool true) rfl) rfl <| OW_nil <| WP_ret ?_
   obtain rfl := Option.some.inj hM
   refine FL_nil hds ?_
   exact ⟨_, res1 Try.results10 (rv_tmp (v := Value.bool true) rfl), gg1, ⟨[Value.bool true], rfl, rfl⟩, hs.ext⟩
  ·refine WP_false rfl hc2 <| WP_skip <| WP_seq <| WP_region <| O (r_move (v := v1) rfl) rfl ?_
   obtain ⟨rv2, hrv2, hM⟩ := bindS hM
   refine C [v1] cf24 rfl (nfa_FromRegexes_ok hrv2 hs.imm hRv1) rfl ?_
   rintro v3 wv2 ⟨gg2, hvv3, hegg2⟩
   have hlegg2 := hegg2.le hs.imm
   replace hs := hs.call hegg2
   replace hRv1 := hRv1.mono hlegg2
   obtain ⟨v4, v5, rfl, hvv4, hvv5⟩ := hvv3
   obtain ⟨cs2, rfl, hcs2⟩ := hvv5
   have hcs2 : cs2 = _ := hcs2; subst hcs2
   obtain ⟨cs3, rfl, hcs3⟩ := hvv4
   obtain ⟨cs4, cs5, cs6, cs7, rfl, hcs4, hcs5, hcs6, hcs7⟩ := hcs3
   have hcs4 : cs4 = _ := hcs4; subst hcs4
   have hcs5 : cs5 = _ := hcs5; subst hcs5
   obtain ⟨v6, rfl, hRv6⟩ := hcs6
   obtain ⟨v7, rfl, hRv7⟩ := hcs7
   refine O (r_move (v := Value.tuple #[Value.agg (List.toArray (α := Value) [Value.int .i64 rv2.1.States, Value.int .i64 rv2.1.Start, v6, v7]), Value.int .i64 rv2.2]) rfl) rfl <| O (r_extract (vs := [Value.agg (List.toArray (α := Value) [Value.int .i64 rv2.1.States, Value.int .i64 rv2.1.Start, v6, v7]), Value.int .i64 rv2.2]) (v := Value.agg (List.toArray (α := Value) [Value.int .i64 rv2.1.States, Value.int .i64 rv2.1.Start, v6, v7])) rfl rfl) rfl <| O (r_extract (vs := [Value.agg (List.toArray (α := Value) [Value.int .i64 rv2.1.States, Value.int .i64 rv2.1.Start, v6, v7]), Value.int .i64 rv2.2]) (v := Value.int .i64 rv2.2) rfl rfl) rfl <| OW_alloc ti25 hs (zs := [Value.int .i64 0, Value.int .i64 0, Value.slice none 0 0, Value.slice none 0 0]) rfl rfl ?_
   intro b1 wv3 hs
   refine OW_storeAll ti25 hs (i := 0) rfl rfl (v := Value.agg (List.toArray (α := Value) [Value.int .i64 rv2.1.States, Value.int .i64 rv2.1.Start, v6, v7])) rfl (vs := [Value.int .i64 rv2.1.States, Value.int .i64 rv2.1.Start, v6, v7]) rfl (one_cons rfl (one_cons rfl (one_cons (by obtain ⟨_, _, h9⟩ := hRv6.shape; rw [h9]; rfl) (one_cons (by obtain ⟨_, _, h9⟩ := hRv7.shape; rw [h9]; rfl) one_nil)))) rfl rfl ?_
   intro wv4 hs
   refine O (r_assign (v := Value.int .i64 rv2.2) rfl) rfl <| OW_nil <| WP_seq <| WP_region <| O (r_move (v := v1) rfl) rfl ?_
   obtain ⟨f1, hf1, hM⟩ := bindS hM
   refine C [v1] cf28 rfl (ref09_Check_ok hf1 hs.imm hRv1) rfl ?_
   rintro v8 wv5 ⟨gg3, hvv8, hegg3⟩
   have hlegg3 := hegg3.le hs.imm
   replace hs := hs.call hegg3
   replace hRv6 := hRv6.mono hlegg3
   replace hRv7 := hRv7.mono hlegg3
   obtain ⟨cs8, rfl, hcs8⟩ := hvv8
   have hcs8 : cs8 = _ := hcs8; subst hcs8
   refine O (r_assign (v := Value.int .i64 f1) rfl) rfl <| OW_nil ?_
   obtain ⟨xv1, hx1, hKhx1⟩ := bindS hM
   refine WP_cut (fun E w => ∃ (gg5 : Hp), E 2 = Value.bool xv1 ∧ E.ds = [] ∧ Hle gg3 gg5 ∧ Go.Lx.Sep g0 w0 gg5 w []) ?_ ?_
   ·have hM := hx1
    have hagg3 := Hle.refl gg3
    refine WP_region <| O (r_move (v := Value.int .i64 rv2.2) rfl) rfl <| O (r_move (v := Value.int .i64 f1) rfl) rfl <| O (r_eql rfl rfl) rfl <| O (r_move (v := Value.bool (rv2.2 == f1)) rfl) rfl ?_
    rcases condS hM with ⟨hg2, hM⟩ | ⟨hg2, hM⟩
    ·refine OG rfl rfl rfl (by rw [hg2]; rfl) (r_move (v := Value.int .i64 rv2.2) rfl) rfl <| OG rfl rfl rfl (by rw [hg2]; rfl) (r_eql rfl rfl) rfl <| OG rfl rfl rfl (by rw [hg2]; rfl) (r_loadN (cs := [Value.int .i64 rv2.1.States, Value.int .i64 rv2.1.Start, v6, v7]) ti25 rfl rfl (hs.cells (i := 0) rfl)) rfl ?_
     obtain ⟨rv4, hrv4, hM⟩ := bindS hM
     refine CG rfl rfl rfl (by rw [hg2]; rfl) [Value.agg (List.toArray (α := Value) [Value.int .i64 rv2.1.States, Value.int .i64 rv2.1.Start, v6, v7])] cf12 rfl (nfa_Valid_ok hrv4 hs.imm (⟨[Value.int .i64 rv2.1.States], [Value.int .i64 rv2.1.Start], [v6], [v7], rfl, rfl, rfl, ⟨_, rfl, hRv6⟩, ⟨_, rfl, hRv7⟩⟩)) rfl ?_
     rintro v10 wv7 ⟨gg6, hvv10, hegg6⟩
     have hlegg6 := hegg6.le hs.imm
     replace hs := hs.call hegg6
     replace hagg3 := hagg3.trans hlegg6
     obtain ⟨cs10, rfl, hcs10⟩ := hvv10
     have hcs10 : cs10 = _ := hcs10; subst hcs10
     refine OG rfl rfl rfl (by rw [hg2]; rfl) (r_eqlB Try.underlying4 rfl rfl) rfl <| O (r_pickT (v := Value.bool ((rv2.2 == 0) == rv4)) rfl hg2 rfl) rfl <| O (r_assign (v := Value.bool ((rv2.2 == 0) == rv4)) rfl) rfl <| OW_nil ?_
     obtain rfl := Option.some.inj hM
     exact ⟨gg6, rfl, hds, hagg3, (hs.sub (.cons _ .slnil))⟩
    ·refine OK rfl rfl rfl (by rw [hg2]; rfl) rfl <| OK rfl rfl rfl (by rw [hg2]; rfl) rfl <| OK rfl rfl rfl (by rw [hg2]; rfl) rfl <| OK rfl rfl rfl (by rw [hg2]; rfl) rfl <| OK rfl rfl rfl (by rw [hg2]; rfl) rfl <| O (r_pickF (v := Value.bool false) rfl hg2 rfl) rfl <| O (r_assign (v := Value.bool false) rfl) rfl <| OW_nil ?_
     obtain rfl := Option.some.inj hM
     exact ⟨gg3, rfl, hds, (Hle.refl _), (hs.sub (.cons _ .slnil))⟩
   ·clear hs
    rintro E w ⟨gg5, hE2, hds, hlegg5, hs⟩
    have hM := hKhx1
    obtain ⟨E, rfl⟩ := open1 (E := E) hE2
    refine WP_ret ?_
    obtain rfl := Option.some.inj hM
    refine FL_nil hds ?_
    exact ⟨_, res1 Try.results10 (rv_tmp (v := Value.bool xv1) rfl), gg5, ⟨[Value.bool xv1], rfl, rfl⟩, hs.ext⟩

end Go.Proofs.Ytajmekjcnbmaaaa
