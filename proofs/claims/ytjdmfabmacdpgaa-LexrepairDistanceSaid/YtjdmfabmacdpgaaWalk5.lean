/- The walks: what each function does is what its model says. Printed by a program of my own. -/
import Derived.Test.YtjdmfabmacdpgaaTyp
import Derived.Test.YtjdmfabmacdpgaaWalk3
import Derived.Test.YtjdmfabmacdpgaaWalk4
set_option linter.unusedVariables false
set_option linter.unusedSimpArgs false
namespace Go.Proofs.Ytjdmfabmacdpgaa
open Go.Lx Go.RowKit
set_option maxRecDepth 100000 in
theorem law14_awake_ok {r : Bool} (hM : M.law14_awake = some r) {g0 : Hp} {w0 : World} (hi : Imm g0 w0) :
    CallsV Try.prog 6 #[] w0 (fun v w' => ∃ g', (VRd tBool false g' v r) ∧ Ext g0 w0 g' w') := by
 unfold M.law14_awake at hM
 have hs := Sep.start hi
 refine calls_of_WP (args := []) Try.func6 rfl Try.ntmps6 rfl ?_
 have hds : (argEnv []).ds = [] := rfl
 refine WP_seq <| WP_region <| O (r_assign (v := Value.bool false) rfl) rfl <| OW_nil <| WP_seq <| WP_region ?_
 obtain ⟨rv1, hrv1, hM⟩ := bindS hM
 refine C [] cf10 rfl (ref11_Small_ok hrv1 hs.imm) rfl ?_
 rintro v1 wv1 ⟨gg1, hvv1, hegg1⟩
 have hlegg1 := hegg1.le hs.imm
 replace hs := hs.call hegg1
 obtain ⟨cs1, rfl, hcs1⟩ := hvv1
 obtain ⟨cs2, cs3, cs4, cs5, rfl, hcs2, hcs3, hcs4, hcs5⟩ := hcs1
 obtain ⟨v2, rfl, hRv2⟩ := hcs2
 have hcs3 : cs3 = _ := hcs3; subst hcs3
 have hcs4 : cs4 = _ := hcs4; subst hcs4
 have hcs5 : cs5 = _ := hcs5; subst hcs5
 obtain ⟨rv2, hrv2, hM⟩ := bindS hM
 refine C [] cf11 rfl (law14_example_ok hrv2 hs.imm) rfl ?_
 rintro v3 wv2 ⟨gg2, xs1, hvv3, hegg2⟩
 have hlegg2 := hegg2.ext.le hs.imm
 replace hs := hs.callOwn hegg2
 simp only [List.cons_append, List.nil_append] at hs
 replace hRv2 := hRv2.mono hlegg2
 have hsL1 := hs
 obtain ⟨gg3, hlegg3, hRgg3, hs⟩ := hs.relRow (i := 0) rfl hvv3
 replace hRv2 := hRv2.mono hlegg3
 obtain ⟨l1, hl1, hM⟩ := bindS hM
 refine C [Value.agg (List.toArray (α := Value) [v2, Value.bool rv1.Layout, Value.int .i64 rv1.Misspelling, Value.int .i64 rv1.Unclosed]), v3] cf9 rfl (lexrepair_Merge_ok hl1 hs.imm (⟨[v2], [Value.bool rv1.Layout], [Value.int .i64 rv1.Misspelling], [Value.int .i64 rv1.Unclosed], rfl, ⟨_, rfl, hRv2⟩, rfl, rfl, rfl⟩) hRgg3) rfl ?_
 rintro v4 wv3 ⟨gg4, xs2, hvv4, hegg4⟩
 obtain ⟨gg5, hlegg5, hs⟩ := hsL1.lentOwn hegg4
 simp only [List.cons_append, List.nil_append] at hs
 have hvv4 : RowRel tT_Token gg5 xs2 l1 := RowRel.flat (fun _ _ _ _ h => h) hvv4
 refine O (r_assign (v := v4) rfl) rfl <| OW_nil <| WP_seq ?_
 obtain ⟨xv1, hx1, hKhx1⟩ := bindS hM
 refine WP_cut (fun E w => E 1 = v4 ∧ E 14 = Value.bool xv1 ∧ E.ds = [] ∧ Go.Lx.Sep g0 w0 gg5 w [.row v4 35 tT_Token.sz l1.length xs2]) ?_ ?_
 ·have hM := hx1
  have hagg5 := Hle.refl gg5
  refine WP_region <| O (r_move (v := v4) rfl) rfl ?_
  obtain ⟨a2, ca2, hva2⟩ := hs.rowShape (i := 0) rfl
  refine O (r_lenSl (v := v4) Try.underlying27 rfl hva2) rfl <| O (r_neq rfl rfl) rfl <| O (r_move (v := Value.bool ((l1.length : Int) != 3)) rfl) rfl ?_
  rcases condS hM with ⟨hg2, hM⟩ | ⟨hg2, hM⟩
  ·refine OK rfl rfl rfl (by rw [hg2]; rfl) rfl <| OK rfl rfl rfl (by rw [hg2]; rfl) rfl <| OK rfl rfl rfl (by rw [hg2]; rfl) rfl <| OK rfl rfl rfl (by rw [hg2]; rfl) rfl <| OK rfl rfl rfl (by rw [hg2]; rfl) rfl <| O (r_pickT (v := Value.bool true) rfl hg2 rfl) rfl <| OW_nil ?_
   obtain rfl := Option.some.inj hM
   exact ⟨rfl, rfl, hds, (hs.sub (.cons_cons _ (.cons _ .slnil)))⟩
  ·refine OG rfl rfl rfl (by rw [hg2]; rfl) (r_move (v := v4) rfl) rfl ?_
   obtain ⟨e2, he2, hM⟩ := bindS hM
   obtain ⟨b2, cb2, hvb2, cs11, hcs11, hcb2⟩ := hs.rowEl (i := 0) rfl hvv4 he2
   obtain ⟨cs12, cs13, cs14, cs15, rfl, hcs12, hcs13, hcs14, hcs15⟩ := hcs11
   have hcs12 : cs12 = _ := hcs12; subst hcs12
   have hcs13 : cs13 = _ := hcs13; subst hcs13
   have hcs14 : cs14 = _ := hcs14; subst hcs14
   have hcs15 : cs15 = _ := hcs15; subst hcs15
   refine OG rfl rfl rfl (by rw [hg2]; rfl) (r_idxSl Try.underlying27 ti35 (v := v4) rfl hvb2 rfl (idxL_some he2).1 (idxL_some he2).2.1) rfl <| OG rfl rfl rfl (by rw [hg2]; rfl) (r_loadEl (cs := [Value.int .i64 e2.Kind, Value.int .i64 e2.At, encS e2.Text, Value.int .i64 e2.Look]) ti35 rfl rfl (.inl rfl) (hcb2 _ (hs.at (i := 0) rfl)) (v := Value.agg (List.toArray (α := Value) [Value.int .i64 e2.Kind, Value.int .i64 e2.At, encS e2.Text, Value.int .i64 e2.Look])) rfl) rfl <| OG rfl rfl rfl (by rw [hg2]; rfl) (r_build (vs := [(0, Value.int .i64 (-1)), (1, Value.int .i64 2), (2, encS [39, 97, 98, 32, 99]), (3, Value.int .i64 6)]) (cs := [Value.int .i64 (-1), Value.int .i64 2, encS [39, 97, 98, 32, 99], Value.int .i64 6]) rfl (by kernel_rfl)) rfl ?_
   refine OG rfl rfl rfl (by rw [hg2]; rfl) (r_neqA (xs := [Value.int .i64 e2.Kind, Value.int .i64 e2.At, encS e2.Text, Value.int .i64 e2.Look]) (ys := [Value.int .i64 (-1), Value.int .i64 2, encS [39, 97, 98, 32, 99], Value.int .i64 6]) rfl rfl eg35 (eqv_struct Try.underlying35 (by kernel_rfl) (.cons (by decide) (part_at (cs := [Value.int .i64 e2.Kind, Value.int .i64 e2.At, encS e2.Text, Value.int .i64 e2.Look]) ti3 rfl) (part_at (cs := [Value.int .i64 (-1), Value.int .i64 2, encS [39, 97, 98, 32, 99], Value.int .i64 6]) ti3 rfl) (eqv_int Try.underlying3 _ _) (.cons (by decide) (part_at (cs := [Value.int .i64 e2.Kind, Value.int .i64 e2.At, encS e2.Text, Value.int .i64 e2.Look]) ti3 rfl) (part_at (cs := [Value.int .i64 (-1), Value.int .i64 2, encS [39, 97, 98, 32, 99], Value.int .i64 6]) ti3 rfl) (eqv_int Try.underlying3 _ _) (.cons (by decide) (part_at (cs := [Value.int .i64 e2.Kind, Value.int .i64 e2.At, encS e2.Text, Value.int .i64 e2.Look]) ti9 rfl) (part_at (cs := [Value.int .i64 (-1), Value.int .i64 2, encS [39, 97, 98, 32, 99], Value.int .i64 6]) ti9 rfl) (eqv_str Try.underlying9 _ _) (.cons (by decide) (part_at (cs := [Value.int .i64 e2.Kind, Value.int .i64 e2.At, encS e2.Text, Value.int .i64 e2.Look]) ti3 rfl) (part_at (cs := [Value.int .i64 (-1), Value.int .i64 2, encS [39, 97, 98, 32, 99], Value.int .i64 6]) ti3 rfl) (eqv_int Try.underlying3 _ _) .nil)))))) rfl ?_
   refine O (r_pickF (v := Value.bool (!((e2.Kind == (-1)) && ((e2.At == 2) && ((e2.Text == [39, 97, 98, 32, 99]) && ((e2.Look == 6) && true)))))) rfl hg2 rfl) rfl <| OW_nil ?_
   obtain rfl := Option.some.inj hM
   exact ⟨rfl, rfl, hds, (hs.sub (.cons_cons _ (.cons _ .slnil)))⟩
 ·clear hs
  rintro E w ⟨hE1, hE14, hds, hs⟩
  have hM := hKhx1
  obtain ⟨E, rfl⟩ := open2 (E := E) hE1 hE14
  rcases condS hM with ⟨hc1, hM⟩ | ⟨hc1, hM⟩
  ·refine WP_true rfl hc1 <| WP_seq <| WP_region <| O (r_assign (v := Value.bool false) rfl) rfl <| OW_nil <| WP_ret ?_
   obtain rfl := Option.some.inj hM
   refine FL_nil hds ?_
   exact ⟨_, res1 Try.results6 (rv_tmp (v := Value.bool false) rfl), gg5, ⟨[Value.bool false], rfl, rfl⟩, hs.ext⟩
  ·refine WP_false rfl hc1 <| WP_skip ?_
   obtain ⟨rv11, hx2, hKhx2⟩ := bindS hM
   refine WP_cut (fun E w => ∃ (gg112 : Hp), E 0 = Value.bool rv11 ∧ E.ds = [] ∧ Hle gg5 gg112 ∧ Go.Lx.Sep g0 w0 gg112 w []) ?_ ?_
   ·have hM := hx2
    have hagg5 := Hle.refl gg5
    obtain ⟨rv12, hrv12, hM⟩ := bindS hM
    rcases condS hM with ⟨hg6, hM⟩ | ⟨hg6, hM⟩
    ·obtain ⟨rv13, hrv13, hM⟩ := bindS hM
     rcases condS hM with ⟨hg7, hM⟩ | ⟨hg7, hM⟩
     ·obtain ⟨rv14, hrv14, hM⟩ := bindS hM
      obtain ⟨e4, he4, hM⟩ := bindS hM
      obtain ⟨rv15, hrv15, hM⟩ := bindS hM
      obtain ⟨rv16, hrv16, hM⟩ := bindS hM
      rcases condS hM with ⟨hg8, hM⟩ | ⟨hg8, hM⟩
      ·obtain ⟨rv17, hrv17, hM⟩ := bindS hM
       obtain ⟨rv18, hrv18, hM⟩ := bindS hM
       obtain ⟨rv19, hrv19, hM⟩ := bindS hM
       refine WP_any (.s 0 (.q 1 (.q 2 (.s 3 (.q 4 (.q 5 (.q 6 (.q 8 (.q 9 (.q 10 (.q 12 (.c 7 (.c 11 (.s 13 (.s 14 (.q 15 (.q 16 (.q 18 (.q 20 (.c 17 (.c 19 (.s 21 (.s 22 (.q 23 (.q 24 (.leaf))))) (.c 21 (.s 19 (.s 22 (.q 23 (.q 24 (.leaf))))) (.n))) (.c 21 (.s 17 (.s 19 (.s 22 (.q 23 (.q 24 (.leaf)))))) (.n))))))))) (.c 13 (.s 11 (.s 14 (.q 15 (.q 16 (.q 18 (.q 20 (.c 17 (.c 19 (.s 21 (.s 22 (.q 23 (.q 24 (.leaf))))) (.c 21 (.s 19 (.s 22 (.q 23 (.q 24 (.leaf))))) (.n))) (.c 21 (.s 17 (.s 19 (.s 22 (.q 23 (.q 24 (.leaf)))))) (.n))))))))) (.n))) (.c 13 (.s 7 (.s 11 (.s 14 (.q 15 (.q 16 (.q 18 (.q 20 (.c 17 (.c 19 (.s 21 (.s 22 (.q 23 (.q 24 (.leaf))))) (.c 21 (.s 19 (.s 22 (.q 23 (.q 24 (.leaf))))) (.n))) (.c 21 (.s 17 (.s 19 (.s 22 (.q 23 (.q 24 (.leaf)))))) (.n)))))))))) (.n)))))))))))))) (SS g0 w0 gg5 [.row v4 35 tT_Token.sz l1.length xs2]) mo (by decide +kernel) ?_
       have hs := hs.drew
       have hS : SS g0 w0 gg5 [.row v4 35 tT_Token.sz l1.length xs2] _ := ⟨gg5, Hle.refl _, hs⟩
       refine A1 rfl <| C [encS [104, 119, 105, 108, 101], encS [119, 104, 105, 108, 101]] cf7 rfl (lexrepair_Distance_ok hrv12 hs.imm) rfl ?_
       rintro v101 wv86 ⟨gg127, hvv101, hegg127⟩
       have hlegg127 := hegg127.le hs.imm
       replace hs := hs.call hegg127
       replace hvv4 := hvv4.mono hlegg127
       replace hagg5 := hagg5.trans hlegg127
       obtain ⟨cs136, rfl, hcs136⟩ := hvv101
       have hcs136 : cs136 = _ := hcs136; subst hcs136
       refine OW_nil ?_
       replace hS := hS.to hagg5 hs
       refine ⟨fun _ => hS, ?_⟩
       refine A rfl hS (fun w9 ⟨g9, hle9, hs⟩ => r_eql rfl rfl) rfl <| A rfl hS (fun w9 ⟨g9, hle9, hs⟩ => r_move (v := Value.bool (rv12 == 1)) rfl) rfl <| A1 rfl <| CG rfl rfl rfl (by rw [hg6]; rfl) [encS [99, 97], encS [97, 98, 99]] cf7 rfl (lexrepair_Distance_ok hrv13 hs.imm) rfl ?_
       rintro v102 wv87 ⟨gg128, hvv102, hegg128⟩
       have hlegg128 := hegg128.le hs.imm
       replace hs := hs.call hegg128
       replace hvv4 := hvv4.mono hlegg128
       replace hagg5 := hagg5.trans hlegg128
       obtain ⟨cs137, rfl, hcs137⟩ := hvv102
       have hcs137 : cs137 = _ := hcs137; subst hcs137
       refine OW_nil ?_
       replace hS := hS.to hagg5 hs
       refine ⟨fun _ => hS, ?_⟩
       refine AG rfl rfl rfl rfl (by rw [hg6]; rfl) hS (fun w9 ⟨g9, hle9, hs⟩ => r_eql rfl rfl) rfl <| A rfl hS (fun w9 ⟨g9, hle9, hs⟩ => r_pickT (v := Value.bool (rv13 == 3)) rfl hg6 rfl) rfl <| A rfl hS (fun w9 ⟨g9, hle9, hs⟩ => r_move (v := Value.bool (rv13 == 3)) rfl) rfl <| AG rfl rfl rfl rfl (by rw [hg7]; rfl) hS (fun w9 ⟨g9, hle9, hs⟩ => r_move (v := v4) rfl) rfl ?_
       obtain ⟨b7, cb7, hvb7, cs138, hcs138, hcb7⟩ := hs.rowEl (i := 0) rfl hvv4 he4
       obtain ⟨cs139, cs140, cs141, cs142, rfl, hcs139, hcs140, hcs141, hcs142⟩ := hcs138
       have hcs139 : cs139 = _ := hcs139; subst hcs139
       have hcs140 : cs140 = _ := hcs140; subst hcs140
       have hcs141 : cs141 = _ := hcs141; subst hcs141
       have hcs142 : cs142 = _ := hcs142; subst hcs142
       refine AG rfl rfl rfl rfl (by rw [hg7]; rfl) hS (fun w9 ⟨g9, hle9, hs⟩ => r_idxSl Try.underlying27 ti35 (v := v4) rfl hvb7 rfl (idxL_some he4).1 (idxL_some he4).2.1) rfl <| AG rfl rfl rfl rfl (by rw [hg7]; rfl) hS (fun w9 ⟨g9, hle9, hs⟩ => r_loadEl (cs := [Value.int .i64 e4.Kind, Value.int .i64 e4.At, encS e4.Text, Value.int .i64 e4.Look]) ti35 rfl rfl (.inl rfl) (hcb7 _ (hs.at (i := 0) rfl)) (v := Value.agg (List.toArray (α := Value) [Value.int .i64 e4.Kind, Value.int .i64 e4.At, encS e4.Text, Value.int .i64 e4.Look])) rfl) rfl <| AG rfl rfl rfl rfl (by rw [hg7]; rfl) hS (fun w9 ⟨g9, hle9, hs⟩ => r_build (vs := [(0, Value.int .i64 3), (1, Value.int .i64 6)]) (cs := [Value.int .i64 3, Value.int .i64 6]) rfl (by kernel_rfl)) rfl ?_
       refine A2 rfl ?_ ?_
       ·refine CG rfl rfl rfl (by rw [hg7]; rfl) [] cf10 rfl (ref11_Small_ok hrv14 hs.imm) rfl ?_
        rintro v103 wv88 ⟨gg129, hvv103, hegg129⟩
        have hlegg129 := hegg129.le hs.imm
        replace hs := hs.call hegg129
        replace hagg5 := hagg5.trans hlegg129
        obtain ⟨cs143, rfl, hcs143⟩ := hvv103
        obtain ⟨cs144, cs145, cs146, cs147, rfl, hcs144, hcs145, hcs146, hcs147⟩ := hcs143
        obtain ⟨v104, rfl, hRv104⟩ := hcs144
        have hcs145 : cs145 = _ := hcs145; subst hcs145
        have hcs146 : cs146 = _ := hcs146; subst hcs146
        have hcs147 : cs147 = _ := hcs147; subst hcs147
        refine OW_nil ?_
        replace hS := hS.to hagg5 hs
        refine ⟨fun _ => hS, ?_⟩
        refine A2 rfl ?_ ?_
        ·refine CG rfl rfl rfl (by rw [hg7]; rfl) [Value.agg (List.toArray (α := Value) [v104, Value.bool rv14.Layout, Value.int .i64 rv14.Misspelling, Value.int .i64 rv14.Unclosed]), Value.agg (List.toArray (α := Value) [Value.int .i64 e4.Kind, Value.int .i64 e4.At, encS e4.Text, Value.int .i64 e4.Look])] cf13 rfl (lexrepair_Confusions_ok hrv15 hs.imm (⟨[v104], [Value.bool rv14.Layout], [Value.int .i64 rv14.Misspelling], [Value.int .i64 rv14.Unclosed], rfl, ⟨_, rfl, hRv104⟩, rfl, rfl, rfl⟩) (⟨[Value.int .i64 e4.Kind], [Value.int .i64 e4.At], [encS e4.Text], [Value.int .i64 e4.Look], rfl, rfl, rfl, rfl, rfl⟩)) rfl ?_
         rintro v105 wv89 ⟨gg130, xs41, hvv105, hegg130⟩
         have hlegg130 := hegg130.ext.le hs.imm
         replace hs := hs.callOwn hegg130
         simp only [List.cons_append, List.nil_append] at hs
         replace hagg5 := hagg5.trans hlegg130
         refine OW_nil ?_
         replace hS := hS.to hagg5 (hs.sub (.cons _ (.cons_cons _ .slnil)))
         refine ⟨fun _ => hS, ?_⟩
         refine A1 rfl <| OW_g rfl rfl rfl (by rw [hg7]; rfl) <| OW_lit (τ := tT_Confusion) [Value.agg (List.toArray (α := Value) [Value.int .i64 3, Value.int .i64 6])] [(T_Confusion.mk 3 6)] Try.underlying37 ti40 (by decide) hs rfl rfl rfl ⟨⟨[Value.int .i64 3], [Value.int .i64 6], rfl, rfl, rfl⟩, trivial⟩ rfl ?_
         intro v106 wv90 xs42 hrelxs42 hs
         refine OW_nil ?_
         replace hS := hS.to hagg5 (hs.sub (.cons _ (.cons _ (.cons_cons _ .slnil))))
         refine ⟨fun _ => hS, ?_⟩
         refine A1 rfl ?_
         have hsL21 := hs
         have hagg5L21 := hagg5
         obtain ⟨gg131, hlegg131, hRgg131, hs⟩ := hs.relRow (i := 1) rfl hvv105
         replace hrelxs42 := hrelxs42.mono hlegg131
         replace hagg5 := hagg5.trans hlegg131
         obtain ⟨gg132, hlegg132, hRgg132, hs⟩ := hs.relRow (i := 0) rfl hrelxs42
         replace hRgg131 := hRgg131.mono hlegg132
         replace hagg5 := hagg5.trans hlegg132
         refine CG rfl rfl rfl (by rw [hg7]; rfl) [v105, v106] cf12 rfl (ref14_Same_ok hrv16 hs.imm hRgg131 hRgg132) rfl ?_
         rintro v107 wv91 ⟨gg133, hvv107, hegg133⟩
         obtain ⟨gg134, hlegg134, hs⟩ := hsL21.lent hegg133
         replace hagg5 := hagg5L21.trans hlegg134
         obtain ⟨cs148, rfl, hcs148⟩ := hvv107
         have hcs148 : cs148 = _ := hcs148; subst hcs148
         refine OW_nil ?_
         replace hS := hS.to hagg5 (hs.sub (.cons _ (.cons _ (.cons_cons _ .slnil))))
         refine ⟨fun _ => hS, ?_⟩
         refine A rfl hS (fun w9 ⟨g9, hle9, hs⟩ => r_pickT (v := Value.bool rv16) rfl hg7 rfl) rfl <| A rfl hS (fun w9 ⟨g9, hle9, hs⟩ => r_move (v := Value.bool rv16) rfl) rfl <| AG rfl rfl rfl rfl (by rw [hg8]; rfl) hS (fun w9 ⟨g9, hle9, hs⟩ => r_build (vs := [(0, Value.int .i64 1), (2, encS [102, 105])]) (cs := [Value.int .i64 1, Value.int .i64 0, encS [102, 105], Value.int .i64 0]) rfl (by kernel_rfl)) rfl <| AG rfl rfl rfl rfl (by rw [hg8]; rfl) hS (fun w9 ⟨g9, hle9, hs⟩ => r_build (vs := [(0, Value.int .i64 0), (1, Value.int .i64 4)]) (cs := [Value.int .i64 0, Value.int .i64 4]) rfl (by kernel_rfl)) rfl <| A2 rfl ?_ ?_
         ·refine CG rfl rfl rfl (by rw [hg8]; rfl) [] cf10 rfl (ref11_Small_ok hrv17 hs.imm) rfl ?_
          rintro v108 wv92 ⟨gg135, hvv108, hegg135⟩
          have hlegg135 := hegg135.le hs.imm
          replace hs := hs.call hegg135
          replace hagg5 := hagg5.trans hlegg135
          obtain ⟨cs149, rfl, hcs149⟩ := hvv108
          obtain ⟨cs150, cs151, cs152, cs153, rfl, hcs150, hcs151, hcs152, hcs153⟩ := hcs149
          obtain ⟨v109, rfl, hRv109⟩ := hcs150
          have hcs151 : cs151 = _ := hcs151; subst hcs151
          have hcs152 : cs152 = _ := hcs152; subst hcs152
          have hcs153 : cs153 = _ := hcs153; subst hcs153
          refine OW_nil ?_
          replace hS := hS.to hagg5 (hs.sub (.cons _ (.cons _ (.cons_cons _ .slnil))))
          refine ⟨fun _ => hS, ?_⟩
          refine A2 rfl ?_ ?_
          ·refine CG rfl rfl rfl (by rw [hg8]; rfl) [Value.agg (List.toArray (α := Value) [v109, Value.bool rv17.Layout, Value.int .i64 rv17.Misspelling, Value.int .i64 rv17.Unclosed]), Value.agg (List.toArray (α := Value) [Value.int .i64 1, Value.int .i64 0, encS [102, 105], Value.int .i64 0])] cf13 rfl (lexrepair_Confusions_ok hrv18 hs.imm (⟨[v109], [Value.bool rv17.Layout], [Value.int .i64 rv17.Misspelling], [Value.int .i64 rv17.Unclosed], rfl, ⟨_, rfl, hRv109⟩, rfl, rfl, rfl⟩) (⟨[Value.int .i64 1], [Value.int .i64 0], [encS [102, 105]], [Value.int .i64 0], rfl, rfl, rfl, rfl, rfl⟩)) rfl ?_
           rintro v110 wv93 ⟨gg136, xs43, hvv110, hegg136⟩
           have hlegg136 := hegg136.ext.le hs.imm
           replace hs := hs.callOwn hegg136
           simp only [List.cons_append, List.nil_append] at hs
           replace hagg5 := hagg5.trans hlegg136
           refine OW_nil ?_
           replace hS := hS.to hagg5 (hs.sub (.cons _ (.cons _ (.cons _ (.cons_cons _ .slnil)))))
           refine ⟨fun _ => hS, ?_⟩
           refine A1 rfl <| OW_g rfl rfl rfl (by rw [hg8]; rfl) <| OW_lit (τ := tT_Confusion) [Value.agg (List.toArray (α := Value) [Value.int .i64 0, Value.int .i64 4])] [(T_Confusion.mk 0 4)] Try.underlying37 ti40 (by decide) hs rfl rfl rfl ⟨⟨[Value.int .i64 0], [Value.int .i64 4], rfl, rfl, rfl⟩, trivial⟩ rfl ?_
           intro v111 wv94 xs44 hrelxs44 hs
           refine OW_nil ?_
           replace hS := hS.to hagg5 (hs.sub (.cons _ (.cons _ (.cons _ (.cons _ (.cons_cons _ .slnil))))))
           refine ⟨fun _ => hS, ?_⟩
           refine A1 rfl ?_
           have hsL22 := hs
           have hagg5L22 := hagg5
           obtain ⟨gg137, hlegg137, hRgg137, hs⟩ := hs.relRow (i := 1) rfl hvv110
           replace hrelxs44 := hrelxs44.mono hlegg137
           replace hagg5 := hagg5.trans hlegg137
           obtain ⟨gg138, hlegg138, hRgg138, hs⟩ := hs.relRow (i := 0) rfl hrelxs44
           replace hRgg137 := hRgg137.mono hlegg138
           replace hagg5 := hagg5.trans hlegg138
           refine CG rfl rfl rfl (by rw [hg8]; rfl) [v110, v111] cf12 rfl (ref14_Same_ok hrv19 hs.imm hRgg137 hRgg138) rfl ?_
           rintro v112 wv95 ⟨gg139, hvv112, hegg139⟩
           obtain ⟨gg140, hlegg140, hs⟩ := hsL22.lent hegg139
           replace hagg5 := hagg5L22.trans hlegg140
           obtain ⟨cs154, rfl, hcs154⟩ := hvv112
           have hcs154 : cs154 = _ := hcs154; subst hcs154
           refine OW_nil ?_
           replace hS := hS.to hagg5 (hs.sub (.cons _ (.cons _ (.cons _ (.cons _ (.cons_cons _ .slnil))))))
           refine ⟨fun _ => hS, ?_⟩
           refine A rfl hS (fun w9 ⟨g9, hle9, hs⟩ => r_pickT (v := Value.bool rv19) rfl hg8 rfl) rfl <| A rfl hS (fun w9 ⟨g9, hle9, hs⟩ => r_assign (v := Value.bool rv19) rfl) rfl <| AN ?_
           obtain rfl := Option.some.inj hM
           exact ⟨gg140, rfl, hds, hagg5, (hs.sub (.cons _ (.cons _ (.cons _ (.cons _ (.cons _ .slnil))))))⟩
          refine A2 rfl ?_ ?_
          ·refine OW_g rfl rfl rfl (by rw [hg8]; rfl) <| OW_lit (τ := tT_Confusion) [Value.agg (List.toArray (α := Value) [Value.int .i64 0, Value.int .i64 4])] [(T_Confusion.mk 0 4)] Try.underlying37 ti40 (by decide) hs rfl rfl rfl ⟨⟨[Value.int .i64 0], [Value.int .i64 4], rfl, rfl, rfl⟩, trivial⟩ rfl ?_
           intro v113 wv96 xs45 hrelxs45 hs
           refine OW_nil ?_
           replace hS := hS.to hagg5 (hs.sub (.cons _ (.cons _ (.cons _ (.cons_cons _ .slnil)))))
           refine ⟨fun _ => hS, ?_⟩
           refine A1 rfl <| CG rfl rfl rfl (by rw [hg8]; rfl) [Value.agg (List.toArray (α := Value) [v109, Value.bool rv17.Layout, Value.int .i64 rv17.Misspelling, Value.int .i64 rv17.Unclosed]), Value.agg (List.toArray (α := Value) [Value.int .i64 1, Value.int .i64 0, encS [102, 105], Value.int .i64 0])] cf13 rfl (lexrepair_Confusions_ok hrv18 hs.imm (⟨[v109], [Value.bool rv17.Layout], [Value.int .i64 rv17.Misspelling], [Value.int .i64 rv17.Unclosed], rfl, ⟨_, rfl, hRv109⟩, rfl, rfl, rfl⟩) (⟨[Value.int .i64 1], [Value.int .i64 0], [encS [102, 105]], [Value.int .i64 0], rfl, rfl, rfl, rfl, rfl⟩)) rfl ?_
           rintro v114 wv97 ⟨gg141, xs46, hvv114, hegg141⟩
           have hlegg141 := hegg141.ext.le hs.imm
           replace hs := hs.callOwn hegg141
           simp only [List.cons_append, List.nil_append] at hs
           replace hrelxs45 := hrelxs45.mono hlegg141
           replace hagg5 := hagg5.trans hlegg141
           refine OW_nil ?_
           replace hS := hS.to hagg5 (hs.sub (.cons _ (.cons _ (.cons _ (.cons _ (.cons_cons _ .slnil))))))
           refine ⟨fun _ => hS, ?_⟩
           refine A1 rfl ?_
           have hsL23 := hs
           have hagg5L23 := hagg5
           obtain ⟨gg142, hlegg142, hRgg142, hs⟩ := hs.relRow (i := 0) rfl hvv114
           replace hrelxs45 := hrelxs45.mono hlegg142
           replace hagg5 := hagg5.trans hlegg142
           obtain ⟨gg143, hlegg143, hRgg143, hs⟩ := hs.relRow (i := 0) rfl hrelxs45
           replace hRgg142 := hRgg142.mono hlegg143
           replace hagg5 := hagg5.trans hlegg143
           refine CG rfl rfl rfl (by rw [hg8]; rfl) [v114, v113] cf12 rfl (ref14_Same_ok hrv19 hs.imm hRgg142 hRgg143) rfl ?_
           rintro v115 wv98 ⟨gg144, hvv115, hegg144⟩
           obtain ⟨gg145, hlegg145, hs⟩ := hsL23.lent hegg144
           replace hagg5 := hagg5L23.trans hlegg145
           obtain ⟨cs155, rfl, hcs155⟩ := hvv115
           have hcs155 : cs155 = _ := hcs155; subst hcs155
           refine OW_nil ?_
           replace hS := hS.to hagg5 (hs.sub (.cons _ (.cons _ (.cons _ (.cons _ (.cons_cons _ .slnil))))))
           refine ⟨fun _ => hS, ?_⟩
           refine A rfl hS (fun w9 ⟨g9, hle9, hs⟩ => r_pickT (v := Value.bool rv19) rfl hg8 rfl) rfl <| A rfl hS (fun w9 ⟨g9, hle9, hs⟩ => r_assign (v := Value.bool rv19) rfl) rfl <| AN ?_
           obtain rfl := Option.some.inj hM
           exact ⟨gg145, rfl, hds, hagg5, (hs.sub (.cons _ (.cons _ (.cons _ (.cons _ (.cons _ .slnil))))))⟩
          trivial
         refine A2 rfl ?_ ?_
         ·refine OW_g rfl rfl rfl (by rw [hg8]; rfl) <| OW_lit (τ := tT_Confusion) [Value.agg (List.toArray (α := Value) [Value.int .i64 0, Value.int .i64 4])] [(T_Confusion.mk 0 4)] Try.underlying37 ti40 (by decide) hs rfl rfl rfl ⟨⟨[Value.int .i64 0], [Value.int .i64 4], rfl, rfl, rfl⟩, trivial⟩ rfl ?_
          intro v116 wv99 xs47 hrelxs47 hs
          refine OW_nil ?_
          replace hS := hS.to hagg5 (hs.sub (.cons _ (.cons _ (.cons _ (.cons_cons _ .slnil)))))
          refine ⟨fun _ => hS, ?_⟩
          refine A1 rfl <| CG rfl rfl rfl (by rw [hg8]; rfl) [] cf10 rfl (ref11_Small_ok hrv17 hs.imm) rfl ?_
          rintro v117 wv100 ⟨gg146, hvv117, hegg146⟩
          have hlegg146 := hegg146.le hs.imm
          replace hs := hs.call hegg146
          replace hrelxs47 := hrelxs47.mono hlegg146
          replace hagg5 := hagg5.trans hlegg146
          obtain ⟨cs156, rfl, hcs156⟩ := hvv117
          obtain ⟨cs157, cs158, cs159, cs160, rfl, hcs157, hcs158, hcs159, hcs160⟩ := hcs156
          obtain ⟨v118, rfl, hRv118⟩ := hcs157
          have hcs158 : cs158 = _ := hcs158; subst hcs158
          have hcs159 : cs159 = _ := hcs159; subst hcs159
          have hcs160 : cs160 = _ := hcs160; subst hcs160
          refine OW_nil ?_
          replace hS := hS.to hagg5 (hs.sub (.cons _ (.cons _ (.cons _ (.cons_cons _ .slnil)))))
          refine ⟨fun _ => hS, ?_⟩
          refine A1 rfl <| CG rfl rfl rfl (by rw [hg8]; rfl) [Value.agg (List.toArray (α := Value) [v118, Value.bool rv17.Layout, Value.int .i64 rv17.Misspelling, Value.int .i64 rv17.Unclosed]), Value.agg (List.toArray (α := Value) [Value.int .i64 1, Value.int .i64 0, encS [102, 105], Value.int .i64 0])] cf13 rfl (lexrepair_Confusions_ok hrv18 hs.imm (⟨[v118], [Value.bool rv17.Layout], [Value.int .i64 rv17.Misspelling], [Value.int .i64 rv17.Unclosed], rfl, ⟨_, rfl, hRv118⟩, rfl, rfl, rfl⟩) (⟨[Value.int .i64 1], [Value.int .i64 0], [encS [102, 105]], [Value.int .i64 0], rfl, rfl, rfl, rfl, rfl⟩)) rfl ?_
          rintro v119 wv101 ⟨gg147, xs48, hvv119, hegg147⟩
          have hlegg147 := hegg147.ext.le hs.imm
          replace hs := hs.callOwn hegg147
          simp only [List.cons_append, List.nil_append] at hs
          replace hrelxs47 := hrelxs47.mono hlegg147
          replace hagg5 := hagg5.trans hlegg147
          refine OW_nil ?_
          replace hS := hS.to hagg5 (hs.sub (.cons _ (.cons _ (.cons _ (.cons _ (.cons_cons _ .slnil))))))
          refine ⟨fun _ => hS, ?_⟩
          refine A1 rfl ?_
          have hsL24 := hs
          have hagg5L24 := hagg5
          obtain ⟨gg148, hlegg148, hRgg148, hs⟩ := hs.relRow (i := 0) rfl hvv119
          replace hrelxs47 := hrelxs47.mono hlegg148
          replace hagg5 := hagg5.trans hlegg148
          obtain ⟨gg149, hlegg149, hRgg149, hs⟩ := hs.relRow (i := 0) rfl hrelxs47
          replace hRgg148 := hRgg148.mono hlegg149
          replace hagg5 := hagg5.trans hlegg149
          refine CG rfl rfl rfl (by rw [hg8]; rfl) [v119, v116] cf12 rfl (ref14_Same_ok hrv19 hs.imm hRgg148 hRgg149) rfl ?_
          rintro v120 wv102 ⟨gg150, hvv120, hegg150⟩
          obtain ⟨gg151, hlegg151, hs⟩ := hsL24.lent hegg150
          replace hagg5 := hagg5L24.trans hlegg151
          obtain ⟨cs161, rfl, hcs161⟩ := hvv120
          have hcs161 : cs161 = _ := hcs161; subst hcs161
          refine OW_nil ?_
          replace hS := hS.to hagg5 (hs.sub (.cons _ (.cons _ (.cons _ (.cons _ (.cons_cons _ .slnil))))))
          refine ⟨fun _ => hS, ?_⟩
          refine A rfl hS (fun w9 ⟨g9, hle9, hs⟩ => r_pickT (v := Value.bool rv19) rfl hg8 rfl) rfl <| A rfl hS (fun w9 ⟨g9, hle9, hs⟩ => r_assign (v := Value.bool rv19) rfl) rfl <| AN ?_
          obtain rfl := Option.some.inj hM
          exact ⟨gg151, rfl, hds, hagg5, (hs.sub (.cons _ (.cons _ (.cons _ (.cons _ (.cons _ .slnil))))))⟩
         trivial
        refine A2 rfl ?_ ?_
        ·refine OW_g rfl rfl rfl (by rw [hg7]; rfl) <| OW_lit (τ := tT_Confusion) [Value.agg (List.toArray (α := Value) [Value.int .i64 3, Value.int .i64 6])] [(T_Confusion.mk 3 6)] Try.underlying37 ti40 (by decide) hs rfl rfl rfl ⟨⟨[Value.int .i64 3], [Value.int .i64 6], rfl, rfl, rfl⟩, trivial⟩ rfl ?_
         intro v121 wv103 xs49 hrelxs49 hs
         refine OW_nil ?_
         replace hS := hS.to hagg5 (hs.sub (.cons _ (.cons_cons _ .slnil)))
         refine ⟨fun _ => hS, ?_⟩
         refine A1 rfl <| CG rfl rfl rfl (by rw [hg7]; rfl) [Value.agg (List.toArray (α := Value) [v104, Value.bool rv14.Layout, Value.int .i64 rv14.Misspelling, Value.int .i64 rv14.Unclosed]), Value.agg (List.toArray (α := Value) [Value.int .i64 e4.Kind, Value.int .i64 e4.At, encS e4.Text, Value.int .i64 e4.Look])] cf13 rfl (lexrepair_Confusions_ok hrv15 hs.imm (⟨[v104], [Value.bool rv14.Layout], [Value.int .i64 rv14.Misspelling], [Value.int .i64 rv14.Unclosed], rfl, ⟨_, rfl, hRv104⟩, rfl, rfl, rfl⟩) (⟨[Value.int .i64 e4.Kind], [Value.int .i64 e4.At], [encS e4.Text], [Value.int .i64 e4.Look], rfl, rfl, rfl, rfl, rfl⟩)) rfl ?_
         rintro v122 wv104 ⟨gg152, xs50, hvv122, hegg152⟩
         have hlegg152 := hegg152.ext.le hs.imm
         replace hs := hs.callOwn hegg152
         simp only [List.cons_append, List.nil_append] at hs
         replace hrelxs49 := hrelxs49.mono hlegg152
         replace hagg5 := hagg5.trans hlegg152
         refine OW_nil ?_
         replace hS := hS.to hagg5 (hs.sub (.cons _ (.cons _ (.cons_cons _ .slnil))))
         refine ⟨fun _ => hS, ?_⟩
         refine A1 rfl ?_
         have hsL25 := hs
         have hagg5L25 := hagg5
         obtain ⟨gg153, hlegg153, hRgg153, hs⟩ := hs.relRow (i := 0) rfl hvv122
         replace hrelxs49 := hrelxs49.mono hlegg153
         replace hagg5 := hagg5.trans hlegg153
         obtain ⟨gg154, hlegg154, hRgg154, hs⟩ := hs.relRow (i := 0) rfl hrelxs49
         replace hRgg153 := hRgg153.mono hlegg154
         replace hagg5 := hagg5.trans hlegg154
         refine CG rfl rfl rfl (by rw [hg7]; rfl) [v122, v121] cf12 rfl (ref14_Same_ok hrv16 hs.imm hRgg153 hRgg154) rfl ?_
         rintro v123 wv105 ⟨gg155, hvv123, hegg155⟩
         obtain ⟨gg156, hlegg156, hs⟩ := hsL25.lent hegg155
         replace hagg5 := hagg5L25.trans hlegg156
         obtain ⟨cs162, rfl, hcs162⟩ := hvv123
         have hcs162 : cs162 = _ := hcs162; subst hcs162
         refine OW_nil ?_
         replace hS := hS.to hagg5 (hs.sub (.cons _ (.cons _ (.cons_cons _ .slnil))))
         refine ⟨fun _ => hS, ?_⟩
         refine A rfl hS (fun w9 ⟨g9, hle9, hs⟩ => r_pickT (v := Value.bool rv16) rfl hg7 rfl) rfl <| A rfl hS (fun w9 ⟨g9, hle9, hs⟩ => r_move (v := Value.bool rv16) rfl) rfl <| AG rfl rfl rfl rfl (by rw [hg8]; rfl) hS (fun w9 ⟨g9, hle9, hs⟩ => r_build (vs := [(0, Value.int .i64 1), (2, encS [102, 105])]) (cs := [Value.int .i64 1, Value.int .i64 0, encS [102, 105], Value.int .i64 0]) rfl (by kernel_rfl)) rfl <| AG rfl rfl rfl rfl (by rw [hg8]; rfl) hS (fun w9 ⟨g9, hle9, hs⟩ => r_build (vs := [(0, Value.int .i64 0), (1, Value.int .i64 4)]) (cs := [Value.int .i64 0, Value.int .i64 4]) rfl (by kernel_rfl)) rfl <| A2 rfl ?_ ?_
         ·refine CG rfl rfl rfl (by rw [hg8]; rfl) [] cf10 rfl (ref11_Small_ok hrv17 hs.imm) rfl ?_
          rintro v124 wv106 ⟨gg157, hvv124, hegg157⟩
          have hlegg157 := hegg157.le hs.imm
          replace hs := hs.call hegg157
          replace hagg5 := hagg5.trans hlegg157
          obtain ⟨cs163, rfl, hcs163⟩ := hvv124
          obtain ⟨cs164, cs165, cs166, cs167, rfl, hcs164, hcs165, hcs166, hcs167⟩ := hcs163
          obtain ⟨v125, rfl, hRv125⟩ := hcs164
          have hcs165 : cs165 = _ := hcs165; subst hcs165
          have hcs166 : cs166 = _ := hcs166; subst hcs166
          have hcs167 : cs167 = _ := hcs167; subst hcs167
          refine OW_nil ?_
          replace hS := hS.to hagg5 (hs.sub (.cons _ (.cons _ (.cons_cons _ .slnil))))
          refine ⟨fun _ => hS, ?_⟩
          refine A2 rfl ?_ ?_
          ·refine CG rfl rfl rfl (by rw [hg8]; rfl) [Value.agg (List.toArray (α := Value) [v125, Value.bool rv17.Layout, Value.int .i64 rv17.Misspelling, Value.int .i64 rv17.Unclosed]), Value.agg (List.toArray (α := Value) [Value.int .i64 1, Value.int .i64 0, encS [102, 105], Value.int .i64 0])] cf13 rfl (lexrepair_Confusions_ok hrv18 hs.imm (⟨[v125], [Value.bool rv17.Layout], [Value.int .i64 rv17.Misspelling], [Value.int .i64 rv17.Unclosed], rfl, ⟨_, rfl, hRv125⟩, rfl, rfl, rfl⟩) (⟨[Value.int .i64 1], [Value.int .i64 0], [encS [102, 105]], [Value.int .i64 0], rfl, rfl, rfl, rfl, rfl⟩)) rfl ?_
           rintro v126 wv107 ⟨gg158, xs51, hvv126, hegg158⟩
           have hlegg158 := hegg158.ext.le hs.imm
           replace hs := hs.callOwn hegg158
           simp only [List.cons_append, List.nil_append] at hs
           replace hagg5 := hagg5.trans hlegg158
           refine OW_nil ?_
           replace hS := hS.to hagg5 (hs.sub (.cons _ (.cons _ (.cons _ (.cons_cons _ .slnil)))))
           refine ⟨fun _ => hS, ?_⟩
           refine A1 rfl <| OW_g rfl rfl rfl (by rw [hg8]; rfl) <| OW_lit (τ := tT_Confusion) [Value.agg (List.toArray (α := Value) [Value.int .i64 0, Value.int .i64 4])] [(T_Confusion.mk 0 4)] Try.underlying37 ti40 (by decide) hs rfl rfl rfl ⟨⟨[Value.int .i64 0], [Value.int .i64 4], rfl, rfl, rfl⟩, trivial⟩ rfl ?_
           intro v127 wv108 xs52 hrelxs52 hs
           refine OW_nil ?_
           replace hS := hS.to hagg5 (hs.sub (.cons _ (.cons _ (.cons _ (.cons _ (.cons_cons _ .slnil))))))
           refine ⟨fun _ => hS, ?_⟩
           refine A1 rfl ?_
           have hsL26 := hs
           have hagg5L26 := hagg5
           obtain ⟨gg159, hlegg159, hRgg159, hs⟩ := hs.relRow (i := 1) rfl hvv126
           replace hrelxs52 := hrelxs52.mono hlegg159
           replace hagg5 := hagg5.trans hlegg159
           obtain ⟨gg160, hlegg160, hRgg160, hs⟩ := hs.relRow (i := 0) rfl hrelxs52
           replace hRgg159 := hRgg159.mono hlegg160
           replace hagg5 := hagg5.trans hlegg160
           refine CG rfl rfl rfl (by rw [hg8]; rfl) [v126, v127] cf12 rfl (ref14_Same_ok hrv19 hs.imm hRgg159 hRgg160) rfl ?_
           rintro v128 wv109 ⟨gg161, hvv128, hegg161⟩
           obtain ⟨gg162, hlegg162, hs⟩ := hsL26.lent hegg161
           replace hagg5 := hagg5L26.trans hlegg162
           obtain ⟨cs168, rfl, hcs168⟩ := hvv128
           have hcs168 : cs168 = _ := hcs168; subst hcs168
           refine OW_nil ?_
           replace hS := hS.to hagg5 (hs.sub (.cons _ (.cons _ (.cons _ (.cons _ (.cons_cons _ .slnil))))))
           refine ⟨fun _ => hS, ?_⟩
           refine A rfl hS (fun w9 ⟨g9, hle9, hs⟩ => r_pickT (v := Value.bool rv19) rfl hg8 rfl) rfl <| A rfl hS (fun w9 ⟨g9, hle9, hs⟩ => r_assign (v := Value.bool rv19) rfl) rfl <| AN ?_
           obtain rfl := Option.some.inj hM
           exact ⟨gg162, rfl, hds, hagg5, (hs.sub (.cons _ (.cons _ (.cons _ (.cons _ (.cons _ .slnil))))))⟩
          refine A2 rfl ?_ ?_
          ·refine OW_g rfl rfl rfl (by rw [hg8]; rfl) <| OW_lit (τ := tT_Confusion) [Value.agg (List.toArray (α := Value) [Value.int .i64 0, Value.int .i64 4])] [(T_Confusion.mk 0 4)] Try.underlying37 ti40 (by decide) hs rfl rfl rfl ⟨⟨[Value.int .i64 0], [Value.int .i64 4], rfl, rfl, rfl⟩, trivial⟩ rfl ?_
           intro v129 wv110 xs53 hrelxs53 hs
           refine OW_nil ?_
           replace hS := hS.to hagg5 (hs.sub (.cons _ (.cons _ (.cons _ (.cons_cons _ .slnil)))))
           refine ⟨fun _ => hS, ?_⟩
           refine A1 rfl <| CG rfl rfl rfl (by rw [hg8]; rfl) [Value.agg (List.toArray (α := Value) [v125, Value.bool rv17.Layout, Value.int .i64 rv17.Misspelling, Value.int .i64 rv17.Unclosed]), Value.agg (List.toArray (α := Value) [Value.int .i64 1, Value.int .i64 0, encS [102, 105], Value.int .i64 0])] cf13 rfl (lexrepair_Confusions_ok hrv18 hs.imm (⟨[v125], [Value.bool rv17.Layout], [Value.int .i64 rv17.Misspelling], [Value.int .i64 rv17.Unclosed], rfl, ⟨_, rfl, hRv125⟩, rfl, rfl, rfl⟩) (⟨[Value.int .i64 1], [Value.int .i64 0], [encS [102, 105]], [Value.int .i64 0], rfl, rfl, rfl, rfl, rfl⟩)) rfl ?_
           rintro v130 wv111 ⟨gg163, xs54, hvv130, hegg163⟩
           have hlegg163 := hegg163.ext.le hs.imm
           replace hs := hs.callOwn hegg163
           simp only [List.cons_append, List.nil_append] at hs
           replace hrelxs53 := hrelxs53.mono hlegg163
           replace hagg5 := hagg5.trans hlegg163
           refine OW_nil ?_
           replace hS := hS.to hagg5 (hs.sub (.cons _ (.cons _ (.cons _ (.cons _ (.cons_cons _ .slnil))))))
           refine ⟨fun _ => hS, ?_⟩
           refine A1 rfl ?_
           have hsL27 := hs
           have hagg5L27 := hagg5
           obtain ⟨gg164, hlegg164, hRgg164, hs⟩ := hs.relRow (i := 0) rfl hvv130
           replace hrelxs53 := hrelxs53.mono hlegg164
           replace hagg5 := hagg5.trans hlegg164
           obtain ⟨gg165, hlegg165, hRgg165, hs⟩ := hs.relRow (i := 0) rfl hrelxs53
           replace hRgg164 := hRgg164.mono hlegg165
           replace hagg5 := hagg5.trans hlegg165
           refine CG rfl rfl rfl (by rw [hg8]; rfl) [v130, v129] cf12 rfl (ref14_Same_ok hrv19 hs.imm hRgg164 hRgg165) rfl ?_
           rintro v131 wv112 ⟨gg166, hvv131, hegg166⟩
           obtain ⟨gg167, hlegg167, hs⟩ := hsL27.lent hegg166
           replace hagg5 := hagg5L27.trans hlegg167
           obtain ⟨cs169, rfl, hcs169⟩ := hvv131
           have hcs169 : cs169 = _ := hcs169; subst hcs169
           refine OW_nil ?_
           replace hS := hS.to hagg5 (hs.sub (.cons _ (.cons _ (.cons _ (.cons _ (.cons_cons _ .slnil))))))
           refine ⟨fun _ => hS, ?_⟩
           refine A rfl hS (fun w9 ⟨g9, hle9, hs⟩ => r_pickT (v := Value.bool rv19) rfl hg8 rfl) rfl <| A rfl hS (fun w9 ⟨g9, hle9, hs⟩ => r_assign (v := Value.bool rv19) rfl) rfl <| AN ?_
           obtain rfl := Option.some.inj hM
           exact ⟨gg167, rfl, hds, hagg5, (hs.sub (.cons _ (.cons _ (.cons _ (.cons _ (.cons _ .slnil))))))⟩
          trivial
         refine A2 rfl ?_ ?_
         ·refine OW_g rfl rfl rfl (by rw [hg8]; rfl) <| OW_lit (τ := tT_Confusion) [Value.agg (List.toArray (α := Value) [Value.int .i64 0, Value.int .i64 4])] [(T_Confusion.mk 0 4)] Try.underlying37 ti40 (by decide) hs rfl rfl rfl ⟨⟨[Value.int .i64 0], [Value.int .i64 4], rfl, rfl, rfl⟩, trivial⟩ rfl ?_
          intro v132 wv113 xs55 hrelxs55 hs
          refine OW_nil ?_
          replace hS := hS.to hagg5 (hs.sub (.cons _ (.cons _ (.cons _ (.cons_cons _ .slnil)))))
          refine ⟨fun _ => hS, ?_⟩
          refine A1 rfl <| CG rfl rfl rfl (by rw [hg8]; rfl) [] cf10 rfl (ref11_Small_ok hrv17 hs.imm) rfl ?_
          rintro v133 wv114 ⟨gg168, hvv133, hegg168⟩
          have hlegg168 := hegg168.le hs.imm
          replace hs := hs.call hegg168
          replace hrelxs55 := hrelxs55.mono hlegg168
          replace hagg5 := hagg5.trans hlegg168
          obtain ⟨cs170, rfl, hcs170⟩ := hvv133
          obtain ⟨cs171, cs172, cs173, cs174, rfl, hcs171, hcs172, hcs173, hcs174⟩ := hcs170
          obtain ⟨v134, rfl, hRv134⟩ := hcs171
          have hcs172 : cs172 = _ := hcs172; subst hcs172
          have hcs173 : cs173 = _ := hcs173; subst hcs173
          have hcs174 : cs174 = _ := hcs174; subst hcs174
          refine OW_nil ?_
          replace hS := hS.to hagg5 (hs.sub (.cons _ (.cons _ (.cons _ (.cons_cons _ .slnil)))))
          refine ⟨fun _ => hS, ?_⟩
          refine A1 rfl <| CG rfl rfl rfl (by rw [hg8]; rfl) [Value.agg (List.toArray (α := Value) [v134, Value.bool rv17.Layout, Value.int .i64 rv17.Misspelling, Value.int .i64 rv17.Unclosed]), Value.agg (List.toArray (α := Value) [Value.int .i64 1, Value.int .i64 0, encS [102, 105], Value.int .i64 0])] cf13 rfl (lexrepair_Confusions_ok hrv18 hs.imm (⟨[v134], [Value.bool rv17.Layout], [Value.int .i64 rv17.Misspelling], [Value.int .i64 rv17.Unclosed], rfl, ⟨_, rfl, hRv134⟩, rfl, rfl, rfl⟩) (⟨[Value.int .i64 1], [Value.int .i64 0], [encS [102, 105]], [Value.int .i64 0], rfl, rfl, rfl, rfl, rfl⟩)) rfl ?_
          rintro v135 wv115 ⟨gg169, xs56, hvv135, hegg169⟩
          have hlegg169 := hegg169.ext.le hs.imm
          replace hs := hs.callOwn hegg169
          simp only [List.cons_append, List.nil_append] at hs
          replace hrelxs55 := hrelxs55.mono hlegg169
          replace hagg5 := hagg5.trans hlegg169
          refine OW_nil ?_
          replace hS := hS.to hagg5 (hs.sub (.cons _ (.cons _ (.cons _ (.cons _ (.cons_cons _ .slnil))))))
          refine ⟨fun _ => hS, ?_⟩
          refine A1 rfl ?_
          have hsL28 := hs
          have hagg5L28 := hagg5
          obtain ⟨gg170, hlegg170, hRgg170, hs⟩ := hs.relRow (i := 0) rfl hvv135
          replace hrelxs55 := hrelxs55.mono hlegg170
          replace hagg5 := hagg5.trans hlegg170
          obtain ⟨gg171, hlegg171, hRgg171, hs⟩ := hs.relRow (i := 0) rfl hrelxs55
          replace hRgg170 := hRgg170.mono hlegg171
          replace hagg5 := hagg5.trans hlegg171
          refine CG rfl rfl rfl (by rw [hg8]; rfl) [v135, v132] cf12 rfl (ref14_Same_ok hrv19 hs.imm hRgg170 hRgg171) rfl ?_
          rintro v136 wv116 ⟨gg172, hvv136, hegg172⟩
          obtain ⟨gg173, hlegg173, hs⟩ := hsL28.lent hegg172
          replace hagg5 := hagg5L28.trans hlegg173
          obtain ⟨cs175, rfl, hcs175⟩ := hvv136
          have hcs175 : cs175 = _ := hcs175; subst hcs175
          refine OW_nil ?_
          replace hS := hS.to hagg5 (hs.sub (.cons _ (.cons _ (.cons _ (.cons _ (.cons_cons _ .slnil))))))
          refine ⟨fun _ => hS, ?_⟩
          refine A rfl hS (fun w9 ⟨g9, hle9, hs⟩ => r_pickT (v := Value.bool rv19) rfl hg8 rfl) rfl <| A rfl hS (fun w9 ⟨g9, hle9, hs⟩ => r_assign (v := Value.bool rv19) rfl) rfl <| AN ?_
          obtain rfl := Option.some.inj hM
          exact ⟨gg173, rfl, hds, hagg5, (hs.sub (.cons _ (.cons _ (.cons _ (.cons _ (.cons _ .slnil))))))⟩
         trivial
        trivial
       refine A2 rfl ?_ ?_
       ·refine OW_g rfl rfl rfl (by rw [hg7]; rfl) <| OW_lit (τ := tT_Confusion) [Value.agg (List.toArray (α := Value) [Value.int .i64 3, Value.int .i64 6])] [(T_Confusion.mk 3 6)] Try.underlying37 ti40 (by decide) hs rfl rfl rfl ⟨⟨[Value.int .i64 3], [Value.int .i64 6], rfl, rfl, rfl⟩, trivial⟩ rfl ?_
        intro v137 wv117 xs57 hrelxs57 hs
        refine OW_nil ?_
        replace hS := hS.to hagg5 (hs.sub (.cons _ (.cons_cons _ .slnil)))
        refine ⟨fun _ => hS, ?_⟩
        refine A1 rfl <| CG rfl rfl rfl (by rw [hg7]; rfl) [] cf10 rfl (ref11_Small_ok hrv14 hs.imm) rfl ?_
        rintro v138 wv118 ⟨gg174, hvv138, hegg174⟩
        have hlegg174 := hegg174.le hs.imm
        replace hs := hs.call hegg174
        replace hrelxs57 := hrelxs57.mono hlegg174
        replace hagg5 := hagg5.trans hlegg174
        obtain ⟨cs176, rfl, hcs176⟩ := hvv138
        obtain ⟨cs177, cs178, cs179, cs180, rfl, hcs177, hcs178, hcs179, hcs180⟩ := hcs176
        obtain ⟨v139, rfl, hRv139⟩ := hcs177
        have hcs178 : cs178 = _ := hcs178; subst hcs178
        have hcs179 : cs179 = _ := hcs179; subst hcs179
        have hcs180 : cs180 = _ := hcs180; subst hcs180
        refine OW_nil ?_
        replace hS := hS.to hagg5 (hs.sub (.cons _ (.cons_cons _ .slnil)))
        refine ⟨fun _ => hS, ?_⟩
        refine A1 rfl <| CG rfl rfl rfl (by rw [hg7]; rfl) [Value.agg (List.toArray (α := Value) [v139, Value.bool rv14.Layout, Value.int .i64 rv14.Misspelling, Value.int .i64 rv14.Unclosed]), Value.agg (List.toArray (α := Value) [Value.int .i64 e4.Kind, Value.int .i64 e4.At, encS e4.Text, Value.int .i64 e4.Look])] cf13 rfl (lexrepair_Confusions_ok hrv15 hs.imm (⟨[v139], [Value.bool rv14.Layout], [Value.int .i64 rv14.Misspelling], [Value.int .i64 rv14.Unclosed], rfl, ⟨_, rfl, hRv139⟩, rfl, rfl, rfl⟩) (⟨[Value.int .i64 e4.Kind], [Value.int .i64 e4.At], [encS e4.Text], [Value.int .i64 e4.Look], rfl, rfl, rfl, rfl, rfl⟩)) rfl ?_
        rintro v140 wv119 ⟨gg175, xs58, hvv140, hegg175⟩
        have hlegg175 := hegg175.ext.le hs.imm
        replace hs := hs.callOwn hegg175
        simp only [List.cons_append, List.nil_append] at hs
        replace hrelxs57 := hrelxs57.mono hlegg175
        replace hagg5 := hagg5.trans hlegg175
        refine OW_nil ?_
        replace hS := hS.to hagg5 (hs.sub (.cons _ (.cons _ (.cons_cons _ .slnil))))
        refine ⟨fun _ => hS, ?_⟩
        refine A1 rfl ?_
        have hsL29 := hs
        have hagg5L29 := hagg5
        obtain ⟨gg176, hlegg176, hRgg176, hs⟩ := hs.relRow (i := 0) rfl hvv140
        replace hrelxs57 := hrelxs57.mono hlegg176
        replace hagg5 := hagg5.trans hlegg176
        obtain ⟨gg177, hlegg177, hRgg177, hs⟩ := hs.relRow (i := 0) rfl hrelxs57
        replace hRgg176 := hRgg176.mono hlegg177
        replace hagg5 := hagg5.trans hlegg177
        refine CG rfl rfl rfl (by rw [hg7]; rfl) [v140, v137] cf12 rfl (ref14_Same_ok hrv16 hs.imm hRgg176 hRgg177) rfl ?_
        rintro v141 wv120 ⟨gg178, hvv141, hegg178⟩
        obtain ⟨gg179, hlegg179, hs⟩ := hsL29.lent hegg178
        replace hagg5 := hagg5L29.trans hlegg179
        obtain ⟨cs181, rfl, hcs181⟩ := hvv141
        have hcs181 : cs181 = _ := hcs181; subst hcs181
        refine OW_nil ?_
        replace hS := hS.to hagg5 (hs.sub (.cons _ (.cons _ (.cons_cons _ .slnil))))
        refine ⟨fun _ => hS, ?_⟩
        refine A rfl hS (fun w9 ⟨g9, hle9, hs⟩ => r_pickT (v := Value.bool rv16) rfl hg7 rfl) rfl <| A rfl hS (fun w9 ⟨g9, hle9, hs⟩ => r_move (v := Value.bool rv16) rfl) rfl <| AG rfl rfl rfl rfl (by rw [hg8]; rfl) hS (fun w9 ⟨g9, hle9, hs⟩ => r_build (vs := [(0, Value.int .i64 1), (2, encS [102, 105])]) (cs := [Value.int .i64 1, Value.int .i64 0, encS [102, 105], Value.int .i64 0]) rfl (by kernel_rfl)) rfl <| AG rfl rfl rfl rfl (by rw [hg8]; rfl) hS (fun w9 ⟨g9, hle9, hs⟩ => r_build (vs := [(0, Value.int .i64 0), (1, Value.int .i64 4)]) (cs := [Value.int .i64 0, Value.int .i64 4]) rfl (by kernel_rfl)) rfl <| A2 rfl ?_ ?_
        ·refine CG rfl rfl rfl (by rw [hg8]; rfl) [] cf10 rfl (ref11_Small_ok hrv17 hs.imm) rfl ?_
         rintro v142 wv121 ⟨gg180, hvv142, hegg180⟩
         have hlegg180 := hegg180.le hs.imm
         replace hs := hs.call hegg180
         replace hagg5 := hagg5.trans hlegg180
         obtain ⟨cs182, rfl, hcs182⟩ := hvv142
         obtain ⟨cs183, cs184, cs185, cs186, rfl, hcs183, hcs184, hcs185, hcs186⟩ := hcs182
         obtain ⟨v143, rfl, hRv143⟩ := hcs183
         have hcs184 : cs184 = _ := hcs184; subst hcs184
         have hcs185 : cs185 = _ := hcs185; subst hcs185
         have hcs186 : cs186 = _ := hcs186; subst hcs186
         refine OW_nil ?_
         replace hS := hS.to hagg5 (hs.sub (.cons _ (.cons _ (.cons_cons _ .slnil))))
         refine ⟨fun _ => hS, ?_⟩
         refine A2 rfl ?_ ?_
         ·refine CG rfl rfl rfl (by rw [hg8]; rfl) [Value.agg (List.toArray (α := Value) [v143, Value.bool rv17.Layout, Value.int .i64 rv17.Misspelling, Value.int .i64 rv17.Unclosed]), Value.agg (List.toArray (α := Value) [Value.int .i64 1, Value.int .i64 0, encS [102, 105], Value.int .i64 0])] cf13 rfl (lexrepair_Confusions_ok hrv18 hs.imm (⟨[v143], [Value.bool rv17.Layout], [Value.int .i64 rv17.Misspelling], [Value.int .i64 rv17.Unclosed], rfl, ⟨_, rfl, hRv143⟩, rfl, rfl, rfl⟩) (⟨[Value.int .i64 1], [Value.int .i64 0], [encS [102, 105]], [Value.int .i64 0], rfl, rfl, rfl, rfl, rfl⟩)) rfl ?_
          rintro v144 wv122 ⟨gg181, xs59, hvv144, hegg181⟩
          have hlegg181 := hegg181.ext.le hs.imm
          replace hs := hs.callOwn hegg181
          simp only [List.cons_append, List.nil_append] at hs
          replace hagg5 := hagg5.trans hlegg181
          refine OW_nil ?_
          replace hS := hS.to hagg5 (hs.sub (.cons _ (.cons _ (.cons _ (.cons_cons _ .slnil)))))
          refine ⟨fun _ => hS, ?_⟩
          refine A1 rfl <| OW_g rfl rfl rfl (by rw [hg8]; rfl) <| OW_lit (τ := tT_Confusion) [Value.agg (List.toArray (α := Value) [Value.int .i64 0, Value.int .i64 4])] [(T_Confusion.mk 0 4)] Try.underlying37 ti40 (by decide) hs rfl rfl rfl ⟨⟨[Value.int .i64 0], [Value.int .i64 4], rfl, rfl, rfl⟩, trivial⟩ rfl ?_
          intro v145 wv123 xs60 hrelxs60 hs
          refine OW_nil ?_
          replace hS := hS.to hagg5 (hs.sub (.cons _ (.cons _ (.cons _ (.cons _ (.cons_cons _ .slnil))))))
          refine ⟨fun _ => hS, ?_⟩
          refine A1 rfl ?_
          have hsL30 := hs
          have hagg5L30 := hagg5
          obtain ⟨gg182, hlegg182, hRgg182, hs⟩ := hs.relRow (i := 1) rfl hvv144
          replace hrelxs60 := hrelxs60.mono hlegg182
          replace hagg5 := hagg5.trans hlegg182
          obtain ⟨gg183, hlegg183, hRgg183, hs⟩ := hs.relRow (i := 0) rfl hrelxs60
          replace hRgg182 := hRgg182.mono hlegg183
          replace hagg5 := hagg5.trans hlegg183
          refine CG rfl rfl rfl (by rw [hg8]; rfl) [v144, v145] cf12 rfl (ref14_Same_ok hrv19 hs.imm hRgg182 hRgg183) rfl ?_
          rintro v146 wv124 ⟨gg184, hvv146, hegg184⟩
          obtain ⟨gg185, hlegg185, hs⟩ := hsL30.lent hegg184
          replace hagg5 := hagg5L30.trans hlegg185
          obtain ⟨cs187, rfl, hcs187⟩ := hvv146
          have hcs187 : cs187 = _ := hcs187; subst hcs187
          refine OW_nil ?_
          replace hS := hS.to hagg5 (hs.sub (.cons _ (.cons _ (.cons _ (.cons _ (.cons_cons _ .slnil))))))
          refine ⟨fun _ => hS, ?_⟩
          refine A rfl hS (fun w9 ⟨g9, hle9, hs⟩ => r_pickT (v := Value.bool rv19) rfl hg8 rfl) rfl <| A rfl hS (fun w9 ⟨g9, hle9, hs⟩ => r_assign (v := Value.bool rv19) rfl) rfl <| AN ?_
          obtain rfl := Option.some.inj hM
          exact ⟨gg185, rfl, hds, hagg5, (hs.sub (.cons _ (.cons _ (.cons _ (.cons _ (.cons _ .slnil))))))⟩
         refine A2 rfl ?_ ?_
         ·refine OW_g rfl rfl rfl (by rw [hg8]; rfl) <| OW_lit (τ := tT_Confusion) [Value.agg (List.toArray (α := Value) [Value.int .i64 0, Value.int .i64 4])] [(T_Confusion.mk 0 4)] Try.underlying37 ti40 (by decide) hs rfl rfl rfl ⟨⟨[Value.int .i64 0], [Value.int .i64 4], rfl, rfl, rfl⟩, trivial⟩ rfl ?_
          intro v147 wv125 xs61 hrelxs61 hs
          refine OW_nil ?_
          replace hS := hS.to hagg5 (hs.sub (.cons _ (.cons _ (.cons _ (.cons_cons _ .slnil)))))
          refine ⟨fun _ => hS, ?_⟩
          refine A1 rfl <| CG rfl rfl rfl (by rw [hg8]; rfl) [Value.agg (List.toArray (α := Value) [v143, Value.bool rv17.Layout, Value.int .i64 rv17.Misspelling, Value.int .i64 rv17.Unclosed]), Value.agg (List.toArray (α := Value) [Value.int .i64 1, Value.int .i64 0, encS [102, 105], Value.int .i64 0])] cf13 rfl (lexrepair_Confusions_ok hrv18 hs.imm (⟨[v143], [Value.bool rv17.Layout], [Value.int .i64 rv17.Misspelling], [Value.int .i64 rv17.Unclosed], rfl, ⟨_, rfl, hRv143⟩, rfl, rfl, rfl⟩) (⟨[Value.int .i64 1], [Value.int .i64 0], [encS [102, 105]], [Value.int .i64 0], rfl, rfl, rfl, rfl, rfl⟩)) rfl ?_
          rintro v148 wv126 ⟨gg186, xs62, hvv148, hegg186⟩
          have hlegg186 := hegg186.ext.le hs.imm
          replace hs := hs.callOwn hegg186
          simp only [List.cons_append, List.nil_append] at hs
          replace hrelxs61 := hrelxs61.mono hlegg186
          replace hagg5 := hagg5.trans hlegg186
          refine OW_nil ?_
          replace hS := hS.to hagg5 (hs.sub (.cons _ (.cons _ (.cons _ (.cons _ (.cons_cons _ .slnil))))))
          refine ⟨fun _ => hS, ?_⟩
          refine A1 rfl ?_
          have hsL31 := hs
          have hagg5L31 := hagg5
          obtain ⟨gg187, hlegg187, hRgg187, hs⟩ := hs.relRow (i := 0) rfl hvv148
          replace hrelxs61 := hrelxs61.mono hlegg187
          replace hagg5 := hagg5.trans hlegg187
          obtain ⟨gg188, hlegg188, hRgg188, hs⟩ := hs.relRow (i := 0) rfl hrelxs61
          replace hRgg187 := hRgg187.mono hlegg188
          replace hagg5 := hagg5.trans hlegg188
          refine CG rfl rfl rfl (by rw [hg8]; rfl) [v148, v147] cf12 rfl (ref14_Same_ok hrv19 hs.imm hRgg187 hRgg188) rfl ?_
          rintro v149 wv127 ⟨gg189, hvv149, hegg189⟩
          obtain ⟨gg190, hlegg190, hs⟩ := hsL31.lent hegg189
          replace hagg5 := hagg5L31.trans hlegg190
          obtain ⟨cs188, rfl, hcs188⟩ := hvv149
          have hcs188 : cs188 = _ := hcs188; subst hcs188
          refine OW_nil ?_
          replace hS := hS.to hagg5 (hs.sub (.cons _ (.cons _ (.cons _ (.cons _ (.cons_cons _ .slnil))))))
          refine ⟨fun _ => hS, ?_⟩
          refine A rfl hS (fun w9 ⟨g9, hle9, hs⟩ => r_pickT (v := Value.bool rv19) rfl hg8 rfl) rfl <| A rfl hS (fun w9 ⟨g9, hle9, hs⟩ => r_assign (v := Value.bool rv19) rfl) rfl <| AN ?_
          obtain rfl := Option.some.inj hM
          exact ⟨gg190, rfl, hds, hagg5, (hs.sub (.cons _ (.cons _ (.cons _ (.cons _ (.cons _ .slnil))))))⟩
         trivial
        refine A2 rfl ?_ ?_
        ·refine OW_g rfl rfl rfl (by rw [hg8]; rfl) <| OW_lit (τ := tT_Confusion) [Value.agg (List.toArray (α := Value) [Value.int .i64 0, Value.int .i64 4])] [(T_Confusion.mk 0 4)] Try.underlying37 ti40 (by decide) hs rfl rfl rfl ⟨⟨[Value.int .i64 0], [Value.int .i64 4], rfl, rfl, rfl⟩, trivial⟩ rfl ?_
         intro v150 wv128 xs63 hrelxs63 hs
         refine OW_nil ?_
         replace hS := hS.to hagg5 (hs.sub (.cons _ (.cons _ (.cons _ (.cons_cons _ .slnil)))))
         refine ⟨fun _ => hS, ?_⟩
         refine A1 rfl <| CG rfl rfl rfl (by rw [hg8]; rfl) [] cf10 rfl (ref11_Small_ok hrv17 hs.imm) rfl ?_
         rintro v151 wv129 ⟨gg191, hvv151, hegg191⟩
         have hlegg191 := hegg191.le hs.imm
         replace hs := hs.call hegg191
         replace hrelxs63 := hrelxs63.mono hlegg191
         replace hagg5 := hagg5.trans hlegg191
         obtain ⟨cs189, rfl, hcs189⟩ := hvv151
         obtain ⟨cs190, cs191, cs192, cs193, rfl, hcs190, hcs191, hcs192, hcs193⟩ := hcs189
         obtain ⟨v152, rfl, hRv152⟩ := hcs190
         have hcs191 : cs191 = _ := hcs191; subst hcs191
         have hcs192 : cs192 = _ := hcs192; subst hcs192
         have hcs193 : cs193 = _ := hcs193; subst hcs193
         refine OW_nil ?_
         replace hS := hS.to hagg5 (hs.sub (.cons _ (.cons _ (.cons _ (.cons_cons _ .slnil)))))
         refine ⟨fun _ => hS, ?_⟩
         refine A1 rfl <| CG rfl rfl rfl (by rw [hg8]; rfl) [Value.agg (List.toArray (α := Value) [v152, Value.bool rv17.Layout, Value.int .i64 rv17.Misspelling, Value.int .i64 rv17.Unclosed]), Value.agg (List.toArray (α := Value) [Value.int .i64 1, Value.int .i64 0, encS [102, 105], Value.int .i64 0])] cf13 rfl (lexrepair_Confusions_ok hrv18 hs.imm (⟨[v152], [Value.bool rv17.Layout], [Value.int .i64 rv17.Misspelling], [Value.int .i64 rv17.Unclosed], rfl, ⟨_, rfl, hRv152⟩, rfl, rfl, rfl⟩) (⟨[Value.int .i64 1], [Value.int .i64 0], [encS [102, 105]], [Value.int .i64 0], rfl, rfl, rfl, rfl, rfl⟩)) rfl ?_
         rintro v153 wv130 ⟨gg192, xs64, hvv153, hegg192⟩
         have hlegg192 := hegg192.ext.le hs.imm
         replace hs := hs.callOwn hegg192
         simp only [List.cons_append, List.nil_append] at hs
         replace hrelxs63 := hrelxs63.mono hlegg192
         replace hagg5 := hagg5.trans hlegg192
         refine OW_nil ?_
         replace hS := hS.to hagg5 (hs.sub (.cons _ (.cons _ (.cons _ (.cons _ (.cons_cons _ .slnil))))))
         refine ⟨fun _ => hS, ?_⟩
         refine A1 rfl ?_
         have hsL32 := hs
         have hagg5L32 := hagg5
         obtain ⟨gg193, hlegg193, hRgg193, hs⟩ := hs.relRow (i := 0) rfl hvv153
         replace hrelxs63 := hrelxs63.mono hlegg193
         replace hagg5 := hagg5.trans hlegg193
         obtain ⟨gg194, hlegg194, hRgg194, hs⟩ := hs.relRow (i := 0) rfl hrelxs63
         replace hRgg193 := hRgg193.mono hlegg194
         replace hagg5 := hagg5.trans hlegg194
         refine CG rfl rfl rfl (by rw [hg8]; rfl) [v153, v150] cf12 rfl (ref14_Same_ok hrv19 hs.imm hRgg193 hRgg194) rfl ?_
         rintro v154 wv131 ⟨gg195, hvv154, hegg195⟩
         obtain ⟨gg196, hlegg196, hs⟩ := hsL32.lent hegg195
         replace hagg5 := hagg5L32.trans hlegg196
         obtain ⟨cs194, rfl, hcs194⟩ := hvv154
         have hcs194 : cs194 = _ := hcs194; subst hcs194
         refine OW_nil ?_
         replace hS := hS.to hagg5 (hs.sub (.cons _ (.cons _ (.cons _ (.cons _ (.cons_cons _ .slnil))))))
         refine ⟨fun _ => hS, ?_⟩
         refine A rfl hS (fun w9 ⟨g9, hle9, hs⟩ => r_pickT (v := Value.bool rv19) rfl hg8 rfl) rfl <| A rfl hS (fun w9 ⟨g9, hle9, hs⟩ => r_assign (v := Value.bool rv19) rfl) rfl <| AN ?_
         obtain rfl := Option.some.inj hM
         exact ⟨gg196, rfl, hds, hagg5, (hs.sub (.cons _ (.cons _ (.cons _ (.cons _ (.cons _ .slnil))))))⟩
        trivial
       trivial
      ·refine WP_any (.s 0 (.q 1 (.q 2 (.s 3 (.q 4 (.q 5 (.q 6 (.q 8 (.q 9 (.q 10 (.q 12 (.c 7 (.c 11 (.s 13 (.s 14 (.q 15 (.q 16 (.q 18 (.q 20 (.c 17 (.c 19 (.s 21 (.s 22 (.q 23 (.q 24 (.leaf))))) (.c 21 (.s 19 (.s 22 (.q 23 (.q 24 (.leaf))))) (.n))) (.c 21 (.s 17 (.s 19 (.s 22 (.q 23 (.q 24 (.leaf)))))) (.n))))))))) (.c 13 (.s 11 (.s 14 (.q 15 (.q 16 (.q 18 (.q 20 (.c 17 (.c 19 (.s 21 (.s 22 (.q 23 (.q 24 (.leaf))))) (.c 21 (.s 19 (.s 22 (.q 23 (.q 24 (.leaf))))) (.n))) (.c 21 (.s 17 (.s 19 (.s 22 (.q 23 (.q 24 (.leaf)))))) (.n))))))))) (.n))) (.c 13 (.s 7 (.s 11 (.s 14 (.q 15 (.q 16 (.q 18 (.q 20 (.c 17 (.c 19 (.s 21 (.s 22 (.q 23 (.q 24 (.leaf))))) (.c 21 (.s 19 (.s 22 (.q 23 (.q 24 (.leaf))))) (.n))) (.c 21 (.s 17 (.s 19 (.s 22 (.q 23 (.q 24 (.leaf)))))) (.n)))))))))) (.n)))))))))))))) (SS g0 w0 gg5 [.row v4 35 tT_Token.sz l1.length xs2]) mo (by decide +kernel) ?_
       have hs := hs.drew
       have hS : SS g0 w0 gg5 [.row v4 35 tT_Token.sz l1.length xs2] _ := ⟨gg5, Hle.refl _, hs⟩
       refine A1 rfl <| C [encS [104, 119, 105, 108, 101], encS [119, 104, 105, 108, 101]] cf7 rfl (lexrepair_Distance_ok hrv12 hs.imm) rfl ?_
       rintro v155 wv132 ⟨gg197, hvv155, hegg197⟩
       have hlegg197 := hegg197.le hs.imm
       replace hs := hs.call hegg197
       replace hvv4 := hvv4.mono hlegg197
       replace hagg5 := hagg5.trans hlegg197
       obtain ⟨cs195, rfl, hcs195⟩ := hvv155
       have hcs195 : cs195 = _ := hcs195; subst hcs195
       refine OW_nil ?_
       replace hS := hS.to hagg5 hs
       refine ⟨fun _ => hS, ?_⟩
       refine A rfl hS (fun w9 ⟨g9, hle9, hs⟩ => r_eql rfl rfl) rfl <| A rfl hS (fun w9 ⟨g9, hle9, hs⟩ => r_move (v := Value.bool (rv12 == 1)) rfl) rfl <| A1 rfl <| CG rfl rfl rfl (by rw [hg6]; rfl) [encS [99, 97], encS [97, 98, 99]] cf7 rfl (lexrepair_Distance_ok hrv13 hs.imm) rfl ?_
       rintro v156 wv133 ⟨gg198, hvv156, hegg198⟩
       have hlegg198 := hegg198.le hs.imm
       replace hs := hs.call hegg198
       replace hvv4 := hvv4.mono hlegg198
       replace hagg5 := hagg5.trans hlegg198
       obtain ⟨cs196, rfl, hcs196⟩ := hvv156
       have hcs196 : cs196 = _ := hcs196; subst hcs196
       refine OW_nil ?_
       replace hS := hS.to hagg5 hs
       refine ⟨fun _ => hS, ?_⟩
       refine AG rfl rfl rfl rfl (by rw [hg6]; rfl) hS (fun w9 ⟨g9, hle9, hs⟩ => r_eql rfl rfl) rfl <| A rfl hS (fun w9 ⟨g9, hle9, hs⟩ => r_pickT (v := Value.bool (rv13 == 3)) rfl hg6 rfl) rfl <| A rfl hS (fun w9 ⟨g9, hle9, hs⟩ => r_move (v := Value.bool (rv13 == 3)) rfl) rfl <| AG rfl rfl rfl rfl (by rw [hg7]; rfl) hS (fun w9 ⟨g9, hle9, hs⟩ => r_move (v := v4) rfl) rfl ?_
       obtain ⟨b8, cb8, hvb8, cs197, hcs197, hcb8⟩ := hs.rowEl (i := 0) rfl hvv4 he4
       obtain ⟨cs198, cs199, cs200, cs201, rfl, hcs198, hcs199, hcs200, hcs201⟩ := hcs197
       have hcs198 : cs198 = _ := hcs198; subst hcs198
       have hcs199 : cs199 = _ := hcs199; subst hcs199
       have hcs200 : cs200 = _ := hcs200; subst hcs200
       have hcs201 : cs201 = _ := hcs201; subst hcs201
       refine AG rfl rfl rfl rfl (by rw [hg7]; rfl) hS (fun w9 ⟨g9, hle9, hs⟩ => r_idxSl Try.underlying27 ti35 (v := v4) rfl hvb8 rfl (idxL_some he4).1 (idxL_some he4).2.1) rfl <| AG rfl rfl rfl rfl (by rw [hg7]; rfl) hS (fun w9 ⟨g9, hle9, hs⟩ => r_loadEl (cs := [Value.int .i64 e4.Kind, Value.int .i64 e4.At, encS e4.Text, Value.int .i64 e4.Look]) ti35 rfl rfl (.inl rfl) (hcb8 _ (hs.at (i := 0) rfl)) (v := Value.agg (List.toArray (α := Value) [Value.int .i64 e4.Kind, Value.int .i64 e4.At, encS e4.Text, Value.int .i64 e4.Look])) rfl) rfl <| AG rfl rfl rfl rfl (by rw [hg7]; rfl) hS (fun w9 ⟨g9, hle9, hs⟩ => r_build (vs := [(0, Value.int .i64 3), (1, Value.int .i64 6)]) (cs := [Value.int .i64 3, Value.int .i64 6]) rfl (by kernel_rfl)) rfl ?_
       refine A2 rfl ?_ ?_
       ·refine CG rfl rfl rfl (by rw [hg7]; rfl) [] cf10 rfl (ref11_Small_ok hrv14 hs.imm) rfl ?_
        rintro v157 wv134 ⟨gg199, hvv157, hegg199⟩
        have hlegg199 := hegg199.le hs.imm
        replace hs := hs.call hegg199
        replace hagg5 := hagg5.trans hlegg199
        obtain ⟨cs202, rfl, hcs202⟩ := hvv157
        obtain ⟨cs203, cs204, cs205, cs206, rfl, hcs203, hcs204, hcs205, hcs206⟩ := hcs202
        obtain ⟨v158, rfl, hRv158⟩ := hcs203
        have hcs204 : cs204 = _ := hcs204; subst hcs204
        have hcs205 : cs205 = _ := hcs205; subst hcs205
        have hcs206 : cs206 = _ := hcs206; subst hcs206
        refine OW_nil ?_
        replace hS := hS.to hagg5 hs
        refine ⟨fun _ => hS, ?_⟩
        refine A2 rfl ?_ ?_
        ·refine CG rfl rfl rfl (by rw [hg7]; rfl) [Value.agg (List.toArray (α := Value) [v158, Value.bool rv14.Layout, Value.int .i64 rv14.Misspelling, Value.int .i64 rv14.Unclosed]), Value.agg (List.toArray (α := Value) [Value.int .i64 e4.Kind, Value.int .i64 e4.At, encS e4.Text, Value.int .i64 e4.Look])] cf13 rfl (lexrepair_Confusions_ok hrv15 hs.imm (⟨[v158], [Value.bool rv14.Layout], [Value.int .i64 rv14.Misspelling], [Value.int .i64 rv14.Unclosed], rfl, ⟨_, rfl, hRv158⟩, rfl, rfl, rfl⟩) (⟨[Value.int .i64 e4.Kind], [Value.int .i64 e4.At], [encS e4.Text], [Value.int .i64 e4.Look], rfl, rfl, rfl, rfl, rfl⟩)) rfl ?_
         rintro v159 wv135 ⟨gg200, xs65, hvv159, hegg200⟩
         have hlegg200 := hegg200.ext.le hs.imm
         replace hs := hs.callOwn hegg200
         simp only [List.cons_append, List.nil_append] at hs
         replace hagg5 := hagg5.trans hlegg200
         refine OW_nil ?_
         replace hS := hS.to hagg5 (hs.sub (.cons _ (.cons_cons _ .slnil)))
         refine ⟨fun _ => hS, ?_⟩
         refine A1 rfl <| OW_g rfl rfl rfl (by rw [hg7]; rfl) <| OW_lit (τ := tT_Confusion) [Value.agg (List.toArray (α := Value) [Value.int .i64 3, Value.int .i64 6])] [(T_Confusion.mk 3 6)] Try.underlying37 ti40 (by decide) hs rfl rfl rfl ⟨⟨[Value.int .i64 3], [Value.int .i64 6], rfl, rfl, rfl⟩, trivial⟩ rfl ?_
         intro v160 wv136 xs66 hrelxs66 hs
         refine OW_nil ?_
         replace hS := hS.to hagg5 (hs.sub (.cons _ (.cons _ (.cons_cons _ .slnil))))
         refine ⟨fun _ => hS, ?_⟩
         refine A1 rfl ?_
         have hsL33 := hs
         have hagg5L33 := hagg5
         obtain ⟨gg201, hlegg201, hRgg201, hs⟩ := hs.relRow (i := 1) rfl hvv159
         replace hrelxs66 := hrelxs66.mono hlegg201
         replace hagg5 := hagg5.trans hlegg201
         obtain ⟨gg202, hlegg202, hRgg202, hs⟩ := hs.relRow (i := 0) rfl hrelxs66
         replace hRgg201 := hRgg201.mono hlegg202
         replace hagg5 := hagg5.trans hlegg202
         refine CG rfl rfl rfl (by rw [hg7]; rfl) [v159, v160] cf12 rfl (ref14_Same_ok hrv16 hs.imm hRgg201 hRgg202) rfl ?_
         rintro v161 wv137 ⟨gg203, hvv161, hegg203⟩
         obtain ⟨gg204, hlegg204, hs⟩ := hsL33.lent hegg203
         replace hagg5 := hagg5L33.trans hlegg204
         obtain ⟨cs207, rfl, hcs207⟩ := hvv161
         have hcs207 : cs207 = _ := hcs207; subst hcs207
         refine OW_nil ?_
         replace hS := hS.to hagg5 (hs.sub (.cons _ (.cons _ (.cons_cons _ .slnil))))
         refine ⟨fun _ => hS, ?_⟩
         refine A rfl hS (fun w9 ⟨g9, hle9, hs⟩ => r_pickT (v := Value.bool rv16) rfl hg7 rfl) rfl <| A rfl hS (fun w9 ⟨g9, hle9, hs⟩ => r_move (v := Value.bool rv16) rfl) rfl <| AK rfl rfl rfl rfl (by rw [hg8]; rfl) hS rfl <| AK rfl rfl rfl rfl (by rw [hg8]; rfl) hS rfl <| A2 rfl ?_ ?_
         ·refine OK rfl rfl rfl (by rw [hg8]; rfl) rfl <| OW_nil ⟨fun _ => hS, ?_⟩
          refine A2 rfl ?_ ?_
          ·refine OK rfl rfl rfl (by rw [hg8]; rfl) rfl <| OW_nil ⟨fun _ => hS, ?_⟩
           refine A1 rfl <| OK rfl rfl rfl (by rw [hg8]; rfl) rfl <| OW_nil ⟨fun _ => hS, ?_⟩
           refine A1 rfl <| OK rfl rfl rfl (by rw [hg8]; rfl) rfl <| OW_nil ⟨fun _ => hS, ?_⟩
           refine A rfl hS (fun w9 ⟨g9, hle9, hs⟩ => r_pickF (v := Value.bool false) rfl hg8 rfl) rfl <| A rfl hS (fun w9 ⟨g9, hle9, hs⟩ => r_assign (v := Value.bool false) rfl) rfl <| AN ?_
           obtain rfl := Option.some.inj hM
           exact ⟨gg204, rfl, hds, hagg5, (hs.sub (.cons _ (.cons _ (.cons _ .slnil))))⟩
          refine A2 rfl ?_ ?_
          ·refine OK rfl rfl rfl (by rw [hg8]; rfl) rfl <| OW_nil ⟨fun _ => hS, ?_⟩
           refine A1 rfl <| OK rfl rfl rfl (by rw [hg8]; rfl) rfl <| OW_nil ⟨fun _ => hS, ?_⟩
           refine A1 rfl <| OK rfl rfl rfl (by rw [hg8]; rfl) rfl <| OW_nil ⟨fun _ => hS, ?_⟩
           refine A rfl hS (fun w9 ⟨g9, hle9, hs⟩ => r_pickF (v := Value.bool false) rfl hg8 rfl) rfl <| A rfl hS (fun w9 ⟨g9, hle9, hs⟩ => r_assign (v := Value.bool false) rfl) rfl <| AN ?_
           obtain rfl := Option.some.inj hM
           exact ⟨gg204, rfl, hds, hagg5, (hs.sub (.cons _ (.cons _ (.cons _ .slnil))))⟩
          trivial
         refine A2 rfl ?_ ?_
         ·refine OK rfl rfl rfl (by rw [hg8]; rfl) rfl <| OW_nil ⟨fun _ => hS, ?_⟩
          refine A1 rfl <| OK rfl rfl rfl (by rw [hg8]; rfl) rfl <| OW_nil ⟨fun _ => hS, ?_⟩
          refine A1 rfl <| OK rfl rfl rfl (by rw [hg8]; rfl) rfl <| OW_nil ⟨fun _ => hS, ?_⟩
          refine A1 rfl <| OK rfl rfl rfl (by rw [hg8]; rfl) rfl <| OW_nil ⟨fun _ => hS, ?_⟩
          refine A rfl hS (fun w9 ⟨g9, hle9, hs⟩ => r_pickF (v := Value.bool false) rfl hg8 rfl) rfl <| A rfl hS (fun w9 ⟨g9, hle9, hs⟩ => r_assign (v := Value.bool false) rfl) rfl <| AN ?_
          obtain rfl := Option.some.inj hM
          exact ⟨gg204, rfl, hds, hagg5, (hs.sub (.cons _ (.cons _ (.cons _ .slnil))))⟩
         trivial
        refine A2 rfl ?_ ?_
        ·refine OW_g rfl rfl rfl (by rw [hg7]; rfl) <| OW_lit (τ := tT_Confusion) [Value.agg (List.toArray (α := Value) [Value.int .i64 3, Value.int .i64 6])] [(T_Confusion.mk 3 6)] Try.underlying37 ti40 (by decide) hs rfl rfl rfl ⟨⟨[Value.int .i64 3], [Value.int .i64 6], rfl, rfl, rfl⟩, trivial⟩ rfl ?_
         intro v162 wv138 xs67 hrelxs67 hs
         refine OW_nil ?_
         replace hS := hS.to hagg5 (hs.sub (.cons _ (.cons_cons _ .slnil)))
         refine ⟨fun _ => hS, ?_⟩
         refine A1 rfl <| CG rfl rfl rfl (by rw [hg7]; rfl) [Value.agg (List.toArray (α := Value) [v158, Value.bool rv14.Layout, Value.int .i64 rv14.Misspelling, Value.int .i64 rv14.Unclosed]), Value.agg (List.toArray (α := Value) [Value.int .i64 e4.Kind, Value.int .i64 e4.At, encS e4.Text, Value.int .i64 e4.Look])] cf13 rfl (lexrepair_Confusions_ok hrv15 hs.imm (⟨[v158], [Value.bool rv14.Layout], [Value.int .i64 rv14.Misspelling], [Value.int .i64 rv14.Unclosed], rfl, ⟨_, rfl, hRv158⟩, rfl, rfl, rfl⟩) (⟨[Value.int .i64 e4.Kind], [Value.int .i64 e4.At], [encS e4.Text], [Value.int .i64 e4.Look], rfl, rfl, rfl, rfl, rfl⟩)) rfl ?_
         rintro v163 wv139 ⟨gg205, xs68, hvv163, hegg205⟩
         have hlegg205 := hegg205.ext.le hs.imm
         replace hs := hs.callOwn hegg205
         simp only [List.cons_append, List.nil_append] at hs
         replace hrelxs67 := hrelxs67.mono hlegg205
         replace hagg5 := hagg5.trans hlegg205
         refine OW_nil ?_
         replace hS := hS.to hagg5 (hs.sub (.cons _ (.cons _ (.cons_cons _ .slnil))))
         refine ⟨fun _ => hS, ?_⟩
         refine A1 rfl ?_
         have hsL34 := hs
         have hagg5L34 := hagg5
         obtain ⟨gg206, hlegg206, hRgg206, hs⟩ := hs.relRow (i := 0) rfl hvv163
         replace hrelxs67 := hrelxs67.mono hlegg206
         replace hagg5 := hagg5.trans hlegg206
         obtain ⟨gg207, hlegg207, hRgg207, hs⟩ := hs.relRow (i := 0) rfl hrelxs67
         replace hRgg206 := hRgg206.mono hlegg207
         replace hagg5 := hagg5.trans hlegg207
         refine CG rfl rfl rfl (by rw [hg7]; rfl) [v163, v162] cf12 rfl (ref14_Same_ok hrv16 hs.imm hRgg206 hRgg207) rfl ?_
         rintro v164 wv140 ⟨gg208, hvv164, hegg208⟩
         obtain ⟨gg209, hlegg209, hs⟩ := hsL34.lent hegg208
         replace hagg5 := hagg5L34.trans hlegg209
         obtain ⟨cs208, rfl, hcs208⟩ := hvv164
         have hcs208 : cs208 = _ := hcs208; subst hcs208
         refine OW_nil ?_
         replace hS := hS.to hagg5 (hs.sub (.cons _ (.cons _ (.cons_cons _ .slnil))))
         refine ⟨fun _ => hS, ?_⟩
         refine A rfl hS (fun w9 ⟨g9, hle9, hs⟩ => r_pickT (v := Value.bool rv16) rfl hg7 rfl) rfl <| A rfl hS (fun w9 ⟨g9, hle9, hs⟩ => r_move (v := Value.bool rv16) rfl) rfl <| AK rfl rfl rfl rfl (by rw [hg8]; rfl) hS rfl <| AK rfl rfl rfl rfl (by rw [hg8]; rfl) hS rfl <| A2 rfl ?_ ?_
         ·refine OK rfl rfl rfl (by rw [hg8]; rfl) rfl <| OW_nil ⟨fun _ => hS, ?_⟩
          refine A2 rfl ?_ ?_
          ·refine OK rfl rfl rfl (by rw [hg8]; rfl) rfl <| OW_nil ⟨fun _ => hS, ?_⟩
           refine A1 rfl <| OK rfl rfl rfl (by rw [hg8]; rfl) rfl <| OW_nil ⟨fun _ => hS, ?_⟩
           refine A1 rfl <| OK rfl rfl rfl (by rw [hg8]; rfl) rfl <| OW_nil ⟨fun _ => hS, ?_⟩
           refine A rfl hS (fun w9 ⟨g9, hle9, hs⟩ => r_pickF (v := Value.bool false) rfl hg8 rfl) rfl <| A rfl hS (fun w9 ⟨g9, hle9, hs⟩ => r_assign (v := Value.bool false) rfl) rfl <| AN ?_
           obtain rfl := Option.some.inj hM
           exact ⟨gg209, rfl, hds, hagg5, (hs.sub (.cons _ (.cons _ (.cons _ .slnil))))⟩
          refine A2 rfl ?_ ?_
          ·refine OK rfl rfl rfl (by rw [hg8]; rfl) rfl <| OW_nil ⟨fun _ => hS, ?_⟩
           refine A1 rfl <| OK rfl rfl rfl (by rw [hg8]; rfl) rfl <| OW_nil ⟨fun _ => hS, ?_⟩
           refine A1 rfl <| OK rfl rfl rfl (by rw [hg8]; rfl) rfl <| OW_nil ⟨fun _ => hS, ?_⟩
           refine A rfl hS (fun w9 ⟨g9, hle9, hs⟩ => r_pickF (v := Value.bool false) rfl hg8 rfl) rfl <| A rfl hS (fun w9 ⟨g9, hle9, hs⟩ => r_assign (v := Value.bool false) rfl) rfl <| AN ?_
           obtain rfl := Option.some.inj hM
           exact ⟨gg209, rfl, hds, hagg5, (hs.sub (.cons _ (.cons _ (.cons _ .slnil))))⟩
          trivial
         refine A2 rfl ?_ ?_
         ·refine OK rfl rfl rfl (by rw [hg8]; rfl) rfl <| OW_nil ⟨fun _ => hS, ?_⟩
          refine A1 rfl <| OK rfl rfl rfl (by rw [hg8]; rfl) rfl <| OW_nil ⟨fun _ => hS, ?_⟩
          refine A1 rfl <| OK rfl rfl rfl (by rw [hg8]; rfl) rfl <| OW_nil ⟨fun _ => hS, ?_⟩
          refine A1 rfl <| OK rfl rfl rfl (by rw [hg8]; rfl) rfl <| OW_nil ⟨fun _ => hS, ?_⟩
          refine A rfl hS (fun w9 ⟨g9, hle9, hs⟩ => r_pickF (v := Value.bool false) rfl hg8 rfl) rfl <| A rfl hS (fun w9 ⟨g9, hle9, hs⟩ => r_assign (v := Value.bool false) rfl) rfl <| AN ?_
          obtain rfl := Option.some.inj hM
          exact ⟨gg209, rfl, hds, hagg5, (hs.sub (.cons _ (.cons _ (.cons _ .slnil))))⟩
         trivial
        trivial
       refine A2 rfl ?_ ?_
       ·refine OW_g rfl rfl rfl (by rw [hg7]; rfl) <| OW_lit (τ := tT_Confusion) [Value.agg (List.toArray (α := Value) [Value.int .i64 3, Value.int .i64 6])] [(T_Confusion.mk 3 6)] Try.underlying37 ti40 (by decide) hs rfl rfl rfl ⟨⟨[Value.int .i64 3], [Value.int .i64 6], rfl, rfl, rfl⟩, trivial⟩ rfl ?_
        intro v165 wv141 xs69 hrelxs69 hs
        refine OW_nil ?_
        replace hS := hS.to hagg5 (hs.sub (.cons _ (.cons_cons _ .slnil)))
        refine ⟨fun _ => hS, ?_⟩
        refine A1 rfl <| CG rfl rfl rfl (by rw [hg7]; rfl) [] cf10 rfl (ref11_Small_ok hrv14 hs.imm) rfl ?_
        rintro v166 wv142 ⟨gg210, hvv166, hegg210⟩
        have hlegg210 := hegg210.le hs.imm
        replace hs := hs.call hegg210
        replace hrelxs69 := hrelxs69.mono hlegg210
        replace hagg5 := hagg5.trans hlegg210
        obtain ⟨cs209, rfl, hcs209⟩ := hvv166
        obtain ⟨cs210, cs211, cs212, cs213, rfl, hcs210, hcs211, hcs212, hcs213⟩ := hcs209
        obtain ⟨v167, rfl, hRv167⟩ := hcs210
        have hcs211 : cs211 = _ := hcs211; subst hcs211
        have hcs212 : cs212 = _ := hcs212; subst hcs212
        have hcs213 : cs213 = _ := hcs213; subst hcs213
        refine OW_nil ?_
        replace hS := hS.to hagg5 (hs.sub (.cons _ (.cons_cons _ .slnil)))
        refine ⟨fun _ => hS, ?_⟩
        refine A1 rfl <| CG rfl rfl rfl (by rw [hg7]; rfl) [Value.agg (List.toArray (α := Value) [v167, Value.bool rv14.Layout, Value.int .i64 rv14.Misspelling, Value.int .i64 rv14.Unclosed]), Value.agg (List.toArray (α := Value) [Value.int .i64 e4.Kind, Value.int .i64 e4.At, encS e4.Text, Value.int .i64 e4.Look])] cf13 rfl (lexrepair_Confusions_ok hrv15 hs.imm (⟨[v167], [Value.bool rv14.Layout], [Value.int .i64 rv14.Misspelling], [Value.int .i64 rv14.Unclosed], rfl, ⟨_, rfl, hRv167⟩, rfl, rfl, rfl⟩) (⟨[Value.int .i64 e4.Kind], [Value.int .i64 e4.At], [encS e4.Text], [Value.int .i64 e4.Look], rfl, rfl, rfl, rfl, rfl⟩)) rfl ?_
        rintro v168 wv143 ⟨gg211, xs70, hvv168, hegg211⟩
        have hlegg211 := hegg211.ext.le hs.imm
        replace hs := hs.callOwn hegg211
        simp only [List.cons_append, List.nil_append] at hs
        replace hrelxs69 := hrelxs69.mono hlegg211
        replace hagg5 := hagg5.trans hlegg211
        refine OW_nil ?_
        replace hS := hS.to hagg5 (hs.sub (.cons _ (.cons _ (.cons_cons _ .slnil))))
        refine ⟨fun _ => hS, ?_⟩
        refine A1 rfl ?_
        have hsL35 := hs
        have hagg5L35 := hagg5
        obtain ⟨gg212, hlegg212, hRgg212, hs⟩ := hs.relRow (i := 0) rfl hvv168
        replace hrelxs69 := hrelxs69.mono hlegg212
        replace hagg5 := hagg5.trans hlegg212
        obtain ⟨gg213, hlegg213, hRgg213, hs⟩ := hs.relRow (i := 0) rfl hrelxs69
        replace hRgg212 := hRgg212.mono hlegg213
        replace hagg5 := hagg5.trans hlegg213
        refine CG rfl rfl rfl (by rw [hg7]; rfl) [v168, v165] cf12 rfl (ref14_Same_ok hrv16 hs.imm hRgg212 hRgg213) rfl ?_
        rintro v169 wv144 ⟨gg214, hvv169, hegg214⟩
        obtain ⟨gg215, hlegg215, hs⟩ := hsL35.lent hegg214
        replace hagg5 := hagg5L35.trans hlegg215
        obtain ⟨cs214, rfl, hcs214⟩ := hvv169
        have hcs214 : cs214 = _ := hcs214; subst hcs214
        refine OW_nil ?_
        replace hS := hS.to hagg5 (hs.sub (.cons _ (.cons _ (.cons_cons _ .slnil))))
        refine ⟨fun _ => hS, ?_⟩
        refine A rfl hS (fun w9 ⟨g9, hle9, hs⟩ => r_pickT (v := Value.bool rv16) rfl hg7 rfl) rfl <| A rfl hS (fun w9 ⟨g9, hle9, hs⟩ => r_move (v := Value.bool rv16) rfl) rfl <| AK rfl rfl rfl rfl (by rw [hg8]; rfl) hS rfl <| AK rfl rfl rfl rfl (by rw [hg8]; rfl) hS rfl <| A2 rfl ?_ ?_
        ·refine OK rfl rfl rfl (by rw [hg8]; rfl) rfl <| OW_nil ⟨fun _ => hS, ?_⟩
         refine A2 rfl ?_ ?_
         ·refine OK rfl rfl rfl (by rw [hg8]; rfl) rfl <| OW_nil ⟨fun _ => hS, ?_⟩
          refine A1 rfl <| OK rfl rfl rfl (by rw [hg8]; rfl) rfl <| OW_nil ⟨fun _ => hS, ?_⟩
          refine A1 rfl <| OK rfl rfl rfl (by rw [hg8]; rfl) rfl <| OW_nil ⟨fun _ => hS, ?_⟩
          refine A rfl hS (fun w9 ⟨g9, hle9, hs⟩ => r_pickF (v := Value.bool false) rfl hg8 rfl) rfl <| A rfl hS (fun w9 ⟨g9, hle9, hs⟩ => r_assign (v := Value.bool false) rfl) rfl <| AN ?_
          obtain rfl := Option.some.inj hM
          exact ⟨gg215, rfl, hds, hagg5, (hs.sub (.cons _ (.cons _ (.cons _ .slnil))))⟩
         refine A2 rfl ?_ ?_
         ·refine OK rfl rfl rfl (by rw [hg8]; rfl) rfl <| OW_nil ⟨fun _ => hS, ?_⟩
          refine A1 rfl <| OK rfl rfl rfl (by rw [hg8]; rfl) rfl <| OW_nil ⟨fun _ => hS, ?_⟩
          refine A1 rfl <| OK rfl rfl rfl (by rw [hg8]; rfl) rfl <| OW_nil ⟨fun _ => hS, ?_⟩
          refine A rfl hS (fun w9 ⟨g9, hle9, hs⟩ => r_pickF (v := Value.bool false) rfl hg8 rfl) rfl <| A rfl hS (fun w9 ⟨g9, hle9, hs⟩ => r_assign (v := Value.bool false) rfl) rfl <| AN ?_
          obtain rfl := Option.some.inj hM
          exact ⟨gg215, rfl, hds, hagg5, (hs.sub (.cons _ (.cons _ (.cons _ .slnil))))⟩
         trivial
        refine A2 rfl ?_ ?_
        ·refine OK rfl rfl rfl (by rw [hg8]; rfl) rfl <| OW_nil ⟨fun _ => hS, ?_⟩
         refine A1 rfl <| OK rfl rfl rfl (by rw [hg8]; rfl) rfl <| OW_nil ⟨fun _ => hS, ?_⟩
         refine A1 rfl <| OK rfl rfl rfl (by rw [hg8]; rfl) rfl <| OW_nil ⟨fun _ => hS, ?_⟩
         refine A1 rfl <| OK rfl rfl rfl (by rw [hg8]; rfl) rfl <| OW_nil ⟨fun _ => hS, ?_⟩
         refine A rfl hS (fun w9 ⟨g9, hle9, hs⟩ => r_pickF (v := Value.bool false) rfl hg8 rfl) rfl <| A rfl hS (fun w9 ⟨g9, hle9, hs⟩ => r_assign (v := Value.bool false) rfl) rfl <| AN ?_
         obtain rfl := Option.some.inj hM
         exact ⟨gg215, rfl, hds, hagg5, (hs.sub (.cons _ (.cons _ (.cons _ .slnil))))⟩
        trivial
       trivial
     ·refine WP_any (.s 0 (.q 1 (.q 2 (.s 3 (.q 4 (.q 5 (.q 6 (.q 8 (.q 9 (.q 10 (.q 12 (.c 7 (.c 11 (.s 13 (.s 14 (.q 15 (.q 16 (.q 18 (.q 20 (.c 17 (.c 19 (.s 21 (.s 22 (.q 23 (.q 24 (.leaf))))) (.c 21 (.s 19 (.s 22 (.q 23 (.q 24 (.leaf))))) (.n))) (.c 21 (.s 17 (.s 19 (.s 22 (.q 23 (.q 24 (.leaf)))))) (.n))))))))) (.c 13 (.s 11 (.s 14 (.q 15 (.q 16 (.q 18 (.q 20 (.c 17 (.c 19 (.s 21 (.s 22 (.q 23 (.q 24 (.leaf))))) (.c 21 (.s 19 (.s 22 (.q 23 (.q 24 (.leaf))))) (.n))) (.c 21 (.s 17 (.s 19 (.s 22 (.q 23 (.q 24 (.leaf)))))) (.n))))))))) (.n))) (.c 13 (.s 7 (.s 11 (.s 14 (.q 15 (.q 16 (.q 18 (.q 20 (.c 17 (.c 19 (.s 21 (.s 22 (.q 23 (.q 24 (.leaf))))) (.c 21 (.s 19 (.s 22 (.q 23 (.q 24 (.leaf))))) (.n))) (.c 21 (.s 17 (.s 19 (.s 22 (.q 23 (.q 24 (.leaf)))))) (.n)))))))))) (.n)))))))))))))) (SS g0 w0 gg5 [.row v4 35 tT_Token.sz l1.length xs2]) mo (by decide +kernel) ?_
      have hs := hs.drew
      have hS : SS g0 w0 gg5 [.row v4 35 tT_Token.sz l1.length xs2] _ := ⟨gg5, Hle.refl _, hs⟩
      refine A1 rfl <| C [encS [104, 119, 105, 108, 101], encS [119, 104, 105, 108, 101]] cf7 rfl (lexrepair_Distance_ok hrv12 hs.imm) rfl ?_
      rintro v170 wv145 ⟨gg216, hvv170, hegg216⟩
      have hlegg216 := hegg216.le hs.imm
      replace hs := hs.call hegg216
      replace hagg5 := hagg5.trans hlegg216
      obtain ⟨cs215, rfl, hcs215⟩ := hvv170
      have hcs215 : cs215 = _ := hcs215; subst hcs215
      refine OW_nil ?_
      replace hS := hS.to hagg5 hs
      refine ⟨fun _ => hS, ?_⟩
      refine A rfl hS (fun w9 ⟨g9, hle9, hs⟩ => r_eql rfl rfl) rfl <| A rfl hS (fun w9 ⟨g9, hle9, hs⟩ => r_move (v := Value.bool (rv12 == 1)) rfl) rfl <| A1 rfl <| CG rfl rfl rfl (by rw [hg6]; rfl) [encS [99, 97], encS [97, 98, 99]] cf7 rfl (lexrepair_Distance_ok hrv13 hs.imm) rfl ?_
      rintro v171 wv146 ⟨gg217, hvv171, hegg217⟩
      have hlegg217 := hegg217.le hs.imm
      replace hs := hs.call hegg217
      replace hagg5 := hagg5.trans hlegg217
      obtain ⟨cs216, rfl, hcs216⟩ := hvv171
      have hcs216 : cs216 = _ := hcs216; subst hcs216
      refine OW_nil ?_
      replace hS := hS.to hagg5 hs
      refine ⟨fun _ => hS, ?_⟩
      refine AG rfl rfl rfl rfl (by rw [hg6]; rfl) hS (fun w9 ⟨g9, hle9, hs⟩ => r_eql rfl rfl) rfl <| A rfl hS (fun w9 ⟨g9, hle9, hs⟩ => r_pickT (v := Value.bool (rv13 == 3)) rfl hg6 rfl) rfl <| A rfl hS (fun w9 ⟨g9, hle9, hs⟩ => r_move (v := Value.bool (rv13 == 3)) rfl) rfl <| AK rfl rfl rfl rfl (by rw [hg7]; rfl) hS rfl <| AK rfl rfl rfl rfl (by rw [hg7]; rfl) hS rfl <| AK rfl rfl rfl rfl (by rw [hg7]; rfl) hS rfl <| AK rfl rfl rfl rfl (by rw [hg7]; rfl) hS rfl <| A2 rfl ?_ ?_
      ·refine OK rfl rfl rfl (by rw [hg7]; rfl) rfl <| OW_nil ⟨fun _ => hS, ?_⟩
       refine A2 rfl ?_ ?_
       ·refine OK rfl rfl rfl (by rw [hg7]; rfl) rfl <| OW_nil ⟨fun _ => hS, ?_⟩
        refine A1 rfl <| OK rfl rfl rfl (by rw [hg7]; rfl) rfl <| OW_nil ⟨fun _ => hS, ?_⟩
        refine A1 rfl <| OK rfl rfl rfl (by rw [hg7]; rfl) rfl <| OW_nil ⟨fun _ => hS, ?_⟩
        refine A rfl hS (fun w9 ⟨g9, hle9, hs⟩ => r_pickF (v := Value.bool false) rfl hg7 rfl) rfl <| A rfl hS (fun w9 ⟨g9, hle9, hs⟩ => r_move (v := Value.bool false) rfl) rfl <| AK rfl rfl rfl rfl rfl hS rfl <| AK rfl rfl rfl rfl rfl hS rfl <| A2 rfl ?_ ?_
        ·refine OK rfl rfl rfl rfl rfl <| OW_nil ⟨fun _ => hS, ?_⟩
         refine A2 rfl ?_ ?_
         ·refine OK rfl rfl rfl rfl rfl <| OW_nil ⟨fun _ => hS, ?_⟩
          refine A1 rfl <| OK rfl rfl rfl rfl rfl <| OW_nil ⟨fun _ => hS, ?_⟩
          refine A1 rfl <| OK rfl rfl rfl rfl rfl <| OW_nil ⟨fun _ => hS, ?_⟩
          refine A rfl hS (fun w9 ⟨g9, hle9, hs⟩ => r_pickF (v := Value.bool false) rfl rfl rfl) rfl <| A rfl hS (fun w9 ⟨g9, hle9, hs⟩ => r_assign (v := Value.bool false) rfl) rfl <| AN ?_
          obtain rfl := Option.some.inj hM
          exact ⟨gg217, rfl, hds, hagg5, (hs.sub (.cons _ .slnil))⟩
         refine A2 rfl ?_ ?_
         ·refine OK rfl rfl rfl rfl rfl <| OW_nil ⟨fun _ => hS, ?_⟩
          refine A1 rfl <| OK rfl rfl rfl rfl rfl <| OW_nil ⟨fun _ => hS, ?_⟩
          refine A1 rfl <| OK rfl rfl rfl rfl rfl <| OW_nil ⟨fun _ => hS, ?_⟩
          refine A rfl hS (fun w9 ⟨g9, hle9, hs⟩ => r_pickF (v := Value.bool false) rfl rfl rfl) rfl <| A rfl hS (fun w9 ⟨g9, hle9, hs⟩ => r_assign (v := Value.bool false) rfl) rfl <| AN ?_
          obtain rfl := Option.some.inj hM
          exact ⟨gg217, rfl, hds, hagg5, (hs.sub (.cons _ .slnil))⟩
         trivial
        refine A2 rfl ?_ ?_
        ·refine OK rfl rfl rfl rfl rfl <| OW_nil ⟨fun _ => hS, ?_⟩
         refine A1 rfl <| OK rfl rfl rfl rfl rfl <| OW_nil ⟨fun _ => hS, ?_⟩
         refine A1 rfl <| OK rfl rfl rfl rfl rfl <| OW_nil ⟨fun _ => hS, ?_⟩
         refine A1 rfl <| OK rfl rfl rfl rfl rfl <| OW_nil ⟨fun _ => hS, ?_⟩
         refine A rfl hS (fun w9 ⟨g9, hle9, hs⟩ => r_pickF (v := Value.bool false) rfl rfl rfl) rfl <| A rfl hS (fun w9 ⟨g9, hle9, hs⟩ => r_assign (v := Value.bool false) rfl) rfl <| AN ?_
         obtain rfl := Option.some.inj hM
         exact ⟨gg217, rfl, hds, hagg5, (hs.sub (.cons _ .slnil))⟩
        trivial
       refine A2 rfl ?_ ?_
       ·refine OK rfl rfl rfl (by rw [hg7]; rfl) rfl <| OW_nil ⟨fun _ => hS, ?_⟩
        refine A1 rfl <| OK rfl rfl rfl (by rw [hg7]; rfl) rfl <| OW_nil ⟨fun _ => hS, ?_⟩
        refine A1 rfl <| OK rfl rfl rfl (by rw [hg7]; rfl) rfl <| OW_nil ⟨fun _ => hS, ?_⟩
        refine A rfl hS (fun w9 ⟨g9, hle9, hs⟩ => r_pickF (v := Value.bool false) rfl hg7 rfl) rfl <| A rfl hS (fun w9 ⟨g9, hle9, hs⟩ => r_move (v := Value.bool false) rfl) rfl <| AK rfl rfl rfl rfl rfl hS rfl <| AK rfl rfl rfl rfl rfl hS rfl <| A2 rfl ?_ ?_
        ·refine OK rfl rfl rfl rfl rfl <| OW_nil ⟨fun _ => hS, ?_⟩
         refine A2 rfl ?_ ?_
         ·refine OK rfl rfl rfl rfl rfl <| OW_nil ⟨fun _ => hS, ?_⟩
          refine A1 rfl <| OK rfl rfl rfl rfl rfl <| OW_nil ⟨fun _ => hS, ?_⟩
          refine A1 rfl <| OK rfl rfl rfl rfl rfl <| OW_nil ⟨fun _ => hS, ?_⟩
          refine A rfl hS (fun w9 ⟨g9, hle9, hs⟩ => r_pickF (v := Value.bool false) rfl rfl rfl) rfl <| A rfl hS (fun w9 ⟨g9, hle9, hs⟩ => r_assign (v := Value.bool false) rfl) rfl <| AN ?_
          obtain rfl := Option.some.inj hM
          exact ⟨gg217, rfl, hds, hagg5, (hs.sub (.cons _ .slnil))⟩
         refine A2 rfl ?_ ?_
         ·refine OK rfl rfl rfl rfl rfl <| OW_nil ⟨fun _ => hS, ?_⟩
          refine A1 rfl <| OK rfl rfl rfl rfl rfl <| OW_nil ⟨fun _ => hS, ?_⟩
          refine A1 rfl <| OK rfl rfl rfl rfl rfl <| OW_nil ⟨fun _ => hS, ?_⟩
          refine A rfl hS (fun w9 ⟨g9, hle9, hs⟩ => r_pickF (v := Value.bool false) rfl rfl rfl) rfl <| A rfl hS (fun w9 ⟨g9, hle9, hs⟩ => r_assign (v := Value.bool false) rfl) rfl <| AN ?_
          obtain rfl := Option.some.inj hM
          exact ⟨gg217, rfl, hds, hagg5, (hs.sub (.cons _ .slnil))⟩
         trivial
        refine A2 rfl ?_ ?_
        ·refine OK rfl rfl rfl rfl rfl <| OW_nil ⟨fun _ => hS, ?_⟩
         refine A1 rfl <| OK rfl rfl rfl rfl rfl <| OW_nil ⟨fun _ => hS, ?_⟩
         refine A1 rfl <| OK rfl rfl rfl rfl rfl <| OW_nil ⟨fun _ => hS, ?_⟩
         refine A1 rfl <| OK rfl rfl rfl rfl rfl <| OW_nil ⟨fun _ => hS, ?_⟩
         refine A rfl hS (fun w9 ⟨g9, hle9, hs⟩ => r_pickF (v := Value.bool false) rfl rfl rfl) rfl <| A rfl hS (fun w9 ⟨g9, hle9, hs⟩ => r_assign (v := Value.bool false) rfl) rfl <| AN ?_
         obtain rfl := Option.some.inj hM
         exact ⟨gg217, rfl, hds, hagg5, (hs.sub (.cons _ .slnil))⟩
        trivial
       trivial
      refine A2 rfl ?_ ?_
      ·refine OK rfl rfl rfl (by rw [hg7]; rfl) rfl <| OW_nil ⟨fun _ => hS, ?_⟩
       refine A1 rfl <| OK rfl rfl rfl (by rw [hg7]; rfl) rfl <| OW_nil ⟨fun _ => hS, ?_⟩
       refine A1 rfl <| OK rfl rfl rfl (by rw [hg7]; rfl) rfl <| OW_nil ⟨fun _ => hS, ?_⟩
       refine A1 rfl <| OK rfl rfl rfl (by rw [hg7]; rfl) rfl <| OW_nil ⟨fun _ => hS, ?_⟩
       refine A rfl hS (fun w9 ⟨g9, hle9, hs⟩ => r_pickF (v := Value.bool false) rfl hg7 rfl) rfl <| A rfl hS (fun w9 ⟨g9, hle9, hs⟩ => r_move (v := Value.bool false) rfl) rfl <| AK rfl rfl rfl rfl rfl hS rfl <| AK rfl rfl rfl rfl rfl hS rfl <| A2 rfl ?_ ?_
       ·refine OK rfl rfl rfl rfl rfl <| OW_nil ⟨fun _ => hS, ?_⟩
        refine A2 rfl ?_ ?_
        ·refine OK rfl rfl rfl rfl rfl <| OW_nil ⟨fun _ => hS, ?_⟩
         refine A1 rfl <| OK rfl rfl rfl rfl rfl <| OW_nil ⟨fun _ => hS, ?_⟩
         refine A1 rfl <| OK rfl rfl rfl rfl rfl <| OW_nil ⟨fun _ => hS, ?_⟩
         refine A rfl hS (fun w9 ⟨g9, hle9, hs⟩ => r_pickF (v := Value.bool false) rfl rfl rfl) rfl <| A rfl hS (fun w9 ⟨g9, hle9, hs⟩ => r_assign (v := Value.bool false) rfl) rfl <| AN ?_
         obtain rfl := Option.some.inj hM
         exact ⟨gg217, rfl, hds, hagg5, (hs.sub (.cons _ .slnil))⟩
        refine A2 rfl ?_ ?_
        ·refine OK rfl rfl rfl rfl rfl <| OW_nil ⟨fun _ => hS, ?_⟩
         refine A1 rfl <| OK rfl rfl rfl rfl rfl <| OW_nil ⟨fun _ => hS, ?_⟩
         refine A1 rfl <| OK rfl rfl rfl rfl rfl <| OW_nil ⟨fun _ => hS, ?_⟩
         refine A rfl hS (fun w9 ⟨g9, hle9, hs⟩ => r_pickF (v := Value.bool false) rfl rfl rfl) rfl <| A rfl hS (fun w9 ⟨g9, hle9, hs⟩ => r_assign (v := Value.bool false) rfl) rfl <| AN ?_
         obtain rfl := Option.some.inj hM
         exact ⟨gg217, rfl, hds, hagg5, (hs.sub (.cons _ .slnil))⟩
        trivial
       refine A2 rfl ?_ ?_
       ·refine OK rfl rfl rfl rfl rfl <| OW_nil ⟨fun _ => hS, ?_⟩
        refine A1 rfl <| OK rfl rfl rfl rfl rfl <| OW_nil ⟨fun _ => hS, ?_⟩
        refine A1 rfl <| OK rfl rfl rfl rfl rfl <| OW_nil ⟨fun _ => hS, ?_⟩
        refine A1 rfl <| OK rfl rfl rfl rfl rfl <| OW_nil ⟨fun _ => hS, ?_⟩
        refine A rfl hS (fun w9 ⟨g9, hle9, hs⟩ => r_pickF (v := Value.bool false) rfl rfl rfl) rfl <| A rfl hS (fun w9 ⟨g9, hle9, hs⟩ => r_assign (v := Value.bool false) rfl) rfl <| AN ?_
        obtain rfl := Option.some.inj hM
        exact ⟨gg217, rfl, hds, hagg5, (hs.sub (.cons _ .slnil))⟩
       trivial
      trivial
    ·refine WP_any (.s 0 (.q 1 (.q 2 (.s 3 (.q 4 (.q 5 (.q 6 (.q 8 (.q 9 (.q 10 (.q 12 (.c 7 (.c 11 (.s 13 (.s 14 (.q 15 (.q 16 (.q 18 (.q 20 (.c 17 (.c 19 (.s 21 (.s 22 (.q 23 (.q 24 (.leaf))))) (.c 21 (.s 19 (.s 22 (.q 23 (.q 24 (.leaf))))) (.n))) (.c 21 (.s 17 (.s 19 (.s 22 (.q 23 (.q 24 (.leaf)))))) (.n))))))))) (.c 13 (.s 11 (.s 14 (.q 15 (.q 16 (.q 18 (.q 20 (.c 17 (.c 19 (.s 21 (.s 22 (.q 23 (.q 24 (.leaf))))) (.c 21 (.s 19 (.s 22 (.q 23 (.q 24 (.leaf))))) (.n))) (.c 21 (.s 17 (.s 19 (.s 22 (.q 23 (.q 24 (.leaf)))))) (.n))))))))) (.n))) (.c 13 (.s 7 (.s 11 (.s 14 (.q 15 (.q 16 (.q 18 (.q 20 (.c 17 (.c 19 (.s 21 (.s 22 (.q 23 (.q 24 (.leaf))))) (.c 21 (.s 19 (.s 22 (.q 23 (.q 24 (.leaf))))) (.n))) (.c 21 (.s 17 (.s 19 (.s 22 (.q 23 (.q 24 (.leaf)))))) (.n)))))))))) (.n)))))))))))))) (SS g0 w0 gg5 [.row v4 35 tT_Token.sz l1.length xs2]) mo (by decide +kernel) ?_
     have hs := hs.drew
     have hS : SS g0 w0 gg5 [.row v4 35 tT_Token.sz l1.length xs2] _ := ⟨gg5, Hle.refl _, hs⟩
     refine A1 rfl <| C [encS [104, 119, 105, 108, 101], encS [119, 104, 105, 108, 101]] cf7 rfl (lexrepair_Distance_ok hrv12 hs.imm) rfl ?_
     rintro v172 wv147 ⟨gg218, hvv172, hegg218⟩
     have hlegg218 := hegg218.le hs.imm
     replace hs := hs.call hegg218
     replace hagg5 := hagg5.trans hlegg218
     obtain ⟨cs217, rfl, hcs217⟩ := hvv172
     have hcs217 : cs217 = _ := hcs217; subst hcs217
     refine OW_nil ?_
     replace hS := hS.to hagg5 hs
     refine ⟨fun _ => hS, ?_⟩
     refine A rfl hS (fun w9 ⟨g9, hle9, hs⟩ => r_eql rfl rfl) rfl <| A rfl hS (fun w9 ⟨g9, hle9, hs⟩ => r_move (v := Value.bool (rv12 == 1)) rfl) rfl <| A1 rfl <| OK rfl rfl rfl (by rw [hg6]; rfl) rfl <| OW_nil ⟨fun _ => hS, ?_⟩
     refine AK rfl rfl rfl rfl (by rw [hg6]; rfl) hS rfl <| A rfl hS (fun w9 ⟨g9, hle9, hs⟩ => r_pickF (v := Value.bool false) rfl hg6 rfl) rfl <| A rfl hS (fun w9 ⟨g9, hle9, hs⟩ => r_move (v := Value.bool false) rfl) rfl <| AK rfl rfl rfl rfl rfl hS rfl <| AK rfl rfl rfl rfl rfl hS rfl <| AK rfl rfl rfl rfl rfl hS rfl <| AK rfl rfl rfl rfl rfl hS rfl <| A2 rfl ?_ ?_
     ·refine OK rfl rfl rfl rfl rfl <| OW_nil ⟨fun _ => hS, ?_⟩
      refine A2 rfl ?_ ?_
      ·refine OK rfl rfl rfl rfl rfl <| OW_nil ⟨fun _ => hS, ?_⟩
       refine A1 rfl <| OK rfl rfl rfl rfl rfl <| OW_nil ⟨fun _ => hS, ?_⟩
       refine A1 rfl <| OK rfl rfl rfl rfl rfl <| OW_nil ⟨fun _ => hS, ?_⟩
       refine A rfl hS (fun w9 ⟨g9, hle9, hs⟩ => r_pickF (v := Value.bool false) rfl rfl rfl) rfl <| A rfl hS (fun w9 ⟨g9, hle9, hs⟩ => r_move (v := Value.bool false) rfl) rfl <| AK rfl rfl rfl rfl rfl hS rfl <| AK rfl rfl rfl rfl rfl hS rfl <| A2 rfl ?_ ?_
       ·refine OK rfl rfl rfl rfl rfl <| OW_nil ⟨fun _ => hS, ?_⟩
        refine A2 rfl ?_ ?_
        ·refine OK rfl rfl rfl rfl rfl <| OW_nil ⟨fun _ => hS, ?_⟩
         refine A1 rfl <| OK rfl rfl rfl rfl rfl <| OW_nil ⟨fun _ => hS, ?_⟩
         refine A1 rfl <| OK rfl rfl rfl rfl rfl <| OW_nil ⟨fun _ => hS, ?_⟩
         refine A rfl hS (fun w9 ⟨g9, hle9, hs⟩ => r_pickF (v := Value.bool false) rfl rfl rfl) rfl <| A rfl hS (fun w9 ⟨g9, hle9, hs⟩ => r_assign (v := Value.bool false) rfl) rfl <| AN ?_
         obtain rfl := Option.some.inj hM
         exact ⟨gg218, rfl, hds, hagg5, (hs.sub (.cons _ .slnil))⟩
        refine A2 rfl ?_ ?_
        ·refine OK rfl rfl rfl rfl rfl <| OW_nil ⟨fun _ => hS, ?_⟩
         refine A1 rfl <| OK rfl rfl rfl rfl rfl <| OW_nil ⟨fun _ => hS, ?_⟩
         refine A1 rfl <| OK rfl rfl rfl rfl rfl <| OW_nil ⟨fun _ => hS, ?_⟩
         refine A rfl hS (fun w9 ⟨g9, hle9, hs⟩ => r_pickF (v := Value.bool false) rfl rfl rfl) rfl <| A rfl hS (fun w9 ⟨g9, hle9, hs⟩ => r_assign (v := Value.bool false) rfl) rfl <| AN ?_
         obtain rfl := Option.some.inj hM
         exact ⟨gg218, rfl, hds, hagg5, (hs.sub (.cons _ .slnil))⟩
        trivial
       refine A2 rfl ?_ ?_
       ·refine OK rfl rfl rfl rfl rfl <| OW_nil ⟨fun _ => hS, ?_⟩
        refine A1 rfl <| OK rfl rfl rfl rfl rfl <| OW_nil ⟨fun _ => hS, ?_⟩
        refine A1 rfl <| OK rfl rfl rfl rfl rfl <| OW_nil ⟨fun _ => hS, ?_⟩
        refine A1 rfl <| OK rfl rfl rfl rfl rfl <| OW_nil ⟨fun _ => hS, ?_⟩
        refine A rfl hS (fun w9 ⟨g9, hle9, hs⟩ => r_pickF (v := Value.bool false) rfl rfl rfl) rfl <| A rfl hS (fun w9 ⟨g9, hle9, hs⟩ => r_assign (v := Value.bool false) rfl) rfl <| AN ?_
        obtain rfl := Option.some.inj hM
        exact ⟨gg218, rfl, hds, hagg5, (hs.sub (.cons _ .slnil))⟩
       trivial
      refine A2 rfl ?_ ?_
      ·refine OK rfl rfl rfl rfl rfl <| OW_nil ⟨fun _ => hS, ?_⟩
       refine A1 rfl <| OK rfl rfl rfl rfl rfl <| OW_nil ⟨fun _ => hS, ?_⟩
       refine A1 rfl <| OK rfl rfl rfl rfl rfl <| OW_nil ⟨fun _ => hS, ?_⟩
       refine A rfl hS (fun w9 ⟨g9, hle9, hs⟩ => r_pickF (v := Value.bool false) rfl rfl rfl) rfl <| A rfl hS (fun w9 ⟨g9, hle9, hs⟩ => r_move (v := Value.bool false) rfl) rfl <| AK rfl rfl rfl rfl rfl hS rfl <| AK rfl rfl rfl rfl rfl hS rfl <| A2 rfl ?_ ?_
       ·refine OK rfl rfl rfl rfl rfl <| OW_nil ⟨fun _ => hS, ?_⟩
        refine A2 rfl ?_ ?_
        ·refine OK rfl rfl rfl rfl rfl <| OW_nil ⟨fun _ => hS, ?_⟩
         refine A1 rfl <| OK rfl rfl rfl rfl rfl <| OW_nil ⟨fun _ => hS, ?_⟩
         refine A1 rfl <| OK rfl rfl rfl rfl rfl <| OW_nil ⟨fun _ => hS, ?_⟩
         refine A rfl hS (fun w9 ⟨g9, hle9, hs⟩ => r_pickF (v := Value.bool false) rfl rfl rfl) rfl <| A rfl hS (fun w9 ⟨g9, hle9, hs⟩ => r_assign (v := Value.bool false) rfl) rfl <| AN ?_
         obtain rfl := Option.some.inj hM
         exact ⟨gg218, rfl, hds, hagg5, (hs.sub (.cons _ .slnil))⟩
        refine A2 rfl ?_ ?_
        ·refine OK rfl rfl rfl rfl rfl <| OW_nil ⟨fun _ => hS, ?_⟩
         refine A1 rfl <| OK rfl rfl rfl rfl rfl <| OW_nil ⟨fun _ => hS, ?_⟩
         refine A1 rfl <| OK rfl rfl rfl rfl rfl <| OW_nil ⟨fun _ => hS, ?_⟩
         refine A rfl hS (fun w9 ⟨g9, hle9, hs⟩ => r_pickF (v := Value.bool false) rfl rfl rfl) rfl <| A rfl hS (fun w9 ⟨g9, hle9, hs⟩ => r_assign (v := Value.bool false) rfl) rfl <| AN ?_
         obtain rfl := Option.some.inj hM
         exact ⟨gg218, rfl, hds, hagg5, (hs.sub (.cons _ .slnil))⟩
        trivial
       refine A2 rfl ?_ ?_
       ·refine OK rfl rfl rfl rfl rfl <| OW_nil ⟨fun _ => hS, ?_⟩
        refine A1 rfl <| OK rfl rfl rfl rfl rfl <| OW_nil ⟨fun _ => hS, ?_⟩
        refine A1 rfl <| OK rfl rfl rfl rfl rfl <| OW_nil ⟨fun _ => hS, ?_⟩
        refine A1 rfl <| OK rfl rfl rfl rfl rfl <| OW_nil ⟨fun _ => hS, ?_⟩
        refine A rfl hS (fun w9 ⟨g9, hle9, hs⟩ => r_pickF (v := Value.bool false) rfl rfl rfl) rfl <| A rfl hS (fun w9 ⟨g9, hle9, hs⟩ => r_assign (v := Value.bool false) rfl) rfl <| AN ?_
        obtain rfl := Option.some.inj hM
        exact ⟨gg218, rfl, hds, hagg5, (hs.sub (.cons _ .slnil))⟩
       trivial
      trivial
     refine A2 rfl ?_ ?_
     ·refine OK rfl rfl rfl rfl rfl <| OW_nil ⟨fun _ => hS, ?_⟩
      refine A1 rfl <| OK rfl rfl rfl rfl rfl <| OW_nil ⟨fun _ => hS, ?_⟩
      refine A1 rfl <| OK rfl rfl rfl rfl rfl <| OW_nil ⟨fun _ => hS, ?_⟩
      refine A1 rfl <| OK rfl rfl rfl rfl rfl <| OW_nil ⟨fun _ => hS, ?_⟩
      refine A rfl hS (fun w9 ⟨g9, hle9, hs⟩ => r_pickF (v := Value.bool false) rfl rfl rfl) rfl <| A rfl hS (fun w9 ⟨g9, hle9, hs⟩ => r_move (v := Value.bool false) rfl) rfl <| AK rfl rfl rfl rfl rfl hS rfl <| AK rfl rfl rfl rfl rfl hS rfl <| A2 rfl ?_ ?_
      ·refine OK rfl rfl rfl rfl rfl <| OW_nil ⟨fun _ => hS, ?_⟩
       refine A2 rfl ?_ ?_
       ·refine OK rfl rfl rfl rfl rfl <| OW_nil ⟨fun _ => hS, ?_⟩
        refine A1 rfl <| OK rfl rfl rfl rfl rfl <| OW_nil ⟨fun _ => hS, ?_⟩
        refine A1 rfl <| OK rfl rfl rfl rfl rfl <| OW_nil ⟨fun _ => hS, ?_⟩
        refine A rfl hS (fun w9 ⟨g9, hle9, hs⟩ => r_pickF (v := Value.bool false) rfl rfl rfl) rfl <| A rfl hS (fun w9 ⟨g9, hle9, hs⟩ => r_assign (v := Value.bool false) rfl) rfl <| AN ?_
        obtain rfl := Option.some.inj hM
        exact ⟨gg218, rfl, hds, hagg5, (hs.sub (.cons _ .slnil))⟩
       refine A2 rfl ?_ ?_
       ·refine OK rfl rfl rfl rfl rfl <| OW_nil ⟨fun _ => hS, ?_⟩
        refine A1 rfl <| OK rfl rfl rfl rfl rfl <| OW_nil ⟨fun _ => hS, ?_⟩
        refine A1 rfl <| OK rfl rfl rfl rfl rfl <| OW_nil ⟨fun _ => hS, ?_⟩
        refine A rfl hS (fun w9 ⟨g9, hle9, hs⟩ => r_pickF (v := Value.bool false) rfl rfl rfl) rfl <| A rfl hS (fun w9 ⟨g9, hle9, hs⟩ => r_assign (v := Value.bool false) rfl) rfl <| AN ?_
        obtain rfl := Option.some.inj hM
        exact ⟨gg218, rfl, hds, hagg5, (hs.sub (.cons _ .slnil))⟩
       trivial
      refine A2 rfl ?_ ?_
      ·refine OK rfl rfl rfl rfl rfl <| OW_nil ⟨fun _ => hS, ?_⟩
       refine A1 rfl <| OK rfl rfl rfl rfl rfl <| OW_nil ⟨fun _ => hS, ?_⟩
       refine A1 rfl <| OK rfl rfl rfl rfl rfl <| OW_nil ⟨fun _ => hS, ?_⟩
       refine A1 rfl <| OK rfl rfl rfl rfl rfl <| OW_nil ⟨fun _ => hS, ?_⟩
       refine A rfl hS (fun w9 ⟨g9, hle9, hs⟩ => r_pickF (v := Value.bool false) rfl rfl rfl) rfl <| A rfl hS (fun w9 ⟨g9, hle9, hs⟩ => r_assign (v := Value.bool false) rfl) rfl <| AN ?_
       obtain rfl := Option.some.inj hM
       exact ⟨gg218, rfl, hds, hagg5, (hs.sub (.cons _ .slnil))⟩
      trivial
     trivial
   ·clear hs
    rintro E w ⟨gg112, hE0, hds, hlegg112, hs⟩
    have hM := hKhx2
    obtain ⟨E, rfl⟩ := open1 (E := E) hE0
    refine WP_ret ?_
    obtain rfl := Option.some.inj hM
    refine FL_nil hds ?_
    exact ⟨_, res1 Try.results6 (rv_tmp (v := Value.bool rv11) rfl), gg112, ⟨[Value.bool rv11], rfl, rfl⟩, hs.ext⟩


end Go.Proofs.Ytjdmfabmacdpgaa
