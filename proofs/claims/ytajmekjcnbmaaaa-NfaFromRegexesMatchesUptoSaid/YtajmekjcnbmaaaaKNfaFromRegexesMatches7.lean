/- Part 7 of what the law leans on: my own layer, printed walks, plain facts. -/
import Derived.Test.YtajmekjcnbmaaaaKNfaFromRegexesMatches6
set_option linter.unusedVariables false
set_option linter.unusedSimpArgs false
namespace Go.Proofs.Ytajmekjcnbmaaaa
open Go.Lx Go.RowKit
set_option maxRecDepth 100000 in
theorem law09_few_ok {l1 : (List T_Regex)} {r : Bool} (hM : M.law09_few l1 = some r) {g0 : Hp} {w0 : World} (hi : Imm g0 w0) {v1 : Value} (hRv1 : RdS tT_Regex g0 v1 l1) :
    CallsV Try.prog 23 #[v1] w0 (fun v w' => ∃ g', (VRd tBool false g' v r) ∧ Ext g0 w0 g' w') := by
 unfold M.law09_few at hM
 have hs := Sep.start hi
 refine calls_of_WP (args := [v1]) Try.func23 rfl Try.ntmps23 rfl ?_
 have hds : (argEnv [v1]).ds = [] := rfl
 refine WP_seq <| WP_region <| O (r_assign (v := Value.bool false) rfl) rfl <| OW_nil <| WP_seq <| WP_seq <| WP_region <| O (r_move (v := v1) rfl) rfl ?_
 obtain ⟨a1, ca1, hva1⟩ := hRv1.shape
 refine O (r_lenSl (v := v1) Try.underlying37 rfl hva1) rfl <| O (r_gtr rfl rfl) rfl <| OW_nil ?_
 rcases condS hM with ⟨hc1, hM⟩ | ⟨hc1, hM⟩
 ·refine WP_true rfl hc1 <| WP_seq <| WP_region <| O (r_assign (v := Value.bool false) rfl) rfl <| OW_nil <| WP_ret ?_
  obtain rfl := Option.some.inj hM
  refine FL_nil hds ?_
  exact ⟨_, res1 Try.results23 (rv_tmp (v := Value.bool false) rfl), g0, ⟨[Value.bool false], rfl, rfl⟩, hs.ext⟩
 ·refine WP_false rfl hc1 <| WP_skip ?_
  obtain ⟨o3, hx4, hKhx4⟩ := stepS hM
  refine WP_cut (fun E w => ∃ u9 : Unit, o3 = .next u9 ∧ ∃ (gg19 : Hp), E.ds = [] ∧ Hle g0 gg19 ∧ Go.Lx.Sep g0 w0 gg19 w []) ?_ ?_
  ·have hM := hx4
   have hag0 := Hle.refl g0
   refine WP_seq <| WP_region <| O (r_assign (v := Value.int .i64 0) rfl) rfl <| OW_nil <| WP_block <| WP_loop (fun (i5 : Int) E w => ∃ (gg26 : Hp), E 0 = v1 ∧ E 3 = Value.int .i64 i5 ∧ E.ds = [] ∧ Hle g0 gg26 ∧ Go.Lx.Sep g0 w0 gg26 w []) hM ⟨g0, rfl, rfl, hds, (Hle.refl _), hs⟩ ?_
   clear hs hM
   rintro i5 o2 E w hM ⟨gg26, hE0, hE3, hds, hlegg26, hs⟩
   obtain ⟨E, rfl⟩ := open2 (E := E) hE0 hE3
   replace hRv1 := hRv1.mono hlegg26
   have hagg26 := Hle.refl gg26
   refine WP_seq <| WP_seq <| WP_region <| O (r_move (v := Value.int .i64 i5) rfl) rfl <| O (r_move (v := v1) rfl) rfl ?_
   obtain ⟨a7, ca7, hva7⟩ := hRv1.shape
   refine O (r_lenSl (v := v1) Try.underlying37 rfl hva7) rfl <| O (r_lss rfl rfl) rfl <| OW_nil ?_
   rcases condS hM with ⟨hc12, hM⟩ | ⟨hc12, hM⟩
   ·refine WP_true rfl hc12 <| WP_skip <| WP_seq <| WP_block ?_
    obtain ⟨xv6, hx7, hKhx7⟩ := bindS hM
    refine WP_cut (fun E w => ∃ (gg35 : Hp), E 0 = v1 ∧ E 3 = Value.int .i64 i5 ∧ E 26 = Value.bool xv6 ∧ E.ds = [] ∧ Hle gg26 gg35 ∧ Go.Lx.Sep g0 w0 gg35 w []) ?_ ?_
    ·have hM := hx7
     refine WP_region <| O (r_move (v := v1) rfl) rfl <| O (r_move (v := Value.int .i64 i5) rfl) rfl ?_
     obtain ⟨e12, he12, hM⟩ := bindS hM
     obtain ⟨b23, ob23, cb23, hvb23, cs111, hcs111, hcb23⟩ := hRv1.at he12
     obtain ⟨cs112, cs113, cs114, rfl, hcs112, hcs113, hcs114⟩ := tT_Regex_iff.1 hcs111
     have hcs112 : cs112 = _ := hcs112; subst hcs112
     have hcs113 : cs113 = _ := hcs113; subst hcs113
     obtain ⟨v46, rfl, hRv46⟩ := hcs114
     refine O (r_idxSl Try.underlying37 ti50 (v := v1) rfl hvb23 rfl (idxL_some he12).1 (idxL_some he12).2.1) rfl <| O (r_loadEl (cs := ([Value.int .i64 e12.Kind]) ++ ((e12.Set.1.map (Value.int .u64)) ++ ([v46]))) ti50 rfl (by simp [e12.Set.2]) (.inl rfl) (hcb23 _ hs.imm) (v := Value.agg (List.toArray (α := Value) (([Value.int .i64 e12.Kind]) ++ ((e12.Set.1.map (Value.int .u64)) ++ ([v46]))))) rfl) rfl ?_
     obtain ⟨rv23, hrv23, hM⟩ := bindS hM
     refine C [Value.agg (List.toArray (α := Value) (([Value.int .i64 e12.Kind]) ++ ((e12.Set.1.map (Value.int .u64)) ++ ([v46]))))] cf38 rfl (ref08_Valid_ok hrv23 hs.imm (tT_Regex_iff.2 ⟨[Value.int .i64 e12.Kind], e12.Set.1.map (Value.int .u64), [v46], rfl, rfl, rfl, ⟨_, rfl, hRv46⟩⟩)) rfl ?_
     rintro v47 wv23 ⟨gg36, hvv47, hegg36⟩
     have hlegg36 := hegg36.le hs.imm
     replace hs := hs.call hegg36
     replace hRv1 := hRv1.mono hlegg36
     replace hagg26 := hagg26.trans hlegg36
     obtain ⟨cs115, rfl, hcs115⟩ := hvv47
     have hcs115 : cs115 = _ := hcs115; subst hcs115
     refine O (r_not rfl) rfl <| O (r_move (v := Value.bool (!rv23)) rfl) rfl ?_
     rcases condS hM with ⟨hg12, hM⟩ | ⟨hg12, hM⟩
     ·refine OK rfl rfl rfl (by rw [hg12]; rfl) rfl <| OK rfl rfl rfl (by rw [hg12]; rfl) rfl <| OK rfl rfl rfl (by rw [hg12]; rfl) rfl <| OK rfl rfl rfl (by rw [hg12]; rfl) rfl <| OK rfl rfl rfl (by rw [hg12]; rfl) rfl <| OK rfl rfl rfl (by rw [hg12]; rfl) rfl <| O (r_pickT (v := Value.bool true) rfl hg12 rfl) rfl <| OW_nil ?_
      obtain rfl := Option.some.inj hM
      exact ⟨gg36, rfl, rfl, rfl, hds, hagg26, hs⟩
     ·refine OG rfl rfl rfl (by rw [hg12]; rfl) (r_move (v := v1) rfl) rfl <| OG rfl rfl rfl (by rw [hg12]; rfl) (r_move (v := Value.int .i64 i5) rfl) rfl ?_
      obtain ⟨b24, ob24, cb24, hvb24, cs116, hcs116, hcb24⟩ := hRv1.at he12
      obtain ⟨cs117, cs118, cs119, rfl, hcs117, hcs118, hcs119⟩ := tT_Regex_iff.1 hcs116
      have hcs117 : cs117 = _ := hcs117; subst hcs117
      have hcs118 : cs118 = _ := hcs118; subst hcs118
      obtain ⟨v48, rfl, hRv48⟩ := hcs119
      refine OG rfl rfl rfl (by rw [hg12]; rfl) (r_idxSl Try.underlying37 ti50 (v := v1) rfl hvb24 rfl (idxL_some he12).1 (idxL_some he12).2.1) rfl <| OG rfl rfl rfl (by rw [hg12]; rfl) (r_loadEl (cs := ([Value.int .i64 e12.Kind]) ++ ((e12.Set.1.map (Value.int .u64)) ++ ([v48]))) ti50 rfl (by simp [e12.Set.2]) (.inl rfl) (hcb24 _ hs.imm) (v := Value.agg (List.toArray (α := Value) (([Value.int .i64 e12.Kind]) ++ ((e12.Set.1.map (Value.int .u64)) ++ ([v48]))))) rfl) rfl ?_
      obtain ⟨rv24, hrv24, hM⟩ := bindS hM
      refine CG rfl rfl rfl (by rw [hg12]; rfl) [Value.agg (List.toArray (α := Value) (([Value.int .i64 e12.Kind]) ++ ((e12.Set.1.map (Value.int .u64)) ++ ([v48]))))] cf39 rfl (ref09_Nodes_ok hrv24 hs.imm (tT_Regex_iff.2 ⟨[Value.int .i64 e12.Kind], e12.Set.1.map (Value.int .u64), [v48], rfl, rfl, rfl, ⟨_, rfl, hRv48⟩⟩)) rfl ?_
      rintro v49 wv24 ⟨gg37, hvv49, hegg37⟩
      have hlegg37 := hegg37.le hs.imm
      replace hs := hs.call hegg37
      replace hagg26 := hagg26.trans hlegg37
      obtain ⟨cs120, rfl, hcs120⟩ := hvv49
      have hcs120 : cs120 = _ := hcs120; subst hcs120
      refine OG rfl rfl rfl (by rw [hg12]; rfl) (r_gtr rfl rfl) rfl <| O (r_pickF (v := Value.bool (decide (30 < rv24))) rfl hg12 rfl) rfl <| OW_nil ?_
      obtain rfl := Option.some.inj hM
      exact ⟨gg37, rfl, rfl, rfl, hds, hagg26, hs⟩
    ·clear hs
     rintro E w ⟨gg35, hE0, hE3, hE26, hds, hlegg35, hs⟩
     have hM := hKhx7
     obtain ⟨E, rfl⟩ := open3 (E := E) hE0 hE3 hE26
     replace hlegg26 := hlegg26.trans hlegg35
     rcases condS hM with ⟨hc13, hM⟩ | ⟨hc13, hM⟩
     ·refine WP_true rfl hc13 <| WP_seq <| WP_region <| O (r_assign (v := Value.bool false) rfl) rfl <| OW_nil <| WP_ret ?_
      obtain rfl := Option.some.inj hM
      refine fun hr => ?_
      have hM := congrArg some hr
      obtain rfl := Option.some.inj hM
      have hM := hKhx4
      obtain rfl := Option.some.inj hM
      refine FL_nil hds ?_
      exact ⟨_, res1 Try.results23 (rv_tmp (v := Value.bool false) rfl), gg35, ⟨[Value.bool false], rfl, rfl⟩, hs.ext⟩
     ·refine WP_false rfl hc13 <| WP_skip <| WP_region <| O (r_move (v := Value.int .i64 i5) rfl) rfl ?_
      obtain ⟨t6, ht6, hM⟩ := bindS hM
      refine O (r_addM rfl rfl ht6) rfl <| O (r_assign (v := Value.int .i64 t6) rfl) rfl <| OW_nil ?_
      obtain rfl := Option.some.inj hM
      exact ⟨gg35, rfl, rfl, hds, hlegg26, hs⟩
   ·refine WP_false rfl hc12 <| WP_exit ?_
    obtain rfl := Option.some.inj hM
    refine fun hr => ?_
    have hM := congrArg some hr
    obtain rfl := Option.some.inj hM
    exact ⟨(), rfl, gg26, hds, hlegg26, hs⟩
  ·clear hs
   rintro E w ⟨_, rfl, gg19, hds, hlegg19, hs⟩
   have hM := hKhx4
   dsimp only [onStep] at hM
   refine WP_seq <| WP_region <| O (r_assign (v := Value.bool true) rfl) rfl <| OW_nil <| WP_ret ?_
   obtain rfl := Option.some.inj hM
   refine FL_nil hds ?_
   exact ⟨_, res1 Try.results23 (rv_tmp (v := Value.bool true) rfl), gg19, ⟨[Value.bool true], rfl, rfl⟩, hs.ext⟩
set_option maxRecDepth 100000 in
theorem ref09_builder_all_ok {b1 : T_ref09_builder} {last1 : (List Int)} {first1 : (List Int)} {r : T_ref09_builder} (hM : M.ref09_builder_all b1 last1 first1 = some r) {g0 : Hp} {w0 : World} {gi : Hp} {wi : World} {Lt : List Res} {b2 : Nat} {v1 : Value} {xs1 : List Value} {v2 : Value} {xs2 : List Value} (hs : Sep g0 w0 gi wi (Go.Lx.box b2 80 ([v1, v2]) :: .row v1 48 (tVec 4 .u64).sz b1.sets.length xs1 :: .row v2 84 (tVec 2 .i64).sz b1.pairs.length xs2 :: Lt)) {v3 : Value} (hRv3 : RdS (tInt .i64) gi v3 last1) {v4 : Value} (hRv4 : RdS (tInt .i64) gi v4 first1) (hrelxs1 : RowRel (tVec 4 .u64) gi xs1 b1.sets) (hrelxs2 : RowRel (tVec 2 .i64) gi xs2 b1.pairs) :
    CallsV Try.prog 47 #[Value.pointer (some ⟨b2, 0, none⟩), v3, v4] wi (fun v w' => ∃ g' v71 xs69 v72 xs70, (True) ∧ Hle gi g' ∧ RowRel (tVec 4 .u64) g' xs69 r.sets ∧ RowRel (tVec 2 .i64) g' xs70 r.pairs ∧ Sep g0 w0 g' w' (Go.Lx.box b2 80 ([v71, v72]) :: .row v71 48 (tVec 4 .u64).sz r.sets.length xs69 :: .row v72 84 (tVec 2 .i64).sz r.pairs.length xs70 :: Lt)) := by
 unfold M.ref09_builder_all at hM
 have hagi := Hle.refl gi
 refine calls_of_WP (args := [Value.pointer (some ⟨b2, 0, none⟩), v3, v4]) Try.func47 rfl Try.ntmps47 rfl ?_
 have hds : (argEnv [Value.pointer (some ⟨b2, 0, none⟩), v3, v4]).ds = [] := rfl
 refine WP_seq <| WP_region <| O (r_assign (v := Value.int .i64 0) rfl) rfl <| OW_nil <| WP_block <| WP_loop (fun (st9 : (List (Vec 2)) × Int) E w => match st9 with | (xv9, i2) => ∃ (v27 : Value) (xs25 : List Value) (v28 : Value) (xs26 : List Value), E 0 = Value.pointer (some ⟨b2, 0, none⟩) ∧ E 1 = v3 ∧ E 2 = v4 ∧ E 6 = Value.int .i64 i2 ∧ E.ds = [] ∧ RowRel (tVec 4 .u64) gi xs25 b1.sets ∧ RowRel (tVec 2 .i64) gi xs26 xv9 ∧ Go.Lx.Sep g0 w0 gi w (Go.Lx.box b2 80 ([v27, v28]) :: .row v27 48 (tVec 4 .u64).sz b1.sets.length xs25 :: .row v28 84 (tVec 2 .i64).sz xv9.length xs26 :: Lt)) hM ⟨v1, xs1, v2, xs2, rfl, rfl, rfl, rfl, hds, hrelxs1, hrelxs2, hs⟩ ?_
 clear hs hM
 rintro ⟨xv9, i2⟩ o5 E w hM ⟨v27, xs25, v28, xs26, hE0, hE1, hE2, hE6, hds, hrelxs25, hrelxs26, hs⟩
 obtain ⟨E, rfl⟩ := open4 (E := E) hE0 hE1 hE2 hE6
 refine WP_seq <| WP_seq <| WP_region <| O (r_move (v := Value.int .i64 i2) rfl) rfl <| O (r_move (v := v3) rfl) rfl ?_
 obtain ⟨a15, ca15, hva15⟩ := hRv3.shape
 refine O (r_lenSl (v := v3) Try.underlying23 rfl hva15) rfl <| O (r_lss rfl rfl) rfl <| OW_nil ?_
 rcases condS hM with ⟨hc15, hM⟩ | ⟨hc15, hM⟩
 ·refine WP_true rfl hc15 <| WP_skip ?_
  obtain ⟨xv21, hx3, hKhx3⟩ := bindS hM
  refine WP_cut (fun E w => ∃ (v60 : Value) (xs58 : List Value) (v61 : Value) (xs59 : List Value), E 0 = Value.pointer (some ⟨b2, 0, none⟩) ∧ E 1 = v3 ∧ E 2 = v4 ∧ E 6 = Value.int .i64 i2 ∧ E.ds = [] ∧ RowRel (tVec 4 .u64) gi xs58 b1.sets ∧ RowRel (tVec 2 .i64) gi xs59 xv21 ∧ Go.Lx.Sep g0 w0 gi w (Go.Lx.box b2 80 ([v60, v61]) :: .row v60 48 (tVec 4 .u64).sz b1.sets.length xs58 :: .row v61 84 (tVec 2 .i64).sz xv21.length xs59 :: Lt)) ?_ ?_
  ·have hM := hx3
   refine WP_block <| WP_seq <| WP_region <| O (r_assign (v := Value.int .i64 0) rfl) rfl <| OW_nil <| WP_block <| WP_loop (fun (st9 : (List (Vec 2)) × Int) E w => match st9 with | (xv23, k17) => ∃ (v65 : Value) (xs63 : List Value), E 0 = Value.pointer (some ⟨b2, 0, none⟩) ∧ E 1 = v3 ∧ E 2 = v4 ∧ E 6 = Value.int .i64 i2 ∧ E 7 = Value.int .i64 k17 ∧ E.ds = [] ∧ RowRel (tVec 2 .i64) gi xs63 xv23 ∧ Go.Lx.Sep g0 w0 gi w (Go.Lx.box b2 80 ([v27, v65]) :: .row v27 48 (tVec 4 .u64).sz b1.sets.length xs25 :: .row v65 84 (tVec 2 .i64).sz xv23.length xs63 :: Lt)) hM ⟨v28, xs26, rfl, rfl, rfl, rfl, rfl, hds, hrelxs26, hs⟩ ?_
   clear hs hM
   rintro ⟨xv23, k17⟩ o7 E w hM ⟨v65, xs63, hE0, hE1, hE2, hE6, hE7, hds, hrelxs63, hs⟩
   obtain ⟨E, rfl⟩ := open5 (E := E) hE0 hE1 hE2 hE6 hE7
   refine WP_seq <| WP_seq <| WP_region <| O (r_move (v := Value.int .i64 k17) rfl) rfl <| O (r_move (v := v4) rfl) rfl ?_
   obtain ⟨a21, ca21, hva21⟩ := hRv4.shape
   refine O (r_lenSl (v := v4) Try.underlying23 rfl hva21) rfl <| O (r_lss rfl rfl) rfl <| OW_nil ?_
   rcases condS hM with ⟨hc21, hM⟩ | ⟨hc21, hM⟩
   ·refine WP_true rfl hc21 <| WP_skip <| WP_seq <| WP_block <| WP_any (.q 0 (.q 1 (.q 2 (.q 3 (.q 4 (.q 5 (.q 6 (.q 7 (.q 8 (.q 9 (.q 10 (.q 11 (.q 12 (.q 13 (.s 14 (.s 15 (.q 16 (.q 17 (.s 18 (.leaf)))))))))))))))))))) (SS g0 w0 gi (Go.Lx.box b2 80 ([v27, v65]) :: .row v27 48 (tVec 4 .u64).sz b1.sets.length xs25 :: .row v65 84 (tVec 2 .i64).sz xv23.length xs63 :: Lt)) mo (by decide +kernel) ?_
    have hs := hs.drew
    have hRv3b := hRv3
    have hRv4b := hRv4
    have hS : SS g0 w0 gi (Go.Lx.box b2 80 ([v27, v65]) :: .row v27 48 (tVec 4 .u64).sz b1.sets.length xs25 :: .row v65 84 (tVec 2 .i64).sz xv23.length xs63 :: Lt) _ := ⟨gi, Hle.refl _, hs⟩
    refine A rfl hS (fun w9 ⟨g9, hle9, hs⟩ => r_move (v := Value.pointer (some ⟨b2, 0, none⟩)) rfl) rfl <| A rfl hS (fun w9 ⟨g9, hle9, hs⟩ => r_move (v := Value.pointer (some ⟨b2, 0, none⟩)) rfl) rfl <| A rfl hS (fun w9 ⟨g9, hle9, hs⟩ => r_nilCheck rfl) rfl <| A rfl hS (fun w9 ⟨g9, hle9, hs⟩ => r_fieldAddr Try.underlying80 ti78 rfl rfl (by decide) rfl rfl) rfl <| A rfl hS (fun w9 ⟨g9, hle9, hs⟩ => r_load (v := v65) ti78 rfl (hs.cell (i := 0) (o := 1) rfl rfl)) rfl <| A rfl hS (fun w9 ⟨g9, hle9, hs⟩ => r_move (v := v3) rfl) rfl <| A rfl hS (fun w9 ⟨g9, hle9, hs⟩ => r_move (v := Value.int .i64 i2) rfl) rfl ?_
    obtain ⟨e35, he35, hM⟩ := bindS hM
    obtain ⟨b37, ob37, cb37, hvb37, cs35, hcs35, hcb37⟩ := hRv3b.at he35
    have hcs35 : cs35 = _ := hcs35; subst hcs35
    refine A rfl hS (fun w9 ⟨g9, hle9, hs⟩ => r_idxSl Try.underlying23 ti3 (v := v3) rfl hvb37 rfl (idxL_some he35).1 (idxL_some he35).2.1) rfl <| A rfl hS (fun w9 ⟨g9, hle9, hs⟩ => r_loadEl (cs := [Value.int .i64 e35]) ti3 rfl rfl (.inr rfl) (hcb37 _ (hs.imm.of_le hle9)) (v := Value.int .i64 e35) rfl) rfl <| A rfl hS (fun w9 ⟨g9, hle9, hs⟩ => r_move (v := v4) rfl) rfl <| A rfl hS (fun w9 ⟨g9, hle9, hs⟩ => r_move (v := Value.int .i64 k17) rfl) rfl ?_
    obtain ⟨e36, he36, hM⟩ := bindS hM
    obtain ⟨b38, ob38, cb38, hvb38, cs36, hcs36, hcb38⟩ := hRv4b.at he36
    have hcs36 : cs36 = _ := hcs36; subst hcs36
    refine A rfl hS (fun w9 ⟨g9, hle9, hs⟩ => r_idxSl Try.underlying23 ti3 (v := v4) rfl hvb38 rfl (idxL_some he36).1 (idxL_some he36).2.1) rfl <| A rfl hS (fun w9 ⟨g9, hle9, hs⟩ => r_loadEl (cs := [Value.int .i64 e36]) ti3 rfl rfl (.inr rfl) (hcb38 _ (hs.imm.of_le hle9)) (v := Value.int .i64 e36) rfl) rfl <| A rfl hS (fun w9 ⟨g9, hle9, hs⟩ => r_build (vs := [(0, Value.int .i64 e35), (1, Value.int .i64 e36)]) (cs := (⟨[e35, e36], rfl⟩ : Vec 2).1.map (Value.int .i64)) rfl (by kernel_rfl)) rfl <| A1 rfl <| OW_lit (τ := (tVec 2 .i64)) [encV .i64 (⟨[e35, e36], rfl⟩ : Vec 2)] [(⟨[e35, e36], rfl⟩ : Vec 2)] Try.underlying78 ti84 (by decide) hs rfl rfl rfl ⟨rfl, trivial⟩ rfl ?_
    intro v69 wv52 xs67 hrelxs67 hs
    refine OW_nil ?_
    replace hS := hS.to (Hle.refl _) (Sep.selT (A := [.row v69 84 (tVec 2 .i64).sz [(⟨[e35, e36], rfl⟩ : Vec 2)].length xs67, Go.Lx.box b2 80 ([v27, v65]), .row v27 48 (tVec 4 .u64).sz b1.sets.length xs25, .row v65 84 (tVec 2 .i64).sz xv23.length xs63]) (A' := [Go.Lx.box b2 80 ([v27, v65]), .row v27 48 (tVec 4 .u64).sz b1.sets.length xs25, .row v65 84 (tVec 2 .i64).sz xv23.length xs63]) (L := Lt) hs [1, 2, 3] (by decide) rfl)
    refine ⟨fun _ => hS, ?_⟩
    refine A1 rfl ?_
    obtain ⟨y18, hy18, hM⟩ := bindS hM
    refine OW_appendK Try.underlying78 ti84 rfl (by decide) (by decide) hs (i := 3) rfl hrelxs63 (v := v65) rfl (u := v69) rfl (hs.rowSrc (i := 0) rfl) hrelxs67 hy18 rfl ?_
    intro v70 wv53 xs68 hrelxs68 hsO hs
    refine OW_nil ?_
    have hsO : Go.Lx.Sep g0 w0 gi _ (Go.Lx.box b2 80 ([v27, v65]) :: .row v27 48 (tVec 4 .u64).sz b1.sets.length xs25 :: .row v65 84 (tVec 2 .i64).sz xv23.length xs63 :: Lt) := (Sep.selT (A := [.row v69 84 (tVec 2 .i64).sz [(⟨[e35, e36], rfl⟩ : Vec 2)].length xs67, Go.Lx.box b2 80 ([v27, v65]), .row v27 48 (tVec 4 .u64).sz b1.sets.length xs25, .row v65 84 (tVec 2 .i64).sz xv23.length xs63]) (A' := [Go.Lx.box b2 80 ([v27, v65]), .row v27 48 (tVec 4 .u64).sz b1.sets.length xs25, .row v65 84 (tVec 2 .i64).sz xv23.length xs63]) (L := Lt) hsO [1, 2, 3] (by decide) rfl)
    replace hS := hS.to (Hle.refl _) hsO
    refine ⟨fun _ => hS, ?_⟩
    refine A rfl hS (fun w9 ⟨g9, hle9, hs⟩ => r_nilCheck rfl) rfl <| A rfl hS (fun w9 ⟨g9, hle9, hs⟩ => r_fieldAddr Try.underlying80 ti78 rfl rfl (by decide) rfl rfl) rfl <| A1 rfl <| OW_store1 ti78 hs (i := 1) rfl rfl (v := v70) rfl (by obtain ⟨_, _, h9⟩ := hs.rowShape (i := 3) rfl; rw [h9]; rfl) (o := 1) (by simp) ?_
    intro wv54 hs
    refine OW_nil ?_
    refine ⟨fun h => absurd h (by decide +kernel), ?_⟩
    refine AN <| WP_region <| O (r_move (v := Value.int .i64 k17) rfl) rfl ?_
    obtain ⟨t20, ht20, hM⟩ := bindS hM
    refine O (r_addM rfl rfl ht20) rfl <| O (r_assign (v := Value.int .i64 t20) rfl) rfl <| OW_nil ?_
    obtain rfl := Option.some.inj hM
    exact ⟨v70, xs68, rfl, rfl, rfl, rfl, rfl, hds, hrelxs68, (Sep.selT (A := [.row v69 84 (tVec 2 .i64).sz [(⟨[e35, e36], rfl⟩ : Vec 2)].length xs67, Go.Lx.box b2 80 ([v27, v70]), .row v27 48 (tVec 4 .u64).sz b1.sets.length xs25, .row v70 84 (tVec 2 .i64).sz y18.length xs68]) (A' := [Go.Lx.box b2 80 ([v27, v70]), .row v27 48 (tVec 4 .u64).sz b1.sets.length xs25, .row v70 84 (tVec 2 .i64).sz y18.length xs68]) (L := Lt) hs [1, 2, 3] (by decide) rfl)⟩
   ·refine WP_false rfl hc21 <| WP_exit ?_
    obtain rfl := Option.some.inj hM
    refine fun hr => ?_
    have hM := congrArg some hr
    obtain rfl := Option.some.inj hM
    exact ⟨v27, xs25, v65, xs63, rfl, rfl, rfl, rfl, hds, hrelxs25, hrelxs63, hs⟩
  ·clear hs
   rintro E w ⟨v60, xs58, v61, xs59, hE0, hE1, hE2, hE6, hds, hrelxs58, hrelxs59, hs⟩
   have hM := hKhx3
   obtain ⟨E, rfl⟩ := open4 (E := E) hE0 hE1 hE2 hE6
   refine WP_region <| O (r_move (v := Value.int .i64 i2) rfl) rfl ?_
   obtain ⟨t21, ht21, hM⟩ := bindS hM
   refine O (r_addM rfl rfl ht21) rfl <| O (r_assign (v := Value.int .i64 t21) rfl) rfl <| OW_nil ?_
   obtain rfl := Option.some.inj hM
   exact ⟨v60, xs58, v61, xs59, rfl, rfl, rfl, rfl, hds, hrelxs58, hrelxs59, hs⟩
 ·refine WP_false rfl hc15 <| WP_exit ?_
  obtain rfl := Option.some.inj hM
  refine fun hr => ?_
  have hM := congrArg some hr
  obtain rfl := Option.some.inj hM
  refine FL_nil hds ?_
  exact ⟨_, res_none Try.results47, gi, v27, xs25, v28, xs26, trivial, (Hle.refl _), hrelxs25, hrelxs26, hs⟩
set_option maxRecDepth 100000 in
theorem ref09_builder_concat_ok {b1 : T_ref09_builder} {xv1 : T_ref09_part} {y1 : T_ref09_part} {r : T_ref09_part × T_ref09_builder} (hM : M.ref09_builder_concat b1 xv1 y1 = some r) {g0 : Hp} {w0 : World} {gi : Hp} {wi : World} {Lt : List Res} {b2 : Nat} {v1 : Value} {xs1 : List Value} {v2 : Value} {xs2 : List Value} (hs : Sep g0 w0 gi wi (Go.Lx.box b2 80 ([v1, v2]) :: .row v1 48 (tVec 4 .u64).sz b1.sets.length xs1 :: .row v2 84 (tVec 2 .i64).sz b1.pairs.length xs2 :: Lt)) {cs1 : List Value} (hcs1 : tT_ref09_part.rel gi cs1 xv1) {cs2 : List Value} (hcs2 : tT_ref09_part.rel gi cs2 y1) (hrelxs1 : RowRel (tVec 4 .u64) gi xs1 b1.sets) (hrelxs2 : RowRel (tVec 2 .i64) gi xs2 b1.pairs) :
    CallsV Try.prog 61 #[Value.pointer (some ⟨b2, 0, none⟩), Value.agg cs1.toArray, Value.agg cs2.toArray] wi (fun v w' => ∃ g' v26 xs25 v27 xs26, (VRd tT_ref09_part true g' v r.1) ∧ Hle gi g' ∧ RowRel (tVec 4 .u64) g' xs25 r.2.sets ∧ RowRel (tVec 2 .i64) g' xs26 r.2.pairs ∧ Sep g0 w0 g' w' (Go.Lx.box b2 80 ([v26, v27]) :: .row v26 48 (tVec 4 .u64).sz r.2.sets.length xs25 :: .row v27 84 (tVec 2 .i64).sz r.2.pairs.length xs26 :: Lt)) := by
 unfold M.ref09_builder_concat at hM
 obtain ⟨cs3, cs4, cs5, rfl, hcs3, hcs4, hcs5⟩ := hcs1
 have hcs3 : cs3 = _ := hcs3; subst hcs3
 obtain ⟨v3, rfl, hRv3⟩ := hcs4
 obtain ⟨v4, rfl, hRv4⟩ := hcs5
 obtain ⟨cs6, cs7, cs8, rfl, hcs6, hcs7, hcs8⟩ := hcs2
 have hcs6 : cs6 = _ := hcs6; subst hcs6
 obtain ⟨v5, rfl, hRv5⟩ := hcs7
 obtain ⟨v6, rfl, hRv6⟩ := hcs8
 have hagi := Hle.refl gi
 refine calls_of_WP (args := [Value.pointer (some ⟨b2, 0, none⟩), Value.agg (List.toArray (α := Value) [Value.bool xv1.nullable, v3, v4]), Value.agg (List.toArray (α := Value) [Value.bool y1.nullable, v5, v6])]) Try.func61 rfl Try.ntmps61 rfl ?_
 have hds : (argEnv [Value.pointer (some ⟨b2, 0, none⟩), Value.agg (List.toArray (α := Value) [Value.bool xv1.nullable, v3, v4]), Value.agg (List.toArray (α := Value) [Value.bool y1.nullable, v5, v6])]).ds = [] := rfl
 refine WP_seq <| WP_region <| OW_box (v := Value.agg (List.toArray (α := Value) [Value.bool xv1.nullable, v3, v4])) rfl hs (zs := [Value.bool xv1.nullable, v3, v4]) rfl rfl ?_
 intro b3 wv1 hs
 refine OW_box (v := Value.agg (List.toArray (α := Value) [Value.bool y1.nullable, v5, v6])) rfl hs (zs := [Value.bool y1.nullable, v5, v6]) rfl rfl ?_
 intro b4 wv2 hs
 refine OW_alloc ti82 hs (zs := [Value.bool false, Value.slice none 0 0, Value.slice none 0 0]) rfl rfl ?_
 intro b5 wv3 hs
 refine OW_nil <| WP_seq <| WP_region <| O (r_move (v := Value.pointer (some ⟨b2, 0, none⟩)) rfl) rfl <| O (r_fieldAddr Try.underlying82 ti23 rfl rfl (by decide) rfl rfl) rfl <| O (r_load (v := v4) ti23 rfl (hs.cell (i := 2) (o := 2) rfl rfl)) rfl <| O (r_fieldAddr Try.underlying82 ti23 rfl rfl (by decide) rfl rfl) rfl <| O (r_load (v := v5) ti23 rfl (hs.cell (i := 1) (o := 1) rfl rfl)) rfl ?_
 have hs : Go.Lx.Sep g0 w0 gi _ (Go.Lx.box b2 80 ([v1, v2]) :: .row v1 48 (tVec 4 .u64).sz b1.sets.length xs1 :: .row v2 84 (tVec 2 .i64).sz b1.pairs.length xs2 :: Go.Lx.box b5 82 ([Value.bool false, Value.slice none 0 0, Value.slice none 0 0]) :: Go.Lx.box b4 82 ([Value.bool y1.nullable, v5, v6]) :: Go.Lx.box b3 82 ([Value.bool xv1.nullable, v3, v4]) :: Lt) := (Sep.selT (A := [Go.Lx.box b5 82 ([Value.bool false, Value.slice none 0 0, Value.slice none 0 0]), Go.Lx.box b4 82 ([Value.bool y1.nullable, v5, v6]), Go.Lx.box b3 82 ([Value.bool xv1.nullable, v3, v4]), Go.Lx.box b2 80 ([v1, v2]), .row v1 48 (tVec 4 .u64).sz b1.sets.length xs1, .row v2 84 (tVec 2 .i64).sz b1.pairs.length xs2]) (A' := [Go.Lx.box b2 80 ([v1, v2]), .row v1 48 (tVec 4 .u64).sz b1.sets.length xs1, .row v2 84 (tVec 2 .i64).sz b1.pairs.length xs2, Go.Lx.box b5 82 ([Value.bool false, Value.slice none 0 0, Value.slice none 0 0]), Go.Lx.box b4 82 ([Value.bool y1.nullable, v5, v6]), Go.Lx.box b3 82 ([Value.bool xv1.nullable, v3, v4])]) (L := Lt) hs [3, 4, 5, 0, 1, 2] (by decide) rfl)
 obtain ⟨rv1, hrv1, hM⟩ := bindS hM
 refine C [Value.pointer (some ⟨b2, 0, none⟩), v4, v5] cf47 rfl (ref09_builder_all_ok hrv1 hs hRv4 hRv5 hrelxs1 hrelxs2) rfl ?_
 rintro v7 wv4 ⟨gg1, v8, xs3, v9, xs4, hvv7, hlegg1, hrelxs3, hrelxs4, hs⟩
 replace hRv3 := hRv3.mono hlegg1
 replace hRv4 := hRv4.mono hlegg1
 replace hRv5 := hRv5.mono hlegg1
 replace hRv6 := hRv6.mono hlegg1
 replace hagi := hagi.trans hlegg1
 refine OW_nil ?_
 obtain ⟨out1, hx1, hKhx1⟩ := bindS hM
 refine WP_cut (fun E w => ∃ (b8 : Nat), E 4 = Value.pointer (some ⟨b3, 0, none⟩) ∧ E 5 = Value.pointer (some ⟨b4, 0, none⟩) ∧ E 6 = Value.pointer (some ⟨b5, 0, none⟩) ∧ E 7 = Value.pointer (some ⟨b8, 0, none⟩) ∧ E.ds = [] ∧ Go.Lx.Sep g0 w0 gg1 w (Go.Lx.box b8 82 ([Value.bool out1, v3, v6]) :: Go.Lx.box b2 80 ([v8, v9]) :: .row v8 48 (tVec 4 .u64).sz rv1.sets.length xs3 :: .row v9 84 (tVec 2 .i64).sz rv1.pairs.length xs4 :: Go.Lx.box b5 82 ([Value.bool false, Value.slice none 0 0, Value.slice none 0 0]) :: Go.Lx.box b4 82 ([Value.bool y1.nullable, v5, v6]) :: Go.Lx.box b3 82 ([Value.bool xv1.nullable, v3, v4]) :: Lt)) ?_ ?_
 ·have hM := hx1
  have hagg1 := Hle.refl gg1
  refine WP_region <| O (r_fieldAddr Try.underlying82 ti4 rfl rfl (by decide) rfl rfl) rfl <| O (r_load (v := Value.bool xv1.nullable) ti4 rfl (hs.cell (i := 5) (o := 0) rfl rfl)) rfl <| O (r_move (v := Value.bool xv1.nullable) rfl) rfl ?_
  rcases condS hM with ⟨hg2, hM⟩ | ⟨hg2, hM⟩
  ·refine OG rfl rfl rfl (by rw [hg2]; rfl) (r_fieldAddr Try.underlying82 ti4 rfl rfl (by decide) rfl rfl) rfl <| OG rfl rfl rfl (by rw [hg2]; rfl) (r_load (v := Value.bool y1.nullable) ti4 rfl (hs.cell (i := 4) (o := 0) rfl rfl)) rfl <| O (r_pickT (v := Value.bool y1.nullable) rfl hg2 rfl) rfl <| O (r_fieldAddr Try.underlying82 ti23 rfl rfl (by decide) rfl rfl) rfl <| O (r_load (v := v3) ti23 rfl (hs.cell (i := 5) (o := 1) rfl rfl)) rfl <| O (r_fieldAddr Try.underlying82 ti23 rfl rfl (by decide) rfl rfl) rfl <| O (r_load (v := v6) ti23 rfl (hs.cell (i := 4) (o := 2) rfl rfl)) rfl <| O (r_build (vs := [(0, Value.bool y1.nullable), (1, v3), (2, v6)]) (cs := [Value.bool y1.nullable, v3, v6]) rfl (built_fill [(0, 1), (1, 1), (2, 1)] [Value.bool false, Value.slice none 0 0, Value.slice none 0 0] (fun _ => by kernel_rfl) (fill_step ([]) ([Value.bool false]) ([Value.slice none 0 0, Value.slice none 0 0]) ([Value.bool y1.nullable]) rfl rfl rfl rfl rfl rfl <| fill_step ([Value.bool y1.nullable]) ([Value.slice none 0 0]) ([Value.slice none 0 0]) ([v3]) rfl rfl (cells_one (by obtain ⟨_, _, h9⟩ := hRv3.shape; rw [h9]; rfl)) rfl rfl rfl <| fill_step ([Value.bool y1.nullable, v3]) ([Value.slice none 0 0]) ([]) ([v6]) rfl rfl (cells_one (by obtain ⟨_, _, h9⟩ := hRv6.shape; rw [h9]; rfl)) rfl rfl rfl <| fill_done))) rfl ?_
   refine OW_alloc ti82 hs (zs := [Value.bool false, Value.slice none 0 0, Value.slice none 0 0]) rfl rfl ?_
   intro b9 wv9 hs
   refine OW_storeAll ti82 hs (i := 0) rfl rfl (v := Value.agg (List.toArray (α := Value) [Value.bool y1.nullable, v3, v6])) rfl (vs := [Value.bool y1.nullable, v3, v6]) rfl (one_cons rfl (one_cons (by obtain ⟨_, _, h9⟩ := hRv3.shape; rw [h9]; rfl) (one_cons (by obtain ⟨_, _, h9⟩ := hRv6.shape; rw [h9]; rfl) one_nil))) rfl rfl ?_
   intro wv10 hs
   refine OW_nil ?_
   obtain rfl := Option.some.inj hM
   exact ⟨b9, rfl, rfl, rfl, rfl, hds, hs⟩
  ·refine OK rfl rfl rfl (by rw [hg2]; rfl) rfl <| OK rfl rfl rfl (by rw [hg2]; rfl) rfl <| O (r_pickF (v := Value.bool false) rfl hg2 rfl) rfl <| O (r_fieldAddr Try.underlying82 ti23 rfl rfl (by decide) rfl rfl) rfl <| O (r_load (v := v3) ti23 rfl (hs.cell (i := 5) (o := 1) rfl rfl)) rfl <| O (r_fieldAddr Try.underlying82 ti23 rfl rfl (by decide) rfl rfl) rfl <| O (r_load (v := v6) ti23 rfl (hs.cell (i := 4) (o := 2) rfl rfl)) rfl <| O (r_build (vs := [(0, Value.bool false), (1, v3), (2, v6)]) (cs := [Value.bool false, v3, v6]) rfl (built_fill [(0, 1), (1, 1), (2, 1)] [Value.bool false, Value.slice none 0 0, Value.slice none 0 0] (fun _ => by kernel_rfl) (fill_step ([]) ([Value.bool false]) ([Value.slice none 0 0, Value.slice none 0 0]) ([Value.bool false]) rfl rfl rfl rfl rfl rfl <| fill_step ([Value.bool false]) ([Value.slice none 0 0]) ([Value.slice none 0 0]) ([v3]) rfl rfl (cells_one (by obtain ⟨_, _, h9⟩ := hRv3.shape; rw [h9]; rfl)) rfl rfl rfl <| fill_step ([Value.bool false, v3]) ([Value.slice none 0 0]) ([]) ([v6]) rfl rfl (cells_one (by obtain ⟨_, _, h9⟩ := hRv6.shape; rw [h9]; rfl)) rfl rfl rfl <| fill_done))) rfl ?_
   refine OW_alloc ti82 hs (zs := [Value.bool false, Value.slice none 0 0, Value.slice none 0 0]) rfl rfl ?_
   intro b10 wv11 hs
   refine OW_storeAll ti82 hs (i := 0) rfl rfl (v := Value.agg (List.toArray (α := Value) [Value.bool false, v3, v6])) rfl (vs := [Value.bool false, v3, v6]) rfl (one_cons rfl (one_cons (by obtain ⟨_, _, h9⟩ := hRv3.shape; rw [h9]; rfl) (one_cons (by obtain ⟨_, _, h9⟩ := hRv6.shape; rw [h9]; rfl) one_nil))) rfl rfl ?_
   intro wv12 hs
   refine OW_nil ?_
   obtain rfl := Option.some.inj hM
   exact ⟨b10, rfl, rfl, rfl, rfl, hds, hs⟩
 ·clear hs
  rintro E w ⟨b8, hE4, hE5, hE6, hE7, hds, hs⟩
  have hM := hKhx1
  obtain ⟨E, rfl⟩ := open4 (E := E) hE4 hE5 hE6 hE7
  obtain ⟨out3, hx2, hKhx2⟩ := bindS hM
  refine WP_cut (fun E w => ∃ (gg2 : Hp) (v14 : Value), E 4 = Value.pointer (some ⟨b3, 0, none⟩) ∧ E 5 = Value.pointer (some ⟨b4, 0, none⟩) ∧ E 6 = Value.pointer (some ⟨b5, 0, none⟩) ∧ E 7 = Value.pointer (some ⟨b8, 0, none⟩) ∧ E.ds = [] ∧ Hle gg1 gg2 ∧ RdS (tInt .i64) gg2 v14 out3 ∧ Go.Lx.Sep g0 w0 gg2 w (Go.Lx.box b8 82 ([Value.bool out1, v14, v6]) :: Go.Lx.box b2 80 ([v8, v9]) :: .row v8 48 (tVec 4 .u64).sz rv1.sets.length xs3 :: .row v9 84 (tVec 2 .i64).sz rv1.pairs.length xs4 :: Go.Lx.box b5 82 ([Value.bool false, Value.slice none 0 0, Value.slice none 0 0]) :: Go.Lx.box b4 82 ([Value.bool y1.nullable, v5, v6]) :: Go.Lx.box b3 82 ([Value.bool xv1.nullable, v3, v4]) :: Lt)) ?_ ?_
  ·have hM := hx2
   have hagg1 := Hle.refl gg1
   refine WP_seq <| WP_region <| O (r_fieldAddr Try.underlying82 ti4 rfl rfl (by decide) rfl rfl) rfl <| O (r_load (v := Value.bool xv1.nullable) ti4 rfl (hs.cell (i := 6) (o := 0) rfl rfl)) rfl <| OW_nil ?_
   rcases condS hM with ⟨hc2, hM⟩ | ⟨hc2, hM⟩
   ·refine WP_true rfl hc2 <| WP_any (.q 1 (.q 2 (.q 4 (.q 5 (.s 0 (.s 3 (.s 6 (.q 7 (.s 8 (.leaf)))))))))) (SS g0 w0 gg1 (Go.Lx.box b8 82 ([Value.bool out1, v3, v6]) :: Go.Lx.box b2 80 ([v8, v9]) :: .row v8 48 (tVec 4 .u64).sz rv1.sets.length xs3 :: .row v9 84 (tVec 2 .i64).sz rv1.pairs.length xs4 :: Go.Lx.box b5 82 ([Value.bool false, Value.slice none 0 0, Value.slice none 0 0]) :: Go.Lx.box b4 82 ([Value.bool y1.nullable, v5, v6]) :: Go.Lx.box b3 82 ([Value.bool xv1.nullable, v3, v4]) :: Lt)) mo (by decide +kernel) ?_
    have hs := hs.drew
    have hS : SS g0 w0 gg1 (Go.Lx.box b8 82 ([Value.bool out1, v3, v6]) :: Go.Lx.box b2 80 ([v8, v9]) :: .row v8 48 (tVec 4 .u64).sz rv1.sets.length xs3 :: .row v9 84 (tVec 2 .i64).sz rv1.pairs.length xs4 :: Go.Lx.box b5 82 ([Value.bool false, Value.slice none 0 0, Value.slice none 0 0]) :: Go.Lx.box b4 82 ([Value.bool y1.nullable, v5, v6]) :: Go.Lx.box b3 82 ([Value.bool xv1.nullable, v3, v4]) :: Lt) _ := ⟨gg1, Hle.refl _, hs⟩
    refine A rfl hS (fun w9 ⟨g9, hle9, hs⟩ => r_fieldAddr Try.underlying82 ti23 rfl rfl (by decide) rfl rfl) rfl <| A rfl hS (fun w9 ⟨g9, hle9, hs⟩ => r_load (v := v3) ti23 rfl (hs.cell (i := 6) (o := 1) rfl rfl)) rfl <| A rfl hS (fun w9 ⟨g9, hle9, hs⟩ => r_fieldAddr Try.underlying82 ti23 rfl rfl (by decide) rfl rfl) rfl <| A rfl hS (fun w9 ⟨g9, hle9, hs⟩ => r_load (v := v5) ti23 rfl (hs.cell (i := 5) (o := 1) rfl rfl)) rfl <| A1 rfl <| OW_lit (τ := (tInt .i64)) [] [] Try.underlying23 ti3 (by decide) hs rfl rfl rfl trivial rfl ?_
    intro v15 wv17 xs10 hrelxs10 hs
    refine OW_nil ?_
    replace hS := hS.to (Hle.refl _) (Sep.selT (A := [.row v15 3 (tInt .i64).sz [].length xs10, Go.Lx.box b8 82 ([Value.bool out1, v3, v6]), Go.Lx.box b2 80 ([v8, v9]), .row v8 48 (tVec 4 .u64).sz rv1.sets.length xs3, .row v9 84 (tVec 2 .i64).sz rv1.pairs.length xs4, Go.Lx.box b5 82 ([Value.bool false, Value.slice none 0 0, Value.slice none 0 0]), Go.Lx.box b4 82 ([Value.bool y1.nullable, v5, v6]), Go.Lx.box b3 82 ([Value.bool xv1.nullable, v3, v4])]) (A' := [Go.Lx.box b8 82 ([Value.bool out1, v3, v6]), Go.Lx.box b2 80 ([v8, v9]), .row v8 48 (tVec 4 .u64).sz rv1.sets.length xs3, .row v9 84 (tVec 2 .i64).sz rv1.pairs.length xs4, Go.Lx.box b5 82 ([Value.bool false, Value.slice none 0 0, Value.slice none 0 0]), Go.Lx.box b4 82 ([Value.bool y1.nullable, v5, v6]), Go.Lx.box b3 82 ([Value.bool xv1.nullable, v3, v4])]) (L := Lt) hs [1, 2, 3, 4, 5, 6, 7] (by decide) rfl)
    refine ⟨fun _ => hS, ?_⟩
    refine A1 rfl ?_
    obtain ⟨xs11, hrxs11, hlxs11⟩ := (id hRv3)
    obtain ⟨y4, hy4, hM⟩ := bindS hM
    refine OW_append Try.underlying23 ti3 rfl (by decide) (by decide) hs (i := 0) rfl hrelxs10 (v := v15) rfl (u := v3) rfl (hlxs11.src hs.imm) hrxs11 hy4 rfl ?_
    intro v16 wv18 xs12 hrelxs12 hs
    refine OW_nil ?_
    replace hS := hS.to (Hle.refl _) (Sep.selT (A := [.row v16 3 (tInt .i64).sz y4.length xs12, Go.Lx.box b8 82 ([Value.bool out1, v3, v6]), Go.Lx.box b2 80 ([v8, v9]), .row v8 48 (tVec 4 .u64).sz rv1.sets.length xs3, .row v9 84 (tVec 2 .i64).sz rv1.pairs.length xs4, Go.Lx.box b5 82 ([Value.bool false, Value.slice none 0 0, Value.slice none 0 0]), Go.Lx.box b4 82 ([Value.bool y1.nullable, v5, v6]), Go.Lx.box b3 82 ([Value.bool xv1.nullable, v3, v4])]) (A' := [Go.Lx.box b8 82 ([Value.bool out1, v3, v6]), Go.Lx.box b2 80 ([v8, v9]), .row v8 48 (tVec 4 .u64).sz rv1.sets.length xs3, .row v9 84 (tVec 2 .i64).sz rv1.pairs.length xs4, Go.Lx.box b5 82 ([Value.bool false, Value.slice none 0 0, Value.slice none 0 0]), Go.Lx.box b4 82 ([Value.bool y1.nullable, v5, v6]), Go.Lx.box b3 82 ([Value.bool xv1.nullable, v3, v4])]) (L := Lt) hs [1, 2, 3, 4, 5, 6, 7] (by decide) rfl)
    refine ⟨fun _ => hS, ?_⟩
    refine A1 rfl ?_
    obtain ⟨xs13, hrxs13, hlxs13⟩ := (id hRv5)
    obtain ⟨y5, hy5, hM⟩ := bindS hM
    refine OW_append Try.underlying23 ti3 rfl (by decide) (by decide) hs (i := 0) rfl hrelxs12 (v := v16) rfl (u := v5) rfl (hlxs13.src hs.imm) hrxs13 hy5 rfl ?_
    intro v17 wv19 xs14 hrelxs14 hs
    refine OW_nil ?_
    replace hS := hS.to (Hle.refl _) (Sep.selT (A := [.row v17 3 (tInt .i64).sz y5.length xs14, Go.Lx.box b8 82 ([Value.bool out1, v3, v6]), Go.Lx.box b2 80 ([v8, v9]), .row v8 48 (tVec 4 .u64).sz rv1.sets.length xs3, .row v9 84 (tVec 2 .i64).sz rv1.pairs.length xs4, Go.Lx.box b5 82 ([Value.bool false, Value.slice none 0 0, Value.slice none 0 0]), Go.Lx.box b4 82 ([Value.bool y1.nullable, v5, v6]), Go.Lx.box b3 82 ([Value.bool xv1.nullable, v3, v4])]) (A' := [Go.Lx.box b8 82 ([Value.bool out1, v3, v6]), Go.Lx.box b2 80 ([v8, v9]), .row v8 48 (tVec 4 .u64).sz rv1.sets.length xs3, .row v9 84 (tVec 2 .i64).sz rv1.pairs.length xs4, Go.Lx.box b5 82 ([Value.bool false, Value.slice none 0 0, Value.slice none 0 0]), Go.Lx.box b4 82 ([Value.bool y1.nullable, v5, v6]), Go.Lx.box b3 82 ([Value.bool xv1.nullable, v3, v4])]) (L := Lt) hs [1, 2, 3, 4, 5, 6, 7] (by decide) rfl)
    refine ⟨fun _ => hS, ?_⟩
    refine A rfl hS (fun w9 ⟨g9, hle9, hs⟩ => r_fieldAddr Try.underlying82 ti23 rfl rfl (by decide) rfl rfl) rfl <| A1 rfl <| OW_store1 ti23 hs (i := 1) rfl rfl (v := v17) rfl (by obtain ⟨_, _, h9⟩ := hs.rowShape (i := 0) rfl; rw [h9]; rfl) (o := 1) (by simp) ?_
    intro wv20 hs
    refine OW_nil ?_
    refine ⟨fun h => absurd h (by decide +kernel), ?_⟩
    refine AN ?_
    obtain rfl := Option.some.inj hM
    obtain ⟨gg3, hlegg3, hRgg3, hs⟩ := hs.relRow (i := 0) rfl hrelxs14
    replace hagg1 := hagg1.trans hlegg3
    exact ⟨gg3, v17, rfl, rfl, rfl, rfl, hds, hagg1, hRgg3, hs⟩
   ·refine WP_false rfl hc2 <| WP_skip ?_
    obtain rfl := Option.some.inj hM
    exact ⟨gg1, v3, rfl, rfl, rfl, rfl, hds, (Hle.refl _), hRv3, hs⟩
  ·clear hs
   rintro E w ⟨gg2, v14, hE4, hE5, hE6, hE7, hds, hlegg2, hRv14, hs⟩
   have hM := hKhx2
   obtain ⟨E, rfl⟩ := open4 (E := E) hE4 hE5 hE6 hE7
   replace hRv4 := hRv4.mono hlegg2
   replace hRv6 := hRv6.mono hlegg2
   replace hrelxs3 := hrelxs3.mono hlegg2
   replace hrelxs4 := hrelxs4.mono hlegg2
   replace hagi := hagi.trans hlegg2
   obtain ⟨out5, hx3, hKhx3⟩ := bindS hM
   refine WP_cut (fun E w => ∃ (gg4 : Hp) (v22 : Value), E 6 = Value.pointer (some ⟨b5, 0, none⟩) ∧ E 7 = Value.pointer (some ⟨b8, 0, none⟩) ∧ E.ds = [] ∧ Hle gg2 gg4 ∧ RdS (tInt .i64) gg4 v22 out5 ∧ Go.Lx.Sep g0 w0 gg4 w (Go.Lx.box b8 82 ([Value.bool out1, v14, v22]) :: Go.Lx.box b2 80 ([v8, v9]) :: .row v8 48 (tVec 4 .u64).sz rv1.sets.length xs3 :: .row v9 84 (tVec 2 .i64).sz rv1.pairs.length xs4 :: Go.Lx.box b5 82 ([Value.bool false, Value.slice none 0 0, Value.slice none 0 0]) :: Lt)) ?_ ?_
   ·have hM := hx3
    have hagg2 := Hle.refl gg2
    refine WP_seq <| WP_region <| O (r_fieldAddr Try.underlying82 ti4 rfl rfl (by decide) rfl rfl) rfl <| O (r_load (v := Value.bool y1.nullable) ti4 rfl (hs.cell (i := 5) (o := 0) rfl rfl)) rfl <| OW_nil ?_
    rcases condS hM with ⟨hc4, hM⟩ | ⟨hc4, hM⟩
    ·refine WP_true rfl hc4 <| WP_any (.q 1 (.q 2 (.q 4 (.q 5 (.s 0 (.s 3 (.s 6 (.q 7 (.s 8 (.leaf)))))))))) (SS g0 w0 gg2 (Go.Lx.box b8 82 ([Value.bool out1, v14, v6]) :: Go.Lx.box b2 80 ([v8, v9]) :: .row v8 48 (tVec 4 .u64).sz rv1.sets.length xs3 :: .row v9 84 (tVec 2 .i64).sz rv1.pairs.length xs4 :: Go.Lx.box b5 82 ([Value.bool false, Value.slice none 0 0, Value.slice none 0 0]) :: Go.Lx.box b4 82 ([Value.bool y1.nullable, v5, v6]) :: Go.Lx.box b3 82 ([Value.bool xv1.nullable, v3, v4]) :: Lt)) mo (by decide +kernel) ?_
     have hs := hs.drew
     have hS : SS g0 w0 gg2 (Go.Lx.box b8 82 ([Value.bool out1, v14, v6]) :: Go.Lx.box b2 80 ([v8, v9]) :: .row v8 48 (tVec 4 .u64).sz rv1.sets.length xs3 :: .row v9 84 (tVec 2 .i64).sz rv1.pairs.length xs4 :: Go.Lx.box b5 82 ([Value.bool false, Value.slice none 0 0, Value.slice none 0 0]) :: Go.Lx.box b4 82 ([Value.bool y1.nullable, v5, v6]) :: Go.Lx.box b3 82 ([Value.bool xv1.nullable, v3, v4]) :: Lt) _ := ⟨gg2, Hle.refl _, hs⟩
     refine A rfl hS (fun w9 ⟨g9, hle9, hs⟩ => r_fieldAddr Try.underlying82 ti23 rfl rfl (by decide) rfl rfl) rfl <| A rfl hS (fun w9 ⟨g9, hle9, hs⟩ => r_load (v := v4) ti23 rfl (hs.cell (i := 6) (o := 2) rfl rfl)) rfl <| A rfl hS (fun w9 ⟨g9, hle9, hs⟩ => r_fieldAddr Try.underlying82 ti23 rfl rfl (by decide) rfl rfl) rfl <| A rfl hS (fun w9 ⟨g9, hle9, hs⟩ => r_load (v := v6) ti23 rfl (hs.cell (i := 5) (o := 2) rfl rfl)) rfl <| A1 rfl <| OW_lit (τ := (tInt .i64)) [] [] Try.underlying23 ti3 (by decide) hs rfl rfl rfl trivial rfl ?_
     intro v23 wv25 xs20 hrelxs20 hs
     refine OW_nil ?_
     replace hS := hS.to (Hle.refl _) (Sep.selT (A := [.row v23 3 (tInt .i64).sz [].length xs20, Go.Lx.box b8 82 ([Value.bool out1, v14, v6]), Go.Lx.box b2 80 ([v8, v9]), .row v8 48 (tVec 4 .u64).sz rv1.sets.length xs3, .row v9 84 (tVec 2 .i64).sz rv1.pairs.length xs4, Go.Lx.box b5 82 ([Value.bool false, Value.slice none 0 0, Value.slice none 0 0]), Go.Lx.box b4 82 ([Value.bool y1.nullable, v5, v6]), Go.Lx.box b3 82 ([Value.bool xv1.nullable, v3, v4])]) (A' := [Go.Lx.box b8 82 ([Value.bool out1, v14, v6]), Go.Lx.box b2 80 ([v8, v9]), .row v8 48 (tVec 4 .u64).sz rv1.sets.length xs3, .row v9 84 (tVec 2 .i64).sz rv1.pairs.length xs4, Go.Lx.box b5 82 ([Value.bool false, Value.slice none 0 0, Value.slice none 0 0]), Go.Lx.box b4 82 ([Value.bool y1.nullable, v5, v6]), Go.Lx.box b3 82 ([Value.bool xv1.nullable, v3, v4])]) (L := Lt) hs [1, 2, 3, 4, 5, 6, 7] (by decide) rfl)
     refine ⟨fun _ => hS, ?_⟩
     refine A1 rfl ?_
     obtain ⟨xs21, hrxs21, hlxs21⟩ := (id hRv4)
     obtain ⟨y8, hy8, hM⟩ := bindS hM
     refine OW_append Try.underlying23 ti3 rfl (by decide) (by decide) hs (i := 0) rfl hrelxs20 (v := v23) rfl (u := v4) rfl (hlxs21.src hs.imm) hrxs21 hy8 rfl ?_
     intro v24 wv26 xs22 hrelxs22 hs
     refine OW_nil ?_
     replace hS := hS.to (Hle.refl _) (Sep.selT (A := [.row v24 3 (tInt .i64).sz y8.length xs22, Go.Lx.box b8 82 ([Value.bool out1, v14, v6]), Go.Lx.box b2 80 ([v8, v9]), .row v8 48 (tVec 4 .u64).sz rv1.sets.length xs3, .row v9 84 (tVec 2 .i64).sz rv1.pairs.length xs4, Go.Lx.box b5 82 ([Value.bool false, Value.slice none 0 0, Value.slice none 0 0]), Go.Lx.box b4 82 ([Value.bool y1.nullable, v5, v6]), Go.Lx.box b3 82 ([Value.bool xv1.nullable, v3, v4])]) (A' := [Go.Lx.box b8 82 ([Value.bool out1, v14, v6]), Go.Lx.box b2 80 ([v8, v9]), .row v8 48 (tVec 4 .u64).sz rv1.sets.length xs3, .row v9 84 (tVec 2 .i64).sz rv1.pairs.length xs4, Go.Lx.box b5 82 ([Value.bool false, Value.slice none 0 0, Value.slice none 0 0]), Go.Lx.box b4 82 ([Value.bool y1.nullable, v5, v6]), Go.Lx.box b3 82 ([Value.bool xv1.nullable, v3, v4])]) (L := Lt) hs [1, 2, 3, 4, 5, 6, 7] (by decide) rfl)
     refine ⟨fun _ => hS, ?_⟩
     refine A1 rfl ?_
     obtain ⟨xs23, hrxs23, hlxs23⟩ := (id hRv6)
     obtain ⟨y9, hy9, hM⟩ := bindS hM
     refine OW_append Try.underlying23 ti3 rfl (by decide) (by decide) hs (i := 0) rfl hrelxs22 (v := v24) rfl (u := v6) rfl (hlxs23.src hs.imm) hrxs23 hy9 rfl ?_
     intro v25 wv27 xs24 hrelxs24 hs
     refine OW_nil ?_
     replace hS := hS.to (Hle.refl _) (Sep.selT (A := [.row v25 3 (tInt .i64).sz y9.length xs24, Go.Lx.box b8 82 ([Value.bool out1, v14, v6]), Go.Lx.box b2 80 ([v8, v9]), .row v8 48 (tVec 4 .u64).sz rv1.sets.length xs3, .row v9 84 (tVec 2 .i64).sz rv1.pairs.length xs4, Go.Lx.box b5 82 ([Value.bool false, Value.slice none 0 0, Value.slice none 0 0]), Go.Lx.box b4 82 ([Value.bool y1.nullable, v5, v6]), Go.Lx.box b3 82 ([Value.bool xv1.nullable, v3, v4])]) (A' := [Go.Lx.box b8 82 ([Value.bool out1, v14, v6]), Go.Lx.box b2 80 ([v8, v9]), .row v8 48 (tVec 4 .u64).sz rv1.sets.length xs3, .row v9 84 (tVec 2 .i64).sz rv1.pairs.length xs4, Go.Lx.box b5 82 ([Value.bool false, Value.slice none 0 0, Value.slice none 0 0]), Go.Lx.box b4 82 ([Value.bool y1.nullable, v5, v6]), Go.Lx.box b3 82 ([Value.bool xv1.nullable, v3, v4])]) (L := Lt) hs [1, 2, 3, 4, 5, 6, 7] (by decide) rfl)
     refine ⟨fun _ => hS, ?_⟩
     refine A rfl hS (fun w9 ⟨g9, hle9, hs⟩ => r_fieldAddr Try.underlying82 ti23 rfl rfl (by decide) rfl rfl) rfl <| A1 rfl <| OW_store1 ti23 hs (i := 1) rfl rfl (v := v25) rfl (by obtain ⟨_, _, h9⟩ := hs.rowShape (i := 0) rfl; rw [h9]; rfl) (o := 2) (by simp) ?_
     intro wv28 hs
     refine OW_nil ?_
     refine ⟨fun h => absurd h (by decide +kernel), ?_⟩
     refine AN ?_
     obtain rfl := Option.some.inj hM
     obtain ⟨gg5, hlegg5, hRgg5, hs⟩ := hs.relRow (i := 0) rfl hrelxs24
     replace hagg2 := hagg2.trans hlegg5
     exact ⟨gg5, v25, rfl, rfl, hds, hagg2, hRgg5, (Sep.selT (A := [Go.Lx.box b8 82 ([Value.bool out1, v14, v25]), Go.Lx.box b2 80 ([v8, v9]), .row v8 48 (tVec 4 .u64).sz rv1.sets.length xs3, .row v9 84 (tVec 2 .i64).sz rv1.pairs.length xs4, Go.Lx.box b5 82 ([Value.bool false, Value.slice none 0 0, Value.slice none 0 0]), Go.Lx.box b4 82 ([Value.bool y1.nullable, v5, v6]), Go.Lx.box b3 82 ([Value.bool xv1.nullable, v3, v4])]) (A' := [Go.Lx.box b8 82 ([Value.bool out1, v14, v25]), Go.Lx.box b2 80 ([v8, v9]), .row v8 48 (tVec 4 .u64).sz rv1.sets.length xs3, .row v9 84 (tVec 2 .i64).sz rv1.pairs.length xs4, Go.Lx.box b5 82 ([Value.bool false, Value.slice none 0 0, Value.slice none 0 0])]) (L := Lt) hs [0, 1, 2, 3, 4] (by decide) rfl)⟩
    ·refine WP_false rfl hc4 <| WP_skip ?_
     obtain rfl := Option.some.inj hM
     exact ⟨gg2, v6, rfl, rfl, hds, (Hle.refl _), hRv6, (Sep.selT (A := [Go.Lx.box b8 82 ([Value.bool out1, v14, v6]), Go.Lx.box b2 80 ([v8, v9]), .row v8 48 (tVec 4 .u64).sz rv1.sets.length xs3, .row v9 84 (tVec 2 .i64).sz rv1.pairs.length xs4, Go.Lx.box b5 82 ([Value.bool false, Value.slice none 0 0, Value.slice none 0 0]), Go.Lx.box b4 82 ([Value.bool y1.nullable, v5, v6]), Go.Lx.box b3 82 ([Value.bool xv1.nullable, v3, v4])]) (A' := [Go.Lx.box b8 82 ([Value.bool out1, v14, v6]), Go.Lx.box b2 80 ([v8, v9]), .row v8 48 (tVec 4 .u64).sz rv1.sets.length xs3, .row v9 84 (tVec 2 .i64).sz rv1.pairs.length xs4, Go.Lx.box b5 82 ([Value.bool false, Value.slice none 0 0, Value.slice none 0 0])]) (L := Lt) hs [0, 1, 2, 3, 4] (by decide) rfl)⟩
   ·clear hs
    rintro E w ⟨gg4, v22, hE6, hE7, hds, hlegg4, hRv22, hs⟩
    have hM := hKhx3
    obtain ⟨E, rfl⟩ := open2 (E := E) hE6 hE7
    replace hRv14 := hRv14.mono hlegg4
    replace hrelxs3 := hrelxs3.mono hlegg4
    replace hrelxs4 := hrelxs4.mono hlegg4
    replace hagi := hagi.trans hlegg4
    refine WP_seq <| WP_region <| O (r_loadN (cs := [Value.bool out1, v14, v22]) ti82 rfl rfl (hs.cells (i := 0) rfl)) rfl <| OW_storeAll ti82 hs (i := 4) rfl rfl (v := Value.agg (List.toArray (α := Value) [Value.bool out1, v14, v22])) rfl (vs := [Value.bool out1, v14, v22]) rfl (one_cons rfl (one_cons (by obtain ⟨_, _, h9⟩ := hRv14.shape; rw [h9]; rfl) (one_cons (by obtain ⟨_, _, h9⟩ := hRv22.shape; rw [h9]; rfl) one_nil))) rfl rfl ?_
    intro wv29 hs
    refine OW_nil <| WP_ret ?_
    obtain rfl := Option.some.inj hM
    refine FL_nil hds ?_
    exact ⟨_, res1 Try.results61 (rv_cells (vs := [Value.bool out1, v14, v22]) ti82 rfl rfl (hs.cells (i := 4) rfl)), gg4, v8, xs3, v9, xs4, ⟨[Value.bool out1, v14, v22], rfl, ⟨[Value.bool out1], [v14], [v22], rfl, rfl, ⟨_, rfl, hRv14⟩, ⟨_, rfl, hRv22⟩⟩⟩, hagi, hrelxs3, hrelxs4, (Sep.selT (A := [Go.Lx.box b8 82 ([Value.bool out1, v14, v22]), Go.Lx.box b2 80 ([v8, v9]), .row v8 48 (tVec 4 .u64).sz rv1.sets.length xs3, .row v9 84 (tVec 2 .i64).sz rv1.pairs.length xs4, Go.Lx.box b5 82 ([Value.bool out1, v14, v22])]) (A' := [Go.Lx.box b2 80 ([v8, v9]), .row v8 48 (tVec 4 .u64).sz rv1.sets.length xs3, .row v9 84 (tVec 2 .i64).sz rv1.pairs.length xs4]) (L := Lt) hs [1, 2, 3] (by decide) rfl)⟩
def C.ref09_builder_build (fl : Nat) : Prop := ∀ {p1 : T_ref09_builder} {p2 : T_Regex} {r : T_ref09_part × T_ref09_builder} (_ : M.ref09_builder_build fl p1 p2 = some r) {g0 : Hp} {w0 : World} {gi : Hp} {wi : World} {Lt : List Res} {b1 : Nat} {v1 : Value} {xs1 : List Value} {v2 : Value} {xs2 : List Value} (hs : Sep g0 w0 gi wi (Go.Lx.box b1 80 ([v1, v2]) :: .row v1 48 (tVec 4 .u64).sz p1.sets.length xs1 :: .row v2 84 (tVec 2 .i64).sz p1.pairs.length xs2 :: Lt)) {cs1 : List Value} (hcs1 : tT_Regex.rel gi cs1 p2) (hrelxs1 : RowRel (tVec 4 .u64) gi xs1 p1.sets) (hrelxs2 : RowRel (tVec 2 .i64) gi xs2 p1.pairs),
    CallsV Try.prog 46 #[Value.pointer (some ⟨b1, 0, none⟩), Value.agg cs1.toArray] wi (fun v w' => ∃ g' v218 xs139 v219 xs140, (VRd tT_ref09_part true g' v r.1) ∧ Hle gi g' ∧ RowRel (tVec 4 .u64) g' xs139 r.2.sets ∧ RowRel (tVec 2 .i64) g' xs140 r.2.pairs ∧ Sep g0 w0 g' w' (Go.Lx.box b1 80 ([v218, v219]) :: .row v218 48 (tVec 4 .u64).sz r.2.sets.length xs139 :: .row v219 84 (tVec 2 .i64).sz r.2.pairs.length xs140 :: Lt))
set_option maxRecDepth 100000 in
theorem ref09_builder_build_step {fl : Nat} (ih_ref09_builder_build : C.ref09_builder_build fl) : C.ref09_builder_build (fl + 1) := by
 intro p1 p2 r hM g0 w0 gi wi Lt b1 v1 xs1 v2 xs2 hs cs1 hcs1 hrelxs1 hrelxs2
 unfold M.ref09_builder_build at hM
 obtain ⟨cs2, cs3, cs4, rfl, hcs2, hcs3, hcs4⟩ := tT_Regex_iff.1 hcs1
 have hcs2 : cs2 = _ := hcs2; subst hcs2
 have hcs3 : cs3 = _ := hcs3; subst hcs3
 obtain ⟨v3, rfl, hRv3⟩ := hcs4
 have hagi := Hle.refl gi
 refine calls_of_WP (args := [Value.pointer (some ⟨b1, 0, none⟩), Value.agg (List.toArray (α := Value) (([Value.int .i64 p2.Kind]) ++ ((p2.Set.1.map (Value.int .u64)) ++ ([v3]))))]) Try.func46 rfl Try.ntmps46 rfl ?_
 have hds : (argEnv [Value.pointer (some ⟨b1, 0, none⟩), Value.agg (List.toArray (α := Value) (([Value.int .i64 p2.Kind]) ++ ((p2.Set.1.map (Value.int .u64)) ++ ([v3]))))]).ds = [] := rfl
 refine WP_seq <| WP_region <| OW_box (v := Value.agg (List.toArray (α := Value) (([Value.int .i64 p2.Kind]) ++ ((p2.Set.1.map (Value.int .u64)) ++ ([v3]))))) rfl hs (zs := ([Value.int .i64 p2.Kind]) ++ ((p2.Set.1.map (Value.int .u64)) ++ ([v3]))) rfl rfl ?_
 intro b2 wv1 hs
 refine OW_alloc ti82 hs (zs := [Value.bool false, Value.slice none 0 0, Value.slice none 0 0]) rfl rfl ?_
 intro b3 wv2 hs
 refine OW_nil <| WP_seq <| WP_region <| OW_alloc ti82 hs (zs := [Value.bool false, Value.slice none 0 0, Value.slice none 0 0]) rfl rfl ?_
 intro b4 wv3 hs
 refine OW_nil ?_
 obtain ⟨⟨xv33, l7, l8, xv34, xv35⟩, hx4, hKhx4⟩ := bindS hM
 refine WP_cut (fun E w => ∃ (gg18 : Hp) (v111 : Value) (xs70 : List Value) (v112 : Value) (xs71 : List Value) (v109 : Value) (v110 : Value), E 4 = Value.pointer (some ⟨b3, 0, none⟩) ∧ E 5 = Value.pointer (some ⟨b4, 0, none⟩) ∧ E.ds = [] ∧ Hle gi gg18 ∧ RowRel (tVec 4 .u64) gg18 xs70 xv34 ∧ RowRel (tVec 2 .i64) gg18 xs71 xv35 ∧ RdS (tInt .i64) gg18 v109 l7 ∧ RdS (tInt .i64) gg18 v110 l8 ∧ Go.Lx.Sep g0 w0 gg18 w (Go.Lx.box b4 82 ([Value.bool xv33, v109, v110]) :: Go.Lx.box b3 82 ([Value.bool false, Value.slice none 0 0, Value.slice none 0 0]) :: Go.Lx.box b1 80 ([v111, v112]) :: .row v111 48 (tVec 4 .u64).sz xv34.length xs70 :: .row v112 84 (tVec 2 .i64).sz xv35.length xs71 :: Lt)) ?_ ?_
 ·have hM := hx4
  refine WP_seq <| WP_region <| O (r_fieldAddr Try.underlying50 ti3 rfl rfl (by decide) rfl rfl) rfl <| O (r_load (v := Value.int .i64 p2.Kind) ti3 rfl (hs.cell (i := 2) (o := 0) rfl (by simp [p2.Set.2]))) rfl <| OW_nil <| WP_block <| WP_seq <| WP_region <| O (r_eql rfl rfl) rfl <| O (r_assign (v := Value.bool (p2.Kind == 2)) rfl) rfl <| OW_nil ?_
  rcases condS hM with ⟨hc12, hM⟩ | ⟨hc12, hM⟩
  ·refine WP_true rfl hc12 <| WP_region <| O (r_fieldAddr Try.underlying82 ti4 rfl rfl (by decide) rfl rfl) rfl <| OW_store1 ti4 hs (i := 0) rfl rfl (v := Value.bool true) rfl rfl (o := 0) (by simp) ?_
   intro wv68 hs
   refine OW_nil ?_
   simp only [Option.some.injEq, Prod.mk.injEq] at hM
   obtain ⟨rfl, rfl, rfl, rfl, rfl⟩ := hM
   exact ⟨gi, v1, xs1, v2, xs2, Value.slice none 0 0, Value.slice none 0 0, rfl, rfl, hds, (Hle.refl _), hrelxs1, hrelxs2, RdS.nil, RdS.nil, (Sep.selT (A := [Go.Lx.box b4 82 ([Value.bool true, Value.slice none 0 0, Value.slice none 0 0]), Go.Lx.box b3 82 ([Value.bool false, Value.slice none 0 0, Value.slice none 0 0]), Go.Lx.box b2 50 (([Value.int .i64 p2.Kind]) ++ ((p2.Set.1.map (Value.int .u64)) ++ ([v3]))), Go.Lx.box b1 80 ([v1, v2]), .row v1 48 (tVec 4 .u64).sz p1.sets.length xs1, .row v2 84 (tVec 2 .i64).sz p1.pairs.length xs2]) (A' := [Go.Lx.box b4 82 ([Value.bool true, Value.slice none 0 0, Value.slice none 0 0]), Go.Lx.box b3 82 ([Value.bool false, Value.slice none 0 0, Value.slice none 0 0]), Go.Lx.box b1 80 ([v1, v2]), .row v1 48 (tVec 4 .u64).sz p1.sets.length xs1, .row v2 84 (tVec 2 .i64).sz p1.pairs.length xs2]) (L := Lt) hs [0, 1, 3, 4, 5] (by decide) rfl)⟩
  ·refine WP_false rfl hc12 <| WP_seq <| WP_region <| O (r_eql rfl rfl) rfl <| O (r_assign (v := Value.bool (p2.Kind == 3)) rfl) rfl <| OW_nil ?_
   rcases condS hM with ⟨hc13, hM⟩ | ⟨hc13, hM⟩
   ·refine WP_true rfl hc13 <| WP_seq <| WP_any (.q 0 (.q 1 (.q 2 (.q 3 (.q 4 (.q 5 (.q 6 (.s 7 (.s 8 (.q 9 (.q 10 (.s 11 (.leaf))))))))))))) (SS g0 w0 gi (Go.Lx.box b4 82 ([Value.bool false, Value.slice none 0 0, Value.slice none 0 0]) :: Go.Lx.box b3 82 ([Value.bool false, Value.slice none 0 0, Value.slice none 0 0]) :: Go.Lx.box b2 50 (([Value.int .i64 p2.Kind]) ++ ((p2.Set.1.map (Value.int .u64)) ++ ([v3]))) :: Go.Lx.box b1 80 ([v1, v2]) :: .row v1 48 (tVec 4 .u64).sz p1.sets.length xs1 :: .row v2 84 (tVec 2 .i64).sz p1.pairs.length xs2 :: Lt)) mo (by decide +kernel) ?_
    have hs := hs.drew
    have hS : SS g0 w0 gi (Go.Lx.box b4 82 ([Value.bool false, Value.slice none 0 0, Value.slice none 0 0]) :: Go.Lx.box b3 82 ([Value.bool false, Value.slice none 0 0, Value.slice none 0 0]) :: Go.Lx.box b2 50 (([Value.int .i64 p2.Kind]) ++ ((p2.Set.1.map (Value.int .u64)) ++ ([v3]))) :: Go.Lx.box b1 80 ([v1, v2]) :: .row v1 48 (tVec 4 .u64).sz p1.sets.length xs1 :: .row v2 84 (tVec 2 .i64).sz p1.pairs.length xs2 :: Lt) _ := ⟨gi, Hle.refl _, hs⟩
    refine A rfl hS (fun w9 ⟨g9, hle9, hs⟩ => r_move (v := Value.pointer (some ⟨b1, 0, none⟩)) rfl) rfl <| A rfl hS (fun w9 ⟨g9, hle9, hs⟩ => r_move (v := Value.pointer (some ⟨b1, 0, none⟩)) rfl) rfl <| A rfl hS (fun w9 ⟨g9, hle9, hs⟩ => r_nilCheck rfl) rfl <| A rfl hS (fun w9 ⟨g9, hle9, hs⟩ => r_fieldAddr Try.underlying80 ti66 rfl rfl (by decide) rfl rfl) rfl <| A rfl hS (fun w9 ⟨g9, hle9, hs⟩ => r_load (v := v1) ti66 rfl (hs.cell (i := 3) (o := 0) rfl rfl)) rfl <| A rfl hS (fun w9 ⟨g9, hle9, hs⟩ => r_fieldAddr Try.underlying50 ti48 rfl rfl (by decide) rfl rfl) rfl <| A rfl hS (fun w9 ⟨g9, hle9, hs⟩ => r_loadN (cs := p2.Set.1.map (Value.int .u64)) ti48 rfl (by simp [p2.Set.2]) (hs.cellsAt (i := 2) (o := 1) rfl (by intro j u hj; exact sub_at (pre := [Value.int .i64 p2.Kind]) (ds := p2.Set.1.map (Value.int .u64)) (post := [v3]) rfl ((by simp)) hj))) rfl ?_
    refine A1 rfl <| OW_lit (τ := (tVec 4 .u64)) [encV .u64 p2.Set] [p2.Set] Try.underlying66 ti48 (by decide) hs rfl rfl rfl ⟨rfl, trivial⟩ rfl ?_
    intro v113 wv69 xs72 hrelxs72 hs
    refine OW_nil ?_
    replace hS := hS.to (Hle.refl _) (Sep.selT (A := [.row v113 48 (tVec 4 .u64).sz [p2.Set].length xs72, Go.Lx.box b4 82 ([Value.bool false, Value.slice none 0 0, Value.slice none 0 0]), Go.Lx.box b3 82 ([Value.bool false, Value.slice none 0 0, Value.slice none 0 0]), Go.Lx.box b2 50 (([Value.int .i64 p2.Kind]) ++ ((p2.Set.1.map (Value.int .u64)) ++ ([v3]))), Go.Lx.box b1 80 ([v1, v2]), .row v1 48 (tVec 4 .u64).sz p1.sets.length xs1, .row v2 84 (tVec 2 .i64).sz p1.pairs.length xs2]) (A' := [Go.Lx.box b4 82 ([Value.bool false, Value.slice none 0 0, Value.slice none 0 0]), Go.Lx.box b3 82 ([Value.bool false, Value.slice none 0 0, Value.slice none 0 0]), Go.Lx.box b2 50 (([Value.int .i64 p2.Kind]) ++ ((p2.Set.1.map (Value.int .u64)) ++ ([v3]))), Go.Lx.box b1 80 ([v1, v2]), .row v1 48 (tVec 4 .u64).sz p1.sets.length xs1, .row v2 84 (tVec 2 .i64).sz p1.pairs.length xs2]) (L := Lt) hs [1, 2, 3, 4, 5, 6] (by decide) rfl)
    refine ⟨fun _ => hS, ?_⟩
    refine A1 rfl ?_
    obtain ⟨y13, hy13, hM⟩ := bindS hM
    refine OW_appendK Try.underlying66 ti48 rfl (by decide) (by decide) hs (i := 5) rfl hrelxs1 (v := v1) rfl (u := v113) rfl (hs.rowSrc (i := 0) rfl) hrelxs72 hy13 rfl ?_
    intro v114 wv70 xs73 hrelxs73 hsO hs
    refine OW_nil ?_
    have hsO : Go.Lx.Sep g0 w0 gi _ (Go.Lx.box b4 82 ([Value.bool false, Value.slice none 0 0, Value.slice none 0 0]) :: Go.Lx.box b3 82 ([Value.bool false, Value.slice none 0 0, Value.slice none 0 0]) :: Go.Lx.box b2 50 (([Value.int .i64 p2.Kind]) ++ ((p2.Set.1.map (Value.int .u64)) ++ ([v3]))) :: Go.Lx.box b1 80 ([v1, v2]) :: .row v1 48 (tVec 4 .u64).sz p1.sets.length xs1 :: .row v2 84 (tVec 2 .i64).sz p1.pairs.length xs2 :: Lt) := (Sep.selT (A := [.row v113 48 (tVec 4 .u64).sz [p2.Set].length xs72, Go.Lx.box b4 82 ([Value.bool false, Value.slice none 0 0, Value.slice none 0 0]), Go.Lx.box b3 82 ([Value.bool false, Value.slice none 0 0, Value.slice none 0 0]), Go.Lx.box b2 50 (([Value.int .i64 p2.Kind]) ++ ((p2.Set.1.map (Value.int .u64)) ++ ([v3]))), Go.Lx.box b1 80 ([v1, v2]), .row v1 48 (tVec 4 .u64).sz p1.sets.length xs1, .row v2 84 (tVec 2 .i64).sz p1.pairs.length xs2]) (A' := [Go.Lx.box b4 82 ([Value.bool false, Value.slice none 0 0, Value.slice none 0 0]), Go.Lx.box b3 82 ([Value.bool false, Value.slice none 0 0, Value.slice none 0 0]), Go.Lx.box b2 50 (([Value.int .i64 p2.Kind]) ++ ((p2.Set.1.map (Value.int .u64)) ++ ([v3]))), Go.Lx.box b1 80 ([v1, v2]), .row v1 48 (tVec 4 .u64).sz p1.sets.length xs1, .row v2 84 (tVec 2 .i64).sz p1.pairs.length xs2]) (L := Lt) hsO [1, 2, 3, 4, 5, 6] (by decide) rfl)
    replace hS := hS.to (Hle.refl _) hsO
    refine ⟨fun _ => hS, ?_⟩
    refine A rfl hS (fun w9 ⟨g9, hle9, hs⟩ => r_nilCheck rfl) rfl <| A rfl hS (fun w9 ⟨g9, hle9, hs⟩ => r_fieldAddr Try.underlying80 ti66 rfl rfl (by decide) rfl rfl) rfl <| A1 rfl <| OW_store1 ti66 hs (i := 4) rfl rfl (v := v114) rfl (by obtain ⟨_, _, h9⟩ := hs.rowShape (i := 5) rfl; rw [h9]; rfl) (o := 0) (by simp) ?_
    intro wv71 hs
    refine OW_nil ?_
    refine ⟨fun h => absurd h (by decide +kernel), ?_⟩
    refine AN <| WP_seq <| WP_region <| O (r_move (v := Value.pointer (some ⟨b1, 0, none⟩)) rfl) rfl <| O (r_nilCheck rfl) rfl <| O (r_fieldAddr Try.underlying80 ti66 rfl rfl (by decide) rfl rfl) rfl <| O (r_load (v := v114) ti66 rfl (hs.cell (i := 4) (o := 0) rfl rfl)) rfl ?_
    obtain ⟨a8, ca8, hva8⟩ := hs.rowShape (i := 5) rfl
    refine O (r_lenSl (v := v114) Try.underlying66 rfl hva8) rfl <| OW_lit (τ := (tInt .i64)) [Value.int .i64 (y13.length : Int)] [(y13.length : Int)] Try.underlying23 ti3 (by decide) hs rfl rfl rfl ⟨rfl, trivial⟩ rfl ?_
    intro v115 wv72 xs74 hrelxs74 hs
    refine O (r_fieldAddr Try.underlying82 ti23 rfl rfl (by decide) rfl rfl) rfl <| OW_store1 ti23 hs (i := 2) rfl rfl (v := v115) rfl (by obtain ⟨_, _, h9⟩ := hs.rowShape (i := 0) rfl; rw [h9]; rfl) (o := 1) (by simp) ?_
    intro wv73 hs
    refine OW_nil <| WP_region <| O (r_fieldAddr Try.underlying82 ti23 rfl rfl (by decide) rfl rfl) rfl <| O (r_load (v := v115) ti23 rfl (hs.cell (i := 2) (o := 1) rfl rfl)) rfl <| O (r_fieldAddr Try.underlying82 ti23 rfl rfl (by decide) rfl rfl) rfl <| OW_store1 ti23 hs (i := 2) rfl rfl (v := v115) rfl (by obtain ⟨_, _, h9⟩ := hs.rowShape (i := 0) rfl; rw [h9]; rfl) (o := 2) (by simp) ?_
    intro wv74 hs
    refine OW_nil ?_
    simp only [Option.some.injEq, Prod.mk.injEq] at hM
    obtain ⟨rfl, rfl, rfl, rfl, rfl⟩ := hM
    obtain ⟨gg19, hlegg19, hRgg19, hs⟩ := hs.relRow (i := 0) rfl hrelxs74
    replace hrelxs2 := hrelxs2.mono hlegg19
    replace hrelxs73 := hrelxs73.mono hlegg19
    replace hagi := hagi.trans hlegg19
    exact ⟨gg19, v114, xs73, v2, xs2, v115, v115, rfl, rfl, hds, hagi, hrelxs73, hrelxs2, hRgg19, hRgg19, (Sep.selT (A := [.row v113 48 (tVec 4 .u64).sz [p2.Set].length xs72, Go.Lx.box b4 82 ([Value.bool false, v115, v115]), Go.Lx.box b3 82 ([Value.bool false, Value.slice none 0 0, Value.slice none 0 0]), Go.Lx.box b2 50 (([Value.int .i64 p2.Kind]) ++ ((p2.Set.1.map (Value.int .u64)) ++ ([v3]))), Go.Lx.box b1 80 ([v114, v2]), .row v114 48 (tVec 4 .u64).sz y13.length xs73, .row v2 84 (tVec 2 .i64).sz p1.pairs.length xs2]) (A' := [Go.Lx.box b4 82 ([Value.bool false, v115, v115]), Go.Lx.box b3 82 ([Value.bool false, Value.slice none 0 0, Value.slice none 0 0]), Go.Lx.box b1 80 ([v114, v2]), .row v114 48 (tVec 4 .u64).sz y13.length xs73, .row v2 84 (tVec 2 .i64).sz p1.pairs.length xs2]) (L := Lt) hs [1, 2, 4, 5, 6] (by decide) rfl)⟩
   ·refine WP_false rfl hc13 <| WP_seq <| WP_region <| O (r_eql rfl rfl) rfl <| O (r_assign (v := Value.bool (p2.Kind == 4)) rfl) rfl <| OW_nil ?_
    rcases condS hM with ⟨hc14, hM⟩ | ⟨hc14, hM⟩
    ·refine WP_true rfl hc14 <| WP_seq <| WP_region <| O (r_fieldAddr Try.underlying82 ti4 rfl rfl (by decide) rfl rfl) rfl <| OW_store1 ti4 hs (i := 0) rfl rfl (v := Value.bool true) rfl rfl (o := 0) (by simp) ?_
     intro wv75 hs
     refine OW_nil <| WP_seq <| WP_region <| O (r_assign (v := Value.int .i64 0) rfl) rfl <| OW_nil <| WP_block <| WP_loop (fun (st9 : (List (Vec 4)) × (List (Vec 2)) × Bool × (List Int) × (List Int) × Int) E w => match st9 with | (xv40, xv41, xv42, l11, l12, xv43) => ∃ (gg23 : Hp) (v131 : Value) (xs81 : List Value) (v132 : Value) (xs82 : List Value) (v133 : Value) (v134 : Value), E 0 = Value.pointer (some ⟨b1, 0, none⟩) ∧ E 3 = Value.pointer (some ⟨b2, 0, none⟩) ∧ E 4 = Value.pointer (some ⟨b3, 0, none⟩) ∧ E 5 = Value.pointer (some ⟨b4, 0, none⟩) ∧ E 6 = Value.int .i64 xv43 ∧ E.ds = [] ∧ Hle gi gg23 ∧ RowRel (tVec 4 .u64) gg23 xs81 xv40 ∧ RowRel (tVec 2 .i64) gg23 xs82 xv41 ∧ RdS (tInt .i64) gg23 v133 l11 ∧ RdS (tInt .i64) gg23 v134 l12 ∧ Go.Lx.Sep g0 w0 gg23 w (Go.Lx.box b4 82 ([Value.bool xv42, v133, v134]) :: Go.Lx.box b3 82 ([Value.bool false, Value.slice none 0 0, Value.slice none 0 0]) :: Go.Lx.box b2 50 (([Value.int .i64 p2.Kind]) ++ ((p2.Set.1.map (Value.int .u64)) ++ ([v3]))) :: Go.Lx.box b1 80 ([v131, v132]) :: .row v131 48 (tVec 4 .u64).sz xv40.length xs81 :: .row v132 84 (tVec 2 .i64).sz xv41.length xs82 :: Lt)) hM ⟨gi, v1, xs1, v2, xs2, Value.slice none 0 0, Value.slice none 0 0, rfl, rfl, rfl, rfl, rfl, hds, (Hle.refl _), hrelxs1, hrelxs2, RdS.nil, RdS.nil, hs⟩ ?_
     clear hs hM
     rintro ⟨xv40, xv41, xv42, l11, l12, xv43⟩ o3 E w hM ⟨gg23, v131, xs81, v132, xs82, v133, v134, hE0, hE3, hE4, hE5, hE6, hds, hlegg23, hrelxs81, hrelxs82, hRv133, hRv134, hs⟩
     obtain ⟨E, rfl⟩ := open5 (E := E) hE0 hE3 hE4 hE5 hE6
     replace hRv3 := hRv3.mono hlegg23
     have hagg23 := Hle.refl gg23
     refine WP_seq <| WP_seq <| WP_region <| O (r_move (v := Value.int .i64 xv43) rfl) rfl <| O (r_fieldAddr Try.underlying50 ti37 rfl rfl (by decide) rfl rfl) rfl <| O (r_load (v := v3) ti37 rfl (hs.cell (i := 2) (o := 5) rfl (by simp [p2.Set.2]))) rfl ?_
     obtain ⟨a11, ca11, hva11⟩ := hRv3.shape
     refine O (r_lenSl (v := v3) Try.underlying37 rfl hva11) rfl <| O (r_lss rfl rfl) rfl <| OW_nil ?_
     rcases condS hM with ⟨hc17, hM⟩ | ⟨hc17, hM⟩
     ·refine WP_true rfl hc17 <| WP_skip <| WP_seq <| WP_block <| WP_any (.q 0 (.q 1 (.q 2 (.q 3 (.q 4 (.q 5 (.q 6 (.q 7 (.s 8 (.s 9 (.s 10 (.leaf)))))))))))) (SS g0 w0 gg23 (Go.Lx.box b4 82 ([Value.bool xv42, v133, v134]) :: Go.Lx.box b3 82 ([Value.bool false, Value.slice none 0 0, Value.slice none 0 0]) :: Go.Lx.box b2 50 (([Value.int .i64 p2.Kind]) ++ ((p2.Set.1.map (Value.int .u64)) ++ ([v3]))) :: Lt)) mo (by decide +kernel) ?_
      have hs := hs.drew
      have hRv3b := hRv3
      have hS : SS g0 w0 gg23 (Go.Lx.box b4 82 ([Value.bool xv42, v133, v134]) :: Go.Lx.box b3 82 ([Value.bool false, Value.slice none 0 0, Value.slice none 0 0]) :: Go.Lx.box b2 50 (([Value.int .i64 p2.Kind]) ++ ((p2.Set.1.map (Value.int .u64)) ++ ([v3]))) :: Lt) _ := ⟨gg23, Hle.refl _, (Sep.selT (A := [Go.Lx.box b4 82 ([Value.bool xv42, v133, v134]), Go.Lx.box b3 82 ([Value.bool false, Value.slice none 0 0, Value.slice none 0 0]), Go.Lx.box b2 50 (([Value.int .i64 p2.Kind]) ++ ((p2.Set.1.map (Value.int .u64)) ++ ([v3]))), Go.Lx.box b1 80 ([v131, v132]), .row v131 48 (tVec 4 .u64).sz xv40.length xs81, .row v132 84 (tVec 2 .i64).sz xv41.length xs82]) (A' := [Go.Lx.box b4 82 ([Value.bool xv42, v133, v134]), Go.Lx.box b3 82 ([Value.bool false, Value.slice none 0 0, Value.slice none 0 0]), Go.Lx.box b2 50 (([Value.int .i64 p2.Kind]) ++ ((p2.Set.1.map (Value.int .u64)) ++ ([v3])))]) (L := Lt) hs [0, 1, 2] (by decide) rfl)⟩
      refine A rfl hS (fun w9 ⟨g9, hle9, hs⟩ => r_move (v := Value.pointer (some ⟨b1, 0, none⟩)) rfl) rfl <| A rfl hS (fun w9 ⟨g9, hle9, hs⟩ => r_loadN (cs := [Value.bool xv42, v133, v134]) ti82 rfl rfl (hs.cells (i := 0) rfl)) rfl <| A rfl hS (fun w9 ⟨g9, hle9, hs⟩ => r_move (v := Value.pointer (some ⟨b1, 0, none⟩)) rfl) rfl <| A rfl hS (fun w9 ⟨g9, hle9, hs⟩ => r_fieldAddr Try.underlying50 ti37 rfl rfl (by decide) rfl rfl) rfl <| A rfl hS (fun w9 ⟨g9, hle9, hs⟩ => r_load (v := v3) ti37 rfl (hs.cell (i := 2) (o := 5) rfl (by simp [p2.Set.2]))) rfl <| A rfl hS (fun w9 ⟨g9, hle9, hs⟩ => r_move (v := Value.int .i64 xv43) rfl) rfl ?_
      obtain ⟨e10, he10, hM⟩ := bindS hM
      obtain ⟨b17, ob17, cb17, hvb17, cs97, hcs97, hcb17⟩ := hRv3b.at he10
      obtain ⟨cs98, cs99, cs100, rfl, hcs98, hcs99, hcs100⟩ := tT_Regex_iff.1 hcs97
      have hcs98 : cs98 = _ := hcs98; subst hcs98
      have hcs99 : cs99 = _ := hcs99; subst hcs99
      obtain ⟨v150, rfl, hRv150⟩ := hcs100
      replace hRv150 := hRv150.mono (Hle.refl _)
      refine A rfl hS (fun w9 ⟨g9, hle9, hs⟩ => r_idxSl Try.underlying37 ti50 (v := v3) rfl hvb17 rfl (idxL_some he10).1 (idxL_some he10).2.1) rfl <| A rfl hS (fun w9 ⟨g9, hle9, hs⟩ => r_loadEl (cs := ([Value.int .i64 e10.Kind]) ++ ((e10.Set.1.map (Value.int .u64)) ++ ([v150]))) ti50 rfl (by simp [e10.Set.2]) (.inl rfl) (hcb17 _ (hs.imm.of_le hle9)) (v := Value.agg (List.toArray (α := Value) (([Value.int .i64 e10.Kind]) ++ ((e10.Set.1.map (Value.int .u64)) ++ ([v150]))))) rfl) rfl <| A1 rfl ?_
      have hs : Go.Lx.Sep g0 w0 gg23 _ (Go.Lx.box b1 80 ([v131, v132]) :: .row v131 48 (tVec 4 .u64).sz xv40.length xs81 :: .row v132 84 (tVec 2 .i64).sz xv41.length xs82 :: Go.Lx.box b4 82 ([Value.bool xv42, v133, v134]) :: Go.Lx.box b3 82 ([Value.bool false, Value.slice none 0 0, Value.slice none 0 0]) :: Go.Lx.box b2 50 (([Value.int .i64 p2.Kind]) ++ ((p2.Set.1.map (Value.int .u64)) ++ ([v3]))) :: Lt) := (Sep.selT (A := [Go.Lx.box b4 82 ([Value.bool xv42, v133, v134]), Go.Lx.box b3 82 ([Value.bool false, Value.slice none 0 0, Value.slice none 0 0]), Go.Lx.box b2 50 (([Value.int .i64 p2.Kind]) ++ ((p2.Set.1.map (Value.int .u64)) ++ ([v3]))), Go.Lx.box b1 80 ([v131, v132]), .row v131 48 (tVec 4 .u64).sz xv40.length xs81, .row v132 84 (tVec 2 .i64).sz xv41.length xs82]) (A' := [Go.Lx.box b1 80 ([v131, v132]), .row v131 48 (tVec 4 .u64).sz xv40.length xs81, .row v132 84 (tVec 2 .i64).sz xv41.length xs82, Go.Lx.box b4 82 ([Value.bool xv42, v133, v134]), Go.Lx.box b3 82 ([Value.bool false, Value.slice none 0 0, Value.slice none 0 0]), Go.Lx.box b2 50 (([Value.int .i64 p2.Kind]) ++ ((p2.Set.1.map (Value.int .u64)) ++ ([v3])))]) (L := Lt) hs [3, 4, 5, 0, 1, 2] (by decide) rfl)
      obtain ⟨rv16, hrv16, hM⟩ := bindS hM
      refine C [Value.pointer (some ⟨b1, 0, none⟩), Value.agg (List.toArray (α := Value) (([Value.int .i64 e10.Kind]) ++ ((e10.Set.1.map (Value.int .u64)) ++ ([v150]))))] cf46 rfl (ih_ref09_builder_build hrv16 hs (tT_Regex_iff.2 ⟨[Value.int .i64 e10.Kind], e10.Set.1.map (Value.int .u64), [v150], rfl, rfl, rfl, ⟨_, rfl, hRv150⟩⟩) hrelxs81 hrelxs82) rfl ?_
      rintro v151 wv82 ⟨gg27, v152, xs89, v153, xs90, hvv151, hlegg27, hrelxs89, hrelxs90, hs⟩
      replace hRv133 := hRv133.mono hlegg27
      replace hRv134 := hRv134.mono hlegg27
      replace hlegg23 := hlegg23.trans hlegg27
      replace hagg23 := hagg23.trans hlegg27
      obtain ⟨cs101, rfl, hcs101⟩ := hvv151
      obtain ⟨cs102, cs103, cs104, rfl, hcs102, hcs103, hcs104⟩ := hcs101
      have hcs102 : cs102 = _ := hcs102; subst hcs102
      obtain ⟨v154, rfl, hRv154⟩ := hcs103
      obtain ⟨v155, rfl, hRv155⟩ := hcs104
      refine OW_nil ?_
      replace hS := hS.to hagg23 (Sep.selT (A := [Go.Lx.box b1 80 ([v152, v153]), .row v152 48 (tVec 4 .u64).sz rv16.2.sets.length xs89, .row v153 84 (tVec 2 .i64).sz rv16.2.pairs.length xs90, Go.Lx.box b4 82 ([Value.bool xv42, v133, v134]), Go.Lx.box b3 82 ([Value.bool false, Value.slice none 0 0, Value.slice none 0 0]), Go.Lx.box b2 50 (([Value.int .i64 p2.Kind]) ++ ((p2.Set.1.map (Value.int .u64)) ++ ([v3])))]) (A' := [Go.Lx.box b4 82 ([Value.bool xv42, v133, v134]), Go.Lx.box b3 82 ([Value.bool false, Value.slice none 0 0, Value.slice none 0 0]), Go.Lx.box b2 50 (([Value.int .i64 p2.Kind]) ++ ((p2.Set.1.map (Value.int .u64)) ++ ([v3])))]) (L := Lt) hs [3, 4, 5] (by decide) rfl)
      refine ⟨fun _ => hS, ?_⟩
      refine A1 rfl ?_
      obtain ⟨rv17, hrv17, hM⟩ := bindS hM
      refine C [Value.pointer (some ⟨b1, 0, none⟩), Value.agg (List.toArray (α := Value) [Value.bool xv42, v133, v134]), Value.agg (List.toArray (α := Value) [Value.bool rv16.1.nullable, v154, v155])] cf61 rfl (ref09_builder_concat_ok hrv17 hs (⟨[Value.bool xv42], [v133], [v134], rfl, rfl, ⟨_, rfl, hRv133⟩, ⟨_, rfl, hRv134⟩⟩) (⟨[Value.bool rv16.1.nullable], [v154], [v155], rfl, rfl, ⟨_, rfl, hRv154⟩, ⟨_, rfl, hRv155⟩⟩) hrelxs89 hrelxs90) rfl ?_
      rintro v156 wv83 ⟨gg28, v157, xs91, v158, xs92, hvv156, hlegg28, hrelxs91, hrelxs92, hs⟩
      replace hlegg23 := hlegg23.trans hlegg28
      obtain ⟨cs105, rfl, hcs105⟩ := hvv156
      obtain ⟨cs106, cs107, cs108, rfl, hcs106, hcs107, hcs108⟩ := hcs105
      have hcs106 : cs106 = _ := hcs106; subst hcs106
      obtain ⟨v159, rfl, hRv159⟩ := hcs107
      obtain ⟨v160, rfl, hRv160⟩ := hcs108
      refine OW_nil ?_
      refine ⟨fun h => absurd h (by decide +kernel), ?_⟩
      refine A1 rfl <| OW_storeAll ti82 hs (i := 3) rfl rfl (v := Value.agg (List.toArray (α := Value) [Value.bool rv17.1.nullable, v159, v160])) rfl (vs := [Value.bool rv17.1.nullable, v159, v160]) rfl (one_cons rfl (one_cons (by obtain ⟨_, _, h9⟩ := hRv159.shape; rw [h9]; rfl) (one_cons (by obtain ⟨_, _, h9⟩ := hRv160.shape; rw [h9]; rfl) one_nil))) rfl rfl ?_
      intro wv84 hs
      refine OW_nil ?_
      refine ⟨fun h => absurd h (by decide +kernel), ?_⟩
      refine AN <| WP_region <| O (r_move (v := Value.int .i64 xv43) rfl) rfl ?_
      obtain ⟨t9, ht9, hM⟩ := bindS hM
      refine O (r_addM rfl rfl ht9) rfl <| O (r_assign (v := Value.int .i64 t9) rfl) rfl <| OW_nil ?_
      obtain rfl := Option.some.inj hM
      exact ⟨gg28, v157, xs91, v158, xs92, v159, v160, rfl, rfl, rfl, rfl, rfl, hds, hlegg23, hrelxs91, hrelxs92, hRv159, hRv160, (Sep.selT (A := [Go.Lx.box b1 80 ([v157, v158]), .row v157 48 (tVec 4 .u64).sz rv17.2.sets.length xs91, .row v158 84 (tVec 2 .i64).sz rv17.2.pairs.length xs92, Go.Lx.box b4 82 ([Value.bool rv17.1.nullable, v159, v160]), Go.Lx.box b3 82 ([Value.bool false, Value.slice none 0 0, Value.slice none 0 0]), Go.Lx.box b2 50 (([Value.int .i64 p2.Kind]) ++ ((p2.Set.1.map (Value.int .u64)) ++ ([v3])))]) (A' := [Go.Lx.box b4 82 ([Value.bool rv17.1.nullable, v159, v160]), Go.Lx.box b3 82 ([Value.bool false, Value.slice none 0 0, Value.slice none 0 0]), Go.Lx.box b2 50 (([Value.int .i64 p2.Kind]) ++ ((p2.Set.1.map (Value.int .u64)) ++ ([v3]))), Go.Lx.box b1 80 ([v157, v158]), .row v157 48 (tVec 4 .u64).sz rv17.2.sets.length xs91, .row v158 84 (tVec 2 .i64).sz rv17.2.pairs.length xs92]) (L := Lt) hs [3, 4, 5, 0, 1, 2] (by decide) rfl)⟩
     ·refine WP_false rfl hc17 <| WP_exit ?_
      obtain rfl := Option.some.inj hM
      refine fun hr => ?_
      have hM := congrArg some hr
      simp only [Option.some.injEq, Prod.mk.injEq] at hM
      obtain ⟨rfl, rfl, rfl, rfl, rfl⟩ := hM
      exact ⟨gg23, v131, xs81, v132, xs82, v133, v134, rfl, rfl, hds, hlegg23, hrelxs81, hrelxs82, hRv133, hRv134, (Sep.selT (A := [Go.Lx.box b4 82 ([Value.bool xv42, v133, v134]), Go.Lx.box b3 82 ([Value.bool false, Value.slice none 0 0, Value.slice none 0 0]), Go.Lx.box b2 50 (([Value.int .i64 p2.Kind]) ++ ((p2.Set.1.map (Value.int .u64)) ++ ([v3]))), Go.Lx.box b1 80 ([v131, v132]), .row v131 48 (tVec 4 .u64).sz xv40.length xs81, .row v132 84 (tVec 2 .i64).sz xv41.length xs82]) (A' := [Go.Lx.box b4 82 ([Value.bool xv42, v133, v134]), Go.Lx.box b3 82 ([Value.bool false, Value.slice none 0 0, Value.slice none 0 0]), Go.Lx.box b1 80 ([v131, v132]), .row v131 48 (tVec 4 .u64).sz xv40.length xs81, .row v132 84 (tVec 2 .i64).sz xv41.length xs82]) (L := Lt) hs [0, 1, 3, 4, 5] (by decide) rfl)⟩
    ·refine WP_false rfl hc14 <| WP_seq <| WP_region <| O (r_eql rfl rfl) rfl <| O (r_assign (v := Value.bool (p2.Kind == 5)) rfl) rfl <| OW_nil ?_
     rcases condS hM with ⟨hc18, hM⟩ | ⟨hc18, hM⟩
     ·refine WP_true rfl hc18 <| WP_seq <| WP_region <| O (r_assign (v := Value.int .i64 0) rfl) rfl <| OW_nil <| WP_block ?_
      have hs := hs.nilRow 3 (tInt .i64).sz
      have hs := hs.nilRow 3 (tInt .i64).sz
      refine WP_loop (fun (st9 : (List (Vec 4)) × (List (Vec 2)) × Bool × (List Int) × (List Int) × Int) E w => match st9 with | (xv54, xv55, xv56, xv57, xv58, xv59) => ∃ (gg31 : Hp) (v179 : Value) (xs109 : List Value) (v180 : Value) (xs110 : List Value) (v177 : Value) (xs107 : List Value) (v178 : Value) (xs108 : List Value), E 0 = Value.pointer (some ⟨b1, 0, none⟩) ∧ E 3 = Value.pointer (some ⟨b2, 0, none⟩) ∧ E 4 = Value.pointer (some ⟨b3, 0, none⟩) ∧ E 5 = Value.pointer (some ⟨b4, 0, none⟩) ∧ E 7 = Value.int .i64 xv59 ∧ E.ds = [] ∧ Hle gi gg31 ∧ RowRel (tInt .i64) gg31 xs109 xv57 ∧ RowRel (tInt .i64) gg31 xs110 xv58 ∧ RowRel (tVec 4 .u64) gg31 xs107 xv54 ∧ RowRel (tVec 2 .i64) gg31 xs108 xv55 ∧ Go.Lx.Sep g0 w0 gg31 w (.row v179 3 (tInt .i64).sz xv57.length xs109 :: .row v180 3 (tInt .i64).sz xv58.length xs110 :: Go.Lx.box b4 82 ([Value.bool xv56, v179, v180]) :: Go.Lx.box b3 82 ([Value.bool false, Value.slice none 0 0, Value.slice none 0 0]) :: Go.Lx.box b2 50 (([Value.int .i64 p2.Kind]) ++ ((p2.Set.1.map (Value.int .u64)) ++ ([v3]))) :: Go.Lx.box b1 80 ([v177, v178]) :: .row v177 48 (tVec 4 .u64).sz xv54.length xs107 :: .row v178 84 (tVec 2 .i64).sz xv55.length xs108 :: Lt)) hM ⟨gi, (Value.slice none 0 0), [], (Value.slice none 0 0), [], v1, xs1, v2, xs2, rfl, rfl, rfl, rfl, rfl, hds, (Hle.refl _), RowRel.nil, RowRel.nil, hrelxs1, hrelxs2, (Sep.selT (A := [.row (Value.slice none 0 0) 3 (tInt .i64).sz [].length [], .row (Value.slice none 0 0) 3 (tInt .i64).sz [].length [], Go.Lx.box b4 82 ([Value.bool false, Value.slice none 0 0, Value.slice none 0 0]), Go.Lx.box b3 82 ([Value.bool false, Value.slice none 0 0, Value.slice none 0 0]), Go.Lx.box b2 50 (([Value.int .i64 p2.Kind]) ++ ((p2.Set.1.map (Value.int .u64)) ++ ([v3]))), Go.Lx.box b1 80 ([v1, v2]), .row v1 48 (tVec 4 .u64).sz p1.sets.length xs1, .row v2 84 (tVec 2 .i64).sz p1.pairs.length xs2]) (A' := [.row (Value.slice none 0 0) 3 (tInt .i64).sz [].length [], .row (Value.slice none 0 0) 3 (tInt .i64).sz [].length [], Go.Lx.box b4 82 ([Value.bool false, Value.slice none 0 0, Value.slice none 0 0]), Go.Lx.box b3 82 ([Value.bool false, Value.slice none 0 0, Value.slice none 0 0]), Go.Lx.box b2 50 (([Value.int .i64 p2.Kind]) ++ ((p2.Set.1.map (Value.int .u64)) ++ ([v3]))), Go.Lx.box b1 80 ([v1, v2]), .row v1 48 (tVec 4 .u64).sz p1.sets.length xs1, .row v2 84 (tVec 2 .i64).sz p1.pairs.length xs2]) (L := Lt) hs [1, 0, 2, 3, 4, 5, 6, 7] (by decide) rfl)⟩ ?_
      clear hs hM
      rintro ⟨xv54, xv55, xv56, xv57, xv58, xv59⟩ o4 E w hM ⟨gg31, v179, xs109, v180, xs110, v177, xs107, v178, xs108, hE0, hE3, hE4, hE5, hE7, hds, hlegg31, hrelxs109, hrelxs110, hrelxs107, hrelxs108, hs⟩
      obtain ⟨E, rfl⟩ := open5 (E := E) hE0 hE3 hE4 hE5 hE7
      replace hRv3 := hRv3.mono hlegg31
      have hagg31 := Hle.refl gg31
      refine WP_seq <| WP_seq <| WP_region <| O (r_move (v := Value.int .i64 xv59) rfl) rfl <| O (r_fieldAddr Try.underlying50 ti37 rfl rfl (by decide) rfl rfl) rfl <| O (r_load (v := v3) ti37 rfl (hs.cell (i := 4) (o := 5) rfl (by simp [p2.Set.2]))) rfl ?_
      obtain ⟨a14, ca14, hva14⟩ := hRv3.shape
      refine O (r_lenSl (v := v3) Try.underlying37 rfl hva14) rfl <| O (r_lss rfl rfl) rfl <| OW_nil ?_
      rcases condS hM with ⟨hc21, hM⟩ | ⟨hc21, hM⟩
      ·refine WP_true rfl hc21 <| WP_skip <| WP_seq <| WP_block <| WP_seq <| WP_region <| O (r_move (v := Value.pointer (some ⟨b1, 0, none⟩)) rfl) rfl <| O (r_fieldAddr Try.underlying50 ti37 rfl rfl (by decide) rfl rfl) rfl <| O (r_load (v := v3) ti37 rfl (hs.cell (i := 4) (o := 5) rfl (by simp [p2.Set.2]))) rfl <| O (r_move (v := Value.int .i64 xv59) rfl) rfl ?_
       obtain ⟨e13, he13, hM⟩ := bindS hM
       obtain ⟨b22, ob22, cb22, hvb22, cs125, hcs125, hcb22⟩ := hRv3.at he13
       obtain ⟨cs126, cs127, cs128, rfl, hcs126, hcs127, hcs128⟩ := tT_Regex_iff.1 hcs125
       have hcs126 : cs126 = _ := hcs126; subst hcs126
       have hcs127 : cs127 = _ := hcs127; subst hcs127
       obtain ⟨v197, rfl, hRv197⟩ := hcs128
       refine O (r_idxSl Try.underlying37 ti50 (v := v3) rfl hvb22 rfl (idxL_some he13).1 (idxL_some he13).2.1) rfl <| O (r_loadEl (cs := ([Value.int .i64 e13.Kind]) ++ ((e13.Set.1.map (Value.int .u64)) ++ ([v197]))) ti50 rfl (by simp [e13.Set.2]) (.inl rfl) (hcb22 _ hs.imm) (v := Value.agg (List.toArray (α := Value) (([Value.int .i64 e13.Kind]) ++ ((e13.Set.1.map (Value.int .u64)) ++ ([v197]))))) rfl) rfl ?_
       have hs : Go.Lx.Sep g0 w0 gg31 _ (Go.Lx.box b1 80 ([v177, v178]) :: .row v177 48 (tVec 4 .u64).sz xv54.length xs107 :: .row v178 84 (tVec 2 .i64).sz xv55.length xs108 :: .row v179 3 (tInt .i64).sz xv57.length xs109 :: .row v180 3 (tInt .i64).sz xv58.length xs110 :: Go.Lx.box b4 82 ([Value.bool xv56, v179, v180]) :: Go.Lx.box b3 82 ([Value.bool false, Value.slice none 0 0, Value.slice none 0 0]) :: Go.Lx.box b2 50 (([Value.int .i64 p2.Kind]) ++ ((p2.Set.1.map (Value.int .u64)) ++ ([v3]))) :: Lt) := (Sep.selT (A := [.row v179 3 (tInt .i64).sz xv57.length xs109, .row v180 3 (tInt .i64).sz xv58.length xs110, Go.Lx.box b4 82 ([Value.bool xv56, v179, v180]), Go.Lx.box b3 82 ([Value.bool false, Value.slice none 0 0, Value.slice none 0 0]), Go.Lx.box b2 50 (([Value.int .i64 p2.Kind]) ++ ((p2.Set.1.map (Value.int .u64)) ++ ([v3]))), Go.Lx.box b1 80 ([v177, v178]), .row v177 48 (tVec 4 .u64).sz xv54.length xs107, .row v178 84 (tVec 2 .i64).sz xv55.length xs108]) (A' := [Go.Lx.box b1 80 ([v177, v178]), .row v177 48 (tVec 4 .u64).sz xv54.length xs107, .row v178 84 (tVec 2 .i64).sz xv55.length xs108, .row v179 3 (tInt .i64).sz xv57.length xs109, .row v180 3 (tInt .i64).sz xv58.length xs110, Go.Lx.box b4 82 ([Value.bool xv56, v179, v180]), Go.Lx.box b3 82 ([Value.bool false, Value.slice none 0 0, Value.slice none 0 0]), Go.Lx.box b2 50 (([Value.int .i64 p2.Kind]) ++ ((p2.Set.1.map (Value.int .u64)) ++ ([v3])))]) (L := Lt) hs [5, 6, 7, 0, 1, 2, 3, 4] (by decide) rfl)
       obtain ⟨rv20, hrv20, hM⟩ := bindS hM
       refine C [Value.pointer (some ⟨b1, 0, none⟩), Value.agg (List.toArray (α := Value) (([Value.int .i64 e13.Kind]) ++ ((e13.Set.1.map (Value.int .u64)) ++ ([v197]))))] cf46 rfl (ih_ref09_builder_build hrv20 hs (tT_Regex_iff.2 ⟨[Value.int .i64 e13.Kind], e13.Set.1.map (Value.int .u64), [v197], rfl, rfl, rfl, ⟨_, rfl, hRv197⟩⟩) hrelxs107 hrelxs108) rfl ?_
       rintro v198 wv113 ⟨gg34, v199, xs125, v200, xs126, hvv198, hlegg34, hrelxs125, hrelxs126, hs⟩
       replace hrelxs109 := hrelxs109.mono hlegg34
       replace hrelxs110 := hrelxs110.mono hlegg34
       replace hlegg31 := hlegg31.trans hlegg34
       obtain ⟨cs129, rfl, hcs129⟩ := hvv198
       obtain ⟨cs130, cs131, cs132, rfl, hcs130, hcs131, hcs132⟩ := hcs129
       have hcs130 : cs130 = _ := hcs130; subst hcs130
       obtain ⟨v201, rfl, hRv201⟩ := hcs131
       obtain ⟨v202, rfl, hRv202⟩ := hcs132
       refine OW_alloc ti82 hs (zs := [Value.bool false, Value.slice none 0 0, Value.slice none 0 0]) rfl rfl ?_
       intro b23 wv114 hs
       refine OW_storeAll ti82 hs (i := 0) rfl rfl (v := Value.agg (List.toArray (α := Value) [Value.bool rv20.1.nullable, v201, v202])) rfl (vs := [Value.bool rv20.1.nullable, v201, v202]) rfl (one_cons rfl (one_cons (by obtain ⟨_, _, h9⟩ := hRv201.shape; rw [h9]; rfl) (one_cons (by obtain ⟨_, _, h9⟩ := hRv202.shape; rw [h9]; rfl) one_nil))) rfl rfl ?_
       intro wv115 hs
       refine OW_nil ?_
       obtain ⟨xv67, hx7, hKhx7⟩ := bindS hM
       refine WP_cut (fun E w => E 0 = Value.pointer (some ⟨b1, 0, none⟩) ∧ E 3 = Value.pointer (some ⟨b2, 0, none⟩) ∧ E 4 = Value.pointer (some ⟨b3, 0, none⟩) ∧ E 5 = Value.pointer (some ⟨b4, 0, none⟩) ∧ E 7 = Value.int .i64 xv59 ∧ E 8 = Value.pointer (some ⟨b23, 0, none⟩) ∧ E.ds = [] ∧ Go.Lx.Sep g0 w0 gg34 w (Go.Lx.box b23 82 ([Value.bool rv20.1.nullable, v201, v202]) :: Go.Lx.box b1 80 ([v199, v200]) :: .row v199 48 (tVec 4 .u64).sz rv20.2.sets.length xs125 :: .row v200 84 (tVec 2 .i64).sz rv20.2.pairs.length xs126 :: .row v179 3 (tInt .i64).sz xv57.length xs109 :: .row v180 3 (tInt .i64).sz xv58.length xs110 :: Go.Lx.box b4 82 ([Value.bool xv67, v179, v180]) :: Go.Lx.box b3 82 ([Value.bool false, Value.slice none 0 0, Value.slice none 0 0]) :: Go.Lx.box b2 50 (([Value.int .i64 p2.Kind]) ++ ((p2.Set.1.map (Value.int .u64)) ++ ([v3]))) :: Lt)) ?_ ?_
       ·have hM := hx7
        have hagg34 := Hle.refl gg34
        refine WP_region <| O (r_fieldAddr Try.underlying82 ti4 rfl rfl (by decide) rfl rfl) rfl <| O (r_load (v := Value.bool xv56) ti4 rfl (hs.cell (i := 6) (o := 0) rfl rfl)) rfl <| O (r_move (v := Value.bool xv56) rfl) rfl ?_
        rcases condS hM with ⟨hg8, hM⟩ | ⟨hg8, hM⟩
        ·refine OK rfl rfl rfl (by rw [hg8]; rfl) rfl <| OK rfl rfl rfl (by rw [hg8]; rfl) rfl <| O (r_pickT (v := Value.bool true) rfl hg8 rfl) rfl <| O (r_fieldAddr Try.underlying82 ti4 rfl rfl (by decide) rfl rfl) rfl <| OW_store1 ti4 hs (i := 6) rfl rfl (v := Value.bool true) rfl rfl (o := 0) (by simp) ?_
         intro wv118 hs
         refine OW_nil ?_
         obtain rfl := Option.some.inj hM
         exact ⟨rfl, rfl, rfl, rfl, rfl, rfl, hds, hs⟩
        ·refine OG rfl rfl rfl (by rw [hg8]; rfl) (r_fieldAddr Try.underlying82 ti4 rfl rfl (by decide) rfl rfl) rfl <| OG rfl rfl rfl (by rw [hg8]; rfl) (r_load (v := Value.bool rv20.1.nullable) ti4 rfl (hs.cell (i := 0) (o := 0) rfl rfl)) rfl <| O (r_pickF (v := Value.bool rv20.1.nullable) rfl hg8 rfl) rfl <| O (r_fieldAddr Try.underlying82 ti4 rfl rfl (by decide) rfl rfl) rfl <| OW_store1 ti4 hs (i := 6) rfl rfl (v := Value.bool rv20.1.nullable) rfl rfl (o := 0) (by simp) ?_
         intro wv119 hs
         refine OW_nil ?_
         obtain rfl := Option.some.inj hM
         exact ⟨rfl, rfl, rfl, rfl, rfl, rfl, hds, hs⟩
       ·clear hs
        rintro E w ⟨hE0, hE3, hE4, hE5, hE7, hE8, hds, hs⟩
        have hM := hKhx7
        obtain ⟨E, rfl⟩ := open6 (E := E) hE0 hE3 hE4 hE5 hE7 hE8
        refine WP_seq <| WP_any (.q 1 (.q 2 (.q 4 (.q 5 (.s 0 (.s 3 (.s 6 (.q 7 (.s 8 (.leaf)))))))))) (SS g0 w0 gg34 (Go.Lx.box b23 82 ([Value.bool rv20.1.nullable, v201, v202]) :: Go.Lx.box b1 80 ([v199, v200]) :: .row v199 48 (tVec 4 .u64).sz rv20.2.sets.length xs125 :: .row v200 84 (tVec 2 .i64).sz rv20.2.pairs.length xs126 :: .row v179 3 (tInt .i64).sz xv57.length xs109 :: .row v180 3 (tInt .i64).sz xv58.length xs110 :: Go.Lx.box b4 82 ([Value.bool xv67, v179, v180]) :: Go.Lx.box b3 82 ([Value.bool false, Value.slice none 0 0, Value.slice none 0 0]) :: Go.Lx.box b2 50 (([Value.int .i64 p2.Kind]) ++ ((p2.Set.1.map (Value.int .u64)) ++ ([v3]))) :: Lt)) mo (by decide +kernel) ?_
        have hs := hs.drew
        have hagg34 := Hle.refl gg34
        have hS : SS g0 w0 gg34 (Go.Lx.box b23 82 ([Value.bool rv20.1.nullable, v201, v202]) :: Go.Lx.box b1 80 ([v199, v200]) :: .row v199 48 (tVec 4 .u64).sz rv20.2.sets.length xs125 :: .row v200 84 (tVec 2 .i64).sz rv20.2.pairs.length xs126 :: .row v179 3 (tInt .i64).sz xv57.length xs109 :: .row v180 3 (tInt .i64).sz xv58.length xs110 :: Go.Lx.box b4 82 ([Value.bool xv67, v179, v180]) :: Go.Lx.box b3 82 ([Value.bool false, Value.slice none 0 0, Value.slice none 0 0]) :: Go.Lx.box b2 50 (([Value.int .i64 p2.Kind]) ++ ((p2.Set.1.map (Value.int .u64)) ++ ([v3]))) :: Lt) _ := ⟨gg34, Hle.refl _, hs⟩
        refine A rfl hS (fun w9 ⟨g9, hle9, hs⟩ => r_fieldAddr Try.underlying82 ti23 rfl rfl (by decide) rfl rfl) rfl <| A rfl hS (fun w9 ⟨g9, hle9, hs⟩ => r_load (v := v179) ti23 rfl (hs.cell (i := 6) (o := 1) rfl rfl)) rfl <| A rfl hS (fun w9 ⟨g9, hle9, hs⟩ => r_fieldAddr Try.underlying82 ti23 rfl rfl (by decide) rfl rfl) rfl <| A rfl hS (fun w9 ⟨g9, hle9, hs⟩ => r_load (v := v201) ti23 rfl (hs.cell (i := 0) (o := 1) rfl rfl)) rfl <| A1 rfl <| OW_lit (τ := (tInt .i64)) [] [] Try.underlying23 ti3 (by decide) hs rfl rfl rfl trivial rfl ?_
        intro v203 wv120 xs127 hrelxs127 hs
        refine OW_nil ?_
        replace hS := hS.to (Hle.refl _) (Sep.selT (A := [.row v203 3 (tInt .i64).sz [].length xs127, Go.Lx.box b23 82 ([Value.bool rv20.1.nullable, v201, v202]), Go.Lx.box b1 80 ([v199, v200]), .row v199 48 (tVec 4 .u64).sz rv20.2.sets.length xs125, .row v200 84 (tVec 2 .i64).sz rv20.2.pairs.length xs126, .row v179 3 (tInt .i64).sz xv57.length xs109, .row v180 3 (tInt .i64).sz xv58.length xs110, Go.Lx.box b4 82 ([Value.bool xv67, v179, v180]), Go.Lx.box b3 82 ([Value.bool false, Value.slice none 0 0, Value.slice none 0 0]), Go.Lx.box b2 50 (([Value.int .i64 p2.Kind]) ++ ((p2.Set.1.map (Value.int .u64)) ++ ([v3])))]) (A' := [Go.Lx.box b23 82 ([Value.bool rv20.1.nullable, v201, v202]), Go.Lx.box b1 80 ([v199, v200]), .row v199 48 (tVec 4 .u64).sz rv20.2.sets.length xs125, .row v200 84 (tVec 2 .i64).sz rv20.2.pairs.length xs126, .row v179 3 (tInt .i64).sz xv57.length xs109, .row v180 3 (tInt .i64).sz xv58.length xs110, Go.Lx.box b4 82 ([Value.bool xv67, v179, v180]), Go.Lx.box b3 82 ([Value.bool false, Value.slice none 0 0, Value.slice none 0 0]), Go.Lx.box b2 50 (([Value.int .i64 p2.Kind]) ++ ((p2.Set.1.map (Value.int .u64)) ++ ([v3])))]) (L := Lt) hs [1, 2, 3, 4, 5, 6, 7, 8, 9] (by decide) rfl)
        refine ⟨fun _ => hS, ?_⟩
        refine A1 rfl ?_
        obtain ⟨y21, hy21, hM⟩ := bindS hM
        refine OW_append Try.underlying23 ti3 rfl (by decide) (by decide) hs (i := 0) rfl hrelxs127 (v := v203) rfl (u := v179) rfl (hs.rowSrc (i := 5) rfl) hrelxs109 hy21 rfl ?_
        intro v204 wv121 xs128 hrelxs128 hs
        refine OW_nil ?_
        replace hS := hS.to (Hle.refl _) (Sep.selT (A := [.row v204 3 (tInt .i64).sz y21.length xs128, Go.Lx.box b23 82 ([Value.bool rv20.1.nullable, v201, v202]), Go.Lx.box b1 80 ([v199, v200]), .row v199 48 (tVec 4 .u64).sz rv20.2.sets.length xs125, .row v200 84 (tVec 2 .i64).sz rv20.2.pairs.length xs126, .row v179 3 (tInt .i64).sz xv57.length xs109, .row v180 3 (tInt .i64).sz xv58.length xs110, Go.Lx.box b4 82 ([Value.bool xv67, v179, v180]), Go.Lx.box b3 82 ([Value.bool false, Value.slice none 0 0, Value.slice none 0 0]), Go.Lx.box b2 50 (([Value.int .i64 p2.Kind]) ++ ((p2.Set.1.map (Value.int .u64)) ++ ([v3])))]) (A' := [Go.Lx.box b23 82 ([Value.bool rv20.1.nullable, v201, v202]), Go.Lx.box b1 80 ([v199, v200]), .row v199 48 (tVec 4 .u64).sz rv20.2.sets.length xs125, .row v200 84 (tVec 2 .i64).sz rv20.2.pairs.length xs126, .row v179 3 (tInt .i64).sz xv57.length xs109, .row v180 3 (tInt .i64).sz xv58.length xs110, Go.Lx.box b4 82 ([Value.bool xv67, v179, v180]), Go.Lx.box b3 82 ([Value.bool false, Value.slice none 0 0, Value.slice none 0 0]), Go.Lx.box b2 50 (([Value.int .i64 p2.Kind]) ++ ((p2.Set.1.map (Value.int .u64)) ++ ([v3])))]) (L := Lt) hs [1, 2, 3, 4, 5, 6, 7, 8, 9] (by decide) rfl)
        refine ⟨fun _ => hS, ?_⟩
        refine A1 rfl ?_
        obtain ⟨xs129, hrxs129, hlxs129⟩ := (id hRv201)
        obtain ⟨y22, hy22, hM⟩ := bindS hM
        refine OW_append Try.underlying23 ti3 rfl (by decide) (by decide) hs (i := 0) rfl hrelxs128 (v := v204) rfl (u := v201) rfl (hlxs129.src hs.imm) hrxs129 hy22 rfl ?_
        intro v205 wv122 xs130 hrelxs130 hs
        refine OW_nil ?_
        replace hS := hS.to (Hle.refl _) (Sep.selT (A := [.row v205 3 (tInt .i64).sz y22.length xs130, Go.Lx.box b23 82 ([Value.bool rv20.1.nullable, v201, v202]), Go.Lx.box b1 80 ([v199, v200]), .row v199 48 (tVec 4 .u64).sz rv20.2.sets.length xs125, .row v200 84 (tVec 2 .i64).sz rv20.2.pairs.length xs126, .row v179 3 (tInt .i64).sz xv57.length xs109, .row v180 3 (tInt .i64).sz xv58.length xs110, Go.Lx.box b4 82 ([Value.bool xv67, v179, v180]), Go.Lx.box b3 82 ([Value.bool false, Value.slice none 0 0, Value.slice none 0 0]), Go.Lx.box b2 50 (([Value.int .i64 p2.Kind]) ++ ((p2.Set.1.map (Value.int .u64)) ++ ([v3])))]) (A' := [Go.Lx.box b23 82 ([Value.bool rv20.1.nullable, v201, v202]), Go.Lx.box b1 80 ([v199, v200]), .row v199 48 (tVec 4 .u64).sz rv20.2.sets.length xs125, .row v200 84 (tVec 2 .i64).sz rv20.2.pairs.length xs126, .row v179 3 (tInt .i64).sz xv57.length xs109, .row v180 3 (tInt .i64).sz xv58.length xs110, Go.Lx.box b4 82 ([Value.bool xv67, v179, v180]), Go.Lx.box b3 82 ([Value.bool false, Value.slice none 0 0, Value.slice none 0 0]), Go.Lx.box b2 50 (([Value.int .i64 p2.Kind]) ++ ((p2.Set.1.map (Value.int .u64)) ++ ([v3])))]) (L := Lt) hs [1, 2, 3, 4, 5, 6, 7, 8, 9] (by decide) rfl)
        refine ⟨fun _ => hS, ?_⟩
        refine A rfl hS (fun w9 ⟨g9, hle9, hs⟩ => r_fieldAddr Try.underlying82 ti23 rfl rfl (by decide) rfl rfl) rfl <| A1 rfl <| OW_store1 ti23 hs (i := 7) rfl rfl (v := v205) rfl (by obtain ⟨_, _, h9⟩ := hs.rowShape (i := 0) rfl; rw [h9]; rfl) (o := 1) (by simp) ?_
        intro wv123 hs
        refine OW_nil ?_
        refine ⟨fun h => absurd h (by decide +kernel), ?_⟩
        refine AN <| WP_any (.q 1 (.q 2 (.q 4 (.q 5 (.s 0 (.s 3 (.s 6 (.q 7 (.s 8 (.leaf)))))))))) (SS g0 w0 gg34 (.row v205 3 (tInt .i64).sz y22.length xs130 :: Go.Lx.box b23 82 ([Value.bool rv20.1.nullable, v201, v202]) :: Go.Lx.box b1 80 ([v199, v200]) :: .row v199 48 (tVec 4 .u64).sz rv20.2.sets.length xs125 :: .row v200 84 (tVec 2 .i64).sz rv20.2.pairs.length xs126 :: .row v179 3 (tInt .i64).sz xv57.length xs109 :: .row v180 3 (tInt .i64).sz xv58.length xs110 :: Go.Lx.box b4 82 ([Value.bool xv67, v205, v180]) :: Go.Lx.box b3 82 ([Value.bool false, Value.slice none 0 0, Value.slice none 0 0]) :: Go.Lx.box b2 50 (([Value.int .i64 p2.Kind]) ++ ((p2.Set.1.map (Value.int .u64)) ++ ([v3]))) :: Lt)) mo (by decide +kernel) ?_
        have hs := hs.drew
        have hS : SS g0 w0 gg34 (.row v205 3 (tInt .i64).sz y22.length xs130 :: Go.Lx.box b23 82 ([Value.bool rv20.1.nullable, v201, v202]) :: Go.Lx.box b1 80 ([v199, v200]) :: .row v199 48 (tVec 4 .u64).sz rv20.2.sets.length xs125 :: .row v200 84 (tVec 2 .i64).sz rv20.2.pairs.length xs126 :: .row v179 3 (tInt .i64).sz xv57.length xs109 :: .row v180 3 (tInt .i64).sz xv58.length xs110 :: Go.Lx.box b4 82 ([Value.bool xv67, v205, v180]) :: Go.Lx.box b3 82 ([Value.bool false, Value.slice none 0 0, Value.slice none 0 0]) :: Go.Lx.box b2 50 (([Value.int .i64 p2.Kind]) ++ ((p2.Set.1.map (Value.int .u64)) ++ ([v3]))) :: Lt) _ := ⟨gg34, Hle.refl _, hs⟩
        refine A rfl hS (fun w9 ⟨g9, hle9, hs⟩ => r_fieldAddr Try.underlying82 ti23 rfl rfl (by decide) rfl rfl) rfl <| A rfl hS (fun w9 ⟨g9, hle9, hs⟩ => r_load (v := v180) ti23 rfl (hs.cell (i := 7) (o := 2) rfl rfl)) rfl <| A rfl hS (fun w9 ⟨g9, hle9, hs⟩ => r_fieldAddr Try.underlying82 ti23 rfl rfl (by decide) rfl rfl) rfl <| A rfl hS (fun w9 ⟨g9, hle9, hs⟩ => r_load (v := v202) ti23 rfl (hs.cell (i := 1) (o := 2) rfl rfl)) rfl <| A1 rfl <| OW_lit (τ := (tInt .i64)) [] [] Try.underlying23 ti3 (by decide) hs rfl rfl rfl trivial rfl ?_
        intro v206 wv124 xs131 hrelxs131 hs
        refine OW_nil ?_
        replace hS := hS.to (Hle.refl _) (Sep.selT (A := [.row v206 3 (tInt .i64).sz [].length xs131, .row v205 3 (tInt .i64).sz y22.length xs130, Go.Lx.box b23 82 ([Value.bool rv20.1.nullable, v201, v202]), Go.Lx.box b1 80 ([v199, v200]), .row v199 48 (tVec 4 .u64).sz rv20.2.sets.length xs125, .row v200 84 (tVec 2 .i64).sz rv20.2.pairs.length xs126, .row v179 3 (tInt .i64).sz xv57.length xs109, .row v180 3 (tInt .i64).sz xv58.length xs110, Go.Lx.box b4 82 ([Value.bool xv67, v205, v180]), Go.Lx.box b3 82 ([Value.bool false, Value.slice none 0 0, Value.slice none 0 0]), Go.Lx.box b2 50 (([Value.int .i64 p2.Kind]) ++ ((p2.Set.1.map (Value.int .u64)) ++ ([v3])))]) (A' := [.row v205 3 (tInt .i64).sz y22.length xs130, Go.Lx.box b23 82 ([Value.bool rv20.1.nullable, v201, v202]), Go.Lx.box b1 80 ([v199, v200]), .row v199 48 (tVec 4 .u64).sz rv20.2.sets.length xs125, .row v200 84 (tVec 2 .i64).sz rv20.2.pairs.length xs126, .row v179 3 (tInt .i64).sz xv57.length xs109, .row v180 3 (tInt .i64).sz xv58.length xs110, Go.Lx.box b4 82 ([Value.bool xv67, v205, v180]), Go.Lx.box b3 82 ([Value.bool false, Value.slice none 0 0, Value.slice none 0 0]), Go.Lx.box b2 50 (([Value.int .i64 p2.Kind]) ++ ((p2.Set.1.map (Value.int .u64)) ++ ([v3])))]) (L := Lt) hs [1, 2, 3, 4, 5, 6, 7, 8, 9, 10] (by decide) rfl)
        refine ⟨fun _ => hS, ?_⟩
        refine A1 rfl ?_
        obtain ⟨y23, hy23, hM⟩ := bindS hM
        refine OW_append Try.underlying23 ti3 rfl (by decide) (by decide) hs (i := 0) rfl hrelxs131 (v := v206) rfl (u := v180) rfl (hs.rowSrc (i := 7) rfl) hrelxs110 hy23 rfl ?_
        intro v207 wv125 xs132 hrelxs132 hs
        refine OW_nil ?_
        replace hS := hS.to (Hle.refl _) (Sep.selT (A := [.row v207 3 (tInt .i64).sz y23.length xs132, .row v205 3 (tInt .i64).sz y22.length xs130, Go.Lx.box b23 82 ([Value.bool rv20.1.nullable, v201, v202]), Go.Lx.box b1 80 ([v199, v200]), .row v199 48 (tVec 4 .u64).sz rv20.2.sets.length xs125, .row v200 84 (tVec 2 .i64).sz rv20.2.pairs.length xs126, .row v179 3 (tInt .i64).sz xv57.length xs109, .row v180 3 (tInt .i64).sz xv58.length xs110, Go.Lx.box b4 82 ([Value.bool xv67, v205, v180]), Go.Lx.box b3 82 ([Value.bool false, Value.slice none 0 0, Value.slice none 0 0]), Go.Lx.box b2 50 (([Value.int .i64 p2.Kind]) ++ ((p2.Set.1.map (Value.int .u64)) ++ ([v3])))]) (A' := [.row v205 3 (tInt .i64).sz y22.length xs130, Go.Lx.box b23 82 ([Value.bool rv20.1.nullable, v201, v202]), Go.Lx.box b1 80 ([v199, v200]), .row v199 48 (tVec 4 .u64).sz rv20.2.sets.length xs125, .row v200 84 (tVec 2 .i64).sz rv20.2.pairs.length xs126, .row v179 3 (tInt .i64).sz xv57.length xs109, .row v180 3 (tInt .i64).sz xv58.length xs110, Go.Lx.box b4 82 ([Value.bool xv67, v205, v180]), Go.Lx.box b3 82 ([Value.bool false, Value.slice none 0 0, Value.slice none 0 0]), Go.Lx.box b2 50 (([Value.int .i64 p2.Kind]) ++ ((p2.Set.1.map (Value.int .u64)) ++ ([v3])))]) (L := Lt) hs [1, 2, 3, 4, 5, 6, 7, 8, 9, 10] (by decide) rfl)
        refine ⟨fun _ => hS, ?_⟩
        refine A1 rfl ?_
        obtain ⟨xs133, hrxs133, hlxs133⟩ := (id hRv202)
        obtain ⟨y24, hy24, hM⟩ := bindS hM
        refine OW_append Try.underlying23 ti3 rfl (by decide) (by decide) hs (i := 0) rfl hrelxs132 (v := v207) rfl (u := v202) rfl (hlxs133.src hs.imm) hrxs133 hy24 rfl ?_
        intro v208 wv126 xs134 hrelxs134 hs
        refine OW_nil ?_
        replace hS := hS.to (Hle.refl _) (Sep.selT (A := [.row v208 3 (tInt .i64).sz y24.length xs134, .row v205 3 (tInt .i64).sz y22.length xs130, Go.Lx.box b23 82 ([Value.bool rv20.1.nullable, v201, v202]), Go.Lx.box b1 80 ([v199, v200]), .row v199 48 (tVec 4 .u64).sz rv20.2.sets.length xs125, .row v200 84 (tVec 2 .i64).sz rv20.2.pairs.length xs126, .row v179 3 (tInt .i64).sz xv57.length xs109, .row v180 3 (tInt .i64).sz xv58.length xs110, Go.Lx.box b4 82 ([Value.bool xv67, v205, v180]), Go.Lx.box b3 82 ([Value.bool false, Value.slice none 0 0, Value.slice none 0 0]), Go.Lx.box b2 50 (([Value.int .i64 p2.Kind]) ++ ((p2.Set.1.map (Value.int .u64)) ++ ([v3])))]) (A' := [.row v205 3 (tInt .i64).sz y22.length xs130, Go.Lx.box b23 82 ([Value.bool rv20.1.nullable, v201, v202]), Go.Lx.box b1 80 ([v199, v200]), .row v199 48 (tVec 4 .u64).sz rv20.2.sets.length xs125, .row v200 84 (tVec 2 .i64).sz rv20.2.pairs.length xs126, .row v179 3 (tInt .i64).sz xv57.length xs109, .row v180 3 (tInt .i64).sz xv58.length xs110, Go.Lx.box b4 82 ([Value.bool xv67, v205, v180]), Go.Lx.box b3 82 ([Value.bool false, Value.slice none 0 0, Value.slice none 0 0]), Go.Lx.box b2 50 (([Value.int .i64 p2.Kind]) ++ ((p2.Set.1.map (Value.int .u64)) ++ ([v3])))]) (L := Lt) hs [1, 2, 3, 4, 5, 6, 7, 8, 9, 10] (by decide) rfl)
        refine ⟨fun _ => hS, ?_⟩
        refine A rfl hS (fun w9 ⟨g9, hle9, hs⟩ => r_fieldAddr Try.underlying82 ti23 rfl rfl (by decide) rfl rfl) rfl <| A1 rfl <| OW_store1 ti23 hs (i := 8) rfl rfl (v := v208) rfl (by obtain ⟨_, _, h9⟩ := hs.rowShape (i := 0) rfl; rw [h9]; rfl) (o := 2) (by simp) ?_
        intro wv127 hs
        refine OW_nil ?_
        refine ⟨fun h => absurd h (by decide +kernel), ?_⟩
        refine AN <| WP_region <| O (r_move (v := Value.int .i64 xv59) rfl) rfl ?_
        obtain ⟨t12, ht12, hM⟩ := bindS hM
        refine O (r_addM rfl rfl ht12) rfl <| O (r_assign (v := Value.int .i64 t12) rfl) rfl <| OW_nil ?_
        obtain rfl := Option.some.inj hM
        exact ⟨gg34, v205, xs130, v208, xs134, v199, xs125, v200, xs126, rfl, rfl, rfl, rfl, rfl, hds, hlegg31, hrelxs130, hrelxs134, hrelxs125, hrelxs126, (Sep.selT (A := [.row v208 3 (tInt .i64).sz y24.length xs134, .row v205 3 (tInt .i64).sz y22.length xs130, Go.Lx.box b23 82 ([Value.bool rv20.1.nullable, v201, v202]), Go.Lx.box b1 80 ([v199, v200]), .row v199 48 (tVec 4 .u64).sz rv20.2.sets.length xs125, .row v200 84 (tVec 2 .i64).sz rv20.2.pairs.length xs126, .row v179 3 (tInt .i64).sz xv57.length xs109, .row v180 3 (tInt .i64).sz xv58.length xs110, Go.Lx.box b4 82 ([Value.bool xv67, v205, v208]), Go.Lx.box b3 82 ([Value.bool false, Value.slice none 0 0, Value.slice none 0 0]), Go.Lx.box b2 50 (([Value.int .i64 p2.Kind]) ++ ((p2.Set.1.map (Value.int .u64)) ++ ([v3])))]) (A' := [.row v205 3 (tInt .i64).sz y22.length xs130, .row v208 3 (tInt .i64).sz y24.length xs134, Go.Lx.box b4 82 ([Value.bool xv67, v205, v208]), Go.Lx.box b3 82 ([Value.bool false, Value.slice none 0 0, Value.slice none 0 0]), Go.Lx.box b2 50 (([Value.int .i64 p2.Kind]) ++ ((p2.Set.1.map (Value.int .u64)) ++ ([v3]))), Go.Lx.box b1 80 ([v199, v200]), .row v199 48 (tVec 4 .u64).sz rv20.2.sets.length xs125, .row v200 84 (tVec 2 .i64).sz rv20.2.pairs.length xs126]) (L := Lt) hs [1, 0, 8, 9, 10, 3, 4, 5] (by decide) rfl)⟩
      ·refine WP_false rfl hc21 <| WP_exit ?_
       obtain rfl := Option.some.inj hM
       refine fun hr => ?_
       have hM := congrArg some hr
       simp only [Option.some.injEq, Prod.mk.injEq] at hM
       obtain ⟨rfl, rfl, rfl, rfl, rfl⟩ := hM
       obtain ⟨gg35, hlegg35, hRgg35, hs⟩ := hs.relRow (i := 0) rfl hrelxs109
       replace hrelxs110 := hrelxs110.mono hlegg35
       replace hrelxs107 := hrelxs107.mono hlegg35
       replace hrelxs108 := hrelxs108.mono hlegg35
       replace hlegg31 := hlegg31.trans hlegg35
       obtain ⟨gg36, hlegg36, hRgg36, hs⟩ := hs.relRow (i := 0) rfl hrelxs110
       replace hrelxs107 := hrelxs107.mono hlegg36
       replace hrelxs108 := hrelxs108.mono hlegg36
       replace hRgg35 := hRgg35.mono hlegg36
       replace hlegg31 := hlegg31.trans hlegg36
       exact ⟨gg36, v177, xs107, v178, xs108, v179, v180, rfl, rfl, hds, hlegg31, hrelxs107, hrelxs108, hRgg35, hRgg36, (Sep.selT (A := [Go.Lx.box b4 82 ([Value.bool xv56, v179, v180]), Go.Lx.box b3 82 ([Value.bool false, Value.slice none 0 0, Value.slice none 0 0]), Go.Lx.box b2 50 (([Value.int .i64 p2.Kind]) ++ ((p2.Set.1.map (Value.int .u64)) ++ ([v3]))), Go.Lx.box b1 80 ([v177, v178]), .row v177 48 (tVec 4 .u64).sz xv54.length xs107, .row v178 84 (tVec 2 .i64).sz xv55.length xs108]) (A' := [Go.Lx.box b4 82 ([Value.bool xv56, v179, v180]), Go.Lx.box b3 82 ([Value.bool false, Value.slice none 0 0, Value.slice none 0 0]), Go.Lx.box b1 80 ([v177, v178]), .row v177 48 (tVec 4 .u64).sz xv54.length xs107, .row v178 84 (tVec 2 .i64).sz xv55.length xs108]) (L := Lt) hs [0, 1, 3, 4, 5] (by decide) rfl)⟩
     ·refine WP_false rfl hc18 <| WP_seq <| WP_region <| O (r_eql rfl rfl) rfl <| O (r_assign (v := Value.bool (p2.Kind == 6)) rfl) rfl <| OW_nil ?_
      rcases condS hM with ⟨hc22, hM⟩ | ⟨hc22, hM⟩
      ·refine WP_true rfl hc22 <| WP_seq <| WP_region <| O (r_move (v := Value.pointer (some ⟨b1, 0, none⟩)) rfl) rfl <| O (r_fieldAddr Try.underlying50 ti37 rfl rfl (by decide) rfl rfl) rfl <| O (r_load (v := v3) ti37 rfl (hs.cell (i := 2) (o := 5) rfl (by simp [p2.Set.2]))) rfl ?_
       obtain ⟨e14, he14, hM⟩ := bindS hM
       obtain ⟨b24, ob24, cb24, hvb24, cs133, hcs133, hcb24⟩ := hRv3.at he14
       obtain ⟨cs134, cs135, cs136, rfl, hcs134, hcs135, hcs136⟩ := tT_Regex_iff.1 hcs133
       have hcs134 : cs134 = _ := hcs134; subst hcs134
       have hcs135 : cs135 = _ := hcs135; subst hcs135
       obtain ⟨v209, rfl, hRv209⟩ := hcs136
       refine O (r_idxSl Try.underlying37 ti50 (v := v3) rfl hvb24 rfl (idxL_some he14).1 (idxL_some he14).2.1) rfl <| O (r_loadEl (cs := ([Value.int .i64 e14.Kind]) ++ ((e14.Set.1.map (Value.int .u64)) ++ ([v209]))) ti50 rfl (by simp [e14.Set.2]) (.inl rfl) (hcb24 _ hs.imm) (v := Value.agg (List.toArray (α := Value) (([Value.int .i64 e14.Kind]) ++ ((e14.Set.1.map (Value.int .u64)) ++ ([v209]))))) rfl) rfl ?_
       have hs : Go.Lx.Sep g0 w0 gi _ (Go.Lx.box b1 80 ([v1, v2]) :: .row v1 48 (tVec 4 .u64).sz p1.sets.length xs1 :: .row v2 84 (tVec 2 .i64).sz p1.pairs.length xs2 :: Go.Lx.box b4 82 ([Value.bool false, Value.slice none 0 0, Value.slice none 0 0]) :: Go.Lx.box b3 82 ([Value.bool false, Value.slice none 0 0, Value.slice none 0 0]) :: Go.Lx.box b2 50 (([Value.int .i64 p2.Kind]) ++ ((p2.Set.1.map (Value.int .u64)) ++ ([v3]))) :: Lt) := (Sep.selT (A := [Go.Lx.box b4 82 ([Value.bool false, Value.slice none 0 0, Value.slice none 0 0]), Go.Lx.box b3 82 ([Value.bool false, Value.slice none 0 0, Value.slice none 0 0]), Go.Lx.box b2 50 (([Value.int .i64 p2.Kind]) ++ ((p2.Set.1.map (Value.int .u64)) ++ ([v3]))), Go.Lx.box b1 80 ([v1, v2]), .row v1 48 (tVec 4 .u64).sz p1.sets.length xs1, .row v2 84 (tVec 2 .i64).sz p1.pairs.length xs2]) (A' := [Go.Lx.box b1 80 ([v1, v2]), .row v1 48 (tVec 4 .u64).sz p1.sets.length xs1, .row v2 84 (tVec 2 .i64).sz p1.pairs.length xs2, Go.Lx.box b4 82 ([Value.bool false, Value.slice none 0 0, Value.slice none 0 0]), Go.Lx.box b3 82 ([Value.bool false, Value.slice none 0 0, Value.slice none 0 0]), Go.Lx.box b2 50 (([Value.int .i64 p2.Kind]) ++ ((p2.Set.1.map (Value.int .u64)) ++ ([v3])))]) (L := Lt) hs [3, 4, 5, 0, 1, 2] (by decide) rfl)
       obtain ⟨rv21, hrv21, hM⟩ := bindS hM
       refine C [Value.pointer (some ⟨b1, 0, none⟩), Value.agg (List.toArray (α := Value) (([Value.int .i64 e14.Kind]) ++ ((e14.Set.1.map (Value.int .u64)) ++ ([v209]))))] cf46 rfl (ih_ref09_builder_build hrv21 hs (tT_Regex_iff.2 ⟨[Value.int .i64 e14.Kind], e14.Set.1.map (Value.int .u64), [v209], rfl, rfl, rfl, ⟨_, rfl, hRv209⟩⟩) hrelxs1 hrelxs2) rfl ?_
       rintro v210 wv128 ⟨gg37, v211, xs135, v212, xs136, hvv210, hlegg37, hrelxs135, hrelxs136, hs⟩
       replace hagi := hagi.trans hlegg37
       obtain ⟨cs137, rfl, hcs137⟩ := hvv210
       obtain ⟨cs138, cs139, cs140, rfl, hcs138, hcs139, hcs140⟩ := hcs137
       have hcs138 : cs138 = _ := hcs138; subst hcs138
       obtain ⟨v213, rfl, hRv213⟩ := hcs139
       obtain ⟨v214, rfl, hRv214⟩ := hcs140
       refine OW_storeAll ti82 hs (i := 3) rfl rfl (v := Value.agg (List.toArray (α := Value) [Value.bool rv21.1.nullable, v213, v214])) rfl (vs := [Value.bool rv21.1.nullable, v213, v214]) rfl (one_cons rfl (one_cons (by obtain ⟨_, _, h9⟩ := hRv213.shape; rw [h9]; rfl) (one_cons (by obtain ⟨_, _, h9⟩ := hRv214.shape; rw [h9]; rfl) one_nil))) rfl rfl ?_
       intro wv129 hs
       refine OW_nil <| WP_seq <| WP_region <| O (r_move (v := Value.pointer (some ⟨b1, 0, none⟩)) rfl) rfl <| O (r_fieldAddr Try.underlying82 ti23 rfl rfl (by decide) rfl rfl) rfl <| O (r_load (v := v214) ti23 rfl (hs.cell (i := 3) (o := 2) rfl rfl)) rfl <| O (r_fieldAddr Try.underlying82 ti23 rfl rfl (by decide) rfl rfl) rfl <| O (r_load (v := v213) ti23 rfl (hs.cell (i := 3) (o := 1) rfl rfl)) rfl ?_
       obtain ⟨rv22, hrv22, hM⟩ := bindS hM
       refine C [Value.pointer (some ⟨b1, 0, none⟩), v214, v213] cf47 rfl (ref09_builder_all_ok hrv22 hs hRv214 hRv213 hrelxs135 hrelxs136) rfl ?_
       rintro v215 wv130 ⟨gg38, v216, xs137, v217, xs138, hvv215, hlegg38, hrelxs137, hrelxs138, hs⟩
       replace hRv213 := hRv213.mono hlegg38
       replace hRv214 := hRv214.mono hlegg38
       replace hagi := hagi.trans hlegg38
       refine OW_nil <| WP_region <| O (r_fieldAddr Try.underlying82 ti4 rfl rfl (by decide) rfl rfl) rfl <| OW_store1 ti4 hs (i := 3) rfl rfl (v := Value.bool true) rfl rfl (o := 0) (by simp) ?_
       intro wv131 hs
       refine OW_nil ?_
       simp only [Option.some.injEq, Prod.mk.injEq] at hM
       obtain ⟨rfl, rfl, rfl, rfl, rfl⟩ := hM
       exact ⟨gg38, v216, xs137, v217, xs138, v213, v214, rfl, rfl, hds, hagi, hrelxs137, hrelxs138, hRv213, hRv214, (Sep.selT (A := [Go.Lx.box b1 80 ([v216, v217]), .row v216 48 (tVec 4 .u64).sz rv22.sets.length xs137, .row v217 84 (tVec 2 .i64).sz rv22.pairs.length xs138, Go.Lx.box b4 82 ([Value.bool true, v213, v214]), Go.Lx.box b3 82 ([Value.bool false, Value.slice none 0 0, Value.slice none 0 0]), Go.Lx.box b2 50 (([Value.int .i64 p2.Kind]) ++ ((p2.Set.1.map (Value.int .u64)) ++ ([v3])))]) (A' := [Go.Lx.box b4 82 ([Value.bool true, v213, v214]), Go.Lx.box b3 82 ([Value.bool false, Value.slice none 0 0, Value.slice none 0 0]), Go.Lx.box b1 80 ([v216, v217]), .row v216 48 (tVec 4 .u64).sz rv22.sets.length xs137, .row v217 84 (tVec 2 .i64).sz rv22.pairs.length xs138]) (L := Lt) hs [3, 4, 0, 1, 2] (by decide) rfl)⟩
      ·refine WP_false rfl hc22 <| WP_skip ?_
       simp only [Option.some.injEq, Prod.mk.injEq] at hM
       obtain ⟨rfl, rfl, rfl, rfl, rfl⟩ := hM
       exact ⟨gi, v1, xs1, v2, xs2, Value.slice none 0 0, Value.slice none 0 0, rfl, rfl, hds, (Hle.refl _), hrelxs1, hrelxs2, RdS.nil, RdS.nil, (Sep.selT (A := [Go.Lx.box b4 82 ([Value.bool false, Value.slice none 0 0, Value.slice none 0 0]), Go.Lx.box b3 82 ([Value.bool false, Value.slice none 0 0, Value.slice none 0 0]), Go.Lx.box b2 50 (([Value.int .i64 p2.Kind]) ++ ((p2.Set.1.map (Value.int .u64)) ++ ([v3]))), Go.Lx.box b1 80 ([v1, v2]), .row v1 48 (tVec 4 .u64).sz p1.sets.length xs1, .row v2 84 (tVec 2 .i64).sz p1.pairs.length xs2]) (A' := [Go.Lx.box b4 82 ([Value.bool false, Value.slice none 0 0, Value.slice none 0 0]), Go.Lx.box b3 82 ([Value.bool false, Value.slice none 0 0, Value.slice none 0 0]), Go.Lx.box b1 80 ([v1, v2]), .row v1 48 (tVec 4 .u64).sz p1.sets.length xs1, .row v2 84 (tVec 2 .i64).sz p1.pairs.length xs2]) (L := Lt) hs [0, 1, 3, 4, 5] (by decide) rfl)⟩
 ·clear hs
  rintro E w ⟨gg18, v111, xs70, v112, xs71, v109, v110, hE4, hE5, hds, hlegg18, hrelxs70, hrelxs71, hRv109, hRv110, hs⟩
  have hM := hKhx4
  obtain ⟨E, rfl⟩ := open2 (E := E) hE4 hE5
  replace hagi := hagi.trans hlegg18
  refine WP_seq <| WP_region <| O (r_loadN (cs := [Value.bool xv33, v109, v110]) ti82 rfl rfl (hs.cells (i := 0) rfl)) rfl <| OW_storeAll ti82 hs (i := 1) rfl rfl (v := Value.agg (List.toArray (α := Value) [Value.bool xv33, v109, v110])) rfl (vs := [Value.bool xv33, v109, v110]) rfl (one_cons rfl (one_cons (by obtain ⟨_, _, h9⟩ := hRv109.shape; rw [h9]; rfl) (one_cons (by obtain ⟨_, _, h9⟩ := hRv110.shape; rw [h9]; rfl) one_nil))) rfl rfl ?_
  intro wv132 hs
  refine OW_nil <| WP_ret ?_
  obtain rfl := Option.some.inj hM
  refine FL_nil hds ?_
  exact ⟨_, res1 Try.results46 (rv_cells (vs := [Value.bool xv33, v109, v110]) ti82 rfl rfl (hs.cells (i := 1) rfl)), gg18, v111, xs70, v112, xs71, ⟨[Value.bool xv33, v109, v110], rfl, ⟨[Value.bool xv33], [v109], [v110], rfl, rfl, ⟨_, rfl, hRv109⟩, ⟨_, rfl, hRv110⟩⟩⟩, hagi, hrelxs70, hrelxs71, (Sep.selT (A := [Go.Lx.box b4 82 ([Value.bool xv33, v109, v110]), Go.Lx.box b3 82 ([Value.bool xv33, v109, v110]), Go.Lx.box b1 80 ([v111, v112]), .row v111 48 (tVec 4 .u64).sz xv34.length xs70, .row v112 84 (tVec 2 .i64).sz xv35.length xs71]) (A' := [Go.Lx.box b1 80 ([v111, v112]), .row v111 48 (tVec 4 .u64).sz xv34.length xs70, .row v112 84 (tVec 2 .i64).sz xv35.length xs71]) (L := Lt) hs [2, 3, 4] (by decide) rfl)⟩
theorem ref09_builder_build_zero : C.ref09_builder_build 0 := by
  unfold C.ref09_builder_build
  intros
  simp_all only [M.ref09_builder_build, reduceCtorEq]
theorem ref09_builder_build_all : ∀ fl, C.ref09_builder_build fl := by
  intro fl
  induction fl with
  | zero => exact ref09_builder_build_zero
  | succ fl ih =>
    exact ref09_builder_build_step ih
theorem ref09_builder_build_ok {fl : Nat} : C.ref09_builder_build fl := (ref09_builder_build_all fl)
end Go.Proofs.Ytajmekjcnbmaaaa
set_option linter.unusedVariables false
set_option linter.unusedSimpArgs false
namespace Go.Proofs.Ytajmekjcnbmaaaa
open Go.Lx Go.RowKit
set_option maxRecDepth 100000 in
theorem ref09_Same_ok {a1 : (List Int)} {b1 : (List Int)} {r : Bool} (hM : M.ref09_Same a1 b1 = some r) {g0 : Hp} {w0 : World} (hi : Imm g0 w0) {v1 : Value} (hRv1 : RdS (tInt .i64) g0 v1 a1) {v2 : Value} (hRv2 : RdS (tInt .i64) g0 v2 b1) :
    CallsV Try.prog 16 #[v1, v2] w0 (fun v w' => ∃ g', (VRd tBool false g' v r) ∧ Ext g0 w0 g' w') := by
 unfold M.ref09_Same at hM
 have hs := Sep.start hi
 refine calls_of_WP (args := [v1, v2]) Try.func16 rfl Try.ntmps16 rfl ?_
 have hds : (argEnv [v1, v2]).ds = [] := rfl
 refine WP_seq <| WP_region <| O (r_assign (v := Value.bool false) rfl) rfl <| OW_nil <| WP_seq <| WP_seq <| WP_region <| O (r_move (v := v1) rfl) rfl ?_
 obtain ⟨a2, ca2, hva2⟩ := hRv1.shape
 refine O (r_lenSl (v := v1) Try.underlying23 rfl hva2) rfl <| O (r_move (v := v2) rfl) rfl ?_
 obtain ⟨a3, ca3, hva3⟩ := hRv2.shape
 refine O (r_lenSl (v := v2) Try.underlying23 rfl hva3) rfl <| O (r_neq rfl rfl) rfl <| OW_nil ?_
 rcases condS hM with ⟨hc1, hM⟩ | ⟨hc1, hM⟩
 ·refine WP_true rfl hc1 <| WP_seq <| WP_region <| O (r_assign (v := Value.bool false) rfl) rfl <| OW_nil <| WP_ret ?_
  obtain rfl := Option.some.inj hM
  refine FL_nil hds ?_
  exact ⟨_, res1 Try.results16 (rv_tmp (v := Value.bool false) rfl), g0, ⟨[Value.bool false], rfl, rfl⟩, hs.ext⟩
 ·refine WP_false rfl hc1 <| WP_skip ?_
  obtain ⟨o3, hx1, hKhx1⟩ := stepS hM
  refine WP_cut (fun E w => ∃ u9 : Unit, o3 = .next u9 ∧ E.ds = [] ∧ Go.Lx.Sep g0 w0 g0 w []) ?_ ?_
  ·have hM := hx1
   have hag0 := Hle.refl g0
   refine WP_seq <| WP_region <| O (r_assign (v := Value.int .i64 0) rfl) rfl <| OW_nil <| WP_block <| WP_loop (fun (i5 : Int) E w => E 0 = v1 ∧ E 1 = v2 ∧ E 5 = Value.int .i64 i5 ∧ E.ds = [] ∧ Go.Lx.Sep g0 w0 g0 w []) hM ⟨rfl, rfl, rfl, hds, hs⟩ ?_
   clear hs hM
   rintro i5 o2 E w hM ⟨hE0, hE1, hE5, hds, hs⟩
   obtain ⟨E, rfl⟩ := open3 (E := E) hE0 hE1 hE5
   refine WP_seq <| WP_seq <| WP_region <| O (r_move (v := Value.int .i64 i5) rfl) rfl <| O (r_move (v := v1) rfl) rfl ?_
   obtain ⟨a9, ca9, hva9⟩ := hRv1.shape
   refine O (r_lenSl (v := v1) Try.underlying23 rfl hva9) rfl <| O (r_lss rfl rfl) rfl <| OW_nil ?_
   rcases condS hM with ⟨hc12, hM⟩ | ⟨hc12, hM⟩
   ·refine WP_true rfl hc12 <| WP_skip <| WP_seq <| WP_block <| WP_seq <| WP_draw mo (by decide +kernel) ?_
    have hs := hs.drew
    refine S (r_move (v := v1) rfl) rfl <| S (r_move (v := Value.int .i64 i5) rfl) rfl ?_
    obtain ⟨e11, he11, hM⟩ := bindS hM
    obtain ⟨b12, ob12, cb12, hvb12, cs11, hcs11, hcb12⟩ := hRv1.at he11
    have hcs11 : cs11 = _ := hcs11; subst hcs11
    refine S (r_idxSl Try.underlying23 ti3 (v := v1) rfl hvb12 rfl (idxL_some he11).1 (idxL_some he11).2.1) rfl <| S (r_loadEl (cs := [Value.int .i64 e11]) ti3 rfl rfl (.inr rfl) (hcb12 _ hs.imm) (v := Value.int .i64 e11) rfl) rfl <| S (r_move (v := v2) rfl) rfl <| S (r_move (v := Value.int .i64 i5) rfl) rfl ?_
    obtain ⟨e12, he12, hM⟩ := bindS hM
    obtain ⟨b13, ob13, cb13, hvb13, cs12, hcs12, hcb13⟩ := hRv2.at he12
    have hcs12 : cs12 = _ := hcs12; subst hcs12
    refine S (r_idxSl Try.underlying23 ti3 (v := v2) rfl hvb13 rfl (idxL_some he12).1 (idxL_some he12).2.1) rfl <| S (r_loadEl (cs := [Value.int .i64 e12]) ti3 rfl rfl (.inr rfl) (hcb13 _ hs.imm) (v := Value.int .i64 e12) rfl) rfl <| S (r_neq rfl rfl) rfl <| SW_nil ?_
    rcases condS hM with ⟨hc13, hM⟩ | ⟨hc13, hM⟩
    ·refine WP_true rfl hc13 <| WP_seq <| WP_region <| O (r_assign (v := Value.bool false) rfl) rfl <| OW_nil <| WP_ret ?_
     obtain rfl := Option.some.inj hM
     refine fun hr => ?_
     have hM := congrArg some hr
     obtain rfl := Option.some.inj hM
     have hM := hKhx1
     obtain rfl := Option.some.inj hM
     refine FL_nil hds ?_
     exact ⟨_, res1 Try.results16 (rv_tmp (v := Value.bool false) rfl), g0, ⟨[Value.bool false], rfl, rfl⟩, hs.ext⟩
    ·refine WP_false rfl hc13 <| WP_skip <| WP_region <| O (r_move (v := Value.int .i64 i5) rfl) rfl ?_
     obtain ⟨t6, ht6, hM⟩ := bindS hM
     refine O (r_addM rfl rfl ht6) rfl <| O (r_assign (v := Value.int .i64 t6) rfl) rfl <| OW_nil ?_
     obtain rfl := Option.some.inj hM
     exact ⟨rfl, rfl, rfl, hds, hs⟩
   ·refine WP_false rfl hc12 <| WP_exit ?_
    obtain rfl := Option.some.inj hM
    refine fun hr => ?_
    have hM := congrArg some hr
    obtain rfl := Option.some.inj hM
    exact ⟨(), rfl, hds, hs⟩
  ·clear hs
   rintro E w ⟨_, rfl, hds, hs⟩
   have hM := hKhx1
   dsimp only [onStep] at hM
   refine WP_seq <| WP_region <| O (r_assign (v := Value.bool true) rfl) rfl <| OW_nil <| WP_ret ?_
   obtain rfl := Option.some.inj hM
   refine FL_nil hds ?_
   exact ⟨_, res1 Try.results16 (rv_tmp (v := Value.bool true) rfl), g0, ⟨[Value.bool true], rfl, rfl⟩, hs.ext⟩
end Go.Proofs.Ytajmekjcnbmaaaa
