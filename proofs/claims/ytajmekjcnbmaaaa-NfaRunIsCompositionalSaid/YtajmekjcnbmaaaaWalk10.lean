/- The walks: what each function does is what its model says. Printed by a program of my own. -/
import Derived.Test.YtajmekjcnbmaaaaTyp
set_option linter.unusedVariables false
set_option linter.unusedSimpArgs false
namespace Go.Proofs.Ytajmekjcnbmaaaa
open Go.Lx Go.RowKit
set_option maxRecDepth 100000 in
theorem ref09_Accepted_ok {nv1 : T_NFA} {l1 : (List Int)} {r : Int} (hM : M.ref09_Accepted nv1 l1 = some r) {g0 : Hp} {w0 : World} (hi : Imm g0 w0) {cs1 : List Value} (hcs1 : tT_NFA.rel g0 cs1 nv1) {v1 : Value} (hRv1 : RdS (tInt .i64) g0 v1 l1) :
    CallsV Try.prog 22 #[Value.agg cs1.toArray, v1] w0 (fun v w' => ∃ g', (VRd (tInt .i64) false g' v r) ∧ Ext g0 w0 g' w') := by
 unfold M.ref09_Accepted at hM
 obtain ⟨cs2, cs3, cs4, cs5, rfl, hcs2, hcs3, hcs4, hcs5⟩ := hcs1
 have hcs2 : cs2 = _ := hcs2; subst hcs2
 have hcs3 : cs3 = _ := hcs3; subst hcs3
 obtain ⟨v2, rfl, hRv2⟩ := hcs4
 obtain ⟨v3, rfl, hRv3⟩ := hcs5
 have hs := Sep.start hi
 refine calls_of_WP (args := [Value.agg (List.toArray (α := Value) [Value.int .i64 nv1.States, Value.int .i64 nv1.Start, v2, v3]), v1]) Try.func22 rfl Try.ntmps22 rfl ?_
 have hds : (argEnv [Value.agg (List.toArray (α := Value) [Value.int .i64 nv1.States, Value.int .i64 nv1.Start, v2, v3]), v1]).ds = [] := rfl
 refine WP_seq <| WP_region <| OW_box (v := Value.agg (List.toArray (α := Value) [Value.int .i64 nv1.States, Value.int .i64 nv1.Start, v2, v3])) rfl hs (zs := [Value.int .i64 nv1.States, Value.int .i64 nv1.Start, v2, v3]) rfl rfl ?_
 intro b1 wv1 hs
 refine O (r_assign (v := Value.int .i64 0) rfl) rfl <| OW_nil <| WP_seq <| WP_region <| O (r_assign (v := Value.int .i64 (-1)) rfl) rfl <| OW_nil ?_
 obtain ⟨best7, hx10, hKhx10⟩ := bindS hM
 refine WP_cut (fun E w => E 5 = Value.int .i64 best7 ∧ E.ds = [] ∧ Go.Lx.Sep g0 w0 g0 w []) ?_ ?_
 ·have hM := hx10
  have hag0 := Hle.refl g0
  refine WP_seq <| WP_region <| O (r_assign (v := Value.int .i64 0) rfl) rfl <| OW_nil <| WP_block <| WP_loop (fun (st9 : Int × Int) E w => match st9 with | (best10, i5) => E 1 = v1 ∧ E 2 = Value.pointer (some ⟨b1, 0, none⟩) ∧ E 5 = Value.int .i64 best10 ∧ E 6 = Value.int .i64 i5 ∧ E.ds = [] ∧ Go.Lx.Sep g0 w0 g0 w [Go.Lx.box b1 25 ([Value.int .i64 nv1.States, Value.int .i64 nv1.Start, v2, v3])]) hM ⟨rfl, rfl, rfl, rfl, hds, hs⟩ ?_
  clear hs hM
  rintro ⟨best10, i5⟩ o2 E w hM ⟨hE1, hE2, hE5, hE6, hds, hs⟩
  obtain ⟨E, rfl⟩ := open4 (E := E) hE1 hE2 hE5 hE6
  refine WP_seq <| WP_seq <| WP_region <| O (r_move (v := Value.int .i64 i5) rfl) rfl <| O (r_move (v := v1) rfl) rfl ?_
  obtain ⟨a6, ca6, hva6⟩ := hRv1.shape
  refine O (r_lenSl (v := v1) Try.underlying23 rfl hva6) rfl <| O (r_lss rfl rfl) rfl <| OW_nil ?_
  rcases condS hM with ⟨hc16, hM⟩ | ⟨hc16, hM⟩
  ·refine WP_true rfl hc16 <| WP_skip ?_
   obtain ⟨best13, hx18, hKhx18⟩ := bindS hM
   refine WP_cut (fun E w => E 1 = v1 ∧ E 2 = Value.pointer (some ⟨b1, 0, none⟩) ∧ E 5 = Value.int .i64 best13 ∧ E 6 = Value.int .i64 i5 ∧ E.ds = [] ∧ Go.Lx.Sep g0 w0 g0 w [Go.Lx.box b1 25 ([Value.int .i64 nv1.States, Value.int .i64 nv1.Start, v2, v3])]) ?_ ?_
   ·have hM := hx18
    refine WP_block <| WP_seq <| WP_draw mo (by decide +kernel) ?_
    have hs := hs.drew
    refine S (r_fieldAddr Try.underlying25 ti23 rfl rfl (by decide) rfl rfl) rfl <| S (r_load (v := v3) ti23 rfl (hs.cell (i := 0) (o := 3) rfl rfl)) rfl <| S (r_move (v := v1) rfl) rfl <| S (r_move (v := Value.int .i64 i5) rfl) rfl ?_
    obtain ⟨e23, he23, hM⟩ := bindS hM
    obtain ⟨b24, ob24, cb24, hvb24, cs28, hcs28, hcb24⟩ := hRv1.at he23
    have hcs28 : cs28 = _ := hcs28; subst hcs28
    refine S (r_idxSl Try.underlying23 ti3 (v := v1) rfl hvb24 rfl (idxL_some he23).1 (idxL_some he23).2.1) rfl <| S (r_loadEl (cs := [Value.int .i64 e23]) ti3 rfl rfl (.inr rfl) (hcb24 _ hs.imm) (v := Value.int .i64 e23) rfl) rfl ?_
    obtain ⟨e24, he24, hM⟩ := bindS hM
    obtain ⟨b25, ob25, cb25, hvb25, cs29, hcs29, hcb25⟩ := hRv3.at he24
    have hcs29 : cs29 = _ := hcs29; subst hcs29
    refine S (r_idxSl Try.underlying23 ti3 (v := v3) rfl hvb25 rfl (idxL_some he24).1 (idxL_some he24).2.1) rfl <| S (r_loadEl (cs := [Value.int .i64 e24]) ti3 rfl rfl (.inr rfl) (hcb25 _ hs.imm) (v := Value.int .i64 e24) rfl) rfl <| S (r_assign (v := Value.int .i64 e24) rfl) rfl <| SW_nil ?_
    obtain ⟨xv12, hx19, hKhx19⟩ := bindS hM
    refine WP_cut (fun E w => E 1 = v1 ∧ E 2 = Value.pointer (some ⟨b1, 0, none⟩) ∧ E 5 = Value.int .i64 best10 ∧ E 6 = Value.int .i64 i5 ∧ E 7 = Value.int .i64 e24 ∧ E 32 = Value.bool xv12 ∧ E.ds = [] ∧ Go.Lx.Sep g0 w0 g0 w [Go.Lx.box b1 25 ([Value.int .i64 nv1.States, Value.int .i64 nv1.Start, v2, v3])]) ?_ ?_
    ·have hM := hx19
     refine WP_region <| O (r_move (v := Value.int .i64 e24) rfl) rfl <| O (r_geq rfl rfl) rfl <| O (r_move (v := Value.bool (decide (0 ≤ e24))) rfl) rfl ?_
     rcases condS hM with ⟨hg47, hM⟩ | ⟨hg47, hM⟩
     ·refine OG rfl rfl rfl (by rw [hg47]; rfl) (r_move (v := Value.int .i64 best10) rfl) rfl <| OG rfl rfl rfl (by rw [hg47]; rfl) (r_lss rfl rfl) rfl <| OG rfl rfl rfl (by rw [hg47]; rfl) (r_move (v := Value.bool (decide (best10 < 0))) rfl) rfl ?_
      rcases condS hM with ⟨hg48, hM⟩ | ⟨hg48, hM⟩
      ·refine OK rfl rfl rfl (by rw [hg48]; rfl) rfl <| OK rfl rfl rfl (by rw [hg48]; rfl) rfl <| OK rfl rfl rfl (by rw [hg48]; rfl) rfl <| OG rfl rfl rfl (by rw [hg47]; rfl) (r_pickT (v := Value.bool true) rfl hg48 rfl) rfl <| O (r_pickT (v := Value.bool true) rfl hg47 rfl) rfl <| OW_nil ?_
       obtain rfl := Option.some.inj hM
       exact ⟨rfl, rfl, rfl, rfl, rfl, rfl, hds, hs⟩
      ·refine OG rfl rfl rfl (by rw [hg48]; rfl) (r_move (v := Value.int .i64 e24) rfl) rfl <| OG rfl rfl rfl (by rw [hg48]; rfl) (r_move (v := Value.int .i64 best10) rfl) rfl <| OG rfl rfl rfl (by rw [hg48]; rfl) (r_lss rfl rfl) rfl <| OG rfl rfl rfl (by rw [hg47]; rfl) (r_pickF (v := Value.bool (decide (e24 < best10))) rfl hg48 rfl) rfl <| O (r_pickT (v := Value.bool (decide (e24 < best10))) rfl hg47 rfl) rfl <| OW_nil ?_
       obtain rfl := Option.some.inj hM
       exact ⟨rfl, rfl, rfl, rfl, rfl, rfl, hds, hs⟩
     ·refine OK rfl rfl rfl (by rw [hg47]; rfl) rfl <| OK rfl rfl rfl (by rw [hg47]; rfl) rfl <| OK rfl rfl rfl (by rw [hg47]; rfl) rfl <| OKU rfl rfl rfl rfl <| OKU rfl rfl rfl rfl <| OKU rfl rfl rfl rfl <| OK rfl rfl rfl (by rw [hg47]; rfl) rfl <| O (r_pickF (v := Value.bool false) rfl hg47 rfl) rfl <| OW_nil ?_
      obtain rfl := Option.some.inj hM
      exact ⟨rfl, rfl, rfl, rfl, rfl, rfl, hds, hs⟩
    ·clear hs
     rintro E w ⟨hE1, hE2, hE5, hE6, hE7, hE32, hds, hs⟩
     have hM := hKhx19
     obtain ⟨E, rfl⟩ := open6 (E := E) hE1 hE2 hE5 hE6 hE7 hE32
     rcases condS hM with ⟨hc18, hM⟩ | ⟨hc18, hM⟩
     ·refine WP_true rfl hc18 <| WP_region <| O (r_move (v := Value.int .i64 e24) rfl) rfl <| O (r_assign (v := Value.int .i64 e24) rfl) rfl <| OW_nil ?_
      obtain rfl := Option.some.inj hM
      exact ⟨rfl, rfl, rfl, rfl, hds, hs⟩
     ·refine WP_false rfl hc18 <| WP_skip ?_
      obtain rfl := Option.some.inj hM
      exact ⟨rfl, rfl, rfl, rfl, hds, hs⟩
   ·clear hs
    rintro E w ⟨hE1, hE2, hE5, hE6, hds, hs⟩
    have hM := hKhx18
    obtain ⟨E, rfl⟩ := open4 (E := E) hE1 hE2 hE5 hE6
    refine WP_region <| O (r_move (v := Value.int .i64 i5) rfl) rfl ?_
    obtain ⟨t6, ht6, hM⟩ := bindS hM
    refine O (r_addM rfl rfl ht6) rfl <| O (r_assign (v := Value.int .i64 t6) rfl) rfl <| OW_nil ?_
    obtain rfl := Option.some.inj hM
    exact ⟨rfl, rfl, rfl, rfl, hds, hs⟩
  ·refine WP_false rfl hc16 <| WP_exit ?_
   obtain rfl := Option.some.inj hM
   refine fun hr => ?_
   have hM := congrArg some hr
   obtain rfl := Option.some.inj hM
   exact ⟨rfl, hds, (hs.sub (.cons _ .slnil))⟩
 ·clear hs
  rintro E w ⟨hE5, hds, hs⟩
  have hM := hKhx10
  obtain ⟨E, rfl⟩ := open1 (E := E) hE5
  refine WP_seq <| WP_region <| O (r_move (v := Value.int .i64 best7) rfl) rfl <| O (r_assign (v := Value.int .i64 best7) rfl) rfl <| OW_nil <| WP_ret ?_
  obtain rfl := Option.some.inj hM
  refine FL_nil hds ?_
  exact ⟨_, res1 Try.results22 (rv_tmp (v := Value.int .i64 best7) rfl), g0, ⟨[Value.int .i64 best7], rfl, rfl⟩, hs.ext⟩


end Go.Proofs.Ytajmekjcnbmaaaa
