/- The walks: what each function does is what its model says. Printed by a program of my own. -/
import Derived.Test.YtajmekjcnbmaaaaTyp
import Derived.Test.YtajmekjcnbmaaaaWalk5
set_option linter.unusedVariables false
set_option linter.unusedSimpArgs false
namespace Go.Proofs.Ytajmekjcnbmaaaa
open Go.Lx Go.RowKit
set_option maxRecDepth 100000 in
theorem law09_light_ok {nv1 : T_NFA} {r : Bool} (hM : M.law09_light nv1 = some r) {g0 : Hp} {w0 : World} (hi : Imm g0 w0) {cs1 : List Value} (hcs1 : tT_NFA.rel g0 cs1 nv1) :
    CallsV Try.prog 14 #[Value.agg cs1.toArray] w0 (fun v w' => ∃ g', (VRd tBool false g' v r) ∧ Ext g0 w0 g' w') := by
 unfold M.law09_light at hM
 obtain ⟨cs2, cs3, cs4, cs5, rfl, hcs2, hcs3, hcs4, hcs5⟩ := hcs1
 have hcs2 : cs2 = _ := hcs2; subst hcs2
 have hcs3 : cs3 = _ := hcs3; subst hcs3
 obtain ⟨v1, rfl, hRv1⟩ := hcs4
 obtain ⟨v2, rfl, hRv2⟩ := hcs5
 have hs := Sep.start hi
 refine calls_of_WP (args := [Value.agg (List.toArray (α := Value) [Value.int .i64 nv1.States, Value.int .i64 nv1.Start, v1, v2])]) Try.func14 rfl Try.ntmps14 rfl ?_
 have hds : (argEnv [Value.agg (List.toArray (α := Value) [Value.int .i64 nv1.States, Value.int .i64 nv1.Start, v1, v2])]).ds = [] := rfl
 refine WP_seq <| WP_region <| OW_box (v := Value.agg (List.toArray (α := Value) [Value.int .i64 nv1.States, Value.int .i64 nv1.Start, v1, v2])) rfl hs (zs := [Value.int .i64 nv1.States, Value.int .i64 nv1.Start, v1, v2]) rfl rfl ?_
 intro b1 wv1 hs
 refine O (r_assign (v := Value.bool false) rfl) rfl <| OW_nil ?_
 obtain ⟨rv2, hx1, hKhx1⟩ := bindS hM
 refine WP_cut (fun E w => ∃ (gg2 : Hp), E 2 = Value.bool rv2 ∧ E.ds = [] ∧ Hle g0 gg2 ∧ Go.Lx.Sep g0 w0 gg2 w []) ?_ ?_
 ·have hM := hx1
  have hag0 := Hle.refl g0
  refine WP_region <| O (r_fieldAddr Try.underlying25 ti22 rfl rfl (by decide) rfl rfl) rfl <| O (r_load (v := v1) ti22 rfl (hs.cell (i := 0) (o := 2) rfl rfl)) rfl ?_
  obtain ⟨a2, ca2, hva2⟩ := hRv1.shape
  refine O (r_lenSl (v := v1) Try.underlying22 rfl hva2) rfl <| O (r_leq rfl rfl) rfl <| O (r_move (v := Value.bool (decide ((nv1.Arcs.length : Int) ≤ 60))) rfl) rfl ?_
  rcases condS hM with ⟨hg3, hM⟩ | ⟨hg3, hM⟩
  ·refine OG rfl rfl rfl (by rw [hg3]; rfl) (r_fieldAddr Try.underlying25 ti3 rfl rfl (by decide) rfl rfl) rfl <| OG rfl rfl rfl (by rw [hg3]; rfl) (r_load (v := Value.int .i64 nv1.States) ti3 rfl (hs.cell (i := 0) (o := 0) rfl rfl)) rfl <| OG rfl rfl rfl (by rw [hg3]; rfl) (r_leq rfl rfl) rfl <| O (r_pickT (v := Value.bool (decide (nv1.States ≤ 40))) rfl hg3 rfl) rfl <| O (r_move (v := Value.bool (decide (nv1.States ≤ 40))) rfl) rfl ?_
   rcases condS hM with ⟨hg4, hM⟩ | ⟨hg4, hM⟩
   ·refine OG rfl rfl rfl (by rw [hg4]; rfl) (r_loadN (cs := [Value.int .i64 nv1.States, Value.int .i64 nv1.Start, v1, v2]) ti25 rfl rfl (hs.cells (i := 0) rfl)) rfl ?_
    obtain ⟨rv3, hrv3, hM⟩ := bindS hM
    refine CG rfl rfl rfl (by rw [hg4]; rfl) [Value.agg (List.toArray (α := Value) [Value.int .i64 nv1.States, Value.int .i64 nv1.Start, v1, v2])] cf13 rfl (ref09_Valid_ok hrv3 hs.imm (⟨[Value.int .i64 nv1.States], [Value.int .i64 nv1.Start], [v1], [v2], rfl, rfl, rfl, ⟨_, rfl, hRv1⟩, ⟨_, rfl, hRv2⟩⟩)) rfl ?_
    rintro v4 wv3 ⟨gg3, hvv4, hegg3⟩
    have hlegg3 := hegg3.le hs.imm
    replace hs := hs.call hegg3
    replace hag0 := hag0.trans hlegg3
    obtain ⟨cs7, rfl, hcs7⟩ := hvv4
    have hcs7 : cs7 = _ := hcs7; subst hcs7
    refine O (r_pickT (v := Value.bool rv3) rfl hg4 rfl) rfl <| O (r_assign (v := Value.bool rv3) rfl) rfl <| OW_nil ?_
    obtain rfl := Option.some.inj hM
    exact ⟨gg3, rfl, hds, hag0, (hs.sub (.cons _ .slnil))⟩
   ·refine OK rfl rfl rfl (by rw [hg4]; rfl) rfl <| OK rfl rfl rfl (by rw [hg4]; rfl) rfl <| O (r_pickF (v := Value.bool false) rfl hg4 rfl) rfl <| O (r_assign (v := Value.bool false) rfl) rfl <| OW_nil ?_
    obtain rfl := Option.some.inj hM
    exact ⟨g0, rfl, hds, (Hle.refl _), (hs.sub (.cons _ .slnil))⟩
  ·refine OK rfl rfl rfl (by rw [hg3]; rfl) rfl <| OK rfl rfl rfl (by rw [hg3]; rfl) rfl <| OK rfl rfl rfl (by rw [hg3]; rfl) rfl <| O (r_pickF (v := Value.bool false) rfl hg3 rfl) rfl <| O (r_move (v := Value.bool false) rfl) rfl <| OK rfl rfl rfl rfl rfl <| OK rfl rfl rfl rfl rfl <| O (r_pickF (v := Value.bool false) rfl rfl rfl) rfl <| O (r_assign (v := Value.bool false) rfl) rfl <| OW_nil ?_
   obtain rfl := Option.some.inj hM
   exact ⟨g0, rfl, hds, (Hle.refl _), (hs.sub (.cons _ .slnil))⟩
 ·clear hs
  rintro E w ⟨gg2, hE2, hds, hlegg2, hs⟩
  have hM := hKhx1
  obtain ⟨E, rfl⟩ := open1 (E := E) hE2
  refine WP_ret ?_
  obtain rfl := Option.some.inj hM
  refine FL_nil hds ?_
  exact ⟨_, res1 Try.results14 (rv_tmp (v := Value.bool rv2) rfl), gg2, ⟨[Value.bool rv2], rfl, rfl⟩, hs.ext⟩


end Go.Proofs.Ytajmekjcnbmaaaa
