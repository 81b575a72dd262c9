/- The walk of the law. Printed by a program of my own. -/
import Derived.Test.YtjdmfabmacdpgaaTyp
import Derived.Test.YtjdmfabmacdpgaaWalk4
import Derived.Test.YtjdmfabmacdpgaaWalk5
import Derived.Test.YtjdmfabmacdpgaaWalk6
set_option linter.unusedVariables false
set_option linter.unusedSimpArgs false
namespace Go.Proofs.Ytjdmfabmacdpgaa
open Go.Lx Go.RowKit
set_option maxRecDepth 100000 in
theorem law14_LexrepairDistance_ok {a1 : Str} {b1 : Str} {r : Bool} (hM : M.law14_LexrepairDistance a1 b1 = some r) {g0 : Hp} {w0 : World} (hi : Imm g0 w0) :
    CallsV Try.prog 3 #[encS a1, encS b1] w0 (fun v w' => ∃ g', (VRd tBool false g' v r) ∧ Ext g0 w0 g' w') := by
 unfold M.law14_LexrepairDistance at hM
 have hs := Sep.start hi
 refine calls_of_WP (args := [encS a1, encS b1]) Try.func3 rfl Try.ntmps3 rfl ?_
 have hds : (argEnv [encS a1, encS b1]).ds = [] := rfl
 refine WP_seq <| WP_region <| O (r_assign (v := Value.bool false) rfl) rfl <| OW_nil <| WP_seq ?_
 obtain ⟨xv1, hx1, hKhx1⟩ := bindS hM
 refine WP_cut (fun E w => E 0 = encS a1 ∧ E 1 = encS b1 ∧ E 12 = Value.bool xv1 ∧ E.ds = [] ∧ Go.Lx.Sep g0 w0 g0 w []) ?_ ?_
 ·have hM := hx1
  have hag0 := Hle.refl g0
  refine WP_region <| O (r_move (v := encS a1) rfl) rfl <| O (r_lenStr Try.underlying9 rfl) rfl <| O (r_gtr rfl rfl) rfl <| O (r_move (v := Value.bool (decide (30 < (a1.length : Int)))) rfl) rfl ?_
  rcases condS hM with ⟨hg2, hM⟩ | ⟨hg2, hM⟩
  ·refine OK rfl rfl rfl (by rw [hg2]; rfl) rfl <| OK rfl rfl rfl (by rw [hg2]; rfl) rfl <| OK rfl rfl rfl (by rw [hg2]; rfl) rfl <| O (r_pickT (v := Value.bool true) rfl hg2 rfl) rfl <| OW_nil ?_
   obtain rfl := Option.some.inj hM
   exact ⟨rfl, rfl, rfl, hds, hs⟩
  ·refine OG rfl rfl rfl (by rw [hg2]; rfl) (r_move (v := encS b1) rfl) rfl <| OG rfl rfl rfl (by rw [hg2]; rfl) (r_lenStr Try.underlying9 rfl) rfl <| OG rfl rfl rfl (by rw [hg2]; rfl) (r_gtr rfl rfl) rfl <| O (r_pickF (v := Value.bool (decide (30 < (b1.length : Int)))) rfl hg2 rfl) rfl <| OW_nil ?_
   obtain rfl := Option.some.inj hM
   exact ⟨rfl, rfl, rfl, hds, hs⟩
 ·clear hs
  rintro E w ⟨hE0, hE1, hE12, hds, hs⟩
  have hM := hKhx1
  obtain ⟨E, rfl⟩ := open3 (E := E) hE0 hE1 hE12
  rcases condS hM with ⟨hc1, hM⟩ | ⟨hc1, hM⟩
  ·refine WP_true rfl hc1 <| WP_seq <| WP_region ?_
   obtain ⟨rv1, hrv1, hM⟩ := bindS hM
   refine C [] cf6 rfl (law14_awake_ok hrv1 hs.imm) rfl ?_
   rintro v1 wv1 ⟨gg1, hvv1, hegg1⟩
   have hlegg1 := hegg1.le hs.imm
   replace hs := hs.call hegg1
   obtain ⟨cs1, rfl, hcs1⟩ := hvv1
   have hcs1 : cs1 = _ := hcs1; subst hcs1
   refine O (r_assign (v := Value.bool rv1) rfl) rfl <| OW_nil <| WP_ret ?_
   obtain rfl := Option.some.inj hM
   refine FL_nil hds ?_
   exact ⟨_, res1 Try.results3 (rv_tmp (v := Value.bool rv1) rfl), gg1, ⟨[Value.bool rv1], rfl, rfl⟩, hs.ext⟩
  ·refine WP_false rfl hc1 <| WP_skip ?_
   obtain ⟨xv2, hx2, hKhx2⟩ := bindS hM
   refine WP_cut (fun E w => ∃ (gg5 : Hp), E 4 = Value.bool xv2 ∧ E.ds = [] ∧ Hle g0 gg5 ∧ Go.Lx.Sep g0 w0 gg5 w []) ?_ ?_
   ·have hM := hx2
    have hag0 := Hle.refl g0
    refine WP_region ?_
    obtain ⟨rv5, hrv5, hM⟩ := bindS hM
    refine C [] cf6 rfl (law14_awake_ok hrv5 hs.imm) rfl ?_
    rintro v5 wv5 ⟨gg6, hvv5, hegg6⟩
    have hlegg6 := hegg6.le hs.imm
    replace hs := hs.call hegg6
    replace hag0 := hag0.trans hlegg6
    obtain ⟨cs5, rfl, hcs5⟩ := hvv5
    have hcs5 : cs5 = _ := hcs5; subst hcs5
    refine O (r_move (v := Value.bool rv5) rfl) rfl ?_
    rcases condS hM with ⟨hg4, hM⟩ | ⟨hg4, hM⟩
    ·refine OG rfl rfl rfl (by rw [hg4]; rfl) (r_move (v := encS a1) rfl) rfl <| OG rfl rfl rfl (by rw [hg4]; rfl) (r_move (v := encS b1) rfl) rfl ?_
     obtain ⟨rv6, hrv6, hM⟩ := bindS hM
     refine CG rfl rfl rfl (by rw [hg4]; rfl) [encS a1, encS b1] cf7 rfl (lexrepair_Distance_ok hrv6 hs.imm) rfl ?_
     rintro v6 wv6 ⟨gg7, hvv6, hegg7⟩
     have hlegg7 := hegg7.le hs.imm
     replace hs := hs.call hegg7
     replace hag0 := hag0.trans hlegg7
     obtain ⟨cs6, rfl, hcs6⟩ := hvv6
     have hcs6 : cs6 = _ := hcs6; subst hcs6
     refine OG rfl rfl rfl (by rw [hg4]; rfl) (r_move (v := encS a1) rfl) rfl <| OG rfl rfl rfl (by rw [hg4]; rfl) (r_move (v := encS b1) rfl) rfl ?_
     obtain ⟨rv7, hrv7, hM⟩ := bindS hM
     refine CG rfl rfl rfl (by rw [hg4]; rfl) [encS a1, encS b1] cf8 rfl (ref14_Distance_ok hrv7 hs.imm) rfl ?_
     rintro v7 wv7 ⟨gg8, hvv7, hegg8⟩
     have hlegg8 := hegg8.le hs.imm
     replace hs := hs.call hegg8
     replace hag0 := hag0.trans hlegg8
     obtain ⟨cs7, rfl, hcs7⟩ := hvv7
     have hcs7 : cs7 = _ := hcs7; subst hcs7
     refine OG rfl rfl rfl (by rw [hg4]; rfl) (r_eql rfl rfl) rfl <| O (r_pickT (v := Value.bool (rv6 == rv7)) rfl hg4 rfl) rfl <| O (r_assign (v := Value.bool (rv6 == rv7)) rfl) rfl <| OW_nil ?_
     obtain rfl := Option.some.inj hM
     exact ⟨gg8, rfl, hds, hag0, hs⟩
    ·refine OK rfl rfl rfl (by rw [hg4]; rfl) rfl <| OK rfl rfl rfl (by rw [hg4]; rfl) rfl <| OK rfl rfl rfl (by rw [hg4]; rfl) rfl <| OK rfl rfl rfl (by rw [hg4]; rfl) rfl <| OK rfl rfl rfl (by rw [hg4]; rfl) rfl <| OK rfl rfl rfl (by rw [hg4]; rfl) rfl <| OK rfl rfl rfl (by rw [hg4]; rfl) rfl <| O (r_pickF (v := Value.bool false) rfl hg4 rfl) rfl <| O (r_assign (v := Value.bool false) rfl) rfl <| OW_nil ?_
     obtain rfl := Option.some.inj hM
     exact ⟨gg6, rfl, hds, hag0, hs⟩
   ·clear hs
    rintro E w ⟨gg5, hE4, hds, hlegg5, hs⟩
    have hM := hKhx2
    obtain ⟨E, rfl⟩ := open1 (E := E) hE4
    refine WP_ret ?_
    obtain rfl := Option.some.inj hM
    refine FL_nil hds ?_
    exact ⟨_, res1 Try.results3 (rv_tmp (v := Value.bool xv2) rfl), gg5, ⟨[Value.bool xv2], rfl, rfl⟩, hs.ext⟩

end Go.Proofs.Ytjdmfabmacdpgaa
