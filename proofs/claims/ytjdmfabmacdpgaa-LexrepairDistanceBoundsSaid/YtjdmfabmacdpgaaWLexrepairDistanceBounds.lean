/- The walk of the law. Printed by a program of my own. -/
import Derived.Test.YtjdmfabmacdpgaaTyp
import Derived.Test.YtjdmfabmacdpgaaWalk4
import Derived.Test.YtjdmfabmacdpgaaWalk5
set_option linter.unusedVariables false
set_option linter.unusedSimpArgs false
namespace Go.Proofs.Ytjdmfabmacdpgaa
open Go.Lx Go.RowKit
set_option maxRecDepth 100000 in
theorem law14_LexrepairDistanceBounds_ok {a1 : Str} {b1 : Str} {r : Bool} (hM : M.law14_LexrepairDistanceBounds a1 b1 = some r) {g0 : Hp} {w0 : World} (hi : Imm g0 w0) :
    CallsV Try.prog 4 #[encS a1, encS b1] w0 (fun v w' => ∃ g', (VRd tBool false g' v r) ∧ Ext g0 w0 g' w') := by
  unfold M.law14_LexrepairDistanceBounds at hM
  have hs := Sep.start hi
  refine calls_of_WP (args := [encS a1, encS b1]) Try.func4 rfl Try.ntmps4 rfl ?_
  have hds : (argEnv [encS a1, encS b1]).ds = [] := rfl
  refine WP_seq ?_
  refine WP_region ?_
  refine O (r_assign (v := Value.bool false) rfl) rfl ?_
  refine OW_nil ?_
  refine WP_seq ?_
  obtain ⟨xv1, hx1, hKhx1⟩ := bindS hM
  refine WP_cut (fun E w => E 0 = encS a1 ∧ E 1 = encS b1 ∧ E 13 = Value.bool xv1 ∧ E.ds = [] ∧ Go.Lx.Sep g0 w0 g0 w []) ?_ ?_
  · have hM := hx1
    have hag0 := Hle.refl g0
    refine WP_region ?_
    refine O (r_move (v := encS a1) rfl) rfl ?_
    refine O (r_lenStr Try.underlying9 rfl) rfl ?_
    refine O (r_gtr rfl rfl) rfl ?_
    refine O (r_move (v := Value.bool (decide (30 < (a1.length : Int)))) rfl) rfl ?_
    rcases condS hM with ⟨hg2, hM⟩ | ⟨hg2, hM⟩
    · refine OK rfl rfl rfl (by rw [hg2]; rfl) rfl ?_
      refine OK rfl rfl rfl (by rw [hg2]; rfl) rfl ?_
      refine OK rfl rfl rfl (by rw [hg2]; rfl) rfl ?_
      refine O (r_pickT (v := Value.bool true) rfl hg2 rfl) rfl ?_
      refine OW_nil ?_
      obtain rfl := Option.some.inj hM
      exact ⟨rfl, rfl, rfl, hds, hs⟩
    · refine OG rfl rfl rfl (by rw [hg2]; rfl) (r_move (v := encS b1) rfl) rfl ?_
      refine OG rfl rfl rfl (by rw [hg2]; rfl) (r_lenStr Try.underlying9 rfl) rfl ?_
      refine OG rfl rfl rfl (by rw [hg2]; rfl) (r_gtr rfl rfl) rfl ?_
      refine O (r_pickF (v := Value.bool (decide (30 < (b1.length : Int)))) rfl hg2 rfl) rfl ?_
      refine OW_nil ?_
      obtain rfl := Option.some.inj hM
      exact ⟨rfl, rfl, rfl, hds, hs⟩
  · clear hs
    rintro E w ⟨hE0, hE1, hE13, hds, hs⟩
    have hM := hKhx1
    obtain ⟨E, rfl⟩ := open1 (E := E) hE0
    obtain ⟨E, rfl⟩ := open1 (E := E) hE1
    obtain ⟨E, rfl⟩ := open1 (E := E) hE13
    rcases condS hM with ⟨hc1, hM⟩ | ⟨hc1, hM⟩
    · refine WP_true rfl hc1 ?_
      refine WP_seq ?_
      refine WP_region ?_
      obtain ⟨rv1, hrv1, hM⟩ := bindS hM
      refine C [] cf6 rfl (law14_awake_ok hrv1 hs.imm) rfl ?_
      rintro v1 wv1 ⟨gg1, hvv1, hegg1⟩
      have hlegg1 := hegg1.le hs.imm
      replace hs := hs.call hegg1
      obtain ⟨cs1, rfl, hcs1⟩ := hvv1
      have hcs1 : cs1 = _ := hcs1; subst hcs1
      refine O (r_assign (v := Value.bool rv1) rfl) rfl ?_
      refine OW_nil ?_
      refine WP_ret ?_
      obtain rfl := Option.some.inj hM
      refine FL_nil hds ?_
      exact ⟨_, res1 Try.results4 (rv_tmp (v := Value.bool rv1) rfl), gg1, ⟨[Value.bool rv1], rfl, rfl⟩, hs.ext⟩
    · refine WP_false rfl hc1 ?_
      refine WP_skip ?_
      refine WP_seq ?_
      refine WP_region ?_
      refine O (r_move (v := encS a1) rfl) rfl ?_
      refine O (r_move (v := encS b1) rfl) rfl ?_
      obtain ⟨d1, hd1, hM⟩ := bindS hM
      refine C [encS a1, encS b1] cf7 rfl (lexrepair_Distance_ok hd1 hs.imm) rfl ?_
      rintro v2 wv2 ⟨gg2, hvv2, hegg2⟩
      have hlegg2 := hegg2.le hs.imm
      replace hs := hs.call hegg2
      obtain ⟨cs2, rfl, hcs2⟩ := hvv2
      have hcs2 : cs2 = _ := hcs2; subst hcs2
      refine O (r_assign (v := Value.int .i64 d1) rfl) rfl ?_
      refine OW_nil ?_
      obtain ⟨xv2, hx2, hKhx2⟩ := bindS hM
      refine WP_cut (fun E w => ∃ (gg5 : Hp), E 4 = Value.bool xv2 ∧ E.ds = [] ∧ Hle gg2 gg5 ∧ Go.Lx.Sep g0 w0 gg5 w []) ?_ ?_
      · have hM := hx2
        have hagg2 := Hle.refl gg2
        refine WP_region ?_
        obtain ⟨rv4, hrv4, hM⟩ := bindS hM
        refine C [] cf6 rfl (law14_awake_ok hrv4 hs.imm) rfl ?_
        rintro v5 wv5 ⟨gg6, hvv5, hegg6⟩
        have hlegg6 := hegg6.le hs.imm
        replace hs := hs.call hegg6
        replace hagg2 := hagg2.trans hlegg6
        obtain ⟨cs5, rfl, hcs5⟩ := hvv5
        have hcs5 : cs5 = _ := hcs5; subst hcs5
        refine O (r_move (v := Value.bool rv4) rfl) rfl ?_
        rcases condS hM with ⟨hg8, hM⟩ | ⟨hg8, hM⟩
        · refine OG rfl rfl rfl (by rw [hg8]; rfl) (r_move (v := Value.int .i64 d1) rfl) rfl ?_
          refine OG rfl rfl rfl (by rw [hg8]; rfl) (r_move (v := encS b1) rfl) rfl ?_
          refine OG rfl rfl rfl (by rw [hg8]; rfl) (r_move (v := encS a1) rfl) rfl ?_
          obtain ⟨rv5, hrv5, hM⟩ := bindS hM
          refine CG rfl rfl rfl (by rw [hg8]; rfl) [encS b1, encS a1] cf7 rfl (lexrepair_Distance_ok hrv5 hs.imm) rfl ?_
          rintro v6 wv6 ⟨gg7, hvv6, hegg7⟩
          have hlegg7 := hegg7.le hs.imm
          replace hs := hs.call hegg7
          replace hagg2 := hagg2.trans hlegg7
          obtain ⟨cs6, rfl, hcs6⟩ := hvv6
          have hcs6 : cs6 = _ := hcs6; subst hcs6
          refine OG rfl rfl rfl (by rw [hg8]; rfl) (r_eql rfl rfl) rfl ?_
          refine O (r_pickT (v := Value.bool (d1 == rv5)) rfl hg8 rfl) rfl ?_
          refine O (r_move (v := Value.bool (d1 == rv5)) rfl) rfl ?_
          rcases condS hM with ⟨hg9, hM⟩ | ⟨hg9, hM⟩
          · refine OG rfl rfl rfl (by rw [hg9]; rfl) (r_move (v := Value.int .i64 d1) rfl) rfl ?_
            refine OG rfl rfl rfl (by rw [hg9]; rfl) (r_eql rfl rfl) rfl ?_
            refine OG rfl rfl rfl (by rw [hg9]; rfl) (r_move (v := encS a1) rfl) rfl ?_
            refine OG rfl rfl rfl (by rw [hg9]; rfl) (r_move (v := encS b1) rfl) rfl ?_
            refine OG rfl rfl rfl (by rw [hg9]; rfl) (r_eqlS rfl rfl) rfl ?_
            refine OG rfl rfl rfl (by rw [hg9]; rfl) (r_eqlB Try.underlying4 rfl rfl) rfl ?_
            refine O (r_pickT (v := Value.bool ((d1 == 0) == (a1 == b1))) rfl hg9 rfl) rfl ?_
            refine O (r_move (v := Value.bool ((d1 == 0) == (a1 == b1))) rfl) rfl ?_
            rcases condS hM with ⟨hg10, hM⟩ | ⟨hg10, hM⟩
            · refine OG rfl rfl rfl (by rw [hg10]; rfl) (r_move (v := Value.int .i64 d1) rfl) rfl ?_
              refine OG rfl rfl rfl (by rw [hg10]; rfl) (r_move (v := encS a1) rfl) rfl ?_
              refine OG rfl rfl rfl (by rw [hg10]; rfl) (r_lenStr Try.underlying9 rfl) rfl ?_
              refine OG rfl rfl rfl (by rw [hg10]; rfl) (r_move (v := encS b1) rfl) rfl ?_
              refine OG rfl rfl rfl (by rw [hg10]; rfl) (r_lenStr Try.underlying9 rfl) rfl ?_
              obtain ⟨t3, ht3, hM⟩ := bindS hM
              refine OG rfl rfl rfl (by rw [hg10]; rfl) (r_subM rfl rfl ht3) rfl ?_
              refine OG rfl rfl rfl (by rw [hg10]; rfl) (r_geq rfl rfl) rfl ?_
              refine O (r_pickT (v := Value.bool (decide (t3 ≤ d1))) rfl hg10 rfl) rfl ?_
              refine O (r_move (v := Value.bool (decide (t3 ≤ d1))) rfl) rfl ?_
              rcases condS hM with ⟨hg11, hM⟩ | ⟨hg11, hM⟩
              · refine OG rfl rfl rfl (by rw [hg11]; rfl) (r_move (v := Value.int .i64 d1) rfl) rfl ?_
                refine OG rfl rfl rfl (by rw [hg11]; rfl) (r_move (v := encS b1) rfl) rfl ?_
                refine OG rfl rfl rfl (by rw [hg11]; rfl) (r_lenStr Try.underlying9 rfl) rfl ?_
                refine OG rfl rfl rfl (by rw [hg11]; rfl) (r_move (v := encS a1) rfl) rfl ?_
                refine OG rfl rfl rfl (by rw [hg11]; rfl) (r_lenStr Try.underlying9 rfl) rfl ?_
                obtain ⟨t4, ht4, hM⟩ := bindS hM
                refine OG rfl rfl rfl (by rw [hg11]; rfl) (r_subM rfl rfl ht4) rfl ?_
                refine OG rfl rfl rfl (by rw [hg11]; rfl) (r_geq rfl rfl) rfl ?_
                refine O (r_pickT (v := Value.bool (decide (t4 ≤ d1))) rfl hg11 rfl) rfl ?_
                refine O (r_move (v := Value.bool (decide (t4 ≤ d1))) rfl) rfl ?_
                rcases condS hM with ⟨hg12, hM⟩ | ⟨hg12, hM⟩
                · refine OG rfl rfl rfl (by rw [hg12]; rfl) (r_move (v := Value.int .i64 d1) rfl) rfl ?_
                  refine OG rfl rfl rfl (by rw [hg12]; rfl) (r_move (v := encS a1) rfl) rfl ?_
                  refine OG rfl rfl rfl (by rw [hg12]; rfl) (r_lenStr Try.underlying9 rfl) rfl ?_
                  refine OG rfl rfl rfl (by rw [hg12]; rfl) (r_move (v := encS b1) rfl) rfl ?_
                  refine OG rfl rfl rfl (by rw [hg12]; rfl) (r_lenStr Try.underlying9 rfl) rfl ?_
                  refine OG rfl rfl rfl (by rw [hg12]; rfl) (r_max2 rfl rfl) rfl ?_
                  refine OG rfl rfl rfl (by rw [hg12]; rfl) (r_leq rfl rfl) rfl ?_
                  refine O (r_pickT (v := Value.bool (decide (d1 ≤ (max2 (a1.length : Int) (b1.length : Int))))) rfl hg12 rfl) rfl ?_
                  refine O (r_assign (v := Value.bool (decide (d1 ≤ (max2 (a1.length : Int) (b1.length : Int))))) rfl) rfl ?_
                  refine OW_nil ?_
                  obtain rfl := Option.some.inj hM
                  exact ⟨gg7, rfl, hds, hagg2, hs⟩
                · refine OK rfl rfl rfl (by rw [hg12]; rfl) rfl ?_
                  refine OK rfl rfl rfl (by rw [hg12]; rfl) rfl ?_
                  refine OK rfl rfl rfl (by rw [hg12]; rfl) rfl ?_
                  refine OK rfl rfl rfl (by rw [hg12]; rfl) rfl ?_
                  refine OK rfl rfl rfl (by rw [hg12]; rfl) rfl ?_
                  refine OK rfl rfl rfl (by rw [hg12]; rfl) rfl ?_
                  refine OK rfl rfl rfl (by rw [hg12]; rfl) rfl ?_
                  refine O (r_pickF (v := Value.bool false) rfl hg12 rfl) rfl ?_
                  refine O (r_assign (v := Value.bool false) rfl) rfl ?_
                  refine OW_nil ?_
                  obtain rfl := Option.some.inj hM
                  exact ⟨gg7, rfl, hds, hagg2, hs⟩
              · refine OK rfl rfl rfl (by rw [hg11]; rfl) rfl ?_
                refine OK rfl rfl rfl (by rw [hg11]; rfl) rfl ?_
                refine OK rfl rfl rfl (by rw [hg11]; rfl) rfl ?_
                refine OK rfl rfl rfl (by rw [hg11]; rfl) rfl ?_
                refine OK rfl rfl rfl (by rw [hg11]; rfl) rfl ?_
                refine OK rfl rfl rfl (by rw [hg11]; rfl) rfl ?_
                refine OK rfl rfl rfl (by rw [hg11]; rfl) rfl ?_
                refine O (r_pickF (v := Value.bool false) rfl hg11 rfl) rfl ?_
                refine O (r_move (v := Value.bool false) rfl) rfl ?_
                refine OK rfl rfl rfl rfl rfl ?_
                refine OK rfl rfl rfl rfl rfl ?_
                refine OK rfl rfl rfl rfl rfl ?_
                refine OK rfl rfl rfl rfl rfl ?_
                refine OK rfl rfl rfl rfl rfl ?_
                refine OK rfl rfl rfl rfl rfl ?_
                refine OK rfl rfl rfl rfl rfl ?_
                refine O (r_pickF (v := Value.bool false) rfl rfl rfl) rfl ?_
                refine O (r_assign (v := Value.bool false) rfl) rfl ?_
                refine OW_nil ?_
                obtain rfl := Option.some.inj hM
                exact ⟨gg7, rfl, hds, hagg2, hs⟩
            · refine OK rfl rfl rfl (by rw [hg10]; rfl) rfl ?_
              refine OK rfl rfl rfl (by rw [hg10]; rfl) rfl ?_
              refine OK rfl rfl rfl (by rw [hg10]; rfl) rfl ?_
              refine OK rfl rfl rfl (by rw [hg10]; rfl) rfl ?_
              refine OK rfl rfl rfl (by rw [hg10]; rfl) rfl ?_
              refine OK rfl rfl rfl (by rw [hg10]; rfl) rfl ?_
              refine OK rfl rfl rfl (by rw [hg10]; rfl) rfl ?_
              refine O (r_pickF (v := Value.bool false) rfl hg10 rfl) rfl ?_
              refine O (r_move (v := Value.bool false) rfl) rfl ?_
              refine OK rfl rfl rfl rfl rfl ?_
              refine OK rfl rfl rfl rfl rfl ?_
              refine OK rfl rfl rfl rfl rfl ?_
              refine OK rfl rfl rfl rfl rfl ?_
              refine OK rfl rfl rfl rfl rfl ?_
              refine OK rfl rfl rfl rfl rfl ?_
              refine OK rfl rfl rfl rfl rfl ?_
              refine O (r_pickF (v := Value.bool false) rfl rfl rfl) rfl ?_
              refine O (r_move (v := Value.bool false) rfl) rfl ?_
              refine OK rfl rfl rfl rfl rfl ?_
              refine OK rfl rfl rfl rfl rfl ?_
              refine OK rfl rfl rfl rfl rfl ?_
              refine OK rfl rfl rfl rfl rfl ?_
              refine OK rfl rfl rfl rfl rfl ?_
              refine OK rfl rfl rfl rfl rfl ?_
              refine OK rfl rfl rfl rfl rfl ?_
              refine O (r_pickF (v := Value.bool false) rfl rfl rfl) rfl ?_
              refine O (r_assign (v := Value.bool false) rfl) rfl ?_
              refine OW_nil ?_
              obtain rfl := Option.some.inj hM
              exact ⟨gg7, rfl, hds, hagg2, hs⟩
          · refine OK rfl rfl rfl (by rw [hg9]; rfl) rfl ?_
            refine OK rfl rfl rfl (by rw [hg9]; rfl) rfl ?_
            refine OK rfl rfl rfl (by rw [hg9]; rfl) rfl ?_
            refine OK rfl rfl rfl (by rw [hg9]; rfl) rfl ?_
            refine OK rfl rfl rfl (by rw [hg9]; rfl) rfl ?_
            refine OK rfl rfl rfl (by rw [hg9]; rfl) rfl ?_
            refine O (r_pickF (v := Value.bool false) rfl hg9 rfl) rfl ?_
            refine O (r_move (v := Value.bool false) rfl) rfl ?_
            refine OK rfl rfl rfl rfl rfl ?_
            refine OK rfl rfl rfl rfl rfl ?_
            refine OK rfl rfl rfl rfl rfl ?_
            refine OK rfl rfl rfl rfl rfl ?_
            refine OK rfl rfl rfl rfl rfl ?_
            refine OK rfl rfl rfl rfl rfl ?_
            refine OK rfl rfl rfl rfl rfl ?_
            refine O (r_pickF (v := Value.bool false) rfl rfl rfl) rfl ?_
            refine O (r_move (v := Value.bool false) rfl) rfl ?_
            refine OK rfl rfl rfl rfl rfl ?_
            refine OK rfl rfl rfl rfl rfl ?_
            refine OK rfl rfl rfl rfl rfl ?_
            refine OK rfl rfl rfl rfl rfl ?_
            refine OK rfl rfl rfl rfl rfl ?_
            refine OK rfl rfl rfl rfl rfl ?_
            refine OK rfl rfl rfl rfl rfl ?_
            refine O (r_pickF (v := Value.bool false) rfl rfl rfl) rfl ?_
            refine O (r_move (v := Value.bool false) rfl) rfl ?_
            refine OK rfl rfl rfl rfl rfl ?_
            refine OK rfl rfl rfl rfl rfl ?_
            refine OK rfl rfl rfl rfl rfl ?_
            refine OK rfl rfl rfl rfl rfl ?_
            refine OK rfl rfl rfl rfl rfl ?_
            refine OK rfl rfl rfl rfl rfl ?_
            refine OK rfl rfl rfl rfl rfl ?_
            refine O (r_pickF (v := Value.bool false) rfl rfl rfl) rfl ?_
            refine O (r_assign (v := Value.bool false) rfl) rfl ?_
            refine OW_nil ?_
            obtain rfl := Option.some.inj hM
            exact ⟨gg7, rfl, hds, hagg2, hs⟩
        · refine OK rfl rfl rfl (by rw [hg8]; rfl) rfl ?_
          refine OK rfl rfl rfl (by rw [hg8]; rfl) rfl ?_
          refine OK rfl rfl rfl (by rw [hg8]; rfl) rfl ?_
          refine OK rfl rfl rfl (by rw [hg8]; rfl) rfl ?_
          refine OK rfl rfl rfl (by rw [hg8]; rfl) rfl ?_
          refine O (r_pickF (v := Value.bool false) rfl hg8 rfl) rfl ?_
          refine O (r_move (v := Value.bool false) rfl) rfl ?_
          refine OK rfl rfl rfl rfl rfl ?_
          refine OK rfl rfl rfl rfl rfl ?_
          refine OK rfl rfl rfl rfl rfl ?_
          refine OK rfl rfl rfl rfl rfl ?_
          refine OK rfl rfl rfl rfl rfl ?_
          refine OK rfl rfl rfl rfl rfl ?_
          refine O (r_pickF (v := Value.bool false) rfl rfl rfl) rfl ?_
          refine O (r_move (v := Value.bool false) rfl) rfl ?_
          refine OK rfl rfl rfl rfl rfl ?_
          refine OK rfl rfl rfl rfl rfl ?_
          refine OK rfl rfl rfl rfl rfl ?_
          refine OK rfl rfl rfl rfl rfl ?_
          refine OK rfl rfl rfl rfl rfl ?_
          refine OK rfl rfl rfl rfl rfl ?_
          refine OK rfl rfl rfl rfl rfl ?_
          refine O (r_pickF (v := Value.bool false) rfl rfl rfl) rfl ?_
          refine O (r_move (v := Value.bool false) rfl) rfl ?_
          refine OK rfl rfl rfl rfl rfl ?_
          refine OK rfl rfl rfl rfl rfl ?_
          refine OK rfl rfl rfl rfl rfl ?_
          refine OK rfl rfl rfl rfl rfl ?_
          refine OK rfl rfl rfl rfl rfl ?_
          refine OK rfl rfl rfl rfl rfl ?_
          refine OK rfl rfl rfl rfl rfl ?_
          refine O (r_pickF (v := Value.bool false) rfl rfl rfl) rfl ?_
          refine O (r_move (v := Value.bool false) rfl) rfl ?_
          refine OK rfl rfl rfl rfl rfl ?_
          refine OK rfl rfl rfl rfl rfl ?_
          refine OK rfl rfl rfl rfl rfl ?_
          refine OK rfl rfl rfl rfl rfl ?_
          refine OK rfl rfl rfl rfl rfl ?_
          refine OK rfl rfl rfl rfl rfl ?_
          refine OK rfl rfl rfl rfl rfl ?_
          refine O (r_pickF (v := Value.bool false) rfl rfl rfl) rfl ?_
          refine O (r_assign (v := Value.bool false) rfl) rfl ?_
          refine OW_nil ?_
          obtain rfl := Option.some.inj hM
          exact ⟨gg6, rfl, hds, hagg2, hs⟩
      · clear hs
        rintro E w ⟨gg5, hE4, hds, hlegg5, hs⟩
        have hM := hKhx2
        obtain ⟨E, rfl⟩ := open1 (E := E) hE4
        refine WP_ret ?_
        obtain rfl := Option.some.inj hM
        refine FL_nil hds ?_
        exact ⟨_, res1 Try.results4 (rv_tmp (v := Value.bool xv2) rfl), gg5, ⟨[Value.bool xv2], rfl, rfl⟩, hs.ext⟩

end Go.Proofs.Ytjdmfabmacdpgaa
