/- The walks: what each function does is what its model says. Printed by a program of my own. -/
import Derived.Test.YtjjinpgjfabemaaWalk1
set_option linter.unusedVariables false
namespace Go.Proofs.Ytjjinpgjfabemaa
open Go.Lx Go.RowKit
set_option maxRecDepth 100000 in
theorem law07_awake_ok {r : Bool} (hM : M.law07_awake = some r) {g0 : Hp} {w0 : World} (hi : Imm g0 w0) :
    CallsV Try.prog 8 #[] w0 (fun v w' => ∃ g', (VRd tBool false g' v r) ∧ Ext g0 w0 g' w') := by
  unfold M.law07_awake at hM
  have hs := Sep.start hi
  refine calls_of_WP (args := []) Try.func8 rfl Try.ntmps8 rfl ?_
  refine WP_seq ?_
  refine WP_region ?_
  refine O (r_assign (v := .bool false) rfl) rfl ?_
  refine OW_nil ?_
  refine WP_seq ?_
  refine WP_region ?_
  obtain ⟨rv1, hrv1, hM⟩ := bindS hM
  refine C [.int .u8 97, .int .u8 99] cf10 rfl (byteset_Range_ok hrv1 hs.imm) rfl ?_
  rintro v1 wv1 ⟨gg1, hvv1, hegg1⟩
  have hlegg1 := hegg1.le hs.imm
  replace hs := hs.call hegg1
  obtain ⟨cs1, rfl, hcs1⟩ := hvv1
  have hcs1 : cs1 = _ := hcs1; subst hcs1
  refine OW_alloc ti25 hs (zs := (Vec.zero 4).1.map (.int .u64)) rfl rfl ?_
  intro b1 wv2 hs
  refine OW_storeAll ti25 hs (i := 0) rfl rfl (v := encV .u64 rv1) rfl (vs := rv1.1.map (.int .u64)) rfl vec_one (by simp [rv1.2]) (by simp [rv1.2, (Vec.zero 4).2]) ?_
  intro wv3 hs
  refine OW_nil ?_
  refine WP_seq ?_
  refine WP_region ?_
  obtain ⟨rv2, hrv2, hM⟩ := bindS hM
  refine C [encS [97, 98]] cf9 rfl (byteset_Of_ok hrv2 hs.imm) rfl ?_
  rintro v2 wv4 ⟨gg2, hvv2, hegg2⟩
  have hlegg2 := hegg2.le hs.imm
  replace hs := hs.call hegg2
  obtain ⟨cs2, rfl, hcs2⟩ := hvv2
  have hcs2 : cs2 = _ := hcs2; subst hcs2
  obtain ⟨rv3, hrv3, hM⟩ := bindS hM
  refine C [encS [98, 99]] cf9 rfl (byteset_Of_ok hrv3 hs.imm) rfl ?_
  rintro v3 wv5 ⟨gg3, hvv3, hegg3⟩
  have hlegg3 := hegg3.le hs.imm
  replace hs := hs.call hegg3
  obtain ⟨cs3, rfl, hcs3⟩ := hvv3
  have hcs3 : cs3 = _ := hcs3; subst hcs3
  refine OW_lit (τ := (tVec 4 .u64)) [encV .u64 rv2, encV .u64 rv3] [rv2, rv3] Try.underlying30 ti25 (by decide) hs rfl rfl rfl ⟨rfl, rfl, trivial⟩ rfl ?_
  intro v4 wv6 xs1 hrelxs1 hs
  obtain ⟨gg4, hlegg4, hRgg4, hs⟩ := hs.relRow (i := 0) rfl hrelxs1
  obtain ⟨c1, hc1, hM⟩ := bindS hM
  refine C [v4] cf16 rfl (byteset_Classes_ok hc1 hs.imm hRgg4) rfl ?_
  rintro v5 wv7 ⟨gg5, hvv5, hegg5⟩
  have hlegg5 := hegg5.le hs.imm
  replace hs := hs.call hegg5
  replace hRgg4 := hRgg4.mono hlegg5
  obtain ⟨cs4, rfl, hcs4⟩ := hvv5
  obtain ⟨v6, rfl, hRv6⟩ := hcs4
  refine O (r_assign (v := v6) rfl) rfl ?_
  refine OW_nil ?_
  obtain ⟨xv1, hx1, hKhx1⟩ := bindS hM
  refine WP_cut (fun E w => ∃ (gg11 : Hp), E 0 = .bool xv1 ∧ Hle gg5 gg11 ∧ Go.Lx.Sep g0 w0 gg11 w []) ?_ ?_
  · have hM := hx1
    have hagg5 := Hle.refl gg5
    refine WP_region ?_
    refine O (r_loadN (cs := rv1.1.map (.int .u64)) ti25 rfl (by simp [rv1.2]) (hs.cells (i := 0) rfl)) rfl ?_
    obtain ⟨rv9, hrv9, hM⟩ := bindS hM
    refine C [encV .u64 rv1] cf24 rfl (byteset_Len_ok hrv9 hs.imm) rfl ?_
    rintro v12 wv13 ⟨gg12, hvv12, hegg12⟩
    have hlegg12 := hegg12.le hs.imm
    replace hs := hs.call hegg12
    replace hRgg4 := hRgg4.mono hlegg12
    replace hRv6 := hRv6.mono hlegg12
    replace hagg5 := hagg5.trans hlegg12
    obtain ⟨cs15, rfl, hcs15⟩ := hvv12
    have hcs15 : cs15 = _ := hcs15; subst hcs15
    refine O (r_eql rfl rfl) rfl ?_
    refine O (r_move (v := .bool (rv9 == 3)) rfl) rfl ?_
    rcases condS hM with ⟨hg10, hM⟩ | ⟨hg10, hM⟩
    · refine OG rfl rfl rfl (by rw [hg10]; rfl) (r_loadN (cs := rv1.1.map (.int .u64)) ti25 rfl (by simp [rv1.2]) (hs.cells (i := 0) rfl)) rfl ?_
      obtain ⟨rv10, hrv10, hM⟩ := bindS hM
      refine CG rfl rfl rfl (by rw [hg10]; rfl) [encV .u64 rv1, .int .u8 98] cf13 rfl (byteset_Has_ok hrv10 hs.imm) rfl ?_
      rintro v13 wv14 ⟨gg13, hvv13, hegg13⟩
      have hlegg13 := hegg13.le hs.imm
      replace hs := hs.call hegg13
      replace hRgg4 := hRgg4.mono hlegg13
      replace hRv6 := hRv6.mono hlegg13
      replace hagg5 := hagg5.trans hlegg13
      obtain ⟨cs16, rfl, hcs16⟩ := hvv13
      have hcs16 : cs16 = _ := hcs16; subst hcs16
      refine O (r_pickT (v := .bool rv10) rfl hg10 rfl) rfl ?_
      refine O (r_move (v := .bool rv10) rfl) rfl ?_
      rcases condS hM with ⟨hg11, hM⟩ | ⟨hg11, hM⟩
      · refine OG rfl rfl rfl (by rw [hg11]; rfl) (r_loadN (cs := rv1.1.map (.int .u64)) ti25 rfl (by simp [rv1.2]) (hs.cells (i := 0) rfl)) rfl ?_
        obtain ⟨rv11, hrv11, hM⟩ := bindS hM
        refine CG rfl rfl rfl (by rw [hg11]; rfl) [encV .u64 rv1, .int .u8 100] cf13 rfl (byteset_Has_ok hrv11 hs.imm) rfl ?_
        rintro v14 wv15 ⟨gg14, hvv14, hegg14⟩
        have hlegg14 := hegg14.le hs.imm
        replace hs := hs.call hegg14
        replace hRgg4 := hRgg4.mono hlegg14
        replace hRv6 := hRv6.mono hlegg14
        replace hagg5 := hagg5.trans hlegg14
        obtain ⟨cs17, rfl, hcs17⟩ := hvv14
        have hcs17 : cs17 = _ := hcs17; subst hcs17
        refine OG rfl rfl rfl (by rw [hg11]; rfl) (r_not rfl) rfl ?_
        refine O (r_pickT (v := .bool (!rv11)) rfl hg11 rfl) rfl ?_
        refine O (r_move (v := .bool (!rv11)) rfl) rfl ?_
        rcases condS hM with ⟨hg12, hM⟩ | ⟨hg12, hM⟩
        · obtain ⟨rv12, hrv12, hM⟩ := bindS hM
          refine CG rfl rfl rfl (by rw [hg12]; rfl) [.int .u8 99, .int .u8 97] cf10 rfl (byteset_Range_ok hrv12 hs.imm) rfl ?_
          rintro v15 wv16 ⟨gg15, hvv15, hegg15⟩
          have hlegg15 := hegg15.le hs.imm
          replace hs := hs.call hegg15
          replace hRgg4 := hRgg4.mono hlegg15
          replace hRv6 := hRv6.mono hlegg15
          replace hagg5 := hagg5.trans hlegg15
          obtain ⟨cs18, rfl, hcs18⟩ := hvv15
          have hcs18 : cs18 = _ := hcs18; subst hcs18
          obtain ⟨rv13, hrv13, hM⟩ := bindS hM
          refine CG rfl rfl rfl (by rw [hg12]; rfl) [encV .u64 rv12] cf24 rfl (byteset_Len_ok hrv13 hs.imm) rfl ?_
          rintro v16 wv17 ⟨gg16, hvv16, hegg16⟩
          have hlegg16 := hegg16.le hs.imm
          replace hs := hs.call hegg16
          replace hRgg4 := hRgg4.mono hlegg16
          replace hRv6 := hRv6.mono hlegg16
          replace hagg5 := hagg5.trans hlegg16
          obtain ⟨cs19, rfl, hcs19⟩ := hvv16
          have hcs19 : cs19 = _ := hcs19; subst hcs19
          refine OG rfl rfl rfl (by rw [hg12]; rfl) (r_eql rfl rfl) rfl ?_
          refine O (r_pickT (v := .bool (rv13 == 0)) rfl hg12 rfl) rfl ?_
          refine O (r_move (v := .bool (rv13 == 0)) rfl) rfl ?_
          rcases condS hM with ⟨hg13, hM⟩ | ⟨hg13, hM⟩
          · refine OG rfl rfl rfl (by rw [hg13]; rfl) (r_move (v := v6) rfl) rfl ?_
            obtain ⟨a2, ca2, hva2⟩ := hRv6.shape
            refine OG rfl rfl rfl (by rw [hg13]; rfl) (r_lenSl (v := v6) Try.underlying32 rfl hva2) rfl ?_
            refine OG rfl rfl rfl (by rw [hg13]; rfl) (r_eql rfl rfl) rfl ?_
            refine O (r_pickT (v := .bool ((c1.length : Int) == 256)) rfl hg13 rfl) rfl ?_
            refine O (r_move (v := .bool ((c1.length : Int) == 256)) rfl) rfl ?_
            rcases condS hM with ⟨hg14, hM⟩ | ⟨hg14, hM⟩
            · refine OG rfl rfl rfl (by rw [hg14]; rfl) (r_move (v := v6) rfl) rfl ?_
              obtain ⟨e6, he6, hM⟩ := bindS hM
              obtain ⟨b7, ob7, cb7, hvb7, cs20, hcs20, hcb7⟩ := hRv6.at he6
              have hcs20 : cs20 = _ := hcs20; subst hcs20
              refine OG rfl rfl rfl (by rw [hg14]; rfl) (r_idxSl Try.underlying32 ti3 (v := v6) rfl hvb7 rfl (idxL_some he6).1 (idxL_some he6).2.1) rfl ?_
              refine OG rfl rfl rfl (by rw [hg14]; rfl) (r_loadEl (cs := [.int .i64 e6]) ti3 rfl rfl (.inr rfl) (hcb7 _ hs.imm) (v := .int .i64 e6) rfl) rfl ?_
              refine OG rfl rfl rfl (by rw [hg14]; rfl) (r_eql rfl rfl) rfl ?_
              refine O (r_pickT (v := .bool (e6 == 0)) rfl hg14 rfl) rfl ?_
              refine O (r_move (v := .bool (e6 == 0)) rfl) rfl ?_
              rcases condS hM with ⟨hg15, hM⟩ | ⟨hg15, hM⟩
              · refine OG rfl rfl rfl (by rw [hg15]; rfl) (r_move (v := v6) rfl) rfl ?_
                obtain ⟨e7, he7, hM⟩ := bindS hM
                obtain ⟨b8, ob8, cb8, hvb8, cs21, hcs21, hcb8⟩ := hRv6.at he7
                have hcs21 : cs21 = _ := hcs21; subst hcs21
                refine OG rfl rfl rfl (by rw [hg15]; rfl) (r_idxSl Try.underlying32 ti3 (v := v6) rfl hvb8 rfl (idxL_some he7).1 (idxL_some he7).2.1) rfl ?_
                refine OG rfl rfl rfl (by rw [hg15]; rfl) (r_loadEl (cs := [.int .i64 e7]) ti3 rfl rfl (.inr rfl) (hcb8 _ hs.imm) (v := .int .i64 e7) rfl) rfl ?_
                refine OG rfl rfl rfl (by rw [hg15]; rfl) (r_eql rfl rfl) rfl ?_
                refine O (r_pickT (v := .bool (e7 == 1)) rfl hg15 rfl) rfl ?_
                refine O (r_move (v := .bool (e7 == 1)) rfl) rfl ?_
                rcases condS hM with ⟨hg16, hM⟩ | ⟨hg16, hM⟩
                · refine OG rfl rfl rfl (by rw [hg16]; rfl) (r_move (v := v6) rfl) rfl ?_
                  obtain ⟨e8, he8, hM⟩ := bindS hM
                  obtain ⟨b9, ob9, cb9, hvb9, cs22, hcs22, hcb9⟩ := hRv6.at he8
                  have hcs22 : cs22 = _ := hcs22; subst hcs22
                  refine OG rfl rfl rfl (by rw [hg16]; rfl) (r_idxSl Try.underlying32 ti3 (v := v6) rfl hvb9 rfl (idxL_some he8).1 (idxL_some he8).2.1) rfl ?_
                  refine OG rfl rfl rfl (by rw [hg16]; rfl) (r_loadEl (cs := [.int .i64 e8]) ti3 rfl rfl (.inr rfl) (hcb9 _ hs.imm) (v := .int .i64 e8) rfl) rfl ?_
                  refine OG rfl rfl rfl (by rw [hg16]; rfl) (r_eql rfl rfl) rfl ?_
                  refine O (r_pickT (v := .bool (e8 == 2)) rfl hg16 rfl) rfl ?_
                  refine O (r_move (v := .bool (e8 == 2)) rfl) rfl ?_
                  rcases condS hM with ⟨hg17, hM⟩ | ⟨hg17, hM⟩
                  · refine OG rfl rfl rfl (by rw [hg17]; rfl) (r_move (v := v6) rfl) rfl ?_
                    obtain ⟨e9, he9, hM⟩ := bindS hM
                    obtain ⟨b10, ob10, cb10, hvb10, cs23, hcs23, hcb10⟩ := hRv6.at he9
                    have hcs23 : cs23 = _ := hcs23; subst hcs23
                    refine OG rfl rfl rfl (by rw [hg17]; rfl) (r_idxSl Try.underlying32 ti3 (v := v6) rfl hvb10 rfl (idxL_some he9).1 (idxL_some he9).2.1) rfl ?_
                    refine OG rfl rfl rfl (by rw [hg17]; rfl) (r_loadEl (cs := [.int .i64 e9]) ti3 rfl rfl (.inr rfl) (hcb10 _ hs.imm) (v := .int .i64 e9) rfl) rfl ?_
                    refine OG rfl rfl rfl (by rw [hg17]; rfl) (r_eql rfl rfl) rfl ?_
                    refine O (r_pickT (v := .bool (e9 == 3)) rfl hg17 rfl) rfl ?_
                    refine O (r_move (v := .bool (e9 == 3)) rfl) rfl ?_
                    rcases condS hM with ⟨hg18, hM⟩ | ⟨hg18, hM⟩
                    · refine OG rfl rfl rfl (by rw [hg18]; rfl) (r_move (v := v6) rfl) rfl ?_
                      obtain ⟨e10, he10, hM⟩ := bindS hM
                      obtain ⟨b11, ob11, cb11, hvb11, cs24, hcs24, hcb11⟩ := hRv6.at he10
                      have hcs24 : cs24 = _ := hcs24; subst hcs24
                      refine OG rfl rfl rfl (by rw [hg18]; rfl) (r_idxSl Try.underlying32 ti3 (v := v6) rfl hvb11 rfl (idxL_some he10).1 (idxL_some he10).2.1) rfl ?_
                      refine OG rfl rfl rfl (by rw [hg18]; rfl) (r_loadEl (cs := [.int .i64 e10]) ti3 rfl rfl (.inr rfl) (hcb11 _ hs.imm) (v := .int .i64 e10) rfl) rfl ?_
                      refine OG rfl rfl rfl (by rw [hg18]; rfl) (r_eql rfl rfl) rfl ?_
                      refine O (r_pickT (v := .bool (e10 == 0)) rfl hg18 rfl) rfl ?_
                      refine O (r_assign (v := .bool (e10 == 0)) rfl) rfl ?_
                      refine OW_nil ?_
                      obtain rfl := Option.some.inj hM
                      exact ⟨gg16, rfl, hagg5, (hs.sub (.cons _ .slnil))⟩
                    · refine OK rfl rfl rfl (by rw [hg18]; rfl) rfl ?_
                      refine OK rfl rfl rfl (by rw [hg18]; rfl) rfl ?_
                      refine OK rfl rfl rfl (by rw [hg18]; rfl) rfl ?_
                      refine OK rfl rfl rfl (by rw [hg18]; rfl) rfl ?_
                      refine O (r_pickF (v := .bool false) rfl hg18 rfl) rfl ?_
                      refine O (r_assign (v := .bool false) rfl) rfl ?_
                      refine OW_nil ?_
                      obtain rfl := Option.some.inj hM
                      exact ⟨gg16, rfl, hagg5, (hs.sub (.cons _ .slnil))⟩
                  · refine OK rfl rfl rfl (by rw [hg17]; rfl) rfl ?_
                    refine OK rfl rfl rfl (by rw [hg17]; rfl) rfl ?_
                    refine OK rfl rfl rfl (by rw [hg17]; rfl) rfl ?_
                    refine OK rfl rfl rfl (by rw [hg17]; rfl) rfl ?_
                    refine O (r_pickF (v := .bool false) rfl hg17 rfl) rfl ?_
                    refine O (r_move (v := .bool false) rfl) rfl ?_
                    refine OK rfl rfl rfl rfl rfl ?_
                    refine OK rfl rfl rfl rfl rfl ?_
                    refine OK rfl rfl rfl rfl rfl ?_
                    refine OK rfl rfl rfl rfl rfl ?_
                    refine O (r_pickF (v := .bool false) rfl rfl rfl) rfl ?_
                    refine O (r_assign (v := .bool false) rfl) rfl ?_
                    refine OW_nil ?_
                    obtain rfl := Option.some.inj hM
                    exact ⟨gg16, rfl, hagg5, (hs.sub (.cons _ .slnil))⟩
                · refine OK rfl rfl rfl (by rw [hg16]; rfl) rfl ?_
                  refine OK rfl rfl rfl (by rw [hg16]; rfl) rfl ?_
                  refine OK rfl rfl rfl (by rw [hg16]; rfl) rfl ?_
                  refine OK rfl rfl rfl (by rw [hg16]; rfl) rfl ?_
                  refine O (r_pickF (v := .bool false) rfl hg16 rfl) rfl ?_
                  refine O (r_move (v := .bool false) rfl) rfl ?_
                  refine OK rfl rfl rfl rfl rfl ?_
                  refine OK rfl rfl rfl rfl rfl ?_
                  refine OK rfl rfl rfl rfl rfl ?_
                  refine OK rfl rfl rfl rfl rfl ?_
                  refine O (r_pickF (v := .bool false) rfl rfl rfl) rfl ?_
                  refine O (r_move (v := .bool false) rfl) rfl ?_
                  refine OK rfl rfl rfl rfl rfl ?_
                  refine OK rfl rfl rfl rfl rfl ?_
                  refine OK rfl rfl rfl rfl rfl ?_
                  refine OK rfl rfl rfl rfl rfl ?_
                  refine O (r_pickF (v := .bool false) rfl rfl rfl) rfl ?_
                  refine O (r_assign (v := .bool false) rfl) rfl ?_
                  refine OW_nil ?_
                  obtain rfl := Option.some.inj hM
                  exact ⟨gg16, rfl, hagg5, (hs.sub (.cons _ .slnil))⟩
              · refine OK rfl rfl rfl (by rw [hg15]; rfl) rfl ?_
                refine OK rfl rfl rfl (by rw [hg15]; rfl) rfl ?_
                refine OK rfl rfl rfl (by rw [hg15]; rfl) rfl ?_
                refine OK rfl rfl rfl (by rw [hg15]; rfl) rfl ?_
                refine O (r_pickF (v := .bool false) rfl hg15 rfl) rfl ?_
                refine O (r_move (v := .bool false) rfl) rfl ?_
                refine OK rfl rfl rfl rfl rfl ?_
                refine OK rfl rfl rfl rfl rfl ?_
                refine OK rfl rfl rfl rfl rfl ?_
                refine OK rfl rfl rfl rfl rfl ?_
                refine O (r_pickF (v := .bool false) rfl rfl rfl) rfl ?_
                refine O (r_move (v := .bool false) rfl) rfl ?_
                refine OK rfl rfl rfl rfl rfl ?_
                refine OK rfl rfl rfl rfl rfl ?_
                refine OK rfl rfl rfl rfl rfl ?_
                refine OK rfl rfl rfl rfl rfl ?_
                refine O (r_pickF (v := .bool false) rfl rfl rfl) rfl ?_
                refine O (r_move (v := .bool false) rfl) rfl ?_
                refine OK rfl rfl rfl rfl rfl ?_
                refine OK rfl rfl rfl rfl rfl ?_
                refine OK rfl rfl rfl rfl rfl ?_
                refine OK rfl rfl rfl rfl rfl ?_
                refine O (r_pickF (v := .bool false) rfl rfl rfl) rfl ?_
                refine O (r_assign (v := .bool false) rfl) rfl ?_
                refine OW_nil ?_
                obtain rfl := Option.some.inj hM
                exact ⟨gg16, rfl, hagg5, (hs.sub (.cons _ .slnil))⟩
            · refine OK rfl rfl rfl (by rw [hg14]; rfl) rfl ?_
              refine OK rfl rfl rfl (by rw [hg14]; rfl) rfl ?_
              refine OK rfl rfl rfl (by rw [hg14]; rfl) rfl ?_
              refine OK rfl rfl rfl (by rw [hg14]; rfl) rfl ?_
              refine O (r_pickF (v := .bool false) rfl hg14 rfl) rfl ?_
              refine O (r_move (v := .bool false) rfl) rfl ?_
              refine OK rfl rfl rfl rfl rfl ?_
              refine OK rfl rfl rfl rfl rfl ?_
              refine OK rfl rfl rfl rfl rfl ?_
              refine OK rfl rfl rfl rfl rfl ?_
              refine O (r_pickF (v := .bool false) rfl rfl rfl) rfl ?_
              refine O (r_move (v := .bool false) rfl) rfl ?_
              refine OK rfl rfl rfl rfl rfl ?_
              refine OK rfl rfl rfl rfl rfl ?_
              refine OK rfl rfl rfl rfl rfl ?_
              refine OK rfl rfl rfl rfl rfl ?_
              refine O (r_pickF (v := .bool false) rfl rfl rfl) rfl ?_
              refine O (r_move (v := .bool false) rfl) rfl ?_
              refine OK rfl rfl rfl rfl rfl ?_
              refine OK rfl rfl rfl rfl rfl ?_
              refine OK rfl rfl rfl rfl rfl ?_
              refine OK rfl rfl rfl rfl rfl ?_
              refine O (r_pickF (v := .bool false) rfl rfl rfl) rfl ?_
              refine O (r_move (v := .bool false) rfl) rfl ?_
              refine OK rfl rfl rfl rfl rfl ?_
              refine OK rfl rfl rfl rfl rfl ?_
              refine OK rfl rfl rfl rfl rfl ?_
              refine OK rfl rfl rfl rfl rfl ?_
              refine O (r_pickF (v := .bool false) rfl rfl rfl) rfl ?_
              refine O (r_assign (v := .bool false) rfl) rfl ?_
              refine OW_nil ?_
              obtain rfl := Option.some.inj hM
              exact ⟨gg16, rfl, hagg5, (hs.sub (.cons _ .slnil))⟩
          · refine OK rfl rfl rfl (by rw [hg13]; rfl) rfl ?_
            refine OK rfl rfl rfl (by rw [hg13]; rfl) rfl ?_
            refine OK rfl rfl rfl (by rw [hg13]; rfl) rfl ?_
            refine O (r_pickF (v := .bool false) rfl hg13 rfl) rfl ?_
            refine O (r_move (v := .bool false) rfl) rfl ?_
            refine OK rfl rfl rfl rfl rfl ?_
            refine OK rfl rfl rfl rfl rfl ?_
            refine OK rfl rfl rfl rfl rfl ?_
            refine OK rfl rfl rfl rfl rfl ?_
            refine O (r_pickF (v := .bool false) rfl rfl rfl) rfl ?_
            refine O (r_move (v := .bool false) rfl) rfl ?_
            refine OK rfl rfl rfl rfl rfl ?_
            refine OK rfl rfl rfl rfl rfl ?_
            refine OK rfl rfl rfl rfl rfl ?_
            refine OK rfl rfl rfl rfl rfl ?_
            refine O (r_pickF (v := .bool false) rfl rfl rfl) rfl ?_
            refine O (r_move (v := .bool false) rfl) rfl ?_
            refine OK rfl rfl rfl rfl rfl ?_
            refine OK rfl rfl rfl rfl rfl ?_
            refine OK rfl rfl rfl rfl rfl ?_
            refine OK rfl rfl rfl rfl rfl ?_
            refine O (r_pickF (v := .bool false) rfl rfl rfl) rfl ?_
            refine O (r_move (v := .bool false) rfl) rfl ?_
            refine OK rfl rfl rfl rfl rfl ?_
            refine OK rfl rfl rfl rfl rfl ?_
            refine OK rfl rfl rfl rfl rfl ?_
            refine OK rfl rfl rfl rfl rfl ?_
            refine O (r_pickF (v := .bool false) rfl rfl rfl) rfl ?_
            refine O (r_move (v := .bool false) rfl) rfl ?_
            refine OK rfl rfl rfl rfl rfl ?_
            refine OK rfl rfl rfl rfl rfl ?_
            refine OK rfl rfl rfl rfl rfl ?_
            refine OK rfl rfl rfl rfl rfl ?_
            refine O (r_pickF (v := .bool false) rfl rfl rfl) rfl ?_
            refine O (r_assign (v := .bool false) rfl) rfl ?_
            refine OW_nil ?_
            obtain rfl := Option.some.inj hM
            exact ⟨gg16, rfl, hagg5, (hs.sub (.cons _ .slnil))⟩
        · refine OK rfl rfl rfl (by rw [hg12]; rfl) rfl ?_
          refine OK rfl rfl rfl (by rw [hg12]; rfl) rfl ?_
          refine OK rfl rfl rfl (by rw [hg12]; rfl) rfl ?_
          refine O (r_pickF (v := .bool false) rfl hg12 rfl) rfl ?_
          refine O (r_move (v := .bool false) rfl) rfl ?_
          refine OK rfl rfl rfl rfl rfl ?_
          refine OK rfl rfl rfl rfl rfl ?_
          refine OK rfl rfl rfl rfl rfl ?_
          refine O (r_pickF (v := .bool false) rfl rfl rfl) rfl ?_
          refine O (r_move (v := .bool false) rfl) rfl ?_
          refine OK rfl rfl rfl rfl rfl ?_
          refine OK rfl rfl rfl rfl rfl ?_
          refine OK rfl rfl rfl rfl rfl ?_
          refine OK rfl rfl rfl rfl rfl ?_
          refine O (r_pickF (v := .bool false) rfl rfl rfl) rfl ?_
          refine O (r_move (v := .bool false) rfl) rfl ?_
          refine OK rfl rfl rfl rfl rfl ?_
          refine OK rfl rfl rfl rfl rfl ?_
          refine OK rfl rfl rfl rfl rfl ?_
          refine OK rfl rfl rfl rfl rfl ?_
          refine O (r_pickF (v := .bool false) rfl rfl rfl) rfl ?_
          refine O (r_move (v := .bool false) rfl) rfl ?_
          refine OK rfl rfl rfl rfl rfl ?_
          refine OK rfl rfl rfl rfl rfl ?_
          refine OK rfl rfl rfl rfl rfl ?_
          refine OK rfl rfl rfl rfl rfl ?_
          refine O (r_pickF (v := .bool false) rfl rfl rfl) rfl ?_
          refine O (r_move (v := .bool false) rfl) rfl ?_
          refine OK rfl rfl rfl rfl rfl ?_
          refine OK rfl rfl rfl rfl rfl ?_
          refine OK rfl rfl rfl rfl rfl ?_
          refine OK rfl rfl rfl rfl rfl ?_
          refine O (r_pickF (v := .bool false) rfl rfl rfl) rfl ?_
          refine O (r_move (v := .bool false) rfl) rfl ?_
          refine OK rfl rfl rfl rfl rfl ?_
          refine OK rfl rfl rfl rfl rfl ?_
          refine OK rfl rfl rfl rfl rfl ?_
          refine OK rfl rfl rfl rfl rfl ?_
          refine O (r_pickF (v := .bool false) rfl rfl rfl) rfl ?_
          refine O (r_assign (v := .bool false) rfl) rfl ?_
          refine OW_nil ?_
          obtain rfl := Option.some.inj hM
          exact ⟨gg14, rfl, hagg5, (hs.sub (.cons _ .slnil))⟩
      · refine OK rfl rfl rfl (by rw [hg11]; rfl) rfl ?_
        refine OK rfl rfl rfl (by rw [hg11]; rfl) rfl ?_
        refine OK rfl rfl rfl (by rw [hg11]; rfl) rfl ?_
        refine O (r_pickF (v := .bool false) rfl hg11 rfl) rfl ?_
        refine O (r_move (v := .bool false) rfl) rfl ?_
        refine OK rfl rfl rfl rfl rfl ?_
        refine OK rfl rfl rfl rfl rfl ?_
        refine OK rfl rfl rfl rfl rfl ?_
        refine O (r_pickF (v := .bool false) rfl rfl rfl) rfl ?_
        refine O (r_move (v := .bool false) rfl) rfl ?_
        refine OK rfl rfl rfl rfl rfl ?_
        refine OK rfl rfl rfl rfl rfl ?_
        refine OK rfl rfl rfl rfl rfl ?_
        refine O (r_pickF (v := .bool false) rfl rfl rfl) rfl ?_
        refine O (r_move (v := .bool false) rfl) rfl ?_
        refine OK rfl rfl rfl rfl rfl ?_
        refine OK rfl rfl rfl rfl rfl ?_
        refine OK rfl rfl rfl rfl rfl ?_
        refine OK rfl rfl rfl rfl rfl ?_
        refine O (r_pickF (v := .bool false) rfl rfl rfl) rfl ?_
        refine O (r_move (v := .bool false) rfl) rfl ?_
        refine OK rfl rfl rfl rfl rfl ?_
        refine OK rfl rfl rfl rfl rfl ?_
        refine OK rfl rfl rfl rfl rfl ?_
        refine OK rfl rfl rfl rfl rfl ?_
        refine O (r_pickF (v := .bool false) rfl rfl rfl) rfl ?_
        refine O (r_move (v := .bool false) rfl) rfl ?_
        refine OK rfl rfl rfl rfl rfl ?_
        refine OK rfl rfl rfl rfl rfl ?_
        refine OK rfl rfl rfl rfl rfl ?_
        refine OK rfl rfl rfl rfl rfl ?_
        refine O (r_pickF (v := .bool false) rfl rfl rfl) rfl ?_
        refine O (r_move (v := .bool false) rfl) rfl ?_
        refine OK rfl rfl rfl rfl rfl ?_
        refine OK rfl rfl rfl rfl rfl ?_
        refine OK rfl rfl rfl rfl rfl ?_
        refine OK rfl rfl rfl rfl rfl ?_
        refine O (r_pickF (v := .bool false) rfl rfl rfl) rfl ?_
        refine O (r_move (v := .bool false) rfl) rfl ?_
        refine OK rfl rfl rfl rfl rfl ?_
        refine OK rfl rfl rfl rfl rfl ?_
        refine OK rfl rfl rfl rfl rfl ?_
        refine OK rfl rfl rfl rfl rfl ?_
        refine O (r_pickF (v := .bool false) rfl rfl rfl) rfl ?_
        refine O (r_assign (v := .bool false) rfl) rfl ?_
        refine OW_nil ?_
        obtain rfl := Option.some.inj hM
        exact ⟨gg13, rfl, hagg5, (hs.sub (.cons _ .slnil))⟩
    · refine OK rfl rfl rfl (by rw [hg10]; rfl) rfl ?_
      refine OK rfl rfl rfl (by rw [hg10]; rfl) rfl ?_
      refine O (r_pickF (v := .bool false) rfl hg10 rfl) rfl ?_
      refine O (r_move (v := .bool false) rfl) rfl ?_
      refine OK rfl rfl rfl rfl rfl ?_
      refine OK rfl rfl rfl rfl rfl ?_
      refine OK rfl rfl rfl rfl rfl ?_
      refine O (r_pickF (v := .bool false) rfl rfl rfl) rfl ?_
      refine O (r_move (v := .bool false) rfl) rfl ?_
      refine OK rfl rfl rfl rfl rfl ?_
      refine OK rfl rfl rfl rfl rfl ?_
      refine OK rfl rfl rfl rfl rfl ?_
      refine O (r_pickF (v := .bool false) rfl rfl rfl) rfl ?_
      refine O (r_move (v := .bool false) rfl) rfl ?_
      refine OK rfl rfl rfl rfl rfl ?_
      refine OK rfl rfl rfl rfl rfl ?_
      refine OK rfl rfl rfl rfl rfl ?_
      refine O (r_pickF (v := .bool false) rfl rfl rfl) rfl ?_
      refine O (r_move (v := .bool false) rfl) rfl ?_
      refine OK rfl rfl rfl rfl rfl ?_
      refine OK rfl rfl rfl rfl rfl ?_
      refine OK rfl rfl rfl rfl rfl ?_
      refine OK rfl rfl rfl rfl rfl ?_
      refine O (r_pickF (v := .bool false) rfl rfl rfl) rfl ?_
      refine O (r_move (v := .bool false) rfl) rfl ?_
      refine OK rfl rfl rfl rfl rfl ?_
      refine OK rfl rfl rfl rfl rfl ?_
      refine OK rfl rfl rfl rfl rfl ?_
      refine OK rfl rfl rfl rfl rfl ?_
      refine O (r_pickF (v := .bool false) rfl rfl rfl) rfl ?_
      refine O (r_move (v := .bool false) rfl) rfl ?_
      refine OK rfl rfl rfl rfl rfl ?_
      refine OK rfl rfl rfl rfl rfl ?_
      refine OK rfl rfl rfl rfl rfl ?_
      refine OK rfl rfl rfl rfl rfl ?_
      refine O (r_pickF (v := .bool false) rfl rfl rfl) rfl ?_
      refine O (r_move (v := .bool false) rfl) rfl ?_
      refine OK rfl rfl rfl rfl rfl ?_
      refine OK rfl rfl rfl rfl rfl ?_
      refine OK rfl rfl rfl rfl rfl ?_
      refine OK rfl rfl rfl rfl rfl ?_
      refine O (r_pickF (v := .bool false) rfl rfl rfl) rfl ?_
      refine O (r_move (v := .bool false) rfl) rfl ?_
      refine OK rfl rfl rfl rfl rfl ?_
      refine OK rfl rfl rfl rfl rfl ?_
      refine OK rfl rfl rfl rfl rfl ?_
      refine OK rfl rfl rfl rfl rfl ?_
      refine O (r_pickF (v := .bool false) rfl rfl rfl) rfl ?_
      refine O (r_assign (v := .bool false) rfl) rfl ?_
      refine OW_nil ?_
      obtain rfl := Option.some.inj hM
      exact ⟨gg12, rfl, hagg5, (hs.sub (.cons _ .slnil))⟩
  · clear hs
    rintro E w ⟨gg11, hE0, hlegg11, hs⟩
    have hM := hKhx1
    obtain ⟨E, rfl⟩ := open1 (E := E) hE0
    refine WP_ret ?_
    obtain rfl := Option.some.inj hM
    exact ⟨_, res1 Try.results8 (rv_tmp (v := .bool xv1) rfl), gg11, ⟨[.bool xv1], rfl, rfl⟩, hs.ext⟩

set_option maxRecDepth 100000 in
theorem law07_BytesetOf_ok {s1 : Str} {lo1 : Int} {hiv1 : Int} {r : Bool} (hM : M.law07_BytesetOf s1 lo1 hiv1 = some r) {g0 : Hp} {w0 : World} (hi : Imm g0 w0) :
    CallsV Try.prog 3 #[encS s1, .int .u8 lo1, .int .u8 hiv1] w0 (fun v w' => ∃ g', (VRd tBool false g' v r) ∧ Ext g0 w0 g' w') := by
  unfold M.law07_BytesetOf at hM
  have hs := Sep.start hi
  refine calls_of_WP (args := [encS s1, .int .u8 lo1, .int .u8 hiv1]) Try.func3 rfl Try.ntmps3 rfl ?_
  refine WP_seq ?_
  refine WP_region ?_
  refine O (r_assign (v := .bool false) rfl) rfl ?_
  refine OW_nil ?_
  refine WP_seq ?_
  refine WP_seq ?_
  refine WP_region ?_
  refine O (r_move (v := encS s1) rfl) rfl ?_
  refine O (r_lenStr Try.underlying9 rfl) rfl ?_
  refine O (r_gtr rfl rfl) rfl ?_
  refine OW_nil ?_
  rcases condS hM with ⟨hc1, hM⟩ | ⟨hc1, hM⟩
  · refine WP_true rfl hc1 ?_
    refine WP_seq ?_
    refine WP_region ?_
    obtain ⟨rv1, hrv1, hM⟩ := bindS hM
    refine C [] cf8 rfl (law07_awake_ok hrv1 hs.imm) rfl ?_
    rintro v1 wv1 ⟨gg1, hvv1, hegg1⟩
    have hlegg1 := hegg1.le hs.imm
    replace hs := hs.call hegg1
    obtain ⟨cs1, rfl, hcs1⟩ := hvv1
    have hcs1 : cs1 = _ := hcs1; subst hcs1
    refine O (r_assign (v := .bool rv1) rfl) rfl ?_
    refine OW_nil ?_
    refine WP_ret ?_
    obtain rfl := Option.some.inj hM
    exact ⟨_, res1 Try.results3 (rv_tmp (v := .bool rv1) rfl), gg1, ⟨[.bool rv1], rfl, rfl⟩, hs.ext⟩
  · refine WP_false rfl hc1 ?_
    refine WP_skip ?_
    refine WP_seq ?_
    refine WP_region ?_
    refine O (r_move (v := encS s1) rfl) rfl ?_
    obtain ⟨rv2, hrv2, hM⟩ := bindS hM
    refine C [encS s1] cf9 rfl (byteset_Of_ok hrv2 hs.imm) rfl ?_
    rintro v2 wv2 ⟨gg2, hvv2, hegg2⟩
    have hlegg2 := hegg2.le hs.imm
    replace hs := hs.call hegg2
    obtain ⟨cs2, rfl, hcs2⟩ := hvv2
    have hcs2 : cs2 = _ := hcs2; subst hcs2
    refine O (r_move (v := .int .u8 lo1) rfl) rfl ?_
    refine O (r_move (v := .int .u8 hiv1) rfl) rfl ?_
    obtain ⟨rv3, hrv3, hM⟩ := bindS hM
    refine C [.int .u8 lo1, .int .u8 hiv1] cf10 rfl (byteset_Range_ok hrv3 hs.imm) rfl ?_
    rintro v3 wv3 ⟨gg3, hvv3, hegg3⟩
    have hlegg3 := hegg3.le hs.imm
    replace hs := hs.call hegg3
    obtain ⟨cs3, rfl, hcs3⟩ := hvv3
    have hcs3 : cs3 = _ := hcs3; subst hcs3
    refine OW_alloc ti25 hs (zs := (Vec.zero 4).1.map (.int .u64)) rfl rfl ?_
    intro b1 wv4 hs
    refine OW_alloc ti25 hs (zs := (Vec.zero 4).1.map (.int .u64)) rfl rfl ?_
    intro b2 wv5 hs
    refine OW_storeAll ti25 hs (i := 1) rfl rfl (v := encV .u64 rv2) rfl (vs := rv2.1.map (.int .u64)) rfl vec_one (by simp [rv2.2]) (by simp [rv2.2, (Vec.zero 4).2]) ?_
    intro wv6 hs
    refine OW_storeAll ti25 hs (i := 0) rfl rfl (v := encV .u64 rv3) rfl (vs := rv3.1.map (.int .u64)) rfl vec_one (by simp [rv3.2]) (by simp [rv3.2, (Vec.zero 4).2]) ?_
    intro wv7 hs
    refine OW_nil ?_
    obtain ⟨xv1, hx1, hKhx1⟩ := bindS hM
    refine WP_cut (fun E w => ∃ (gg10 : Hp), E 6 = .bool xv1 ∧ Hle gg3 gg10 ∧ Go.Lx.Sep g0 w0 gg10 w []) ?_ ?_
    · have hM := hx1
      have hagg3 := Hle.refl gg3
      refine WP_any (.s 0 (.q 1 (.q 2 (.q 3 (.s 4 (.q 5 (.q 6 (.q 7 (.q 8 (.q 9 (.q 10 (.s 11 (.q 12 (.q 13 (.q 14 (.q 15 (.q 16 (.q 18 (.q 19 (.s 17 (.s 20 (.q 21 (.q 22 (.q 23 (.q 24 (.q 25 (.q 27 (.q 28 (.q 29 (.s 26 (.q 30 (.q 31 (.q 32 (.leaf)))))))))))))))))))))))))))))))))) (SS g0 w0 gg3 [Go.Lx.box b2 25 (rv3.1.map (.int .u64)), Go.Lx.box b1 25 (rv2.1.map (.int .u64))]) mo (by decide +kernel) (fun _ _ _ h => h) ?_
      have hs := hs.drew
      have hS : SS g0 w0 gg3 [Go.Lx.box b2 25 (rv3.1.map (.int .u64)), Go.Lx.box b1 25 (rv2.1.map (.int .u64))] _ := ⟨gg3, Hle.refl _, hs⟩
      refine A1 rfl ?_
      obtain ⟨rv10, hrv10, hM⟩ := bindS hM
      refine C [] cf8 rfl (law07_awake_ok hrv10 hs.imm) rfl ?_
      rintro v10 wv14 ⟨gg11, hvv10, hegg11⟩
      have hlegg11 := hegg11.le hs.imm
      replace hs := hs.call hegg11
      replace hagg3 := hagg3.trans hlegg11
      obtain ⟨cs10, rfl, hcs10⟩ := hvv10
      have hcs10 : cs10 = _ := hcs10; subst hcs10
      refine OW_nil ?_
      have hS : SS g0 w0 gg3 [Go.Lx.box b2 25 (rv3.1.map (.int .u64)), Go.Lx.box b1 25 (rv2.1.map (.int .u64))] _ := ⟨gg11, hagg3, hs⟩
      refine ⟨hS, ?_⟩
      refine A rfl hS (fun w9 h9 => by obtain ⟨g9, hle9, hs⟩ := h9; exact r_move (v := .bool rv10) rfl) rfl ?_
      rcases condS hM with ⟨hg5, hM⟩ | ⟨hg5, hM⟩
      · refine AG rfl rfl rfl rfl (by rw [hg5]; rfl) hS (fun w9 h9 => by obtain ⟨g9, hle9, hs⟩ := h9; exact r_loadN (cs := rv2.1.map (.int .u64)) ti25 rfl (by simp [rv2.2]) (hs.cells (i := 1) rfl)) rfl ?_
        refine AG rfl rfl rfl rfl (by rw [hg5]; rfl) hS (fun w9 h9 => by obtain ⟨g9, hle9, hs⟩ := h9; exact r_move (v := encS s1) rfl) rfl ?_
        refine A1 rfl ?_
        obtain ⟨rv11, hrv11, hM⟩ := bindS hM
        refine CG rfl rfl rfl (by rw [hg5]; rfl) [encS s1] cf11 rfl (ref07_Of_ok hrv11 hs.imm) rfl ?_
        rintro v11 wv15 ⟨gg12, hvv11, hegg12⟩
        have hlegg12 := hegg12.le hs.imm
        replace hs := hs.call hegg12
        replace hagg3 := hagg3.trans hlegg12
        obtain ⟨cs11, rfl, hcs11⟩ := hvv11
        have hcs11 : cs11 = _ := hcs11; subst hcs11
        refine OW_nil ?_
        have hS : SS g0 w0 gg3 [Go.Lx.box b2 25 (rv3.1.map (.int .u64)), Go.Lx.box b1 25 (rv2.1.map (.int .u64))] _ := ⟨gg12, hagg3, hs⟩
        refine ⟨hS, ?_⟩
        refine AG rfl rfl rfl rfl (by rw [hg5]; rfl) hS (fun w9 h9 => by obtain ⟨g9, hle9, hs⟩ := h9; exact r_eqlV Try.underlying25 Try.underlying23 ti23 rfl rfl eg25) rfl ?_
        refine A rfl hS (fun w9 h9 => by obtain ⟨g9, hle9, hs⟩ := h9; exact r_pickT (v := .bool (rv2 == rv11)) rfl hg5 rfl) rfl ?_
        refine A rfl hS (fun w9 h9 => by obtain ⟨g9, hle9, hs⟩ := h9; exact r_move (v := .bool (rv2 == rv11)) rfl) rfl ?_
        rcases condS hM with ⟨hg6, hM⟩ | ⟨hg6, hM⟩
        · refine AG rfl rfl rfl rfl (by rw [hg6]; rfl) hS (fun w9 h9 => by obtain ⟨g9, hle9, hs⟩ := h9; exact r_loadN (cs := rv3.1.map (.int .u64)) ti25 rfl (by simp [rv3.2]) (hs.cells (i := 0) rfl)) rfl ?_
          refine AG rfl rfl rfl rfl (by rw [hg6]; rfl) hS (fun w9 h9 => by obtain ⟨g9, hle9, hs⟩ := h9; exact r_move (v := .int .u8 lo1) rfl) rfl ?_
          refine AG rfl rfl rfl rfl (by rw [hg6]; rfl) hS (fun w9 h9 => by obtain ⟨g9, hle9, hs⟩ := h9; exact r_move (v := .int .u8 hiv1) rfl) rfl ?_
          refine A1 rfl ?_
          obtain ⟨rv12, hrv12, hM⟩ := bindS hM
          refine CG rfl rfl rfl (by rw [hg6]; rfl) [.int .u8 lo1, .int .u8 hiv1] cf12 rfl (ref07_Range_ok hrv12 hs.imm) rfl ?_
          rintro v12 wv16 ⟨gg13, hvv12, hegg13⟩
          have hlegg13 := hegg13.le hs.imm
          replace hs := hs.call hegg13
          replace hagg3 := hagg3.trans hlegg13
          obtain ⟨cs12, rfl, hcs12⟩ := hvv12
          have hcs12 : cs12 = _ := hcs12; subst hcs12
          refine OW_nil ?_
          have hS : SS g0 w0 gg3 [Go.Lx.box b2 25 (rv3.1.map (.int .u64)), Go.Lx.box b1 25 (rv2.1.map (.int .u64))] _ := ⟨gg13, hagg3, hs⟩
          refine ⟨hS, ?_⟩
          refine AG rfl rfl rfl rfl (by rw [hg6]; rfl) hS (fun w9 h9 => by obtain ⟨g9, hle9, hs⟩ := h9; exact r_eqlV Try.underlying25 Try.underlying23 ti23 rfl rfl eg25) rfl ?_
          refine A rfl hS (fun w9 h9 => by obtain ⟨g9, hle9, hs⟩ := h9; exact r_pickT (v := .bool (rv3 == rv12)) rfl hg6 rfl) rfl ?_
          refine A rfl hS (fun w9 h9 => by obtain ⟨g9, hle9, hs⟩ := h9; exact r_move (v := .bool (rv3 == rv12)) rfl) rfl ?_
          rcases condS hM with ⟨hg7, hM⟩ | ⟨hg7, hM⟩
          · refine AG rfl rfl rfl rfl (by rw [hg7]; rfl) hS (fun w9 h9 => by obtain ⟨g9, hle9, hs⟩ := h9; exact r_loadN (cs := rv2.1.map (.int .u64)) ti25 rfl (by simp [rv2.2]) (hs.cells (i := 1) rfl)) rfl ?_
            refine AG rfl rfl rfl rfl (by rw [hg7]; rfl) hS (fun w9 h9 => by obtain ⟨g9, hle9, hs⟩ := h9; exact r_move (v := .int .u8 lo1) rfl) rfl ?_
            refine AG rfl rfl rfl rfl (by rw [hg7]; rfl) hS (fun w9 h9 => by obtain ⟨g9, hle9, hs⟩ := h9; exact r_loadN (cs := rv2.1.map (.int .u64)) ti25 rfl (by simp [rv2.2]) (hs.cells (i := 1) rfl)) rfl ?_
            refine AG rfl rfl rfl rfl (by rw [hg7]; rfl) hS (fun w9 h9 => by obtain ⟨g9, hle9, hs⟩ := h9; exact r_move (v := .int .u8 lo1) rfl) rfl ?_
            refine A1 rfl ?_
            obtain ⟨rv13, hrv13, hM⟩ := bindS hM
            refine CG rfl rfl rfl (by rw [hg7]; rfl) [encV .u64 rv2, .int .u8 lo1] cf13 rfl (byteset_Has_ok hrv13 hs.imm) rfl ?_
            rintro v13 wv17 ⟨gg14, hvv13, hegg14⟩
            have hlegg14 := hegg14.le hs.imm
            replace hs := hs.call hegg14
            replace hagg3 := hagg3.trans hlegg14
            obtain ⟨cs13, rfl, hcs13⟩ := hvv13
            have hcs13 : cs13 = _ := hcs13; subst hcs13
            refine OW_nil ?_
            have hS : SS g0 w0 gg3 [Go.Lx.box b2 25 (rv3.1.map (.int .u64)), Go.Lx.box b1 25 (rv2.1.map (.int .u64))] _ := ⟨gg14, hagg3, hs⟩
            refine ⟨hS, ?_⟩
            refine A1 rfl ?_
            obtain ⟨rv14, hrv14, hM⟩ := bindS hM
            refine CG rfl rfl rfl (by rw [hg7]; rfl) [encV .u64 rv2, .int .u8 lo1] cf14 rfl (ref07_Has_ok hrv14 hs.imm) rfl ?_
            rintro v14 wv18 ⟨gg15, hvv14, hegg15⟩
            have hlegg15 := hegg15.le hs.imm
            replace hs := hs.call hegg15
            replace hagg3 := hagg3.trans hlegg15
            obtain ⟨cs14, rfl, hcs14⟩ := hvv14
            have hcs14 : cs14 = _ := hcs14; subst hcs14
            refine OW_nil ?_
            have hS : SS g0 w0 gg3 [Go.Lx.box b2 25 (rv3.1.map (.int .u64)), Go.Lx.box b1 25 (rv2.1.map (.int .u64))] _ := ⟨gg15, hagg3, hs⟩
            refine ⟨hS, ?_⟩
            refine AG rfl rfl rfl rfl (by rw [hg7]; rfl) hS (fun w9 h9 => by obtain ⟨g9, hle9, hs⟩ := h9; exact r_eqlB Try.underlying4 rfl rfl) rfl ?_
            refine A rfl hS (fun w9 h9 => by obtain ⟨g9, hle9, hs⟩ := h9; exact r_pickT (v := .bool (rv13 == rv14)) rfl hg7 rfl) rfl ?_
            refine A rfl hS (fun w9 h9 => by obtain ⟨g9, hle9, hs⟩ := h9; exact r_move (v := .bool (rv13 == rv14)) rfl) rfl ?_
            rcases condS hM with ⟨hg8, hM⟩ | ⟨hg8, hM⟩
            · refine AG rfl rfl rfl rfl (by rw [hg8]; rfl) hS (fun w9 h9 => by obtain ⟨g9, hle9, hs⟩ := h9; exact r_loadN (cs := rv3.1.map (.int .u64)) ti25 rfl (by simp [rv3.2]) (hs.cells (i := 0) rfl)) rfl ?_
              refine AG rfl rfl rfl rfl (by rw [hg8]; rfl) hS (fun w9 h9 => by obtain ⟨g9, hle9, hs⟩ := h9; exact r_move (v := .int .u8 hiv1) rfl) rfl ?_
              refine AG rfl rfl rfl rfl (by rw [hg8]; rfl) hS (fun w9 h9 => by obtain ⟨g9, hle9, hs⟩ := h9; exact r_move (v := .int .u8 lo1) rfl) rfl ?_
              refine AG rfl rfl rfl rfl (by rw [hg8]; rfl) hS (fun w9 h9 => by obtain ⟨g9, hle9, hs⟩ := h9; exact r_move (v := .int .u8 hiv1) rfl) rfl ?_
              refine AG rfl rfl rfl rfl (by rw [hg8]; rfl) hS (fun w9 h9 => by obtain ⟨g9, hle9, hs⟩ := h9; exact r_leq rfl rfl) rfl ?_
              refine A1 rfl ?_
              obtain ⟨rv15, hrv15, hM⟩ := bindS hM
              refine CG rfl rfl rfl (by rw [hg8]; rfl) [encV .u64 rv3, .int .u8 hiv1] cf13 rfl (byteset_Has_ok hrv15 hs.imm) rfl ?_
              rintro v15 wv19 ⟨gg16, hvv15, hegg16⟩
              have hlegg16 := hegg16.le hs.imm
              replace hs := hs.call hegg16
              replace hagg3 := hagg3.trans hlegg16
              obtain ⟨cs15, rfl, hcs15⟩ := hvv15
              have hcs15 : cs15 = _ := hcs15; subst hcs15
              refine OW_nil ?_
              have hS : SS g0 w0 gg3 [Go.Lx.box b2 25 (rv3.1.map (.int .u64)), Go.Lx.box b1 25 (rv2.1.map (.int .u64))] _ := ⟨gg16, hagg3, hs⟩
              refine ⟨hS, ?_⟩
              refine AG rfl rfl rfl rfl (by rw [hg8]; rfl) hS (fun w9 h9 => by obtain ⟨g9, hle9, hs⟩ := h9; exact r_eqlB Try.underlying4 rfl rfl) rfl ?_
              refine A rfl hS (fun w9 h9 => by obtain ⟨g9, hle9, hs⟩ := h9; exact r_pickT (v := .bool (rv15 == (decide (lo1 ≤ hiv1)))) rfl hg8 rfl) rfl ?_
              refine A rfl hS (fun w9 h9 => by obtain ⟨g9, hle9, hs⟩ := h9; exact r_assign (v := .bool (rv15 == (decide (lo1 ≤ hiv1)))) rfl) rfl ?_
              refine AN ?_
              obtain rfl := Option.some.inj hM
              exact ⟨gg16, rfl, hagg3, (hs.sub (.cons _ (.cons _ .slnil)))⟩
            · refine AK rfl rfl rfl rfl (by rw [hg8]; rfl) hS rfl ?_
              refine AK rfl rfl rfl rfl (by rw [hg8]; rfl) hS rfl ?_
              refine AK rfl rfl rfl rfl (by rw [hg8]; rfl) hS rfl ?_
              refine AK rfl rfl rfl rfl (by rw [hg8]; rfl) hS rfl ?_
              refine AK rfl rfl rfl rfl (by rw [hg8]; rfl) hS rfl ?_
              refine A1 rfl ?_
              refine OK rfl rfl rfl (by rw [hg8]; rfl) rfl ?_
              refine OW_nil ⟨hS, ?_⟩
              refine AK rfl rfl rfl rfl (by rw [hg8]; rfl) hS rfl ?_
              refine A rfl hS (fun w9 h9 => by obtain ⟨g9, hle9, hs⟩ := h9; exact r_pickF (v := .bool false) rfl hg8 rfl) rfl ?_
              refine A rfl hS (fun w9 h9 => by obtain ⟨g9, hle9, hs⟩ := h9; exact r_assign (v := .bool false) rfl) rfl ?_
              refine AN ?_
              obtain rfl := Option.some.inj hM
              exact ⟨gg15, rfl, hagg3, (hs.sub (.cons _ (.cons _ .slnil)))⟩
          · refine AK rfl rfl rfl rfl (by rw [hg7]; rfl) hS rfl ?_
            refine AK rfl rfl rfl rfl (by rw [hg7]; rfl) hS rfl ?_
            refine AK rfl rfl rfl rfl (by rw [hg7]; rfl) hS rfl ?_
            refine AK rfl rfl rfl rfl (by rw [hg7]; rfl) hS rfl ?_
            refine A1 rfl ?_
            refine OK rfl rfl rfl (by rw [hg7]; rfl) rfl ?_
            refine OW_nil ⟨hS, ?_⟩
            refine A1 rfl ?_
            refine OK rfl rfl rfl (by rw [hg7]; rfl) rfl ?_
            refine OW_nil ⟨hS, ?_⟩
            refine AK rfl rfl rfl rfl (by rw [hg7]; rfl) hS rfl ?_
            refine A rfl hS (fun w9 h9 => by obtain ⟨g9, hle9, hs⟩ := h9; exact r_pickF (v := .bool false) rfl hg7 rfl) rfl ?_
            refine A rfl hS (fun w9 h9 => by obtain ⟨g9, hle9, hs⟩ := h9; exact r_move (v := .bool false) rfl) rfl ?_
            refine AK rfl rfl rfl rfl rfl hS rfl ?_
            refine AK rfl rfl rfl rfl rfl hS rfl ?_
            refine AK rfl rfl rfl rfl rfl hS rfl ?_
            refine AK rfl rfl rfl rfl rfl hS rfl ?_
            refine AK rfl rfl rfl rfl rfl hS rfl ?_
            refine A1 rfl ?_
            refine OK rfl rfl rfl rfl rfl ?_
            refine OW_nil ⟨hS, ?_⟩
            refine AK rfl rfl rfl rfl rfl hS rfl ?_
            refine A rfl hS (fun w9 h9 => by obtain ⟨g9, hle9, hs⟩ := h9; exact r_pickF (v := .bool false) rfl rfl rfl) rfl ?_
            refine A rfl hS (fun w9 h9 => by obtain ⟨g9, hle9, hs⟩ := h9; exact r_assign (v := .bool false) rfl) rfl ?_
            refine AN ?_
            obtain rfl := Option.some.inj hM
            exact ⟨gg13, rfl, hagg3, (hs.sub (.cons _ (.cons _ .slnil)))⟩
        · refine AK rfl rfl rfl rfl (by rw [hg6]; rfl) hS rfl ?_
          refine AK rfl rfl rfl rfl (by rw [hg6]; rfl) hS rfl ?_
          refine AK rfl rfl rfl rfl (by rw [hg6]; rfl) hS rfl ?_
          refine A1 rfl ?_
          refine OK rfl rfl rfl (by rw [hg6]; rfl) rfl ?_
          refine OW_nil ⟨hS, ?_⟩
          refine AK rfl rfl rfl rfl (by rw [hg6]; rfl) hS rfl ?_
          refine A rfl hS (fun w9 h9 => by obtain ⟨g9, hle9, hs⟩ := h9; exact r_pickF (v := .bool false) rfl hg6 rfl) rfl ?_
          refine A rfl hS (fun w9 h9 => by obtain ⟨g9, hle9, hs⟩ := h9; exact r_move (v := .bool false) rfl) rfl ?_
          refine AK rfl rfl rfl rfl rfl hS rfl ?_
          refine AK rfl rfl rfl rfl rfl hS rfl ?_
          refine AK rfl rfl rfl rfl rfl hS rfl ?_
          refine AK rfl rfl rfl rfl rfl hS rfl ?_
          refine A1 rfl ?_
          refine OK rfl rfl rfl rfl rfl ?_
          refine OW_nil ⟨hS, ?_⟩
          refine A1 rfl ?_
          refine OK rfl rfl rfl rfl rfl ?_
          refine OW_nil ⟨hS, ?_⟩
          refine AK rfl rfl rfl rfl rfl hS rfl ?_
          refine A rfl hS (fun w9 h9 => by obtain ⟨g9, hle9, hs⟩ := h9; exact r_pickF (v := .bool false) rfl rfl rfl) rfl ?_
          refine A rfl hS (fun w9 h9 => by obtain ⟨g9, hle9, hs⟩ := h9; exact r_move (v := .bool false) rfl) rfl ?_
          refine AK rfl rfl rfl rfl rfl hS rfl ?_
          refine AK rfl rfl rfl rfl rfl hS rfl ?_
          refine AK rfl rfl rfl rfl rfl hS rfl ?_
          refine AK rfl rfl rfl rfl rfl hS rfl ?_
          refine AK rfl rfl rfl rfl rfl hS rfl ?_
          refine A1 rfl ?_
          refine OK rfl rfl rfl rfl rfl ?_
          refine OW_nil ⟨hS, ?_⟩
          refine AK rfl rfl rfl rfl rfl hS rfl ?_
          refine A rfl hS (fun w9 h9 => by obtain ⟨g9, hle9, hs⟩ := h9; exact r_pickF (v := .bool false) rfl rfl rfl) rfl ?_
          refine A rfl hS (fun w9 h9 => by obtain ⟨g9, hle9, hs⟩ := h9; exact r_assign (v := .bool false) rfl) rfl ?_
          refine AN ?_
          obtain rfl := Option.some.inj hM
          exact ⟨gg12, rfl, hagg3, (hs.sub (.cons _ (.cons _ .slnil)))⟩
      · refine AK rfl rfl rfl rfl (by rw [hg5]; rfl) hS rfl ?_
        refine AK rfl rfl rfl rfl (by rw [hg5]; rfl) hS rfl ?_
        refine A1 rfl ?_
        refine OK rfl rfl rfl (by rw [hg5]; rfl) rfl ?_
        refine OW_nil ⟨hS, ?_⟩
        refine AK rfl rfl rfl rfl (by rw [hg5]; rfl) hS rfl ?_
        refine A rfl hS (fun w9 h9 => by obtain ⟨g9, hle9, hs⟩ := h9; exact r_pickF (v := .bool false) rfl hg5 rfl) rfl ?_
        refine A rfl hS (fun w9 h9 => by obtain ⟨g9, hle9, hs⟩ := h9; exact r_move (v := .bool false) rfl) rfl ?_
        refine AK rfl rfl rfl rfl rfl hS rfl ?_
        refine AK rfl rfl rfl rfl rfl hS rfl ?_
        refine AK rfl rfl rfl rfl rfl hS rfl ?_
        refine A1 rfl ?_
        refine OK rfl rfl rfl rfl rfl ?_
        refine OW_nil ⟨hS, ?_⟩
        refine AK rfl rfl rfl rfl rfl hS rfl ?_
        refine A rfl hS (fun w9 h9 => by obtain ⟨g9, hle9, hs⟩ := h9; exact r_pickF (v := .bool false) rfl rfl rfl) rfl ?_
        refine A rfl hS (fun w9 h9 => by obtain ⟨g9, hle9, hs⟩ := h9; exact r_move (v := .bool false) rfl) rfl ?_
        refine AK rfl rfl rfl rfl rfl hS rfl ?_
        refine AK rfl rfl rfl rfl rfl hS rfl ?_
        refine AK rfl rfl rfl rfl rfl hS rfl ?_
        refine AK rfl rfl rfl rfl rfl hS rfl ?_
        refine A1 rfl ?_
        refine OK rfl rfl rfl rfl rfl ?_
        refine OW_nil ⟨hS, ?_⟩
        refine A1 rfl ?_
        refine OK rfl rfl rfl rfl rfl ?_
        refine OW_nil ⟨hS, ?_⟩
        refine AK rfl rfl rfl rfl rfl hS rfl ?_
        refine A rfl hS (fun w9 h9 => by obtain ⟨g9, hle9, hs⟩ := h9; exact r_pickF (v := .bool false) rfl rfl rfl) rfl ?_
        refine A rfl hS (fun w9 h9 => by obtain ⟨g9, hle9, hs⟩ := h9; exact r_move (v := .bool false) rfl) rfl ?_
        refine AK rfl rfl rfl rfl rfl hS rfl ?_
        refine AK rfl rfl rfl rfl rfl hS rfl ?_
        refine AK rfl rfl rfl rfl rfl hS rfl ?_
        refine AK rfl rfl rfl rfl rfl hS rfl ?_
        refine AK rfl rfl rfl rfl rfl hS rfl ?_
        refine A1 rfl ?_
        refine OK rfl rfl rfl rfl rfl ?_
        refine OW_nil ⟨hS, ?_⟩
        refine AK rfl rfl rfl rfl rfl hS rfl ?_
        refine A rfl hS (fun w9 h9 => by obtain ⟨g9, hle9, hs⟩ := h9; exact r_pickF (v := .bool false) rfl rfl rfl) rfl ?_
        refine A rfl hS (fun w9 h9 => by obtain ⟨g9, hle9, hs⟩ := h9; exact r_assign (v := .bool false) rfl) rfl ?_
        refine AN ?_
        obtain rfl := Option.some.inj hM
        exact ⟨gg11, rfl, hagg3, (hs.sub (.cons _ (.cons _ .slnil)))⟩
    · clear hs
      rintro E w ⟨gg10, hE6, hlegg10, hs⟩
      have hM := hKhx1
      obtain ⟨E, rfl⟩ := open1 (E := E) hE6
      refine WP_ret ?_
      obtain rfl := Option.some.inj hM
      exact ⟨_, res1 Try.results3 (rv_tmp (v := .bool xv1) rfl), gg10, ⟨[.bool xv1], rfl, rfl⟩, hs.ext⟩

set_option maxRecDepth 100000 in
theorem law07_BytesetClasses_ok {l1 : (List (Vec 4))} {r : Bool} (hM : M.law07_BytesetClasses l1 = some r) {g0 : Hp} {w0 : World} (hi : Imm g0 w0) {v1 : Value} (hRv1 : RdS (tVec 4 .u64) g0 v1 l1) :
    CallsV Try.prog 4 #[v1] w0 (fun v w' => ∃ g', (VRd tBool false g' v r) ∧ Ext g0 w0 g' w') := by
  unfold M.law07_BytesetClasses at hM
  have hs := Sep.start hi
  refine calls_of_WP (args := [v1]) Try.func4 rfl Try.ntmps4 rfl ?_
  refine WP_seq ?_
  refine WP_region ?_
  refine O (r_assign (v := .bool false) rfl) rfl ?_
  refine OW_nil ?_
  refine WP_seq ?_
  refine WP_seq ?_
  refine WP_region ?_
  refine O (r_move (v := v1) rfl) rfl ?_
  obtain ⟨a1, ca1, hva1⟩ := hRv1.shape
  refine O (r_lenSl (v := v1) Try.underlying30 rfl hva1) rfl ?_
  refine O (r_gtr rfl rfl) rfl ?_
  refine OW_nil ?_
  rcases condS hM with ⟨hc1, hM⟩ | ⟨hc1, hM⟩
  · refine WP_true rfl hc1 ?_
    refine WP_seq ?_
    refine WP_region ?_
    obtain ⟨rv1, hrv1, hM⟩ := bindS hM
    refine C [] cf8 rfl (law07_awake_ok hrv1 hs.imm) rfl ?_
    rintro v2 wv1 ⟨gg1, hvv2, hegg1⟩
    have hlegg1 := hegg1.le hs.imm
    replace hs := hs.call hegg1
    replace hRv1 := hRv1.mono hlegg1
    obtain ⟨cs1, rfl, hcs1⟩ := hvv2
    have hcs1 : cs1 = _ := hcs1; subst hcs1
    refine O (r_assign (v := .bool rv1) rfl) rfl ?_
    refine OW_nil ?_
    refine WP_ret ?_
    obtain rfl := Option.some.inj hM
    exact ⟨_, res1 Try.results4 (rv_tmp (v := .bool rv1) rfl), gg1, ⟨[.bool rv1], rfl, rfl⟩, hs.ext⟩
  · refine WP_false rfl hc1 ?_
    refine WP_skip ?_
    obtain ⟨rv6, hx1, hKhx1⟩ := bindS hM
    refine WP_cut (fun E w => ∃ (gg6 : Hp), E 2 = .bool rv6 ∧ Hle g0 gg6 ∧ Go.Lx.Sep g0 w0 gg6 w []) ?_ ?_
    · have hM := hx1
      have hag0 := Hle.refl g0
      refine WP_region ?_
      obtain ⟨rv7, hrv7, hM⟩ := bindS hM
      refine C [] cf8 rfl (law07_awake_ok hrv7 hs.imm) rfl ?_
      rintro v9 wv6 ⟨gg7, hvv9, hegg7⟩
      have hlegg7 := hegg7.le hs.imm
      replace hs := hs.call hegg7
      replace hRv1 := hRv1.mono hlegg7
      replace hag0 := hag0.trans hlegg7
      obtain ⟨cs6, rfl, hcs6⟩ := hvv9
      have hcs6 : cs6 = _ := hcs6; subst hcs6
      refine O (r_move (v := .bool rv7) rfl) rfl ?_
      rcases condS hM with ⟨hg2, hM⟩ | ⟨hg2, hM⟩
      · refine OG rfl rfl rfl (by rw [hg2]; rfl) (r_move (v := v1) rfl) rfl ?_
        obtain ⟨rv8, hrv8, hM⟩ := bindS hM
        refine CG rfl rfl rfl (by rw [hg2]; rfl) [v1] cf16 rfl (byteset_Classes_ok hrv8 hs.imm hRv1) rfl ?_
        rintro v10 wv7 ⟨gg8, hvv10, hegg8⟩
        have hlegg8 := hegg8.le hs.imm
        replace hs := hs.call hegg8
        replace hRv1 := hRv1.mono hlegg8
        replace hag0 := hag0.trans hlegg8
        obtain ⟨cs7, rfl, hcs7⟩ := hvv10
        obtain ⟨v11, rfl, hRv11⟩ := hcs7
        refine OG rfl rfl rfl (by rw [hg2]; rfl) (r_move (v := v1) rfl) rfl ?_
        obtain ⟨rv9, hrv9, hM⟩ := bindS hM
        refine CG rfl rfl rfl (by rw [hg2]; rfl) [v1] cf17 rfl (ref07_Classes_ok hrv9 hs.imm hRv1) rfl ?_
        rintro v12 wv8 ⟨gg9, hvv12, hegg9⟩
        have hlegg9 := hegg9.le hs.imm
        replace hs := hs.call hegg9
        replace hRv1 := hRv1.mono hlegg9
        replace hRv11 := hRv11.mono hlegg9
        replace hag0 := hag0.trans hlegg9
        obtain ⟨cs8, rfl, hcs8⟩ := hvv12
        obtain ⟨v13, rfl, hRv13⟩ := hcs8
        obtain ⟨rv10, hrv10, hM⟩ := bindS hM
        refine CG rfl rfl rfl (by rw [hg2]; rfl) [v11, v13] cf15 rfl (ref07_Ints_ok hrv10 hs.imm hRv11 hRv13) rfl ?_
        rintro v14 wv9 ⟨gg10, hvv14, hegg10⟩
        have hlegg10 := hegg10.le hs.imm
        replace hs := hs.call hegg10
        replace hRv1 := hRv1.mono hlegg10
        replace hRv11 := hRv11.mono hlegg10
        replace hRv13 := hRv13.mono hlegg10
        replace hag0 := hag0.trans hlegg10
        obtain ⟨cs9, rfl, hcs9⟩ := hvv14
        have hcs9 : cs9 = _ := hcs9; subst hcs9
        refine O (r_pickT (v := .bool rv10) rfl hg2 rfl) rfl ?_
        refine O (r_assign (v := .bool rv10) rfl) rfl ?_
        refine OW_nil ?_
        obtain rfl := Option.some.inj hM
        exact ⟨gg10, rfl, hag0, hs⟩
      · refine OK rfl rfl rfl (by rw [hg2]; rfl) rfl ?_
        refine OK rfl rfl rfl (by rw [hg2]; rfl) rfl ?_
        refine OK rfl rfl rfl (by rw [hg2]; rfl) rfl ?_
        refine OK rfl rfl rfl (by rw [hg2]; rfl) rfl ?_
        refine OK rfl rfl rfl (by rw [hg2]; rfl) rfl ?_
        refine O (r_pickF (v := .bool false) rfl hg2 rfl) rfl ?_
        refine O (r_assign (v := .bool false) rfl) rfl ?_
        refine OW_nil ?_
        obtain rfl := Option.some.inj hM
        exact ⟨gg7, rfl, hag0, hs⟩
    · clear hs
      rintro E w ⟨gg6, hE2, hlegg6, hs⟩
      have hM := hKhx1
      obtain ⟨E, rfl⟩ := open1 (E := E) hE2
      refine WP_ret ?_
      obtain rfl := Option.some.inj hM
      exact ⟨_, res1 Try.results4 (rv_tmp (v := .bool rv6) rfl), gg6, ⟨[.bool rv6], rfl, rfl⟩, hs.ext⟩

set_option maxRecDepth 100000 in
theorem law07_BytesetRefines_ok {p1 : (List (Vec 4))} {p2 : (Vec 4)} {p3 : (Vec 2)} {r : Bool} (hM : M.law07_BytesetRefines p1 p2 p3 = some r) {g0 : Hp} {w0 : World} (hi : Imm g0 w0) {v1 : Value} (hRv1 : RdS (tVec 4 .u64) g0 v1 p1) :
    CallsV Try.prog 5 #[v1, encV .u64 p2, encV .u8 p3] w0 (fun v w' => ∃ g', (VRd tBool false g' v r) ∧ Ext g0 w0 g' w') := by
  unfold M.law07_BytesetRefines at hM
  have hs := Sep.start hi
  refine calls_of_WP (args := [v1, encV .u64 p2, encV .u8 p3]) Try.func5 rfl Try.ntmps5 rfl ?_
  refine WP_seq ?_
  refine WP_region ?_
  refine OW_box (v := encV .u64 p2) rfl hs (zs := p2.1.map (.int .u64)) rfl rfl ?_
  intro b1 wv1 hs
  refine OW_box (v := encV .u8 p3) rfl hs (zs := p3.1.map (.int .u8)) rfl rfl ?_
  intro b2 wv2 hs
  refine O (r_assign (v := .bool false) rfl) rfl ?_
  refine OW_nil ?_
  refine WP_seq ?_
  refine WP_seq ?_
  refine WP_region ?_
  refine O (r_move (v := v1) rfl) rfl ?_
  obtain ⟨a1, ca1, hva1⟩ := hRv1.shape
  refine O (r_lenSl (v := v1) Try.underlying30 rfl hva1) rfl ?_
  refine O (r_gtr rfl rfl) rfl ?_
  refine OW_nil ?_
  rcases condS hM with ⟨hc1, hM⟩ | ⟨hc1, hM⟩
  · refine WP_true rfl hc1 ?_
    refine WP_seq ?_
    refine WP_region ?_
    obtain ⟨rv1, hrv1, hM⟩ := bindS hM
    refine C [] cf8 rfl (law07_awake_ok hrv1 hs.imm) rfl ?_
    rintro v2 wv3 ⟨gg1, hvv2, hegg1⟩
    have hlegg1 := hegg1.le hs.imm
    replace hs := hs.call hegg1
    replace hRv1 := hRv1.mono hlegg1
    obtain ⟨cs1, rfl, hcs1⟩ := hvv2
    have hcs1 : cs1 = _ := hcs1; subst hcs1
    refine O (r_assign (v := .bool rv1) rfl) rfl ?_
    refine OW_nil ?_
    refine WP_ret ?_
    obtain rfl := Option.some.inj hM
    exact ⟨_, res1 Try.results5 (rv_tmp (v := .bool rv1) rfl), gg1, ⟨[.bool rv1], rfl, rfl⟩, hs.ext⟩
  · refine WP_false rfl hc1 ?_
    refine WP_skip ?_
    obtain ⟨⟨l1, l2⟩, hx1, hKhx1⟩ := bindS hM
    refine WP_cut (fun E w => ∃ (gg26 : Hp) (v65 : Value) (v66 : Value), E 0 = v1 ∧ E 4 = .pointer (some ⟨b1, 0, none⟩) ∧ E 5 = .pointer (some ⟨b2, 0, none⟩) ∧ E 7 = v65 ∧ E 8 = v66 ∧ Hle g0 gg26 ∧ RdS (tInt .i64) gg26 v65 l1 ∧ RdS (tInt .i64) gg26 v66 l2 ∧ Go.Lx.Sep g0 w0 gg26 w [Go.Lx.box b2 35 (p3.1.map (.int .u8)), Go.Lx.box b1 25 (p2.1.map (.int .u64))]) ?_ ?_
    · have hM := hx1
      have hag0 := Hle.refl g0
      obtain ⟨rv4, hrv4, hM⟩ := bindS hM
      obtain ⟨y3, hy3, hM⟩ := bindS hM
      obtain ⟨y4, hy4, hM⟩ := bindS hM
      obtain ⟨rv5, hrv5, hM⟩ := bindS hM
      refine WP_any (.q 0 (.q 3 (.q 5 (.c 1 (.c 2 (.c 4 (.s 6 (.s 7 (.s 8 (.q 9 (.q 10 (.leaf)))))) (.c 6 (.s 4 (.s 7 (.s 8 (.q 9 (.q 10 (.leaf)))))) (.n))) (.c 6 (.s 2 (.s 4 (.s 7 (.s 8 (.q 9 (.q 10 (.leaf))))))) (.n))) (.c 2 (.c 1 (.c 4 (.s 6 (.s 7 (.s 8 (.q 9 (.q 10 (.leaf)))))) (.c 6 (.s 4 (.s 7 (.s 8 (.q 9 (.q 10 (.leaf)))))) (.n))) (.c 6 (.s 1 (.s 4 (.s 7 (.s 8 (.q 9 (.q 10 (.leaf))))))) (.n))) (.c 6 (.c 1 (.s 2 (.s 4 (.s 7 (.s 8 (.q 9 (.q 10 (.leaf))))))) (.c 2 (.s 1 (.s 4 (.s 7 (.s 8 (.q 9 (.q 10 (.leaf))))))) (.n))) (.n))))))) (SS g0 w0 g0 [Go.Lx.box b2 35 (p3.1.map (.int .u8)), Go.Lx.box b1 25 (p2.1.map (.int .u64))]) mo (by decide +kernel) (fun _ _ _ h => h) ?_
      have hs := hs.drew
      have hRv1b := hRv1
      have hS : SS g0 w0 g0 [Go.Lx.box b2 35 (p3.1.map (.int .u8)), Go.Lx.box b1 25 (p2.1.map (.int .u64))] _ := ⟨g0, Hle.refl _, hs⟩
      refine A rfl hS (fun w9 h9 => by obtain ⟨g9, hle9, hs⟩ := h9; exact r_move (v := v1) rfl) rfl ?_
      refine A rfl hS (fun w9 h9 => by obtain ⟨g9, hle9, hs⟩ := h9; exact r_move (v := v1) rfl) rfl ?_
      refine A rfl hS (fun w9 h9 => by obtain ⟨g9, hle9, hs⟩ := h9; exact r_loadN (cs := p2.1.map (.int .u64)) ti25 rfl (by simp [p2.2]) (hs.cells (i := 1) rfl)) rfl ?_
      refine A2 rfl ?_ ?_
      · refine C [v1] cf16 rfl (byteset_Classes_ok hrv4 hs.imm hRv1) rfl ?_
        rintro v75 wv57 ⟨gg30, hvv75, hegg30⟩
        have hlegg30 := hegg30.le hs.imm
        replace hs := hs.call hegg30
        replace hRv1 := hRv1.mono hlegg30
        replace hag0 := hag0.trans hlegg30
        obtain ⟨cs19, rfl, hcs19⟩ := hvv75
        obtain ⟨v76, rfl, hRv76⟩ := hcs19
        refine OW_nil ?_
        have hS : SS g0 w0 g0 [Go.Lx.box b2 35 (p3.1.map (.int .u8)), Go.Lx.box b1 25 (p2.1.map (.int .u64))] _ := ⟨gg30, hag0, hs⟩
        refine ⟨hS, ?_⟩
        refine A2 rfl ?_ ?_
        · refine OW_lit (τ := (tVec 4 .u64)) [] [] Try.underlying30 ti25 (by decide) hs rfl rfl rfl trivial rfl ?_
          intro v77 wv58 xs47 hrelxs47 hs
          refine OW_nil ?_
          have hS : SS g0 w0 g0 [Go.Lx.box b2 35 (p3.1.map (.int .u8)), Go.Lx.box b1 25 (p2.1.map (.int .u64))] _ := ⟨gg30, hag0, (hs.sub (.cons _ (.cons_cons _ (.cons_cons _ .slnil))))⟩
          refine ⟨hS, ?_⟩
          refine A2 rfl ?_ ?_
          · obtain ⟨xs48, hrxs48, hlxs48⟩ := (id hRv1)
            refine OW_append Try.underlying30 ti25 rfl (by decide) (by decide) hs (i := 0) rfl hrelxs47 (v := v77) rfl (u := v1) rfl (hlxs48.src hs.imm) hrxs48 hy3 rfl ?_
            intro v78 wv59 xs49 hrelxs49 hs
            refine OW_nil ?_
            have hS : SS g0 w0 g0 [Go.Lx.box b2 35 (p3.1.map (.int .u8)), Go.Lx.box b1 25 (p2.1.map (.int .u64))] _ := ⟨gg30, hag0, (hs.sub (.cons _ (.cons_cons _ (.cons_cons _ .slnil))))⟩
            refine ⟨hS, ?_⟩
            refine A1 rfl ?_
            refine OW_lit (τ := (tVec 4 .u64)) [encV .u64 p2] [p2] Try.underlying30 ti25 (by decide) hs rfl rfl rfl ⟨rfl, trivial⟩ rfl ?_
            intro v79 wv60 xs50 hrelxs50 hs
            refine OW_nil ?_
            have hS : SS g0 w0 g0 [Go.Lx.box b2 35 (p3.1.map (.int .u8)), Go.Lx.box b1 25 (p2.1.map (.int .u64))] _ := ⟨gg30, hag0, (hs.sub (.cons _ (.cons _ (.cons_cons _ (.cons_cons _ .slnil)))))⟩
            refine ⟨hS, ?_⟩
            refine A1 rfl ?_
            refine OW_append Try.underlying30 ti25 rfl (by decide) (by decide) hs (i := 1) rfl hrelxs49 (v := v78) rfl (u := v79) rfl (hs.rowSrc (i := 0) rfl) hrelxs50 hy4 rfl ?_
            intro v80 wv61 xs51 hrelxs51 hs
            refine OW_nil ?_
            have hS : SS g0 w0 g0 [Go.Lx.box b2 35 (p3.1.map (.int .u8)), Go.Lx.box b1 25 (p2.1.map (.int .u64))] _ := ⟨gg30, hag0, (hs.sub (.cons _ (.cons _ (.cons_cons _ (.cons_cons _ .slnil)))))⟩
            refine ⟨hS, ?_⟩
            refine A1 rfl ?_
            obtain ⟨gg31, hlegg31, hRgg31, hs⟩ := hs.relRow (i := 1) rfl hrelxs51
            replace hRv1 := hRv1.mono hlegg31
            replace hRv76 := hRv76.mono hlegg31
            replace hrelxs50 := hrelxs50.mono hlegg31
            replace hag0 := hag0.trans hlegg31
            refine C [v80] cf16 rfl (byteset_Classes_ok hrv5 hs.imm hRgg31) rfl ?_
            rintro v81 wv62 ⟨gg32, hvv81, hegg32⟩
            have hlegg32 := hegg32.le hs.imm
            replace hs := hs.call hegg32
            replace hRv1 := hRv1.mono hlegg32
            replace hRv76 := hRv76.mono hlegg32
            replace hrelxs50 := hrelxs50.mono hlegg32
            replace hRgg31 := hRgg31.mono hlegg32
            replace hag0 := hag0.trans hlegg32
            obtain ⟨cs20, rfl, hcs20⟩ := hvv81
            obtain ⟨v82, rfl, hRv82⟩ := hcs20
            refine OW_nil ?_
            have hS : SS g0 w0 g0 [Go.Lx.box b2 35 (p3.1.map (.int .u8)), Go.Lx.box b1 25 (p2.1.map (.int .u64))] _ := ⟨gg32, hag0, (hs.sub (.cons _ (.cons_cons _ (.cons_cons _ .slnil))))⟩
            refine ⟨hS, ?_⟩
            refine A rfl hS (fun w9 h9 => by obtain ⟨g9, hle9, hs⟩ := h9; exact r_assign (v := v76) rfl) rfl ?_
            refine A rfl hS (fun w9 h9 => by obtain ⟨g9, hle9, hs⟩ := h9; exact r_assign (v := v82) rfl) rfl ?_
            refine AN ?_
            simp only [Option.some.injEq, Prod.mk.injEq] at hM
            obtain ⟨rfl, rfl⟩ := hM
            exact ⟨gg32, v76, v82, rfl, rfl, rfl, rfl, rfl, hag0, hRv76, hRv82, (hs.sub (.cons _ (.cons_cons _ (.cons_cons _ .slnil))))⟩
          refine A2 rfl ?_ ?_
          · refine OW_lit (τ := (tVec 4 .u64)) [encV .u64 p2] [p2] Try.underlying30 ti25 (by decide) hs rfl rfl rfl ⟨rfl, trivial⟩ rfl ?_
            intro v83 wv63 xs52 hrelxs52 hs
            refine OW_nil ?_
            have hS : SS g0 w0 g0 [Go.Lx.box b2 35 (p3.1.map (.int .u8)), Go.Lx.box b1 25 (p2.1.map (.int .u64))] _ := ⟨gg30, hag0, (hs.sub (.cons _ (.cons _ (.cons_cons _ (.cons_cons _ .slnil)))))⟩
            refine ⟨hS, ?_⟩
            refine A1 rfl ?_
            obtain ⟨xs53, hrxs53, hlxs53⟩ := (id hRv1)
            refine OW_append Try.underlying30 ti25 rfl (by decide) (by decide) hs (i := 1) rfl hrelxs47 (v := v77) rfl (u := v1) rfl (hlxs53.src hs.imm) hrxs53 hy3 rfl ?_
            intro v84 wv64 xs54 hrelxs54 hs
            refine OW_nil ?_
            have hS : SS g0 w0 g0 [Go.Lx.box b2 35 (p3.1.map (.int .u8)), Go.Lx.box b1 25 (p2.1.map (.int .u64))] _ := ⟨gg30, hag0, (hs.sub (.cons _ (.cons _ (.cons_cons _ (.cons_cons _ .slnil)))))⟩
            refine ⟨hS, ?_⟩
            refine A1 rfl ?_
            refine OW_append Try.underlying30 ti25 rfl (by decide) (by decide) hs (i := 1) rfl hrelxs54 (v := v84) rfl (u := v83) rfl (hs.rowSrc (i := 0) rfl) hrelxs52 hy4 rfl ?_
            intro v85 wv65 xs55 hrelxs55 hs
            refine OW_nil ?_
            have hS : SS g0 w0 g0 [Go.Lx.box b2 35 (p3.1.map (.int .u8)), Go.Lx.box b1 25 (p2.1.map (.int .u64))] _ := ⟨gg30, hag0, (hs.sub (.cons _ (.cons _ (.cons_cons _ (.cons_cons _ .slnil)))))⟩
            refine ⟨hS, ?_⟩
            refine A1 rfl ?_
            obtain ⟨gg33, hlegg33, hRgg33, hs⟩ := hs.relRow (i := 1) rfl hrelxs55
            replace hRv1 := hRv1.mono hlegg33
            replace hRv76 := hRv76.mono hlegg33
            replace hrelxs52 := hrelxs52.mono hlegg33
            replace hag0 := hag0.trans hlegg33
            refine C [v85] cf16 rfl (byteset_Classes_ok hrv5 hs.imm hRgg33) rfl ?_
            rintro v86 wv66 ⟨gg34, hvv86, hegg34⟩
            have hlegg34 := hegg34.le hs.imm
            replace hs := hs.call hegg34
            replace hRv1 := hRv1.mono hlegg34
            replace hRv76 := hRv76.mono hlegg34
            replace hrelxs52 := hrelxs52.mono hlegg34
            replace hRgg33 := hRgg33.mono hlegg34
            replace hag0 := hag0.trans hlegg34
            obtain ⟨cs21, rfl, hcs21⟩ := hvv86
            obtain ⟨v87, rfl, hRv87⟩ := hcs21
            refine OW_nil ?_
            have hS : SS g0 w0 g0 [Go.Lx.box b2 35 (p3.1.map (.int .u8)), Go.Lx.box b1 25 (p2.1.map (.int .u64))] _ := ⟨gg34, hag0, (hs.sub (.cons _ (.cons_cons _ (.cons_cons _ .slnil))))⟩
            refine ⟨hS, ?_⟩
            refine A rfl hS (fun w9 h9 => by obtain ⟨g9, hle9, hs⟩ := h9; exact r_assign (v := v76) rfl) rfl ?_
            refine A rfl hS (fun w9 h9 => by obtain ⟨g9, hle9, hs⟩ := h9; exact r_assign (v := v87) rfl) rfl ?_
            refine AN ?_
            simp only [Option.some.injEq, Prod.mk.injEq] at hM
            obtain ⟨rfl, rfl⟩ := hM
            exact ⟨gg34, v76, v87, rfl, rfl, rfl, rfl, rfl, hag0, hRv76, hRv87, (hs.sub (.cons _ (.cons_cons _ (.cons_cons _ .slnil))))⟩
          trivial
        refine A2 rfl ?_ ?_
        · refine OW_lit (τ := (tVec 4 .u64)) [encV .u64 p2] [p2] Try.underlying30 ti25 (by decide) hs rfl rfl rfl ⟨rfl, trivial⟩ rfl ?_
          intro v88 wv67 xs56 hrelxs56 hs
          refine OW_nil ?_
          have hS : SS g0 w0 g0 [Go.Lx.box b2 35 (p3.1.map (.int .u8)), Go.Lx.box b1 25 (p2.1.map (.int .u64))] _ := ⟨gg30, hag0, (hs.sub (.cons _ (.cons_cons _ (.cons_cons _ .slnil))))⟩
          refine ⟨hS, ?_⟩
          refine A1 rfl ?_
          refine OW_lit (τ := (tVec 4 .u64)) [] [] Try.underlying30 ti25 (by decide) hs rfl rfl rfl trivial rfl ?_
          intro v89 wv68 xs57 hrelxs57 hs
          refine OW_nil ?_
          have hS : SS g0 w0 g0 [Go.Lx.box b2 35 (p3.1.map (.int .u8)), Go.Lx.box b1 25 (p2.1.map (.int .u64))] _ := ⟨gg30, hag0, (hs.sub (.cons _ (.cons _ (.cons_cons _ (.cons_cons _ .slnil)))))⟩
          refine ⟨hS, ?_⟩
          refine A1 rfl ?_
          obtain ⟨xs58, hrxs58, hlxs58⟩ := (id hRv1)
          refine OW_append Try.underlying30 ti25 rfl (by decide) (by decide) hs (i := 0) rfl hrelxs57 (v := v89) rfl (u := v1) rfl (hlxs58.src hs.imm) hrxs58 hy3 rfl ?_
          intro v90 wv69 xs59 hrelxs59 hs
          refine OW_nil ?_
          have hS : SS g0 w0 g0 [Go.Lx.box b2 35 (p3.1.map (.int .u8)), Go.Lx.box b1 25 (p2.1.map (.int .u64))] _ := ⟨gg30, hag0, (hs.sub (.cons _ (.cons _ (.cons_cons _ (.cons_cons _ .slnil)))))⟩
          refine ⟨hS, ?_⟩
          refine A1 rfl ?_
          refine OW_append Try.underlying30 ti25 rfl (by decide) (by decide) hs (i := 0) rfl hrelxs59 (v := v90) rfl (u := v88) rfl (hs.rowSrc (i := 1) rfl) hrelxs56 hy4 rfl ?_
          intro v91 wv70 xs60 hrelxs60 hs
          refine OW_nil ?_
          have hS : SS g0 w0 g0 [Go.Lx.box b2 35 (p3.1.map (.int .u8)), Go.Lx.box b1 25 (p2.1.map (.int .u64))] _ := ⟨gg30, hag0, (hs.sub (.cons _ (.cons _ (.cons_cons _ (.cons_cons _ .slnil)))))⟩
          refine ⟨hS, ?_⟩
          refine A1 rfl ?_
          obtain ⟨gg35, hlegg35, hRgg35, hs⟩ := hs.relRow (i := 0) rfl hrelxs60
          replace hRv1 := hRv1.mono hlegg35
          replace hRv76 := hRv76.mono hlegg35
          replace hrelxs56 := hrelxs56.mono hlegg35
          replace hag0 := hag0.trans hlegg35
          refine C [v91] cf16 rfl (byteset_Classes_ok hrv5 hs.imm hRgg35) rfl ?_
          rintro v92 wv71 ⟨gg36, hvv92, hegg36⟩
          have hlegg36 := hegg36.le hs.imm
          replace hs := hs.call hegg36
          replace hRv1 := hRv1.mono hlegg36
          replace hRv76 := hRv76.mono hlegg36
          replace hrelxs56 := hrelxs56.mono hlegg36
          replace hRgg35 := hRgg35.mono hlegg36
          replace hag0 := hag0.trans hlegg36
          obtain ⟨cs22, rfl, hcs22⟩ := hvv92
          obtain ⟨v93, rfl, hRv93⟩ := hcs22
          refine OW_nil ?_
          have hS : SS g0 w0 g0 [Go.Lx.box b2 35 (p3.1.map (.int .u8)), Go.Lx.box b1 25 (p2.1.map (.int .u64))] _ := ⟨gg36, hag0, (hs.sub (.cons _ (.cons_cons _ (.cons_cons _ .slnil))))⟩
          refine ⟨hS, ?_⟩
          refine A rfl hS (fun w9 h9 => by obtain ⟨g9, hle9, hs⟩ := h9; exact r_assign (v := v76) rfl) rfl ?_
          refine A rfl hS (fun w9 h9 => by obtain ⟨g9, hle9, hs⟩ := h9; exact r_assign (v := v93) rfl) rfl ?_
          refine AN ?_
          simp only [Option.some.injEq, Prod.mk.injEq] at hM
          obtain ⟨rfl, rfl⟩ := hM
          exact ⟨gg36, v76, v93, rfl, rfl, rfl, rfl, rfl, hag0, hRv76, hRv93, (hs.sub (.cons _ (.cons_cons _ (.cons_cons _ .slnil))))⟩
        trivial
      refine A2 rfl ?_ ?_
      · refine OW_lit (τ := (tVec 4 .u64)) [] [] Try.underlying30 ti25 (by decide) hs rfl rfl rfl trivial rfl ?_
        intro v94 wv72 xs61 hrelxs61 hs
        refine OW_nil ?_
        have hS : SS g0 w0 g0 [Go.Lx.box b2 35 (p3.1.map (.int .u8)), Go.Lx.box b1 25 (p2.1.map (.int .u64))] _ := ⟨g0, (Hle.refl _), (hs.sub (.cons _ (.cons_cons _ (.cons_cons _ .slnil))))⟩
        refine ⟨hS, ?_⟩
        refine A2 rfl ?_ ?_
        · refine C [v1] cf16 rfl (byteset_Classes_ok hrv4 hs.imm hRv1) rfl ?_
          rintro v95 wv73 ⟨gg37, hvv95, hegg37⟩
          have hlegg37 := hegg37.le hs.imm
          replace hs := hs.call hegg37
          replace hRv1 := hRv1.mono hlegg37
          replace hrelxs61 := hrelxs61.mono hlegg37
          replace hag0 := hag0.trans hlegg37
          obtain ⟨cs23, rfl, hcs23⟩ := hvv95
          obtain ⟨v96, rfl, hRv96⟩ := hcs23
          refine OW_nil ?_
          have hS : SS g0 w0 g0 [Go.Lx.box b2 35 (p3.1.map (.int .u8)), Go.Lx.box b1 25 (p2.1.map (.int .u64))] _ := ⟨gg37, hag0, (hs.sub (.cons _ (.cons_cons _ (.cons_cons _ .slnil))))⟩
          refine ⟨hS, ?_⟩
          refine A2 rfl ?_ ?_
          · obtain ⟨xs62, hrxs62, hlxs62⟩ := (id hRv1)
            refine OW_append Try.underlying30 ti25 rfl (by decide) (by decide) hs (i := 0) rfl hrelxs61 (v := v94) rfl (u := v1) rfl (hlxs62.src hs.imm) hrxs62 hy3 rfl ?_
            intro v97 wv74 xs63 hrelxs63 hs
            refine OW_nil ?_
            have hS : SS g0 w0 g0 [Go.Lx.box b2 35 (p3.1.map (.int .u8)), Go.Lx.box b1 25 (p2.1.map (.int .u64))] _ := ⟨gg37, hag0, (hs.sub (.cons _ (.cons_cons _ (.cons_cons _ .slnil))))⟩
            refine ⟨hS, ?_⟩
            refine A1 rfl ?_
            refine OW_lit (τ := (tVec 4 .u64)) [encV .u64 p2] [p2] Try.underlying30 ti25 (by decide) hs rfl rfl rfl ⟨rfl, trivial⟩ rfl ?_
            intro v98 wv75 xs64 hrelxs64 hs
            refine OW_nil ?_
            have hS : SS g0 w0 g0 [Go.Lx.box b2 35 (p3.1.map (.int .u8)), Go.Lx.box b1 25 (p2.1.map (.int .u64))] _ := ⟨gg37, hag0, (hs.sub (.cons _ (.cons _ (.cons_cons _ (.cons_cons _ .slnil)))))⟩
            refine ⟨hS, ?_⟩
            refine A1 rfl ?_
            refine OW_append Try.underlying30 ti25 rfl (by decide) (by decide) hs (i := 1) rfl hrelxs63 (v := v97) rfl (u := v98) rfl (hs.rowSrc (i := 0) rfl) hrelxs64 hy4 rfl ?_
            intro v99 wv76 xs65 hrelxs65 hs
            refine OW_nil ?_
            have hS : SS g0 w0 g0 [Go.Lx.box b2 35 (p3.1.map (.int .u8)), Go.Lx.box b1 25 (p2.1.map (.int .u64))] _ := ⟨gg37, hag0, (hs.sub (.cons _ (.cons _ (.cons_cons _ (.cons_cons _ .slnil)))))⟩
            refine ⟨hS, ?_⟩
            refine A1 rfl ?_
            obtain ⟨gg38, hlegg38, hRgg38, hs⟩ := hs.relRow (i := 1) rfl hrelxs65
            replace hRv1 := hRv1.mono hlegg38
            replace hRv96 := hRv96.mono hlegg38
            replace hrelxs64 := hrelxs64.mono hlegg38
            replace hag0 := hag0.trans hlegg38
            refine C [v99] cf16 rfl (byteset_Classes_ok hrv5 hs.imm hRgg38) rfl ?_
            rintro v100 wv77 ⟨gg39, hvv100, hegg39⟩
            have hlegg39 := hegg39.le hs.imm
            replace hs := hs.call hegg39
            replace hRv1 := hRv1.mono hlegg39
            replace hRv96 := hRv96.mono hlegg39
            replace hrelxs64 := hrelxs64.mono hlegg39
            replace hRgg38 := hRgg38.mono hlegg39
            replace hag0 := hag0.trans hlegg39
            obtain ⟨cs24, rfl, hcs24⟩ := hvv100
            obtain ⟨v101, rfl, hRv101⟩ := hcs24
            refine OW_nil ?_
            have hS : SS g0 w0 g0 [Go.Lx.box b2 35 (p3.1.map (.int .u8)), Go.Lx.box b1 25 (p2.1.map (.int .u64))] _ := ⟨gg39, hag0, (hs.sub (.cons _ (.cons_cons _ (.cons_cons _ .slnil))))⟩
            refine ⟨hS, ?_⟩
            refine A rfl hS (fun w9 h9 => by obtain ⟨g9, hle9, hs⟩ := h9; exact r_assign (v := v96) rfl) rfl ?_
            refine A rfl hS (fun w9 h9 => by obtain ⟨g9, hle9, hs⟩ := h9; exact r_assign (v := v101) rfl) rfl ?_
            refine AN ?_
            simp only [Option.some.injEq, Prod.mk.injEq] at hM
            obtain ⟨rfl, rfl⟩ := hM
            exact ⟨gg39, v96, v101, rfl, rfl, rfl, rfl, rfl, hag0, hRv96, hRv101, (hs.sub (.cons _ (.cons_cons _ (.cons_cons _ .slnil))))⟩
          refine A2 rfl ?_ ?_
          · refine OW_lit (τ := (tVec 4 .u64)) [encV .u64 p2] [p2] Try.underlying30 ti25 (by decide) hs rfl rfl rfl ⟨rfl, trivial⟩ rfl ?_
            intro v102 wv78 xs66 hrelxs66 hs
            refine OW_nil ?_
            have hS : SS g0 w0 g0 [Go.Lx.box b2 35 (p3.1.map (.int .u8)), Go.Lx.box b1 25 (p2.1.map (.int .u64))] _ := ⟨gg37, hag0, (hs.sub (.cons _ (.cons _ (.cons_cons _ (.cons_cons _ .slnil)))))⟩
            refine ⟨hS, ?_⟩
            refine A1 rfl ?_
            obtain ⟨xs67, hrxs67, hlxs67⟩ := (id hRv1)
            refine OW_append Try.underlying30 ti25 rfl (by decide) (by decide) hs (i := 1) rfl hrelxs61 (v := v94) rfl (u := v1) rfl (hlxs67.src hs.imm) hrxs67 hy3 rfl ?_
            intro v103 wv79 xs68 hrelxs68 hs
            refine OW_nil ?_
            have hS : SS g0 w0 g0 [Go.Lx.box b2 35 (p3.1.map (.int .u8)), Go.Lx.box b1 25 (p2.1.map (.int .u64))] _ := ⟨gg37, hag0, (hs.sub (.cons _ (.cons _ (.cons_cons _ (.cons_cons _ .slnil)))))⟩
            refine ⟨hS, ?_⟩
            refine A1 rfl ?_
            refine OW_append Try.underlying30 ti25 rfl (by decide) (by decide) hs (i := 1) rfl hrelxs68 (v := v103) rfl (u := v102) rfl (hs.rowSrc (i := 0) rfl) hrelxs66 hy4 rfl ?_
            intro v104 wv80 xs69 hrelxs69 hs
            refine OW_nil ?_
            have hS : SS g0 w0 g0 [Go.Lx.box b2 35 (p3.1.map (.int .u8)), Go.Lx.box b1 25 (p2.1.map (.int .u64))] _ := ⟨gg37, hag0, (hs.sub (.cons _ (.cons _ (.cons_cons _ (.cons_cons _ .slnil)))))⟩
            refine ⟨hS, ?_⟩
            refine A1 rfl ?_
            obtain ⟨gg40, hlegg40, hRgg40, hs⟩ := hs.relRow (i := 1) rfl hrelxs69
            replace hRv1 := hRv1.mono hlegg40
            replace hRv96 := hRv96.mono hlegg40
            replace hrelxs66 := hrelxs66.mono hlegg40
            replace hag0 := hag0.trans hlegg40
            refine C [v104] cf16 rfl (byteset_Classes_ok hrv5 hs.imm hRgg40) rfl ?_
            rintro v105 wv81 ⟨gg41, hvv105, hegg41⟩
            have hlegg41 := hegg41.le hs.imm
            replace hs := hs.call hegg41
            replace hRv1 := hRv1.mono hlegg41
            replace hRv96 := hRv96.mono hlegg41
            replace hrelxs66 := hrelxs66.mono hlegg41
            replace hRgg40 := hRgg40.mono hlegg41
            replace hag0 := hag0.trans hlegg41
            obtain ⟨cs25, rfl, hcs25⟩ := hvv105
            obtain ⟨v106, rfl, hRv106⟩ := hcs25
            refine OW_nil ?_
            have hS : SS g0 w0 g0 [Go.Lx.box b2 35 (p3.1.map (.int .u8)), Go.Lx.box b1 25 (p2.1.map (.int .u64))] _ := ⟨gg41, hag0, (hs.sub (.cons _ (.cons_cons _ (.cons_cons _ .slnil))))⟩
            refine ⟨hS, ?_⟩
            refine A rfl hS (fun w9 h9 => by obtain ⟨g9, hle9, hs⟩ := h9; exact r_assign (v := v96) rfl) rfl ?_
            refine A rfl hS (fun w9 h9 => by obtain ⟨g9, hle9, hs⟩ := h9; exact r_assign (v := v106) rfl) rfl ?_
            refine AN ?_
            simp only [Option.some.injEq, Prod.mk.injEq] at hM
            obtain ⟨rfl, rfl⟩ := hM
            exact ⟨gg41, v96, v106, rfl, rfl, rfl, rfl, rfl, hag0, hRv96, hRv106, (hs.sub (.cons _ (.cons_cons _ (.cons_cons _ .slnil))))⟩
          trivial
        refine A2 rfl ?_ ?_
        · refine OW_lit (τ := (tVec 4 .u64)) [encV .u64 p2] [p2] Try.underlying30 ti25 (by decide) hs rfl rfl rfl ⟨rfl, trivial⟩ rfl ?_
          intro v107 wv82 xs70 hrelxs70 hs
          refine OW_nil ?_
          have hS : SS g0 w0 g0 [Go.Lx.box b2 35 (p3.1.map (.int .u8)), Go.Lx.box b1 25 (p2.1.map (.int .u64))] _ := ⟨g0, (Hle.refl _), (hs.sub (.cons _ (.cons _ (.cons_cons _ (.cons_cons _ .slnil)))))⟩
          refine ⟨hS, ?_⟩
          refine A1 rfl ?_
          refine C [v1] cf16 rfl (byteset_Classes_ok hrv4 hs.imm hRv1) rfl ?_
          rintro v108 wv83 ⟨gg42, hvv108, hegg42⟩
          have hlegg42 := hegg42.le hs.imm
          replace hs := hs.call hegg42
          replace hRv1 := hRv1.mono hlegg42
          replace hrelxs61 := hrelxs61.mono hlegg42
          replace hrelxs70 := hrelxs70.mono hlegg42
          replace hag0 := hag0.trans hlegg42
          obtain ⟨cs26, rfl, hcs26⟩ := hvv108
          obtain ⟨v109, rfl, hRv109⟩ := hcs26
          refine OW_nil ?_
          have hS : SS g0 w0 g0 [Go.Lx.box b2 35 (p3.1.map (.int .u8)), Go.Lx.box b1 25 (p2.1.map (.int .u64))] _ := ⟨gg42, hag0, (hs.sub (.cons _ (.cons _ (.cons_cons _ (.cons_cons _ .slnil)))))⟩
          refine ⟨hS, ?_⟩
          refine A1 rfl ?_
          obtain ⟨xs71, hrxs71, hlxs71⟩ := (id hRv1)
          refine OW_append Try.underlying30 ti25 rfl (by decide) (by decide) hs (i := 1) rfl hrelxs61 (v := v94) rfl (u := v1) rfl (hlxs71.src hs.imm) hrxs71 hy3 rfl ?_
          intro v110 wv84 xs72 hrelxs72 hs
          refine OW_nil ?_
          have hS : SS g0 w0 g0 [Go.Lx.box b2 35 (p3.1.map (.int .u8)), Go.Lx.box b1 25 (p2.1.map (.int .u64))] _ := ⟨gg42, hag0, (hs.sub (.cons _ (.cons _ (.cons_cons _ (.cons_cons _ .slnil)))))⟩
          refine ⟨hS, ?_⟩
          refine A1 rfl ?_
          refine OW_append Try.underlying30 ti25 rfl (by decide) (by decide) hs (i := 1) rfl hrelxs72 (v := v110) rfl (u := v107) rfl (hs.rowSrc (i := 0) rfl) hrelxs70 hy4 rfl ?_
          intro v111 wv85 xs73 hrelxs73 hs
          refine OW_nil ?_
          have hS : SS g0 w0 g0 [Go.Lx.box b2 35 (p3.1.map (.int .u8)), Go.Lx.box b1 25 (p2.1.map (.int .u64))] _ := ⟨gg42, hag0, (hs.sub (.cons _ (.cons _ (.cons_cons _ (.cons_cons _ .slnil)))))⟩
          refine ⟨hS, ?_⟩
          refine A1 rfl ?_
          obtain ⟨gg43, hlegg43, hRgg43, hs⟩ := hs.relRow (i := 1) rfl hrelxs73
          replace hRv1 := hRv1.mono hlegg43
          replace hrelxs70 := hrelxs70.mono hlegg43
          replace hRv109 := hRv109.mono hlegg43
          replace hag0 := hag0.trans hlegg43
          refine C [v111] cf16 rfl (byteset_Classes_ok hrv5 hs.imm hRgg43) rfl ?_
          rintro v112 wv86 ⟨gg44, hvv112, hegg44⟩
          have hlegg44 := hegg44.le hs.imm
          replace hs := hs.call hegg44
          replace hRv1 := hRv1.mono hlegg44
          replace hrelxs70 := hrelxs70.mono hlegg44
          replace hRv109 := hRv109.mono hlegg44
          replace hRgg43 := hRgg43.mono hlegg44
          replace hag0 := hag0.trans hlegg44
          obtain ⟨cs27, rfl, hcs27⟩ := hvv112
          obtain ⟨v113, rfl, hRv113⟩ := hcs27
          refine OW_nil ?_
          have hS : SS g0 w0 g0 [Go.Lx.box b2 35 (p3.1.map (.int .u8)), Go.Lx.box b1 25 (p2.1.map (.int .u64))] _ := ⟨gg44, hag0, (hs.sub (.cons _ (.cons_cons _ (.cons_cons _ .slnil))))⟩
          refine ⟨hS, ?_⟩
          refine A rfl hS (fun w9 h9 => by obtain ⟨g9, hle9, hs⟩ := h9; exact r_assign (v := v109) rfl) rfl ?_
          refine A rfl hS (fun w9 h9 => by obtain ⟨g9, hle9, hs⟩ := h9; exact r_assign (v := v113) rfl) rfl ?_
          refine AN ?_
          simp only [Option.some.injEq, Prod.mk.injEq] at hM
          obtain ⟨rfl, rfl⟩ := hM
          exact ⟨gg44, v109, v113, rfl, rfl, rfl, rfl, rfl, hag0, hRv109, hRv113, (hs.sub (.cons _ (.cons_cons _ (.cons_cons _ .slnil))))⟩
        trivial
      refine A2 rfl ?_ ?_
      · refine OW_lit (τ := (tVec 4 .u64)) [encV .u64 p2] [p2] Try.underlying30 ti25 (by decide) hs rfl rfl rfl ⟨rfl, trivial⟩ rfl ?_
        intro v114 wv87 xs74 hrelxs74 hs
        refine OW_nil ?_
        have hS : SS g0 w0 g0 [Go.Lx.box b2 35 (p3.1.map (.int .u8)), Go.Lx.box b1 25 (p2.1.map (.int .u64))] _ := ⟨g0, (Hle.refl _), (hs.sub (.cons _ (.cons_cons _ (.cons_cons _ .slnil))))⟩
        refine ⟨hS, ?_⟩
        refine A2 rfl ?_ ?_
        · refine C [v1] cf16 rfl (byteset_Classes_ok hrv4 hs.imm hRv1) rfl ?_
          rintro v115 wv88 ⟨gg45, hvv115, hegg45⟩
          have hlegg45 := hegg45.le hs.imm
          replace hs := hs.call hegg45
          replace hRv1 := hRv1.mono hlegg45
          replace hrelxs74 := hrelxs74.mono hlegg45
          replace hag0 := hag0.trans hlegg45
          obtain ⟨cs28, rfl, hcs28⟩ := hvv115
          obtain ⟨v116, rfl, hRv116⟩ := hcs28
          refine OW_nil ?_
          have hS : SS g0 w0 g0 [Go.Lx.box b2 35 (p3.1.map (.int .u8)), Go.Lx.box b1 25 (p2.1.map (.int .u64))] _ := ⟨gg45, hag0, (hs.sub (.cons _ (.cons_cons _ (.cons_cons _ .slnil))))⟩
          refine ⟨hS, ?_⟩
          refine A1 rfl ?_
          refine OW_lit (τ := (tVec 4 .u64)) [] [] Try.underlying30 ti25 (by decide) hs rfl rfl rfl trivial rfl ?_
          intro v117 wv89 xs75 hrelxs75 hs
          refine OW_nil ?_
          have hS : SS g0 w0 g0 [Go.Lx.box b2 35 (p3.1.map (.int .u8)), Go.Lx.box b1 25 (p2.1.map (.int .u64))] _ := ⟨gg45, hag0, (hs.sub (.cons _ (.cons _ (.cons_cons _ (.cons_cons _ .slnil)))))⟩
          refine ⟨hS, ?_⟩
          refine A1 rfl ?_
          obtain ⟨xs76, hrxs76, hlxs76⟩ := (id hRv1)
          refine OW_append Try.underlying30 ti25 rfl (by decide) (by decide) hs (i := 0) rfl hrelxs75 (v := v117) rfl (u := v1) rfl (hlxs76.src hs.imm) hrxs76 hy3 rfl ?_
          intro v118 wv90 xs77 hrelxs77 hs
          refine OW_nil ?_
          have hS : SS g0 w0 g0 [Go.Lx.box b2 35 (p3.1.map (.int .u8)), Go.Lx.box b1 25 (p2.1.map (.int .u64))] _ := ⟨gg45, hag0, (hs.sub (.cons _ (.cons _ (.cons_cons _ (.cons_cons _ .slnil)))))⟩
          refine ⟨hS, ?_⟩
          refine A1 rfl ?_
          refine OW_append Try.underlying30 ti25 rfl (by decide) (by decide) hs (i := 0) rfl hrelxs77 (v := v118) rfl (u := v114) rfl (hs.rowSrc (i := 1) rfl) hrelxs74 hy4 rfl ?_
          intro v119 wv91 xs78 hrelxs78 hs
          refine OW_nil ?_
          have hS : SS g0 w0 g0 [Go.Lx.box b2 35 (p3.1.map (.int .u8)), Go.Lx.box b1 25 (p2.1.map (.int .u64))] _ := ⟨gg45, hag0, (hs.sub (.cons _ (.cons _ (.cons_cons _ (.cons_cons _ .slnil)))))⟩
          refine ⟨hS, ?_⟩
          refine A1 rfl ?_
          obtain ⟨gg46, hlegg46, hRgg46, hs⟩ := hs.relRow (i := 0) rfl hrelxs78
          replace hRv1 := hRv1.mono hlegg46
          replace hrelxs74 := hrelxs74.mono hlegg46
          replace hRv116 := hRv116.mono hlegg46
          replace hag0 := hag0.trans hlegg46
          refine C [v119] cf16 rfl (byteset_Classes_ok hrv5 hs.imm hRgg46) rfl ?_
          rintro v120 wv92 ⟨gg47, hvv120, hegg47⟩
          have hlegg47 := hegg47.le hs.imm
          replace hs := hs.call hegg47
          replace hRv1 := hRv1.mono hlegg47
          replace hrelxs74 := hrelxs74.mono hlegg47
          replace hRv116 := hRv116.mono hlegg47
          replace hRgg46 := hRgg46.mono hlegg47
          replace hag0 := hag0.trans hlegg47
          obtain ⟨cs29, rfl, hcs29⟩ := hvv120
          obtain ⟨v121, rfl, hRv121⟩ := hcs29
          refine OW_nil ?_
          have hS : SS g0 w0 g0 [Go.Lx.box b2 35 (p3.1.map (.int .u8)), Go.Lx.box b1 25 (p2.1.map (.int .u64))] _ := ⟨gg47, hag0, (hs.sub (.cons _ (.cons_cons _ (.cons_cons _ .slnil))))⟩
          refine ⟨hS, ?_⟩
          refine A rfl hS (fun w9 h9 => by obtain ⟨g9, hle9, hs⟩ := h9; exact r_assign (v := v116) rfl) rfl ?_
          refine A rfl hS (fun w9 h9 => by obtain ⟨g9, hle9, hs⟩ := h9; exact r_assign (v := v121) rfl) rfl ?_
          refine AN ?_
          simp only [Option.some.injEq, Prod.mk.injEq] at hM
          obtain ⟨rfl, rfl⟩ := hM
          exact ⟨gg47, v116, v121, rfl, rfl, rfl, rfl, rfl, hag0, hRv116, hRv121, (hs.sub (.cons _ (.cons_cons _ (.cons_cons _ .slnil))))⟩
        refine A2 rfl ?_ ?_
        · refine OW_lit (τ := (tVec 4 .u64)) [] [] Try.underlying30 ti25 (by decide) hs rfl rfl rfl trivial rfl ?_
          intro v122 wv93 xs79 hrelxs79 hs
          refine OW_nil ?_
          have hS : SS g0 w0 g0 [Go.Lx.box b2 35 (p3.1.map (.int .u8)), Go.Lx.box b1 25 (p2.1.map (.int .u64))] _ := ⟨g0, (Hle.refl _), (hs.sub (.cons _ (.cons _ (.cons_cons _ (.cons_cons _ .slnil)))))⟩
          refine ⟨hS, ?_⟩
          refine A1 rfl ?_
          refine C [v1] cf16 rfl (byteset_Classes_ok hrv4 hs.imm hRv1) rfl ?_
          rintro v123 wv94 ⟨gg48, hvv123, hegg48⟩
          have hlegg48 := hegg48.le hs.imm
          replace hs := hs.call hegg48
          replace hRv1 := hRv1.mono hlegg48
          replace hrelxs74 := hrelxs74.mono hlegg48
          replace hrelxs79 := hrelxs79.mono hlegg48
          replace hag0 := hag0.trans hlegg48
          obtain ⟨cs30, rfl, hcs30⟩ := hvv123
          obtain ⟨v124, rfl, hRv124⟩ := hcs30
          refine OW_nil ?_
          have hS : SS g0 w0 g0 [Go.Lx.box b2 35 (p3.1.map (.int .u8)), Go.Lx.box b1 25 (p2.1.map (.int .u64))] _ := ⟨gg48, hag0, (hs.sub (.cons _ (.cons _ (.cons_cons _ (.cons_cons _ .slnil)))))⟩
          refine ⟨hS, ?_⟩
          refine A1 rfl ?_
          obtain ⟨xs80, hrxs80, hlxs80⟩ := (id hRv1)
          refine OW_append Try.underlying30 ti25 rfl (by decide) (by decide) hs (i := 0) rfl hrelxs79 (v := v122) rfl (u := v1) rfl (hlxs80.src hs.imm) hrxs80 hy3 rfl ?_
          intro v125 wv95 xs81 hrelxs81 hs
          refine OW_nil ?_
          have hS : SS g0 w0 g0 [Go.Lx.box b2 35 (p3.1.map (.int .u8)), Go.Lx.box b1 25 (p2.1.map (.int .u64))] _ := ⟨gg48, hag0, (hs.sub (.cons _ (.cons _ (.cons_cons _ (.cons_cons _ .slnil)))))⟩
          refine ⟨hS, ?_⟩
          refine A1 rfl ?_
          refine OW_append Try.underlying30 ti25 rfl (by decide) (by decide) hs (i := 0) rfl hrelxs81 (v := v125) rfl (u := v114) rfl (hs.rowSrc (i := 1) rfl) hrelxs74 hy4 rfl ?_
          intro v126 wv96 xs82 hrelxs82 hs
          refine OW_nil ?_
          have hS : SS g0 w0 g0 [Go.Lx.box b2 35 (p3.1.map (.int .u8)), Go.Lx.box b1 25 (p2.1.map (.int .u64))] _ := ⟨gg48, hag0, (hs.sub (.cons _ (.cons _ (.cons_cons _ (.cons_cons _ .slnil)))))⟩
          refine ⟨hS, ?_⟩
          refine A1 rfl ?_
          obtain ⟨gg49, hlegg49, hRgg49, hs⟩ := hs.relRow (i := 0) rfl hrelxs82
          replace hRv1 := hRv1.mono hlegg49
          replace hrelxs74 := hrelxs74.mono hlegg49
          replace hRv124 := hRv124.mono hlegg49
          replace hag0 := hag0.trans hlegg49
          refine C [v126] cf16 rfl (byteset_Classes_ok hrv5 hs.imm hRgg49) rfl ?_
          rintro v127 wv97 ⟨gg50, hvv127, hegg50⟩
          have hlegg50 := hegg50.le hs.imm
          replace hs := hs.call hegg50
          replace hRv1 := hRv1.mono hlegg50
          replace hrelxs74 := hrelxs74.mono hlegg50
          replace hRv124 := hRv124.mono hlegg50
          replace hRgg49 := hRgg49.mono hlegg50
          replace hag0 := hag0.trans hlegg50
          obtain ⟨cs31, rfl, hcs31⟩ := hvv127
          obtain ⟨v128, rfl, hRv128⟩ := hcs31
          refine OW_nil ?_
          have hS : SS g0 w0 g0 [Go.Lx.box b2 35 (p3.1.map (.int .u8)), Go.Lx.box b1 25 (p2.1.map (.int .u64))] _ := ⟨gg50, hag0, (hs.sub (.cons _ (.cons_cons _ (.cons_cons _ .slnil))))⟩
          refine ⟨hS, ?_⟩
          refine A rfl hS (fun w9 h9 => by obtain ⟨g9, hle9, hs⟩ := h9; exact r_assign (v := v124) rfl) rfl ?_
          refine A rfl hS (fun w9 h9 => by obtain ⟨g9, hle9, hs⟩ := h9; exact r_assign (v := v128) rfl) rfl ?_
          refine AN ?_
          simp only [Option.some.injEq, Prod.mk.injEq] at hM
          obtain ⟨rfl, rfl⟩ := hM
          exact ⟨gg50, v124, v128, rfl, rfl, rfl, rfl, rfl, hag0, hRv124, hRv128, (hs.sub (.cons _ (.cons_cons _ (.cons_cons _ .slnil))))⟩
        trivial
      trivial
    · clear hs
      rintro E w ⟨gg26, v65, v66, hE0, hE4, hE5, hE7, hE8, hlegg26, hRv65, hRv66, hs⟩
      have hM := hKhx1
      obtain ⟨E, rfl⟩ := open1 (E := E) hE0
      obtain ⟨E, rfl⟩ := open1 (E := E) hE4
      obtain ⟨E, rfl⟩ := open1 (E := E) hE5
      obtain ⟨E, rfl⟩ := open1 (E := E) hE7
      obtain ⟨E, rfl⟩ := open1 (E := E) hE8
      replace hRv1 := hRv1.mono hlegg26
      refine WP_seq ?_
      obtain ⟨xv1, hx2, hKhx2⟩ := bindS hM
      refine WP_cut (fun E w => E 0 = v1 ∧ E 4 = .pointer (some ⟨b1, 0, none⟩) ∧ E 5 = .pointer (some ⟨b2, 0, none⟩) ∧ E 7 = v65 ∧ E 8 = v66 ∧ E 35 = .bool xv1 ∧ Go.Lx.Sep g0 w0 gg26 w [Go.Lx.box b2 35 (p3.1.map (.int .u8)), Go.Lx.box b1 25 (p2.1.map (.int .u64))]) ?_ ?_
      · have hM := hx2
        have hagg26 := Hle.refl gg26
        refine WP_region ?_
        refine O (r_move (v := v65) rfl) rfl ?_
        obtain ⟨a4, ca4, hva4⟩ := hRv65.shape
        refine O (r_lenSl (v := v65) Try.underlying32 rfl hva4) rfl ?_
        refine O (r_neq rfl rfl) rfl ?_
        refine O (r_move (v := .bool ((l1.length : Int) != 256)) rfl) rfl ?_
        rcases condS hM with ⟨hg2, hM⟩ | ⟨hg2, hM⟩
        · refine OK rfl rfl rfl (by rw [hg2]; rfl) rfl ?_
          refine OK rfl rfl rfl (by rw [hg2]; rfl) rfl ?_
          refine OK rfl rfl rfl (by rw [hg2]; rfl) rfl ?_
          refine O (r_pickT (v := .bool true) rfl hg2 rfl) rfl ?_
          refine OW_nil ?_
          obtain rfl := Option.some.inj hM
          exact ⟨rfl, rfl, rfl, rfl, rfl, rfl, hs⟩
        · refine OG rfl rfl rfl (by rw [hg2]; rfl) (r_move (v := v66) rfl) rfl ?_
          obtain ⟨a5, ca5, hva5⟩ := hRv66.shape
          refine OG rfl rfl rfl (by rw [hg2]; rfl) (r_lenSl (v := v66) Try.underlying32 rfl hva5) rfl ?_
          refine OG rfl rfl rfl (by rw [hg2]; rfl) (r_neq rfl rfl) rfl ?_
          refine O (r_pickF (v := .bool ((l2.length : Int) != 256)) rfl hg2 rfl) rfl ?_
          refine OW_nil ?_
          obtain rfl := Option.some.inj hM
          exact ⟨rfl, rfl, rfl, rfl, rfl, rfl, hs⟩
      · clear hs
        rintro E w ⟨hE0, hE4, hE5, hE7, hE8, hE35, hs⟩
        have hM := hKhx2
        obtain ⟨E, rfl⟩ := open1 (E := E) hE0
        obtain ⟨E, rfl⟩ := open1 (E := E) hE4
        obtain ⟨E, rfl⟩ := open1 (E := E) hE5
        obtain ⟨E, rfl⟩ := open1 (E := E) hE7
        obtain ⟨E, rfl⟩ := open1 (E := E) hE8
        obtain ⟨E, rfl⟩ := open1 (E := E) hE35
        rcases condS hM with ⟨hc2, hM⟩ | ⟨hc2, hM⟩
        · refine WP_true rfl hc2 ?_
          refine WP_seq ?_
          refine WP_region ?_
          refine O (r_assign (v := .bool false) rfl) rfl ?_
          refine OW_nil ?_
          refine WP_ret ?_
          obtain rfl := Option.some.inj hM
          exact ⟨_, res1 Try.results5 (rv_tmp (v := .bool false) rfl), gg26, ⟨[.bool false], rfl, rfl⟩, hs.ext⟩
        · refine WP_false rfl hc2 ?_
          refine WP_skip ?_
          refine WP_seq ?_
          refine WP_draw mo (by decide +kernel) ?_
          have hs := hs.drew
          obtain ⟨c1, hc1, hM⟩ := bindS hM
          refine S (r_idxArr Try.underlying35 ti5 rfl rfl (vget_some hc1).1 (vget_some hc1).2.1) rfl ?_
          refine S (r_load ti5 rfl (hs.cell (i := 0) rfl (vget_cell hc1))) rfl ?_
          obtain ⟨c2, hc2, hM⟩ := bindS hM
          refine S (r_idxArr Try.underlying35 ti5 rfl rfl (vget_some hc2).1 (vget_some hc2).2.1) rfl ?_
          refine S (r_load ti5 rfl (hs.cell (i := 0) rfl (vget_cell hc2))) rfl ?_
          refine S (r_assign (v := .int .u8 c1) rfl) rfl ?_
          refine S (r_assign (v := .int .u8 c2) rfl) rfl ?_
          refine SW_nil ?_
          refine WP_seq ?_
          refine WP_region ?_
          refine O (r_assign (v := .bool true) rfl) rfl ?_
          refine OW_nil ?_
          obtain ⟨xv8, hx3, hKhx3⟩ := bindS hM
          refine WP_cut (fun E w => ∃ (gg60 : Hp), E 4 = .pointer (some ⟨b1, 0, none⟩) ∧ E 7 = v65 ∧ E 8 = v66 ∧ E 9 = .int .u8 c1 ∧ E 10 = .int .u8 c2 ∧ E 11 = .bool xv8 ∧ Hle gg26 gg60 ∧ Go.Lx.Sep g0 w0 gg60 w [Go.Lx.box b1 25 (p2.1.map (.int .u64))]) ?_ ?_
          · have hM := hx3
            have hagg26 := Hle.refl gg26
            refine WP_seq ?_
            refine WP_region ?_
            refine O (r_assign (v := .int .i64 0) rfl) rfl ?_
            refine OW_nil ?_
            refine WP_block ?_
            refine WP_loop (fun (st9 : Bool × Int) E w => match st9 with | (xv11, xv12) => ∃ (gg64 : Hp), E 0 = v1 ∧ E 4 = .pointer (some ⟨b1, 0, none⟩) ∧ E 7 = v65 ∧ E 8 = v66 ∧ E 9 = .int .u8 c1 ∧ E 10 = .int .u8 c2 ∧ E 11 = .bool xv11 ∧ E 12 = .int .i64 xv12 ∧ Hle gg26 gg64 ∧ Go.Lx.Sep g0 w0 gg64 w [Go.Lx.box b1 25 (p2.1.map (.int .u64))]) hM ⟨gg26, rfl, rfl, rfl, rfl, rfl, rfl, rfl, rfl, (Hle.refl _), (hs.sub (.cons _ (.cons_cons _ .slnil)))⟩ ?_
            clear hs hM
            rintro ⟨xv11, xv12⟩ o2 E w hM ⟨gg64, hE0, hE4, hE7, hE8, hE9, hE10, hE11, hE12, hlegg64, hs⟩
            obtain ⟨E, rfl⟩ := open1 (E := E) hE0
            obtain ⟨E, rfl⟩ := open1 (E := E) hE4
            obtain ⟨E, rfl⟩ := open1 (E := E) hE7
            obtain ⟨E, rfl⟩ := open1 (E := E) hE8
            obtain ⟨E, rfl⟩ := open1 (E := E) hE9
            obtain ⟨E, rfl⟩ := open1 (E := E) hE10
            obtain ⟨E, rfl⟩ := open1 (E := E) hE11
            obtain ⟨E, rfl⟩ := open1 (E := E) hE12
            replace hRv1 := hRv1.mono hlegg64
            replace hRv65 := hRv65.mono hlegg64
            replace hRv66 := hRv66.mono hlegg64
            replace hagg26 := hagg26.trans hlegg64
            have hagg64 := Hle.refl gg64
            refine WP_seq ?_
            refine WP_seq ?_
            refine WP_region ?_
            refine O (r_move (v := .int .i64 xv12) rfl) rfl ?_
            refine O (r_move (v := v1) rfl) rfl ?_
            obtain ⟨a11, ca11, hva11⟩ := hRv1.shape
            refine O (r_lenSl (v := v1) Try.underlying30 rfl hva11) rfl ?_
            refine O (r_lss rfl rfl) rfl ?_
            refine OW_nil ?_
            rcases condS hM with ⟨hc8, hM⟩ | ⟨hc8, hM⟩
            · refine WP_true rfl hc8 ?_
              refine WP_skip ?_
              refine WP_seq ?_
              refine WP_block ?_
              refine WP_any (.q 0 (.q 1 (.q 2 (.q 3 (.q 4 (.q 5 (.q 6 (.q 8 (.q 9 (.q 10 (.q 11 (.q 12 (.s 7 (.s 13 (.q 14 (.q 15 (.q 16 (.leaf)))))))))))))))))) (SS g0 w0 gg64 [Go.Lx.box b1 25 (p2.1.map (.int .u64))]) mo (by decide +kernel) (fun _ _ _ h => h) ?_
              have hs := hs.drew
              have hRv1b := hRv1
              have hRv65b := hRv65
              have hRv66b := hRv66
              have hS : SS g0 w0 gg64 [Go.Lx.box b1 25 (p2.1.map (.int .u64))] _ := ⟨gg64, Hle.refl _, hs⟩
              refine A rfl hS (fun w9 h9 => by obtain ⟨g9, hle9, hs⟩ := h9; exact r_move (v := .bool xv11) rfl) rfl ?_
              refine A rfl hS (fun w9 h9 => by obtain ⟨g9, hle9, hs⟩ := h9; exact r_move (v := .bool xv11) rfl) rfl ?_
              rcases condS hM with ⟨hg6, hM⟩ | ⟨hg6, hM⟩
              · refine AG rfl rfl rfl rfl (by rw [hg6]; rfl) hS (fun w9 h9 => by obtain ⟨g9, hle9, hs⟩ := h9; exact r_move (v := v1) rfl) rfl ?_
                refine AG rfl rfl rfl rfl (by rw [hg6]; rfl) hS (fun w9 h9 => by obtain ⟨g9, hle9, hs⟩ := h9; exact r_move (v := .int .i64 xv12) rfl) rfl ?_
                obtain ⟨e6, he6, hM⟩ := bindS hM
                obtain ⟨b13, ob13, cb13, hvb13, cs52, hcs52, hcb13⟩ := hRv1b.at he6
                have hcs52 : cs52 = _ := hcs52; subst hcs52
                refine AG rfl rfl rfl rfl (by rw [hg6]; rfl) hS (fun w9 h9 => by obtain ⟨g9, hle9, hs⟩ := h9; exact r_idxSl Try.underlying30 ti25 (v := v1) rfl hvb13 rfl (idxL_some he6).1 (idxL_some he6).2.1) rfl ?_
                refine AG rfl rfl rfl rfl (by rw [hg6]; rfl) hS (fun w9 h9 => by obtain ⟨g9, hle9, hs⟩ := h9; exact r_loadEl (cs := e6.1.map (.int .u64)) ti25 rfl (by simp [e6.2]) (.inl rfl) (hcb13 _ (hs.imm.of_le hle9)) (v := encV .u64 e6) rfl) rfl ?_
                refine AG rfl rfl rfl rfl (by rw [hg6]; rfl) hS (fun w9 h9 => by obtain ⟨g9, hle9, hs⟩ := h9; exact r_move (v := .int .u8 c1) rfl) rfl ?_
                refine AG rfl rfl rfl rfl (by rw [hg6]; rfl) hS (fun w9 h9 => by obtain ⟨g9, hle9, hs⟩ := h9; exact r_move (v := v1) rfl) rfl ?_
                refine AG rfl rfl rfl rfl (by rw [hg6]; rfl) hS (fun w9 h9 => by obtain ⟨g9, hle9, hs⟩ := h9; exact r_move (v := .int .i64 xv12) rfl) rfl ?_
                obtain ⟨b14, ob14, cb14, hvb14, cs53, hcs53, hcb14⟩ := hRv1b.at he6
                have hcs53 : cs53 = _ := hcs53; subst hcs53
                refine AG rfl rfl rfl rfl (by rw [hg6]; rfl) hS (fun w9 h9 => by obtain ⟨g9, hle9, hs⟩ := h9; exact r_idxSl Try.underlying30 ti25 (v := v1) rfl hvb14 rfl (idxL_some he6).1 (idxL_some he6).2.1) rfl ?_
                refine AG rfl rfl rfl rfl (by rw [hg6]; rfl) hS (fun w9 h9 => by obtain ⟨g9, hle9, hs⟩ := h9; exact r_loadEl (cs := e6.1.map (.int .u64)) ti25 rfl (by simp [e6.2]) (.inl rfl) (hcb14 _ (hs.imm.of_le hle9)) (v := encV .u64 e6) rfl) rfl ?_
                refine AG rfl rfl rfl rfl (by rw [hg6]; rfl) hS (fun w9 h9 => by obtain ⟨g9, hle9, hs⟩ := h9; exact r_move (v := .int .u8 c2) rfl) rfl ?_
                refine A1 rfl ?_
                obtain ⟨rv16, hrv16, hM⟩ := bindS hM
                refine CG rfl rfl rfl (by rw [hg6]; rfl) [encV .u64 e6, .int .u8 c1] cf13 rfl (byteset_Has_ok hrv16 hs.imm) rfl ?_
                rintro v139 wv108 ⟨gg68, hvv139, hegg68⟩
                have hlegg68 := hegg68.le hs.imm
                replace hs := hs.call hegg68
                replace hRv1 := hRv1.mono hlegg68
                replace hRv65 := hRv65.mono hlegg68
                replace hRv66 := hRv66.mono hlegg68
                replace hlegg64 := hlegg64.trans hlegg68
                replace hagg64 := hagg64.trans hlegg68
                obtain ⟨cs54, rfl, hcs54⟩ := hvv139
                have hcs54 : cs54 = _ := hcs54; subst hcs54
                refine OW_nil ?_
                have hS : SS g0 w0 gg64 [Go.Lx.box b1 25 (p2.1.map (.int .u64))] _ := ⟨gg68, hagg64, hs⟩
                refine ⟨hS, ?_⟩
                refine A1 rfl ?_
                obtain ⟨rv17, hrv17, hM⟩ := bindS hM
                refine CG rfl rfl rfl (by rw [hg6]; rfl) [encV .u64 e6, .int .u8 c2] cf13 rfl (byteset_Has_ok hrv17 hs.imm) rfl ?_
                rintro v140 wv109 ⟨gg69, hvv140, hegg69⟩
                have hlegg69 := hegg69.le hs.imm
                replace hs := hs.call hegg69
                replace hRv1 := hRv1.mono hlegg69
                replace hRv65 := hRv65.mono hlegg69
                replace hRv66 := hRv66.mono hlegg69
                replace hlegg64 := hlegg64.trans hlegg69
                replace hagg64 := hagg64.trans hlegg69
                obtain ⟨cs55, rfl, hcs55⟩ := hvv140
                have hcs55 : cs55 = _ := hcs55; subst hcs55
                refine OW_nil ?_
                have hS : SS g0 w0 gg64 [Go.Lx.box b1 25 (p2.1.map (.int .u64))] _ := ⟨gg69, hagg64, hs⟩
                refine ⟨hS, ?_⟩
                refine AG rfl rfl rfl rfl (by rw [hg6]; rfl) hS (fun w9 h9 => by obtain ⟨g9, hle9, hs⟩ := h9; exact r_eqlB Try.underlying4 rfl rfl) rfl ?_
                refine A rfl hS (fun w9 h9 => by obtain ⟨g9, hle9, hs⟩ := h9; exact r_pickT (v := .bool (rv16 == rv17)) rfl hg6 rfl) rfl ?_
                refine A rfl hS (fun w9 h9 => by obtain ⟨g9, hle9, hs⟩ := h9; exact r_assign (v := .bool (rv16 == rv17)) rfl) rfl ?_
                refine AN ?_
                refine WP_region ?_
                refine O (r_move (v := .int .i64 xv12) rfl) rfl ?_
                obtain ⟨t9, ht9, hM⟩ := bindS hM
                refine O (r_addM rfl rfl ht9) rfl ?_
                refine O (r_assign (v := .int .i64 t9) rfl) rfl ?_
                refine OW_nil ?_
                obtain rfl := Option.some.inj hM
                exact ⟨gg69, rfl, rfl, rfl, rfl, rfl, rfl, rfl, rfl, hlegg64, hs⟩
              · refine AK rfl rfl rfl rfl (by rw [hg6]; rfl) hS rfl ?_
                refine AK rfl rfl rfl rfl (by rw [hg6]; rfl) hS rfl ?_
                refine AK rfl rfl rfl rfl (by rw [hg6]; rfl) hS rfl ?_
                refine AK rfl rfl rfl rfl (by rw [hg6]; rfl) hS rfl ?_
                refine AK rfl rfl rfl rfl (by rw [hg6]; rfl) hS rfl ?_
                refine AK rfl rfl rfl rfl (by rw [hg6]; rfl) hS rfl ?_
                refine AK rfl rfl rfl rfl (by rw [hg6]; rfl) hS rfl ?_
                refine AK rfl rfl rfl rfl (by rw [hg6]; rfl) hS rfl ?_
                refine AK rfl rfl rfl rfl (by rw [hg6]; rfl) hS rfl ?_
                refine AK rfl rfl rfl rfl (by rw [hg6]; rfl) hS rfl ?_
                refine A1 rfl ?_
                refine OK rfl rfl rfl (by rw [hg6]; rfl) rfl ?_
                refine OW_nil ⟨hS, ?_⟩
                refine A1 rfl ?_
                refine OK rfl rfl rfl (by rw [hg6]; rfl) rfl ?_
                refine OW_nil ⟨hS, ?_⟩
                refine AK rfl rfl rfl rfl (by rw [hg6]; rfl) hS rfl ?_
                refine A rfl hS (fun w9 h9 => by obtain ⟨g9, hle9, hs⟩ := h9; exact r_pickF (v := .bool false) rfl hg6 rfl) rfl ?_
                refine A rfl hS (fun w9 h9 => by obtain ⟨g9, hle9, hs⟩ := h9; exact r_assign (v := .bool false) rfl) rfl ?_
                refine AN ?_
                refine WP_region ?_
                refine O (r_move (v := .int .i64 xv12) rfl) rfl ?_
                obtain ⟨t10, ht10, hM⟩ := bindS hM
                refine O (r_addM rfl rfl ht10) rfl ?_
                refine O (r_assign (v := .int .i64 t10) rfl) rfl ?_
                refine OW_nil ?_
                obtain rfl := Option.some.inj hM
                exact ⟨gg64, rfl, rfl, rfl, rfl, rfl, rfl, rfl, rfl, hlegg64, hs⟩
            · refine WP_false rfl hc8 ?_
              refine WP_exit ?_
              obtain rfl := Option.some.inj hM
              refine fun hr => ?_
              have hM := congrArg some hr
              obtain rfl := Option.some.inj hM
              exact ⟨gg64, rfl, rfl, rfl, rfl, rfl, rfl, hlegg64, hs⟩
          · clear hs
            rintro E w ⟨gg60, hE4, hE7, hE8, hE9, hE10, hE11, hlegg60, hs⟩
            have hM := hKhx3
            obtain ⟨E, rfl⟩ := open1 (E := E) hE4
            obtain ⟨E, rfl⟩ := open1 (E := E) hE7
            obtain ⟨E, rfl⟩ := open1 (E := E) hE8
            obtain ⟨E, rfl⟩ := open1 (E := E) hE9
            obtain ⟨E, rfl⟩ := open1 (E := E) hE10
            obtain ⟨E, rfl⟩ := open1 (E := E) hE11
            replace hRv65 := hRv65.mono hlegg60
            replace hRv66 := hRv66.mono hlegg60
            refine WP_seq ?_
            refine WP_region ?_
            refine O (r_assign (v := .int .i64 0) rfl) rfl ?_
            refine OW_nil ?_
            obtain ⟨o11, hx13, hKhx13⟩ := stepS hM
            refine WP_cut (fun E w => ∃ u9 : Unit, o11 = .next u9 ∧ E 4 = .pointer (some ⟨b1, 0, none⟩) ∧ E 7 = v65 ∧ E 8 = v66 ∧ E 9 = .int .u8 c1 ∧ E 10 = .int .u8 c2 ∧ E 11 = .bool xv8 ∧ Go.Lx.Sep g0 w0 gg60 w [Go.Lx.box b1 25 (p2.1.map (.int .u64))]) ?_ ?_
            · have hM := hx13
              have hagg60 := Hle.refl gg60
              refine WP_seq ?_
              refine WP_region ?_
              refine O (r_assign (v := .int .i64 0) rfl) rfl ?_
              refine OW_nil ?_
              refine WP_block ?_
              refine WP_loop (fun (st9 : Int × Int) E w => match st9 with | (xv31, xv32) => E 4 = .pointer (some ⟨b1, 0, none⟩) ∧ E 7 = v65 ∧ E 8 = v66 ∧ E 9 = .int .u8 c1 ∧ E 10 = .int .u8 c2 ∧ E 11 = .bool xv8 ∧ E 13 = .int .i64 xv31 ∧ E 14 = .int .i64 xv32 ∧ Go.Lx.Sep g0 w0 gg60 w [Go.Lx.box b1 25 (p2.1.map (.int .u64))]) hM ⟨rfl, rfl, rfl, rfl, rfl, rfl, rfl, rfl, hs⟩ ?_
              clear hs hM
              rintro ⟨xv31, xv32⟩ o9 E w hM ⟨hE4, hE7, hE8, hE9, hE10, hE11, hE13, hE14, hs⟩
              obtain ⟨E, rfl⟩ := open1 (E := E) hE4
              obtain ⟨E, rfl⟩ := open1 (E := E) hE7
              obtain ⟨E, rfl⟩ := open1 (E := E) hE8
              obtain ⟨E, rfl⟩ := open1 (E := E) hE9
              obtain ⟨E, rfl⟩ := open1 (E := E) hE10
              obtain ⟨E, rfl⟩ := open1 (E := E) hE11
              obtain ⟨E, rfl⟩ := open1 (E := E) hE13
              obtain ⟨E, rfl⟩ := open1 (E := E) hE14
              refine WP_seq ?_
              refine WP_seq ?_
              refine WP_region ?_
              refine O (r_move (v := .int .i64 xv32) rfl) rfl ?_
              refine O (r_lss rfl rfl) rfl ?_
              refine OW_nil ?_
              rcases condS hM with ⟨hc34, hM⟩ | ⟨hc34, hM⟩
              · refine WP_true rfl hc34 ?_
                refine WP_skip ?_
                obtain ⟨o10, hx21, hKhx21⟩ := stepS hM
                refine WP_cut (fun E w => ∃ (t32 : Int), o10 = .next t32 ∧ E 4 = .pointer (some ⟨b1, 0, none⟩) ∧ E 7 = v65 ∧ E 8 = v66 ∧ E 9 = .int .u8 c1 ∧ E 10 = .int .u8 c2 ∧ E 11 = .bool xv8 ∧ E 13 = .int .i64 t32 ∧ E 14 = .int .i64 xv32 ∧ Go.Lx.Sep g0 w0 gg60 w [Go.Lx.box b1 25 (p2.1.map (.int .u64))]) ?_ ?_
                · have hM := hx21
                  refine WP_block ?_
                  refine WP_seq ?_
                  obtain ⟨xv38, hx22, hKhx22⟩ := bindS hM
                  refine WP_cut (fun E w => E 4 = .pointer (some ⟨b1, 0, none⟩) ∧ E 7 = v65 ∧ E 8 = v66 ∧ E 9 = .int .u8 c1 ∧ E 10 = .int .u8 c2 ∧ E 11 = .bool xv8 ∧ E 13 = .int .i64 xv31 ∧ E 14 = .int .i64 xv32 ∧ E 78 = .bool xv38 ∧ Go.Lx.Sep g0 w0 gg60 w [Go.Lx.box b1 25 (p2.1.map (.int .u64))]) ?_ ?_
                  · have hM := hx22
                    refine WP_region ?_
                    refine O (r_move (v := v65) rfl) rfl ?_
                    refine O (r_move (v := .int .i64 xv32) rfl) rfl ?_
                    obtain ⟨e41, he41, hM⟩ := bindS hM
                    obtain ⟨b72, ob72, cb72, hvb72, cs113, hcs113, hcb72⟩ := hRv65.at he41
                    have hcs113 : cs113 = _ := hcs113; subst hcs113
                    refine O (r_idxSl Try.underlying32 ti3 (v := v65) rfl hvb72 rfl (idxL_some he41).1 (idxL_some he41).2.1) rfl ?_
                    refine O (r_loadEl (cs := [.int .i64 e41]) ti3 rfl rfl (.inr rfl) (hcb72 _ hs.imm) (v := .int .i64 e41) rfl) rfl ?_
                    refine O (r_move (v := .int .i64 xv31) rfl) rfl ?_
                    refine O (r_gtr rfl rfl) rfl ?_
                    refine O (r_move (v := .bool (decide (xv31 < e41))) rfl) rfl ?_
                    rcases condS hM with ⟨hg30, hM⟩ | ⟨hg30, hM⟩
                    · refine OK rfl rfl rfl (by rw [hg30]; rfl) rfl ?_
                      refine OK rfl rfl rfl (by rw [hg30]; rfl) rfl ?_
                      refine OK rfl rfl rfl (by rw [hg30]; rfl) rfl ?_
                      refine OK rfl rfl rfl (by rw [hg30]; rfl) rfl ?_
                      refine OK rfl rfl rfl (by rw [hg30]; rfl) rfl ?_
                      refine O (r_pickT (v := .bool true) rfl hg30 rfl) rfl ?_
                      refine OW_nil ?_
                      obtain rfl := Option.some.inj hM
                      exact ⟨rfl, rfl, rfl, rfl, rfl, rfl, rfl, rfl, rfl, hs⟩
                    · refine OG rfl rfl rfl (by rw [hg30]; rfl) (r_move (v := v65) rfl) rfl ?_
                      refine OG rfl rfl rfl (by rw [hg30]; rfl) (r_move (v := .int .i64 xv32) rfl) rfl ?_
                      obtain ⟨b73, ob73, cb73, hvb73, cs114, hcs114, hcb73⟩ := hRv65.at he41
                      have hcs114 : cs114 = _ := hcs114; subst hcs114
                      refine OG rfl rfl rfl (by rw [hg30]; rfl) (r_idxSl Try.underlying32 ti3 (v := v65) rfl hvb73 rfl (idxL_some he41).1 (idxL_some he41).2.1) rfl ?_
                      refine OG rfl rfl rfl (by rw [hg30]; rfl) (r_loadEl (cs := [.int .i64 e41]) ti3 rfl rfl (.inr rfl) (hcb73 _ hs.imm) (v := .int .i64 e41) rfl) rfl ?_
                      refine OG rfl rfl rfl (by rw [hg30]; rfl) (r_lss rfl rfl) rfl ?_
                      refine O (r_pickF (v := .bool (decide (e41 < 0))) rfl hg30 rfl) rfl ?_
                      refine OW_nil ?_
                      obtain rfl := Option.some.inj hM
                      exact ⟨rfl, rfl, rfl, rfl, rfl, rfl, rfl, rfl, rfl, hs⟩
                  · clear hs
                    rintro E w ⟨hE4, hE7, hE8, hE9, hE10, hE11, hE13, hE14, hE78, hs⟩
                    have hM := hKhx22
                    obtain ⟨E, rfl⟩ := open1 (E := E) hE4
                    obtain ⟨E, rfl⟩ := open1 (E := E) hE7
                    obtain ⟨E, rfl⟩ := open1 (E := E) hE8
                    obtain ⟨E, rfl⟩ := open1 (E := E) hE9
                    obtain ⟨E, rfl⟩ := open1 (E := E) hE10
                    obtain ⟨E, rfl⟩ := open1 (E := E) hE11
                    obtain ⟨E, rfl⟩ := open1 (E := E) hE13
                    obtain ⟨E, rfl⟩ := open1 (E := E) hE14
                    obtain ⟨E, rfl⟩ := open1 (E := E) hE78
                    rcases condS hM with ⟨hc37, hM⟩ | ⟨hc37, hM⟩
                    · refine WP_true rfl hc37 ?_
                      refine WP_seq ?_
                      refine WP_region ?_
                      refine O (r_assign (v := .bool false) rfl) rfl ?_
                      refine OW_nil ?_
                      refine WP_ret ?_
                      obtain rfl := Option.some.inj hM
                      have hM := hKhx21
                      obtain rfl := Option.some.inj hM
                      refine fun hr => ?_
                      have hM := congrArg some hr
                      obtain rfl := Option.some.inj hM
                      have hM := hKhx13
                      obtain rfl := Option.some.inj hM
                      exact ⟨_, res1 Try.results5 (rv_tmp (v := .bool false) rfl), gg60, ⟨[.bool false], rfl, rfl⟩, hs.ext⟩
                    · refine WP_false rfl hc37 ?_
                      refine WP_skip ?_
                      refine WP_seq ?_
                      refine WP_region ?_
                      refine O (r_move (v := v65) rfl) rfl ?_
                      refine O (r_move (v := .int .i64 xv32) rfl) rfl ?_
                      obtain ⟨e42, he42, hM⟩ := bindS hM
                      obtain ⟨b74, ob74, cb74, hvb74, cs115, hcs115, hcb74⟩ := hRv65.at he42
                      have hcs115 : cs115 = _ := hcs115; subst hcs115
                      refine O (r_idxSl Try.underlying32 ti3 (v := v65) rfl hvb74 rfl (idxL_some he42).1 (idxL_some he42).2.1) rfl ?_
                      refine O (r_loadEl (cs := [.int .i64 e42]) ti3 rfl rfl (.inr rfl) (hcb74 _ hs.imm) (v := .int .i64 e42) rfl) rfl ?_
                      refine O (r_move (v := .int .i64 xv31) rfl) rfl ?_
                      refine O (r_eql rfl rfl) rfl ?_
                      refine OW_nil ?_
                      rcases condS hM with ⟨hc38, hM⟩ | ⟨hc38, hM⟩
                      · refine WP_true rfl hc38 ?_
                        refine WP_region ?_
                        refine O (r_move (v := .int .i64 xv31) rfl) rfl ?_
                        obtain ⟨t33, ht33, hM⟩ := bindS hM
                        refine O (r_addM rfl rfl ht33) rfl ?_
                        refine O (r_assign (v := .int .i64 t33) rfl) rfl ?_
                        refine OW_nil ?_
                        obtain rfl := Option.some.inj hM
                        exact ⟨t33, rfl, rfl, rfl, rfl, rfl, rfl, rfl, rfl, rfl, hs⟩
                      · refine WP_false rfl hc38 ?_
                        refine WP_skip ?_
                        obtain rfl := Option.some.inj hM
                        exact ⟨xv31, rfl, rfl, rfl, rfl, rfl, rfl, rfl, rfl, rfl, hs⟩
                · clear hs
                  rintro E w ⟨t32, rfl, hE4, hE7, hE8, hE9, hE10, hE11, hE13, hE14, hs⟩
                  have hM := hKhx21
                  obtain ⟨E, rfl⟩ := open1 (E := E) hE4
                  obtain ⟨E, rfl⟩ := open1 (E := E) hE7
                  obtain ⟨E, rfl⟩ := open1 (E := E) hE8
                  obtain ⟨E, rfl⟩ := open1 (E := E) hE9
                  obtain ⟨E, rfl⟩ := open1 (E := E) hE10
                  obtain ⟨E, rfl⟩ := open1 (E := E) hE11
                  obtain ⟨E, rfl⟩ := open1 (E := E) hE13
                  obtain ⟨E, rfl⟩ := open1 (E := E) hE14
                  refine WP_region ?_
                  refine O (r_move (v := .int .i64 xv32) rfl) rfl ?_
                  obtain ⟨t34, ht34, hM⟩ := bindS hM
                  refine O (r_addM rfl rfl ht34) rfl ?_
                  refine O (r_assign (v := .int .i64 t34) rfl) rfl ?_
                  refine OW_nil ?_
                  obtain rfl := Option.some.inj hM
                  exact ⟨rfl, rfl, rfl, rfl, rfl, rfl, rfl, rfl, hs⟩
              · refine WP_false rfl hc34 ?_
                refine WP_exit ?_
                obtain rfl := Option.some.inj hM
                refine fun hr => ?_
                have hM := congrArg some hr
                obtain rfl := Option.some.inj hM
                exact ⟨(), rfl, rfl, rfl, rfl, rfl, rfl, rfl, hs⟩
            · clear hs
              rintro E w ⟨_, rfl, hE4, hE7, hE8, hE9, hE10, hE11, hs⟩
              have hM := hKhx13
              obtain ⟨E, rfl⟩ := open1 (E := E) hE4
              obtain ⟨E, rfl⟩ := open1 (E := E) hE7
              obtain ⟨E, rfl⟩ := open1 (E := E) hE8
              obtain ⟨E, rfl⟩ := open1 (E := E) hE9
              obtain ⟨E, rfl⟩ := open1 (E := E) hE10
              obtain ⟨E, rfl⟩ := open1 (E := E) hE11
              obtain ⟨xv39, hx23, hKhx23⟩ := bindS hM
              refine WP_cut (fun E w => ∃ (gg73 : Hp), E 6 = .bool xv39 ∧ Hle gg60 gg73 ∧ Go.Lx.Sep g0 w0 gg73 w []) ?_ ?_
              · have hM := hx23
                have hagg60 := Hle.refl gg60
                refine WP_any (.s 0 (.q 1 (.q 2 (.q 3 (.q 4 (.q 5 (.q 6 (.q 7 (.q 8 (.q 9 (.q 10 (.q 11 (.q 12 (.q 13 (.q 14 (.q 15 (.q 16 (.q 17 (.q 18 (.q 19 (.q 20 (.q 21 (.q 22 (.q 23 (.q 24 (.q 25 (.q 26 (.q 27 (.q 29 (.q 30 (.s 28 (.s 31 (.q 32 (.q 33 (.q 34 (.q 35 (.q 36 (.leaf)))))))))))))))))))))))))))))))))))))) (SS g0 w0 gg60 [Go.Lx.box b1 25 (p2.1.map (.int .u64))]) mo (by decide +kernel) (fun _ _ _ h => h) ?_
                have hs := hs.drew
                have hRv65b := hRv65
                have hRv66b := hRv66
                have hS : SS g0 w0 gg60 [Go.Lx.box b1 25 (p2.1.map (.int .u64))] _ := ⟨gg60, Hle.refl _, hs⟩
                refine A1 rfl ?_
                obtain ⟨rv21, hrv21, hM⟩ := bindS hM
                refine C [] cf8 rfl (law07_awake_ok hrv21 hs.imm) rfl ?_
                rintro v144 wv113 ⟨gg74, hvv144, hegg74⟩
                have hlegg74 := hegg74.le hs.imm
                replace hs := hs.call hegg74
                replace hRv65 := hRv65.mono hlegg74
                replace hRv66 := hRv66.mono hlegg74
                replace hagg60 := hagg60.trans hlegg74
                obtain ⟨cs123, rfl, hcs123⟩ := hvv144
                have hcs123 : cs123 = _ := hcs123; subst hcs123
                refine OW_nil ?_
                have hS : SS g0 w0 gg60 [Go.Lx.box b1 25 (p2.1.map (.int .u64))] _ := ⟨gg74, hagg60, hs⟩
                refine ⟨hS, ?_⟩
                refine A rfl hS (fun w9 h9 => by obtain ⟨g9, hle9, hs⟩ := h9; exact r_move (v := .bool rv21) rfl) rfl ?_
                rcases condS hM with ⟨hg34, hM⟩ | ⟨hg34, hM⟩
                · refine AG rfl rfl rfl rfl (by rw [hg34]; rfl) hS (fun w9 h9 => by obtain ⟨g9, hle9, hs⟩ := h9; exact r_move (v := v65) rfl) rfl ?_
                  refine AG rfl rfl rfl rfl (by rw [hg34]; rfl) hS (fun w9 h9 => by obtain ⟨g9, hle9, hs⟩ := h9; exact r_move (v := .int .u8 c1) rfl) rfl ?_
                  obtain ⟨e47, he47, hM⟩ := bindS hM
                  obtain ⟨b79, ob79, cb79, hvb79, cs124, hcs124, hcb79⟩ := hRv65b.at he47
                  have hcs124 : cs124 = _ := hcs124; subst hcs124
                  refine AG rfl rfl rfl rfl (by rw [hg34]; rfl) hS (fun w9 h9 => by obtain ⟨g9, hle9, hs⟩ := h9; exact r_idxSl Try.underlying32 ti3 (v := v65) rfl hvb79 rfl (idxL_some he47).1 (idxL_some he47).2.1) rfl ?_
                  refine AG rfl rfl rfl rfl (by rw [hg34]; rfl) hS (fun w9 h9 => by obtain ⟨g9, hle9, hs⟩ := h9; exact r_loadEl (cs := [.int .i64 e47]) ti3 rfl rfl (.inr rfl) (hcb79 _ (hs.imm.of_le hle9)) (v := .int .i64 e47) rfl) rfl ?_
                  refine AG rfl rfl rfl rfl (by rw [hg34]; rfl) hS (fun w9 h9 => by obtain ⟨g9, hle9, hs⟩ := h9; exact r_move (v := v65) rfl) rfl ?_
                  refine AG rfl rfl rfl rfl (by rw [hg34]; rfl) hS (fun w9 h9 => by obtain ⟨g9, hle9, hs⟩ := h9; exact r_move (v := .int .u8 c2) rfl) rfl ?_
                  obtain ⟨e48, he48, hM⟩ := bindS hM
                  obtain ⟨b80, ob80, cb80, hvb80, cs125, hcs125, hcb80⟩ := hRv65b.at he48
                  have hcs125 : cs125 = _ := hcs125; subst hcs125
                  refine AG rfl rfl rfl rfl (by rw [hg34]; rfl) hS (fun w9 h9 => by obtain ⟨g9, hle9, hs⟩ := h9; exact r_idxSl Try.underlying32 ti3 (v := v65) rfl hvb80 rfl (idxL_some he48).1 (idxL_some he48).2.1) rfl ?_
                  refine AG rfl rfl rfl rfl (by rw [hg34]; rfl) hS (fun w9 h9 => by obtain ⟨g9, hle9, hs⟩ := h9; exact r_loadEl (cs := [.int .i64 e48]) ti3 rfl rfl (.inr rfl) (hcb80 _ (hs.imm.of_le hle9)) (v := .int .i64 e48) rfl) rfl ?_
                  refine AG rfl rfl rfl rfl (by rw [hg34]; rfl) hS (fun w9 h9 => by obtain ⟨g9, hle9, hs⟩ := h9; exact r_eql rfl rfl) rfl ?_
                  refine AG rfl rfl rfl rfl (by rw [hg34]; rfl) hS (fun w9 h9 => by obtain ⟨g9, hle9, hs⟩ := h9; exact r_move (v := .bool xv8) rfl) rfl ?_
                  refine AG rfl rfl rfl rfl (by rw [hg34]; rfl) hS (fun w9 h9 => by obtain ⟨g9, hle9, hs⟩ := h9; exact r_eqlB Try.underlying4 rfl rfl) rfl ?_
                  refine A rfl hS (fun w9 h9 => by obtain ⟨g9, hle9, hs⟩ := h9; exact r_pickT (v := .bool ((e47 == e48) == xv8)) rfl hg34 rfl) rfl ?_
                  refine A rfl hS (fun w9 h9 => by obtain ⟨g9, hle9, hs⟩ := h9; exact r_move (v := .bool ((e47 == e48) == xv8)) rfl) rfl ?_
                  rcases condS hM with ⟨hg35, hM⟩ | ⟨hg35, hM⟩
                  · refine AG rfl rfl rfl rfl (by rw [hg35]; rfl) hS (fun w9 h9 => by obtain ⟨g9, hle9, hs⟩ := h9; exact r_move (v := v66) rfl) rfl ?_
                    refine AG rfl rfl rfl rfl (by rw [hg35]; rfl) hS (fun w9 h9 => by obtain ⟨g9, hle9, hs⟩ := h9; exact r_move (v := .int .u8 c1) rfl) rfl ?_
                    obtain ⟨e49, he49, hM⟩ := bindS hM
                    obtain ⟨b81, ob81, cb81, hvb81, cs126, hcs126, hcb81⟩ := hRv66b.at he49
                    have hcs126 : cs126 = _ := hcs126; subst hcs126
                    refine AG rfl rfl rfl rfl (by rw [hg35]; rfl) hS (fun w9 h9 => by obtain ⟨g9, hle9, hs⟩ := h9; exact r_idxSl Try.underlying32 ti3 (v := v66) rfl hvb81 rfl (idxL_some he49).1 (idxL_some he49).2.1) rfl ?_
                    refine AG rfl rfl rfl rfl (by rw [hg35]; rfl) hS (fun w9 h9 => by obtain ⟨g9, hle9, hs⟩ := h9; exact r_loadEl (cs := [.int .i64 e49]) ti3 rfl rfl (.inr rfl) (hcb81 _ (hs.imm.of_le hle9)) (v := .int .i64 e49) rfl) rfl ?_
                    refine AG rfl rfl rfl rfl (by rw [hg35]; rfl) hS (fun w9 h9 => by obtain ⟨g9, hle9, hs⟩ := h9; exact r_move (v := v66) rfl) rfl ?_
                    refine AG rfl rfl rfl rfl (by rw [hg35]; rfl) hS (fun w9 h9 => by obtain ⟨g9, hle9, hs⟩ := h9; exact r_move (v := .int .u8 c2) rfl) rfl ?_
                    obtain ⟨e50, he50, hM⟩ := bindS hM
                    obtain ⟨b82, ob82, cb82, hvb82, cs127, hcs127, hcb82⟩ := hRv66b.at he50
                    have hcs127 : cs127 = _ := hcs127; subst hcs127
                    refine AG rfl rfl rfl rfl (by rw [hg35]; rfl) hS (fun w9 h9 => by obtain ⟨g9, hle9, hs⟩ := h9; exact r_idxSl Try.underlying32 ti3 (v := v66) rfl hvb82 rfl (idxL_some he50).1 (idxL_some he50).2.1) rfl ?_
                    refine AG rfl rfl rfl rfl (by rw [hg35]; rfl) hS (fun w9 h9 => by obtain ⟨g9, hle9, hs⟩ := h9; exact r_loadEl (cs := [.int .i64 e50]) ti3 rfl rfl (.inr rfl) (hcb82 _ (hs.imm.of_le hle9)) (v := .int .i64 e50) rfl) rfl ?_
                    refine AG rfl rfl rfl rfl (by rw [hg35]; rfl) hS (fun w9 h9 => by obtain ⟨g9, hle9, hs⟩ := h9; exact r_eql rfl rfl) rfl ?_
                    refine AG rfl rfl rfl rfl (by rw [hg35]; rfl) hS (fun w9 h9 => by obtain ⟨g9, hle9, hs⟩ := h9; exact r_move (v := .bool xv8) rfl) rfl ?_
                    refine AG rfl rfl rfl rfl (by rw [hg35]; rfl) hS (fun w9 h9 => by obtain ⟨g9, hle9, hs⟩ := h9; exact r_move (v := .bool xv8) rfl) rfl ?_
                    rcases condS hM with ⟨hg36, hM⟩ | ⟨hg36, hM⟩
                    · refine AG rfl rfl rfl rfl (by rw [hg36]; rfl) hS (fun w9 h9 => by obtain ⟨g9, hle9, hs⟩ := h9; exact r_loadN (cs := p2.1.map (.int .u64)) ti25 rfl (by simp [p2.2]) (hs.cells (i := 0) rfl)) rfl ?_
                      refine AG rfl rfl rfl rfl (by rw [hg36]; rfl) hS (fun w9 h9 => by obtain ⟨g9, hle9, hs⟩ := h9; exact r_move (v := .int .u8 c1) rfl) rfl ?_
                      refine AG rfl rfl rfl rfl (by rw [hg36]; rfl) hS (fun w9 h9 => by obtain ⟨g9, hle9, hs⟩ := h9; exact r_loadN (cs := p2.1.map (.int .u64)) ti25 rfl (by simp [p2.2]) (hs.cells (i := 0) rfl)) rfl ?_
                      refine AG rfl rfl rfl rfl (by rw [hg36]; rfl) hS (fun w9 h9 => by obtain ⟨g9, hle9, hs⟩ := h9; exact r_move (v := .int .u8 c2) rfl) rfl ?_
                      refine A1 rfl ?_
                      obtain ⟨rv22, hrv22, hM⟩ := bindS hM
                      refine CG rfl rfl rfl (by rw [hg36]; rfl) [encV .u64 p2, .int .u8 c1] cf13 rfl (byteset_Has_ok hrv22 hs.imm) rfl ?_
                      rintro v145 wv114 ⟨gg75, hvv145, hegg75⟩
                      have hlegg75 := hegg75.le hs.imm
                      replace hs := hs.call hegg75
                      replace hRv65 := hRv65.mono hlegg75
                      replace hRv66 := hRv66.mono hlegg75
                      replace hagg60 := hagg60.trans hlegg75
                      obtain ⟨cs128, rfl, hcs128⟩ := hvv145
                      have hcs128 : cs128 = _ := hcs128; subst hcs128
                      refine OW_nil ?_
                      have hS : SS g0 w0 gg60 [Go.Lx.box b1 25 (p2.1.map (.int .u64))] _ := ⟨gg75, hagg60, hs⟩
                      refine ⟨hS, ?_⟩
                      refine A1 rfl ?_
                      obtain ⟨rv23, hrv23, hM⟩ := bindS hM
                      refine CG rfl rfl rfl (by rw [hg36]; rfl) [encV .u64 p2, .int .u8 c2] cf13 rfl (byteset_Has_ok hrv23 hs.imm) rfl ?_
                      rintro v146 wv115 ⟨gg76, hvv146, hegg76⟩
                      have hlegg76 := hegg76.le hs.imm
                      replace hs := hs.call hegg76
                      replace hRv65 := hRv65.mono hlegg76
                      replace hRv66 := hRv66.mono hlegg76
                      replace hagg60 := hagg60.trans hlegg76
                      obtain ⟨cs129, rfl, hcs129⟩ := hvv146
                      have hcs129 : cs129 = _ := hcs129; subst hcs129
                      refine OW_nil ?_
                      have hS : SS g0 w0 gg60 [Go.Lx.box b1 25 (p2.1.map (.int .u64))] _ := ⟨gg76, hagg60, hs⟩
                      refine ⟨hS, ?_⟩
                      refine AG rfl rfl rfl rfl (by rw [hg36]; rfl) hS (fun w9 h9 => by obtain ⟨g9, hle9, hs⟩ := h9; exact r_eqlB Try.underlying4 rfl rfl) rfl ?_
                      refine AG rfl rfl rfl rfl (by rw [hg35]; rfl) hS (fun w9 h9 => by obtain ⟨g9, hle9, hs⟩ := h9; exact r_pickT (v := .bool (rv22 == rv23)) rfl hg36 rfl) rfl ?_
                      refine AG rfl rfl rfl rfl (by rw [hg35]; rfl) hS (fun w9 h9 => by obtain ⟨g9, hle9, hs⟩ := h9; exact r_eqlB Try.underlying4 rfl rfl) rfl ?_
                      refine A rfl hS (fun w9 h9 => by obtain ⟨g9, hle9, hs⟩ := h9; exact r_pickT (v := .bool ((e49 == e50) == (rv22 == rv23))) rfl hg35 rfl) rfl ?_
                      refine A rfl hS (fun w9 h9 => by obtain ⟨g9, hle9, hs⟩ := h9; exact r_assign (v := .bool ((e49 == e50) == (rv22 == rv23))) rfl) rfl ?_
                      refine AN ?_
                      obtain rfl := Option.some.inj hM
                      exact ⟨gg76, rfl, hagg60, (hs.sub (.cons _ .slnil))⟩
                    · refine AK rfl rfl rfl rfl (by rw [hg36]; rfl) hS rfl ?_
                      refine AK rfl rfl rfl rfl (by rw [hg36]; rfl) hS rfl ?_
                      refine AK rfl rfl rfl rfl (by rw [hg36]; rfl) hS rfl ?_
                      refine AK rfl rfl rfl rfl (by rw [hg36]; rfl) hS rfl ?_
                      refine A1 rfl ?_
                      refine OK rfl rfl rfl (by rw [hg36]; rfl) rfl ?_
                      refine OW_nil ⟨hS, ?_⟩
                      refine A1 rfl ?_
                      refine OK rfl rfl rfl (by rw [hg36]; rfl) rfl ?_
                      refine OW_nil ⟨hS, ?_⟩
                      refine AK rfl rfl rfl rfl (by rw [hg36]; rfl) hS rfl ?_
                      refine AG rfl rfl rfl rfl (by rw [hg35]; rfl) hS (fun w9 h9 => by obtain ⟨g9, hle9, hs⟩ := h9; exact r_pickF (v := .bool false) rfl hg36 rfl) rfl ?_
                      refine AG rfl rfl rfl rfl (by rw [hg35]; rfl) hS (fun w9 h9 => by obtain ⟨g9, hle9, hs⟩ := h9; exact r_eqlB Try.underlying4 rfl rfl) rfl ?_
                      refine A rfl hS (fun w9 h9 => by obtain ⟨g9, hle9, hs⟩ := h9; exact r_pickT (v := .bool ((e49 == e50) == false)) rfl hg35 rfl) rfl ?_
                      refine A rfl hS (fun w9 h9 => by obtain ⟨g9, hle9, hs⟩ := h9; exact r_assign (v := .bool ((e49 == e50) == false)) rfl) rfl ?_
                      refine AN ?_
                      obtain rfl := Option.some.inj hM
                      exact ⟨gg74, rfl, hagg60, (hs.sub (.cons _ .slnil))⟩
                  · refine AK rfl rfl rfl rfl (by rw [hg35]; rfl) hS rfl ?_
                    refine AK rfl rfl rfl rfl (by rw [hg35]; rfl) hS rfl ?_
                    refine AK rfl rfl rfl rfl (by rw [hg35]; rfl) hS rfl ?_
                    refine AK rfl rfl rfl rfl (by rw [hg35]; rfl) hS rfl ?_
                    refine AK rfl rfl rfl rfl (by rw [hg35]; rfl) hS rfl ?_
                    refine AK rfl rfl rfl rfl (by rw [hg35]; rfl) hS rfl ?_
                    refine AK rfl rfl rfl rfl (by rw [hg35]; rfl) hS rfl ?_
                    refine AK rfl rfl rfl rfl (by rw [hg35]; rfl) hS rfl ?_
                    refine AK rfl rfl rfl rfl (by rw [hg35]; rfl) hS rfl ?_
                    refine AK rfl rfl rfl rfl (by rw [hg35]; rfl) hS rfl ?_
                    refine AK rfl rfl rfl rfl (by rw [hg35]; rfl) hS rfl ?_
                    refine AKU rfl rfl rfl rfl hS rfl ?_
                    refine AKU rfl rfl rfl rfl hS rfl ?_
                    refine AKU rfl rfl rfl rfl hS rfl ?_
                    refine AKU rfl rfl rfl rfl hS rfl ?_
                    refine A1 rfl ?_
                    refine OKU rfl rfl rfl rfl ?_
                    refine OW_nil ⟨hS, ?_⟩
                    refine A1 rfl ?_
                    refine OKU rfl rfl rfl rfl ?_
                    refine OW_nil ⟨hS, ?_⟩
                    refine AKU rfl rfl rfl rfl hS rfl ?_
                    refine AK rfl rfl rfl rfl (by rw [hg35]; rfl) hS rfl ?_
                    refine AK rfl rfl rfl rfl (by rw [hg35]; rfl) hS rfl ?_
                    refine A rfl hS (fun w9 h9 => by obtain ⟨g9, hle9, hs⟩ := h9; exact r_pickF (v := .bool false) rfl hg35 rfl) rfl ?_
                    refine A rfl hS (fun w9 h9 => by obtain ⟨g9, hle9, hs⟩ := h9; exact r_assign (v := .bool false) rfl) rfl ?_
                    refine AN ?_
                    obtain rfl := Option.some.inj hM
                    exact ⟨gg74, rfl, hagg60, (hs.sub (.cons _ .slnil))⟩
                · refine AK rfl rfl rfl rfl (by rw [hg34]; rfl) hS rfl ?_
                  refine AK rfl rfl rfl rfl (by rw [hg34]; rfl) hS rfl ?_
                  refine AK rfl rfl rfl rfl (by rw [hg34]; rfl) hS rfl ?_
                  refine AK rfl rfl rfl rfl (by rw [hg34]; rfl) hS rfl ?_
                  refine AK rfl rfl rfl rfl (by rw [hg34]; rfl) hS rfl ?_
                  refine AK rfl rfl rfl rfl (by rw [hg34]; rfl) hS rfl ?_
                  refine AK rfl rfl rfl rfl (by rw [hg34]; rfl) hS rfl ?_
                  refine AK rfl rfl rfl rfl (by rw [hg34]; rfl) hS rfl ?_
                  refine AK rfl rfl rfl rfl (by rw [hg34]; rfl) hS rfl ?_
                  refine AK rfl rfl rfl rfl (by rw [hg34]; rfl) hS rfl ?_
                  refine AK rfl rfl rfl rfl (by rw [hg34]; rfl) hS rfl ?_
                  refine A rfl hS (fun w9 h9 => by obtain ⟨g9, hle9, hs⟩ := h9; exact r_pickF (v := .bool false) rfl hg34 rfl) rfl ?_
                  refine A rfl hS (fun w9 h9 => by obtain ⟨g9, hle9, hs⟩ := h9; exact r_move (v := .bool false) rfl) rfl ?_
                  refine AK rfl rfl rfl rfl rfl hS rfl ?_
                  refine AK rfl rfl rfl rfl rfl hS rfl ?_
                  refine AK rfl rfl rfl rfl rfl hS rfl ?_
                  refine AK rfl rfl rfl rfl rfl hS rfl ?_
                  refine AK rfl rfl rfl rfl rfl hS rfl ?_
                  refine AK rfl rfl rfl rfl rfl hS rfl ?_
                  refine AK rfl rfl rfl rfl rfl hS rfl ?_
                  refine AK rfl rfl rfl rfl rfl hS rfl ?_
                  refine AK rfl rfl rfl rfl rfl hS rfl ?_
                  refine AK rfl rfl rfl rfl rfl hS rfl ?_
                  refine AK rfl rfl rfl rfl rfl hS rfl ?_
                  refine AKU rfl rfl rfl rfl hS rfl ?_
                  refine AKU rfl rfl rfl rfl hS rfl ?_
                  refine AKU rfl rfl rfl rfl hS rfl ?_
                  refine AKU rfl rfl rfl rfl hS rfl ?_
                  refine A1 rfl ?_
                  refine OKU rfl rfl rfl rfl ?_
                  refine OW_nil ⟨hS, ?_⟩
                  refine A1 rfl ?_
                  refine OKU rfl rfl rfl rfl ?_
                  refine OW_nil ⟨hS, ?_⟩
                  refine AKU rfl rfl rfl rfl hS rfl ?_
                  refine AK rfl rfl rfl rfl rfl hS rfl ?_
                  refine AK rfl rfl rfl rfl rfl hS rfl ?_
                  refine A rfl hS (fun w9 h9 => by obtain ⟨g9, hle9, hs⟩ := h9; exact r_pickF (v := .bool false) rfl rfl rfl) rfl ?_
                  refine A rfl hS (fun w9 h9 => by obtain ⟨g9, hle9, hs⟩ := h9; exact r_assign (v := .bool false) rfl) rfl ?_
                  refine AN ?_
                  obtain rfl := Option.some.inj hM
                  exact ⟨gg74, rfl, hagg60, (hs.sub (.cons _ .slnil))⟩
              · clear hs
                rintro E w ⟨gg73, hE6, hlegg73, hs⟩
                have hM := hKhx23
                obtain ⟨E, rfl⟩ := open1 (E := E) hE6
                refine WP_ret ?_
                obtain rfl := Option.some.inj hM
                exact ⟨_, res1 Try.results5 (rv_tmp (v := .bool xv39) rfl), gg73, ⟨[.bool xv39], rfl, rfl⟩, hs.ext⟩


end Go.Proofs.Ytjjinpgjfabemaa
