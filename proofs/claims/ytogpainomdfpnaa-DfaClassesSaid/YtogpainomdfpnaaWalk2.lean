/- The walks: what each function does is what its model says. Printed by a program of my own. -/
import Derived.Test.YtogpainomdfpnaaWalk1
set_option linter.unusedVariables false
namespace Go.Proofs.Ytogpainomdfpnaa
open Go.Lx Go.RowKit
set_option maxRecDepth 100000 in
theorem dfa_Valid_ok {p1 : T_DFA} {r : Bool} (hM : M.dfa_Valid p1 = some r) {g0 : Hp} {w0 : World} (hi : Imm g0 w0) {cs1 : List Value} (hcs1 : tT_DFA.rel g0 cs1 p1) :
    CallsV Try.prog 11 #[.agg cs1.toArray] w0 (fun v w' => ∃ g', (VRd tBool false g' v r) ∧ Ext g0 w0 g' w') := by
  unfold M.dfa_Valid at hM
  obtain ⟨cs2, cs3, cs4, rfl, hcs2, hcs3, hcs4⟩ := hcs1
  obtain ⟨v1, rfl, hRv1⟩ := hcs2
  obtain ⟨v2, rfl, hRv2⟩ := hcs3
  obtain ⟨v3, rfl, hRv3⟩ := hcs4
  have hs := Sep.start hi
  refine calls_of_WP (args := [.agg (List.toArray (α := Value) [v1, v2, v3])]) Try.func11 rfl Try.ntmps11 rfl ?_
  refine WP_seq ?_
  refine WP_region ?_
  refine OW_box (v := .agg (List.toArray (α := Value) [v1, v2, v3])) rfl hs (zs := [v1, v2, v3]) rfl rfl ?_
  intro b1 wv1 hs
  refine O (r_assign (v := .bool false) rfl) rfl ?_
  refine OW_nil ?_
  refine WP_seq ?_
  refine WP_region ?_
  refine O (r_fieldAddr Try.underlying25 ti23 rfl rfl (by decide) rfl rfl) rfl ?_
  refine O (r_load (v := v2) ti23 rfl (hs.cell (i := 0) (o := 1) rfl rfl)) rfl ?_
  obtain ⟨a1, ca1, hva1⟩ := hRv2.shape
  refine O (r_lenSl (v := v2) Try.underlying23 rfl hva1) rfl ?_
  refine O (r_assign (v := .int .i64 (p1.Next.length : Int)) rfl) rfl ?_
  refine OW_nil ?_
  refine WP_seq ?_
  obtain ⟨xv1, hx1, hKhx1⟩ := bindS hM
  refine WP_cut (fun E w => E 1 = .pointer (some ⟨b1, 0, none⟩) ∧ E 3 = .int .i64 (p1.Next.length : Int) ∧ E 28 = .bool xv1 ∧ Go.Lx.Sep g0 w0 g0 w [Go.Lx.box b1 25 ([v1, v2, v3])]) ?_ ?_
  · have hM := hx1
    have hag0 := Hle.refl g0
    refine WP_region ?_
    refine O (r_fieldAddr Try.underlying25 ti22 rfl rfl (by decide) rfl rfl) rfl ?_
    refine O (r_load (v := v1) ti22 rfl (hs.cell (i := 0) (o := 0) rfl rfl)) rfl ?_
    obtain ⟨a4, ca4, hva4⟩ := hRv1.shape
    refine O (r_lenSl (v := v1) Try.underlying22 rfl hva4) rfl ?_
    refine O (r_neq rfl rfl) rfl ?_
    refine O (r_move (v := .bool ((p1.Class.length : Int) != 256)) rfl) rfl ?_
    rcases condS hM with ⟨hg4, hM⟩ | ⟨hg4, hM⟩
    · refine OK rfl rfl rfl (by rw [hg4]; rfl) rfl ?_
      refine OK rfl rfl rfl (by rw [hg4]; rfl) rfl ?_
      refine O (r_pickT (v := .bool true) rfl hg4 rfl) rfl ?_
      refine O (r_move (v := .bool true) rfl) rfl ?_
      refine OK rfl rfl rfl rfl rfl ?_
      refine OK rfl rfl rfl rfl rfl ?_
      refine O (r_pickT (v := .bool true) rfl rfl rfl) rfl ?_
      refine O (r_move (v := .bool true) rfl) rfl ?_
      refine OK rfl rfl rfl rfl rfl ?_
      refine OK rfl rfl rfl rfl rfl ?_
      refine OK rfl rfl rfl rfl rfl ?_
      refine OK rfl rfl rfl rfl rfl ?_
      refine OK rfl rfl rfl rfl rfl ?_
      refine O (r_pickT (v := .bool true) rfl rfl rfl) rfl ?_
      refine OW_nil ?_
      obtain rfl := Option.some.inj hM
      exact ⟨rfl, rfl, rfl, hs⟩
    · refine OG rfl rfl rfl (by rw [hg4]; rfl) (r_move (v := .int .i64 (p1.Next.length : Int)) rfl) rfl ?_
      refine OG rfl rfl rfl (by rw [hg4]; rfl) (r_lss rfl rfl) rfl ?_
      refine O (r_pickF (v := .bool (decide ((p1.Next.length : Int) < 1))) rfl hg4 rfl) rfl ?_
      refine O (r_move (v := .bool (decide ((p1.Next.length : Int) < 1))) rfl) rfl ?_
      rcases condS hM with ⟨hg5, hM⟩ | ⟨hg5, hM⟩
      · refine OK rfl rfl rfl (by rw [hg5]; rfl) rfl ?_
        refine OK rfl rfl rfl (by rw [hg5]; rfl) rfl ?_
        refine O (r_pickT (v := .bool true) rfl hg5 rfl) rfl ?_
        refine O (r_move (v := .bool true) rfl) rfl ?_
        refine OK rfl rfl rfl rfl rfl ?_
        refine OK rfl rfl rfl rfl rfl ?_
        refine OK rfl rfl rfl rfl rfl ?_
        refine OK rfl rfl rfl rfl rfl ?_
        refine OK rfl rfl rfl rfl rfl ?_
        refine O (r_pickT (v := .bool true) rfl rfl rfl) rfl ?_
        refine OW_nil ?_
        obtain rfl := Option.some.inj hM
        exact ⟨rfl, rfl, rfl, hs⟩
      · refine OG rfl rfl rfl (by rw [hg5]; rfl) (r_move (v := .int .i64 (p1.Next.length : Int)) rfl) rfl ?_
        refine OG rfl rfl rfl (by rw [hg5]; rfl) (r_gtr rfl rfl) rfl ?_
        refine O (r_pickF (v := .bool (decide (500 < (p1.Next.length : Int)))) rfl hg5 rfl) rfl ?_
        refine O (r_move (v := .bool (decide (500 < (p1.Next.length : Int)))) rfl) rfl ?_
        rcases condS hM with ⟨hg6, hM⟩ | ⟨hg6, hM⟩
        · refine OK rfl rfl rfl (by rw [hg6]; rfl) rfl ?_
          refine OK rfl rfl rfl (by rw [hg6]; rfl) rfl ?_
          refine OK rfl rfl rfl (by rw [hg6]; rfl) rfl ?_
          refine OK rfl rfl rfl (by rw [hg6]; rfl) rfl ?_
          refine OK rfl rfl rfl (by rw [hg6]; rfl) rfl ?_
          refine O (r_pickT (v := .bool true) rfl hg6 rfl) rfl ?_
          refine OW_nil ?_
          obtain rfl := Option.some.inj hM
          exact ⟨rfl, rfl, rfl, hs⟩
        · refine OG rfl rfl rfl (by rw [hg6]; rfl) (r_fieldAddr Try.underlying25 ti22 rfl rfl (by decide) rfl rfl) rfl ?_
          refine OG rfl rfl rfl (by rw [hg6]; rfl) (r_load (v := v3) ti22 rfl (hs.cell (i := 0) (o := 2) rfl rfl)) rfl ?_
          obtain ⟨a5, ca5, hva5⟩ := hRv3.shape
          refine OG rfl rfl rfl (by rw [hg6]; rfl) (r_lenSl (v := v3) Try.underlying22 rfl hva5) rfl ?_
          refine OG rfl rfl rfl (by rw [hg6]; rfl) (r_move (v := .int .i64 (p1.Next.length : Int)) rfl) rfl ?_
          refine OG rfl rfl rfl (by rw [hg6]; rfl) (r_neq rfl rfl) rfl ?_
          refine O (r_pickF (v := .bool ((p1.Accept.length : Int) != (p1.Next.length : Int))) rfl hg6 rfl) rfl ?_
          refine OW_nil ?_
          obtain rfl := Option.some.inj hM
          exact ⟨rfl, rfl, rfl, hs⟩
  · clear hs
    rintro E w ⟨hE1, hE3, hE28, hs⟩
    have hM := hKhx1
    obtain ⟨E, rfl⟩ := open1 (E := E) hE1
    obtain ⟨E, rfl⟩ := open1 (E := E) hE3
    obtain ⟨E, rfl⟩ := open1 (E := E) hE28
    rcases condS hM with ⟨hc1, hM⟩ | ⟨hc1, hM⟩
    · refine WP_true rfl hc1 ?_
      refine WP_seq ?_
      refine WP_region ?_
      refine O (r_assign (v := .bool false) rfl) rfl ?_
      refine OW_nil ?_
      refine WP_ret ?_
      obtain rfl := Option.some.inj hM
      exact ⟨_, res1 Try.results11 (rv_tmp (v := .bool false) rfl), g0, ⟨[.bool false], rfl, rfl⟩, hs.ext⟩
    · refine WP_false rfl hc1 ?_
      refine WP_skip ?_
      refine WP_seq ?_
      refine WP_region ?_
      refine O (r_fieldAddr Try.underlying25 ti23 rfl rfl (by decide) rfl rfl) rfl ?_
      refine O (r_load (v := v2) ti23 rfl (hs.cell (i := 0) (o := 1) rfl rfl)) rfl ?_
      obtain ⟨e1, he1, hM⟩ := bindS hM
      obtain ⟨b2, ob2, cb2, hvb2, cs5, hcs5, hcb2⟩ := hRv2.at he1
      obtain ⟨v4, rfl, hRv4⟩ := hcs5
      refine O (r_idxSl Try.underlying23 ti22 (v := v2) rfl hvb2 rfl (idxL_some he1).1 (idxL_some he1).2.1) rfl ?_
      refine O (r_loadEl (cs := [v4]) ti22 rfl rfl (.inr rfl) (hcb2 _ hs.imm) (v := v4) rfl) rfl ?_
      obtain ⟨a6, ca6, hva6⟩ := hRv4.shape
      refine O (r_lenSl (v := v4) Try.underlying22 rfl hva6) rfl ?_
      refine O (r_assign (v := .int .i64 (e1.length : Int)) rfl) rfl ?_
      refine OW_nil ?_
      refine WP_seq ?_
      obtain ⟨xv2, hx2, hKhx2⟩ := bindS hM
      refine WP_cut (fun E w => ∃ (gg2 : Hp), E 1 = .pointer (some ⟨b1, 0, none⟩) ∧ E 3 = .int .i64 (p1.Next.length : Int) ∧ E 4 = .int .i64 (e1.length : Int) ∧ E 43 = .bool xv2 ∧ Hle g0 gg2 ∧ Go.Lx.Sep g0 w0 gg2 w [Go.Lx.box b1 25 ([v1, v2, v3])]) ?_ ?_
      · have hM := hx2
        have hag0 := Hle.refl g0
        refine WP_region ?_
        refine O (r_move (v := .int .i64 (e1.length : Int)) rfl) rfl ?_
        refine O (r_lss rfl rfl) rfl ?_
        refine O (r_move (v := .bool (decide ((e1.length : Int) < 1))) rfl) rfl ?_
        rcases condS hM with ⟨hg8, hM⟩ | ⟨hg8, hM⟩
        · refine OK rfl rfl rfl (by rw [hg8]; rfl) rfl ?_
          refine OK rfl rfl rfl (by rw [hg8]; rfl) rfl ?_
          refine OK rfl rfl rfl (by rw [hg8]; rfl) rfl ?_
          refine OK rfl rfl rfl (by rw [hg8]; rfl) rfl ?_
          refine OK rfl rfl rfl (by rw [hg8]; rfl) rfl ?_
          refine OK rfl rfl rfl (by rw [hg8]; rfl) rfl ?_
          refine O (r_pickT (v := .bool true) rfl hg8 rfl) rfl ?_
          refine OW_nil ?_
          obtain rfl := Option.some.inj hM
          exact ⟨g0, rfl, rfl, rfl, rfl, (Hle.refl _), hs⟩
        · refine OG rfl rfl rfl (by rw [hg8]; rfl) (r_fieldAddr Try.underlying25 ti22 rfl rfl (by decide) rfl rfl) rfl ?_
          refine OG rfl rfl rfl (by rw [hg8]; rfl) (r_load (v := v1) ti22 rfl (hs.cell (i := 0) (o := 0) rfl rfl)) rfl ?_
          refine OG rfl rfl rfl (by rw [hg8]; rfl) (r_move (v := .int .i64 (e1.length : Int)) rfl) rfl ?_
          obtain ⟨t2, ht2, hM⟩ := bindS hM
          refine OG rfl rfl rfl (by rw [hg8]; rfl) (r_subM rfl rfl ht2) rfl ?_
          obtain ⟨rv2, hrv2, hM⟩ := bindS hM
          refine CG rfl rfl rfl (by rw [hg8]; rfl) [v1, .int .i64 0, .int .i64 t2] cf26 rfl (dfa_between_ok hrv2 hs.imm hRv1) rfl ?_
          rintro v6 wv3 ⟨gg3, hvv6, hegg3⟩
          have hlegg3 := hegg3.le hs.imm
          replace hs := hs.call hegg3
          replace hRv1 := hRv1.mono hlegg3
          replace hRv2 := hRv2.mono hlegg3
          replace hRv3 := hRv3.mono hlegg3
          replace hRv4 := hRv4.mono hlegg3
          replace hag0 := hag0.trans hlegg3
          obtain ⟨cs7, rfl, hcs7⟩ := hvv6
          have hcs7 : cs7 = _ := hcs7; subst hcs7
          refine OG rfl rfl rfl (by rw [hg8]; rfl) (r_not rfl) rfl ?_
          refine O (r_pickF (v := .bool (!rv2)) rfl hg8 rfl) rfl ?_
          refine OW_nil ?_
          obtain rfl := Option.some.inj hM
          exact ⟨gg3, rfl, rfl, rfl, rfl, hag0, hs⟩
      · clear hs
        rintro E w ⟨gg2, hE1, hE3, hE4, hE43, hlegg2, hs⟩
        have hM := hKhx2
        obtain ⟨E, rfl⟩ := open1 (E := E) hE1
        obtain ⟨E, rfl⟩ := open1 (E := E) hE3
        obtain ⟨E, rfl⟩ := open1 (E := E) hE4
        obtain ⟨E, rfl⟩ := open1 (E := E) hE43
        replace hRv1 := hRv1.mono hlegg2
        replace hRv2 := hRv2.mono hlegg2
        replace hRv3 := hRv3.mono hlegg2
        rcases condS hM with ⟨hc2, hM⟩ | ⟨hc2, hM⟩
        · refine WP_true rfl hc2 ?_
          refine WP_seq ?_
          refine WP_region ?_
          refine O (r_assign (v := .bool false) rfl) rfl ?_
          refine OW_nil ?_
          refine WP_ret ?_
          obtain rfl := Option.some.inj hM
          exact ⟨_, res1 Try.results11 (rv_tmp (v := .bool false) rfl), gg2, ⟨[.bool false], rfl, rfl⟩, hs.ext⟩
        · refine WP_false rfl hc2 ?_
          refine WP_skip ?_
          obtain ⟨o3, hx6, hKhx6⟩ := stepS hM
          refine WP_cut (fun E w => ∃ u9 : Unit, o3 = .next u9 ∧ ∃ (gg16 : Hp), E 1 = .pointer (some ⟨b1, 0, none⟩) ∧ Hle gg2 gg16 ∧ Go.Lx.Sep g0 w0 gg16 w [Go.Lx.box b1 25 ([v1, v2, v3])]) ?_ ?_
          · have hM := hx6
            have hagg2 := Hle.refl gg2
            refine WP_seq ?_
            refine WP_region ?_
            refine O (r_fieldAddr Try.underlying25 ti23 rfl rfl (by decide) rfl rfl) rfl ?_
            refine O (r_load (v := v2) ti23 rfl (hs.cell (i := 0) (o := 1) rfl rfl)) rfl ?_
            obtain ⟨a14, ca14, hva14⟩ := hRv2.shape
            refine O (r_lenSl (v := v2) Try.underlying23 rfl hva14) rfl ?_
            refine O (r_move (v := .int .i64 0) rfl) rfl ?_
            refine OW_nil ?_
            refine WP_block ?_
            refine WP_loop (fun (xv11 : Int) E w => ∃ (gg21 : Hp), E 1 = .pointer (some ⟨b1, 0, none⟩) ∧ E 3 = .int .i64 (p1.Next.length : Int) ∧ E 4 = .int .i64 (e1.length : Int) ∧ E 45 = v2 ∧ E 46 = .int .i64 (p1.Next.length : Int) ∧ E 47 = .int .i64 xv11 ∧ Hle gg2 gg21 ∧ Go.Lx.Sep g0 w0 gg21 w [Go.Lx.box b1 25 ([v1, v2, v3])]) hM ⟨gg2, rfl, rfl, rfl, rfl, rfl, rfl, (Hle.refl _), hs⟩ ?_
            clear hs hM
            rintro xv11 o2 E w hM ⟨gg21, hE1, hE3, hE4, hE45, hE46, hE47, hlegg21, hs⟩
            obtain ⟨E, rfl⟩ := open1 (E := E) hE1
            obtain ⟨E, rfl⟩ := open1 (E := E) hE3
            obtain ⟨E, rfl⟩ := open1 (E := E) hE4
            obtain ⟨E, rfl⟩ := open1 (E := E) hE45
            obtain ⟨E, rfl⟩ := open1 (E := E) hE46
            obtain ⟨E, rfl⟩ := open1 (E := E) hE47
            replace hRv1 := hRv1.mono hlegg21
            replace hRv2 := hRv2.mono hlegg21
            replace hRv3 := hRv3.mono hlegg21
            replace hagg2 := hagg2.trans hlegg21
            have hagg21 := Hle.refl gg21
            refine WP_seq ?_
            refine WP_region ?_
            refine O (r_lss rfl rfl) rfl ?_
            refine OW_nil ?_
            refine WP_seq ?_
            rcases condS hM with ⟨hc13, hM⟩ | ⟨hc13, hM⟩
            · refine WP_true rfl hc13 ?_
              refine WP_skip ?_
              refine WP_seq ?_
              refine WP_block ?_
              refine WP_seq ?_
              refine WP_region ?_
              obtain ⟨e5, he5, hM⟩ := bindS hM
              obtain ⟨b8, ob8, cb8, hvb8, cs23, hcs23, hcb8⟩ := hRv2.at he5
              obtain ⟨v22, rfl, hRv22⟩ := hcs23
              refine O (r_idxSl Try.underlying23 ti22 (v := v2) rfl hvb8 rfl (idxL_some he5).1 (idxL_some he5).2.1) rfl ?_
              refine O (r_loadEl (cs := [v22]) ti22 rfl rfl (.inr rfl) (hcb8 _ hs.imm) (v := v22) rfl) rfl ?_
              refine O (r_assign (v := v22) rfl) rfl ?_
              refine OW_nil ?_
              obtain ⟨xv14, hx9, hKhx9⟩ := bindS hM
              refine WP_cut (fun E w => ∃ (gg27 : Hp), E 1 = .pointer (some ⟨b1, 0, none⟩) ∧ E 3 = .int .i64 (p1.Next.length : Int) ∧ E 4 = .int .i64 (e1.length : Int) ∧ E 45 = v2 ∧ E 46 = .int .i64 (p1.Next.length : Int) ∧ E 47 = .int .i64 xv11 ∧ E 61 = .bool xv14 ∧ Hle gg21 gg27 ∧ Go.Lx.Sep g0 w0 gg27 w [Go.Lx.box b1 25 ([v1, v2, v3])]) ?_ ?_
              · have hM := hx9
                refine WP_region ?_
                refine O (r_move (v := v22) rfl) rfl ?_
                obtain ⟨a20, ca20, hva20⟩ := hRv22.shape
                refine O (r_lenSl (v := v22) Try.underlying22 rfl hva20) rfl ?_
                refine O (r_move (v := .int .i64 (e1.length : Int)) rfl) rfl ?_
                refine O (r_neq rfl rfl) rfl ?_
                refine O (r_move (v := .bool ((e5.length : Int) != (e1.length : Int))) rfl) rfl ?_
                rcases condS hM with ⟨hg20, hM⟩ | ⟨hg20, hM⟩
                · refine OK rfl rfl rfl (by rw [hg20]; rfl) rfl ?_
                  refine OK rfl rfl rfl (by rw [hg20]; rfl) rfl ?_
                  refine OK rfl rfl rfl (by rw [hg20]; rfl) rfl ?_
                  refine OK rfl rfl rfl (by rw [hg20]; rfl) rfl ?_
                  refine OK rfl rfl rfl (by rw [hg20]; rfl) rfl ?_
                  refine O (r_pickT (v := .bool true) rfl hg20 rfl) rfl ?_
                  refine OW_nil ?_
                  obtain rfl := Option.some.inj hM
                  exact ⟨gg21, rfl, rfl, rfl, rfl, rfl, rfl, rfl, (Hle.refl _), hs⟩
                · refine OG rfl rfl rfl (by rw [hg20]; rfl) (r_move (v := v22) rfl) rfl ?_
                  refine OG rfl rfl rfl (by rw [hg20]; rfl) (r_move (v := .int .i64 (p1.Next.length : Int)) rfl) rfl ?_
                  obtain ⟨t19, ht19, hM⟩ := bindS hM
                  refine OG rfl rfl rfl (by rw [hg20]; rfl) (r_subM rfl rfl ht19) rfl ?_
                  obtain ⟨rv14, hrv14, hM⟩ := bindS hM
                  refine CG rfl rfl rfl (by rw [hg20]; rfl) [v22, .int .i64 (-1), .int .i64 t19] cf26 rfl (dfa_between_ok hrv14 hs.imm hRv22) rfl ?_
                  rintro v24 wv15 ⟨gg28, hvv24, hegg28⟩
                  have hlegg28 := hegg28.le hs.imm
                  replace hs := hs.call hegg28
                  replace hRv1 := hRv1.mono hlegg28
                  replace hRv2 := hRv2.mono hlegg28
                  replace hRv3 := hRv3.mono hlegg28
                  replace hRv22 := hRv22.mono hlegg28
                  replace hlegg21 := hlegg21.trans hlegg28
                  replace hagg21 := hagg21.trans hlegg28
                  obtain ⟨cs25, rfl, hcs25⟩ := hvv24
                  have hcs25 : cs25 = _ := hcs25; subst hcs25
                  refine OG rfl rfl rfl (by rw [hg20]; rfl) (r_not rfl) rfl ?_
                  refine O (r_pickF (v := .bool (!rv14)) rfl hg20 rfl) rfl ?_
                  refine OW_nil ?_
                  obtain rfl := Option.some.inj hM
                  exact ⟨gg28, rfl, rfl, rfl, rfl, rfl, rfl, rfl, hagg21, hs⟩
              · clear hs
                rintro E w ⟨gg27, hE1, hE3, hE4, hE45, hE46, hE47, hE61, hlegg27, hs⟩
                have hM := hKhx9
                obtain ⟨E, rfl⟩ := open1 (E := E) hE1
                obtain ⟨E, rfl⟩ := open1 (E := E) hE3
                obtain ⟨E, rfl⟩ := open1 (E := E) hE4
                obtain ⟨E, rfl⟩ := open1 (E := E) hE45
                obtain ⟨E, rfl⟩ := open1 (E := E) hE46
                obtain ⟨E, rfl⟩ := open1 (E := E) hE47
                obtain ⟨E, rfl⟩ := open1 (E := E) hE61
                replace hRv1 := hRv1.mono hlegg27
                replace hRv2 := hRv2.mono hlegg27
                replace hRv3 := hRv3.mono hlegg27
                replace hlegg21 := hlegg21.trans hlegg27
                replace hagg21 := hagg21.trans hlegg27
                rcases condS hM with ⟨hc14, hM⟩ | ⟨hc14, hM⟩
                · refine WP_true rfl hc14 ?_
                  refine WP_seq ?_
                  refine WP_region ?_
                  refine O (r_assign (v := .bool false) rfl) rfl ?_
                  refine OW_nil ?_
                  refine WP_ret ?_
                  obtain rfl := Option.some.inj hM
                  refine fun hr => ?_
                  have hM := congrArg some hr
                  obtain rfl := Option.some.inj hM
                  have hM := hKhx6
                  obtain rfl := Option.some.inj hM
                  exact ⟨_, res1 Try.results11 (rv_tmp (v := .bool false) rfl), gg27, ⟨[.bool false], rfl, rfl⟩, hs.ext⟩
                · refine WP_false rfl hc14 ?_
                  refine WP_skip ?_
                  refine WP_region ?_
                  obtain ⟨t20, ht20, hM⟩ := bindS hM
                  refine O (r_addM rfl rfl ht20) rfl ?_
                  refine O (r_move (v := .int .i64 t20) rfl) rfl ?_
                  refine OW_nil ?_
                  obtain rfl := Option.some.inj hM
                  exact ⟨gg27, rfl, rfl, rfl, rfl, rfl, rfl, hlegg21, hs⟩
            · refine WP_false rfl hc13 ?_
              refine WP_exit ?_
              obtain rfl := Option.some.inj hM
              refine fun hr => ?_
              have hM := congrArg some hr
              obtain rfl := Option.some.inj hM
              exact ⟨(), rfl, gg21, rfl, hlegg21, hs⟩
          · clear hs
            rintro E w ⟨_, rfl, gg16, hE1, hlegg16, hs⟩
            have hM := hKhx6
            dsimp only [onStep] at hM
            obtain ⟨E, rfl⟩ := open1 (E := E) hE1
            replace hRv1 := hRv1.mono hlegg16
            replace hRv2 := hRv2.mono hlegg16
            replace hRv3 := hRv3.mono hlegg16
            refine WP_seq ?_
            refine WP_region ?_
            refine O (r_fieldAddr Try.underlying25 ti22 rfl rfl (by decide) rfl rfl) rfl ?_
            refine O (r_load (v := v3) ti22 rfl (hs.cell (i := 0) (o := 2) rfl rfl)) rfl ?_
            obtain ⟨rv15, hrv15, hM⟩ := bindS hM
            refine C [v3, .func (.func 28) #[] #[]] cf27 rfl (slices_ContainsFunc_int_int_ok hrv15 hs.imm hRv3 (show FnRd1 Try.prog (VRd (tInt .i64) false) (VRd tBool false) (.func (.func 28) #[] #[]) M.dfa_Valid_1 gg16 from ⟨28, [], rfl, cf28, fun g9 w9 a90 x90 r9 hle9 hi9 ha90 hM9 => by obtain ⟨c90, rfl, ha90⟩ := ha90; have ha90 : c90 = _ := ha90; subst ha90; exact dfa_Valid_1_ok hM9 hi9 ⟩)) rfl ?_
            rintro v25 wv16 ⟨gg29, hvv25, hegg29⟩
            have hlegg29 := hegg29.le hs.imm
            replace hs := hs.call hegg29
            replace hRv1 := hRv1.mono hlegg29
            replace hRv2 := hRv2.mono hlegg29
            replace hRv3 := hRv3.mono hlegg29
            obtain ⟨cs26, rfl, hcs26⟩ := hvv25
            have hcs26 : cs26 = _ := hcs26; subst hcs26
            refine O (r_not rfl) rfl ?_
            refine O (r_assign (v := .bool (!rv15)) rfl) rfl ?_
            refine OW_nil ?_
            refine WP_ret ?_
            obtain rfl := Option.some.inj hM
            exact ⟨_, res1 Try.results11 (rv_tmp (v := .bool (!rv15)) rfl), gg29, ⟨[.bool (!rv15)], rfl, rfl⟩, hs.ext⟩

set_option maxRecDepth 100000 in
theorem dfa_step_ok {d1 : T_DFA} {s1 : Int} {b1 : Int} {r : Int} (hM : M.dfa_step d1 s1 b1 = some r) {g0 : Hp} {w0 : World} (hi : Imm g0 w0) {cs1 : List Value} (hcs1 : tT_DFA.rel g0 cs1 d1) :
    CallsV Try.prog 29 #[.agg cs1.toArray, .int .i64 s1, .int .u8 b1] w0 (fun v w' => ∃ g', (VRd (tInt .i64) false g' v r) ∧ Ext g0 w0 g' w') := by
  unfold M.dfa_step at hM
  obtain ⟨cs2, cs3, cs4, rfl, hcs2, hcs3, hcs4⟩ := hcs1
  obtain ⟨v1, rfl, hRv1⟩ := hcs2
  obtain ⟨v2, rfl, hRv2⟩ := hcs3
  obtain ⟨v3, rfl, hRv3⟩ := hcs4
  have hs := Sep.start hi
  refine calls_of_WP (args := [.agg (List.toArray (α := Value) [v1, v2, v3]), .int .i64 s1, .int .u8 b1]) Try.func29 rfl Try.ntmps29 rfl ?_
  refine WP_seq ?_
  refine WP_region ?_
  refine OW_box (v := .agg (List.toArray (α := Value) [v1, v2, v3])) rfl hs (zs := [v1, v2, v3]) rfl rfl ?_
  intro b2 wv1 hs
  refine O (r_assign (v := .int .i64 0) rfl) rfl ?_
  refine OW_nil ?_
  refine WP_seq ?_
  refine WP_seq ?_
  refine WP_region ?_
  refine O (r_move (v := .int .i64 s1) rfl) rfl ?_
  refine O (r_lss rfl rfl) rfl ?_
  refine OW_nil ?_
  rcases condS hM with ⟨hc1, hM⟩ | ⟨hc1, hM⟩
  · refine WP_true rfl hc1 ?_
    refine WP_seq ?_
    refine WP_region ?_
    refine O (r_assign (v := .int .i64 (-1)) rfl) rfl ?_
    refine OW_nil ?_
    refine WP_ret ?_
    obtain rfl := Option.some.inj hM
    exact ⟨_, res1 Try.results29 (rv_tmp (v := .int .i64 (-1)) rfl), g0, ⟨[.int .i64 (-1)], rfl, rfl⟩, hs.ext⟩
  · refine WP_false rfl hc1 ?_
    refine WP_skip ?_
    refine WP_seq ?_
    refine WP_draw mo (by decide +kernel) ?_
    have hs := hs.drew
    refine S (r_fieldAddr Try.underlying25 ti23 rfl rfl (by decide) rfl rfl) rfl ?_
    refine S (r_load (v := v2) ti23 rfl (hs.cell (i := 0) (o := 1) rfl rfl)) rfl ?_
    refine S (r_move (v := .int .i64 s1) rfl) rfl ?_
    obtain ⟨e1, he1, hM⟩ := bindS hM
    obtain ⟨b3, ob3, cb3, hvb3, cs5, hcs5, hcb3⟩ := hRv2.at he1
    obtain ⟨v4, rfl, hRv4⟩ := hcs5
    refine S (r_idxSl Try.underlying23 ti22 (v := v2) rfl hvb3 rfl (idxL_some he1).1 (idxL_some he1).2.1) rfl ?_
    refine S (r_loadEl (cs := [v4]) ti22 rfl rfl (.inr rfl) (hcb3 _ hs.imm) (v := v4) rfl) rfl ?_
    refine S (r_fieldAddr Try.underlying25 ti22 rfl rfl (by decide) rfl rfl) rfl ?_
    refine S (r_load (v := v1) ti22 rfl (hs.cell (i := 0) (o := 0) rfl rfl)) rfl ?_
    refine S (r_move (v := .int .u8 b1) rfl) rfl ?_
    obtain ⟨e2, he2, hM⟩ := bindS hM
    obtain ⟨b4, ob4, cb4, hvb4, cs6, hcs6, hcb4⟩ := hRv1.at he2
    have hcs6 : cs6 = _ := hcs6; subst hcs6
    refine S (r_idxSl Try.underlying22 ti3 (v := v1) rfl hvb4 rfl (idxL_some he2).1 (idxL_some he2).2.1) rfl ?_
    refine S (r_loadEl (cs := [.int .i64 e2]) ti3 rfl rfl (.inr rfl) (hcb4 _ hs.imm) (v := .int .i64 e2) rfl) rfl ?_
    obtain ⟨e3, he3, hM⟩ := bindS hM
    obtain ⟨b5, ob5, cb5, hvb5, cs7, hcs7, hcb5⟩ := hRv4.at he3
    have hcs7 : cs7 = _ := hcs7; subst hcs7
    refine S (r_idxSl Try.underlying22 ti3 (v := v4) rfl hvb5 rfl (idxL_some he3).1 (idxL_some he3).2.1) rfl ?_
    refine S (r_loadEl (cs := [.int .i64 e3]) ti3 rfl rfl (.inr rfl) (hcb5 _ hs.imm) (v := .int .i64 e3) rfl) rfl ?_
    refine S (r_assign (v := .int .i64 e3) rfl) rfl ?_
    refine SW_nil ?_
    refine WP_ret ?_
    obtain rfl := Option.some.inj hM
    exact ⟨_, res1 Try.results29 (rv_tmp (v := .int .i64 e3) rfl), g0, ⟨[.int .i64 e3], rfl, rfl⟩, hs.ext⟩

set_option maxRecDepth 100000 in
theorem dfa_result_ok {d1 : T_DFA} {s1 : Int} {r : Int} (hM : M.dfa_result d1 s1 = some r) {g0 : Hp} {w0 : World} (hi : Imm g0 w0) {cs1 : List Value} (hcs1 : tT_DFA.rel g0 cs1 d1) :
    CallsV Try.prog 30 #[.agg cs1.toArray, .int .i64 s1] w0 (fun v w' => ∃ g', (VRd (tInt .i64) false g' v r) ∧ Ext g0 w0 g' w') := by
  unfold M.dfa_result at hM
  obtain ⟨cs2, cs3, cs4, rfl, hcs2, hcs3, hcs4⟩ := hcs1
  obtain ⟨v1, rfl, hRv1⟩ := hcs2
  obtain ⟨v2, rfl, hRv2⟩ := hcs3
  obtain ⟨v3, rfl, hRv3⟩ := hcs4
  have hs := Sep.start hi
  refine calls_of_WP (args := [.agg (List.toArray (α := Value) [v1, v2, v3]), .int .i64 s1]) Try.func30 rfl Try.ntmps30 rfl ?_
  refine WP_seq ?_
  refine WP_region ?_
  refine OW_box (v := .agg (List.toArray (α := Value) [v1, v2, v3])) rfl hs (zs := [v1, v2, v3]) rfl rfl ?_
  intro b1 wv1 hs
  refine O (r_assign (v := .int .i64 0) rfl) rfl ?_
  refine OW_nil ?_
  refine WP_seq ?_
  refine WP_seq ?_
  refine WP_region ?_
  refine O (r_move (v := .int .i64 s1) rfl) rfl ?_
  refine O (r_lss rfl rfl) rfl ?_
  refine OW_nil ?_
  rcases condS hM with ⟨hc1, hM⟩ | ⟨hc1, hM⟩
  · refine WP_true rfl hc1 ?_
    refine WP_seq ?_
    refine WP_region ?_
    refine O (r_assign (v := .int .i64 (-1)) rfl) rfl ?_
    refine OW_nil ?_
    refine WP_ret ?_
    obtain rfl := Option.some.inj hM
    exact ⟨_, res1 Try.results30 (rv_tmp (v := .int .i64 (-1)) rfl), g0, ⟨[.int .i64 (-1)], rfl, rfl⟩, hs.ext⟩
  · refine WP_false rfl hc1 ?_
    refine WP_skip ?_
    refine WP_seq ?_
    refine WP_region ?_
    refine O (r_fieldAddr Try.underlying25 ti22 rfl rfl (by decide) rfl rfl) rfl ?_
    refine O (r_load (v := v3) ti22 rfl (hs.cell (i := 0) (o := 2) rfl rfl)) rfl ?_
    refine O (r_move (v := .int .i64 s1) rfl) rfl ?_
    obtain ⟨e1, he1, hM⟩ := bindS hM
    obtain ⟨b2, ob2, cb2, hvb2, cs5, hcs5, hcb2⟩ := hRv3.at he1
    have hcs5 : cs5 = _ := hcs5; subst hcs5
    refine O (r_idxSl Try.underlying22 ti3 (v := v3) rfl hvb2 rfl (idxL_some he1).1 (idxL_some he1).2.1) rfl ?_
    refine O (r_loadEl (cs := [.int .i64 e1]) ti3 rfl rfl (.inr rfl) (hcb2 _ hs.imm) (v := .int .i64 e1) rfl) rfl ?_
    refine O (r_assign (v := .int .i64 e1) rfl) rfl ?_
    refine OW_nil ?_
    refine WP_ret ?_
    obtain rfl := Option.some.inj hM
    exact ⟨_, res1 Try.results30 (rv_tmp (v := .int .i64 e1) rfl), g0, ⟨[.int .i64 e1], rfl, rfl⟩, hs.ext⟩

set_option maxRecDepth 100000 in
theorem dfa_Run_ok {d1 : T_DFA} {s1 : Str} {r : Int} (hM : M.dfa_Run d1 s1 = some r) {g0 : Hp} {w0 : World} (hi : Imm g0 w0) {cs1 : List Value} (hcs1 : tT_DFA.rel g0 cs1 d1) :
    CallsV Try.prog 12 #[.agg cs1.toArray, encS s1] w0 (fun v w' => ∃ g', (VRd (tInt .i64) false g' v r) ∧ Ext g0 w0 g' w') := by
  unfold M.dfa_Run at hM
  obtain ⟨cs2, cs3, cs4, rfl, hcs2, hcs3, hcs4⟩ := hcs1
  obtain ⟨v1, rfl, hRv1⟩ := hcs2
  obtain ⟨v2, rfl, hRv2⟩ := hcs3
  obtain ⟨v3, rfl, hRv3⟩ := hcs4
  have hs := Sep.start hi
  refine calls_of_WP (args := [.agg (List.toArray (α := Value) [v1, v2, v3]), encS s1]) Try.func12 rfl Try.ntmps12 rfl ?_
  refine WP_seq ?_
  refine WP_region ?_
  refine OW_box (v := .agg (List.toArray (α := Value) [v1, v2, v3])) rfl hs (zs := [v1, v2, v3]) rfl rfl ?_
  intro b1 wv1 hs
  refine O (r_assign (v := .int .i64 0) rfl) rfl ?_
  refine OW_nil ?_
  refine WP_seq ?_
  refine WP_region ?_
  refine O (r_assign (v := .int .i64 0) rfl) rfl ?_
  refine OW_nil ?_
  obtain ⟨state7, hx1, hKhx1⟩ := bindS hM
  refine WP_cut (fun E w => ∃ (gg7 : Hp), E 2 = .pointer (some ⟨b1, 0, none⟩) ∧ E 5 = .int .i64 state7 ∧ Hle g0 gg7 ∧ Go.Lx.Sep g0 w0 gg7 w [Go.Lx.box b1 25 ([v1, v2, v3])]) ?_ ?_
  · have hM := hx1
    have hag0 := Hle.refl g0
    refine WP_seq ?_
    refine WP_region ?_
    refine O (r_move (v := encS s1) rfl) rfl ?_
    refine O (r_lenStr Try.underlying9 rfl) rfl ?_
    refine O (r_move (v := .int .i64 0) rfl) rfl ?_
    refine OW_nil ?_
    refine WP_block ?_
    refine WP_loop (fun (st9 : Int × Int) E w => match st9 with | (state10, xv5) => ∃ (gg10 : Hp), E 1 = encS s1 ∧ E 2 = .pointer (some ⟨b1, 0, none⟩) ∧ E 5 = .int .i64 state10 ∧ E 8 = .int .i64 (s1.length : Int) ∧ E 9 = .int .i64 xv5 ∧ Hle g0 gg10 ∧ Go.Lx.Sep g0 w0 gg10 w [Go.Lx.box b1 25 ([v1, v2, v3])]) hM ⟨g0, rfl, rfl, rfl, rfl, rfl, (Hle.refl _), hs⟩ ?_
    clear hs hM
    rintro ⟨state10, xv5⟩ o2 E w hM ⟨gg10, hE1, hE2, hE5, hE8, hE9, hlegg10, hs⟩
    obtain ⟨E, rfl⟩ := open1 (E := E) hE1
    obtain ⟨E, rfl⟩ := open1 (E := E) hE2
    obtain ⟨E, rfl⟩ := open1 (E := E) hE5
    obtain ⟨E, rfl⟩ := open1 (E := E) hE8
    obtain ⟨E, rfl⟩ := open1 (E := E) hE9
    replace hRv1 := hRv1.mono hlegg10
    replace hRv2 := hRv2.mono hlegg10
    replace hRv3 := hRv3.mono hlegg10
    replace hag0 := hag0.trans hlegg10
    have hagg10 := Hle.refl gg10
    refine WP_seq ?_
    refine WP_region ?_
    refine O (r_lss rfl rfl) rfl ?_
    refine OW_nil ?_
    refine WP_seq ?_
    rcases condS hM with ⟨hc6, hM⟩ | ⟨hc6, hM⟩
    · refine WP_true rfl hc6 ?_
      refine WP_skip ?_
      refine WP_seq ?_
      refine WP_block ?_
      refine WP_seq ?_
      refine WP_region ?_
      refine O (r_move (v := .int .i64 xv5) rfl) rfl ?_
      refine O (r_assign (v := .int .i64 xv5) rfl) rfl ?_
      refine OW_nil ?_
      refine WP_drawTail 5 mo (by decide +kernel) ?_
      have hs := hs.drew
      refine S (r_loadN (cs := [v1, v2, v3]) ti25 rfl rfl (hs.cells (i := 0) rfl)) rfl ?_
      refine S (r_move (v := .int .i64 state10) rfl) rfl ?_
      refine S (r_move (v := encS s1) rfl) rfl ?_
      refine S (r_move (v := .int .i64 xv5) rfl) rfl ?_
      obtain ⟨c6, hc6, hM⟩ := bindS hM
      refine S (r_idxStr Try.underlying9 rfl rfl hc6) rfl ?_
      refine SW_nil ?_
      obtain ⟨state13, hstate13, hM⟩ := bindS hM
      refine C [.agg (List.toArray (α := Value) [v1, v2, v3]), .int .i64 state10, .int .u8 c6] cf29 rfl (dfa_step_ok hstate13 hs.imm (⟨[v1], [v2], [v3], rfl, ⟨_, rfl, hRv1⟩, ⟨_, rfl, hRv2⟩, ⟨_, rfl, hRv3⟩⟩)) rfl ?_
      rintro v9 wv7 ⟨gg13, hvv9, hegg13⟩
      have hlegg13 := hegg13.le hs.imm
      replace hs := hs.call hegg13
      replace hRv1 := hRv1.mono hlegg13
      replace hRv2 := hRv2.mono hlegg13
      replace hRv3 := hRv3.mono hlegg13
      replace hlegg10 := hlegg10.trans hlegg13
      replace hagg10 := hagg10.trans hlegg13
      obtain ⟨cs10, rfl, hcs10⟩ := hvv9
      have hcs10 : cs10 = _ := hcs10; subst hcs10
      refine O (r_assign (v := .int .i64 state13) rfl) rfl ?_
      refine OW_nil ?_
      refine WP_region ?_
      obtain ⟨t6, ht6, hM⟩ := bindS hM
      refine O (r_addM rfl rfl ht6) rfl ?_
      refine O (r_move (v := .int .i64 t6) rfl) rfl ?_
      refine OW_nil ?_
      obtain rfl := Option.some.inj hM
      exact ⟨gg13, rfl, rfl, rfl, rfl, rfl, hlegg10, hs⟩
    · refine WP_false rfl hc6 ?_
      refine WP_exit ?_
      obtain rfl := Option.some.inj hM
      refine fun hr => ?_
      have hM := congrArg some hr
      obtain rfl := Option.some.inj hM
      exact ⟨gg10, rfl, rfl, hlegg10, hs⟩
  · clear hs
    rintro E w ⟨gg7, hE2, hE5, hlegg7, hs⟩
    have hM := hKhx1
    obtain ⟨E, rfl⟩ := open1 (E := E) hE2
    obtain ⟨E, rfl⟩ := open1 (E := E) hE5
    replace hRv1 := hRv1.mono hlegg7
    replace hRv2 := hRv2.mono hlegg7
    replace hRv3 := hRv3.mono hlegg7
    refine WP_seq ?_
    refine WP_region ?_
    refine O (r_loadN (cs := [v1, v2, v3]) ti25 rfl rfl (hs.cells (i := 0) rfl)) rfl ?_
    refine O (r_move (v := .int .i64 state7) rfl) rfl ?_
    obtain ⟨rv1, hrv1, hM⟩ := bindS hM
    refine C [.agg (List.toArray (α := Value) [v1, v2, v3]), .int .i64 state7] cf30 rfl (dfa_result_ok hrv1 hs.imm (⟨[v1], [v2], [v3], rfl, ⟨_, rfl, hRv1⟩, ⟨_, rfl, hRv2⟩, ⟨_, rfl, hRv3⟩⟩)) rfl ?_
    rintro v10 wv8 ⟨gg14, hvv10, hegg14⟩
    have hlegg14 := hegg14.le hs.imm
    replace hs := hs.call hegg14
    replace hRv1 := hRv1.mono hlegg14
    replace hRv2 := hRv2.mono hlegg14
    replace hRv3 := hRv3.mono hlegg14
    obtain ⟨cs11, rfl, hcs11⟩ := hvv10
    have hcs11 : cs11 = _ := hcs11; subst hcs11
    refine O (r_assign (v := .int .i64 rv1) rfl) rfl ?_
    refine OW_nil ?_
    refine WP_ret ?_
    obtain rfl := Option.some.inj hM
    exact ⟨_, res1 Try.results12 (rv_tmp (v := .int .i64 rv1) rfl), gg14, ⟨[.int .i64 rv1], rfl, rfl⟩, hs.ext⟩

set_option maxRecDepth 100000 in
theorem dfa_sample_ok {classv1 : (List Int)} {r : (List Int)} (hM : M.dfa_sample classv1 = some r) {g0 : Hp} {w0 : World} (hi : Imm g0 w0) {v1 : Value} (hRv1 : RdS (tInt .i64) g0 v1 classv1) :
    CallsV Try.prog 38 #[v1] w0 (fun v w' => ∃ g' y0, (RowRel (tInt .u8) g' y0 r) ∧ Sep g0 w0 g' w' [.row v 5 (tInt .u8).sz r.length y0]) := by
  unfold M.dfa_sample at hM
  have hs := Sep.start hi
  refine calls_of_WP (args := [v1]) Try.func38 rfl Try.ntmps38 rfl ?_
  refine WP_seq ?_
  refine WP_region ?_
  refine O (r_assign (v := .slice none 0 0) rfl) rfl ?_
  refine OW_nil ?_
  refine WP_seq ?_
  refine WP_region ?_
  refine O (r_assign (v := .slice none 0 0) rfl) rfl ?_
  refine OW_nil ?_
  obtain ⟨xv7, hx4, hKhx4⟩ := bindS hM
  refine WP_cut (fun E w => ∃ (v20 : Value) (xs21 : List Value), E 3 = v20 ∧ RowRel (tInt .u8) g0 xs21 xv7 ∧ Go.Lx.Sep g0 w0 g0 w [.row v20 5 (tInt .u8).sz xv7.length xs21]) ?_ ?_
  · have hM := hx4
    have hag0 := Hle.refl g0
    refine WP_seq ?_
    refine WP_region ?_
    refine O (r_move (v := v1) rfl) rfl ?_
    obtain ⟨a6, ca6, hva6⟩ := hRv1.shape
    refine O (r_lenSl (v := v1) Try.underlying22 rfl hva6) rfl ?_
    refine O (r_move (v := .int .i64 0) rfl) rfl ?_
    refine OW_nil ?_
    refine WP_block ?_
    have hs := hs.nilRow 5 (tInt .u8).sz
    refine WP_loop (fun (st9 : (List Int) × Int) E w => match st9 with | (xv10, xv11) => ∃ (v27 : Value) (xs30 : List Value), E 3 = v27 ∧ E 6 = v1 ∧ E 7 = .int .i64 (classv1.length : Int) ∧ E 8 = .int .i64 xv11 ∧ RowRel (tInt .u8) g0 xs30 xv10 ∧ Go.Lx.Sep g0 w0 g0 w [.row v27 5 (tInt .u8).sz xv10.length xs30]) hM ⟨(.slice none 0 0), [], rfl, rfl, rfl, rfl, RowRel.nil, hs⟩ ?_
    clear hs hM
    rintro ⟨xv10, xv11⟩ o2 E w hM ⟨v27, xs30, hE3, hE6, hE7, hE8, hrelxs30, hs⟩
    obtain ⟨E, rfl⟩ := open1 (E := E) hE3
    obtain ⟨E, rfl⟩ := open1 (E := E) hE6
    obtain ⟨E, rfl⟩ := open1 (E := E) hE7
    obtain ⟨E, rfl⟩ := open1 (E := E) hE8
    refine WP_seq ?_
    refine WP_region ?_
    refine O (r_lss rfl rfl) rfl ?_
    refine OW_nil ?_
    refine WP_seq ?_
    rcases condS hM with ⟨hc16, hM⟩ | ⟨hc16, hM⟩
    · refine WP_true rfl hc16 ?_
      refine WP_skip ?_
      obtain ⟨l11, hx7, hKhx7⟩ := bindS hM
      refine WP_cut (fun E w => ∃ (v36 : Value) (xs39 : List Value), E 3 = v36 ∧ E 6 = v1 ∧ E 7 = .int .i64 (classv1.length : Int) ∧ E 8 = .int .i64 xv11 ∧ RowRel (tInt .u8) g0 xs39 l11 ∧ Go.Lx.Sep g0 w0 g0 w [.row v36 5 (tInt .u8).sz l11.length xs39]) ?_ ?_
      · have hM := hx7
        refine WP_block ?_
        refine WP_seq ?_
        refine WP_region ?_
        refine O (r_move (v := .int .i64 xv11) rfl) rfl ?_
        obtain ⟨e12, he12, hM⟩ := bindS hM
        obtain ⟨b12, ob12, cb12, hvb12, cs12, hcs12, hcb12⟩ := hRv1.at he12
        have hcs12 : cs12 = _ := hcs12; subst hcs12
        refine O (r_idxSl Try.underlying22 ti3 (v := v1) rfl hvb12 rfl (idxL_some he12).1 (idxL_some he12).2.1) rfl ?_
        refine O (r_loadEl (cs := [.int .i64 e12]) ti3 rfl rfl (.inr rfl) (hcb12 _ hs.imm) (v := .int .i64 e12) rfl) rfl ?_
        refine O (r_assign (v := .int .i64 xv11) rfl) rfl ?_
        refine O (r_assign (v := .int .i64 e12) rfl) rfl ?_
        refine OW_nil ?_
        refine WP_seq ?_
        refine WP_region ?_
        refine O (r_move (v := .int .i64 e12) rfl) rfl ?_
        refine O (r_move (v := v27) rfl) rfl ?_
        obtain ⟨a10, ca10, hva10⟩ := hs.rowShape (i := 0) rfl
        refine O (r_lenSl (v := v27) Try.underlying59 rfl hva10) rfl ?_
        refine O (r_eql rfl rfl) rfl ?_
        refine OW_nil ?_
        rcases condS hM with ⟨hc18, hM⟩ | ⟨hc18, hM⟩
        · refine WP_true rfl hc18 ?_
          refine WP_region ?_
          refine O (r_move (v := v27) rfl) rfl ?_
          refine O (r_move (v := .int .i64 xv11) rfl) rfl ?_
          refine O (r_conv Try.underlying3 Try.underlying5 rfl) rfl ?_
          refine OW_lit (τ := (tInt .u8)) [.int .u8 (IntKind.u8.wrap xv11)] [(IntKind.u8.wrap xv11)] Try.underlying59 ti5 (by decide) hs rfl rfl rfl ⟨rfl, trivial⟩ rfl ?_
          intro v37 wv23 xs40 hrelxs40 hs
          obtain ⟨l12, hl12, hM⟩ := bindS hM
          refine OW_append Try.underlying59 ti5 rfl (by decide) (by decide) hs (i := 1) rfl hrelxs30 (v := v27) rfl (u := v37) rfl (hs.rowSrc (i := 0) rfl) hrelxs40 hl12 rfl ?_
          intro v38 wv24 xs41 hrelxs41 hs
          refine O (r_assign (v := v38) rfl) rfl ?_
          refine OW_nil ?_
          obtain rfl := Option.some.inj hM
          exact ⟨v38, xs41, rfl, rfl, rfl, rfl, hrelxs41, (hs.sub (.cons _ (.cons_cons _ .slnil)))⟩
        · refine WP_false rfl hc18 ?_
          refine WP_skip ?_
          obtain rfl := Option.some.inj hM
          exact ⟨v27, xs30, rfl, rfl, rfl, rfl, hrelxs30, hs⟩
      · clear hs
        rintro E w ⟨v36, xs39, hE3, hE6, hE7, hE8, hrelxs39, hs⟩
        have hM := hKhx7
        obtain ⟨E, rfl⟩ := open1 (E := E) hE3
        obtain ⟨E, rfl⟩ := open1 (E := E) hE6
        obtain ⟨E, rfl⟩ := open1 (E := E) hE7
        obtain ⟨E, rfl⟩ := open1 (E := E) hE8
        refine WP_region ?_
        obtain ⟨t6, ht6, hM⟩ := bindS hM
        refine O (r_addM rfl rfl ht6) rfl ?_
        refine O (r_move (v := .int .i64 t6) rfl) rfl ?_
        refine OW_nil ?_
        obtain rfl := Option.some.inj hM
        exact ⟨v36, xs39, rfl, rfl, rfl, rfl, hrelxs39, hs⟩
    · refine WP_false rfl hc16 ?_
      refine WP_exit ?_
      obtain rfl := Option.some.inj hM
      refine fun hr => ?_
      have hM := congrArg some hr
      obtain rfl := Option.some.inj hM
      exact ⟨v27, xs30, rfl, hrelxs30, hs⟩
  · clear hs
    rintro E w ⟨v20, xs21, hE3, hrelxs21, hs⟩
    have hM := hKhx4
    obtain ⟨E, rfl⟩ := open1 (E := E) hE3
    refine WP_seq ?_
    refine WP_region ?_
    refine O (r_move (v := v20) rfl) rfl ?_
    refine O (r_assign (v := v20) rfl) rfl ?_
    refine OW_nil ?_
    refine WP_ret ?_
    obtain rfl := Option.some.inj hM
    exact ⟨_, res1 Try.results38 (rv_tmp (v := v20) rfl), g0, xs21, hrelxs21, hs⟩

set_option maxRecDepth 100000 in
theorem dfa_live_ok {d1 : T_DFA} {r : (List Bool)} (hM : M.dfa_live d1 = some r) {g0 : Hp} {w0 : World} (hi : Imm g0 w0) {cs1 : List Value} (hcs1 : tT_DFA.rel g0 cs1 d1) :
    CallsV Try.prog 55 #[.agg cs1.toArray] w0 (fun v w' => ∃ g' y0, (RowRel tBool g' y0 r) ∧ Sep g0 w0 g' w' [.row v 4 tBool.sz r.length y0]) := by
  unfold M.dfa_live at hM
  obtain ⟨cs2, cs3, cs4, rfl, hcs2, hcs3, hcs4⟩ := hcs1
  obtain ⟨v1, rfl, hRv1⟩ := hcs2
  obtain ⟨v2, rfl, hRv2⟩ := hcs3
  obtain ⟨v3, rfl, hRv3⟩ := hcs4
  have hs := Sep.start hi
  refine calls_of_WP (args := [.agg (List.toArray (α := Value) [v1, v2, v3])]) Try.func55 rfl Try.ntmps55 rfl ?_
  refine WP_seq ?_
  refine WP_region ?_
  refine OW_box (v := .agg (List.toArray (α := Value) [v1, v2, v3])) rfl hs (zs := [v1, v2, v3]) rfl rfl ?_
  intro b1 wv1 hs
  refine O (r_assign (v := .slice none 0 0) rfl) rfl ?_
  refine OW_nil ?_
  refine WP_seq ?_
  refine WP_region ?_
  refine O (r_fieldAddr Try.underlying25 ti23 rfl rfl (by decide) rfl rfl) rfl ?_
  refine O (r_load (v := v2) ti23 rfl (hs.cell (i := 0) (o := 1) rfl rfl)) rfl ?_
  obtain ⟨a1, ca1, hva1⟩ := hRv2.shape
  refine O (r_lenSl (v := v2) Try.underlying23 rfl hva1) rfl ?_
  obtain ⟨l1, hl1, hM⟩ := bindS hM
  refine OW_make (τ := tBool) (zc := [.bool false]) (zx := false) Try.underlying88 ti4 rfl rfl (by decide) hs rfl rfl hl1 rfl ?_
  intro v4 wv2 xs1 hrelxs1 hs
  refine OW_alloc ti88 hs (zs := [.slice none 0 0]) rfl rfl ?_
  intro b2 wv3 hs
  refine OW_store1 ti88 hs (i := 0) rfl rfl (v := v4) rfl (by obtain ⟨_, _, h9⟩ := hs.rowShape (i := 1) rfl; rw [h9]; rfl) (o := 0) (by decide) ?_
  intro wv4 hs
  refine OW_nil ?_
  obtain ⟨l5, hx1, hKhx1⟩ := bindS hM
  refine WP_cut (fun E w => ∃ (v8 : Value) (xs8 : List Value), E 1 = .pointer (some ⟨b1, 0, none⟩) ∧ E 3 = .pointer (some ⟨b2, 0, none⟩) ∧ RowRel tBool g0 xs8 l5 ∧ Go.Lx.Sep g0 w0 g0 w [Go.Lx.box b2 88 ([v8]), .row v8 4 tBool.sz l5.length xs8, Go.Lx.box b1 25 ([v1, v2, v3])]) ?_ ?_
  · have hM := hx1
    have hag0 := Hle.refl g0
    refine WP_seq ?_
    refine WP_region ?_
    refine O (r_fieldAddr Try.underlying25 ti22 rfl rfl (by decide) rfl rfl) rfl ?_
    refine O (r_load (v := v3) ti22 rfl (hs.cell (i := 2) (o := 2) rfl rfl)) rfl ?_
    obtain ⟨a3, ca3, hva3⟩ := hRv3.shape
    refine O (r_lenSl (v := v3) Try.underlying22 rfl hva3) rfl ?_
    refine O (r_move (v := .int .i64 0) rfl) rfl ?_
    refine OW_nil ?_
    refine WP_block ?_
    refine WP_loop (fun (st9 : (List Bool) × Int) E w => match st9 with | (l7, xv5) => ∃ (v10 : Value) (xs11 : List Value), E 1 = .pointer (some ⟨b1, 0, none⟩) ∧ E 3 = .pointer (some ⟨b2, 0, none⟩) ∧ E 14 = v3 ∧ E 15 = .int .i64 (d1.Accept.length : Int) ∧ E 16 = .int .i64 xv5 ∧ RowRel tBool g0 xs11 l7 ∧ Go.Lx.Sep g0 w0 g0 w [Go.Lx.box b2 88 ([v10]), .row v10 4 tBool.sz l7.length xs11, Go.Lx.box b1 25 ([v1, v2, v3])]) hM ⟨v4, xs1, rfl, rfl, rfl, rfl, rfl, hrelxs1, hs⟩ ?_
    clear hs hM
    rintro ⟨l7, xv5⟩ o2 E w hM ⟨v10, xs11, hE1, hE3, hE14, hE15, hE16, hrelxs11, hs⟩
    obtain ⟨E, rfl⟩ := open1 (E := E) hE1
    obtain ⟨E, rfl⟩ := open1 (E := E) hE3
    obtain ⟨E, rfl⟩ := open1 (E := E) hE14
    obtain ⟨E, rfl⟩ := open1 (E := E) hE15
    obtain ⟨E, rfl⟩ := open1 (E := E) hE16
    refine WP_seq ?_
    refine WP_region ?_
    refine O (r_lss rfl rfl) rfl ?_
    refine OW_nil ?_
    refine WP_seq ?_
    rcases condS hM with ⟨hc6, hM⟩ | ⟨hc6, hM⟩
    · refine WP_true rfl hc6 ?_
      refine WP_skip ?_
      refine WP_seq ?_
      refine WP_block ?_
      refine WP_seq ?_
      refine WP_region ?_
      refine O (r_move (v := .int .i64 xv5) rfl) rfl ?_
      obtain ⟨e6, he6, hM⟩ := bindS hM
      obtain ⟨b13, ob13, cb13, hvb13, cs10, hcs10, hcb13⟩ := hRv3.at he6
      have hcs10 : cs10 = _ := hcs10; subst hcs10
      refine O (r_idxSl Try.underlying22 ti3 (v := v3) rfl hvb13 rfl (idxL_some he6).1 (idxL_some he6).2.1) rfl ?_
      refine O (r_loadEl (cs := [.int .i64 e6]) ti3 rfl rfl (.inr rfl) (hcb13 _ hs.imm) (v := .int .i64 e6) rfl) rfl ?_
      refine O (r_assign (v := .int .i64 xv5) rfl) rfl ?_
      refine O (r_assign (v := .int .i64 e6) rfl) rfl ?_
      refine OW_nil ?_
      refine WP_region ?_
      refine O (r_load (v := v10) ti88 rfl (hs.cell (i := 0) (o := 0) rfl rfl)) rfl ?_
      refine O (r_move (v := .int .i64 xv5) rfl) rfl ?_
      refine O (r_move (v := .int .i64 e6) rfl) rfl ?_
      refine O (r_geq rfl rfl) rfl ?_
      obtain ⟨y6, hy6, hM⟩ := bindS hM
      obtain ⟨b14, cb14, hvb14, wv10, xs14, hstb14, hrelb14, hsb14⟩ := hs.rowPut (i := 1) rfl hrelxs11 hy6 (cs := [.bool (decide (0 ≤ e6))]) rfl
      refine O (r_idxSl Try.underlying88 ti4 (v := v10) rfl hvb14 rfl (setL_some hy6).1 (setL_some hy6).2.1) rfl ?_
      refine O0 (r_store ti4 rfl (v := .bool (decide (0 ≤ e6))) rfl rfl hstb14) ?_
      have hs := hsb14
      refine OW_nil ?_
      refine WP_region ?_
      obtain ⟨t6, ht6, hM⟩ := bindS hM
      refine O (r_addM rfl rfl ht6) rfl ?_
      refine O (r_move (v := .int .i64 t6) rfl) rfl ?_
      refine OW_nil ?_
      obtain rfl := Option.some.inj hM
      exact ⟨v10, xs14, rfl, rfl, rfl, rfl, rfl, hrelb14, hs⟩
    · refine WP_false rfl hc6 ?_
      refine WP_exit ?_
      obtain rfl := Option.some.inj hM
      refine fun hr => ?_
      have hM := congrArg some hr
      obtain rfl := Option.some.inj hM
      exact ⟨v10, xs11, rfl, rfl, hrelxs11, hs⟩
  · clear hs
    rintro E w ⟨v8, xs8, hE1, hE3, hrelxs8, hs⟩
    have hM := hKhx1
    obtain ⟨E, rfl⟩ := open1 (E := E) hE1
    obtain ⟨E, rfl⟩ := open1 (E := E) hE3
    obtain ⟨l21, hx29, hKhx29⟩ := bindS hM
    refine WP_cut (fun E w => ∃ (gg184 : Hp) (v87 : Value) (xs54 : List Value), E 3 = .pointer (some ⟨b2, 0, none⟩) ∧ Hle g0 gg184 ∧ RowRel tBool gg184 xs54 l21 ∧ Go.Lx.Sep g0 w0 gg184 w [Go.Lx.box b2 88 ([v87]), .row v87 4 tBool.sz l21.length xs54]) ?_ ?_
    · have hM := hx29
      have hag0 := Hle.refl g0
      refine WP_seq ?_
      refine WP_region ?_
      refine O (r_assign (v := .bool true) rfl) rfl ?_
      refine OW_nil ?_
      refine WP_block ?_
      refine WP_loop (fun (st9 : (List Bool) × Bool) E w => match st9 with | (l26, more29) => ∃ (gg246 : Hp) (v113 : Value) (xs68 : List Value), E 1 = .pointer (some ⟨b1, 0, none⟩) ∧ E 3 = .pointer (some ⟨b2, 0, none⟩) ∧ E 6 = .bool more29 ∧ Hle g0 gg246 ∧ RowRel tBool gg246 xs68 l26 ∧ Go.Lx.Sep g0 w0 gg246 w [Go.Lx.box b2 88 ([v113]), .row v113 4 tBool.sz l26.length xs68, Go.Lx.box b1 25 ([v1, v2, v3])]) hM ⟨g0, v8, xs8, rfl, rfl, rfl, (Hle.refl _), hrelxs8, hs⟩ ?_
      clear hs hM
      rintro ⟨l26, more29⟩ o9 E w hM ⟨gg246, v113, xs68, hE1, hE3, hE6, hlegg246, hrelxs68, hs⟩
      obtain ⟨E, rfl⟩ := open1 (E := E) hE1
      obtain ⟨E, rfl⟩ := open1 (E := E) hE3
      obtain ⟨E, rfl⟩ := open1 (E := E) hE6
      replace hRv1 := hRv1.mono hlegg246
      replace hRv2 := hRv2.mono hlegg246
      replace hRv3 := hRv3.mono hlegg246
      replace hag0 := hag0.trans hlegg246
      have hagg246 := Hle.refl gg246
      refine WP_seq ?_
      refine WP_seq ?_
      refine WP_region ?_
      refine O (r_move (v := .bool more29) rfl) rfl ?_
      refine OW_nil ?_
      rcases condS hM with ⟨hc55, hM⟩ | ⟨hc55, hM⟩
      · refine WP_true rfl hc55 ?_
        refine WP_skip ?_
        refine WP_block ?_
        refine WP_seq ?_
        refine WP_region ?_
        refine O (r_assign (v := .bool false) rfl) rfl ?_
        refine OW_nil ?_
        refine WP_seq ?_
        refine WP_region ?_
        refine O (r_fieldAddr Try.underlying25 ti23 rfl rfl (by decide) rfl rfl) rfl ?_
        refine O (r_load (v := v2) ti23 rfl (hs.cell (i := 2) (o := 1) rfl rfl)) rfl ?_
        obtain ⟨a9, ca9, hva9⟩ := hRv2.shape
        refine O (r_lenSl (v := v2) Try.underlying23 rfl hva9) rfl ?_
        refine O (r_move (v := .int .i64 0) rfl) rfl ?_
        refine OW_nil ?_
        refine WP_block ?_
        refine WP_loop (fun (st9 : (List Bool) × Bool × Int) E w => match st9 with | (l32, more39, xv23) => ∃ (gg328 : Hp) (v147 : Value) (xs86 : List Value), E 1 = .pointer (some ⟨b1, 0, none⟩) ∧ E 3 = .pointer (some ⟨b2, 0, none⟩) ∧ E 6 = .bool more39 ∧ E 29 = v2 ∧ E 30 = .int .i64 (d1.Next.length : Int) ∧ E 31 = .int .i64 xv23 ∧ Hle gg246 gg328 ∧ RowRel tBool gg328 xs86 l32 ∧ Go.Lx.Sep g0 w0 gg328 w [Go.Lx.box b2 88 ([v147]), .row v147 4 tBool.sz l32.length xs86, Go.Lx.box b1 25 ([v1, v2, v3])]) hM ⟨gg246, v113, xs68, rfl, rfl, rfl, rfl, rfl, rfl, (Hle.refl _), hrelxs68, hs⟩ ?_
        clear hs hM
        rintro ⟨l32, more39, xv23⟩ o10 E w hM ⟨gg328, v147, xs86, hE1, hE3, hE6, hE29, hE30, hE31, hlegg328, hrelxs86, hs⟩
        obtain ⟨E, rfl⟩ := open1 (E := E) hE1
        obtain ⟨E, rfl⟩ := open1 (E := E) hE3
        obtain ⟨E, rfl⟩ := open1 (E := E) hE6
        obtain ⟨E, rfl⟩ := open1 (E := E) hE29
        obtain ⟨E, rfl⟩ := open1 (E := E) hE30
        obtain ⟨E, rfl⟩ := open1 (E := E) hE31
        replace hRv1 := hRv1.mono hlegg328
        replace hRv2 := hRv2.mono hlegg328
        replace hRv3 := hRv3.mono hlegg328
        replace hlegg246 := hlegg246.trans hlegg328
        replace hagg246 := hagg246.trans hlegg328
        have hagg328 := Hle.refl gg328
        refine WP_seq ?_
        refine WP_region ?_
        refine O (r_lss rfl rfl) rfl ?_
        refine OW_nil ?_
        refine WP_seq ?_
        rcases condS hM with ⟨hc62, hM⟩ | ⟨hc62, hM⟩
        · refine WP_true rfl hc62 ?_
          refine WP_skip ?_
          obtain ⟨⟨y59, more42⟩, hx55, hKhx55⟩ := bindS hM
          refine WP_cut (fun E w => ∃ (gg358 : Hp) (v159 : Value) (xs92 : List Value), E 1 = .pointer (some ⟨b1, 0, none⟩) ∧ E 3 = .pointer (some ⟨b2, 0, none⟩) ∧ E 6 = .bool more42 ∧ E 29 = v2 ∧ E 30 = .int .i64 (d1.Next.length : Int) ∧ E 31 = .int .i64 xv23 ∧ Hle gg328 gg358 ∧ RowRel tBool gg358 xs92 y59 ∧ Go.Lx.Sep g0 w0 gg358 w [Go.Lx.box b2 88 ([v159]), .row v159 4 tBool.sz y59.length xs92, Go.Lx.box b1 25 ([v1, v2, v3])]) ?_ ?_
          · have hM := hx55
            refine WP_block ?_
            refine WP_seq ?_
            refine WP_region ?_
            refine O (r_move (v := .int .i64 xv23) rfl) rfl ?_
            obtain ⟨e112, he112, hM⟩ := bindS hM
            obtain ⟨b155, ob155, cb155, hvb155, cs186, hcs186, hcb155⟩ := hRv2.at he112
            obtain ⟨v160, rfl, hRv160⟩ := hcs186
            refine O (r_idxSl Try.underlying23 ti22 (v := v2) rfl hvb155 rfl (idxL_some he112).1 (idxL_some he112).2.1) rfl ?_
            refine O (r_loadEl (cs := [v160]) ti22 rfl rfl (.inr rfl) (hcb155 _ hs.imm) (v := v160) rfl) rfl ?_
            refine O (r_assign (v := .int .i64 xv23) rfl) rfl ?_
            refine O (r_assign (v := v160) rfl) rfl ?_
            refine OW_nil ?_
            obtain ⟨rv107, hx56, hKhx56⟩ := bindS hM
            refine WP_cut (fun E w => ∃ (gg363 : Hp), E 1 = .pointer (some ⟨b1, 0, none⟩) ∧ E 3 = .pointer (some ⟨b2, 0, none⟩) ∧ E 6 = .bool more39 ∧ E 7 = .int .i64 xv23 ∧ E 29 = v2 ∧ E 30 = .int .i64 (d1.Next.length : Int) ∧ E 31 = .int .i64 xv23 ∧ E 45 = .bool rv107 ∧ Hle gg328 gg363 ∧ Go.Lx.Sep g0 w0 gg363 w [Go.Lx.box b2 88 ([v147]), .row v147 4 tBool.sz l32.length xs86, Go.Lx.box b1 25 ([v1, v2, v3])]) ?_ ?_
            · have hM := hx56
              refine WP_region ?_
              refine O (r_load (v := v147) ti88 rfl (hs.cell (i := 0) (o := 0) rfl rfl)) rfl ?_
              refine O (r_move (v := .int .i64 xv23) rfl) rfl ?_
              obtain ⟨e114, he114, hM⟩ := bindS hM
              obtain ⟨b157, cb157, hvb157, cs189, hcs189, hcb157⟩ := hs.rowEl (i := 1) rfl hrelxs86 he114
              have hcs189 : cs189 = _ := hcs189; subst hcs189
              refine O (r_idxSl Try.underlying88 ti4 (v := v147) rfl hvb157 rfl (idxL_some he114).1 (idxL_some he114).2.1) rfl ?_
              refine O (r_loadEl (cs := [.bool e114]) ti4 rfl rfl (.inr rfl) (hcb157 _ (hs.at (i := 1) rfl)) (v := .bool e114) rfl) rfl ?_
              refine O (r_not rfl) rfl ?_
              refine O (r_move (v := .bool (!e114)) rfl) rfl ?_
              rcases condS hM with ⟨hg72, hM⟩ | ⟨hg72, hM⟩
              · refine OG rfl rfl rfl (by rw [hg72]; rfl) (r_move (v := v160) rfl) rfl ?_
                refine OG rfl rfl rfl (by rw [hg72]; rfl) (r_makeFunc (vs := [.pointer (some ⟨b2, 0, none⟩)]) rfl) rfl ?_
                have hsL72 := hs
                have hRv1L72 := hRv1
                have hRv2L72 := hRv2
                have hRv3L72 := hRv3
                have hrelxs86L72 := hrelxs86
                have hRv160L72 := hRv160
                have hlegg246L72 := hlegg246
                have hlegg328L72 := hlegg328
                have hagg328L72 := hagg328
                obtain ⟨gg364, hlegg364, hRgg364, hs⟩ := hs.relRow (i := 1) rfl hrelxs86
                replace hRv1 := hRv1.mono hlegg364
                replace hRv2 := hRv2.mono hlegg364
                replace hRv3 := hRv3.mono hlegg364
                replace hRv160 := hRv160.mono hlegg364
                replace hlegg246 := hlegg246.trans hlegg364
                replace hlegg328 := hlegg328.trans hlegg364
                replace hagg328 := hagg328.trans hlegg364
                obtain ⟨gg365, hlegg365, hBgg365, hs⟩ := hs.relBox (i := 0) rfl
                replace hRv1 := hRv1.mono hlegg365
                replace hRv2 := hRv2.mono hlegg365
                replace hRv3 := hRv3.mono hlegg365
                replace hRv160 := hRv160.mono hlegg365
                replace hRgg364 := hRgg364.mono hlegg365
                replace hlegg246 := hlegg246.trans hlegg365
                replace hlegg328 := hlegg328.trans hlegg365
                replace hagg328 := hagg328.trans hlegg365
                obtain ⟨rv108, hrv108, hM⟩ := bindS hM
                refine CG rfl rfl rfl (by rw [hg72]; rfl) [v160, .func (.func 66) #[] (List.toArray [.pointer (some ⟨b2, 0, none⟩)])] cf27 rfl (slices_ContainsFunc_int_int_ok hrv108 hs.imm hRv160 (show FnRd1 Try.prog (VRd (tInt .i64) false) (VRd tBool false) (.func (.func 66) #[] (List.toArray [.pointer (some ⟨b2, 0, none⟩)])) (fun x901 => M.dfa_live_1 x901 l32) gg365 from ⟨66, [.pointer (some ⟨b2, 0, none⟩)], rfl, cf66, fun g9 w9 a90 x90 r9 hle9 hi9 ha90 hM9 => by obtain ⟨c90, rfl, ha90⟩ := ha90; have ha90 : c90 = _ := ha90; subst ha90; exact dfa_live_1_ok hM9 hi9 (hBgg365.mono hle9) ((tSl tBool).mono hle9 (⟨_, rfl, hRgg364⟩))⟩)) rfl ?_
                rintro v162 wv117 ⟨gg366, hvv162, hegg366⟩
                obtain ⟨gg367, hlegg367, hs⟩ := hsL72.lent hegg366
                replace hRv1 := hRv1L72.mono hlegg367
                replace hRv2 := hRv2L72.mono hlegg367
                replace hRv3 := hRv3L72.mono hlegg367
                replace hrelxs86 := hrelxs86L72.mono hlegg367
                replace hRv160 := hRv160L72.mono hlegg367
                replace hlegg246 := hlegg246L72.trans hlegg367
                replace hlegg328 := hlegg328L72.trans hlegg367
                replace hagg328 := hagg328L72.trans hlegg367
                obtain ⟨cs190, rfl, hcs190⟩ := hvv162
                have hcs190 : cs190 = _ := hcs190; subst hcs190
                refine O (r_pickT (v := .bool rv108) rfl hg72 rfl) rfl ?_
                refine OW_nil ?_
                obtain rfl := Option.some.inj hM
                exact ⟨gg367, rfl, rfl, rfl, rfl, rfl, rfl, rfl, rfl, hagg328, hs⟩
              · refine OK rfl rfl rfl (by rw [hg72]; rfl) rfl ?_
                refine OK rfl rfl rfl (by rw [hg72]; rfl) rfl ?_
                refine OK rfl rfl rfl (by rw [hg72]; rfl) rfl ?_
                refine O (r_pickF (v := .bool false) rfl hg72 rfl) rfl ?_
                refine OW_nil ?_
                obtain rfl := Option.some.inj hM
                exact ⟨gg328, rfl, rfl, rfl, rfl, rfl, rfl, rfl, rfl, (Hle.refl _), hs⟩
            · clear hs
              rintro E w ⟨gg363, hE1, hE3, hE6, hE7, hE29, hE30, hE31, hE45, hlegg363, hs⟩
              have hM := hKhx56
              obtain ⟨E, rfl⟩ := open1 (E := E) hE1
              obtain ⟨E, rfl⟩ := open1 (E := E) hE3
              obtain ⟨E, rfl⟩ := open1 (E := E) hE6
              obtain ⟨E, rfl⟩ := open1 (E := E) hE7
              obtain ⟨E, rfl⟩ := open1 (E := E) hE29
              obtain ⟨E, rfl⟩ := open1 (E := E) hE30
              obtain ⟨E, rfl⟩ := open1 (E := E) hE31
              obtain ⟨E, rfl⟩ := open1 (E := E) hE45
              replace hRv1 := hRv1.mono hlegg363
              replace hRv2 := hRv2.mono hlegg363
              replace hRv3 := hRv3.mono hlegg363
              replace hrelxs86 := hrelxs86.mono hlegg363
              replace hlegg246 := hlegg246.trans hlegg363
              replace hlegg328 := hlegg328.trans hlegg363
              replace hagg328 := hagg328.trans hlegg363
              rcases condS hM with ⟨hc64, hM⟩ | ⟨hc64, hM⟩
              · refine WP_true rfl hc64 ?_
                refine WP_region ?_
                refine O (r_load (v := v147) ti88 rfl (hs.cell (i := 0) (o := 0) rfl rfl)) rfl ?_
                refine O (r_move (v := .int .i64 xv23) rfl) rfl ?_
                obtain ⟨y60, hy60, hM⟩ := bindS hM
                obtain ⟨b158, cb158, hvb158, wv118, xs93, hstb158, hrelb158, hsb158⟩ := hs.rowPut (i := 1) rfl hrelxs86 hy60 (cs := [.bool true]) rfl
                refine O (r_idxSl Try.underlying88 ti4 (v := v147) rfl hvb158 rfl (setL_some hy60).1 (setL_some hy60).2.1) rfl ?_
                refine O0 (r_store ti4 rfl (v := .bool true) rfl rfl hstb158) ?_
                have hs := hsb158
                refine O (r_assign (v := .bool true) rfl) rfl ?_
                refine OW_nil ?_
                simp only [Option.some.injEq, Prod.mk.injEq] at hM
                obtain ⟨rfl, rfl⟩ := hM
                exact ⟨gg363, v147, xs93, rfl, rfl, rfl, rfl, rfl, rfl, hagg328, hrelb158, hs⟩
              · refine WP_false rfl hc64 ?_
                refine WP_skip ?_
                simp only [Option.some.injEq, Prod.mk.injEq] at hM
                obtain ⟨rfl, rfl⟩ := hM
                exact ⟨gg363, v147, xs86, rfl, rfl, rfl, rfl, rfl, rfl, hagg328, hrelxs86, hs⟩
          · clear hs
            rintro E w ⟨gg358, v159, xs92, hE1, hE3, hE6, hE29, hE30, hE31, hlegg358, hrelxs92, hs⟩
            have hM := hKhx55
            obtain ⟨E, rfl⟩ := open1 (E := E) hE1
            obtain ⟨E, rfl⟩ := open1 (E := E) hE3
            obtain ⟨E, rfl⟩ := open1 (E := E) hE6
            obtain ⟨E, rfl⟩ := open1 (E := E) hE29
            obtain ⟨E, rfl⟩ := open1 (E := E) hE30
            obtain ⟨E, rfl⟩ := open1 (E := E) hE31
            replace hRv1 := hRv1.mono hlegg358
            replace hRv2 := hRv2.mono hlegg358
            replace hRv3 := hRv3.mono hlegg358
            replace hlegg246 := hlegg246.trans hlegg358
            replace hlegg328 := hlegg328.trans hlegg358
            replace hagg328 := hagg328.trans hlegg358
            refine WP_region ?_
            obtain ⟨t24, ht24, hM⟩ := bindS hM
            refine O (r_addM rfl rfl ht24) rfl ?_
            refine O (r_move (v := .int .i64 t24) rfl) rfl ?_
            refine OW_nil ?_
            obtain rfl := Option.some.inj hM
            exact ⟨gg358, v159, xs92, rfl, rfl, rfl, rfl, rfl, rfl, hlegg328, hrelxs92, hs⟩
        · refine WP_false rfl hc62 ?_
          refine WP_exit ?_
          obtain rfl := Option.some.inj hM
          refine fun hr => ?_
          have hM := congrArg some hr
          obtain rfl := Option.some.inj hM
          exact ⟨gg328, v147, xs86, rfl, rfl, rfl, hlegg246, hrelxs86, hs⟩
      · refine WP_false rfl hc55 ?_
        refine WP_exit ?_
        obtain rfl := Option.some.inj hM
        refine fun hr => ?_
        have hM := congrArg some hr
        obtain rfl := Option.some.inj hM
        exact ⟨gg246, v113, xs68, rfl, hlegg246, hrelxs68, (hs.sub (.cons_cons _ (.cons_cons _ (.cons _ .slnil))))⟩
    · clear hs
      rintro E w ⟨gg184, v87, xs54, hE3, hlegg184, hrelxs54, hs⟩
      have hM := hKhx29
      obtain ⟨E, rfl⟩ := open1 (E := E) hE3
      refine WP_seq ?_
      refine WP_region ?_
      refine O (r_load (v := v87) ti88 rfl (hs.cell (i := 0) (o := 0) rfl rfl)) rfl ?_
      refine O (r_assign (v := v87) rfl) rfl ?_
      refine OW_nil ?_
      refine WP_ret ?_
      obtain rfl := Option.some.inj hM
      exact ⟨_, res1 Try.results55 (rv_tmp (v := v87) rfl), gg184, xs54, hrelxs54, (hs.sub (.cons _ (.cons_cons _ .slnil)))⟩

set_option maxRecDepth 100000 in
theorem dfa_pruned_ok {d1 : T_DFA} {r : T_DFA} (hM : M.dfa_pruned d1 = some r) {g0 : Hp} {w0 : World} (hi : Imm g0 w0) {cs1 : List Value} (hcs1 : tT_DFA.rel g0 cs1 d1) :
    CallsV Try.prog 33 #[.agg cs1.toArray] w0 (fun v w' => ∃ g', (VRd tT_DFA true g' v r) ∧ Ext g0 w0 g' w') := by
  unfold M.dfa_pruned at hM
  obtain ⟨cs2, cs3, cs4, rfl, hcs2, hcs3, hcs4⟩ := hcs1
  obtain ⟨v1, rfl, hRv1⟩ := hcs2
  obtain ⟨v2, rfl, hRv2⟩ := hcs3
  obtain ⟨v3, rfl, hRv3⟩ := hcs4
  have hs := Sep.start hi
  refine calls_of_WP (args := [.agg (List.toArray (α := Value) [v1, v2, v3])]) Try.func33 rfl Try.ntmps33 rfl ?_
  refine WP_seq ?_
  refine WP_region ?_
  refine OW_box (v := .agg (List.toArray (α := Value) [v1, v2, v3])) rfl hs (zs := [v1, v2, v3]) rfl rfl ?_
  intro b1 wv1 hs
  refine OW_alloc ti25 hs (zs := [.slice none 0 0, .slice none 0 0, .slice none 0 0]) rfl rfl ?_
  intro b2 wv2 hs
  refine OW_nil ?_
  refine WP_seq ?_
  refine WP_region ?_
  refine O (r_loadN (cs := [v1, v2, v3]) ti25 rfl rfl (hs.cells (i := 1) rfl)) rfl ?_
  obtain ⟨ok1, hok1, hM⟩ := bindS hM
  refine C [.agg (List.toArray (α := Value) [v1, v2, v3])] cf55 rfl (dfa_live_ok hok1 hs.imm (⟨[v1], [v2], [v3], rfl, ⟨_, rfl, hRv1⟩, ⟨_, rfl, hRv2⟩, ⟨_, rfl, hRv3⟩⟩)) rfl ?_
  rintro v4 wv3 ⟨gg1, xs1, hvv4, hegg1⟩
  have hlegg1 := hegg1.ext.le hs.imm
  replace hs := hs.callOwn hegg1
  simp only [List.cons_append, List.nil_append] at hs
  replace hRv1 := hRv1.mono hlegg1
  replace hRv2 := hRv2.mono hlegg1
  replace hRv3 := hRv3.mono hlegg1
  refine O (r_assign (v := v4) rfl) rfl ?_
  refine OW_nil ?_
  refine WP_seq ?_
  refine WP_region ?_
  refine O (r_assign (v := .slice none 0 0) rfl) rfl ?_
  refine OW_nil ?_
  obtain ⟨xv115, hx118, hKhx118⟩ := bindS hM
  refine WP_cut (fun E w => ∃ (gg20 : Hp) (v249 : Value) (xs314 : List Value), E 1 = .pointer (some ⟨b1, 0, none⟩) ∧ E 2 = .pointer (some ⟨b2, 0, none⟩) ∧ E 4 = v249 ∧ Hle gg1 gg20 ∧ RowRel (tSl (tInt .i64)) gg20 xs314 xv115 ∧ Go.Lx.Sep g0 w0 gg20 w [.row v249 22 (tSl (tInt .i64)).sz xv115.length xs314, Go.Lx.box b2 25 ([.slice none 0 0, .slice none 0 0, .slice none 0 0]), Go.Lx.box b1 25 ([v1, v2, v3])]) ?_ ?_
  · have hM := hx118
    have hagg1 := Hle.refl gg1
    refine WP_seq ?_
    refine WP_region ?_
    refine O (r_fieldAddr Try.underlying25 ti23 rfl rfl (by decide) rfl rfl) rfl ?_
    refine O (r_load (v := v2) ti23 rfl (hs.cell (i := 2) (o := 1) rfl rfl)) rfl ?_
    obtain ⟨a14, ca14, hva14⟩ := hRv2.shape
    refine O (r_lenSl (v := v2) Try.underlying23 rfl hva14) rfl ?_
    refine O (r_move (v := .int .i64 0) rfl) rfl ?_
    refine OW_nil ?_
    refine WP_block ?_
    have hs := hs.nilRow 22 (tSl (tInt .i64)).sz
    refine WP_loop (fun (st9 : (List (List Int)) × Int) E w => match st9 with | (xv154, xv155) => ∃ (gg27 : Hp) (v315 : Value) (xs404 : List Value) (v314 : Value) (xs403 : List Value), E 1 = .pointer (some ⟨b1, 0, none⟩) ∧ E 2 = .pointer (some ⟨b2, 0, none⟩) ∧ E 3 = v314 ∧ E 4 = v315 ∧ E 13 = v2 ∧ E 14 = .int .i64 (d1.Next.length : Int) ∧ E 15 = .int .i64 xv155 ∧ Hle gg1 gg27 ∧ RowRel (tSl (tInt .i64)) gg27 xs404 xv154 ∧ RowRel tBool gg27 xs403 ok1 ∧ Go.Lx.Sep g0 w0 gg27 w [.row v315 22 (tSl (tInt .i64)).sz xv154.length xs404, .row v314 4 tBool.sz ok1.length xs403, Go.Lx.box b2 25 ([.slice none 0 0, .slice none 0 0, .slice none 0 0]), Go.Lx.box b1 25 ([v1, v2, v3])]) hM ⟨gg1, (.slice none 0 0), [], v4, xs1, rfl, rfl, rfl, rfl, rfl, rfl, rfl, (Hle.refl _), RowRel.nil, hvv4, hs⟩ ?_
    clear hs hM
    rintro ⟨xv154, xv155⟩ o22 E w hM ⟨gg27, v315, xs404, v314, xs403, hE1, hE2, hE3, hE4, hE13, hE14, hE15, hlegg27, hrelxs404, hrelxs403, hs⟩
    obtain ⟨E, rfl⟩ := open1 (E := E) hE1
    obtain ⟨E, rfl⟩ := open1 (E := E) hE2
    obtain ⟨E, rfl⟩ := open1 (E := E) hE3
    obtain ⟨E, rfl⟩ := open1 (E := E) hE4
    obtain ⟨E, rfl⟩ := open1 (E := E) hE13
    obtain ⟨E, rfl⟩ := open1 (E := E) hE14
    obtain ⟨E, rfl⟩ := open1 (E := E) hE15
    replace hRv1 := hRv1.mono hlegg27
    replace hRv2 := hRv2.mono hlegg27
    replace hRv3 := hRv3.mono hlegg27
    replace hagg1 := hagg1.trans hlegg27
    have hagg27 := Hle.refl gg27
    refine WP_seq ?_
    refine WP_region ?_
    refine O (r_lss rfl rfl) rfl ?_
    refine OW_nil ?_
    refine WP_seq ?_
    rcases condS hM with ⟨hc186, hM⟩ | ⟨hc186, hM⟩
    · refine WP_true rfl hc186 ?_
      refine WP_skip ?_
      obtain ⟨next11, hx216, hKhx216⟩ := bindS hM
      refine WP_cut (fun E w => ∃ (gg36 : Hp) (v450 : Value) (xs572 : List Value) (v449 : Value) (xs571 : List Value), E 1 = .pointer (some ⟨b1, 0, none⟩) ∧ E 2 = .pointer (some ⟨b2, 0, none⟩) ∧ E 3 = v449 ∧ E 4 = v450 ∧ E 13 = v2 ∧ E 14 = .int .i64 (d1.Next.length : Int) ∧ E 15 = .int .i64 xv155 ∧ Hle gg27 gg36 ∧ RowRel (tSl (tInt .i64)) gg36 xs572 next11 ∧ RowRel tBool gg36 xs571 ok1 ∧ Go.Lx.Sep g0 w0 gg36 w [.row v450 22 (tSl (tInt .i64)).sz next11.length xs572, .row v449 4 tBool.sz ok1.length xs571, Go.Lx.box b2 25 ([.slice none 0 0, .slice none 0 0, .slice none 0 0]), Go.Lx.box b1 25 ([v1, v2, v3])]) ?_ ?_
      · have hM := hx216
        refine WP_block ?_
        refine WP_seq ?_
        refine WP_region ?_
        obtain ⟨e408, he408, hM⟩ := bindS hM
        obtain ⟨b542, ob542, cb542, hvb542, cs412, hcs412, hcb542⟩ := hRv2.at he408
        obtain ⟨v451, rfl, hRv451⟩ := hcs412
        refine O (r_idxSl Try.underlying23 ti22 (v := v2) rfl hvb542 rfl (idxL_some he408).1 (idxL_some he408).2.1) rfl ?_
        refine O (r_loadEl (cs := [v451]) ti22 rfl rfl (.inr rfl) (hcb542 _ hs.imm) (v := v451) rfl) rfl ?_
        refine O (r_assign (v := v451) rfl) rfl ?_
        refine OW_nil ?_
        refine WP_seq ?_
        refine WP_region ?_
        refine O (r_move (v := v451) rfl) rfl ?_
        obtain ⟨rv287, hrv287, hM⟩ := bindS hM
        refine C [v451] cf56 rfl (slices_Clone_int_int_ok hrv287 hs.imm hRv451) rfl ?_
        rintro v452 wv169 ⟨gg37, xs573, hvv452, hegg37⟩
        have hlegg37 := hegg37.ext.le hs.imm
        replace hs := hs.callOwn hegg37
        simp only [List.cons_append, List.nil_append] at hs
        replace hRv1 := hRv1.mono hlegg37
        replace hRv2 := hRv2.mono hlegg37
        replace hRv3 := hRv3.mono hlegg37
        replace hrelxs404 := hrelxs404.mono hlegg37
        replace hrelxs403 := hrelxs403.mono hlegg37
        replace hRv451 := hRv451.mono hlegg37
        replace hlegg27 := hlegg27.trans hlegg37
        replace hagg27 := hagg27.trans hlegg37
        refine O (r_assign (v := v452) rfl) rfl ?_
        refine OW_nil ?_
        obtain ⟨rv300, hx226, hKhx226⟩ := bindS hM
        refine WP_cut (fun E w => ∃ (v473 : Value) (xs600 : List Value) (v472 : Value) (xs599 : List Value) (v471 : Value) (xs598 : List Value), E 1 = .pointer (some ⟨b1, 0, none⟩) ∧ E 2 = .pointer (some ⟨b2, 0, none⟩) ∧ E 3 = v471 ∧ E 4 = v472 ∧ E 7 = v473 ∧ E 13 = v2 ∧ E 14 = .int .i64 (d1.Next.length : Int) ∧ E 15 = .int .i64 xv155 ∧ RowRel (tInt .i64) gg37 xs600 rv300 ∧ RowRel (tSl (tInt .i64)) gg37 xs599 xv154 ∧ RowRel tBool gg37 xs598 ok1 ∧ Go.Lx.Sep g0 w0 gg37 w [.row v473 3 (tInt .i64).sz rv300.length xs600, .row v472 22 (tSl (tInt .i64)).sz xv154.length xs599, .row v471 4 tBool.sz ok1.length xs598, Go.Lx.box b2 25 ([.slice none 0 0, .slice none 0 0, .slice none 0 0]), Go.Lx.box b1 25 ([v1, v2, v3])]) ?_ ?_
        · have hM := hx226
          have hagg37 := Hle.refl gg37
          refine WP_seq ?_
          refine WP_region ?_
          refine O (r_move (v := v452) rfl) rfl ?_
          obtain ⟨a26, ca26, hva26⟩ := hs.rowShape (i := 0) rfl
          refine O (r_lenSl (v := v452) Try.underlying22 rfl hva26) rfl ?_
          refine O (r_move (v := .int .i64 0) rfl) rfl ?_
          refine OW_nil ?_
          refine WP_block ?_
          refine WP_loop (fun (st9 : (List Int) × Int) E w => match st9 with | (rv305, xv224) => ∃ (v482 : Value) (xs611 : List Value) (v481 : Value) (xs610 : List Value) (v480 : Value) (xs609 : List Value), E 1 = .pointer (some ⟨b1, 0, none⟩) ∧ E 2 = .pointer (some ⟨b2, 0, none⟩) ∧ E 3 = v480 ∧ E 4 = v481 ∧ E 7 = v482 ∧ E 13 = v2 ∧ E 14 = .int .i64 (d1.Next.length : Int) ∧ E 15 = .int .i64 xv155 ∧ E 21 = v482 ∧ E 22 = .int .i64 (rv287.length : Int) ∧ E 23 = .int .i64 xv224 ∧ RowRel (tInt .i64) gg37 xs611 rv305 ∧ RowRel (tSl (tInt .i64)) gg37 xs610 xv154 ∧ RowRel tBool gg37 xs609 ok1 ∧ Go.Lx.Sep g0 w0 gg37 w [.row v482 3 (tInt .i64).sz rv305.length xs611, .row v481 22 (tSl (tInt .i64)).sz xv154.length xs610, .row v480 4 tBool.sz ok1.length xs609, Go.Lx.box b2 25 ([.slice none 0 0, .slice none 0 0, .slice none 0 0]), Go.Lx.box b1 25 ([v1, v2, v3])]) hM ⟨v452, xs573, v315, xs404, v314, xs403, rfl, rfl, rfl, rfl, rfl, rfl, rfl, rfl, rfl, rfl, rfl, hvv452, hrelxs404, hrelxs403, hs⟩ ?_
          clear hs hM
          rintro ⟨rv305, xv224⟩ o26 E w hM ⟨v482, xs611, v481, xs610, v480, xs609, hE1, hE2, hE3, hE4, hE7, hE13, hE14, hE15, hE21, hE22, hE23, hrelxs611, hrelxs610, hrelxs609, hs⟩
          obtain ⟨E, rfl⟩ := open1 (E := E) hE1
          obtain ⟨E, rfl⟩ := open1 (E := E) hE2
          obtain ⟨E, rfl⟩ := open1 (E := E) hE3
          obtain ⟨E, rfl⟩ := open1 (E := E) hE4
          obtain ⟨E, rfl⟩ := open1 (E := E) hE7
          obtain ⟨E, rfl⟩ := open1 (E := E) hE13
          obtain ⟨E, rfl⟩ := open1 (E := E) hE14
          obtain ⟨E, rfl⟩ := open1 (E := E) hE15
          obtain ⟨E, rfl⟩ := open1 (E := E) hE21
          obtain ⟨E, rfl⟩ := open1 (E := E) hE22
          obtain ⟨E, rfl⟩ := open1 (E := E) hE23
          refine WP_seq ?_
          refine WP_region ?_
          refine O (r_lss rfl rfl) rfl ?_
          refine OW_nil ?_
          refine WP_seq ?_
          rcases condS hM with ⟨hc220, hM⟩ | ⟨hc220, hM⟩
          · refine WP_true rfl hc220 ?_
            refine WP_skip ?_
            obtain ⟨rv311, hx234, hKhx234⟩ := bindS hM
            refine WP_cut (fun E w => ∃ (v491 : Value) (xs623 : List Value) (v490 : Value) (xs622 : List Value) (v489 : Value) (xs621 : List Value), E 1 = .pointer (some ⟨b1, 0, none⟩) ∧ E 2 = .pointer (some ⟨b2, 0, none⟩) ∧ E 3 = v489 ∧ E 4 = v490 ∧ E 7 = v491 ∧ E 13 = v2 ∧ E 14 = .int .i64 (d1.Next.length : Int) ∧ E 15 = .int .i64 xv155 ∧ E 21 = v491 ∧ E 22 = .int .i64 (rv287.length : Int) ∧ E 23 = .int .i64 xv224 ∧ RowRel (tInt .i64) gg37 xs623 rv311 ∧ RowRel (tSl (tInt .i64)) gg37 xs622 xv154 ∧ RowRel tBool gg37 xs621 ok1 ∧ Go.Lx.Sep g0 w0 gg37 w [.row v491 3 (tInt .i64).sz rv311.length xs623, .row v490 22 (tSl (tInt .i64)).sz xv154.length xs622, .row v489 4 tBool.sz ok1.length xs621, Go.Lx.box b2 25 ([.slice none 0 0, .slice none 0 0, .slice none 0 0]), Go.Lx.box b1 25 ([v1, v2, v3])]) ?_ ?_
            · have hM := hx234
              refine WP_block ?_
              refine WP_seq ?_
              refine WP_region ?_
              refine O (r_move (v := .int .i64 xv224) rfl) rfl ?_
              obtain ⟨e442, he442, hM⟩ := bindS hM
              obtain ⟨b587, cb587, hvb587, cs446, hcs446, hcb587⟩ := hs.rowEl (i := 0) rfl hrelxs611 he442
              have hcs446 : cs446 = _ := hcs446; subst hcs446
              refine O (r_idxSl Try.underlying22 ti3 (v := v482) rfl hvb587 rfl (idxL_some he442).1 (idxL_some he442).2.1) rfl ?_
              refine O (r_loadEl (cs := [.int .i64 e442]) ti3 rfl rfl (.inr rfl) (hcb587 _ (hs.at (i := 0) rfl)) (v := .int .i64 e442) rfl) rfl ?_
              refine O (r_assign (v := .int .i64 xv224) rfl) rfl ?_
              refine O (r_assign (v := .int .i64 e442) rfl) rfl ?_
              refine OW_nil ?_
              obtain ⟨xv229, hx235, hKhx235⟩ := bindS hM
              refine WP_cut (fun E w => E 1 = .pointer (some ⟨b1, 0, none⟩) ∧ E 2 = .pointer (some ⟨b2, 0, none⟩) ∧ E 3 = v480 ∧ E 4 = v481 ∧ E 7 = v482 ∧ E 8 = .int .i64 xv224 ∧ E 13 = v2 ∧ E 14 = .int .i64 (d1.Next.length : Int) ∧ E 15 = .int .i64 xv155 ∧ E 21 = v482 ∧ E 22 = .int .i64 (rv287.length : Int) ∧ E 23 = .int .i64 xv224 ∧ E 36 = .bool xv229 ∧ Go.Lx.Sep g0 w0 gg37 w [.row v482 3 (tInt .i64).sz rv305.length xs611, .row v481 22 (tSl (tInt .i64)).sz xv154.length xs610, .row v480 4 tBool.sz ok1.length xs609, Go.Lx.box b2 25 ([.slice none 0 0, .slice none 0 0, .slice none 0 0]), Go.Lx.box b1 25 ([v1, v2, v3])]) ?_ ?_
              · have hM := hx235
                refine WP_region ?_
                refine O (r_move (v := .int .i64 e442) rfl) rfl ?_
                refine O (r_geq rfl rfl) rfl ?_
                refine O (r_move (v := .bool (decide (0 ≤ e442))) rfl) rfl ?_
                rcases condS hM with ⟨hg288, hM⟩ | ⟨hg288, hM⟩
                · refine OG rfl rfl rfl (by rw [hg288]; rfl) (r_move (v := v480) rfl) rfl ?_
                  refine OG rfl rfl rfl (by rw [hg288]; rfl) (r_move (v := .int .i64 e442) rfl) rfl ?_
                  obtain ⟨e444, he444, hM⟩ := bindS hM
                  obtain ⟨b589, cb589, hvb589, cs448, hcs448, hcb589⟩ := hs.rowEl (i := 2) rfl hrelxs609 he444
                  have hcs448 : cs448 = _ := hcs448; subst hcs448
                  refine OG rfl rfl rfl (by rw [hg288]; rfl) (r_idxSl Try.underlying88 ti4 (v := v480) rfl hvb589 rfl (idxL_some he444).1 (idxL_some he444).2.1) rfl ?_
                  refine OG rfl rfl rfl (by rw [hg288]; rfl) (r_loadEl (cs := [.bool e444]) ti4 rfl rfl (.inr rfl) (hcb589 _ (hs.at (i := 2) rfl)) (v := .bool e444) rfl) rfl ?_
                  refine OG rfl rfl rfl (by rw [hg288]; rfl) (r_not rfl) rfl ?_
                  refine O (r_pickT (v := .bool (!e444)) rfl hg288 rfl) rfl ?_
                  refine OW_nil ?_
                  obtain rfl := Option.some.inj hM
                  exact ⟨rfl, rfl, rfl, rfl, rfl, rfl, rfl, rfl, rfl, rfl, rfl, rfl, rfl, hs⟩
                · refine OK rfl rfl rfl (by rw [hg288]; rfl) rfl ?_
                  refine OK rfl rfl rfl (by rw [hg288]; rfl) rfl ?_
                  refine OK rfl rfl rfl (by rw [hg288]; rfl) rfl ?_
                  refine OK rfl rfl rfl (by rw [hg288]; rfl) rfl ?_
                  refine OK rfl rfl rfl (by rw [hg288]; rfl) rfl ?_
                  refine O (r_pickF (v := .bool false) rfl hg288 rfl) rfl ?_
                  refine OW_nil ?_
                  obtain rfl := Option.some.inj hM
                  exact ⟨rfl, rfl, rfl, rfl, rfl, rfl, rfl, rfl, rfl, rfl, rfl, rfl, rfl, hs⟩
              · clear hs
                rintro E w ⟨hE1, hE2, hE3, hE4, hE7, hE8, hE13, hE14, hE15, hE21, hE22, hE23, hE36, hs⟩
                have hM := hKhx235
                obtain ⟨E, rfl⟩ := open1 (E := E) hE1
                obtain ⟨E, rfl⟩ := open1 (E := E) hE2
                obtain ⟨E, rfl⟩ := open1 (E := E) hE3
                obtain ⟨E, rfl⟩ := open1 (E := E) hE4
                obtain ⟨E, rfl⟩ := open1 (E := E) hE7
                obtain ⟨E, rfl⟩ := open1 (E := E) hE8
                obtain ⟨E, rfl⟩ := open1 (E := E) hE13
                obtain ⟨E, rfl⟩ := open1 (E := E) hE14
                obtain ⟨E, rfl⟩ := open1 (E := E) hE15
                obtain ⟨E, rfl⟩ := open1 (E := E) hE21
                obtain ⟨E, rfl⟩ := open1 (E := E) hE22
                obtain ⟨E, rfl⟩ := open1 (E := E) hE23
                obtain ⟨E, rfl⟩ := open1 (E := E) hE36
                rcases condS hM with ⟨hc222, hM⟩ | ⟨hc222, hM⟩
                · refine WP_true rfl hc222 ?_
                  refine WP_region ?_
                  refine O (r_move (v := v482) rfl) rfl ?_
                  refine O (r_move (v := .int .i64 xv224) rfl) rfl ?_
                  obtain ⟨rv312, hrv312, hM⟩ := bindS hM
                  obtain ⟨b590, cb590, hvb590, wv181, xs624, hstb590, hrelb590, hsb590⟩ := hs.rowPut (i := 0) rfl hrelxs611 hrv312 (cs := [.int .i64 (-1)]) rfl
                  refine O (r_idxSl Try.underlying22 ti3 (v := v482) rfl hvb590 rfl (setL_some hrv312).1 (setL_some hrv312).2.1) rfl ?_
                  refine O0 (r_store ti3 rfl (v := .int .i64 (-1)) rfl rfl hstb590) ?_
                  have hs := hsb590
                  refine OW_nil ?_
                  obtain rfl := Option.some.inj hM
                  exact ⟨v482, xs624, v481, xs610, v480, xs609, rfl, rfl, rfl, rfl, rfl, rfl, rfl, rfl, rfl, rfl, rfl, hrelb590, hrelxs610, hrelxs609, hs⟩
                · refine WP_false rfl hc222 ?_
                  refine WP_skip ?_
                  obtain rfl := Option.some.inj hM
                  exact ⟨v482, xs611, v481, xs610, v480, xs609, rfl, rfl, rfl, rfl, rfl, rfl, rfl, rfl, rfl, rfl, rfl, hrelxs611, hrelxs610, hrelxs609, hs⟩
            · clear hs
              rintro E w ⟨v491, xs623, v490, xs622, v489, xs621, hE1, hE2, hE3, hE4, hE7, hE13, hE14, hE15, hE21, hE22, hE23, hrelxs623, hrelxs622, hrelxs621, hs⟩
              have hM := hKhx234
              obtain ⟨E, rfl⟩ := open1 (E := E) hE1
              obtain ⟨E, rfl⟩ := open1 (E := E) hE2
              obtain ⟨E, rfl⟩ := open1 (E := E) hE3
              obtain ⟨E, rfl⟩ := open1 (E := E) hE4
              obtain ⟨E, rfl⟩ := open1 (E := E) hE7
              obtain ⟨E, rfl⟩ := open1 (E := E) hE13
              obtain ⟨E, rfl⟩ := open1 (E := E) hE14
              obtain ⟨E, rfl⟩ := open1 (E := E) hE15
              obtain ⟨E, rfl⟩ := open1 (E := E) hE21
              obtain ⟨E, rfl⟩ := open1 (E := E) hE22
              obtain ⟨E, rfl⟩ := open1 (E := E) hE23
              refine WP_region ?_
              obtain ⟨t77, ht77, hM⟩ := bindS hM
              refine O (r_addM rfl rfl ht77) rfl ?_
              refine O (r_move (v := .int .i64 t77) rfl) rfl ?_
              refine OW_nil ?_
              obtain rfl := Option.some.inj hM
              exact ⟨v491, xs623, v490, xs622, v489, xs621, rfl, rfl, rfl, rfl, rfl, rfl, rfl, rfl, rfl, rfl, rfl, hrelxs623, hrelxs622, hrelxs621, hs⟩
          · refine WP_false rfl hc220 ?_
            refine WP_exit ?_
            obtain rfl := Option.some.inj hM
            refine fun hr => ?_
            have hM := congrArg some hr
            obtain rfl := Option.some.inj hM
            exact ⟨v482, xs611, v481, xs610, v480, xs609, rfl, rfl, rfl, rfl, rfl, rfl, rfl, rfl, hrelxs611, hrelxs610, hrelxs609, hs⟩
        · clear hs
          rintro E w ⟨v473, xs600, v472, xs599, v471, xs598, hE1, hE2, hE3, hE4, hE7, hE13, hE14, hE15, hrelxs600, hrelxs599, hrelxs598, hs⟩
          have hM := hKhx226
          obtain ⟨E, rfl⟩ := open1 (E := E) hE1
          obtain ⟨E, rfl⟩ := open1 (E := E) hE2
          obtain ⟨E, rfl⟩ := open1 (E := E) hE3
          obtain ⟨E, rfl⟩ := open1 (E := E) hE4
          obtain ⟨E, rfl⟩ := open1 (E := E) hE7
          obtain ⟨E, rfl⟩ := open1 (E := E) hE13
          obtain ⟨E, rfl⟩ := open1 (E := E) hE14
          obtain ⟨E, rfl⟩ := open1 (E := E) hE15
          refine WP_region ?_
          refine O (r_move (v := v472) rfl) rfl ?_
          refine O (r_move (v := v473) rfl) rfl ?_
          obtain ⟨gg38, hlegg38, hRgg38, hs⟩ := hs.relRow (i := 0) rfl hrelxs600
          replace hRv1 := hRv1.mono hlegg38
          replace hRv2 := hRv2.mono hlegg38
          replace hRv3 := hRv3.mono hlegg38
          replace hrelxs599 := hrelxs599.mono hlegg38
          replace hrelxs598 := hrelxs598.mono hlegg38
          replace hlegg27 := hlegg27.trans hlegg38
          replace hagg27 := hagg27.trans hlegg38
          refine OW_lit (τ := (tSl (tInt .i64))) [v473] [rv300] Try.underlying23 ti22 (by decide) hs rfl rfl rfl ⟨⟨v473, cells_one (by obtain ⟨_, _, h9⟩ := hRgg38.shape; rw [h9]; rfl), hRgg38⟩, trivial⟩ rfl ?_
          intro v492 wv182 xs625 hrelxs625 hs
          obtain ⟨next12, hnext12, hM⟩ := bindS hM
          refine OW_append Try.underlying23 ti22 rfl (by decide) (by decide) hs (i := 1) rfl hrelxs599 (v := v472) rfl (u := v492) rfl (hs.rowSrc (i := 0) rfl) hrelxs625 hnext12 rfl ?_
          intro v493 wv183 xs626 hrelxs626 hs
          refine O (r_assign (v := v493) rfl) rfl ?_
          refine OW_nil ?_
          obtain rfl := Option.some.inj hM
          exact ⟨gg38, v493, xs626, v471, xs598, rfl, rfl, rfl, rfl, rfl, rfl, rfl, hagg27, hrelxs626, hrelxs598, (hs.sub (.cons _ (.cons_cons _ (.cons_cons _ (.cons_cons _ (.cons_cons _ .slnil))))))⟩
      · clear hs
        rintro E w ⟨gg36, v450, xs572, v449, xs571, hE1, hE2, hE3, hE4, hE13, hE14, hE15, hlegg36, hrelxs572, hrelxs571, hs⟩
        have hM := hKhx216
        obtain ⟨E, rfl⟩ := open1 (E := E) hE1
        obtain ⟨E, rfl⟩ := open1 (E := E) hE2
        obtain ⟨E, rfl⟩ := open1 (E := E) hE3
        obtain ⟨E, rfl⟩ := open1 (E := E) hE4
        obtain ⟨E, rfl⟩ := open1 (E := E) hE13
        obtain ⟨E, rfl⟩ := open1 (E := E) hE14
        obtain ⟨E, rfl⟩ := open1 (E := E) hE15
        replace hRv1 := hRv1.mono hlegg36
        replace hRv2 := hRv2.mono hlegg36
        replace hRv3 := hRv3.mono hlegg36
        replace hlegg27 := hlegg27.trans hlegg36
        replace hagg27 := hagg27.trans hlegg36
        refine WP_region ?_
        obtain ⟨t78, ht78, hM⟩ := bindS hM
        refine O (r_addM rfl rfl ht78) rfl ?_
        refine O (r_move (v := .int .i64 t78) rfl) rfl ?_
        refine OW_nil ?_
        obtain rfl := Option.some.inj hM
        exact ⟨gg36, v450, xs572, v449, xs571, rfl, rfl, rfl, rfl, rfl, rfl, rfl, hlegg27, hrelxs572, hrelxs571, hs⟩
    · refine WP_false rfl hc186 ?_
      refine WP_exit ?_
      obtain rfl := Option.some.inj hM
      refine fun hr => ?_
      have hM := congrArg some hr
      obtain rfl := Option.some.inj hM
      exact ⟨gg27, v315, xs404, rfl, rfl, rfl, hlegg27, hrelxs404, (hs.sub (.cons_cons _ (.cons _ (.cons_cons _ (.cons_cons _ .slnil)))))⟩
  · clear hs
    rintro E w ⟨gg20, v249, xs314, hE1, hE2, hE4, hlegg20, hrelxs314, hs⟩
    have hM := hKhx118
    obtain ⟨E, rfl⟩ := open1 (E := E) hE1
    obtain ⟨E, rfl⟩ := open1 (E := E) hE2
    obtain ⟨E, rfl⟩ := open1 (E := E) hE4
    replace hRv1 := hRv1.mono hlegg20
    replace hRv2 := hRv2.mono hlegg20
    replace hRv3 := hRv3.mono hlegg20
    refine WP_seq ?_
    refine WP_region ?_
    refine O (r_fieldAddr Try.underlying25 ti22 rfl rfl (by decide) rfl rfl) rfl ?_
    refine O (r_load (v := v1) ti22 rfl (hs.cell (i := 2) (o := 0) rfl rfl)) rfl ?_
    refine O (r_move (v := v249) rfl) rfl ?_
    refine O (r_fieldAddr Try.underlying25 ti22 rfl rfl (by decide) rfl rfl) rfl ?_
    refine O (r_load (v := v3) ti22 rfl (hs.cell (i := 2) (o := 2) rfl rfl)) rfl ?_
    have ho1 := one_of_shape (hs.rowShape (i := 0) rfl)
    refine O (r_build (vs := [(0, v1), (1, v249), (2, v3)]) (cs := [v1, v249, v3]) rfl (built_fill [(0, 1), (1, 1), (2, 1)] [.slice none 0 0, .slice none 0 0, .slice none 0 0] (fun _ => by kernel_rfl) (fill_step ([]) ([.slice none 0 0]) ([.slice none 0 0, .slice none 0 0]) ([v1]) rfl rfl (cells_one (by obtain ⟨_, _, h9⟩ := hRv1.shape; rw [h9]; rfl)) rfl rfl rfl <| fill_step ([v1]) ([.slice none 0 0]) ([.slice none 0 0]) ([v249]) rfl rfl (cells_one ho1) rfl rfl rfl <| fill_step ([v1, v249]) ([.slice none 0 0]) ([]) ([v3]) rfl rfl (cells_one (by obtain ⟨_, _, h9⟩ := hRv3.shape; rw [h9]; rfl)) rfl rfl rfl <| fill_done))) rfl ?_
    refine OW_storeAll ti25 hs (i := 1) rfl rfl (v := .agg (List.toArray (α := Value) [v1, v249, v3])) rfl (vs := [v1, v249, v3]) rfl (one_cons (by obtain ⟨_, _, h9⟩ := hRv1.shape; rw [h9]; rfl) (one_cons (by obtain ⟨_, _, h9⟩ := hs.rowShape (i := 0) rfl; rw [h9]; rfl) (one_cons (by obtain ⟨_, _, h9⟩ := hRv3.shape; rw [h9]; rfl) one_nil))) rfl rfl ?_
    intro wv184 hs
    refine OW_nil ?_
    refine WP_ret ?_
    obtain ⟨gg39, hlegg39, hRgg39, hs⟩ := hs.relRow (i := 0) rfl hrelxs314
    replace hRv1 := hRv1.mono hlegg39
    replace hRv2 := hRv2.mono hlegg39
    replace hRv3 := hRv3.mono hlegg39
    obtain rfl := Option.some.inj hM
    exact ⟨_, res1 Try.results33 (rv_cells (vs := [v1, v249, v3]) ti25 rfl rfl (hs.cells (i := 0) rfl)), gg39, ⟨[v1, v249, v3], rfl, ⟨[v1], [v249], [v3], rfl, ⟨_, rfl, hRv1⟩, ⟨_, rfl, hRgg39⟩, ⟨_, rfl, hRv3⟩⟩⟩, hs.ext⟩

set_option maxRecDepth 100000 in
theorem dfa_used_ok {p1 : T_DFA} {r : T_DFA} (hM : M.dfa_used p1 = some r) {g0 : Hp} {w0 : World} (hi : Imm g0 w0) {cs1 : List Value} (hcs1 : tT_DFA.rel g0 cs1 p1) :
    CallsV Try.prog 34 #[.agg cs1.toArray] w0 (fun v w' => ∃ g', (VRd tT_DFA true g' v r) ∧ Ext g0 w0 g' w') := by
  unfold M.dfa_used at hM
  obtain ⟨cs2, cs3, cs4, rfl, hcs2, hcs3, hcs4⟩ := hcs1
  obtain ⟨v1, rfl, hRv1⟩ := hcs2
  obtain ⟨v2, rfl, hRv2⟩ := hcs3
  obtain ⟨v3, rfl, hRv3⟩ := hcs4
  have hs := Sep.start hi
  refine calls_of_WP (args := [.agg (List.toArray (α := Value) [v1, v2, v3])]) Try.func34 rfl Try.ntmps34 rfl ?_
  refine WP_seq ?_
  refine WP_region ?_
  refine OW_box (v := .agg (List.toArray (α := Value) [v1, v2, v3])) rfl hs (zs := [v1, v2, v3]) rfl rfl ?_
  intro b1 wv1 hs
  refine OW_alloc ti25 hs (zs := [.slice none 0 0, .slice none 0 0, .slice none 0 0]) rfl rfl ?_
  intro b2 wv2 hs
  refine OW_nil ?_
  refine WP_seq ?_
  refine WP_region ?_
  refine OW_makeMap hs rfl ?_
  intro b3 wv3 hs
  have hmb3 : MRel (Value.int .i64) (Value.int .i64) #[] [] := mrel_nil
  refine O (r_assign (v := .map (some b3)) rfl) rfl ?_
  refine OW_nil ?_
  refine WP_seq ?_
  refine WP_region ?_
  refine O (r_assign (v := .slice none 0 0) rfl) rfl ?_
  refine OW_nil ?_
  obtain ⟨l2, hx1, hKhx1⟩ := bindS hM
  refine WP_cut (fun E w => ∃ (b7 : Nat) (v7 : Value) (xs4 : List Value), E 1 = .pointer (some ⟨b1, 0, none⟩) ∧ E 2 = .pointer (some ⟨b2, 0, none⟩) ∧ E 3 = .map (some b3) ∧ E 4 = .slice none 0 0 ∧ E 5 = .pointer (some ⟨b7, 0, none⟩) ∧ RowRel (tInt .i64) g0 xs4 l2 ∧ Go.Lx.Sep g0 w0 g0 w [Go.Lx.box b7 25 ([v7, .slice none 0 0, v3]), .row v7 3 (tInt .i64).sz l2.length xs4, .obj b3 (.map #[] 0), Go.Lx.box b2 25 ([.slice none 0 0, .slice none 0 0, .slice none 0 0]), Go.Lx.box b1 25 ([v1, v2, v3])]) ?_ ?_
  · have hM := hx1
    have hag0 := Hle.refl g0
    obtain ⟨l3, hl3, hM⟩ := bindS hM
    refine WP_any (.q 0 (.q 1 (.q 2 (.q 4 (.q 5 (.c 3 (.q 6 (.s 7 (.s 8 (.leaf)))) (.c 7 (.s 3 (.q 6 (.s 8 (.leaf)))) (.n)))))))) (SS g0 w0 g0 [.obj b3 (.map #[] 0), Go.Lx.box b2 25 ([.slice none 0 0, .slice none 0 0, .slice none 0 0]), Go.Lx.box b1 25 ([v1, v2, v3])]) mo (by decide +kernel) (fun _ _ _ h => h) ?_
    have hs := hs.drew
    have hRv1b := hRv1
    have hRv2b := hRv2
    have hRv3b := hRv3
    have hS : SS g0 w0 g0 [.obj b3 (.map #[] 0), Go.Lx.box b2 25 ([.slice none 0 0, .slice none 0 0, .slice none 0 0]), Go.Lx.box b1 25 ([v1, v2, v3])] _ := ⟨g0, Hle.refl _, hs⟩
    refine A rfl hS (fun w9 h9 => by obtain ⟨g9, hle9, hs⟩ := h9; exact r_fieldAddr Try.underlying25 ti22 rfl rfl (by decide) rfl rfl) rfl ?_
    refine A rfl hS (fun w9 h9 => by obtain ⟨g9, hle9, hs⟩ := h9; exact r_load (v := v1) ti22 rfl (hs.cell (i := 2) (o := 0) rfl rfl)) rfl ?_
    obtain ⟨a4, ca4, hva4⟩ := hRv1.shape
    refine A rfl hS (fun w9 h9 => by obtain ⟨g9, hle9, hs⟩ := h9; exact r_lenSl (v := v1) Try.underlying22 rfl hva4) rfl ?_
    refine A rfl hS (fun w9 h9 => by obtain ⟨g9, hle9, hs⟩ := h9; exact r_fieldAddr Try.underlying25 ti22 rfl rfl (by decide) rfl rfl) rfl ?_
    refine A rfl hS (fun w9 h9 => by obtain ⟨g9, hle9, hs⟩ := h9; exact r_load (v := v3) ti22 rfl (hs.cell (i := 2) (o := 2) rfl rfl)) rfl ?_
    refine A2 rfl ?_ ?_
    · refine OW_make (τ := (tInt .i64)) (zc := [.int .i64 0]) (zx := 0) Try.underlying22 ti3 rfl rfl (by decide) hs rfl rfl hl3 rfl ?_
      intro v9 wv16 xs6 hrelxs6 hs
      refine OW_nil ?_
      have hS : SS g0 w0 g0 [.obj b3 (.map #[] 0), Go.Lx.box b2 25 ([.slice none 0 0, .slice none 0 0, .slice none 0 0]), Go.Lx.box b1 25 ([v1, v2, v3])] _ := ⟨g0, (Hle.refl _), (hs.sub (.cons _ (.cons_cons _ (.cons_cons _ (.cons_cons _ .slnil)))))⟩
      refine ⟨fun _ => hS, ?_⟩
      have ho5 := one_of_shape (hs.rowShape (i := 0) rfl)
      refine A rfl hS (fun w9 h9 => by obtain ⟨g9, hle9, hs⟩ := h9; exact r_build (vs := [(0, v9), (2, v3)]) (cs := [v9, .slice none 0 0, v3]) rfl (built_fill [(0, 1), (1, 1), (2, 1)] [.slice none 0 0, .slice none 0 0, .slice none 0 0] (fun _ => by kernel_rfl) (fill_step ([]) ([.slice none 0 0]) ([.slice none 0 0, .slice none 0 0]) ([v9]) rfl rfl (cells_one ho5) rfl rfl rfl <| fill_step ([v9, .slice none 0 0]) ([.slice none 0 0]) ([]) ([v3]) rfl rfl (cells_one (by obtain ⟨_, _, h9⟩ := hRv3.shape; rw [h9]; rfl)) rfl rfl rfl <| fill_done))) rfl ?_
      refine A1 rfl ?_
      refine OW_alloc ti25 hs (zs := [.slice none 0 0, .slice none 0 0, .slice none 0 0]) rfl rfl ?_
      intro b9 wv17 hs
      refine OW_nil ?_
      have hS : SS g0 w0 g0 [.obj b3 (.map #[] 0), Go.Lx.box b2 25 ([.slice none 0 0, .slice none 0 0, .slice none 0 0]), Go.Lx.box b1 25 ([v1, v2, v3])] _ := ⟨g0, (Hle.refl _), (hs.sub (.cons _ (.cons _ (.cons_cons _ (.cons_cons _ (.cons_cons _ .slnil))))))⟩
      refine ⟨fun _ => hS, ?_⟩
      refine A1 rfl ?_
      refine OW_storeAll ti25 hs (i := 0) rfl rfl (v := .agg (List.toArray (α := Value) [v9, .slice none 0 0, v3])) rfl (vs := [v9, .slice none 0 0, v3]) rfl (one_cons (by obtain ⟨_, _, h9⟩ := hs.rowShape (i := 1) rfl; rw [h9]; rfl) (one_cons rfl (one_cons (by obtain ⟨_, _, h9⟩ := hRv3.shape; rw [h9]; rfl) one_nil))) rfl rfl ?_
      intro wv18 hs
      refine OW_nil ?_
      refine ⟨fun h => absurd h (by decide +kernel), ?_⟩
      refine AN ?_
      obtain rfl := Option.some.inj hM
      exact ⟨b9, v9, xs6, rfl, rfl, rfl, rfl, rfl, hrelxs6, hs⟩
    refine A2 rfl ?_ ?_
    · refine OW_alloc ti25 hs (zs := [.slice none 0 0, .slice none 0 0, .slice none 0 0]) rfl rfl ?_
      intro b10 wv19 hs
      refine OW_nil ?_
      have hS : SS g0 w0 g0 [.obj b3 (.map #[] 0), Go.Lx.box b2 25 ([.slice none 0 0, .slice none 0 0, .slice none 0 0]), Go.Lx.box b1 25 ([v1, v2, v3])] _ := ⟨g0, (Hle.refl _), (hs.sub (.cons _ (.cons_cons _ (.cons_cons _ (.cons_cons _ .slnil)))))⟩
      refine ⟨fun _ => hS, ?_⟩
      refine A1 rfl ?_
      refine OW_make (τ := (tInt .i64)) (zc := [.int .i64 0]) (zx := 0) Try.underlying22 ti3 rfl rfl (by decide) hs rfl rfl hl3 rfl ?_
      intro v10 wv20 xs7 hrelxs7 hs
      refine OW_nil ?_
      have hS : SS g0 w0 g0 [.obj b3 (.map #[] 0), Go.Lx.box b2 25 ([.slice none 0 0, .slice none 0 0, .slice none 0 0]), Go.Lx.box b1 25 ([v1, v2, v3])] _ := ⟨g0, (Hle.refl _), (hs.sub (.cons _ (.cons _ (.cons_cons _ (.cons_cons _ (.cons_cons _ .slnil))))))⟩
      refine ⟨fun _ => hS, ?_⟩
      have ho6 := one_of_shape (hs.rowShape (i := 0) rfl)
      refine A rfl hS (fun w9 h9 => by obtain ⟨g9, hle9, hs⟩ := h9; exact r_build (vs := [(0, v10), (2, v3)]) (cs := [v10, .slice none 0 0, v3]) rfl (built_fill [(0, 1), (1, 1), (2, 1)] [.slice none 0 0, .slice none 0 0, .slice none 0 0] (fun _ => by kernel_rfl) (fill_step ([]) ([.slice none 0 0]) ([.slice none 0 0, .slice none 0 0]) ([v10]) rfl rfl (cells_one ho6) rfl rfl rfl <| fill_step ([v10, .slice none 0 0]) ([.slice none 0 0]) ([]) ([v3]) rfl rfl (cells_one (by obtain ⟨_, _, h9⟩ := hRv3.shape; rw [h9]; rfl)) rfl rfl rfl <| fill_done))) rfl ?_
      refine A1 rfl ?_
      refine OW_storeAll ti25 hs (i := 1) rfl rfl (v := .agg (List.toArray (α := Value) [v10, .slice none 0 0, v3])) rfl (vs := [v10, .slice none 0 0, v3]) rfl (one_cons (by obtain ⟨_, _, h9⟩ := hs.rowShape (i := 0) rfl; rw [h9]; rfl) (one_cons rfl (one_cons (by obtain ⟨_, _, h9⟩ := hRv3.shape; rw [h9]; rfl) one_nil))) rfl rfl ?_
      intro wv21 hs
      refine OW_nil ?_
      refine ⟨fun h => absurd h (by decide +kernel), ?_⟩
      refine AN ?_
      obtain rfl := Option.some.inj hM
      exact ⟨b10, v10, xs7, rfl, rfl, rfl, rfl, rfl, hrelxs7, (hs.sel [1, 0, 2, 3, 4] (by decide) rfl)⟩
    trivial
  · clear hs
    rintro E w ⟨b7, v7, xs4, hE1, hE2, hE3, hE4, hE5, hrelxs4, hs⟩
    have hM := hKhx1
    obtain ⟨E, rfl⟩ := open1 (E := E) hE1
    obtain ⟨E, rfl⟩ := open1 (E := E) hE2
    obtain ⟨E, rfl⟩ := open1 (E := E) hE3
    obtain ⟨E, rfl⟩ := open1 (E := E) hE4
    obtain ⟨E, rfl⟩ := open1 (E := E) hE5
    obtain ⟨⟨xv10, l7⟩, hx5, hKhx5⟩ := bindS hM
    refine WP_cut (fun E w => ∃ (v32 : Value) (xs34 : List Value) (v33 : Value) (xs35 : List Value), E 1 = .pointer (some ⟨b1, 0, none⟩) ∧ E 2 = .pointer (some ⟨b2, 0, none⟩) ∧ E 4 = v32 ∧ E 5 = .pointer (some ⟨b7, 0, none⟩) ∧ RowRel (tInt .i64) g0 xs34 xv10 ∧ RowRel (tInt .i64) g0 xs35 l7 ∧ Go.Lx.Sep g0 w0 g0 w [.row v32 3 (tInt .i64).sz xv10.length xs34, Go.Lx.box b7 25 ([v33, .slice none 0 0, v3]), .row v33 3 (tInt .i64).sz l7.length xs35, Go.Lx.box b2 25 ([.slice none 0 0, .slice none 0 0, .slice none 0 0]), Go.Lx.box b1 25 ([v1, v2, v3])]) ?_ ?_
    · have hM := hx5
      have hag0 := Hle.refl g0
      refine WP_seq ?_
      refine WP_region ?_
      refine O (r_fieldAddr Try.underlying25 ti22 rfl rfl (by decide) rfl rfl) rfl ?_
      refine O (r_load (v := v1) ti22 rfl (hs.cell (i := 4) (o := 0) rfl rfl)) rfl ?_
      obtain ⟨a10, ca10, hva10⟩ := hRv1.shape
      refine O (r_lenSl (v := v1) Try.underlying22 rfl hva10) rfl ?_
      refine O (r_move (v := .int .i64 0) rfl) rfl ?_
      refine OW_nil ?_
      refine WP_block ?_
      have hs := hs.nilRow 3 (tInt .i64).sz
      refine WP_loop (fun (st9 : (List (Int × Int)) × (List Int) × (List Int) × Int) E w => match st9 with | (m9, xv14, l9, xv15) => ∃ (v41 : Value) (xs46 : List Value) (v42 : Value) (xs47 : List Value) (es17 : Array MapEntry) (ck17 : Nat), E 1 = .pointer (some ⟨b1, 0, none⟩) ∧ E 2 = .pointer (some ⟨b2, 0, none⟩) ∧ E 3 = .map (some b3) ∧ E 4 = v41 ∧ E 5 = .pointer (some ⟨b7, 0, none⟩) ∧ E 24 = v1 ∧ E 25 = .int .i64 (p1.Class.length : Int) ∧ E 26 = .int .i64 xv15 ∧ RowRel (tInt .i64) g0 xs46 xv14 ∧ RowRel (tInt .i64) g0 xs47 l9 ∧ MRel (Value.int .i64) (Value.int .i64) es17 m9 ∧ Go.Lx.Sep g0 w0 g0 w [.row v41 3 (tInt .i64).sz xv14.length xs46, Go.Lx.box b7 25 ([v42, .slice none 0 0, v3]), .row v42 3 (tInt .i64).sz l9.length xs47, .obj b3 (.map es17 ck17), Go.Lx.box b2 25 ([.slice none 0 0, .slice none 0 0, .slice none 0 0]), Go.Lx.box b1 25 ([v1, v2, v3])]) hM ⟨(.slice none 0 0), [], v7, xs4, #[], 0, rfl, rfl, rfl, rfl, rfl, rfl, rfl, rfl, RowRel.nil, hrelxs4, hmb3, hs⟩ ?_
      clear hs hM
      rintro ⟨m9, xv14, l9, xv15⟩ o2 E w hM ⟨v41, xs46, v42, xs47, es17, ck17, hE1, hE2, hE3, hE4, hE5, hE24, hE25, hE26, hrelxs46, hrelxs47, hmes17, hs⟩
      obtain ⟨E, rfl⟩ := open1 (E := E) hE1
      obtain ⟨E, rfl⟩ := open1 (E := E) hE2
      obtain ⟨E, rfl⟩ := open1 (E := E) hE3
      obtain ⟨E, rfl⟩ := open1 (E := E) hE4
      obtain ⟨E, rfl⟩ := open1 (E := E) hE5
      obtain ⟨E, rfl⟩ := open1 (E := E) hE24
      obtain ⟨E, rfl⟩ := open1 (E := E) hE25
      obtain ⟨E, rfl⟩ := open1 (E := E) hE26
      refine WP_seq ?_
      refine WP_region ?_
      refine O (r_lss rfl rfl) rfl ?_
      refine OW_nil ?_
      refine WP_seq ?_
      rcases condS hM with ⟨hc16, hM⟩ | ⟨hc16, hM⟩
      · refine WP_true rfl hc16 ?_
        refine WP_skip ?_
        refine WP_seq ?_
        refine WP_block ?_
        refine WP_seq ?_
        refine WP_region ?_
        refine O (r_move (v := .int .i64 xv15) rfl) rfl ?_
        obtain ⟨e6, he6, hM⟩ := bindS hM
        obtain ⟨b21, ob21, cb21, hvb21, cs10, hcs10, hcb21⟩ := hRv1.at he6
        have hcs10 : cs10 = _ := hcs10; subst hcs10
        refine O (r_idxSl Try.underlying22 ti3 (v := v1) rfl hvb21 rfl (idxL_some he6).1 (idxL_some he6).2.1) rfl ?_
        refine O (r_loadEl (cs := [.int .i64 e6]) ti3 rfl rfl (.inr rfl) (hcb21 _ hs.imm) (v := .int .i64 e6) rfl) rfl ?_
        refine O (r_assign (v := .int .i64 xv15) rfl) rfl ?_
        refine O (r_assign (v := .int .i64 e6) rfl) rfl ?_
        refine OW_nil ?_
        refine WP_seq ?_
        refine WP_region ?_
        refine O (r_move (v := .map (some b3)) rfl) rfl ?_
        refine O (r_move (v := .int .i64 e6) rfl) rfl ?_
        refine O (r_lookup (z := 0) (kk := e6) Try.underlying61 ti3 (keyLaw_int Try.underlying3) hs (i := 3) rfl hmes17 rfl rfl) rfl ?_
        refine O (r_move (v := .tuple #[.int .i64 ((mget m9 e6).getD 0), .bool ((mget m9 e6).isSome)]) rfl) rfl ?_
        refine O (r_extract (vs := [.int .i64 ((mget m9 e6).getD 0), .bool ((mget m9 e6).isSome)]) (v := .int .i64 ((mget m9 e6).getD 0)) rfl rfl) rfl ?_
        refine O (r_extract (vs := [.int .i64 ((mget m9 e6).getD 0), .bool ((mget m9 e6).isSome)]) (v := .bool ((mget m9 e6).isSome)) rfl rfl) rfl ?_
        refine O (r_assign (v := .int .i64 ((mget m9 e6).getD 0)) rfl) rfl ?_
        refine O (r_assign (v := .bool ((mget m9 e6).isSome)) rfl) rfl ?_
        refine OW_nil ?_
        obtain ⟨⟨m12, y22, xv19⟩, hx8, hKhx8⟩ := bindS hM
        refine WP_cut (fun E w => ∃ (v52 : Value) (xs58 : List Value) (es23 : Array MapEntry) (ck23 : Nat), E 1 = .pointer (some ⟨b1, 0, none⟩) ∧ E 2 = .pointer (some ⟨b2, 0, none⟩) ∧ E 3 = .map (some b3) ∧ E 4 = v52 ∧ E 5 = .pointer (some ⟨b7, 0, none⟩) ∧ E 6 = .int .i64 xv15 ∧ E 8 = .int .i64 xv19 ∧ E 24 = v1 ∧ E 25 = .int .i64 (p1.Class.length : Int) ∧ E 26 = .int .i64 xv15 ∧ RowRel (tInt .i64) g0 xs58 y22 ∧ MRel (Value.int .i64) (Value.int .i64) es23 m12 ∧ Go.Lx.Sep g0 w0 g0 w [.row v52 3 (tInt .i64).sz y22.length xs58, Go.Lx.box b7 25 ([v42, .slice none 0 0, v3]), .row v42 3 (tInt .i64).sz l9.length xs47, .obj b3 (.map es23 ck23), Go.Lx.box b2 25 ([.slice none 0 0, .slice none 0 0, .slice none 0 0]), Go.Lx.box b1 25 ([v1, v2, v3])]) ?_ ?_
        · have hM := hx8
          refine WP_seq ?_
          refine WP_region ?_
          refine O (r_move (v := .bool ((mget m9 e6).isSome)) rfl) rfl ?_
          refine O (r_not rfl) rfl ?_
          refine OW_nil ?_
          rcases condS hM with ⟨hc18, hM⟩ | ⟨hc18, hM⟩
          · refine WP_true rfl hc18 ?_
            refine WP_seq ?_
            refine WP_region ?_
            refine O (r_move (v := v41) rfl) rfl ?_
            obtain ⟨a14, ca14, hva14⟩ := hs.rowShape (i := 0) rfl
            refine O (r_lenSl (v := v41) Try.underlying22 rfl hva14) rfl ?_
            refine O (r_assign (v := .int .i64 (xv14.length : Int)) rfl) rfl ?_
            refine OW_nil ?_
            refine WP_seq ?_
            refine WP_region ?_
            refine O (r_move (v := .map (some b3)) rfl) rfl ?_
            refine O (r_move (v := .int .i64 e6) rfl) rfl ?_
            refine O (r_move (v := .int .i64 (xv14.length : Int)) rfl) rfl ?_
            refine OW_mapSet (kk := e6) (vv := (xv14.length : Int)) Try.underlying61 (keyLaw_int Try.underlying3) hs (i := 3) rfl hmes17 rfl rfl rfl ?_
            intro es24 ck24 wv60 hmes24 hs
            refine OW_nil ?_
            refine WP_region ?_
            refine O (r_move (v := v41) rfl) rfl ?_
            refine O (r_move (v := .int .i64 e6) rfl) rfl ?_
            refine OW_lit (τ := (tInt .i64)) [.int .i64 e6] [e6] Try.underlying22 ti3 (by decide) hs rfl rfl rfl ⟨rfl, trivial⟩ rfl ?_
            intro v53 wv61 xs59 hrelxs59 hs
            obtain ⟨y23, hy23, hM⟩ := bindS hM
            refine OW_append Try.underlying22 ti3 rfl (by decide) (by decide) hs (i := 1) rfl hrelxs46 (v := v41) rfl (u := v53) rfl (hs.rowSrc (i := 0) rfl) hrelxs59 hy23 rfl ?_
            intro v54 wv62 xs60 hrelxs60 hs
            refine O (r_assign (v := v54) rfl) rfl ?_
            refine OW_nil ?_
            simp only [Option.some.injEq, Prod.mk.injEq] at hM
            obtain ⟨rfl, rfl, rfl⟩ := hM
            exact ⟨v54, xs60, es24, ck24, rfl, rfl, rfl, rfl, rfl, rfl, rfl, rfl, rfl, rfl, hrelxs60, hmes24, (hs.sub (.cons _ (.cons_cons _ (.cons_cons _ (.cons_cons _ (.cons_cons _ (.cons_cons _ (.cons_cons _ .slnil))))))))⟩
          · refine WP_false rfl hc18 ?_
            refine WP_skip ?_
            simp only [Option.some.injEq, Prod.mk.injEq] at hM
            obtain ⟨rfl, rfl, rfl⟩ := hM
            exact ⟨v41, xs46, es17, ck17, rfl, rfl, rfl, rfl, rfl, rfl, rfl, rfl, rfl, rfl, hrelxs46, hmes17, hs⟩
        · clear hs
          rintro E w ⟨v52, xs58, es23, ck23, hE1, hE2, hE3, hE4, hE5, hE6, hE8, hE24, hE25, hE26, hrelxs58, hmes23, hs⟩
          have hM := hKhx8
          obtain ⟨E, rfl⟩ := open1 (E := E) hE1
          obtain ⟨E, rfl⟩ := open1 (E := E) hE2
          obtain ⟨E, rfl⟩ := open1 (E := E) hE3
          obtain ⟨E, rfl⟩ := open1 (E := E) hE4
          obtain ⟨E, rfl⟩ := open1 (E := E) hE5
          obtain ⟨E, rfl⟩ := open1 (E := E) hE6
          obtain ⟨E, rfl⟩ := open1 (E := E) hE8
          obtain ⟨E, rfl⟩ := open1 (E := E) hE24
          obtain ⟨E, rfl⟩ := open1 (E := E) hE25
          obtain ⟨E, rfl⟩ := open1 (E := E) hE26
          refine WP_region ?_
          refine O (r_fieldAddr Try.underlying25 ti22 rfl rfl (by decide) rfl rfl) rfl ?_
          refine O (r_load (v := v42) ti22 rfl (hs.cell (i := 1) (o := 0) rfl rfl)) rfl ?_
          refine O (r_move (v := .int .i64 xv15) rfl) rfl ?_
          refine O (r_move (v := .int .i64 xv19) rfl) rfl ?_
          obtain ⟨y24, hy24, hM⟩ := bindS hM
          obtain ⟨b22, cb22, hvb22, wv63, xs61, hstb22, hrelb22, hsb22⟩ := hs.rowPut (i := 2) rfl hrelxs47 hy24 (cs := [.int .i64 xv19]) rfl
          refine O (r_idxSl Try.underlying22 ti3 (v := v42) rfl hvb22 rfl (setL_some hy24).1 (setL_some hy24).2.1) rfl ?_
          refine O0 (r_store ti3 rfl (v := .int .i64 xv19) rfl rfl hstb22) ?_
          have hs := hsb22
          refine OW_nil ?_
          refine WP_region ?_
          obtain ⟨t6, ht6, hM⟩ := bindS hM
          refine O (r_addM rfl rfl ht6) rfl ?_
          refine O (r_move (v := .int .i64 t6) rfl) rfl ?_
          refine OW_nil ?_
          obtain rfl := Option.some.inj hM
          exact ⟨v52, xs58, v42, xs61, es23, ck23, rfl, rfl, rfl, rfl, rfl, rfl, rfl, rfl, hrelxs58, hrelb22, hmes23, hs⟩
      · refine WP_false rfl hc16 ?_
        refine WP_exit ?_
        obtain rfl := Option.some.inj hM
        refine fun hr => ?_
        have hM := congrArg some hr
        simp only [Option.some.injEq, Prod.mk.injEq] at hM
        obtain ⟨rfl, rfl⟩ := hM
        exact ⟨v41, xs46, v42, xs47, rfl, rfl, rfl, rfl, hrelxs46, hrelxs47, (hs.sub (.cons_cons _ (.cons_cons _ (.cons_cons _ (.cons _ (.cons_cons _ (.cons_cons _ .slnil)))))))⟩
    · clear hs
      rintro E w ⟨v32, xs34, v33, xs35, hE1, hE2, hE4, hE5, hrelxs34, hrelxs35, hs⟩
      have hM := hKhx5
      obtain ⟨E, rfl⟩ := open1 (E := E) hE1
      obtain ⟨E, rfl⟩ := open1 (E := E) hE2
      obtain ⟨E, rfl⟩ := open1 (E := E) hE4
      obtain ⟨E, rfl⟩ := open1 (E := E) hE5
      obtain ⟨xv104, hx18, hKhx18⟩ := bindS hM
      refine WP_cut (fun E w => ∃ (gg13 : Hp) (v222 : Value) (xs237 : List Value) (v221 : Value) (xs236 : List Value), E 2 = .pointer (some ⟨b2, 0, none⟩) ∧ E 5 = .pointer (some ⟨b7, 0, none⟩) ∧ Hle g0 gg13 ∧ RowRel (tSl (tInt .i64)) gg13 xs237 xv104 ∧ RowRel (tInt .i64) gg13 xs236 l7 ∧ Go.Lx.Sep g0 w0 gg13 w [.row v222 22 (tSl (tInt .i64)).sz xv104.length xs237, Go.Lx.box b7 25 ([v221, v222, v3]), .row v221 3 (tInt .i64).sz l7.length xs236, Go.Lx.box b2 25 ([.slice none 0 0, .slice none 0 0, .slice none 0 0])]) ?_ ?_
      · have hM := hx18
        have hag0 := Hle.refl g0
        refine WP_seq ?_
        refine WP_region ?_
        refine O (r_fieldAddr Try.underlying25 ti23 rfl rfl (by decide) rfl rfl) rfl ?_
        refine O (r_load (v := v2) ti23 rfl (hs.cell (i := 4) (o := 1) rfl rfl)) rfl ?_
        obtain ⟨a28, ca28, hva28⟩ := hRv2.shape
        refine O (r_lenSl (v := v2) Try.underlying23 rfl hva28) rfl ?_
        refine O (r_move (v := .int .i64 0) rfl) rfl ?_
        refine OW_nil ?_
        refine WP_block ?_
        have hs := hs.nilRow 22 (tSl (tInt .i64)).sz
        refine WP_loop (fun (st9 : (List (List Int)) × Int) E w => match st9 with | (xv133, xv134) => ∃ (gg18 : Hp) (v279 : Value) (xs298 : List Value) (v277 : Value) (xs296 : List Value) (v278 : Value) (xs297 : List Value), E 2 = .pointer (some ⟨b2, 0, none⟩) ∧ E 4 = v277 ∧ E 5 = .pointer (some ⟨b7, 0, none⟩) ∧ E 55 = v2 ∧ E 56 = .int .i64 (p1.Next.length : Int) ∧ E 57 = .int .i64 xv134 ∧ Hle g0 gg18 ∧ RowRel (tSl (tInt .i64)) gg18 xs298 xv133 ∧ RowRel (tInt .i64) gg18 xs296 xv10 ∧ RowRel (tInt .i64) gg18 xs297 l7 ∧ Go.Lx.Sep g0 w0 gg18 w [.row v279 22 (tSl (tInt .i64)).sz xv133.length xs298, .row v277 3 (tInt .i64).sz xv10.length xs296, Go.Lx.box b7 25 ([v278, v279, v3]), .row v278 3 (tInt .i64).sz l7.length xs297, Go.Lx.box b2 25 ([.slice none 0 0, .slice none 0 0, .slice none 0 0])]) hM ⟨g0, (.slice none 0 0), [], v32, xs34, v33, xs35, rfl, rfl, rfl, rfl, rfl, rfl, (Hle.refl _), RowRel.nil, hrelxs34, hrelxs35, (hs.sub (.cons_cons _ (.cons_cons _ (.cons_cons _ (.cons_cons _ (.cons_cons _ (.cons _ .slnil)))))))⟩ ?_
        clear hs hM
        rintro ⟨xv133, xv134⟩ o24 E w hM ⟨gg18, v279, xs298, v277, xs296, v278, xs297, hE2, hE4, hE5, hE55, hE56, hE57, hlegg18, hrelxs298, hrelxs296, hrelxs297, hs⟩
        obtain ⟨E, rfl⟩ := open1 (E := E) hE2
        obtain ⟨E, rfl⟩ := open1 (E := E) hE4
        obtain ⟨E, rfl⟩ := open1 (E := E) hE5
        obtain ⟨E, rfl⟩ := open1 (E := E) hE55
        obtain ⟨E, rfl⟩ := open1 (E := E) hE56
        obtain ⟨E, rfl⟩ := open1 (E := E) hE57
        replace hRv3 := hRv3.mono hlegg18
        replace hRv2 := hRv2.mono hlegg18
        replace hag0 := hag0.trans hlegg18
        have hagg18 := Hle.refl gg18
        refine WP_seq ?_
        refine WP_region ?_
        refine O (r_lss rfl rfl) rfl ?_
        refine OW_nil ?_
        refine WP_seq ?_
        rcases condS hM with ⟨hc84, hM⟩ | ⟨hc84, hM⟩
        · refine WP_true rfl hc84 ?_
          refine WP_skip ?_
          obtain ⟨y107, hx26, hKhx26⟩ := bindS hM
          refine WP_cut (fun E w => ∃ (gg24 : Hp) (v363 : Value) (xs385 : List Value) (v361 : Value) (xs383 : List Value) (v362 : Value) (xs384 : List Value), E 2 = .pointer (some ⟨b2, 0, none⟩) ∧ E 4 = v361 ∧ E 5 = .pointer (some ⟨b7, 0, none⟩) ∧ E 55 = v2 ∧ E 56 = .int .i64 (p1.Next.length : Int) ∧ E 57 = .int .i64 xv134 ∧ Hle gg18 gg24 ∧ RowRel (tSl (tInt .i64)) gg24 xs385 y107 ∧ RowRel (tInt .i64) gg24 xs383 xv10 ∧ RowRel (tInt .i64) gg24 xs384 l7 ∧ Go.Lx.Sep g0 w0 gg24 w [.row v363 22 (tSl (tInt .i64)).sz y107.length xs385, .row v361 3 (tInt .i64).sz xv10.length xs383, Go.Lx.box b7 25 ([v362, v363, v3]), .row v362 3 (tInt .i64).sz l7.length xs384, Go.Lx.box b2 25 ([.slice none 0 0, .slice none 0 0, .slice none 0 0])]) ?_ ?_
          · have hM := hx26
            refine WP_block ?_
            refine WP_seq ?_
            refine WP_region ?_
            obtain ⟨e150, he150, hM⟩ := bindS hM
            obtain ⟨b166, ob166, cb166, hvb166, cs154, hcs154, hcb166⟩ := hRv2.at he150
            obtain ⟨v364, rfl, hRv364⟩ := hcs154
            refine O (r_idxSl Try.underlying23 ti22 (v := v2) rfl hvb166 rfl (idxL_some he150).1 (idxL_some he150).2.1) rfl ?_
            refine O (r_loadEl (cs := [v364]) ti22 rfl rfl (.inr rfl) (hcb166 _ hs.imm) (v := v364) rfl) rfl ?_
            refine O (r_assign (v := v364) rfl) rfl ?_
            refine OW_nil ?_
            refine WP_seq ?_
            refine WP_region ?_
            refine O (r_assign (v := .slice none 0 0) rfl) rfl ?_
            refine OW_nil ?_
            obtain ⟨xv182, hx27, hKhx27⟩ := bindS hM
            refine WP_cut (fun E w => ∃ (v377 : Value) (xs399 : List Value) (v376 : Value) (xs398 : List Value) (v374 : Value) (xs396 : List Value) (v375 : Value) (xs397 : List Value), E 2 = .pointer (some ⟨b2, 0, none⟩) ∧ E 4 = v374 ∧ E 5 = .pointer (some ⟨b7, 0, none⟩) ∧ E 12 = v377 ∧ E 55 = v2 ∧ E 56 = .int .i64 (p1.Next.length : Int) ∧ E 57 = .int .i64 xv134 ∧ RowRel (tInt .i64) gg18 xs399 xv182 ∧ RowRel (tSl (tInt .i64)) gg18 xs398 xv133 ∧ RowRel (tInt .i64) gg18 xs396 xv10 ∧ RowRel (tInt .i64) gg18 xs397 l7 ∧ Go.Lx.Sep g0 w0 gg18 w [.row v377 3 (tInt .i64).sz xv182.length xs399, .row v376 22 (tSl (tInt .i64)).sz xv133.length xs398, .row v374 3 (tInt .i64).sz xv10.length xs396, Go.Lx.box b7 25 ([v375, v376, v3]), .row v375 3 (tInt .i64).sz l7.length xs397, Go.Lx.box b2 25 ([.slice none 0 0, .slice none 0 0, .slice none 0 0])]) ?_ ?_
            · have hM := hx27
              refine WP_seq ?_
              refine WP_region ?_
              refine O (r_move (v := v277) rfl) rfl ?_
              obtain ⟨a40, ca40, hva40⟩ := hs.rowShape (i := 1) rfl
              refine O (r_lenSl (v := v277) Try.underlying22 rfl hva40) rfl ?_
              refine O (r_move (v := .int .i64 0) rfl) rfl ?_
              refine OW_nil ?_
              refine WP_block ?_
              have hs := hs.nilRow 3 (tInt .i64).sz
              refine WP_loop (fun (st9 : (List Int) × Int) E w => match st9 with | (xv185, xv186) => ∃ (v381 : Value) (xs404 : List Value), E 2 = .pointer (some ⟨b2, 0, none⟩) ∧ E 4 = v277 ∧ E 5 = .pointer (some ⟨b7, 0, none⟩) ∧ E 11 = v364 ∧ E 12 = v381 ∧ E 55 = v2 ∧ E 56 = .int .i64 (p1.Next.length : Int) ∧ E 57 = .int .i64 xv134 ∧ E 61 = v277 ∧ E 62 = .int .i64 (xv10.length : Int) ∧ E 63 = .int .i64 xv186 ∧ RowRel (tInt .i64) gg18 xs404 xv185 ∧ Go.Lx.Sep g0 w0 gg18 w [.row v381 3 (tInt .i64).sz xv185.length xs404, .row v279 22 (tSl (tInt .i64)).sz xv133.length xs298, .row v277 3 (tInt .i64).sz xv10.length xs296, Go.Lx.box b7 25 ([v278, v279, v3]), .row v278 3 (tInt .i64).sz l7.length xs297, Go.Lx.box b2 25 ([.slice none 0 0, .slice none 0 0, .slice none 0 0])]) hM ⟨(.slice none 0 0), [], rfl, rfl, rfl, rfl, rfl, rfl, rfl, rfl, rfl, rfl, rfl, RowRel.nil, hs⟩ ?_
              clear hs hM
              rintro ⟨xv185, xv186⟩ o28 E w hM ⟨v381, xs404, hE2, hE4, hE5, hE11, hE12, hE55, hE56, hE57, hE61, hE62, hE63, hrelxs404, hs⟩
              obtain ⟨E, rfl⟩ := open1 (E := E) hE2
              obtain ⟨E, rfl⟩ := open1 (E := E) hE4
              obtain ⟨E, rfl⟩ := open1 (E := E) hE5
              obtain ⟨E, rfl⟩ := open1 (E := E) hE11
              obtain ⟨E, rfl⟩ := open1 (E := E) hE12
              obtain ⟨E, rfl⟩ := open1 (E := E) hE55
              obtain ⟨E, rfl⟩ := open1 (E := E) hE56
              obtain ⟨E, rfl⟩ := open1 (E := E) hE57
              obtain ⟨E, rfl⟩ := open1 (E := E) hE61
              obtain ⟨E, rfl⟩ := open1 (E := E) hE62
              obtain ⟨E, rfl⟩ := open1 (E := E) hE63
              refine WP_seq ?_
              refine WP_region ?_
              refine O (r_lss rfl rfl) rfl ?_
              refine OW_nil ?_
              refine WP_seq ?_
              rcases condS hM with ⟨hc96, hM⟩ | ⟨hc96, hM⟩
              · refine WP_true rfl hc96 ?_
                refine WP_skip ?_
                refine WP_seq ?_
                refine WP_block ?_
                refine WP_seq ?_
                refine WP_region ?_
                obtain ⟨e161, he161, hM⟩ := bindS hM
                obtain ⟨b177, cb177, hvb177, cs165, hcs165, hcb177⟩ := hs.rowEl (i := 2) rfl hrelxs296 he161
                have hcs165 : cs165 = _ := hcs165; subst hcs165
                refine O (r_idxSl Try.underlying22 ti3 (v := v277) rfl hvb177 rfl (idxL_some he161).1 (idxL_some he161).2.1) rfl ?_
                refine O (r_loadEl (cs := [.int .i64 e161]) ti3 rfl rfl (.inr rfl) (hcb177 _ (hs.at (i := 2) rfl)) (v := .int .i64 e161) rfl) rfl ?_
                refine O (r_assign (v := .int .i64 e161) rfl) rfl ?_
                refine OW_nil ?_
                refine WP_region ?_
                refine O (r_move (v := v381) rfl) rfl ?_
                refine O (r_move (v := v364) rfl) rfl ?_
                refine O (r_move (v := .int .i64 e161) rfl) rfl ?_
                obtain ⟨e162, he162, hM⟩ := bindS hM
                obtain ⟨b178, ob178, cb178, hvb178, cs166, hcs166, hcb178⟩ := hRv364.at he162
                have hcs166 : cs166 = _ := hcs166; subst hcs166
                refine O (r_idxSl Try.underlying22 ti3 (v := v364) rfl hvb178 rfl (idxL_some he162).1 (idxL_some he162).2.1) rfl ?_
                refine O (r_loadEl (cs := [.int .i64 e162]) ti3 rfl rfl (.inr rfl) (hcb178 _ hs.imm) (v := .int .i64 e162) rfl) rfl ?_
                refine OW_lit (τ := (tInt .i64)) [.int .i64 e162] [e162] Try.underlying22 ti3 (by decide) hs rfl rfl rfl ⟨rfl, trivial⟩ rfl ?_
                intro v385 wv239 xs408 hrelxs408 hs
                obtain ⟨y113, hy113, hM⟩ := bindS hM
                refine OW_append Try.underlying22 ti3 rfl (by decide) (by decide) hs (i := 1) rfl hrelxs404 (v := v381) rfl (u := v385) rfl (hs.rowSrc (i := 0) rfl) hrelxs408 hy113 rfl ?_
                intro v386 wv240 xs409 hrelxs409 hs
                refine O (r_assign (v := v386) rfl) rfl ?_
                refine OW_nil ?_
                refine WP_region ?_
                obtain ⟨t83, ht83, hM⟩ := bindS hM
                refine O (r_addM rfl rfl ht83) rfl ?_
                refine O (r_move (v := .int .i64 t83) rfl) rfl ?_
                refine OW_nil ?_
                obtain rfl := Option.some.inj hM
                exact ⟨v386, xs409, rfl, rfl, rfl, rfl, rfl, rfl, rfl, rfl, rfl, rfl, rfl, hrelxs409, (hs.sub (.cons _ (.cons_cons _ (.cons_cons _ (.cons_cons _ (.cons_cons _ (.cons_cons _ (.cons_cons _ .slnil))))))))⟩
              · refine WP_false rfl hc96 ?_
                refine WP_exit ?_
                obtain rfl := Option.some.inj hM
                refine fun hr => ?_
                have hM := congrArg some hr
                obtain rfl := Option.some.inj hM
                exact ⟨v381, xs404, v279, xs298, v277, xs296, v278, xs297, rfl, rfl, rfl, rfl, rfl, rfl, rfl, hrelxs404, hrelxs298, hrelxs296, hrelxs297, hs⟩
            · clear hs
              rintro E w ⟨v377, xs399, v376, xs398, v374, xs396, v375, xs397, hE2, hE4, hE5, hE12, hE55, hE56, hE57, hrelxs399, hrelxs398, hrelxs396, hrelxs397, hs⟩
              have hM := hKhx27
              obtain ⟨E, rfl⟩ := open1 (E := E) hE2
              obtain ⟨E, rfl⟩ := open1 (E := E) hE4
              obtain ⟨E, rfl⟩ := open1 (E := E) hE5
              obtain ⟨E, rfl⟩ := open1 (E := E) hE12
              obtain ⟨E, rfl⟩ := open1 (E := E) hE55
              obtain ⟨E, rfl⟩ := open1 (E := E) hE56
              obtain ⟨E, rfl⟩ := open1 (E := E) hE57
              refine WP_region ?_
              refine O (r_fieldAddr Try.underlying25 ti23 rfl rfl (by decide) rfl rfl) rfl ?_
              refine O (r_load (v := v376) ti23 rfl (hs.cell (i := 3) (o := 1) rfl rfl)) rfl ?_
              refine O (r_move (v := v377) rfl) rfl ?_
              obtain ⟨gg25, hlegg25, hRgg25, hs⟩ := hs.relRow (i := 0) rfl hrelxs399
              replace hRv3 := hRv3.mono hlegg25
              replace hRv2 := hRv2.mono hlegg25
              replace hrelxs398 := hrelxs398.mono hlegg25
              replace hrelxs396 := hrelxs396.mono hlegg25
              replace hrelxs397 := hrelxs397.mono hlegg25
              replace hlegg18 := hlegg18.trans hlegg25
              replace hagg18 := hagg18.trans hlegg25
              refine OW_lit (τ := (tSl (tInt .i64))) [v377] [xv182] Try.underlying23 ti22 (by decide) hs rfl rfl rfl ⟨⟨v377, cells_one (by obtain ⟨_, _, h9⟩ := hRgg25.shape; rw [h9]; rfl), hRgg25⟩, trivial⟩ rfl ?_
              intro v387 wv241 xs410 hrelxs410 hs
              obtain ⟨y114, hy114, hM⟩ := bindS hM
              refine OW_append Try.underlying23 ti22 rfl (by decide) (by decide) hs (i := 1) rfl hrelxs398 (v := v376) rfl (u := v387) rfl (hs.rowSrc (i := 0) rfl) hrelxs410 hy114 rfl ?_
              intro v388 wv242 xs411 hrelxs411 hs
              refine O (r_fieldAddr Try.underlying25 ti23 rfl rfl (by decide) rfl rfl) rfl ?_
              refine OW_store1 ti23 hs (i := 3) rfl rfl (v := v388) rfl (by obtain ⟨_, _, h9⟩ := hs.rowShape (i := 1) rfl; rw [h9]; rfl) (o := 1) (by simp) ?_
              intro wv243 hs
              refine OW_nil ?_
              obtain rfl := Option.some.inj hM
              exact ⟨gg25, v388, xs411, v374, xs396, v375, xs397, rfl, rfl, rfl, rfl, rfl, rfl, hagg18, hrelxs411, hrelxs396, hrelxs397, (hs.sub (.cons _ (.cons_cons _ (.cons_cons _ (.cons_cons _ (.cons_cons _ (.cons_cons _ .slnil)))))))⟩
          · clear hs
            rintro E w ⟨gg24, v363, xs385, v361, xs383, v362, xs384, hE2, hE4, hE5, hE55, hE56, hE57, hlegg24, hrelxs385, hrelxs383, hrelxs384, hs⟩
            have hM := hKhx26
            obtain ⟨E, rfl⟩ := open1 (E := E) hE2
            obtain ⟨E, rfl⟩ := open1 (E := E) hE4
            obtain ⟨E, rfl⟩ := open1 (E := E) hE5
            obtain ⟨E, rfl⟩ := open1 (E := E) hE55
            obtain ⟨E, rfl⟩ := open1 (E := E) hE56
            obtain ⟨E, rfl⟩ := open1 (E := E) hE57
            replace hRv3 := hRv3.mono hlegg24
            replace hRv2 := hRv2.mono hlegg24
            replace hlegg18 := hlegg18.trans hlegg24
            replace hagg18 := hagg18.trans hlegg24
            refine WP_region ?_
            obtain ⟨t84, ht84, hM⟩ := bindS hM
            refine O (r_addM rfl rfl ht84) rfl ?_
            refine O (r_move (v := .int .i64 t84) rfl) rfl ?_
            refine OW_nil ?_
            obtain rfl := Option.some.inj hM
            exact ⟨gg24, v363, xs385, v361, xs383, v362, xs384, rfl, rfl, rfl, rfl, rfl, rfl, hlegg18, hrelxs385, hrelxs383, hrelxs384, hs⟩
        · refine WP_false rfl hc84 ?_
          refine WP_exit ?_
          obtain rfl := Option.some.inj hM
          refine fun hr => ?_
          have hM := congrArg some hr
          obtain rfl := Option.some.inj hM
          exact ⟨gg18, v279, xs298, v278, xs297, rfl, rfl, hlegg18, hrelxs298, hrelxs297, (hs.sub (.cons_cons _ (.cons _ (.cons_cons _ (.cons_cons _ (.cons_cons _ .slnil))))))⟩
      · clear hs
        rintro E w ⟨gg13, v222, xs237, v221, xs236, hE2, hE5, hlegg13, hrelxs237, hrelxs236, hs⟩
        have hM := hKhx18
        obtain ⟨E, rfl⟩ := open1 (E := E) hE2
        obtain ⟨E, rfl⟩ := open1 (E := E) hE5
        replace hRv3 := hRv3.mono hlegg13
        refine WP_seq ?_
        refine WP_region ?_
        refine O (r_loadN (cs := [v221, v222, v3]) ti25 rfl rfl (hs.cells (i := 1) rfl)) rfl ?_
        refine OW_storeAll ti25 hs (i := 3) rfl rfl (v := .agg (List.toArray (α := Value) [v221, v222, v3])) rfl (vs := [v221, v222, v3]) rfl (one_cons (by obtain ⟨_, _, h9⟩ := hs.rowShape (i := 2) rfl; rw [h9]; rfl) (one_cons (by obtain ⟨_, _, h9⟩ := hs.rowShape (i := 0) rfl; rw [h9]; rfl) (one_cons (by obtain ⟨_, _, h9⟩ := hRv3.shape; rw [h9]; rfl) one_nil))) rfl rfl ?_
        intro wv244 hs
        refine OW_nil ?_
        refine WP_ret ?_
        obtain ⟨gg26, hlegg26, hRgg26, hs⟩ := hs.relRow (i := 2) rfl hrelxs236
        replace hRv3 := hRv3.mono hlegg26
        replace hrelxs237 := hrelxs237.mono hlegg26
        obtain ⟨gg27, hlegg27, hRgg27, hs⟩ := hs.relRow (i := 0) rfl hrelxs237
        replace hRv3 := hRv3.mono hlegg27
        replace hRgg26 := hRgg26.mono hlegg27
        obtain rfl := Option.some.inj hM
        exact ⟨_, res1 Try.results34 (rv_cells (vs := [v221, v222, v3]) ti25 rfl rfl (hs.cells (i := 1) rfl)), gg27, ⟨[v221, v222, v3], rfl, ⟨[v221], [v222], [v3], rfl, ⟨_, rfl, hRgg26⟩, ⟨_, rfl, hRgg27⟩, ⟨_, rfl, hRv3⟩⟩⟩, hs.ext⟩

set_option maxRecDepth 100000 in
theorem dfa_wide_ok {l1 : (List Int)} {r : Str} (hM : M.dfa_wide l1 = some r) {g0 : Hp} {w0 : World} (hi : Imm g0 w0) {v1 : Value} (hRv1 : RdS (tInt .i64) g0 v1 l1) :
    CallsV Try.prog 57 #[v1] w0 (fun v w' => ∃ g', (VRd tStr false g' v r) ∧ Ext g0 w0 g' w') := by
  unfold M.dfa_wide at hM
  have hs := Sep.start hi
  refine calls_of_WP (args := [v1]) Try.func57 rfl Try.ntmps57 rfl ?_
  refine WP_seq ?_
  refine WP_region ?_
  refine O (r_assign (v := encS []) rfl) rfl ?_
  refine OW_nil ?_
  refine WP_seq ?_
  refine WP_region ?_
  refine O (r_assign (v := .slice none 0 0) rfl) rfl ?_
  refine OW_nil ?_
  obtain ⟨xv46, hx4, hKhx4⟩ := bindS hM
  refine WP_cut (fun E w => ∃ (v62 : Value) (xs63 : List Value), E 3 = v62 ∧ RowRel (tInt .u8) g0 xs63 xv46 ∧ Go.Lx.Sep g0 w0 g0 w [.row v62 5 (tInt .u8).sz xv46.length xs63]) ?_ ?_
  · have hM := hx4
    have hag0 := Hle.refl g0
    refine WP_seq ?_
    refine WP_region ?_
    refine O (r_move (v := v1) rfl) rfl ?_
    obtain ⟨a2, ca2, hva2⟩ := hRv1.shape
    refine O (r_lenSl (v := v1) Try.underlying22 rfl hva2) rfl ?_
    refine O (r_move (v := .int .i64 0) rfl) rfl ?_
    refine OW_nil ?_
    refine WP_block ?_
    have hs := hs.nilRow 5 (tInt .u8).sz
    refine WP_loop (fun (st9 : (List Int) × Int) E w => match st9 with | (xv62, xv63) => ∃ (v83 : Value) (xs86 : List Value), E 3 = v83 ∧ E 7 = v1 ∧ E 8 = .int .i64 (l1.length : Int) ∧ E 9 = .int .i64 xv63 ∧ RowRel (tInt .u8) g0 xs86 xv62 ∧ Go.Lx.Sep g0 w0 g0 w [.row v83 5 (tInt .u8).sz xv62.length xs86]) hM ⟨(.slice none 0 0), [], rfl, rfl, rfl, rfl, RowRel.nil, hs⟩ ?_
    clear hs hM
    rintro ⟨xv62, xv63⟩ o12 E w hM ⟨v83, xs86, hE3, hE7, hE8, hE9, hrelxs86, hs⟩
    obtain ⟨E, rfl⟩ := open1 (E := E) hE3
    obtain ⟨E, rfl⟩ := open1 (E := E) hE7
    obtain ⟨E, rfl⟩ := open1 (E := E) hE8
    obtain ⟨E, rfl⟩ := open1 (E := E) hE9
    refine WP_seq ?_
    refine WP_region ?_
    refine O (r_lss rfl rfl) rfl ?_
    refine OW_nil ?_
    refine WP_seq ?_
    rcases condS hM with ⟨hc36, hM⟩ | ⟨hc36, hM⟩
    · refine WP_true rfl hc36 ?_
      refine WP_skip ?_
      obtain ⟨xv85, hx7, hKhx7⟩ := bindS hM
      refine WP_cut (fun E w => ∃ (v113 : Value) (xs116 : List Value), E 3 = v113 ∧ E 7 = v1 ∧ E 8 = .int .i64 (l1.length : Int) ∧ E 9 = .int .i64 xv63 ∧ RowRel (tInt .u8) g0 xs116 xv85 ∧ Go.Lx.Sep g0 w0 g0 w [.row v113 5 (tInt .u8).sz xv85.length xs116]) ?_ ?_
      · have hM := hx7
        refine WP_block ?_
        refine WP_seq ?_
        refine WP_region ?_
        obtain ⟨e12, he12, hM⟩ := bindS hM
        obtain ⟨b41, ob41, cb41, hvb41, cs12, hcs12, hcb41⟩ := hRv1.at he12
        have hcs12 : cs12 = _ := hcs12; subst hcs12
        refine O (r_idxSl Try.underlying22 ti3 (v := v1) rfl hvb41 rfl (idxL_some he12).1 (idxL_some he12).2.1) rfl ?_
        refine O (r_loadEl (cs := [.int .i64 e12]) ti3 rfl rfl (.inr rfl) (hcb41 _ hs.imm) (v := .int .i64 e12) rfl) rfl ?_
        refine O (r_assign (v := .int .i64 e12) rfl) rfl ?_
        refine OW_nil ?_
        refine WP_seq ?_
        refine WP_region ?_
        refine O (r_move (v := .int .i64 0) rfl) rfl ?_
        refine OW_nil ?_
        refine WP_block ?_
        refine WP_loop (fun (st9 : (List Int) × Int) E w => match st9 with | (xv88, xv89) => ∃ (v117 : Value) (xs120 : List Value), E 3 = v117 ∧ E 5 = .int .i64 e12 ∧ E 7 = v1 ∧ E 8 = .int .i64 (l1.length : Int) ∧ E 9 = .int .i64 xv63 ∧ E 13 = .int .i64 xv89 ∧ RowRel (tInt .u8) g0 xs120 xv88 ∧ Go.Lx.Sep g0 w0 g0 w [.row v117 5 (tInt .u8).sz xv88.length xs120]) hM ⟨v83, xs86, rfl, rfl, rfl, rfl, rfl, rfl, hrelxs86, hs⟩ ?_
        clear hs hM
        rintro ⟨xv88, xv89⟩ o14 E w hM ⟨v117, xs120, hE3, hE5, hE7, hE8, hE9, hE13, hrelxs120, hs⟩
        obtain ⟨E, rfl⟩ := open1 (E := E) hE3
        obtain ⟨E, rfl⟩ := open1 (E := E) hE5
        obtain ⟨E, rfl⟩ := open1 (E := E) hE7
        obtain ⟨E, rfl⟩ := open1 (E := E) hE8
        obtain ⟨E, rfl⟩ := open1 (E := E) hE9
        obtain ⟨E, rfl⟩ := open1 (E := E) hE13
        refine WP_seq ?_
        refine WP_region ?_
        refine O (r_lss rfl rfl) rfl ?_
        refine OW_nil ?_
        refine WP_seq ?_
        rcases condS hM with ⟨hc42, hM⟩ | ⟨hc42, hM⟩
        · refine WP_true rfl hc42 ?_
          refine WP_skip ?_
          refine WP_seq ?_
          refine WP_block ?_
          refine WP_seq ?_
          refine WP_region ?_
          refine O (r_move (v := .int .i64 xv89) rfl) rfl ?_
          refine O (r_assign (v := .int .i64 xv89) rfl) rfl ?_
          refine OW_nil ?_
          refine WP_region ?_
          refine O (r_move (v := v117) rfl) rfl ?_
          refine O (r_move (v := .int .i64 e12) rfl) rfl ?_
          refine O (r_move (v := .int .i64 xv89) rfl) rfl ?_
          obtain ⟨t111, ht111, hM⟩ := bindS hM
          refine O (r_mulM rfl rfl ht111) rfl ?_
          obtain ⟨t112, ht112, hM⟩ := bindS hM
          refine O (r_shrM rfl rfl ht112) rfl ?_
          refine O (r_conv Try.underlying3 Try.underlying5 rfl) rfl ?_
          refine OW_lit (τ := (tInt .u8)) [.int .u8 (IntKind.u8.wrap t112)] [(IntKind.u8.wrap t112)] Try.underlying59 ti5 (by decide) hs rfl rfl rfl ⟨rfl, trivial⟩ rfl ?_
          intro v121 wv71 xs124 hrelxs124 hs
          obtain ⟨b44, hb44, hM⟩ := bindS hM
          refine OW_append Try.underlying59 ti5 rfl (by decide) (by decide) hs (i := 1) rfl hrelxs120 (v := v117) rfl (u := v121) rfl (hs.rowSrc (i := 0) rfl) hrelxs124 hb44 rfl ?_
          intro v122 wv72 xs125 hrelxs125 hs
          refine O (r_assign (v := v122) rfl) rfl ?_
          refine OW_nil ?_
          refine WP_region ?_
          obtain ⟨t113, ht113, hM⟩ := bindS hM
          refine O (r_addM rfl rfl ht113) rfl ?_
          refine O (r_move (v := .int .i64 t113) rfl) rfl ?_
          refine OW_nil ?_
          obtain rfl := Option.some.inj hM
          exact ⟨v122, xs125, rfl, rfl, rfl, rfl, rfl, rfl, hrelxs125, (hs.sub (.cons _ (.cons_cons _ .slnil)))⟩
        · refine WP_false rfl hc42 ?_
          refine WP_exit ?_
          obtain rfl := Option.some.inj hM
          refine fun hr => ?_
          have hM := congrArg some hr
          obtain rfl := Option.some.inj hM
          exact ⟨v117, xs120, rfl, rfl, rfl, rfl, hrelxs120, hs⟩
      · clear hs
        rintro E w ⟨v113, xs116, hE3, hE7, hE8, hE9, hrelxs116, hs⟩
        have hM := hKhx7
        obtain ⟨E, rfl⟩ := open1 (E := E) hE3
        obtain ⟨E, rfl⟩ := open1 (E := E) hE7
        obtain ⟨E, rfl⟩ := open1 (E := E) hE8
        obtain ⟨E, rfl⟩ := open1 (E := E) hE9
        refine WP_region ?_
        obtain ⟨t114, ht114, hM⟩ := bindS hM
        refine O (r_addM rfl rfl ht114) rfl ?_
        refine O (r_move (v := .int .i64 t114) rfl) rfl ?_
        refine OW_nil ?_
        obtain rfl := Option.some.inj hM
        exact ⟨v113, xs116, rfl, rfl, rfl, rfl, hrelxs116, hs⟩
    · refine WP_false rfl hc36 ?_
      refine WP_exit ?_
      obtain rfl := Option.some.inj hM
      refine fun hr => ?_
      have hM := congrArg some hr
      obtain rfl := Option.some.inj hM
      exact ⟨v83, xs86, rfl, hrelxs86, hs⟩
  · clear hs
    rintro E w ⟨v62, xs63, hE3, hrelxs63, hs⟩
    have hM := hKhx4
    obtain ⟨E, rfl⟩ := open1 (E := E) hE3
    refine WP_seq ?_
    refine WP_region ?_
    refine O (r_move (v := v62) rfl) rfl ?_
    refine O (r_toStr (l := xv46) Try.underlying59 Try.underlying5 Try.underlying9 (v := v62) rfl (hs.rowSrc (i := 0) rfl) hrelxs63) rfl ?_
    refine O (r_assign (v := encS (toStr xv46)) rfl) rfl ?_
    refine OW_nil ?_
    refine WP_ret ?_
    obtain rfl := Option.some.inj hM
    exact ⟨_, res1 Try.results57 (rv_tmp (v := encS (toStr xv46)) rfl), g0, ⟨[encS (toStr xv46)], rfl, rfl⟩, hs.ext⟩


end Go.Proofs.Ytogpainomdfpnaa
