/- The walks: what each function does is what its model says. Printed by a program of my own. -/
import Derived.Test.YtogpainomdfpnaaWalk5
set_option linter.unusedVariables false
namespace Go.Proofs.Ytogpainomdfpnaa
open Go.Lx Go.RowKit
set_option maxRecDepth 100000 in
theorem law10_DfaRun_ok {d1 : T_DFA} {s1 : Str} {r : Bool} (hM : M.law10_DfaRun d1 s1 = some r) {g0 : Hp} {w0 : World} (hi : Imm g0 w0) {cs1 : List Value} (hcs1 : tT_DFA.rel g0 cs1 d1) :
    CallsV Try.prog 3 #[.agg cs1.toArray, encS s1] w0 (fun v w' => ∃ g', (VRd tBool false g' v r) ∧ Ext g0 w0 g' w') := by
  unfold M.law10_DfaRun at hM
  obtain ⟨cs2, cs3, cs4, rfl, hcs2, hcs3, hcs4⟩ := hcs1
  obtain ⟨v1, rfl, hRv1⟩ := hcs2
  obtain ⟨v2, rfl, hRv2⟩ := hcs3
  obtain ⟨v3, rfl, hRv3⟩ := hcs4
  have hs := Sep.start hi
  refine calls_of_WP (args := [.agg (List.toArray (α := Value) [v1, v2, v3]), encS s1]) Try.func3 rfl Try.ntmps3 rfl ?_
  refine WP_seq ?_
  refine WP_region ?_
  refine OW_box (v := .agg (List.toArray (α := Value) [v1, v2, v3])) rfl hs (zs := [v1, v2, v3]) rfl rfl ?_
  intro b1 wv1 hs
  refine O (r_assign (v := .bool false) rfl) rfl ?_
  refine OW_nil ?_
  refine WP_seq ?_
  obtain ⟨xv1, hx1, hKhx1⟩ := bindS hM
  refine WP_cut (fun E w => E 1 = encS s1 ∧ E 2 = .pointer (some ⟨b1, 0, none⟩) ∧ E 26 = .bool xv1 ∧ Go.Lx.Sep g0 w0 g0 w [Go.Lx.box b1 25 ([v1, v2, v3])]) ?_ ?_
  · have hM := hx1
    have hag0 := Hle.refl g0
    refine WP_region ?_
    refine O (r_fieldAddr Try.underlying25 ti23 rfl rfl (by decide) rfl rfl) rfl ?_
    refine O (r_load (v := v2) ti23 rfl (hs.cell (i := 0) (o := 1) rfl rfl)) rfl ?_
    obtain ⟨a4, ca4, hva4⟩ := hRv2.shape
    refine O (r_lenSl (v := v2) Try.underlying23 rfl hva4) rfl ?_
    refine O (r_gtr rfl rfl) rfl ?_
    refine O (r_move (v := .bool (decide (40 < (d1.Next.length : Int)))) rfl) rfl ?_
    rcases condS hM with ⟨hg4, hM⟩ | ⟨hg4, hM⟩
    · refine OK rfl rfl rfl (by rw [hg4]; rfl) rfl ?_
      refine OK rfl rfl rfl (by rw [hg4]; rfl) rfl ?_
      refine OK rfl rfl rfl (by rw [hg4]; rfl) rfl ?_
      refine OK rfl rfl rfl (by rw [hg4]; rfl) rfl ?_
      refine O (r_pickT (v := .bool true) rfl hg4 rfl) rfl ?_
      refine O (r_move (v := .bool true) rfl) rfl ?_
      refine OK rfl rfl rfl rfl rfl ?_
      refine OK rfl rfl rfl rfl rfl ?_
      refine OK rfl rfl rfl rfl rfl ?_
      refine OK rfl rfl rfl rfl rfl ?_
      refine O (r_pickT (v := .bool true) rfl rfl rfl) rfl ?_
      refine O (r_move (v := .bool true) rfl) rfl ?_
      refine OK rfl rfl rfl rfl rfl ?_
      refine OK rfl rfl rfl rfl rfl ?_
      refine OK rfl rfl rfl rfl rfl ?_
      refine O (r_pickT (v := .bool true) rfl rfl rfl) rfl ?_
      refine OW_nil ?_
      obtain rfl := Option.some.inj hM
      exact ⟨rfl, rfl, rfl, hs⟩
    · refine OG rfl rfl rfl (by rw [hg4]; rfl) (r_fieldAddr Try.underlying25 ti22 rfl rfl (by decide) rfl rfl) rfl ?_
      refine OG rfl rfl rfl (by rw [hg4]; rfl) (r_load (v := v1) ti22 rfl (hs.cell (i := 0) (o := 0) rfl rfl)) rfl ?_
      obtain ⟨a5, ca5, hva5⟩ := hRv1.shape
      refine OG rfl rfl rfl (by rw [hg4]; rfl) (r_lenSl (v := v1) Try.underlying22 rfl hva5) rfl ?_
      refine OG rfl rfl rfl (by rw [hg4]; rfl) (r_gtr rfl rfl) rfl ?_
      refine O (r_pickF (v := .bool (decide (300 < (d1.Class.length : Int)))) rfl hg4 rfl) rfl ?_
      refine O (r_move (v := .bool (decide (300 < (d1.Class.length : Int)))) rfl) rfl ?_
      rcases condS hM with ⟨hg5, hM⟩ | ⟨hg5, hM⟩
      · refine OK rfl rfl rfl (by rw [hg5]; rfl) rfl ?_
        refine OK rfl rfl rfl (by rw [hg5]; rfl) rfl ?_
        refine OK rfl rfl rfl (by rw [hg5]; rfl) rfl ?_
        refine OK rfl rfl rfl (by rw [hg5]; rfl) rfl ?_
        refine O (r_pickT (v := .bool true) rfl hg5 rfl) rfl ?_
        refine O (r_move (v := .bool true) rfl) rfl ?_
        refine OK rfl rfl rfl rfl rfl ?_
        refine OK rfl rfl rfl rfl rfl ?_
        refine OK rfl rfl rfl rfl rfl ?_
        refine O (r_pickT (v := .bool true) rfl rfl rfl) rfl ?_
        refine OW_nil ?_
        obtain rfl := Option.some.inj hM
        exact ⟨rfl, rfl, rfl, hs⟩
      · refine OG rfl rfl rfl (by rw [hg5]; rfl) (r_fieldAddr Try.underlying25 ti22 rfl rfl (by decide) rfl rfl) rfl ?_
        refine OG rfl rfl rfl (by rw [hg5]; rfl) (r_load (v := v3) ti22 rfl (hs.cell (i := 0) (o := 2) rfl rfl)) rfl ?_
        obtain ⟨a6, ca6, hva6⟩ := hRv3.shape
        refine OG rfl rfl rfl (by rw [hg5]; rfl) (r_lenSl (v := v3) Try.underlying22 rfl hva6) rfl ?_
        refine OG rfl rfl rfl (by rw [hg5]; rfl) (r_gtr rfl rfl) rfl ?_
        refine O (r_pickF (v := .bool (decide (50 < (d1.Accept.length : Int)))) rfl hg5 rfl) rfl ?_
        refine O (r_move (v := .bool (decide (50 < (d1.Accept.length : Int)))) rfl) rfl ?_
        rcases condS hM with ⟨hg6, hM⟩ | ⟨hg6, hM⟩
        · refine OK rfl rfl rfl (by rw [hg6]; rfl) rfl ?_
          refine OK rfl rfl rfl (by rw [hg6]; rfl) rfl ?_
          refine OK rfl rfl rfl (by rw [hg6]; rfl) rfl ?_
          refine O (r_pickT (v := .bool true) rfl hg6 rfl) rfl ?_
          refine OW_nil ?_
          obtain rfl := Option.some.inj hM
          exact ⟨rfl, rfl, rfl, hs⟩
        · refine OG rfl rfl rfl (by rw [hg6]; rfl) (r_move (v := encS s1) rfl) rfl ?_
          refine OG rfl rfl rfl (by rw [hg6]; rfl) (r_lenStr Try.underlying9 rfl) rfl ?_
          refine OG rfl rfl rfl (by rw [hg6]; rfl) (r_gtr rfl rfl) rfl ?_
          refine O (r_pickF (v := .bool (decide (100 < (s1.length : Int)))) rfl hg6 rfl) rfl ?_
          refine OW_nil ?_
          obtain rfl := Option.some.inj hM
          exact ⟨rfl, rfl, rfl, hs⟩
  · clear hs
    rintro E w ⟨hE1, hE2, hE26, hs⟩
    have hM := hKhx1
    obtain ⟨E, rfl⟩ := open1 (E := E) hE1
    obtain ⟨E, rfl⟩ := open1 (E := E) hE2
    obtain ⟨E, rfl⟩ := open1 (E := E) hE26
    rcases condS hM with ⟨hc1, hM⟩ | ⟨hc1, hM⟩
    · refine WP_true rfl hc1 ?_
      refine WP_seq ?_
      refine WP_region ?_
      obtain ⟨rv1, hrv1, hM⟩ := bindS hM
      refine C [] cf9 rfl (law10_awake_ok hrv1 hs.imm) rfl ?_
      rintro v4 wv2 ⟨gg1, hvv4, hegg1⟩
      have hlegg1 := hegg1.le hs.imm
      replace hs := hs.call hegg1
      replace hRv1 := hRv1.mono hlegg1
      replace hRv2 := hRv2.mono hlegg1
      replace hRv3 := hRv3.mono hlegg1
      obtain ⟨cs5, rfl, hcs5⟩ := hvv4
      have hcs5 : cs5 = _ := hcs5; subst hcs5
      refine O (r_assign (v := .bool rv1) rfl) rfl ?_
      refine OW_nil ?_
      refine WP_ret ?_
      obtain rfl := Option.some.inj hM
      exact ⟨_, res1 Try.results3 (rv_tmp (v := .bool rv1) rfl), gg1, ⟨[.bool rv1], rfl, rfl⟩, hs.ext⟩
    · refine WP_false rfl hc1 ?_
      refine WP_skip ?_
      refine WP_seq ?_
      refine WP_region ?_
      refine O (r_loadN (cs := [v1, v2, v3]) ti25 rfl rfl (hs.cells (i := 0) rfl)) rfl ?_
      obtain ⟨ok1, hok1, hM⟩ := bindS hM
      refine C [.agg (List.toArray (α := Value) [v1, v2, v3])] cf10 rfl (ref10_Valid_ok hok1 hs.imm (⟨[v1], [v2], [v3], rfl, ⟨_, rfl, hRv1⟩, ⟨_, rfl, hRv2⟩, ⟨_, rfl, hRv3⟩⟩)) rfl ?_
      rintro v5 wv3 ⟨gg2, hvv5, hegg2⟩
      have hlegg2 := hegg2.le hs.imm
      replace hs := hs.call hegg2
      replace hRv1 := hRv1.mono hlegg2
      replace hRv2 := hRv2.mono hlegg2
      replace hRv3 := hRv3.mono hlegg2
      obtain ⟨cs6, rfl, hcs6⟩ := hvv5
      have hcs6 : cs6 = _ := hcs6; subst hcs6
      refine O (r_assign (v := .bool ok1) rfl) rfl ?_
      refine OW_nil ?_
      obtain ⟨xv2, hx2, hKhx2⟩ := bindS hM
      refine WP_cut (fun E w => ∃ (gg7 : Hp), E 4 = .bool xv2 ∧ Hle gg2 gg7 ∧ Go.Lx.Sep g0 w0 gg7 w []) ?_ ?_
      · have hM := hx2
        have hagg2 := Hle.refl gg2
        refine WP_any (.s 0 (.q 1 (.q 2 (.q 4 (.s 3 (.q 5 (.q 6 (.q 7 (.q 8 (.q 9 (.q 10 (.q 11 (.q 12 (.q 14 (.q 15 (.s 13 (.s 16 (.q 17 (.q 18 (.q 19 (.q 20 (.leaf)))))))))))))))))))))) (SS g0 w0 gg2 [Go.Lx.box b1 25 ([v1, v2, v3])]) mo (by decide +kernel) (fun _ _ _ h => h) ?_
        have hs := hs.drew
        have hRv1b := hRv1
        have hRv2b := hRv2
        have hRv3b := hRv3
        have hS : SS g0 w0 gg2 [Go.Lx.box b1 25 ([v1, v2, v3])] _ := ⟨gg2, Hle.refl _, hs⟩
        refine A1 rfl ?_
        obtain ⟨rv6, hrv6, hM⟩ := bindS hM
        refine C [] cf9 rfl (law10_awake_ok hrv6 hs.imm) rfl ?_
        rintro v10 wv8 ⟨gg8, hvv10, hegg8⟩
        have hlegg8 := hegg8.le hs.imm
        replace hs := hs.call hegg8
        replace hRv1 := hRv1.mono hlegg8
        replace hRv2 := hRv2.mono hlegg8
        replace hRv3 := hRv3.mono hlegg8
        replace hagg2 := hagg2.trans hlegg8
        obtain ⟨cs11, rfl, hcs11⟩ := hvv10
        have hcs11 : cs11 = _ := hcs11; subst hcs11
        refine OW_nil ?_
        have hS : SS g0 w0 gg2 [Go.Lx.box b1 25 ([v1, v2, v3])] _ := ⟨gg8, hagg2, hs⟩
        refine ⟨fun _ => hS, ?_⟩
        refine A rfl hS (fun w9 h9 => by obtain ⟨g9, hle9, hs⟩ := h9; exact r_move (v := .bool rv6) rfl) rfl ?_
        rcases condS hM with ⟨hg10, hM⟩ | ⟨hg10, hM⟩
        · refine AG rfl rfl rfl rfl (by rw [hg10]; rfl) hS (fun w9 h9 => by obtain ⟨g9, hle9, hs⟩ := h9; exact r_loadN (cs := [v1, v2, v3]) ti25 rfl rfl (hs.cells (i := 0) rfl)) rfl ?_
          refine AG rfl rfl rfl rfl (by rw [hg10]; rfl) hS (fun w9 h9 => by obtain ⟨g9, hle9, hs⟩ := h9; exact r_move (v := .bool ok1) rfl) rfl ?_
          refine A1 rfl ?_
          obtain ⟨rv7, hrv7, hM⟩ := bindS hM
          refine CG rfl rfl rfl (by rw [hg10]; rfl) [.agg (List.toArray (α := Value) [v1, v2, v3])] cf11 rfl (dfa_Valid_ok hrv7 hs.imm (⟨[v1], [v2], [v3], rfl, ⟨_, rfl, hRv1⟩, ⟨_, rfl, hRv2⟩, ⟨_, rfl, hRv3⟩⟩)) rfl ?_
          rintro v11 wv9 ⟨gg9, hvv11, hegg9⟩
          have hlegg9 := hegg9.le hs.imm
          replace hs := hs.call hegg9
          replace hRv1 := hRv1.mono hlegg9
          replace hRv2 := hRv2.mono hlegg9
          replace hRv3 := hRv3.mono hlegg9
          replace hagg2 := hagg2.trans hlegg9
          obtain ⟨cs12, rfl, hcs12⟩ := hvv11
          have hcs12 : cs12 = _ := hcs12; subst hcs12
          refine OW_nil ?_
          have hS : SS g0 w0 gg2 [Go.Lx.box b1 25 ([v1, v2, v3])] _ := ⟨gg9, hagg2, hs⟩
          refine ⟨fun _ => hS, ?_⟩
          refine AG rfl rfl rfl rfl (by rw [hg10]; rfl) hS (fun w9 h9 => by obtain ⟨g9, hle9, hs⟩ := h9; exact r_eqlB Try.underlying4 rfl rfl) rfl ?_
          refine A rfl hS (fun w9 h9 => by obtain ⟨g9, hle9, hs⟩ := h9; exact r_pickT (v := .bool (rv7 == ok1)) rfl hg10 rfl) rfl ?_
          refine A rfl hS (fun w9 h9 => by obtain ⟨g9, hle9, hs⟩ := h9; exact r_move (v := .bool (rv7 == ok1)) rfl) rfl ?_
          rcases condS hM with ⟨hg11, hM⟩ | ⟨hg11, hM⟩
          · refine AG rfl rfl rfl rfl (by rw [hg11]; rfl) hS (fun w9 h9 => by obtain ⟨g9, hle9, hs⟩ := h9; exact r_move (v := .bool ok1) rfl) rfl ?_
            refine AG rfl rfl rfl rfl (by rw [hg11]; rfl) hS (fun w9 h9 => by obtain ⟨g9, hle9, hs⟩ := h9; exact r_not rfl) rfl ?_
            refine AG rfl rfl rfl rfl (by rw [hg11]; rfl) hS (fun w9 h9 => by obtain ⟨g9, hle9, hs⟩ := h9; exact r_move (v := .bool (!ok1)) rfl) rfl ?_
            rcases condS hM with ⟨hg12, hM⟩ | ⟨hg12, hM⟩
            · refine AK rfl rfl rfl rfl (by rw [hg12]; rfl) hS rfl ?_
              refine AK rfl rfl rfl rfl (by rw [hg12]; rfl) hS rfl ?_
              refine AK rfl rfl rfl rfl (by rw [hg12]; rfl) hS rfl ?_
              refine AK rfl rfl rfl rfl (by rw [hg12]; rfl) hS rfl ?_
              refine A1 rfl ?_
              refine OK rfl rfl rfl (by rw [hg12]; rfl) rfl ?_
              refine OW_nil ⟨fun _ => hS, ?_⟩
              refine A1 rfl ?_
              refine OK rfl rfl rfl (by rw [hg12]; rfl) rfl ?_
              refine OW_nil ⟨fun _ => hS, ?_⟩
              refine AK rfl rfl rfl rfl (by rw [hg12]; rfl) hS rfl ?_
              refine AG rfl rfl rfl rfl (by rw [hg11]; rfl) hS (fun w9 h9 => by obtain ⟨g9, hle9, hs⟩ := h9; exact r_pickT (v := .bool true) rfl hg12 rfl) rfl ?_
              refine A rfl hS (fun w9 h9 => by obtain ⟨g9, hle9, hs⟩ := h9; exact r_pickT (v := .bool true) rfl hg11 rfl) rfl ?_
              refine A rfl hS (fun w9 h9 => by obtain ⟨g9, hle9, hs⟩ := h9; exact r_assign (v := .bool true) rfl) rfl ?_
              refine AN ?_
              obtain rfl := Option.some.inj hM
              exact ⟨gg9, rfl, hagg2, (hs.sub (.cons _ .slnil))⟩
            · refine AG rfl rfl rfl rfl (by rw [hg12]; rfl) hS (fun w9 h9 => by obtain ⟨g9, hle9, hs⟩ := h9; exact r_loadN (cs := [v1, v2, v3]) ti25 rfl rfl (hs.cells (i := 0) rfl)) rfl ?_
              refine AG rfl rfl rfl rfl (by rw [hg12]; rfl) hS (fun w9 h9 => by obtain ⟨g9, hle9, hs⟩ := h9; exact r_move (v := encS s1) rfl) rfl ?_
              refine AG rfl rfl rfl rfl (by rw [hg12]; rfl) hS (fun w9 h9 => by obtain ⟨g9, hle9, hs⟩ := h9; exact r_loadN (cs := [v1, v2, v3]) ti25 rfl rfl (hs.cells (i := 0) rfl)) rfl ?_
              refine AG rfl rfl rfl rfl (by rw [hg12]; rfl) hS (fun w9 h9 => by obtain ⟨g9, hle9, hs⟩ := h9; exact r_move (v := encS s1) rfl) rfl ?_
              refine A1 rfl ?_
              obtain ⟨rv8, hrv8, hM⟩ := bindS hM
              refine CG rfl rfl rfl (by rw [hg12]; rfl) [.agg (List.toArray (α := Value) [v1, v2, v3]), encS s1] cf12 rfl (dfa_Run_ok hrv8 hs.imm (⟨[v1], [v2], [v3], rfl, ⟨_, rfl, hRv1⟩, ⟨_, rfl, hRv2⟩, ⟨_, rfl, hRv3⟩⟩)) rfl ?_
              rintro v12 wv10 ⟨gg10, hvv12, hegg10⟩
              have hlegg10 := hegg10.le hs.imm
              replace hs := hs.call hegg10
              replace hRv1 := hRv1.mono hlegg10
              replace hRv2 := hRv2.mono hlegg10
              replace hRv3 := hRv3.mono hlegg10
              replace hagg2 := hagg2.trans hlegg10
              obtain ⟨cs13, rfl, hcs13⟩ := hvv12
              have hcs13 : cs13 = _ := hcs13; subst hcs13
              refine OW_nil ?_
              have hS : SS g0 w0 gg2 [Go.Lx.box b1 25 ([v1, v2, v3])] _ := ⟨gg10, hagg2, hs⟩
              refine ⟨fun _ => hS, ?_⟩
              refine A1 rfl ?_
              obtain ⟨rv9, hrv9, hM⟩ := bindS hM
              refine CG rfl rfl rfl (by rw [hg12]; rfl) [.agg (List.toArray (α := Value) [v1, v2, v3]), encS s1] cf13 rfl (ref10_Run_ok hrv9 hs.imm (⟨[v1], [v2], [v3], rfl, ⟨_, rfl, hRv1⟩, ⟨_, rfl, hRv2⟩, ⟨_, rfl, hRv3⟩⟩)) rfl ?_
              rintro v13 wv11 ⟨gg11, hvv13, hegg11⟩
              have hlegg11 := hegg11.le hs.imm
              replace hs := hs.call hegg11
              replace hRv1 := hRv1.mono hlegg11
              replace hRv2 := hRv2.mono hlegg11
              replace hRv3 := hRv3.mono hlegg11
              replace hagg2 := hagg2.trans hlegg11
              obtain ⟨cs14, rfl, hcs14⟩ := hvv13
              have hcs14 : cs14 = _ := hcs14; subst hcs14
              refine OW_nil ?_
              have hS : SS g0 w0 gg2 [Go.Lx.box b1 25 ([v1, v2, v3])] _ := ⟨gg11, hagg2, hs⟩
              refine ⟨fun _ => hS, ?_⟩
              refine AG rfl rfl rfl rfl (by rw [hg12]; rfl) hS (fun w9 h9 => by obtain ⟨g9, hle9, hs⟩ := h9; exact r_eql rfl rfl) rfl ?_
              refine AG rfl rfl rfl rfl (by rw [hg11]; rfl) hS (fun w9 h9 => by obtain ⟨g9, hle9, hs⟩ := h9; exact r_pickF (v := .bool (rv8 == rv9)) rfl hg12 rfl) rfl ?_
              refine A rfl hS (fun w9 h9 => by obtain ⟨g9, hle9, hs⟩ := h9; exact r_pickT (v := .bool (rv8 == rv9)) rfl hg11 rfl) rfl ?_
              refine A rfl hS (fun w9 h9 => by obtain ⟨g9, hle9, hs⟩ := h9; exact r_assign (v := .bool (rv8 == rv9)) rfl) rfl ?_
              refine AN ?_
              obtain rfl := Option.some.inj hM
              exact ⟨gg11, rfl, hagg2, (hs.sub (.cons _ .slnil))⟩
          · refine AK rfl rfl rfl rfl (by rw [hg11]; rfl) hS rfl ?_
            refine AK rfl rfl rfl rfl (by rw [hg11]; rfl) hS rfl ?_
            refine AK rfl rfl rfl rfl (by rw [hg11]; rfl) hS rfl ?_
            refine AKU rfl rfl rfl rfl hS rfl ?_
            refine AKU rfl rfl rfl rfl hS rfl ?_
            refine AKU rfl rfl rfl rfl hS rfl ?_
            refine AKU rfl rfl rfl rfl hS rfl ?_
            refine A1 rfl ?_
            refine OKU rfl rfl rfl rfl ?_
            refine OW_nil ⟨fun _ => hS, ?_⟩
            refine A1 rfl ?_
            refine OKU rfl rfl rfl rfl ?_
            refine OW_nil ⟨fun _ => hS, ?_⟩
            refine AKU rfl rfl rfl rfl hS rfl ?_
            refine AK rfl rfl rfl rfl (by rw [hg11]; rfl) hS rfl ?_
            refine A rfl hS (fun w9 h9 => by obtain ⟨g9, hle9, hs⟩ := h9; exact r_pickF (v := .bool false) rfl hg11 rfl) rfl ?_
            refine A rfl hS (fun w9 h9 => by obtain ⟨g9, hle9, hs⟩ := h9; exact r_assign (v := .bool false) rfl) rfl ?_
            refine AN ?_
            obtain rfl := Option.some.inj hM
            exact ⟨gg9, rfl, hagg2, (hs.sub (.cons _ .slnil))⟩
        · refine AK rfl rfl rfl rfl (by rw [hg10]; rfl) hS rfl ?_
          refine AK rfl rfl rfl rfl (by rw [hg10]; rfl) hS rfl ?_
          refine A1 rfl ?_
          refine OK rfl rfl rfl (by rw [hg10]; rfl) rfl ?_
          refine OW_nil ⟨fun _ => hS, ?_⟩
          refine AK rfl rfl rfl rfl (by rw [hg10]; rfl) hS rfl ?_
          refine A rfl hS (fun w9 h9 => by obtain ⟨g9, hle9, hs⟩ := h9; exact r_pickF (v := .bool false) rfl hg10 rfl) rfl ?_
          refine A rfl hS (fun w9 h9 => by obtain ⟨g9, hle9, hs⟩ := h9; exact r_move (v := .bool false) rfl) rfl ?_
          refine AK rfl rfl rfl rfl rfl hS rfl ?_
          refine AK rfl rfl rfl rfl rfl hS rfl ?_
          refine AK rfl rfl rfl rfl rfl hS rfl ?_
          refine AKU rfl rfl rfl rfl hS rfl ?_
          refine AKU rfl rfl rfl rfl hS rfl ?_
          refine AKU rfl rfl rfl rfl hS rfl ?_
          refine AKU rfl rfl rfl rfl hS rfl ?_
          refine A1 rfl ?_
          refine OKU rfl rfl rfl rfl ?_
          refine OW_nil ⟨fun _ => hS, ?_⟩
          refine A1 rfl ?_
          refine OKU rfl rfl rfl rfl ?_
          refine OW_nil ⟨fun _ => hS, ?_⟩
          refine AKU rfl rfl rfl rfl hS rfl ?_
          refine AK rfl rfl rfl rfl rfl hS rfl ?_
          refine A rfl hS (fun w9 h9 => by obtain ⟨g9, hle9, hs⟩ := h9; exact r_pickF (v := .bool false) rfl rfl rfl) rfl ?_
          refine A rfl hS (fun w9 h9 => by obtain ⟨g9, hle9, hs⟩ := h9; exact r_assign (v := .bool false) rfl) rfl ?_
          refine AN ?_
          obtain rfl := Option.some.inj hM
          exact ⟨gg8, rfl, hagg2, (hs.sub (.cons _ .slnil))⟩
      · clear hs
        rintro E w ⟨gg7, hE4, hlegg7, hs⟩
        have hM := hKhx2
        obtain ⟨E, rfl⟩ := open1 (E := E) hE4
        refine WP_ret ?_
        obtain rfl := Option.some.inj hM
        exact ⟨_, res1 Try.results3 (rv_tmp (v := .bool xv2) rfl), gg7, ⟨[.bool xv2], rfl, rfl⟩, hs.ext⟩

set_option maxRecDepth 100000 in
theorem law10_DfaMinimizeKeeps_ok {d1 : T_DFA} {s1 : Str} {r : Bool} (hM : M.law10_DfaMinimizeKeeps d1 s1 = some r) {g0 : Hp} {w0 : World} (hi : Imm g0 w0) {cs1 : List Value} (hcs1 : tT_DFA.rel g0 cs1 d1) :
    CallsV Try.prog 4 #[.agg cs1.toArray, encS s1] w0 (fun v w' => ∃ g', (VRd tBool false g' v r) ∧ Ext g0 w0 g' w') := by
  unfold M.law10_DfaMinimizeKeeps at hM
  obtain ⟨cs2, cs3, cs4, rfl, hcs2, hcs3, hcs4⟩ := hcs1
  obtain ⟨v1, rfl, hRv1⟩ := hcs2
  obtain ⟨v2, rfl, hRv2⟩ := hcs3
  obtain ⟨v3, rfl, hRv3⟩ := hcs4
  have hs := Sep.start hi
  refine calls_of_WP (args := [.agg (List.toArray (α := Value) [v1, v2, v3]), encS s1]) Try.func4 rfl Try.ntmps4 rfl ?_
  refine WP_seq ?_
  refine WP_region ?_
  refine OW_box (v := .agg (List.toArray (α := Value) [v1, v2, v3])) rfl hs (zs := [v1, v2, v3]) rfl rfl ?_
  intro b1 wv1 hs
  refine O (r_assign (v := .bool false) rfl) rfl ?_
  refine OW_nil ?_
  refine WP_seq ?_
  obtain ⟨xv1, hx1, hKhx1⟩ := bindS hM
  refine WP_cut (fun E w => ∃ (gg3 : Hp), E 1 = encS s1 ∧ E 2 = .pointer (some ⟨b1, 0, none⟩) ∧ E 18 = .bool xv1 ∧ Hle g0 gg3 ∧ Go.Lx.Sep g0 w0 gg3 w [Go.Lx.box b1 25 ([v1, v2, v3])]) ?_ ?_
  · have hM := hx1
    have hag0 := Hle.refl g0
    refine WP_region ?_
    refine O (r_loadN (cs := [v1, v2, v3]) ti25 rfl rfl (hs.cells (i := 0) rfl)) rfl ?_
    obtain ⟨rv3, hrv3, hM⟩ := bindS hM
    refine C [.agg (List.toArray (α := Value) [v1, v2, v3])] cf11 rfl (dfa_Valid_ok hrv3 hs.imm (⟨[v1], [v2], [v3], rfl, ⟨_, rfl, hRv1⟩, ⟨_, rfl, hRv2⟩, ⟨_, rfl, hRv3⟩⟩)) rfl ?_
    rintro v6 wv4 ⟨gg4, hvv6, hegg4⟩
    have hlegg4 := hegg4.le hs.imm
    replace hs := hs.call hegg4
    replace hRv1 := hRv1.mono hlegg4
    replace hRv2 := hRv2.mono hlegg4
    replace hRv3 := hRv3.mono hlegg4
    replace hag0 := hag0.trans hlegg4
    obtain ⟨cs7, rfl, hcs7⟩ := hvv6
    have hcs7 : cs7 = _ := hcs7; subst hcs7
    refine O (r_not rfl) rfl ?_
    refine O (r_move (v := .bool (!rv3)) rfl) rfl ?_
    rcases condS hM with ⟨hg3, hM⟩ | ⟨hg3, hM⟩
    · refine OK rfl rfl rfl (by rw [hg3]; rfl) rfl ?_
      refine OK rfl rfl rfl (by rw [hg3]; rfl) rfl ?_
      refine OK rfl rfl rfl (by rw [hg3]; rfl) rfl ?_
      refine O (r_pickT (v := .bool true) rfl hg3 rfl) rfl ?_
      refine O (r_move (v := .bool true) rfl) rfl ?_
      refine OK rfl rfl rfl rfl rfl ?_
      refine OK rfl rfl rfl rfl rfl ?_
      refine OK rfl rfl rfl rfl rfl ?_
      refine O (r_pickT (v := .bool true) rfl rfl rfl) rfl ?_
      refine OW_nil ?_
      obtain rfl := Option.some.inj hM
      exact ⟨gg4, rfl, rfl, rfl, hag0, hs⟩
    · refine OG rfl rfl rfl (by rw [hg3]; rfl) (r_loadN (cs := [v1, v2, v3]) ti25 rfl rfl (hs.cells (i := 0) rfl)) rfl ?_
      obtain ⟨rv4, hrv4, hM⟩ := bindS hM
      refine CG rfl rfl rfl (by rw [hg3]; rfl) [.agg (List.toArray (α := Value) [v1, v2, v3]), .int .i64 12, .int .i64 8] cf14 rfl (ref10_Small_ok hrv4 hs.imm (⟨[v1], [v2], [v3], rfl, ⟨_, rfl, hRv1⟩, ⟨_, rfl, hRv2⟩, ⟨_, rfl, hRv3⟩⟩)) rfl ?_
      rintro v7 wv5 ⟨gg5, hvv7, hegg5⟩
      have hlegg5 := hegg5.le hs.imm
      replace hs := hs.call hegg5
      replace hRv1 := hRv1.mono hlegg5
      replace hRv2 := hRv2.mono hlegg5
      replace hRv3 := hRv3.mono hlegg5
      replace hag0 := hag0.trans hlegg5
      obtain ⟨cs8, rfl, hcs8⟩ := hvv7
      have hcs8 : cs8 = _ := hcs8; subst hcs8
      refine OG rfl rfl rfl (by rw [hg3]; rfl) (r_not rfl) rfl ?_
      refine O (r_pickF (v := .bool (!rv4)) rfl hg3 rfl) rfl ?_
      refine O (r_move (v := .bool (!rv4)) rfl) rfl ?_
      rcases condS hM with ⟨hg4, hM⟩ | ⟨hg4, hM⟩
      · refine OK rfl rfl rfl (by rw [hg4]; rfl) rfl ?_
        refine OK rfl rfl rfl (by rw [hg4]; rfl) rfl ?_
        refine OK rfl rfl rfl (by rw [hg4]; rfl) rfl ?_
        refine O (r_pickT (v := .bool true) rfl hg4 rfl) rfl ?_
        refine OW_nil ?_
        obtain rfl := Option.some.inj hM
        exact ⟨gg5, rfl, rfl, rfl, hag0, hs⟩
      · refine OG rfl rfl rfl (by rw [hg4]; rfl) (r_move (v := encS s1) rfl) rfl ?_
        refine OG rfl rfl rfl (by rw [hg4]; rfl) (r_lenStr Try.underlying9 rfl) rfl ?_
        refine OG rfl rfl rfl (by rw [hg4]; rfl) (r_gtr rfl rfl) rfl ?_
        refine O (r_pickF (v := .bool (decide (50 < (s1.length : Int)))) rfl hg4 rfl) rfl ?_
        refine OW_nil ?_
        obtain rfl := Option.some.inj hM
        exact ⟨gg5, rfl, rfl, rfl, hag0, hs⟩
  · clear hs
    rintro E w ⟨gg3, hE1, hE2, hE18, hlegg3, hs⟩
    have hM := hKhx1
    obtain ⟨E, rfl⟩ := open1 (E := E) hE1
    obtain ⟨E, rfl⟩ := open1 (E := E) hE2
    obtain ⟨E, rfl⟩ := open1 (E := E) hE18
    replace hRv1 := hRv1.mono hlegg3
    replace hRv2 := hRv2.mono hlegg3
    replace hRv3 := hRv3.mono hlegg3
    rcases condS hM with ⟨hc1, hM⟩ | ⟨hc1, hM⟩
    · refine WP_true rfl hc1 ?_
      refine WP_seq ?_
      refine WP_region ?_
      obtain ⟨rv5, hrv5, hM⟩ := bindS hM
      refine C [] cf9 rfl (law10_awake_ok hrv5 hs.imm) rfl ?_
      rintro v8 wv6 ⟨gg6, hvv8, hegg6⟩
      have hlegg6 := hegg6.le hs.imm
      replace hs := hs.call hegg6
      replace hRv1 := hRv1.mono hlegg6
      replace hRv2 := hRv2.mono hlegg6
      replace hRv3 := hRv3.mono hlegg6
      obtain ⟨cs9, rfl, hcs9⟩ := hvv8
      have hcs9 : cs9 = _ := hcs9; subst hcs9
      refine O (r_assign (v := .bool rv5) rfl) rfl ?_
      refine OW_nil ?_
      refine WP_ret ?_
      obtain rfl := Option.some.inj hM
      exact ⟨_, res1 Try.results4 (rv_tmp (v := .bool rv5) rfl), gg6, ⟨[.bool rv5], rfl, rfl⟩, hs.ext⟩
    · refine WP_false rfl hc1 ?_
      refine WP_skip ?_
      refine WP_seq ?_
      refine WP_region ?_
      refine O (r_loadN (cs := [v1, v2, v3]) ti25 rfl rfl (hs.cells (i := 0) rfl)) rfl ?_
      obtain ⟨rv6, hrv6, hM⟩ := bindS hM
      refine C [.agg (List.toArray (α := Value) [v1, v2, v3])] cf15 rfl (dfa_Minimize_ok hrv6 hs.imm (⟨[v1], [v2], [v3], rfl, ⟨_, rfl, hRv1⟩, ⟨_, rfl, hRv2⟩, ⟨_, rfl, hRv3⟩⟩)) rfl ?_
      rintro v9 wv7 ⟨gg7, hvv9, hegg7⟩
      have hlegg7 := hegg7.le hs.imm
      replace hs := hs.call hegg7
      replace hRv1 := hRv1.mono hlegg7
      replace hRv2 := hRv2.mono hlegg7
      replace hRv3 := hRv3.mono hlegg7
      obtain ⟨cs10, rfl, hcs10⟩ := hvv9
      obtain ⟨cs11, cs12, cs13, rfl, hcs11, hcs12, hcs13⟩ := hcs10
      obtain ⟨v10, rfl, hRv10⟩ := hcs11
      obtain ⟨v11, rfl, hRv11⟩ := hcs12
      obtain ⟨v12, rfl, hRv12⟩ := hcs13
      refine OW_alloc ti25 hs (zs := [.slice none 0 0, .slice none 0 0, .slice none 0 0]) rfl rfl ?_
      intro b2 wv8 hs
      refine OW_storeAll ti25 hs (i := 0) rfl rfl (v := .agg (List.toArray (α := Value) [v10, v11, v12])) rfl (vs := [v10, v11, v12]) rfl (one_cons (by obtain ⟨_, _, h9⟩ := hRv10.shape; rw [h9]; rfl) (one_cons (by obtain ⟨_, _, h9⟩ := hRv11.shape; rw [h9]; rfl) (one_cons (by obtain ⟨_, _, h9⟩ := hRv12.shape; rw [h9]; rfl) one_nil))) rfl rfl ?_
      intro wv9 hs
      refine OW_nil ?_
      refine WP_seq ?_
      obtain ⟨xv2, hx2, hKhx2⟩ := bindS hM
      refine WP_cut (fun E w => ∃ (gg9 : Hp), E 1 = encS s1 ∧ E 2 = .pointer (some ⟨b1, 0, none⟩) ∧ E 5 = .pointer (some ⟨b2, 0, none⟩) ∧ E 33 = .bool xv2 ∧ Hle gg7 gg9 ∧ Go.Lx.Sep g0 w0 gg9 w [Go.Lx.box b2 25 ([v10, v11, v12]), Go.Lx.box b1 25 ([v1, v2, v3])]) ?_ ?_
      · have hM := hx2
        have hagg7 := Hle.refl gg7
        refine WP_region ?_
        refine O (r_loadN (cs := [v10, v11, v12]) ti25 rfl rfl (hs.cells (i := 0) rfl)) rfl ?_
        obtain ⟨rv8, hrv8, hM⟩ := bindS hM
        refine C [.agg (List.toArray (α := Value) [v10, v11, v12])] cf10 rfl (ref10_Valid_ok hrv8 hs.imm (⟨[v10], [v11], [v12], rfl, ⟨_, rfl, hRv10⟩, ⟨_, rfl, hRv11⟩, ⟨_, rfl, hRv12⟩⟩)) rfl ?_
        rintro v14 wv11 ⟨gg10, hvv14, hegg10⟩
        have hlegg10 := hegg10.le hs.imm
        replace hs := hs.call hegg10
        replace hRv1 := hRv1.mono hlegg10
        replace hRv2 := hRv2.mono hlegg10
        replace hRv3 := hRv3.mono hlegg10
        replace hRv10 := hRv10.mono hlegg10
        replace hRv11 := hRv11.mono hlegg10
        replace hRv12 := hRv12.mono hlegg10
        replace hagg7 := hagg7.trans hlegg10
        obtain ⟨cs15, rfl, hcs15⟩ := hvv14
        have hcs15 : cs15 = _ := hcs15; subst hcs15
        refine O (r_not rfl) rfl ?_
        refine O (r_move (v := .bool (!rv8)) rfl) rfl ?_
        rcases condS hM with ⟨hg6, hM⟩ | ⟨hg6, hM⟩
        · refine OK rfl rfl rfl (by rw [hg6]; rfl) rfl ?_
          refine OK rfl rfl rfl (by rw [hg6]; rfl) rfl ?_
          refine OK rfl rfl rfl (by rw [hg6]; rfl) rfl ?_
          refine OK rfl rfl rfl (by rw [hg6]; rfl) rfl ?_
          refine OK rfl rfl rfl (by rw [hg6]; rfl) rfl ?_
          refine OK rfl rfl rfl (by rw [hg6]; rfl) rfl ?_
          refine OK rfl rfl rfl (by rw [hg6]; rfl) rfl ?_
          refine O (r_pickT (v := .bool true) rfl hg6 rfl) rfl ?_
          refine OW_nil ?_
          obtain rfl := Option.some.inj hM
          exact ⟨gg10, rfl, rfl, rfl, rfl, hagg7, hs⟩
        · refine OG rfl rfl rfl (by rw [hg6]; rfl) (r_fieldAddr Try.underlying25 ti23 rfl rfl (by decide) rfl rfl) rfl ?_
          refine OG rfl rfl rfl (by rw [hg6]; rfl) (r_load (v := v11) ti23 rfl (hs.cell (i := 0) (o := 1) rfl rfl)) rfl ?_
          obtain ⟨a3, ca3, hva3⟩ := hRv11.shape
          refine OG rfl rfl rfl (by rw [hg6]; rfl) (r_lenSl (v := v11) Try.underlying23 rfl hva3) rfl ?_
          refine OG rfl rfl rfl (by rw [hg6]; rfl) (r_fieldAddr Try.underlying25 ti23 rfl rfl (by decide) rfl rfl) rfl ?_
          refine OG rfl rfl rfl (by rw [hg6]; rfl) (r_load (v := v2) ti23 rfl (hs.cell (i := 1) (o := 1) rfl rfl)) rfl ?_
          obtain ⟨a4, ca4, hva4⟩ := hRv2.shape
          refine OG rfl rfl rfl (by rw [hg6]; rfl) (r_lenSl (v := v2) Try.underlying23 rfl hva4) rfl ?_
          refine OG rfl rfl rfl (by rw [hg6]; rfl) (r_gtr rfl rfl) rfl ?_
          refine O (r_pickF (v := .bool (decide ((d1.Next.length : Int) < (rv6.Next.length : Int)))) rfl hg6 rfl) rfl ?_
          refine OW_nil ?_
          obtain rfl := Option.some.inj hM
          exact ⟨gg10, rfl, rfl, rfl, rfl, hagg7, hs⟩
      · clear hs
        rintro E w ⟨gg9, hE1, hE2, hE5, hE33, hlegg9, hs⟩
        have hM := hKhx2
        obtain ⟨E, rfl⟩ := open1 (E := E) hE1
        obtain ⟨E, rfl⟩ := open1 (E := E) hE2
        obtain ⟨E, rfl⟩ := open1 (E := E) hE5
        obtain ⟨E, rfl⟩ := open1 (E := E) hE33
        replace hRv1 := hRv1.mono hlegg9
        replace hRv2 := hRv2.mono hlegg9
        replace hRv3 := hRv3.mono hlegg9
        replace hRv10 := hRv10.mono hlegg9
        replace hRv11 := hRv11.mono hlegg9
        replace hRv12 := hRv12.mono hlegg9
        rcases condS hM with ⟨hc2, hM⟩ | ⟨hc2, hM⟩
        · refine WP_true rfl hc2 ?_
          refine WP_seq ?_
          refine WP_region ?_
          refine O (r_assign (v := .bool false) rfl) rfl ?_
          refine OW_nil ?_
          refine WP_ret ?_
          obtain rfl := Option.some.inj hM
          exact ⟨_, res1 Try.results4 (rv_tmp (v := .bool false) rfl), gg9, ⟨[.bool false], rfl, rfl⟩, hs.ext⟩
        · refine WP_false rfl hc2 ?_
          refine WP_skip ?_
          obtain ⟨rv14, hx3, hKhx3⟩ := bindS hM
          refine WP_cut (fun E w => ∃ (gg16 : Hp), E 4 = .bool rv14 ∧ Hle gg9 gg16 ∧ Go.Lx.Sep g0 w0 gg16 w []) ?_ ?_
          · have hM := hx3
            have hagg9 := Hle.refl gg9
            refine WP_any (.s 0 (.q 1 (.q 2 (.q 3 (.q 5 (.q 6 (.s 4 (.s 7 (.q 8 (.q 9 (.q 10 (.q 11 (.q 13 (.s 12 (.s 14 (.q 15 (.q 16 (.leaf)))))))))))))))))) (SS g0 w0 gg9 [Go.Lx.box b2 25 ([v10, v11, v12]), Go.Lx.box b1 25 ([v1, v2, v3])]) mo (by decide +kernel) (fun _ _ _ h => h) ?_
            have hs := hs.drew
            have hRv1b := hRv1
            have hRv2b := hRv2
            have hRv3b := hRv3
            have hRv10b := hRv10
            have hRv11b := hRv11
            have hRv12b := hRv12
            have hS : SS g0 w0 gg9 [Go.Lx.box b2 25 ([v10, v11, v12]), Go.Lx.box b1 25 ([v1, v2, v3])] _ := ⟨gg9, Hle.refl _, hs⟩
            refine A1 rfl ?_
            obtain ⟨rv15, hrv15, hM⟩ := bindS hM
            refine C [] cf9 rfl (law10_awake_ok hrv15 hs.imm) rfl ?_
            rintro v23 wv17 ⟨gg17, hvv23, hegg17⟩
            have hlegg17 := hegg17.le hs.imm
            replace hs := hs.call hegg17
            replace hRv1 := hRv1.mono hlegg17
            replace hRv2 := hRv2.mono hlegg17
            replace hRv3 := hRv3.mono hlegg17
            replace hRv10 := hRv10.mono hlegg17
            replace hRv11 := hRv11.mono hlegg17
            replace hRv12 := hRv12.mono hlegg17
            replace hagg9 := hagg9.trans hlegg17
            obtain ⟨cs24, rfl, hcs24⟩ := hvv23
            have hcs24 : cs24 = _ := hcs24; subst hcs24
            refine OW_nil ?_
            have hS : SS g0 w0 gg9 [Go.Lx.box b2 25 ([v10, v11, v12]), Go.Lx.box b1 25 ([v1, v2, v3])] _ := ⟨gg17, hagg9, hs⟩
            refine ⟨fun _ => hS, ?_⟩
            refine A rfl hS (fun w9 h9 => by obtain ⟨g9, hle9, hs⟩ := h9; exact r_move (v := .bool rv15) rfl) rfl ?_
            rcases condS hM with ⟨hg9, hM⟩ | ⟨hg9, hM⟩
            · refine AG rfl rfl rfl rfl (by rw [hg9]; rfl) hS (fun w9 h9 => by obtain ⟨g9, hle9, hs⟩ := h9; exact r_loadN (cs := [v10, v11, v12]) ti25 rfl rfl (hs.cells (i := 0) rfl)) rfl ?_
              refine AG rfl rfl rfl rfl (by rw [hg9]; rfl) hS (fun w9 h9 => by obtain ⟨g9, hle9, hs⟩ := h9; exact r_move (v := encS s1) rfl) rfl ?_
              refine AG rfl rfl rfl rfl (by rw [hg9]; rfl) hS (fun w9 h9 => by obtain ⟨g9, hle9, hs⟩ := h9; exact r_loadN (cs := [v1, v2, v3]) ti25 rfl rfl (hs.cells (i := 1) rfl)) rfl ?_
              refine AG rfl rfl rfl rfl (by rw [hg9]; rfl) hS (fun w9 h9 => by obtain ⟨g9, hle9, hs⟩ := h9; exact r_move (v := encS s1) rfl) rfl ?_
              refine A1 rfl ?_
              obtain ⟨rv16, hrv16, hM⟩ := bindS hM
              refine CG rfl rfl rfl (by rw [hg9]; rfl) [.agg (List.toArray (α := Value) [v10, v11, v12]), encS s1] cf12 rfl (dfa_Run_ok hrv16 hs.imm (⟨[v10], [v11], [v12], rfl, ⟨_, rfl, hRv10⟩, ⟨_, rfl, hRv11⟩, ⟨_, rfl, hRv12⟩⟩)) rfl ?_
              rintro v24 wv18 ⟨gg18, hvv24, hegg18⟩
              have hlegg18 := hegg18.le hs.imm
              replace hs := hs.call hegg18
              replace hRv1 := hRv1.mono hlegg18
              replace hRv2 := hRv2.mono hlegg18
              replace hRv3 := hRv3.mono hlegg18
              replace hRv10 := hRv10.mono hlegg18
              replace hRv11 := hRv11.mono hlegg18
              replace hRv12 := hRv12.mono hlegg18
              replace hagg9 := hagg9.trans hlegg18
              obtain ⟨cs25, rfl, hcs25⟩ := hvv24
              have hcs25 : cs25 = _ := hcs25; subst hcs25
              refine OW_nil ?_
              have hS : SS g0 w0 gg9 [Go.Lx.box b2 25 ([v10, v11, v12]), Go.Lx.box b1 25 ([v1, v2, v3])] _ := ⟨gg18, hagg9, hs⟩
              refine ⟨fun _ => hS, ?_⟩
              refine A1 rfl ?_
              obtain ⟨rv17, hrv17, hM⟩ := bindS hM
              refine CG rfl rfl rfl (by rw [hg9]; rfl) [.agg (List.toArray (α := Value) [v1, v2, v3]), encS s1] cf12 rfl (dfa_Run_ok hrv17 hs.imm (⟨[v1], [v2], [v3], rfl, ⟨_, rfl, hRv1⟩, ⟨_, rfl, hRv2⟩, ⟨_, rfl, hRv3⟩⟩)) rfl ?_
              rintro v25 wv19 ⟨gg19, hvv25, hegg19⟩
              have hlegg19 := hegg19.le hs.imm
              replace hs := hs.call hegg19
              replace hRv1 := hRv1.mono hlegg19
              replace hRv2 := hRv2.mono hlegg19
              replace hRv3 := hRv3.mono hlegg19
              replace hRv10 := hRv10.mono hlegg19
              replace hRv11 := hRv11.mono hlegg19
              replace hRv12 := hRv12.mono hlegg19
              replace hagg9 := hagg9.trans hlegg19
              obtain ⟨cs26, rfl, hcs26⟩ := hvv25
              have hcs26 : cs26 = _ := hcs26; subst hcs26
              refine OW_nil ?_
              have hS : SS g0 w0 gg9 [Go.Lx.box b2 25 ([v10, v11, v12]), Go.Lx.box b1 25 ([v1, v2, v3])] _ := ⟨gg19, hagg9, hs⟩
              refine ⟨fun _ => hS, ?_⟩
              refine AG rfl rfl rfl rfl (by rw [hg9]; rfl) hS (fun w9 h9 => by obtain ⟨g9, hle9, hs⟩ := h9; exact r_eql rfl rfl) rfl ?_
              refine A rfl hS (fun w9 h9 => by obtain ⟨g9, hle9, hs⟩ := h9; exact r_pickT (v := .bool (rv16 == rv17)) rfl hg9 rfl) rfl ?_
              refine A rfl hS (fun w9 h9 => by obtain ⟨g9, hle9, hs⟩ := h9; exact r_move (v := .bool (rv16 == rv17)) rfl) rfl ?_
              rcases condS hM with ⟨hg10, hM⟩ | ⟨hg10, hM⟩
              · refine AG rfl rfl rfl rfl (by rw [hg10]; rfl) hS (fun w9 h9 => by obtain ⟨g9, hle9, hs⟩ := h9; exact r_loadN (cs := [v10, v11, v12]) ti25 rfl rfl (hs.cells (i := 0) rfl)) rfl ?_
                refine AG rfl rfl rfl rfl (by rw [hg10]; rfl) hS (fun w9 h9 => by obtain ⟨g9, hle9, hs⟩ := h9; exact r_loadN (cs := [v10, v11, v12]) ti25 rfl rfl (hs.cells (i := 0) rfl)) rfl ?_
                refine A1 rfl ?_
                obtain ⟨rv18, hrv18, hM⟩ := bindS hM
                refine CG rfl rfl rfl (by rw [hg10]; rfl) [.agg (List.toArray (α := Value) [v10, v11, v12])] cf15 rfl (dfa_Minimize_ok hrv18 hs.imm (⟨[v10], [v11], [v12], rfl, ⟨_, rfl, hRv10⟩, ⟨_, rfl, hRv11⟩, ⟨_, rfl, hRv12⟩⟩)) rfl ?_
                rintro v26 wv20 ⟨gg20, hvv26, hegg20⟩
                have hlegg20 := hegg20.le hs.imm
                replace hs := hs.call hegg20
                replace hRv1 := hRv1.mono hlegg20
                replace hRv2 := hRv2.mono hlegg20
                replace hRv3 := hRv3.mono hlegg20
                replace hRv10 := hRv10.mono hlegg20
                replace hRv11 := hRv11.mono hlegg20
                replace hRv12 := hRv12.mono hlegg20
                replace hagg9 := hagg9.trans hlegg20
                obtain ⟨cs27, rfl, hcs27⟩ := hvv26
                obtain ⟨cs28, cs29, cs30, rfl, hcs28, hcs29, hcs30⟩ := hcs27
                obtain ⟨v27, rfl, hRv27⟩ := hcs28
                obtain ⟨v28, rfl, hRv28⟩ := hcs29
                obtain ⟨v29, rfl, hRv29⟩ := hcs30
                refine OW_nil ?_
                have hS : SS g0 w0 gg9 [Go.Lx.box b2 25 ([v10, v11, v12]), Go.Lx.box b1 25 ([v1, v2, v3])] _ := ⟨gg20, hagg9, hs⟩
                refine ⟨fun _ => hS, ?_⟩
                refine A1 rfl ?_
                obtain ⟨rv19, hrv19, hM⟩ := bindS hM
                refine CG rfl rfl rfl (by rw [hg10]; rfl) [.agg (List.toArray (α := Value) [v27, v28, v29]), .agg (List.toArray (α := Value) [v10, v11, v12])] cf16 rfl (ref10_Same_ok hrv19 hs.imm (⟨[v27], [v28], [v29], rfl, ⟨_, rfl, hRv27⟩, ⟨_, rfl, hRv28⟩, ⟨_, rfl, hRv29⟩⟩) (⟨[v10], [v11], [v12], rfl, ⟨_, rfl, hRv10⟩, ⟨_, rfl, hRv11⟩, ⟨_, rfl, hRv12⟩⟩)) rfl ?_
                rintro v30 wv21 ⟨gg21, hvv30, hegg21⟩
                have hlegg21 := hegg21.le hs.imm
                replace hs := hs.call hegg21
                replace hRv1 := hRv1.mono hlegg21
                replace hRv2 := hRv2.mono hlegg21
                replace hRv3 := hRv3.mono hlegg21
                replace hRv10 := hRv10.mono hlegg21
                replace hRv11 := hRv11.mono hlegg21
                replace hRv12 := hRv12.mono hlegg21
                replace hRv27 := hRv27.mono hlegg21
                replace hRv28 := hRv28.mono hlegg21
                replace hRv29 := hRv29.mono hlegg21
                replace hagg9 := hagg9.trans hlegg21
                obtain ⟨cs31, rfl, hcs31⟩ := hvv30
                have hcs31 : cs31 = _ := hcs31; subst hcs31
                refine OW_nil ?_
                have hS : SS g0 w0 gg9 [Go.Lx.box b2 25 ([v10, v11, v12]), Go.Lx.box b1 25 ([v1, v2, v3])] _ := ⟨gg21, hagg9, hs⟩
                refine ⟨fun _ => hS, ?_⟩
                refine A rfl hS (fun w9 h9 => by obtain ⟨g9, hle9, hs⟩ := h9; exact r_pickT (v := .bool rv19) rfl hg10 rfl) rfl ?_
                refine A rfl hS (fun w9 h9 => by obtain ⟨g9, hle9, hs⟩ := h9; exact r_assign (v := .bool rv19) rfl) rfl ?_
                refine AN ?_
                obtain rfl := Option.some.inj hM
                exact ⟨gg21, rfl, hagg9, (hs.sub (.cons _ (.cons _ .slnil)))⟩
              · refine AK rfl rfl rfl rfl (by rw [hg10]; rfl) hS rfl ?_
                refine AK rfl rfl rfl rfl (by rw [hg10]; rfl) hS rfl ?_
                refine A1 rfl ?_
                refine OK rfl rfl rfl (by rw [hg10]; rfl) rfl ?_
                refine OW_nil ⟨fun _ => hS, ?_⟩
                refine A1 rfl ?_
                refine OK rfl rfl rfl (by rw [hg10]; rfl) rfl ?_
                refine OW_nil ⟨fun _ => hS, ?_⟩
                refine A rfl hS (fun w9 h9 => by obtain ⟨g9, hle9, hs⟩ := h9; exact r_pickF (v := .bool false) rfl hg10 rfl) rfl ?_
                refine A rfl hS (fun w9 h9 => by obtain ⟨g9, hle9, hs⟩ := h9; exact r_assign (v := .bool false) rfl) rfl ?_
                refine AN ?_
                obtain rfl := Option.some.inj hM
                exact ⟨gg19, rfl, hagg9, (hs.sub (.cons _ (.cons _ .slnil)))⟩
            · refine AK rfl rfl rfl rfl (by rw [hg9]; rfl) hS rfl ?_
              refine AK rfl rfl rfl rfl (by rw [hg9]; rfl) hS rfl ?_
              refine AK rfl rfl rfl rfl (by rw [hg9]; rfl) hS rfl ?_
              refine AK rfl rfl rfl rfl (by rw [hg9]; rfl) hS rfl ?_
              refine A1 rfl ?_
              refine OK rfl rfl rfl (by rw [hg9]; rfl) rfl ?_
              refine OW_nil ⟨fun _ => hS, ?_⟩
              refine A1 rfl ?_
              refine OK rfl rfl rfl (by rw [hg9]; rfl) rfl ?_
              refine OW_nil ⟨fun _ => hS, ?_⟩
              refine AK rfl rfl rfl rfl (by rw [hg9]; rfl) hS rfl ?_
              refine A rfl hS (fun w9 h9 => by obtain ⟨g9, hle9, hs⟩ := h9; exact r_pickF (v := .bool false) rfl hg9 rfl) rfl ?_
              refine A rfl hS (fun w9 h9 => by obtain ⟨g9, hle9, hs⟩ := h9; exact r_move (v := .bool false) rfl) rfl ?_
              refine AK rfl rfl rfl rfl rfl hS rfl ?_
              refine AK rfl rfl rfl rfl rfl hS rfl ?_
              refine A1 rfl ?_
              refine OK rfl rfl rfl rfl rfl ?_
              refine OW_nil ⟨fun _ => hS, ?_⟩
              refine A1 rfl ?_
              refine OK rfl rfl rfl rfl rfl ?_
              refine OW_nil ⟨fun _ => hS, ?_⟩
              refine A rfl hS (fun w9 h9 => by obtain ⟨g9, hle9, hs⟩ := h9; exact r_pickF (v := .bool false) rfl rfl rfl) rfl ?_
              refine A rfl hS (fun w9 h9 => by obtain ⟨g9, hle9, hs⟩ := h9; exact r_assign (v := .bool false) rfl) rfl ?_
              refine AN ?_
              obtain rfl := Option.some.inj hM
              exact ⟨gg17, rfl, hagg9, (hs.sub (.cons _ (.cons _ .slnil)))⟩
          · clear hs
            rintro E w ⟨gg16, hE4, hlegg16, hs⟩
            have hM := hKhx3
            obtain ⟨E, rfl⟩ := open1 (E := E) hE4
            refine WP_ret ?_
            obtain rfl := Option.some.inj hM
            exact ⟨_, res1 Try.results4 (rv_tmp (v := .bool rv14) rfl), gg16, ⟨[.bool rv14], rfl, rfl⟩, hs.ext⟩

set_option maxRecDepth 100000 in
theorem law10_DfaDifference_ok {a1 : T_DFA} {b1 : T_DFA} {r : Bool} (hM : M.law10_DfaDifference a1 b1 = some r) {g0 : Hp} {w0 : World} (hi : Imm g0 w0) {cs1 : List Value} (hcs1 : tT_DFA.rel g0 cs1 a1) {cs2 : List Value} (hcs2 : tT_DFA.rel g0 cs2 b1) :
    CallsV Try.prog 5 #[.agg cs1.toArray, .agg cs2.toArray] w0 (fun v w' => ∃ g', (VRd tBool false g' v r) ∧ Ext g0 w0 g' w') := by
  unfold M.law10_DfaDifference at hM
  obtain ⟨cs3, cs4, cs5, rfl, hcs3, hcs4, hcs5⟩ := hcs1
  obtain ⟨v1, rfl, hRv1⟩ := hcs3
  obtain ⟨v2, rfl, hRv2⟩ := hcs4
  obtain ⟨v3, rfl, hRv3⟩ := hcs5
  obtain ⟨cs6, cs7, cs8, rfl, hcs6, hcs7, hcs8⟩ := hcs2
  obtain ⟨v4, rfl, hRv4⟩ := hcs6
  obtain ⟨v5, rfl, hRv5⟩ := hcs7
  obtain ⟨v6, rfl, hRv6⟩ := hcs8
  have hs := Sep.start hi
  refine calls_of_WP (args := [.agg (List.toArray (α := Value) [v1, v2, v3]), .agg (List.toArray (α := Value) [v4, v5, v6])]) Try.func5 rfl Try.ntmps5 rfl ?_
  refine WP_seq ?_
  refine WP_region ?_
  refine OW_box (v := .agg (List.toArray (α := Value) [v1, v2, v3])) rfl hs (zs := [v1, v2, v3]) rfl rfl ?_
  intro b2 wv1 hs
  refine OW_box (v := .agg (List.toArray (α := Value) [v4, v5, v6])) rfl hs (zs := [v4, v5, v6]) rfl rfl ?_
  intro b3 wv2 hs
  refine O (r_assign (v := .bool false) rfl) rfl ?_
  refine OW_nil ?_
  refine WP_seq ?_
  obtain ⟨xv1, hx1, hKhx1⟩ := bindS hM
  refine WP_cut (fun E w => ∃ (gg3 : Hp), E 2 = .pointer (some ⟨b2, 0, none⟩) ∧ E 3 = .pointer (some ⟨b3, 0, none⟩) ∧ E 16 = .bool xv1 ∧ Hle g0 gg3 ∧ Go.Lx.Sep g0 w0 gg3 w [Go.Lx.box b3 25 ([v4, v5, v6]), Go.Lx.box b2 25 ([v1, v2, v3])]) ?_ ?_
  · have hM := hx1
    have hag0 := Hle.refl g0
    refine WP_region ?_
    refine O (r_loadN (cs := [v1, v2, v3]) ti25 rfl rfl (hs.cells (i := 1) rfl)) rfl ?_
    obtain ⟨rv3, hrv3, hM⟩ := bindS hM
    refine C [.agg (List.toArray (α := Value) [v1, v2, v3]), .int .i64 8, .int .i64 5] cf14 rfl (ref10_Small_ok hrv3 hs.imm (⟨[v1], [v2], [v3], rfl, ⟨_, rfl, hRv1⟩, ⟨_, rfl, hRv2⟩, ⟨_, rfl, hRv3⟩⟩)) rfl ?_
    rintro v9 wv5 ⟨gg4, hvv9, hegg4⟩
    have hlegg4 := hegg4.le hs.imm
    replace hs := hs.call hegg4
    replace hRv1 := hRv1.mono hlegg4
    replace hRv2 := hRv2.mono hlegg4
    replace hRv3 := hRv3.mono hlegg4
    replace hRv4 := hRv4.mono hlegg4
    replace hRv5 := hRv5.mono hlegg4
    replace hRv6 := hRv6.mono hlegg4
    replace hag0 := hag0.trans hlegg4
    obtain ⟨cs11, rfl, hcs11⟩ := hvv9
    have hcs11 : cs11 = _ := hcs11; subst hcs11
    refine O (r_not rfl) rfl ?_
    refine O (r_move (v := .bool (!rv3)) rfl) rfl ?_
    rcases condS hM with ⟨hg2, hM⟩ | ⟨hg2, hM⟩
    · refine OK rfl rfl rfl (by rw [hg2]; rfl) rfl ?_
      refine OK rfl rfl rfl (by rw [hg2]; rfl) rfl ?_
      refine OK rfl rfl rfl (by rw [hg2]; rfl) rfl ?_
      refine O (r_pickT (v := .bool true) rfl hg2 rfl) rfl ?_
      refine OW_nil ?_
      obtain rfl := Option.some.inj hM
      exact ⟨gg4, rfl, rfl, rfl, hag0, hs⟩
    · refine OG rfl rfl rfl (by rw [hg2]; rfl) (r_loadN (cs := [v4, v5, v6]) ti25 rfl rfl (hs.cells (i := 0) rfl)) rfl ?_
      obtain ⟨rv4, hrv4, hM⟩ := bindS hM
      refine CG rfl rfl rfl (by rw [hg2]; rfl) [.agg (List.toArray (α := Value) [v4, v5, v6]), .int .i64 8, .int .i64 5] cf14 rfl (ref10_Small_ok hrv4 hs.imm (⟨[v4], [v5], [v6], rfl, ⟨_, rfl, hRv4⟩, ⟨_, rfl, hRv5⟩, ⟨_, rfl, hRv6⟩⟩)) rfl ?_
      rintro v10 wv6 ⟨gg5, hvv10, hegg5⟩
      have hlegg5 := hegg5.le hs.imm
      replace hs := hs.call hegg5
      replace hRv1 := hRv1.mono hlegg5
      replace hRv2 := hRv2.mono hlegg5
      replace hRv3 := hRv3.mono hlegg5
      replace hRv4 := hRv4.mono hlegg5
      replace hRv5 := hRv5.mono hlegg5
      replace hRv6 := hRv6.mono hlegg5
      replace hag0 := hag0.trans hlegg5
      obtain ⟨cs12, rfl, hcs12⟩ := hvv10
      have hcs12 : cs12 = _ := hcs12; subst hcs12
      refine OG rfl rfl rfl (by rw [hg2]; rfl) (r_not rfl) rfl ?_
      refine O (r_pickF (v := .bool (!rv4)) rfl hg2 rfl) rfl ?_
      refine OW_nil ?_
      obtain rfl := Option.some.inj hM
      exact ⟨gg5, rfl, rfl, rfl, hag0, hs⟩
  · clear hs
    rintro E w ⟨gg3, hE2, hE3, hE16, hlegg3, hs⟩
    have hM := hKhx1
    obtain ⟨E, rfl⟩ := open1 (E := E) hE2
    obtain ⟨E, rfl⟩ := open1 (E := E) hE3
    obtain ⟨E, rfl⟩ := open1 (E := E) hE16
    replace hRv1 := hRv1.mono hlegg3
    replace hRv2 := hRv2.mono hlegg3
    replace hRv3 := hRv3.mono hlegg3
    replace hRv4 := hRv4.mono hlegg3
    replace hRv5 := hRv5.mono hlegg3
    replace hRv6 := hRv6.mono hlegg3
    rcases condS hM with ⟨hc1, hM⟩ | ⟨hc1, hM⟩
    · refine WP_true rfl hc1 ?_
      refine WP_seq ?_
      refine WP_region ?_
      obtain ⟨rv5, hrv5, hM⟩ := bindS hM
      refine C [] cf9 rfl (law10_awake_ok hrv5 hs.imm) rfl ?_
      rintro v11 wv7 ⟨gg6, hvv11, hegg6⟩
      have hlegg6 := hegg6.le hs.imm
      replace hs := hs.call hegg6
      replace hRv1 := hRv1.mono hlegg6
      replace hRv2 := hRv2.mono hlegg6
      replace hRv3 := hRv3.mono hlegg6
      replace hRv4 := hRv4.mono hlegg6
      replace hRv5 := hRv5.mono hlegg6
      replace hRv6 := hRv6.mono hlegg6
      obtain ⟨cs13, rfl, hcs13⟩ := hvv11
      have hcs13 : cs13 = _ := hcs13; subst hcs13
      refine O (r_assign (v := .bool rv5) rfl) rfl ?_
      refine OW_nil ?_
      refine WP_ret ?_
      obtain rfl := Option.some.inj hM
      exact ⟨_, res1 Try.results5 (rv_tmp (v := .bool rv5) rfl), gg6, ⟨[.bool rv5], rfl, rfl⟩, hs.ext⟩
    · refine WP_false rfl hc1 ?_
      refine WP_skip ?_
      refine WP_seq ?_
      refine WP_region ?_
      refine O (r_loadN (cs := [v1, v2, v3]) ti25 rfl rfl (hs.cells (i := 1) rfl)) rfl ?_
      refine O (r_loadN (cs := [v4, v5, v6]) ti25 rfl rfl (hs.cells (i := 0) rfl)) rfl ?_
      obtain ⟨rv6, hrv6, hM⟩ := bindS hM
      refine C [.agg (List.toArray (α := Value) [v1, v2, v3]), .agg (List.toArray (α := Value) [v4, v5, v6])] cf17 rfl (dfa_Difference_ok hrv6 hs.imm (⟨[v1], [v2], [v3], rfl, ⟨_, rfl, hRv1⟩, ⟨_, rfl, hRv2⟩, ⟨_, rfl, hRv3⟩⟩) (⟨[v4], [v5], [v6], rfl, ⟨_, rfl, hRv4⟩, ⟨_, rfl, hRv5⟩, ⟨_, rfl, hRv6⟩⟩)) rfl ?_
      rintro v12 wv8 ⟨gg7, hvv12, hegg7⟩
      have hlegg7 := hegg7.le hs.imm
      replace hs := hs.call hegg7
      replace hRv1 := hRv1.mono hlegg7
      replace hRv2 := hRv2.mono hlegg7
      replace hRv3 := hRv3.mono hlegg7
      replace hRv4 := hRv4.mono hlegg7
      replace hRv5 := hRv5.mono hlegg7
      replace hRv6 := hRv6.mono hlegg7
      obtain ⟨v13, v14, rfl, hvv13, hvv14⟩ := hvv12
      obtain ⟨cs14, rfl, hcs14⟩ := hvv14
      have hcs14 : cs14 = _ := hcs14; subst hcs14
      obtain ⟨cs15, rfl, hcs15⟩ := hvv13
      have hcs15 : cs15 = _ := hcs15; subst hcs15
      refine O (r_move (v := .tuple #[encS rv6.1, .bool rv6.2]) rfl) rfl ?_
      refine O (r_extract (vs := [encS rv6.1, .bool rv6.2]) (v := encS rv6.1) rfl rfl) rfl ?_
      refine O (r_extract (vs := [encS rv6.1, .bool rv6.2]) (v := .bool rv6.2) rfl rfl) rfl ?_
      refine O (r_assign (v := encS rv6.1) rfl) rfl ?_
      refine O (r_assign (v := .bool rv6.2) rfl) rfl ?_
      refine OW_nil ?_
      refine WP_seq ?_
      refine WP_region ?_
      refine O (r_loadN (cs := [v1, v2, v3]) ti25 rfl rfl (hs.cells (i := 1) rfl)) rfl ?_
      refine O (r_loadN (cs := [v4, v5, v6]) ti25 rfl rfl (hs.cells (i := 0) rfl)) rfl ?_
      obtain ⟨rv7, hrv7, hM⟩ := bindS hM
      refine C [.agg (List.toArray (α := Value) [v1, v2, v3]), .agg (List.toArray (α := Value) [v4, v5, v6])] cf18 rfl (ref10_Difference_ok hrv7 hs.imm (⟨[v1], [v2], [v3], rfl, ⟨_, rfl, hRv1⟩, ⟨_, rfl, hRv2⟩, ⟨_, rfl, hRv3⟩⟩) (⟨[v4], [v5], [v6], rfl, ⟨_, rfl, hRv4⟩, ⟨_, rfl, hRv5⟩, ⟨_, rfl, hRv6⟩⟩)) rfl ?_
      rintro v15 wv9 ⟨gg8, hvv15, hegg8⟩
      have hlegg8 := hegg8.le hs.imm
      replace hs := hs.call hegg8
      replace hRv1 := hRv1.mono hlegg8
      replace hRv2 := hRv2.mono hlegg8
      replace hRv3 := hRv3.mono hlegg8
      replace hRv4 := hRv4.mono hlegg8
      replace hRv5 := hRv5.mono hlegg8
      replace hRv6 := hRv6.mono hlegg8
      obtain ⟨v16, v17, rfl, hvv16, hvv17⟩ := hvv15
      obtain ⟨cs16, rfl, hcs16⟩ := hvv17
      have hcs16 : cs16 = _ := hcs16; subst hcs16
      obtain ⟨cs17, rfl, hcs17⟩ := hvv16
      have hcs17 : cs17 = _ := hcs17; subst hcs17
      refine O (r_move (v := .tuple #[encS rv7.1, .bool rv7.2]) rfl) rfl ?_
      refine O (r_extract (vs := [encS rv7.1, .bool rv7.2]) (v := encS rv7.1) rfl rfl) rfl ?_
      refine O (r_extract (vs := [encS rv7.1, .bool rv7.2]) (v := .bool rv7.2) rfl rfl) rfl ?_
      refine O (r_assign (v := encS rv7.1) rfl) rfl ?_
      refine O (r_assign (v := .bool rv7.2) rfl) rfl ?_
      refine OW_nil ?_
      obtain ⟨xv2, hx2, hKhx2⟩ := bindS hM
      refine WP_cut (fun E w => ∃ (gg10 : Hp), E 4 = .bool xv2 ∧ Hle gg8 gg10 ∧ Go.Lx.Sep g0 w0 gg10 w []) ?_ ?_
      · have hM := hx2
        have hagg8 := Hle.refl gg8
        refine WP_region ?_
        obtain ⟨rv9, hrv9, hM⟩ := bindS hM
        refine C [] cf9 rfl (law10_awake_ok hrv9 hs.imm) rfl ?_
        rintro v19 wv11 ⟨gg11, hvv19, hegg11⟩
        have hlegg11 := hegg11.le hs.imm
        replace hs := hs.call hegg11
        replace hRv1 := hRv1.mono hlegg11
        replace hRv2 := hRv2.mono hlegg11
        replace hRv3 := hRv3.mono hlegg11
        replace hRv4 := hRv4.mono hlegg11
        replace hRv5 := hRv5.mono hlegg11
        replace hRv6 := hRv6.mono hlegg11
        replace hagg8 := hagg8.trans hlegg11
        obtain ⟨cs19, rfl, hcs19⟩ := hvv19
        have hcs19 : cs19 = _ := hcs19; subst hcs19
        refine O (r_move (v := .bool rv9) rfl) rfl ?_
        rcases condS hM with ⟨hg5, hM⟩ | ⟨hg5, hM⟩
        · refine OG rfl rfl rfl (by rw [hg5]; rfl) (r_move (v := encS rv6.1) rfl) rfl ?_
          refine OG rfl rfl rfl (by rw [hg5]; rfl) (r_move (v := encS rv7.1) rfl) rfl ?_
          refine OG rfl rfl rfl (by rw [hg5]; rfl) (r_eqlS rfl rfl) rfl ?_
          refine O (r_pickT (v := .bool (rv6.1 == rv7.1)) rfl hg5 rfl) rfl ?_
          refine O (r_move (v := .bool (rv6.1 == rv7.1)) rfl) rfl ?_
          rcases condS hM with ⟨hg6, hM⟩ | ⟨hg6, hM⟩
          · refine OG rfl rfl rfl (by rw [hg6]; rfl) (r_move (v := .bool rv6.2) rfl) rfl ?_
            refine OG rfl rfl rfl (by rw [hg6]; rfl) (r_move (v := .bool rv7.2) rfl) rfl ?_
            refine OG rfl rfl rfl (by rw [hg6]; rfl) (r_eqlB Try.underlying4 rfl rfl) rfl ?_
            refine O (r_pickT (v := .bool (rv6.2 == rv7.2)) rfl hg6 rfl) rfl ?_
            refine O (r_assign (v := .bool (rv6.2 == rv7.2)) rfl) rfl ?_
            refine OW_nil ?_
            obtain rfl := Option.some.inj hM
            exact ⟨gg11, rfl, hagg8, (hs.sub (.cons _ (.cons _ .slnil)))⟩
          · refine OK rfl rfl rfl (by rw [hg6]; rfl) rfl ?_
            refine OK rfl rfl rfl (by rw [hg6]; rfl) rfl ?_
            refine OK rfl rfl rfl (by rw [hg6]; rfl) rfl ?_
            refine O (r_pickF (v := .bool false) rfl hg6 rfl) rfl ?_
            refine O (r_assign (v := .bool false) rfl) rfl ?_
            refine OW_nil ?_
            obtain rfl := Option.some.inj hM
            exact ⟨gg11, rfl, hagg8, (hs.sub (.cons _ (.cons _ .slnil)))⟩
        · refine OK rfl rfl rfl (by rw [hg5]; rfl) rfl ?_
          refine OK rfl rfl rfl (by rw [hg5]; rfl) rfl ?_
          refine OK rfl rfl rfl (by rw [hg5]; rfl) rfl ?_
          refine O (r_pickF (v := .bool false) rfl hg5 rfl) rfl ?_
          refine O (r_move (v := .bool false) rfl) rfl ?_
          refine OK rfl rfl rfl rfl rfl ?_
          refine OK rfl rfl rfl rfl rfl ?_
          refine OK rfl rfl rfl rfl rfl ?_
          refine O (r_pickF (v := .bool false) rfl rfl rfl) rfl ?_
          refine O (r_assign (v := .bool false) rfl) rfl ?_
          refine OW_nil ?_
          obtain rfl := Option.some.inj hM
          exact ⟨gg11, rfl, hagg8, (hs.sub (.cons _ (.cons _ .slnil)))⟩
      · clear hs
        rintro E w ⟨gg10, hE4, hlegg10, hs⟩
        have hM := hKhx2
        obtain ⟨E, rfl⟩ := open1 (E := E) hE4
        refine WP_ret ?_
        obtain rfl := Option.some.inj hM
        exact ⟨_, res1 Try.results5 (rv_tmp (v := .bool xv2) rfl), gg10, ⟨[.bool xv2], rfl, rfl⟩, hs.ext⟩

set_option maxRecDepth 100000 in
theorem law10_DfaDifferenceLeast_ok {p1 : T_DFA} {p2 : T_DFA} {p3 : Str} {r : Bool} (hM : M.law10_DfaDifferenceLeast p1 p2 p3 = some r) {g0 : Hp} {w0 : World} (hi : Imm g0 w0) {cs1 : List Value} (hcs1 : tT_DFA.rel g0 cs1 p1) {cs2 : List Value} (hcs2 : tT_DFA.rel g0 cs2 p2) :
    CallsV Try.prog 6 #[.agg cs1.toArray, .agg cs2.toArray, encS p3] w0 (fun v w' => ∃ g', (VRd tBool false g' v r) ∧ Ext g0 w0 g' w') := by
  unfold M.law10_DfaDifferenceLeast at hM
  obtain ⟨cs3, cs4, cs5, rfl, hcs3, hcs4, hcs5⟩ := hcs1
  obtain ⟨v1, rfl, hRv1⟩ := hcs3
  obtain ⟨v2, rfl, hRv2⟩ := hcs4
  obtain ⟨v3, rfl, hRv3⟩ := hcs5
  obtain ⟨cs6, cs7, cs8, rfl, hcs6, hcs7, hcs8⟩ := hcs2
  obtain ⟨v4, rfl, hRv4⟩ := hcs6
  obtain ⟨v5, rfl, hRv5⟩ := hcs7
  obtain ⟨v6, rfl, hRv6⟩ := hcs8
  have hs := Sep.start hi
  refine calls_of_WP (args := [.agg (List.toArray (α := Value) [v1, v2, v3]), .agg (List.toArray (α := Value) [v4, v5, v6]), encS p3]) Try.func6 rfl Try.ntmps6 rfl ?_
  refine WP_seq ?_
  refine WP_region ?_
  refine OW_box (v := .agg (List.toArray (α := Value) [v1, v2, v3])) rfl hs (zs := [v1, v2, v3]) rfl rfl ?_
  intro b1 wv1 hs
  refine OW_box (v := .agg (List.toArray (α := Value) [v4, v5, v6])) rfl hs (zs := [v4, v5, v6]) rfl rfl ?_
  intro b2 wv2 hs
  refine O (r_assign (v := .bool false) rfl) rfl ?_
  refine OW_nil ?_
  refine WP_seq ?_
  obtain ⟨xv1, hx1, hKhx1⟩ := bindS hM
  refine WP_cut (fun E w => ∃ (gg5 : Hp), E 2 = encS p3 ∧ E 3 = .pointer (some ⟨b1, 0, none⟩) ∧ E 4 = .pointer (some ⟨b2, 0, none⟩) ∧ E 30 = .bool xv1 ∧ Hle g0 gg5 ∧ Go.Lx.Sep g0 w0 gg5 w [Go.Lx.box b2 25 ([v4, v5, v6]), Go.Lx.box b1 25 ([v1, v2, v3])]) ?_ ?_
  · have hM := hx1
    have hag0 := Hle.refl g0
    refine WP_any (.q 0 (.s 1 (.q 2 (.q 3 (.q 4 (.s 5 (.q 6 (.q 7 (.q 8 (.q 9 (.q 10 (.q 11 (.q 12 (.q 13 (.q 14 (.q 15 (.q 17 (.q 18 (.s 16 (.s 19 (.q 20 (.q 21 (.leaf))))))))))))))))))))))) (SS g0 w0 g0 [Go.Lx.box b2 25 ([v4, v5, v6]), Go.Lx.box b1 25 ([v1, v2, v3])]) mo (by decide +kernel) (fun _ _ _ h => h) ?_
    have hs := hs.drew
    have hRv1b := hRv1
    have hRv2b := hRv2
    have hRv3b := hRv3
    have hRv4b := hRv4
    have hRv5b := hRv5
    have hRv6b := hRv6
    have hS : SS g0 w0 g0 [Go.Lx.box b2 25 ([v4, v5, v6]), Go.Lx.box b1 25 ([v1, v2, v3])] _ := ⟨g0, Hle.refl _, hs⟩
    refine A rfl hS (fun w9 h9 => by obtain ⟨g9, hle9, hs⟩ := h9; exact r_loadN (cs := [v1, v2, v3]) ti25 rfl rfl (hs.cells (i := 1) rfl)) rfl ?_
    refine A1 rfl ?_
    obtain ⟨rv5, hrv5, hM⟩ := bindS hM
    refine C [.agg (List.toArray (α := Value) [v1, v2, v3]), .int .i64 10, .int .i64 6] cf14 rfl (ref10_Small_ok hrv5 hs.imm (⟨[v1], [v2], [v3], rfl, ⟨_, rfl, hRv1⟩, ⟨_, rfl, hRv2⟩, ⟨_, rfl, hRv3⟩⟩)) rfl ?_
    rintro v11 wv7 ⟨gg6, hvv11, hegg6⟩
    have hlegg6 := hegg6.le hs.imm
    replace hs := hs.call hegg6
    replace hRv1 := hRv1.mono hlegg6
    replace hRv2 := hRv2.mono hlegg6
    replace hRv3 := hRv3.mono hlegg6
    replace hRv4 := hRv4.mono hlegg6
    replace hRv5 := hRv5.mono hlegg6
    replace hRv6 := hRv6.mono hlegg6
    replace hag0 := hag0.trans hlegg6
    obtain ⟨cs13, rfl, hcs13⟩ := hvv11
    have hcs13 : cs13 = _ := hcs13; subst hcs13
    refine OW_nil ?_
    have hS : SS g0 w0 g0 [Go.Lx.box b2 25 ([v4, v5, v6]), Go.Lx.box b1 25 ([v1, v2, v3])] _ := ⟨gg6, hag0, hs⟩
    refine ⟨fun _ => hS, ?_⟩
    refine A rfl hS (fun w9 h9 => by obtain ⟨g9, hle9, hs⟩ := h9; exact r_not rfl) rfl ?_
    refine A rfl hS (fun w9 h9 => by obtain ⟨g9, hle9, hs⟩ := h9; exact r_move (v := .bool (!rv5)) rfl) rfl ?_
    rcases condS hM with ⟨hg4, hM⟩ | ⟨hg4, hM⟩
    · refine AK rfl rfl rfl rfl (by rw [hg4]; rfl) hS rfl ?_
      refine A1 rfl ?_
      refine OK rfl rfl rfl (by rw [hg4]; rfl) rfl ?_
      refine OW_nil ⟨fun _ => hS, ?_⟩
      refine AK rfl rfl rfl rfl (by rw [hg4]; rfl) hS rfl ?_
      refine A rfl hS (fun w9 h9 => by obtain ⟨g9, hle9, hs⟩ := h9; exact r_pickT (v := .bool true) rfl hg4 rfl) rfl ?_
      refine A rfl hS (fun w9 h9 => by obtain ⟨g9, hle9, hs⟩ := h9; exact r_move (v := .bool true) rfl) rfl ?_
      refine AK rfl rfl rfl rfl rfl hS rfl ?_
      refine AK rfl rfl rfl rfl rfl hS rfl ?_
      refine AK rfl rfl rfl rfl rfl hS rfl ?_
      refine A rfl hS (fun w9 h9 => by obtain ⟨g9, hle9, hs⟩ := h9; exact r_pickT (v := .bool true) rfl rfl rfl) rfl ?_
      refine A rfl hS (fun w9 h9 => by obtain ⟨g9, hle9, hs⟩ := h9; exact r_move (v := .bool true) rfl) rfl ?_
      refine AK rfl rfl rfl rfl rfl hS rfl ?_
      refine AK rfl rfl rfl rfl rfl hS rfl ?_
      refine AK rfl rfl rfl rfl rfl hS rfl ?_
      refine AK rfl rfl rfl rfl rfl hS rfl ?_
      refine A1 rfl ?_
      refine OK rfl rfl rfl rfl rfl ?_
      refine OW_nil ⟨fun _ => hS, ?_⟩
      refine A1 rfl ?_
      refine OK rfl rfl rfl rfl rfl ?_
      refine OW_nil ⟨fun _ => hS, ?_⟩
      refine AK rfl rfl rfl rfl rfl hS rfl ?_
      refine A rfl hS (fun w9 h9 => by obtain ⟨g9, hle9, hs⟩ := h9; exact r_pickT (v := .bool true) rfl rfl rfl) rfl ?_
      refine AN ?_
      obtain rfl := Option.some.inj hM
      exact ⟨gg6, rfl, rfl, rfl, rfl, hag0, hs⟩
    · refine AG rfl rfl rfl rfl (by rw [hg4]; rfl) hS (fun w9 h9 => by obtain ⟨g9, hle9, hs⟩ := h9; exact r_loadN (cs := [v4, v5, v6]) ti25 rfl rfl (hs.cells (i := 0) rfl)) rfl ?_
      refine A1 rfl ?_
      obtain ⟨rv6, hrv6, hM⟩ := bindS hM
      refine CG rfl rfl rfl (by rw [hg4]; rfl) [.agg (List.toArray (α := Value) [v4, v5, v6]), .int .i64 10, .int .i64 6] cf14 rfl (ref10_Small_ok hrv6 hs.imm (⟨[v4], [v5], [v6], rfl, ⟨_, rfl, hRv4⟩, ⟨_, rfl, hRv5⟩, ⟨_, rfl, hRv6⟩⟩)) rfl ?_
      rintro v12 wv8 ⟨gg7, hvv12, hegg7⟩
      have hlegg7 := hegg7.le hs.imm
      replace hs := hs.call hegg7
      replace hRv1 := hRv1.mono hlegg7
      replace hRv2 := hRv2.mono hlegg7
      replace hRv3 := hRv3.mono hlegg7
      replace hRv4 := hRv4.mono hlegg7
      replace hRv5 := hRv5.mono hlegg7
      replace hRv6 := hRv6.mono hlegg7
      replace hag0 := hag0.trans hlegg7
      obtain ⟨cs14, rfl, hcs14⟩ := hvv12
      have hcs14 : cs14 = _ := hcs14; subst hcs14
      refine OW_nil ?_
      have hS : SS g0 w0 g0 [Go.Lx.box b2 25 ([v4, v5, v6]), Go.Lx.box b1 25 ([v1, v2, v3])] _ := ⟨gg7, hag0, hs⟩
      refine ⟨fun _ => hS, ?_⟩
      refine AG rfl rfl rfl rfl (by rw [hg4]; rfl) hS (fun w9 h9 => by obtain ⟨g9, hle9, hs⟩ := h9; exact r_not rfl) rfl ?_
      refine A rfl hS (fun w9 h9 => by obtain ⟨g9, hle9, hs⟩ := h9; exact r_pickF (v := .bool (!rv6)) rfl hg4 rfl) rfl ?_
      refine A rfl hS (fun w9 h9 => by obtain ⟨g9, hle9, hs⟩ := h9; exact r_move (v := .bool (!rv6)) rfl) rfl ?_
      rcases condS hM with ⟨hg5, hM⟩ | ⟨hg5, hM⟩
      · refine AK rfl rfl rfl rfl (by rw [hg5]; rfl) hS rfl ?_
        refine AK rfl rfl rfl rfl (by rw [hg5]; rfl) hS rfl ?_
        refine AK rfl rfl rfl rfl (by rw [hg5]; rfl) hS rfl ?_
        refine A rfl hS (fun w9 h9 => by obtain ⟨g9, hle9, hs⟩ := h9; exact r_pickT (v := .bool true) rfl hg5 rfl) rfl ?_
        refine A rfl hS (fun w9 h9 => by obtain ⟨g9, hle9, hs⟩ := h9; exact r_move (v := .bool true) rfl) rfl ?_
        refine AK rfl rfl rfl rfl rfl hS rfl ?_
        refine AK rfl rfl rfl rfl rfl hS rfl ?_
        refine AK rfl rfl rfl rfl rfl hS rfl ?_
        refine AK rfl rfl rfl rfl rfl hS rfl ?_
        refine A1 rfl ?_
        refine OK rfl rfl rfl rfl rfl ?_
        refine OW_nil ⟨fun _ => hS, ?_⟩
        refine A1 rfl ?_
        refine OK rfl rfl rfl rfl rfl ?_
        refine OW_nil ⟨fun _ => hS, ?_⟩
        refine AK rfl rfl rfl rfl rfl hS rfl ?_
        refine A rfl hS (fun w9 h9 => by obtain ⟨g9, hle9, hs⟩ := h9; exact r_pickT (v := .bool true) rfl rfl rfl) rfl ?_
        refine AN ?_
        obtain rfl := Option.some.inj hM
        exact ⟨gg7, rfl, rfl, rfl, rfl, hag0, hs⟩
      · refine AG rfl rfl rfl rfl (by rw [hg5]; rfl) hS (fun w9 h9 => by obtain ⟨g9, hle9, hs⟩ := h9; exact r_move (v := encS p3) rfl) rfl ?_
        refine AG rfl rfl rfl rfl (by rw [hg5]; rfl) hS (fun w9 h9 => by obtain ⟨g9, hle9, hs⟩ := h9; exact r_lenStr Try.underlying9 rfl) rfl ?_
        refine AG rfl rfl rfl rfl (by rw [hg5]; rfl) hS (fun w9 h9 => by obtain ⟨g9, hle9, hs⟩ := h9; exact r_gtr rfl rfl) rfl ?_
        refine A rfl hS (fun w9 h9 => by obtain ⟨g9, hle9, hs⟩ := h9; exact r_pickF (v := .bool (decide (60 < (p3.length : Int)))) rfl hg5 rfl) rfl ?_
        refine A rfl hS (fun w9 h9 => by obtain ⟨g9, hle9, hs⟩ := h9; exact r_move (v := .bool (decide (60 < (p3.length : Int)))) rfl) rfl ?_
        rcases condS hM with ⟨hg6, hM⟩ | ⟨hg6, hM⟩
        · refine AK rfl rfl rfl rfl (by rw [hg6]; rfl) hS rfl ?_
          refine AK rfl rfl rfl rfl (by rw [hg6]; rfl) hS rfl ?_
          refine AK rfl rfl rfl rfl (by rw [hg6]; rfl) hS rfl ?_
          refine AK rfl rfl rfl rfl (by rw [hg6]; rfl) hS rfl ?_
          refine A1 rfl ?_
          refine OK rfl rfl rfl (by rw [hg6]; rfl) rfl ?_
          refine OW_nil ⟨fun _ => hS, ?_⟩
          refine A1 rfl ?_
          refine OK rfl rfl rfl (by rw [hg6]; rfl) rfl ?_
          refine OW_nil ⟨fun _ => hS, ?_⟩
          refine AK rfl rfl rfl rfl (by rw [hg6]; rfl) hS rfl ?_
          refine A rfl hS (fun w9 h9 => by obtain ⟨g9, hle9, hs⟩ := h9; exact r_pickT (v := .bool true) rfl hg6 rfl) rfl ?_
          refine AN ?_
          obtain rfl := Option.some.inj hM
          exact ⟨gg7, rfl, rfl, rfl, rfl, hag0, hs⟩
        · refine AG rfl rfl rfl rfl (by rw [hg6]; rfl) hS (fun w9 h9 => by obtain ⟨g9, hle9, hs⟩ := h9; exact r_loadN (cs := [v1, v2, v3]) ti25 rfl rfl (hs.cells (i := 1) rfl)) rfl ?_
          refine AG rfl rfl rfl rfl (by rw [hg6]; rfl) hS (fun w9 h9 => by obtain ⟨g9, hle9, hs⟩ := h9; exact r_move (v := encS p3) rfl) rfl ?_
          refine AG rfl rfl rfl rfl (by rw [hg6]; rfl) hS (fun w9 h9 => by obtain ⟨g9, hle9, hs⟩ := h9; exact r_loadN (cs := [v4, v5, v6]) ti25 rfl rfl (hs.cells (i := 0) rfl)) rfl ?_
          refine AG rfl rfl rfl rfl (by rw [hg6]; rfl) hS (fun w9 h9 => by obtain ⟨g9, hle9, hs⟩ := h9; exact r_move (v := encS p3) rfl) rfl ?_
          refine A1 rfl ?_
          obtain ⟨rv7, hrv7, hM⟩ := bindS hM
          refine CG rfl rfl rfl (by rw [hg6]; rfl) [.agg (List.toArray (α := Value) [v1, v2, v3]), encS p3] cf12 rfl (dfa_Run_ok hrv7 hs.imm (⟨[v1], [v2], [v3], rfl, ⟨_, rfl, hRv1⟩, ⟨_, rfl, hRv2⟩, ⟨_, rfl, hRv3⟩⟩)) rfl ?_
          rintro v13 wv9 ⟨gg8, hvv13, hegg8⟩
          have hlegg8 := hegg8.le hs.imm
          replace hs := hs.call hegg8
          replace hRv1 := hRv1.mono hlegg8
          replace hRv2 := hRv2.mono hlegg8
          replace hRv3 := hRv3.mono hlegg8
          replace hRv4 := hRv4.mono hlegg8
          replace hRv5 := hRv5.mono hlegg8
          replace hRv6 := hRv6.mono hlegg8
          replace hag0 := hag0.trans hlegg8
          obtain ⟨cs15, rfl, hcs15⟩ := hvv13
          have hcs15 : cs15 = _ := hcs15; subst hcs15
          refine OW_nil ?_
          have hS : SS g0 w0 g0 [Go.Lx.box b2 25 ([v4, v5, v6]), Go.Lx.box b1 25 ([v1, v2, v3])] _ := ⟨gg8, hag0, hs⟩
          refine ⟨fun _ => hS, ?_⟩
          refine A1 rfl ?_
          obtain ⟨rv8, hrv8, hM⟩ := bindS hM
          refine CG rfl rfl rfl (by rw [hg6]; rfl) [.agg (List.toArray (α := Value) [v4, v5, v6]), encS p3] cf12 rfl (dfa_Run_ok hrv8 hs.imm (⟨[v4], [v5], [v6], rfl, ⟨_, rfl, hRv4⟩, ⟨_, rfl, hRv5⟩, ⟨_, rfl, hRv6⟩⟩)) rfl ?_
          rintro v14 wv10 ⟨gg9, hvv14, hegg9⟩
          have hlegg9 := hegg9.le hs.imm
          replace hs := hs.call hegg9
          replace hRv1 := hRv1.mono hlegg9
          replace hRv2 := hRv2.mono hlegg9
          replace hRv3 := hRv3.mono hlegg9
          replace hRv4 := hRv4.mono hlegg9
          replace hRv5 := hRv5.mono hlegg9
          replace hRv6 := hRv6.mono hlegg9
          replace hag0 := hag0.trans hlegg9
          obtain ⟨cs16, rfl, hcs16⟩ := hvv14
          have hcs16 : cs16 = _ := hcs16; subst hcs16
          refine OW_nil ?_
          have hS : SS g0 w0 g0 [Go.Lx.box b2 25 ([v4, v5, v6]), Go.Lx.box b1 25 ([v1, v2, v3])] _ := ⟨gg9, hag0, hs⟩
          refine ⟨fun _ => hS, ?_⟩
          refine AG rfl rfl rfl rfl (by rw [hg6]; rfl) hS (fun w9 h9 => by obtain ⟨g9, hle9, hs⟩ := h9; exact r_eql rfl rfl) rfl ?_
          refine A rfl hS (fun w9 h9 => by obtain ⟨g9, hle9, hs⟩ := h9; exact r_pickF (v := .bool (rv7 == rv8)) rfl hg6 rfl) rfl ?_
          refine AN ?_
          obtain rfl := Option.some.inj hM
          exact ⟨gg9, rfl, rfl, rfl, rfl, hag0, hs⟩
  · clear hs
    rintro E w ⟨gg5, hE2, hE3, hE4, hE30, hlegg5, hs⟩
    have hM := hKhx1
    obtain ⟨E, rfl⟩ := open1 (E := E) hE2
    obtain ⟨E, rfl⟩ := open1 (E := E) hE3
    obtain ⟨E, rfl⟩ := open1 (E := E) hE4
    obtain ⟨E, rfl⟩ := open1 (E := E) hE30
    replace hRv1 := hRv1.mono hlegg5
    replace hRv2 := hRv2.mono hlegg5
    replace hRv3 := hRv3.mono hlegg5
    replace hRv4 := hRv4.mono hlegg5
    replace hRv5 := hRv5.mono hlegg5
    replace hRv6 := hRv6.mono hlegg5
    rcases condS hM with ⟨hc1, hM⟩ | ⟨hc1, hM⟩
    · refine WP_true rfl hc1 ?_
      refine WP_seq ?_
      refine WP_region ?_
      obtain ⟨rv9, hrv9, hM⟩ := bindS hM
      refine C [] cf9 rfl (law10_awake_ok hrv9 hs.imm) rfl ?_
      rintro v15 wv11 ⟨gg10, hvv15, hegg10⟩
      have hlegg10 := hegg10.le hs.imm
      replace hs := hs.call hegg10
      replace hRv1 := hRv1.mono hlegg10
      replace hRv2 := hRv2.mono hlegg10
      replace hRv3 := hRv3.mono hlegg10
      replace hRv4 := hRv4.mono hlegg10
      replace hRv5 := hRv5.mono hlegg10
      replace hRv6 := hRv6.mono hlegg10
      obtain ⟨cs17, rfl, hcs17⟩ := hvv15
      have hcs17 : cs17 = _ := hcs17; subst hcs17
      refine O (r_assign (v := .bool rv9) rfl) rfl ?_
      refine OW_nil ?_
      refine WP_ret ?_
      obtain rfl := Option.some.inj hM
      exact ⟨_, res1 Try.results6 (rv_tmp (v := .bool rv9) rfl), gg10, ⟨[.bool rv9], rfl, rfl⟩, hs.ext⟩
    · refine WP_false rfl hc1 ?_
      refine WP_skip ?_
      refine WP_seq ?_
      refine WP_region ?_
      refine O (r_loadN (cs := [v1, v2, v3]) ti25 rfl rfl (hs.cells (i := 1) rfl)) rfl ?_
      refine O (r_loadN (cs := [v4, v5, v6]) ti25 rfl rfl (hs.cells (i := 0) rfl)) rfl ?_
      obtain ⟨rv10, hrv10, hM⟩ := bindS hM
      refine C [.agg (List.toArray (α := Value) [v1, v2, v3]), .agg (List.toArray (α := Value) [v4, v5, v6])] cf17 rfl (dfa_Difference_ok hrv10 hs.imm (⟨[v1], [v2], [v3], rfl, ⟨_, rfl, hRv1⟩, ⟨_, rfl, hRv2⟩, ⟨_, rfl, hRv3⟩⟩) (⟨[v4], [v5], [v6], rfl, ⟨_, rfl, hRv4⟩, ⟨_, rfl, hRv5⟩, ⟨_, rfl, hRv6⟩⟩)) rfl ?_
      rintro v16 wv12 ⟨gg11, hvv16, hegg11⟩
      have hlegg11 := hegg11.le hs.imm
      replace hs := hs.call hegg11
      replace hRv1 := hRv1.mono hlegg11
      replace hRv2 := hRv2.mono hlegg11
      replace hRv3 := hRv3.mono hlegg11
      replace hRv4 := hRv4.mono hlegg11
      replace hRv5 := hRv5.mono hlegg11
      replace hRv6 := hRv6.mono hlegg11
      obtain ⟨v17, v18, rfl, hvv17, hvv18⟩ := hvv16
      obtain ⟨cs18, rfl, hcs18⟩ := hvv18
      have hcs18 : cs18 = _ := hcs18; subst hcs18
      obtain ⟨cs19, rfl, hcs19⟩ := hvv17
      have hcs19 : cs19 = _ := hcs19; subst hcs19
      refine O (r_move (v := .tuple #[encS rv10.1, .bool rv10.2]) rfl) rfl ?_
      refine O (r_extract (vs := [encS rv10.1, .bool rv10.2]) (v := encS rv10.1) rfl rfl) rfl ?_
      refine O (r_extract (vs := [encS rv10.1, .bool rv10.2]) (v := .bool rv10.2) rfl rfl) rfl ?_
      refine O (r_assign (v := encS rv10.1) rfl) rfl ?_
      refine O (r_assign (v := .bool rv10.2) rfl) rfl ?_
      refine OW_nil ?_
      obtain ⟨xv2, hx2, hKhx2⟩ := bindS hM
      refine WP_cut (fun E w => ∃ (gg15 : Hp), E 6 = .bool xv2 ∧ Hle gg11 gg15 ∧ Go.Lx.Sep g0 w0 gg15 w []) ?_ ?_
      · have hM := hx2
        have hagg11 := Hle.refl gg11
        refine WP_any (.s 0 (.q 1 (.q 2 (.q 3 (.q 4 (.q 5 (.q 6 (.q 8 (.q 9 (.s 7 (.s 10 (.q 11 (.q 12 (.q 13 (.q 14 (.q 15 (.q 16 (.q 17 (.q 18 (.q 19 (.q 20 (.q 21 (.q 22 (.q 23 (.q 24 (.q 25 (.q 26 (.q 27 (.q 28 (.q 29 (.q 30 (.q 31 (.q 32 (.leaf)))))))))))))))))))))))))))))))))) (SS g0 w0 gg11 [Go.Lx.box b2 25 ([v4, v5, v6]), Go.Lx.box b1 25 ([v1, v2, v3])]) mo (by decide +kernel) (fun _ _ _ h => h) ?_
        have hs := hs.drew
        have hRv1b := hRv1
        have hRv2b := hRv2
        have hRv3b := hRv3
        have hRv4b := hRv4
        have hRv5b := hRv5
        have hRv6b := hRv6
        have hS : SS g0 w0 gg11 [Go.Lx.box b2 25 ([v4, v5, v6]), Go.Lx.box b1 25 ([v1, v2, v3])] _ := ⟨gg11, Hle.refl _, hs⟩
        refine A1 rfl ?_
        obtain ⟨rv14, hrv14, hM⟩ := bindS hM
        refine C [] cf9 rfl (law10_awake_ok hrv14 hs.imm) rfl ?_
        rintro v22 wv16 ⟨gg16, hvv22, hegg16⟩
        have hlegg16 := hegg16.le hs.imm
        replace hs := hs.call hegg16
        replace hRv1 := hRv1.mono hlegg16
        replace hRv2 := hRv2.mono hlegg16
        replace hRv3 := hRv3.mono hlegg16
        replace hRv4 := hRv4.mono hlegg16
        replace hRv5 := hRv5.mono hlegg16
        replace hRv6 := hRv6.mono hlegg16
        replace hagg11 := hagg11.trans hlegg16
        obtain ⟨cs23, rfl, hcs23⟩ := hvv22
        have hcs23 : cs23 = _ := hcs23; subst hcs23
        refine OW_nil ?_
        have hS : SS g0 w0 gg11 [Go.Lx.box b2 25 ([v4, v5, v6]), Go.Lx.box b1 25 ([v1, v2, v3])] _ := ⟨gg16, hagg11, hs⟩
        refine ⟨fun _ => hS, ?_⟩
        refine A rfl hS (fun w9 h9 => by obtain ⟨g9, hle9, hs⟩ := h9; exact r_move (v := .bool rv14) rfl) rfl ?_
        rcases condS hM with ⟨hg12, hM⟩ | ⟨hg12, hM⟩
        · refine AG rfl rfl rfl rfl (by rw [hg12]; rfl) hS (fun w9 h9 => by obtain ⟨g9, hle9, hs⟩ := h9; exact r_move (v := .bool rv10.2) rfl) rfl ?_
          refine A rfl hS (fun w9 h9 => by obtain ⟨g9, hle9, hs⟩ := h9; exact r_pickT (v := .bool rv10.2) rfl hg12 rfl) rfl ?_
          refine A rfl hS (fun w9 h9 => by obtain ⟨g9, hle9, hs⟩ := h9; exact r_move (v := .bool rv10.2) rfl) rfl ?_
          rcases condS hM with ⟨hg13, hM⟩ | ⟨hg13, hM⟩
          · refine AG rfl rfl rfl rfl (by rw [hg13]; rfl) hS (fun w9 h9 => by obtain ⟨g9, hle9, hs⟩ := h9; exact r_loadN (cs := [v1, v2, v3]) ti25 rfl rfl (hs.cells (i := 1) rfl)) rfl ?_
            refine AG rfl rfl rfl rfl (by rw [hg13]; rfl) hS (fun w9 h9 => by obtain ⟨g9, hle9, hs⟩ := h9; exact r_move (v := encS rv10.1) rfl) rfl ?_
            refine AG rfl rfl rfl rfl (by rw [hg13]; rfl) hS (fun w9 h9 => by obtain ⟨g9, hle9, hs⟩ := h9; exact r_loadN (cs := [v4, v5, v6]) ti25 rfl rfl (hs.cells (i := 0) rfl)) rfl ?_
            refine AG rfl rfl rfl rfl (by rw [hg13]; rfl) hS (fun w9 h9 => by obtain ⟨g9, hle9, hs⟩ := h9; exact r_move (v := encS rv10.1) rfl) rfl ?_
            refine A1 rfl ?_
            obtain ⟨rv15, hrv15, hM⟩ := bindS hM
            refine CG rfl rfl rfl (by rw [hg13]; rfl) [.agg (List.toArray (α := Value) [v1, v2, v3]), encS rv10.1] cf12 rfl (dfa_Run_ok hrv15 hs.imm (⟨[v1], [v2], [v3], rfl, ⟨_, rfl, hRv1⟩, ⟨_, rfl, hRv2⟩, ⟨_, rfl, hRv3⟩⟩)) rfl ?_
            rintro v23 wv17 ⟨gg17, hvv23, hegg17⟩
            have hlegg17 := hegg17.le hs.imm
            replace hs := hs.call hegg17
            replace hRv1 := hRv1.mono hlegg17
            replace hRv2 := hRv2.mono hlegg17
            replace hRv3 := hRv3.mono hlegg17
            replace hRv4 := hRv4.mono hlegg17
            replace hRv5 := hRv5.mono hlegg17
            replace hRv6 := hRv6.mono hlegg17
            replace hagg11 := hagg11.trans hlegg17
            obtain ⟨cs24, rfl, hcs24⟩ := hvv23
            have hcs24 : cs24 = _ := hcs24; subst hcs24
            refine OW_nil ?_
            have hS : SS g0 w0 gg11 [Go.Lx.box b2 25 ([v4, v5, v6]), Go.Lx.box b1 25 ([v1, v2, v3])] _ := ⟨gg17, hagg11, hs⟩
            refine ⟨fun _ => hS, ?_⟩
            refine A1 rfl ?_
            obtain ⟨rv16, hrv16, hM⟩ := bindS hM
            refine CG rfl rfl rfl (by rw [hg13]; rfl) [.agg (List.toArray (α := Value) [v4, v5, v6]), encS rv10.1] cf12 rfl (dfa_Run_ok hrv16 hs.imm (⟨[v4], [v5], [v6], rfl, ⟨_, rfl, hRv4⟩, ⟨_, rfl, hRv5⟩, ⟨_, rfl, hRv6⟩⟩)) rfl ?_
            rintro v24 wv18 ⟨gg18, hvv24, hegg18⟩
            have hlegg18 := hegg18.le hs.imm
            replace hs := hs.call hegg18
            replace hRv1 := hRv1.mono hlegg18
            replace hRv2 := hRv2.mono hlegg18
            replace hRv3 := hRv3.mono hlegg18
            replace hRv4 := hRv4.mono hlegg18
            replace hRv5 := hRv5.mono hlegg18
            replace hRv6 := hRv6.mono hlegg18
            replace hagg11 := hagg11.trans hlegg18
            obtain ⟨cs25, rfl, hcs25⟩ := hvv24
            have hcs25 : cs25 = _ := hcs25; subst hcs25
            refine OW_nil ?_
            have hS : SS g0 w0 gg11 [Go.Lx.box b2 25 ([v4, v5, v6]), Go.Lx.box b1 25 ([v1, v2, v3])] _ := ⟨gg18, hagg11, hs⟩
            refine ⟨fun _ => hS, ?_⟩
            refine AG rfl rfl rfl rfl (by rw [hg13]; rfl) hS (fun w9 h9 => by obtain ⟨g9, hle9, hs⟩ := h9; exact r_neq rfl rfl) rfl ?_
            refine A rfl hS (fun w9 h9 => by obtain ⟨g9, hle9, hs⟩ := h9; exact r_pickT (v := .bool (rv15 != rv16)) rfl hg13 rfl) rfl ?_
            refine A rfl hS (fun w9 h9 => by obtain ⟨g9, hle9, hs⟩ := h9; exact r_move (v := .bool (rv15 != rv16)) rfl) rfl ?_
            rcases condS hM with ⟨hg14, hM⟩ | ⟨hg14, hM⟩
            · refine AG rfl rfl rfl rfl (by rw [hg14]; rfl) hS (fun w9 h9 => by obtain ⟨g9, hle9, hs⟩ := h9; exact r_move (v := encS rv10.1) rfl) rfl ?_
              refine AG rfl rfl rfl rfl (by rw [hg14]; rfl) hS (fun w9 h9 => by obtain ⟨g9, hle9, hs⟩ := h9; exact r_lenStr Try.underlying9 rfl) rfl ?_
              refine AG rfl rfl rfl rfl (by rw [hg14]; rfl) hS (fun w9 h9 => by obtain ⟨g9, hle9, hs⟩ := h9; exact r_move (v := encS p3) rfl) rfl ?_
              refine AG rfl rfl rfl rfl (by rw [hg14]; rfl) hS (fun w9 h9 => by obtain ⟨g9, hle9, hs⟩ := h9; exact r_lenStr Try.underlying9 rfl) rfl ?_
              refine AG rfl rfl rfl rfl (by rw [hg14]; rfl) hS (fun w9 h9 => by obtain ⟨g9, hle9, hs⟩ := h9; exact r_lss rfl rfl) rfl ?_
              refine AG rfl rfl rfl rfl (by rw [hg14]; rfl) hS (fun w9 h9 => by obtain ⟨g9, hle9, hs⟩ := h9; exact r_move (v := .bool (decide ((rv10.1.length : Int) < (p3.length : Int)))) rfl) rfl ?_
              rcases condS hM with ⟨hg15, hM⟩ | ⟨hg15, hM⟩
              · refine AK rfl rfl rfl rfl (by rw [hg15]; rfl) hS rfl ?_
                refine AK rfl rfl rfl rfl (by rw [hg15]; rfl) hS rfl ?_
                refine AK rfl rfl rfl rfl (by rw [hg15]; rfl) hS rfl ?_
                refine AK rfl rfl rfl rfl (by rw [hg15]; rfl) hS rfl ?_
                refine AK rfl rfl rfl rfl (by rw [hg15]; rfl) hS rfl ?_
                refine AK rfl rfl rfl rfl (by rw [hg15]; rfl) hS rfl ?_
                refine AKU rfl rfl rfl rfl hS rfl ?_
                refine AKU rfl rfl rfl rfl hS rfl ?_
                refine AKU rfl rfl rfl rfl hS rfl ?_
                refine AK rfl rfl rfl rfl (by rw [hg15]; rfl) hS rfl ?_
                refine AG rfl rfl rfl rfl (by rw [hg14]; rfl) hS (fun w9 h9 => by obtain ⟨g9, hle9, hs⟩ := h9; exact r_pickT (v := .bool true) rfl hg15 rfl) rfl ?_
                refine A rfl hS (fun w9 h9 => by obtain ⟨g9, hle9, hs⟩ := h9; exact r_pickT (v := .bool true) rfl hg14 rfl) rfl ?_
                refine A rfl hS (fun w9 h9 => by obtain ⟨g9, hle9, hs⟩ := h9; exact r_assign (v := .bool true) rfl) rfl ?_
                refine AN ?_
                obtain rfl := Option.some.inj hM
                exact ⟨gg18, rfl, hagg11, (hs.sub (.cons _ (.cons _ .slnil)))⟩
              · refine AG rfl rfl rfl rfl (by rw [hg15]; rfl) hS (fun w9 h9 => by obtain ⟨g9, hle9, hs⟩ := h9; exact r_move (v := encS rv10.1) rfl) rfl ?_
                refine AG rfl rfl rfl rfl (by rw [hg15]; rfl) hS (fun w9 h9 => by obtain ⟨g9, hle9, hs⟩ := h9; exact r_lenStr Try.underlying9 rfl) rfl ?_
                refine AG rfl rfl rfl rfl (by rw [hg15]; rfl) hS (fun w9 h9 => by obtain ⟨g9, hle9, hs⟩ := h9; exact r_move (v := encS p3) rfl) rfl ?_
                refine AG rfl rfl rfl rfl (by rw [hg15]; rfl) hS (fun w9 h9 => by obtain ⟨g9, hle9, hs⟩ := h9; exact r_lenStr Try.underlying9 rfl) rfl ?_
                refine AG rfl rfl rfl rfl (by rw [hg15]; rfl) hS (fun w9 h9 => by obtain ⟨g9, hle9, hs⟩ := h9; exact r_eql rfl rfl) rfl ?_
                refine AG rfl rfl rfl rfl (by rw [hg15]; rfl) hS (fun w9 h9 => by obtain ⟨g9, hle9, hs⟩ := h9; exact r_move (v := .bool ((rv10.1.length : Int) == (p3.length : Int))) rfl) rfl ?_
                rcases condS hM with ⟨hg16, hM⟩ | ⟨hg16, hM⟩
                · refine AG rfl rfl rfl rfl (by rw [hg16]; rfl) hS (fun w9 h9 => by obtain ⟨g9, hle9, hs⟩ := h9; exact r_move (v := encS rv10.1) rfl) rfl ?_
                  refine AG rfl rfl rfl rfl (by rw [hg16]; rfl) hS (fun w9 h9 => by obtain ⟨g9, hle9, hs⟩ := h9; exact r_move (v := encS p3) rfl) rfl ?_
                  refine AG rfl rfl rfl rfl (by rw [hg16]; rfl) hS (fun w9 h9 => by obtain ⟨g9, hle9, hs⟩ := h9; exact r_leqS rfl rfl) rfl ?_
                  refine AG rfl rfl rfl rfl (by rw [hg15]; rfl) hS (fun w9 h9 => by obtain ⟨g9, hle9, hs⟩ := h9; exact r_pickT (v := .bool (ltS rv10.1 p3 || rv10.1 == p3)) rfl hg16 rfl) rfl ?_
                  refine AG rfl rfl rfl rfl (by rw [hg14]; rfl) hS (fun w9 h9 => by obtain ⟨g9, hle9, hs⟩ := h9; exact r_pickF (v := .bool (ltS rv10.1 p3 || rv10.1 == p3)) rfl hg15 rfl) rfl ?_
                  refine A rfl hS (fun w9 h9 => by obtain ⟨g9, hle9, hs⟩ := h9; exact r_pickT (v := .bool (ltS rv10.1 p3 || rv10.1 == p3)) rfl hg14 rfl) rfl ?_
                  refine A rfl hS (fun w9 h9 => by obtain ⟨g9, hle9, hs⟩ := h9; exact r_assign (v := .bool (ltS rv10.1 p3 || rv10.1 == p3)) rfl) rfl ?_
                  refine AN ?_
                  obtain rfl := Option.some.inj hM
                  exact ⟨gg18, rfl, hagg11, (hs.sub (.cons _ (.cons _ .slnil)))⟩
                · refine AK rfl rfl rfl rfl (by rw [hg16]; rfl) hS rfl ?_
                  refine AK rfl rfl rfl rfl (by rw [hg16]; rfl) hS rfl ?_
                  refine AK rfl rfl rfl rfl (by rw [hg16]; rfl) hS rfl ?_
                  refine AG rfl rfl rfl rfl (by rw [hg15]; rfl) hS (fun w9 h9 => by obtain ⟨g9, hle9, hs⟩ := h9; exact r_pickF (v := .bool false) rfl hg16 rfl) rfl ?_
                  refine AG rfl rfl rfl rfl (by rw [hg14]; rfl) hS (fun w9 h9 => by obtain ⟨g9, hle9, hs⟩ := h9; exact r_pickF (v := .bool false) rfl hg15 rfl) rfl ?_
                  refine A rfl hS (fun w9 h9 => by obtain ⟨g9, hle9, hs⟩ := h9; exact r_pickT (v := .bool false) rfl hg14 rfl) rfl ?_
                  refine A rfl hS (fun w9 h9 => by obtain ⟨g9, hle9, hs⟩ := h9; exact r_assign (v := .bool false) rfl) rfl ?_
                  refine AN ?_
                  obtain rfl := Option.some.inj hM
                  exact ⟨gg18, rfl, hagg11, (hs.sub (.cons _ (.cons _ .slnil)))⟩
            · refine AK rfl rfl rfl rfl (by rw [hg14]; rfl) hS rfl ?_
              refine AK rfl rfl rfl rfl (by rw [hg14]; rfl) hS rfl ?_
              refine AK rfl rfl rfl rfl (by rw [hg14]; rfl) hS rfl ?_
              refine AK rfl rfl rfl rfl (by rw [hg14]; rfl) hS rfl ?_
              refine AK rfl rfl rfl rfl (by rw [hg14]; rfl) hS rfl ?_
              refine AK rfl rfl rfl rfl (by rw [hg14]; rfl) hS rfl ?_
              refine AKU rfl rfl rfl rfl hS rfl ?_
              refine AKU rfl rfl rfl rfl hS rfl ?_
              refine AKU rfl rfl rfl rfl hS rfl ?_
              refine AKU rfl rfl rfl rfl hS rfl ?_
              refine AKU rfl rfl rfl rfl hS rfl ?_
              refine AKU rfl rfl rfl rfl hS rfl ?_
              refine AKU rfl rfl rfl rfl hS rfl ?_
              refine AKU rfl rfl rfl rfl hS rfl ?_
              refine AKU rfl rfl rfl rfl hS rfl ?_
              refine AKU rfl rfl rfl rfl hS rfl ?_
              refine AK rfl rfl rfl rfl (by rw [hg14]; rfl) hS rfl ?_
              refine A rfl hS (fun w9 h9 => by obtain ⟨g9, hle9, hs⟩ := h9; exact r_pickF (v := .bool false) rfl hg14 rfl) rfl ?_
              refine A rfl hS (fun w9 h9 => by obtain ⟨g9, hle9, hs⟩ := h9; exact r_assign (v := .bool false) rfl) rfl ?_
              refine AN ?_
              obtain rfl := Option.some.inj hM
              exact ⟨gg18, rfl, hagg11, (hs.sub (.cons _ (.cons _ .slnil)))⟩
          · refine AK rfl rfl rfl rfl (by rw [hg13]; rfl) hS rfl ?_
            refine AK rfl rfl rfl rfl (by rw [hg13]; rfl) hS rfl ?_
            refine AK rfl rfl rfl rfl (by rw [hg13]; rfl) hS rfl ?_
            refine AK rfl rfl rfl rfl (by rw [hg13]; rfl) hS rfl ?_
            refine A1 rfl ?_
            refine OK rfl rfl rfl (by rw [hg13]; rfl) rfl ?_
            refine OW_nil ⟨fun _ => hS, ?_⟩
            refine A1 rfl ?_
            refine OK rfl rfl rfl (by rw [hg13]; rfl) rfl ?_
            refine OW_nil ⟨fun _ => hS, ?_⟩
            refine AK rfl rfl rfl rfl (by rw [hg13]; rfl) hS rfl ?_
            refine A rfl hS (fun w9 h9 => by obtain ⟨g9, hle9, hs⟩ := h9; exact r_pickF (v := .bool false) rfl hg13 rfl) rfl ?_
            refine A rfl hS (fun w9 h9 => by obtain ⟨g9, hle9, hs⟩ := h9; exact r_move (v := .bool false) rfl) rfl ?_
            refine AK rfl rfl rfl rfl rfl hS rfl ?_
            refine AK rfl rfl rfl rfl rfl hS rfl ?_
            refine AK rfl rfl rfl rfl rfl hS rfl ?_
            refine AK rfl rfl rfl rfl rfl hS rfl ?_
            refine AK rfl rfl rfl rfl rfl hS rfl ?_
            refine AK rfl rfl rfl rfl rfl hS rfl ?_
            refine AKU rfl rfl rfl rfl hS rfl ?_
            refine AKU rfl rfl rfl rfl hS rfl ?_
            refine AKU rfl rfl rfl rfl hS rfl ?_
            refine AKU rfl rfl rfl rfl hS rfl ?_
            refine AKU rfl rfl rfl rfl hS rfl ?_
            refine AKU rfl rfl rfl rfl hS rfl ?_
            refine AKU rfl rfl rfl rfl hS rfl ?_
            refine AKU rfl rfl rfl rfl hS rfl ?_
            refine AKU rfl rfl rfl rfl hS rfl ?_
            refine AKU rfl rfl rfl rfl hS rfl ?_
            refine AK rfl rfl rfl rfl rfl hS rfl ?_
            refine A rfl hS (fun w9 h9 => by obtain ⟨g9, hle9, hs⟩ := h9; exact r_pickF (v := .bool false) rfl rfl rfl) rfl ?_
            refine A rfl hS (fun w9 h9 => by obtain ⟨g9, hle9, hs⟩ := h9; exact r_assign (v := .bool false) rfl) rfl ?_
            refine AN ?_
            obtain rfl := Option.some.inj hM
            exact ⟨gg16, rfl, hagg11, (hs.sub (.cons _ (.cons _ .slnil)))⟩
        · refine AK rfl rfl rfl rfl (by rw [hg12]; rfl) hS rfl ?_
          refine A rfl hS (fun w9 h9 => by obtain ⟨g9, hle9, hs⟩ := h9; exact r_pickF (v := .bool false) rfl hg12 rfl) rfl ?_
          refine A rfl hS (fun w9 h9 => by obtain ⟨g9, hle9, hs⟩ := h9; exact r_move (v := .bool false) rfl) rfl ?_
          refine AK rfl rfl rfl rfl rfl hS rfl ?_
          refine AK rfl rfl rfl rfl rfl hS rfl ?_
          refine AK rfl rfl rfl rfl rfl hS rfl ?_
          refine AK rfl rfl rfl rfl rfl hS rfl ?_
          refine A1 rfl ?_
          refine OK rfl rfl rfl rfl rfl ?_
          refine OW_nil ⟨fun _ => hS, ?_⟩
          refine A1 rfl ?_
          refine OK rfl rfl rfl rfl rfl ?_
          refine OW_nil ⟨fun _ => hS, ?_⟩
          refine AK rfl rfl rfl rfl rfl hS rfl ?_
          refine A rfl hS (fun w9 h9 => by obtain ⟨g9, hle9, hs⟩ := h9; exact r_pickF (v := .bool false) rfl rfl rfl) rfl ?_
          refine A rfl hS (fun w9 h9 => by obtain ⟨g9, hle9, hs⟩ := h9; exact r_move (v := .bool false) rfl) rfl ?_
          refine AK rfl rfl rfl rfl rfl hS rfl ?_
          refine AK rfl rfl rfl rfl rfl hS rfl ?_
          refine AK rfl rfl rfl rfl rfl hS rfl ?_
          refine AK rfl rfl rfl rfl rfl hS rfl ?_
          refine AK rfl rfl rfl rfl rfl hS rfl ?_
          refine AK rfl rfl rfl rfl rfl hS rfl ?_
          refine AKU rfl rfl rfl rfl hS rfl ?_
          refine AKU rfl rfl rfl rfl hS rfl ?_
          refine AKU rfl rfl rfl rfl hS rfl ?_
          refine AKU rfl rfl rfl rfl hS rfl ?_
          refine AKU rfl rfl rfl rfl hS rfl ?_
          refine AKU rfl rfl rfl rfl hS rfl ?_
          refine AKU rfl rfl rfl rfl hS rfl ?_
          refine AKU rfl rfl rfl rfl hS rfl ?_
          refine AKU rfl rfl rfl rfl hS rfl ?_
          refine AKU rfl rfl rfl rfl hS rfl ?_
          refine AK rfl rfl rfl rfl rfl hS rfl ?_
          refine A rfl hS (fun w9 h9 => by obtain ⟨g9, hle9, hs⟩ := h9; exact r_pickF (v := .bool false) rfl rfl rfl) rfl ?_
          refine A rfl hS (fun w9 h9 => by obtain ⟨g9, hle9, hs⟩ := h9; exact r_assign (v := .bool false) rfl) rfl ?_
          refine AN ?_
          obtain rfl := Option.some.inj hM
          exact ⟨gg16, rfl, hagg11, (hs.sub (.cons _ (.cons _ .slnil)))⟩
      · clear hs
        rintro E w ⟨gg15, hE6, hlegg15, hs⟩
        have hM := hKhx2
        obtain ⟨E, rfl⟩ := open1 (E := E) hE6
        refine WP_ret ?_
        obtain rfl := Option.some.inj hM
        exact ⟨_, res1 Try.results6 (rv_tmp (v := .bool xv2) rfl), gg15, ⟨[.bool xv2], rfl, rfl⟩, hs.ext⟩

set_option maxRecDepth 100000 in
theorem law10_DfaClasses_ok {p1 : T_DFA} {p2 : (Vec 2)} {r : Bool} (hM : M.law10_DfaClasses p1 p2 = some r) {g0 : Hp} {w0 : World} (hi : Imm g0 w0) {cs1 : List Value} (hcs1 : tT_DFA.rel g0 cs1 p1) :
    CallsV Try.prog 7 #[.agg cs1.toArray, encV .u8 p2] w0 (fun v w' => ∃ g', (VRd tBool false g' v r) ∧ Ext g0 w0 g' w') := by
  unfold M.law10_DfaClasses at hM
  obtain ⟨cs2, cs3, cs4, rfl, hcs2, hcs3, hcs4⟩ := hcs1
  obtain ⟨v1, rfl, hRv1⟩ := hcs2
  obtain ⟨v2, rfl, hRv2⟩ := hcs3
  obtain ⟨v3, rfl, hRv3⟩ := hcs4
  have hs := Sep.start hi
  refine calls_of_WP (args := [.agg (List.toArray (α := Value) [v1, v2, v3]), encV .u8 p2]) Try.func7 rfl Try.ntmps7 rfl ?_
  refine WP_seq ?_
  refine WP_region ?_
  refine OW_box (v := .agg (List.toArray (α := Value) [v1, v2, v3])) rfl hs (zs := [v1, v2, v3]) rfl rfl ?_
  intro b1 wv1 hs
  refine OW_box (v := encV .u8 p2) rfl hs (zs := p2.1.map (.int .u8)) rfl rfl ?_
  intro b2 wv2 hs
  refine O (r_assign (v := .bool false) rfl) rfl ?_
  refine OW_nil ?_
  refine WP_seq ?_
  refine WP_seq ?_
  refine WP_region ?_
  refine O (r_loadN (cs := [v1, v2, v3]) ti25 rfl rfl (hs.cells (i := 1) rfl)) rfl ?_
  obtain ⟨rv1, hrv1, hM⟩ := bindS hM
  refine C [.agg (List.toArray (α := Value) [v1, v2, v3]), .int .i64 12, .int .i64 8] cf14 rfl (ref10_Small_ok hrv1 hs.imm (⟨[v1], [v2], [v3], rfl, ⟨_, rfl, hRv1⟩, ⟨_, rfl, hRv2⟩, ⟨_, rfl, hRv3⟩⟩)) rfl ?_
  rintro v4 wv3 ⟨gg1, hvv4, hegg1⟩
  have hlegg1 := hegg1.le hs.imm
  replace hs := hs.call hegg1
  replace hRv1 := hRv1.mono hlegg1
  replace hRv2 := hRv2.mono hlegg1
  replace hRv3 := hRv3.mono hlegg1
  obtain ⟨cs5, rfl, hcs5⟩ := hvv4
  have hcs5 : cs5 = _ := hcs5; subst hcs5
  refine O (r_not rfl) rfl ?_
  refine OW_nil ?_
  rcases condS hM with ⟨hc1, hM⟩ | ⟨hc1, hM⟩
  · refine WP_true rfl hc1 ?_
    refine WP_seq ?_
    refine WP_region ?_
    obtain ⟨rv2, hrv2, hM⟩ := bindS hM
    refine C [] cf9 rfl (law10_awake_ok hrv2 hs.imm) rfl ?_
    rintro v5 wv4 ⟨gg2, hvv5, hegg2⟩
    have hlegg2 := hegg2.le hs.imm
    replace hs := hs.call hegg2
    replace hRv1 := hRv1.mono hlegg2
    replace hRv2 := hRv2.mono hlegg2
    replace hRv3 := hRv3.mono hlegg2
    obtain ⟨cs6, rfl, hcs6⟩ := hvv5
    have hcs6 : cs6 = _ := hcs6; subst hcs6
    refine O (r_assign (v := .bool rv2) rfl) rfl ?_
    refine OW_nil ?_
    refine WP_ret ?_
    obtain rfl := Option.some.inj hM
    exact ⟨_, res1 Try.results7 (rv_tmp (v := .bool rv2) rfl), gg2, ⟨[.bool rv2], rfl, rfl⟩, hs.ext⟩
  · refine WP_false rfl hc1 ?_
    refine WP_skip ?_
    refine WP_seq ?_
    refine WP_region ?_
    refine O (r_loadN (cs := [v1, v2, v3]) ti25 rfl rfl (hs.cells (i := 1) rfl)) rfl ?_
    obtain ⟨rv3, hrv3, hM⟩ := bindS hM
    refine C [.agg (List.toArray (α := Value) [v1, v2, v3])] cf15 rfl (dfa_Minimize_ok hrv3 hs.imm (⟨[v1], [v2], [v3], rfl, ⟨_, rfl, hRv1⟩, ⟨_, rfl, hRv2⟩, ⟨_, rfl, hRv3⟩⟩)) rfl ?_
    rintro v6 wv5 ⟨gg3, hvv6, hegg3⟩
    have hlegg3 := hegg3.le hs.imm
    replace hs := hs.call hegg3
    replace hRv1 := hRv1.mono hlegg3
    replace hRv2 := hRv2.mono hlegg3
    replace hRv3 := hRv3.mono hlegg3
    obtain ⟨cs7, rfl, hcs7⟩ := hvv6
    obtain ⟨cs8, cs9, cs10, rfl, hcs8, hcs9, hcs10⟩ := hcs7
    obtain ⟨v7, rfl, hRv7⟩ := hcs8
    obtain ⟨v8, rfl, hRv8⟩ := hcs9
    obtain ⟨v9, rfl, hRv9⟩ := hcs10
    refine OW_alloc ti25 hs (zs := [.slice none 0 0, .slice none 0 0, .slice none 0 0]) rfl rfl ?_
    intro b3 wv6 hs
    refine OW_storeAll ti25 hs (i := 0) rfl rfl (v := .agg (List.toArray (α := Value) [v7, v8, v9])) rfl (vs := [v7, v8, v9]) rfl (one_cons (by obtain ⟨_, _, h9⟩ := hRv7.shape; rw [h9]; rfl) (one_cons (by obtain ⟨_, _, h9⟩ := hRv8.shape; rw [h9]; rfl) (one_cons (by obtain ⟨_, _, h9⟩ := hRv9.shape; rw [h9]; rfl) one_nil))) rfl rfl ?_
    intro wv7 hs
    refine OW_nil ?_
    refine WP_seq ?_
    refine WP_seq ?_
    refine WP_region ?_
    refine O (r_loadN (cs := [v7, v8, v9]) ti25 rfl rfl (hs.cells (i := 0) rfl)) rfl ?_
    obtain ⟨rv4, hrv4, hM⟩ := bindS hM
    refine C [.agg (List.toArray (α := Value) [v7, v8, v9])] cf10 rfl (ref10_Valid_ok hrv4 hs.imm (⟨[v7], [v8], [v9], rfl, ⟨_, rfl, hRv7⟩, ⟨_, rfl, hRv8⟩, ⟨_, rfl, hRv9⟩⟩)) rfl ?_
    rintro v10 wv8 ⟨gg4, hvv10, hegg4⟩
    have hlegg4 := hegg4.le hs.imm
    replace hs := hs.call hegg4
    replace hRv1 := hRv1.mono hlegg4
    replace hRv2 := hRv2.mono hlegg4
    replace hRv3 := hRv3.mono hlegg4
    replace hRv7 := hRv7.mono hlegg4
    replace hRv8 := hRv8.mono hlegg4
    replace hRv9 := hRv9.mono hlegg4
    obtain ⟨cs11, rfl, hcs11⟩ := hvv10
    have hcs11 : cs11 = _ := hcs11; subst hcs11
    refine O (r_not rfl) rfl ?_
    refine OW_nil ?_
    rcases condS hM with ⟨hc2, hM⟩ | ⟨hc2, hM⟩
    · refine WP_true rfl hc2 ?_
      refine WP_seq ?_
      refine WP_region ?_
      refine O (r_assign (v := .bool false) rfl) rfl ?_
      refine OW_nil ?_
      refine WP_ret ?_
      obtain rfl := Option.some.inj hM
      exact ⟨_, res1 Try.results7 (rv_tmp (v := .bool false) rfl), gg4, ⟨[.bool false], rfl, rfl⟩, hs.ext⟩
    · refine WP_false rfl hc2 ?_
      refine WP_skip ?_
      refine WP_seq ?_
      refine WP_draw mo (by decide +kernel) ?_
      have hs := hs.drew
      refine S (r_fieldAddr Try.underlying25 ti22 rfl rfl (by decide) rfl rfl) rfl ?_
      refine S (r_load (v := v7) ti22 rfl (hs.cell (i := 0) (o := 0) rfl rfl)) rfl ?_
      obtain ⟨c1, hc1, hM⟩ := bindS hM
      refine S (r_idxArr Try.underlying36 ti5 rfl rfl (vget_some hc1).1 (vget_some hc1).2.1) rfl ?_
      refine S (r_load ti5 rfl (hs.cell (i := 1) rfl (vget_cell hc1))) rfl ?_
      obtain ⟨e1, he1, hM⟩ := bindS hM
      obtain ⟨b4, ob4, cb4, hvb4, cs12, hcs12, hcb4⟩ := hRv7.at he1
      have hcs12 : cs12 = _ := hcs12; subst hcs12
      refine S (r_idxSl Try.underlying22 ti3 (v := v7) rfl hvb4 rfl (idxL_some he1).1 (idxL_some he1).2.1) rfl ?_
      refine S (r_loadEl (cs := [.int .i64 e1]) ti3 rfl rfl (.inr rfl) (hcb4 _ hs.imm) (v := .int .i64 e1) rfl) rfl ?_
      refine S (r_fieldAddr Try.underlying25 ti22 rfl rfl (by decide) rfl rfl) rfl ?_
      refine S (r_load (v := v7) ti22 rfl (hs.cell (i := 0) (o := 0) rfl rfl)) rfl ?_
      obtain ⟨c2, hc2, hM⟩ := bindS hM
      refine S (r_idxArr Try.underlying36 ti5 rfl rfl (vget_some hc2).1 (vget_some hc2).2.1) rfl ?_
      refine S (r_load ti5 rfl (hs.cell (i := 1) rfl (vget_cell hc2))) rfl ?_
      obtain ⟨e2, he2, hM⟩ := bindS hM
      obtain ⟨b5, ob5, cb5, hvb5, cs13, hcs13, hcb5⟩ := hRv7.at he2
      have hcs13 : cs13 = _ := hcs13; subst hcs13
      refine S (r_idxSl Try.underlying22 ti3 (v := v7) rfl hvb5 rfl (idxL_some he2).1 (idxL_some he2).2.1) rfl ?_
      refine S (r_loadEl (cs := [.int .i64 e2]) ti3 rfl rfl (.inr rfl) (hcb5 _ hs.imm) (v := .int .i64 e2) rfl) rfl ?_
      refine S (r_assign (v := .int .i64 e1) rfl) rfl ?_
      refine S (r_assign (v := .int .i64 e2) rfl) rfl ?_
      refine SW_nil ?_
      refine WP_seq ?_
      refine WP_region ?_
      refine O (r_assign (v := .bool true) rfl) rfl ?_
      refine OW_nil ?_
      obtain ⟨xv7, hx1, hKhx1⟩ := bindS hM
      refine WP_cut (fun E w => E 5 = .pointer (some ⟨b3, 0, none⟩) ∧ E 6 = .int .i64 e1 ∧ E 7 = .int .i64 e2 ∧ E 8 = .bool xv7 ∧ Go.Lx.Sep g0 w0 gg4 w [Go.Lx.box b3 25 ([v7, v8, v9])]) ?_ ?_
      · have hM := hx1
        have hagg4 := Hle.refl gg4
        refine WP_seq ?_
        refine WP_region ?_
        refine O (r_assign (v := .int .i64 0) rfl) rfl ?_
        refine OW_nil ?_
        refine WP_block ?_
        refine WP_loop (fun (st9 : Bool × Int) E w => match st9 with | (xv10, xv11) => E 5 = .pointer (some ⟨b3, 0, none⟩) ∧ E 6 = .int .i64 e1 ∧ E 7 = .int .i64 e2 ∧ E 8 = .bool xv10 ∧ E 9 = .int .i64 xv11 ∧ Go.Lx.Sep g0 w0 gg4 w [Go.Lx.box b3 25 ([v7, v8, v9])]) hM ⟨rfl, rfl, rfl, rfl, rfl, (hs.sub (.cons_cons _ (.cons _ (.cons _ .slnil))))⟩ ?_
        clear hs hM
        rintro ⟨xv10, xv11⟩ o2 E w hM ⟨hE5, hE6, hE7, hE8, hE9, hs⟩
        obtain ⟨E, rfl⟩ := open1 (E := E) hE5
        obtain ⟨E, rfl⟩ := open1 (E := E) hE6
        obtain ⟨E, rfl⟩ := open1 (E := E) hE7
        obtain ⟨E, rfl⟩ := open1 (E := E) hE8
        obtain ⟨E, rfl⟩ := open1 (E := E) hE9
        refine WP_seq ?_
        refine WP_seq ?_
        refine WP_region ?_
        refine O (r_move (v := .int .i64 xv11) rfl) rfl ?_
        refine O (r_fieldAddr Try.underlying25 ti23 rfl rfl (by decide) rfl rfl) rfl ?_
        refine O (r_load (v := v8) ti23 rfl (hs.cell (i := 0) (o := 1) rfl rfl)) rfl ?_
        obtain ⟨a6, ca6, hva6⟩ := hRv8.shape
        refine O (r_lenSl (v := v8) Try.underlying23 rfl hva6) rfl ?_
        refine O (r_lss rfl rfl) rfl ?_
        refine OW_nil ?_
        rcases condS hM with ⟨hc8, hM⟩ | ⟨hc8, hM⟩
        · refine WP_true rfl hc8 ?_
          refine WP_skip ?_
          refine WP_seq ?_
          refine WP_block ?_
          refine WP_draw mo (by decide +kernel) ?_
          have hs := hs.drew
          refine S (r_move (v := .bool xv10) rfl) rfl ?_
          refine S (r_move (v := .bool xv10) rfl) rfl ?_
          rcases condS hM with ⟨hg4, hM⟩ | ⟨hg4, hM⟩
          · refine SG rfl rfl rfl (by rw [hg4]; rfl) (r_fieldAddr Try.underlying25 ti23 rfl rfl (by decide) rfl rfl) rfl ?_
            refine SG rfl rfl rfl (by rw [hg4]; rfl) (r_load (v := v8) ti23 rfl (hs.cell (i := 0) (o := 1) rfl rfl)) rfl ?_
            refine SG rfl rfl rfl (by rw [hg4]; rfl) (r_move (v := .int .i64 xv11) rfl) rfl ?_
            obtain ⟨e18, he18, hM⟩ := bindS hM
            obtain ⟨b26, ob26, cb26, hvb26, cs34, hcs34, hcb26⟩ := hRv8.at he18
            obtain ⟨v21, rfl, hRv21⟩ := hcs34
            refine SG rfl rfl rfl (by rw [hg4]; rfl) (r_idxSl Try.underlying23 ti22 (v := v8) rfl hvb26 rfl (idxL_some he18).1 (idxL_some he18).2.1) rfl ?_
            refine SG rfl rfl rfl (by rw [hg4]; rfl) (r_loadEl (cs := [v21]) ti22 rfl rfl (.inr rfl) (hcb26 _ hs.imm) (v := v21) rfl) rfl ?_
            refine SG rfl rfl rfl (by rw [hg4]; rfl) (r_move (v := .int .i64 e1) rfl) rfl ?_
            obtain ⟨e19, he19, hM⟩ := bindS hM
            obtain ⟨b27, ob27, cb27, hvb27, cs35, hcs35, hcb27⟩ := hRv21.at he19
            have hcs35 : cs35 = _ := hcs35; subst hcs35
            refine SG rfl rfl rfl (by rw [hg4]; rfl) (r_idxSl Try.underlying22 ti3 (v := v21) rfl hvb27 rfl (idxL_some he19).1 (idxL_some he19).2.1) rfl ?_
            refine SG rfl rfl rfl (by rw [hg4]; rfl) (r_loadEl (cs := [.int .i64 e19]) ti3 rfl rfl (.inr rfl) (hcb27 _ hs.imm) (v := .int .i64 e19) rfl) rfl ?_
            refine SG rfl rfl rfl (by rw [hg4]; rfl) (r_fieldAddr Try.underlying25 ti23 rfl rfl (by decide) rfl rfl) rfl ?_
            refine SG rfl rfl rfl (by rw [hg4]; rfl) (r_load (v := v8) ti23 rfl (hs.cell (i := 0) (o := 1) rfl rfl)) rfl ?_
            refine SG rfl rfl rfl (by rw [hg4]; rfl) (r_move (v := .int .i64 xv11) rfl) rfl ?_
            obtain ⟨b28, ob28, cb28, hvb28, cs36, hcs36, hcb28⟩ := hRv8.at he18
            obtain ⟨v22, rfl, hRv22⟩ := hcs36
            refine SG rfl rfl rfl (by rw [hg4]; rfl) (r_idxSl Try.underlying23 ti22 (v := v8) rfl hvb28 rfl (idxL_some he18).1 (idxL_some he18).2.1) rfl ?_
            refine SG rfl rfl rfl (by rw [hg4]; rfl) (r_loadEl (cs := [v22]) ti22 rfl rfl (.inr rfl) (hcb28 _ hs.imm) (v := v22) rfl) rfl ?_
            refine SG rfl rfl rfl (by rw [hg4]; rfl) (r_move (v := .int .i64 e2) rfl) rfl ?_
            obtain ⟨e20, he20, hM⟩ := bindS hM
            obtain ⟨b29, ob29, cb29, hvb29, cs37, hcs37, hcb29⟩ := hRv22.at he20
            have hcs37 : cs37 = _ := hcs37; subst hcs37
            refine SG rfl rfl rfl (by rw [hg4]; rfl) (r_idxSl Try.underlying22 ti3 (v := v22) rfl hvb29 rfl (idxL_some he20).1 (idxL_some he20).2.1) rfl ?_
            refine SG rfl rfl rfl (by rw [hg4]; rfl) (r_loadEl (cs := [.int .i64 e20]) ti3 rfl rfl (.inr rfl) (hcb29 _ hs.imm) (v := .int .i64 e20) rfl) rfl ?_
            refine SG rfl rfl rfl (by rw [hg4]; rfl) (r_eql rfl rfl) rfl ?_
            refine S (r_pickT (v := .bool (e19 == e20)) rfl hg4 rfl) rfl ?_
            refine S (r_assign (v := .bool (e19 == e20)) rfl) rfl ?_
            refine SW_nil ?_
            refine WP_region ?_
            refine O (r_move (v := .int .i64 xv11) rfl) rfl ?_
            obtain ⟨t9, ht9, hM⟩ := bindS hM
            refine O (r_addM rfl rfl ht9) rfl ?_
            refine O (r_assign (v := .int .i64 t9) rfl) rfl ?_
            refine OW_nil ?_
            obtain rfl := Option.some.inj hM
            exact ⟨rfl, rfl, rfl, rfl, rfl, hs⟩
          · refine SK rfl rfl rfl (by rw [hg4]; rfl) rfl ?_
            refine SK rfl rfl rfl (by rw [hg4]; rfl) rfl ?_
            refine SK rfl rfl rfl (by rw [hg4]; rfl) rfl ?_
            refine SK rfl rfl rfl (by rw [hg4]; rfl) rfl ?_
            refine SK rfl rfl rfl (by rw [hg4]; rfl) rfl ?_
            refine SK rfl rfl rfl (by rw [hg4]; rfl) rfl ?_
            refine SK rfl rfl rfl (by rw [hg4]; rfl) rfl ?_
            refine SK rfl rfl rfl (by rw [hg4]; rfl) rfl ?_
            refine SK rfl rfl rfl (by rw [hg4]; rfl) rfl ?_
            refine SK rfl rfl rfl (by rw [hg4]; rfl) rfl ?_
            refine SK rfl rfl rfl (by rw [hg4]; rfl) rfl ?_
            refine SK rfl rfl rfl (by rw [hg4]; rfl) rfl ?_
            refine SK rfl rfl rfl (by rw [hg4]; rfl) rfl ?_
            refine SK rfl rfl rfl (by rw [hg4]; rfl) rfl ?_
            refine SK rfl rfl rfl (by rw [hg4]; rfl) rfl ?_
            refine SK rfl rfl rfl (by rw [hg4]; rfl) rfl ?_
            refine SK rfl rfl rfl (by rw [hg4]; rfl) rfl ?_
            refine S (r_pickF (v := .bool false) rfl hg4 rfl) rfl ?_
            refine S (r_assign (v := .bool false) rfl) rfl ?_
            refine SW_nil ?_
            refine WP_region ?_
            refine O (r_move (v := .int .i64 xv11) rfl) rfl ?_
            obtain ⟨t10, ht10, hM⟩ := bindS hM
            refine O (r_addM rfl rfl ht10) rfl ?_
            refine O (r_assign (v := .int .i64 t10) rfl) rfl ?_
            refine OW_nil ?_
            obtain rfl := Option.some.inj hM
            exact ⟨rfl, rfl, rfl, rfl, rfl, hs⟩
        · refine WP_false rfl hc8 ?_
          refine WP_exit ?_
          obtain rfl := Option.some.inj hM
          refine fun hr => ?_
          have hM := congrArg some hr
          obtain rfl := Option.some.inj hM
          exact ⟨rfl, rfl, rfl, rfl, hs⟩
      · clear hs
        rintro E w ⟨hE5, hE6, hE7, hE8, hs⟩
        have hM := hKhx1
        obtain ⟨E, rfl⟩ := open1 (E := E) hE5
        obtain ⟨E, rfl⟩ := open1 (E := E) hE6
        obtain ⟨E, rfl⟩ := open1 (E := E) hE7
        obtain ⟨E, rfl⟩ := open1 (E := E) hE8
        refine WP_seq ?_
        refine WP_region ?_
        refine O (r_assign (v := .int .i64 0) rfl) rfl ?_
        refine OW_nil ?_
        obtain ⟨o11, hx5, hKhx5⟩ := stepS hM
        refine WP_cut (fun E w => ∃ (xv20 : Int), o11 = .next xv20 ∧ E 5 = .pointer (some ⟨b3, 0, none⟩) ∧ E 6 = .int .i64 e1 ∧ E 7 = .int .i64 e2 ∧ E 8 = .bool xv7 ∧ E 10 = .int .i64 xv20 ∧ Go.Lx.Sep g0 w0 gg4 w [Go.Lx.box b3 25 ([v7, v8, v9])]) ?_ ?_
        · have hM := hx5
          have hagg4 := Hle.refl gg4
          refine WP_seq ?_
          refine WP_region ?_
          refine O (r_assign (v := .int .i64 0) rfl) rfl ?_
          refine OW_nil ?_
          refine WP_block ?_
          refine WP_loop (fun (st9 : Int × Int) E w => match st9 with | (xv23, xv24) => E 5 = .pointer (some ⟨b3, 0, none⟩) ∧ E 6 = .int .i64 e1 ∧ E 7 = .int .i64 e2 ∧ E 8 = .bool xv7 ∧ E 10 = .int .i64 xv23 ∧ E 11 = .int .i64 xv24 ∧ Go.Lx.Sep g0 w0 gg4 w [Go.Lx.box b3 25 ([v7, v8, v9])]) hM ⟨rfl, rfl, rfl, rfl, rfl, rfl, hs⟩ ?_
          clear hs hM
          rintro ⟨xv23, xv24⟩ o9 E w hM ⟨hE5, hE6, hE7, hE8, hE10, hE11, hs⟩
          obtain ⟨E, rfl⟩ := open1 (E := E) hE5
          obtain ⟨E, rfl⟩ := open1 (E := E) hE6
          obtain ⟨E, rfl⟩ := open1 (E := E) hE7
          obtain ⟨E, rfl⟩ := open1 (E := E) hE8
          obtain ⟨E, rfl⟩ := open1 (E := E) hE10
          obtain ⟨E, rfl⟩ := open1 (E := E) hE11
          refine WP_seq ?_
          refine WP_seq ?_
          refine WP_region ?_
          refine O (r_move (v := .int .i64 xv24) rfl) rfl ?_
          refine O (r_lss rfl rfl) rfl ?_
          refine OW_nil ?_
          rcases condS hM with ⟨hc34, hM⟩ | ⟨hc34, hM⟩
          · refine WP_true rfl hc34 ?_
            refine WP_skip ?_
            obtain ⟨o10, hx8, hKhx8⟩ := stepS hM
            refine WP_cut (fun E w => ∃ (t32 : Int), o10 = .next t32 ∧ E 5 = .pointer (some ⟨b3, 0, none⟩) ∧ E 6 = .int .i64 e1 ∧ E 7 = .int .i64 e2 ∧ E 8 = .bool xv7 ∧ E 10 = .int .i64 t32 ∧ E 11 = .int .i64 xv24 ∧ Go.Lx.Sep g0 w0 gg4 w [Go.Lx.box b3 25 ([v7, v8, v9])]) ?_ ?_
            · have hM := hx8
              refine WP_block ?_
              refine WP_seq ?_
              refine WP_seq ?_
              refine WP_region ?_
              refine O (r_fieldAddr Try.underlying25 ti22 rfl rfl (by decide) rfl rfl) rfl ?_
              refine O (r_load (v := v7) ti22 rfl (hs.cell (i := 0) (o := 0) rfl rfl)) rfl ?_
              refine O (r_move (v := .int .i64 xv24) rfl) rfl ?_
              obtain ⟨e32, he32, hM⟩ := bindS hM
              obtain ⟨b52, ob52, cb52, hvb52, cs60, hcs60, hcb52⟩ := hRv7.at he32
              have hcs60 : cs60 = _ := hcs60; subst hcs60
              refine O (r_idxSl Try.underlying22 ti3 (v := v7) rfl hvb52 rfl (idxL_some he32).1 (idxL_some he32).2.1) rfl ?_
              refine O (r_loadEl (cs := [.int .i64 e32]) ti3 rfl rfl (.inr rfl) (hcb52 _ hs.imm) (v := .int .i64 e32) rfl) rfl ?_
              refine O (r_move (v := .int .i64 xv23) rfl) rfl ?_
              refine O (r_gtr rfl rfl) rfl ?_
              refine OW_nil ?_
              rcases condS hM with ⟨hc37, hM⟩ | ⟨hc37, hM⟩
              · refine WP_true rfl hc37 ?_
                refine WP_seq ?_
                refine WP_region ?_
                refine O (r_assign (v := .bool false) rfl) rfl ?_
                refine OW_nil ?_
                refine WP_ret ?_
                obtain rfl := Option.some.inj hM
                have hM := hKhx8
                obtain rfl := Option.some.inj hM
                refine fun hr => ?_
                have hM := congrArg some hr
                obtain rfl := Option.some.inj hM
                have hM := hKhx5
                obtain rfl := Option.some.inj hM
                exact ⟨_, res1 Try.results7 (rv_tmp (v := .bool false) rfl), gg4, ⟨[.bool false], rfl, rfl⟩, hs.ext⟩
              · refine WP_false rfl hc37 ?_
                refine WP_skip ?_
                refine WP_seq ?_
                refine WP_region ?_
                refine O (r_fieldAddr Try.underlying25 ti22 rfl rfl (by decide) rfl rfl) rfl ?_
                refine O (r_load (v := v7) ti22 rfl (hs.cell (i := 0) (o := 0) rfl rfl)) rfl ?_
                refine O (r_move (v := .int .i64 xv24) rfl) rfl ?_
                obtain ⟨b53, ob53, cb53, hvb53, cs61, hcs61, hcb53⟩ := hRv7.at he32
                have hcs61 : cs61 = _ := hcs61; subst hcs61
                refine O (r_idxSl Try.underlying22 ti3 (v := v7) rfl hvb53 rfl (idxL_some he32).1 (idxL_some he32).2.1) rfl ?_
                refine O (r_loadEl (cs := [.int .i64 e32]) ti3 rfl rfl (.inr rfl) (hcb53 _ hs.imm) (v := .int .i64 e32) rfl) rfl ?_
                refine O (r_move (v := .int .i64 xv23) rfl) rfl ?_
                refine O (r_eql rfl rfl) rfl ?_
                refine OW_nil ?_
                rcases condS hM with ⟨hc38, hM⟩ | ⟨hc38, hM⟩
                · refine WP_true rfl hc38 ?_
                  refine WP_region ?_
                  refine O (r_move (v := .int .i64 xv23) rfl) rfl ?_
                  obtain ⟨t33, ht33, hM⟩ := bindS hM
                  refine O (r_addM rfl rfl ht33) rfl ?_
                  refine O (r_assign (v := .int .i64 t33) rfl) rfl ?_
                  refine OW_nil ?_
                  obtain rfl := Option.some.inj hM
                  exact ⟨t33, rfl, rfl, rfl, rfl, rfl, rfl, rfl, hs⟩
                · refine WP_false rfl hc38 ?_
                  refine WP_skip ?_
                  obtain rfl := Option.some.inj hM
                  exact ⟨xv23, rfl, rfl, rfl, rfl, rfl, rfl, rfl, hs⟩
            · clear hs
              rintro E w ⟨t32, rfl, hE5, hE6, hE7, hE8, hE10, hE11, hs⟩
              have hM := hKhx8
              dsimp only [onStep] at hM
              obtain ⟨E, rfl⟩ := open1 (E := E) hE5
              obtain ⟨E, rfl⟩ := open1 (E := E) hE6
              obtain ⟨E, rfl⟩ := open1 (E := E) hE7
              obtain ⟨E, rfl⟩ := open1 (E := E) hE8
              obtain ⟨E, rfl⟩ := open1 (E := E) hE10
              obtain ⟨E, rfl⟩ := open1 (E := E) hE11
              refine WP_region ?_
              refine O (r_move (v := .int .i64 xv24) rfl) rfl ?_
              obtain ⟨t34, ht34, hM⟩ := bindS hM
              refine O (r_addM rfl rfl ht34) rfl ?_
              refine O (r_assign (v := .int .i64 t34) rfl) rfl ?_
              refine OW_nil ?_
              obtain rfl := Option.some.inj hM
              exact ⟨rfl, rfl, rfl, rfl, rfl, rfl, hs⟩
          · refine WP_false rfl hc34 ?_
            refine WP_exit ?_
            obtain rfl := Option.some.inj hM
            refine fun hr => ?_
            have hM := congrArg some hr
            obtain rfl := Option.some.inj hM
            exact ⟨xv23, rfl, rfl, rfl, rfl, rfl, rfl, hs⟩
        · clear hs
          rintro E w ⟨xv20, rfl, hE5, hE6, hE7, hE8, hE10, hs⟩
          have hM := hKhx5
          dsimp only [onStep] at hM
          obtain ⟨E, rfl⟩ := open1 (E := E) hE5
          obtain ⟨E, rfl⟩ := open1 (E := E) hE6
          obtain ⟨E, rfl⟩ := open1 (E := E) hE7
          obtain ⟨E, rfl⟩ := open1 (E := E) hE8
          obtain ⟨E, rfl⟩ := open1 (E := E) hE10
          obtain ⟨rv8, hx9, hKhx9⟩ := bindS hM
          refine WP_cut (fun E w => ∃ (gg8 : Hp), E 4 = .bool rv8 ∧ Hle gg4 gg8 ∧ Go.Lx.Sep g0 w0 gg8 w []) ?_ ?_
          · have hM := hx9
            have hagg4 := Hle.refl gg4
            refine WP_any (.s 0 (.q 1 (.q 2 (.q 3 (.q 4 (.q 5 (.q 6 (.q 7 (.q 8 (.q 9 (.q 10 (.q 11 (.q 12 (.q 13 (.q 14 (.q 15 (.q 16 (.q 17 (.q 18 (.q 19 (.q 20 (.s 21 (.q 22 (.s 23 (.q 24 (.q 25 (.leaf))))))))))))))))))))))))))) (SS g0 w0 gg4 [Go.Lx.box b3 25 ([v7, v8, v9])]) mo (by decide +kernel) (fun _ _ _ h => h) ?_
            have hs := hs.drew
            have hRv7b := hRv7
            have hRv8b := hRv8
            have hRv9b := hRv9
            have hS : SS g0 w0 gg4 [Go.Lx.box b3 25 ([v7, v8, v9])] _ := ⟨gg4, Hle.refl _, hs⟩
            refine A1 rfl ?_
            obtain ⟨rv9, hrv9, hM⟩ := bindS hM
            refine C [] cf9 rfl (law10_awake_ok hrv9 hs.imm) rfl ?_
            rintro v30 wv12 ⟨gg9, hvv30, hegg9⟩
            have hlegg9 := hegg9.le hs.imm
            replace hs := hs.call hegg9
            replace hRv7 := hRv7.mono hlegg9
            replace hRv8 := hRv8.mono hlegg9
            replace hRv9 := hRv9.mono hlegg9
            replace hagg4 := hagg4.trans hlegg9
            obtain ⟨cs69, rfl, hcs69⟩ := hvv30
            have hcs69 : cs69 = _ := hcs69; subst hcs69
            refine OW_nil ?_
            have hS : SS g0 w0 gg4 [Go.Lx.box b3 25 ([v7, v8, v9])] _ := ⟨gg9, hagg4, hs⟩
            refine ⟨fun _ => hS, ?_⟩
            refine A rfl hS (fun w9 h9 => by obtain ⟨g9, hle9, hs⟩ := h9; exact r_move (v := .bool rv9) rfl) rfl ?_
            rcases condS hM with ⟨hg8, hM⟩ | ⟨hg8, hM⟩
            · refine AG rfl rfl rfl rfl (by rw [hg8]; rfl) hS (fun w9 h9 => by obtain ⟨g9, hle9, hs⟩ := h9; exact r_move (v := .int .i64 e1) rfl) rfl ?_
              refine AG rfl rfl rfl rfl (by rw [hg8]; rfl) hS (fun w9 h9 => by obtain ⟨g9, hle9, hs⟩ := h9; exact r_move (v := .int .i64 e2) rfl) rfl ?_
              refine AG rfl rfl rfl rfl (by rw [hg8]; rfl) hS (fun w9 h9 => by obtain ⟨g9, hle9, hs⟩ := h9; exact r_eql rfl rfl) rfl ?_
              refine AG rfl rfl rfl rfl (by rw [hg8]; rfl) hS (fun w9 h9 => by obtain ⟨g9, hle9, hs⟩ := h9; exact r_move (v := .bool xv7) rfl) rfl ?_
              refine AG rfl rfl rfl rfl (by rw [hg8]; rfl) hS (fun w9 h9 => by obtain ⟨g9, hle9, hs⟩ := h9; exact r_eqlB Try.underlying4 rfl rfl) rfl ?_
              refine A rfl hS (fun w9 h9 => by obtain ⟨g9, hle9, hs⟩ := h9; exact r_pickT (v := .bool ((e1 == e2) == xv7)) rfl hg8 rfl) rfl ?_
              refine A rfl hS (fun w9 h9 => by obtain ⟨g9, hle9, hs⟩ := h9; exact r_move (v := .bool ((e1 == e2) == xv7)) rfl) rfl ?_
              rcases condS hM with ⟨hg9, hM⟩ | ⟨hg9, hM⟩
              · refine AG rfl rfl rfl rfl (by rw [hg9]; rfl) hS (fun w9 h9 => by obtain ⟨g9, hle9, hs⟩ := h9; exact r_move (v := .int .i64 xv20) rfl) rfl ?_
                refine AG rfl rfl rfl rfl (by rw [hg9]; rfl) hS (fun w9 h9 => by obtain ⟨g9, hle9, hs⟩ := h9; exact r_fieldAddr Try.underlying25 ti23 rfl rfl (by decide) rfl rfl) rfl ?_
                refine AG rfl rfl rfl rfl (by rw [hg9]; rfl) hS (fun w9 h9 => by obtain ⟨g9, hle9, hs⟩ := h9; exact r_load (v := v8) ti23 rfl (hs.cell (i := 0) (o := 1) rfl rfl)) rfl ?_
                obtain ⟨e34, he34, hM⟩ := bindS hM
                obtain ⟨b55, ob55, cb55, hvb55, cs70, hcs70, hcb55⟩ := hRv8b.at he34
                obtain ⟨v31, rfl, hRv31⟩ := hcs70
                have hRv31b := hRv31
                replace hRv31 := hRv31.mono hagg4
                refine AG rfl rfl rfl rfl (by rw [hg9]; rfl) hS (fun w9 h9 => by obtain ⟨g9, hle9, hs⟩ := h9; exact r_idxSl Try.underlying23 ti22 (v := v8) rfl hvb55 rfl (idxL_some he34).1 (idxL_some he34).2.1) rfl ?_
                refine AG rfl rfl rfl rfl (by rw [hg9]; rfl) hS (fun w9 h9 => by obtain ⟨g9, hle9, hs⟩ := h9; exact r_loadEl (cs := [v31]) ti22 rfl rfl (.inr rfl) (hcb55 _ (hs.imm.of_le hle9)) (v := v31) rfl) rfl ?_
                obtain ⟨a8, ca8, hva8⟩ := hRv31.shape
                refine AG rfl rfl rfl rfl (by rw [hg9]; rfl) hS (fun w9 h9 => by obtain ⟨g9, hle9, hs⟩ := h9; exact r_lenSl (v := v31) Try.underlying22 rfl hva8) rfl ?_
                refine AG rfl rfl rfl rfl (by rw [hg9]; rfl) hS (fun w9 h9 => by obtain ⟨g9, hle9, hs⟩ := h9; exact r_eql rfl rfl) rfl ?_
                refine A rfl hS (fun w9 h9 => by obtain ⟨g9, hle9, hs⟩ := h9; exact r_pickT (v := .bool (xv20 == (e34.length : Int))) rfl hg9 rfl) rfl ?_
                refine A rfl hS (fun w9 h9 => by obtain ⟨g9, hle9, hs⟩ := h9; exact r_move (v := .bool (xv20 == (e34.length : Int))) rfl) rfl ?_
                rcases condS hM with ⟨hg10, hM⟩ | ⟨hg10, hM⟩
                · refine AG rfl rfl rfl rfl (by rw [hg10]; rfl) hS (fun w9 h9 => by obtain ⟨g9, hle9, hs⟩ := h9; exact r_fieldAddr Try.underlying25 ti22 rfl rfl (by decide) rfl rfl) rfl ?_
                  refine AG rfl rfl rfl rfl (by rw [hg10]; rfl) hS (fun w9 h9 => by obtain ⟨g9, hle9, hs⟩ := h9; exact r_load (v := v7) ti22 rfl (hs.cell (i := 0) (o := 0) rfl rfl)) rfl ?_
                  refine AG rfl rfl rfl rfl (by rw [hg10]; rfl) hS (fun w9 h9 => by obtain ⟨g9, hle9, hs⟩ := h9; exact r_loadN (cs := [v7, v8, v9]) ti25 rfl rfl (hs.cells (i := 0) rfl)) rfl ?_
                  refine A1 rfl ?_
                  obtain ⟨rv10, hrv10, hM⟩ := bindS hM
                  refine CG rfl rfl rfl (by rw [hg10]; rfl) [.agg (List.toArray (α := Value) [v7, v8, v9])] cf15 rfl (dfa_Minimize_ok hrv10 hs.imm (⟨[v7], [v8], [v9], rfl, ⟨_, rfl, hRv7⟩, ⟨_, rfl, hRv8⟩, ⟨_, rfl, hRv9⟩⟩)) rfl ?_
                  rintro v32 wv13 ⟨gg10, hvv32, hegg10⟩
                  have hlegg10 := hegg10.le hs.imm
                  replace hs := hs.call hegg10
                  replace hRv7 := hRv7.mono hlegg10
                  replace hRv8 := hRv8.mono hlegg10
                  replace hRv9 := hRv9.mono hlegg10
                  replace hRv31 := hRv31.mono hlegg10
                  replace hagg4 := hagg4.trans hlegg10
                  obtain ⟨cs71, rfl, hcs71⟩ := hvv32
                  obtain ⟨cs72, cs73, cs74, rfl, hcs72, hcs73, hcs74⟩ := hcs71
                  obtain ⟨v33, rfl, hRv33⟩ := hcs72
                  obtain ⟨v34, rfl, hRv34⟩ := hcs73
                  obtain ⟨v35, rfl, hRv35⟩ := hcs74
                  refine OW_nil ?_
                  have hS : SS g0 w0 gg4 [Go.Lx.box b3 25 ([v7, v8, v9])] _ := ⟨gg10, hagg4, hs⟩
                  refine ⟨fun _ => hS, ?_⟩
                  refine AG rfl rfl rfl rfl (by rw [hg10]; rfl) hS (fun w9 h9 => by obtain ⟨g9, hle9, hs⟩ := h9; exact r_field (cs := [v33, v34, v35]) (ds := [v33]) (v := v33) Try.underlying25 ti22 rfl rfl rfl ([]) ([v34, v35]) rfl rfl rfl rfl (.inr rfl)) rfl ?_
                  refine A1 rfl ?_
                  obtain ⟨rv11, hrv11, hM⟩ := bindS hM
                  refine CG rfl rfl rfl (by rw [hg10]; rfl) [v7, v33] cf19 rfl (ref07_Ints_ok hrv11 hs.imm hRv7 hRv33) rfl ?_
                  rintro v36 wv14 ⟨gg11, hvv36, hegg11⟩
                  have hlegg11 := hegg11.le hs.imm
                  replace hs := hs.call hegg11
                  replace hRv7 := hRv7.mono hlegg11
                  replace hRv8 := hRv8.mono hlegg11
                  replace hRv9 := hRv9.mono hlegg11
                  replace hRv31 := hRv31.mono hlegg11
                  replace hRv33 := hRv33.mono hlegg11
                  replace hRv34 := hRv34.mono hlegg11
                  replace hRv35 := hRv35.mono hlegg11
                  replace hagg4 := hagg4.trans hlegg11
                  obtain ⟨cs75, rfl, hcs75⟩ := hvv36
                  have hcs75 : cs75 = _ := hcs75; subst hcs75
                  refine OW_nil ?_
                  have hS : SS g0 w0 gg4 [Go.Lx.box b3 25 ([v7, v8, v9])] _ := ⟨gg11, hagg4, hs⟩
                  refine ⟨fun _ => hS, ?_⟩
                  refine A rfl hS (fun w9 h9 => by obtain ⟨g9, hle9, hs⟩ := h9; exact r_pickT (v := .bool rv11) rfl hg10 rfl) rfl ?_
                  refine A rfl hS (fun w9 h9 => by obtain ⟨g9, hle9, hs⟩ := h9; exact r_assign (v := .bool rv11) rfl) rfl ?_
                  refine AN ?_
                  obtain rfl := Option.some.inj hM
                  exact ⟨gg11, rfl, hagg4, (hs.sub (.cons _ .slnil))⟩
                · refine AK rfl rfl rfl rfl (by rw [hg10]; rfl) hS rfl ?_
                  refine AK rfl rfl rfl rfl (by rw [hg10]; rfl) hS rfl ?_
                  refine AK rfl rfl rfl rfl (by rw [hg10]; rfl) hS rfl ?_
                  refine A1 rfl ?_
                  refine OK rfl rfl rfl (by rw [hg10]; rfl) rfl ?_
                  refine OW_nil ⟨fun _ => hS, ?_⟩
                  refine AK rfl rfl rfl rfl (by rw [hg10]; rfl) hS rfl ?_
                  refine A1 rfl ?_
                  refine OK rfl rfl rfl (by rw [hg10]; rfl) rfl ?_
                  refine OW_nil ⟨fun _ => hS, ?_⟩
                  refine A rfl hS (fun w9 h9 => by obtain ⟨g9, hle9, hs⟩ := h9; exact r_pickF (v := .bool false) rfl hg10 rfl) rfl ?_
                  refine A rfl hS (fun w9 h9 => by obtain ⟨g9, hle9, hs⟩ := h9; exact r_assign (v := .bool false) rfl) rfl ?_
                  refine AN ?_
                  obtain rfl := Option.some.inj hM
                  exact ⟨gg9, rfl, hagg4, (hs.sub (.cons _ .slnil))⟩
              · refine AK rfl rfl rfl rfl (by rw [hg9]; rfl) hS rfl ?_
                refine AK rfl rfl rfl rfl (by rw [hg9]; rfl) hS rfl ?_
                refine AK rfl rfl rfl rfl (by rw [hg9]; rfl) hS rfl ?_
                refine AK rfl rfl rfl rfl (by rw [hg9]; rfl) hS rfl ?_
                refine AK rfl rfl rfl rfl (by rw [hg9]; rfl) hS rfl ?_
                refine AK rfl rfl rfl rfl (by rw [hg9]; rfl) hS rfl ?_
                refine AK rfl rfl rfl rfl (by rw [hg9]; rfl) hS rfl ?_
                refine A rfl hS (fun w9 h9 => by obtain ⟨g9, hle9, hs⟩ := h9; exact r_pickF (v := .bool false) rfl hg9 rfl) rfl ?_
                refine A rfl hS (fun w9 h9 => by obtain ⟨g9, hle9, hs⟩ := h9; exact r_move (v := .bool false) rfl) rfl ?_
                refine AK rfl rfl rfl rfl rfl hS rfl ?_
                refine AK rfl rfl rfl rfl rfl hS rfl ?_
                refine AK rfl rfl rfl rfl rfl hS rfl ?_
                refine A1 rfl ?_
                refine OK rfl rfl rfl rfl rfl ?_
                refine OW_nil ⟨fun _ => hS, ?_⟩
                refine AK rfl rfl rfl rfl rfl hS rfl ?_
                refine A1 rfl ?_
                refine OK rfl rfl rfl rfl rfl ?_
                refine OW_nil ⟨fun _ => hS, ?_⟩
                refine A rfl hS (fun w9 h9 => by obtain ⟨g9, hle9, hs⟩ := h9; exact r_pickF (v := .bool false) rfl rfl rfl) rfl ?_
                refine A rfl hS (fun w9 h9 => by obtain ⟨g9, hle9, hs⟩ := h9; exact r_assign (v := .bool false) rfl) rfl ?_
                refine AN ?_
                obtain rfl := Option.some.inj hM
                exact ⟨gg9, rfl, hagg4, (hs.sub (.cons _ .slnil))⟩
            · refine AK rfl rfl rfl rfl (by rw [hg8]; rfl) hS rfl ?_
              refine AK rfl rfl rfl rfl (by rw [hg8]; rfl) hS rfl ?_
              refine AK rfl rfl rfl rfl (by rw [hg8]; rfl) hS rfl ?_
              refine AK rfl rfl rfl rfl (by rw [hg8]; rfl) hS rfl ?_
              refine AK rfl rfl rfl rfl (by rw [hg8]; rfl) hS rfl ?_
              refine A rfl hS (fun w9 h9 => by obtain ⟨g9, hle9, hs⟩ := h9; exact r_pickF (v := .bool false) rfl hg8 rfl) rfl ?_
              refine A rfl hS (fun w9 h9 => by obtain ⟨g9, hle9, hs⟩ := h9; exact r_move (v := .bool false) rfl) rfl ?_
              refine AK rfl rfl rfl rfl rfl hS rfl ?_
              refine AK rfl rfl rfl rfl rfl hS rfl ?_
              refine AK rfl rfl rfl rfl rfl hS rfl ?_
              refine AK rfl rfl rfl rfl rfl hS rfl ?_
              refine AK rfl rfl rfl rfl rfl hS rfl ?_
              refine AK rfl rfl rfl rfl rfl hS rfl ?_
              refine AK rfl rfl rfl rfl rfl hS rfl ?_
              refine A rfl hS (fun w9 h9 => by obtain ⟨g9, hle9, hs⟩ := h9; exact r_pickF (v := .bool false) rfl rfl rfl) rfl ?_
              refine A rfl hS (fun w9 h9 => by obtain ⟨g9, hle9, hs⟩ := h9; exact r_move (v := .bool false) rfl) rfl ?_
              refine AK rfl rfl rfl rfl rfl hS rfl ?_
              refine AK rfl rfl rfl rfl rfl hS rfl ?_
              refine AK rfl rfl rfl rfl rfl hS rfl ?_
              refine A1 rfl ?_
              refine OK rfl rfl rfl rfl rfl ?_
              refine OW_nil ⟨fun _ => hS, ?_⟩
              refine AK rfl rfl rfl rfl rfl hS rfl ?_
              refine A1 rfl ?_
              refine OK rfl rfl rfl rfl rfl ?_
              refine OW_nil ⟨fun _ => hS, ?_⟩
              refine A rfl hS (fun w9 h9 => by obtain ⟨g9, hle9, hs⟩ := h9; exact r_pickF (v := .bool false) rfl rfl rfl) rfl ?_
              refine A rfl hS (fun w9 h9 => by obtain ⟨g9, hle9, hs⟩ := h9; exact r_assign (v := .bool false) rfl) rfl ?_
              refine AN ?_
              obtain rfl := Option.some.inj hM
              exact ⟨gg9, rfl, hagg4, (hs.sub (.cons _ .slnil))⟩
          · clear hs
            rintro E w ⟨gg8, hE4, hlegg8, hs⟩
            have hM := hKhx9
            obtain ⟨E, rfl⟩ := open1 (E := E) hE4
            refine WP_ret ?_
            obtain rfl := Option.some.inj hM
            exact ⟨_, res1 Try.results7 (rv_tmp (v := .bool rv8) rfl), gg8, ⟨[.bool rv8], rfl, rfl⟩, hs.ext⟩


end Go.Proofs.Ytogpainomdfpnaa
