/- The walks: what each function does is what its model says. Printed by a program of my own. -/
import Derived.Test.YtogpainomdfpnaaTyp
set_option linter.unusedVariables false
namespace Go.Proofs.Ytogpainomdfpnaa
open Go.Lx Go.RowKit
set_option maxRecDepth 100000 in
theorem ref07_Has_ok {s1 : (Vec 4)} {b1 : Int} {r : Bool} (hM : M.ref07_Has s1 b1 = some r) {g0 : Hp} {w0 : World} (hi : Imm g0 w0) :
    CallsV Try.prog 65 #[encV .u64 s1, .int .u8 b1] w0 (fun v w' => ∃ g', (VRd tBool false g' v r) ∧ Ext g0 w0 g' w') := by
  unfold M.ref07_Has at hM
  have hs := Sep.start hi
  refine calls_of_WP (args := [encV .u64 s1, .int .u8 b1]) Try.func65 rfl Try.ntmps65 rfl ?_
  refine WP_seq ?_
  refine WP_region ?_
  refine OW_box (v := encV .u64 s1) rfl hs (zs := s1.1.map (.int .u64)) rfl rfl ?_
  intro b2 wv1 hs
  refine O (r_assign (v := .bool false) rfl) rfl ?_
  refine OW_nil ?_
  refine WP_seq ?_
  refine WP_region ?_
  refine O (r_move (v := .int .u8 b1) rfl) rfl ?_
  obtain ⟨t1, ht1, hM⟩ := bindS hM
  refine O (r_quoM rfl rfl ht1) rfl ?_
  obtain ⟨c1, hc1, hM⟩ := bindS hM
  refine O (r_idxArr Try.underlying77 ti75 rfl rfl (vget_some hc1).1 (vget_some hc1).2.1) rfl ?_
  refine O (r_load ti75 rfl (hs.cell (i := 0) rfl (vget_cell hc1))) rfl ?_
  refine O (r_move (v := .int .u8 b1) rfl) rfl ?_
  obtain ⟨t2, ht2, hM⟩ := bindS hM
  refine O (r_remM rfl rfl ht2) rfl ?_
  obtain ⟨t3, ht3, hM⟩ := bindS hM
  refine O (r_shrM rfl rfl ht3) rfl ?_
  refine O (r_and rfl rfl) rfl ?_
  refine O (r_eql rfl rfl) rfl ?_
  refine O (r_assign (v := .bool ((bits .and .u64 t3 1) == 1)) rfl) rfl ?_
  refine OW_nil ?_
  refine WP_ret ?_
  obtain rfl := Option.some.inj hM
  exact ⟨_, res1 Try.results65 (rv_tmp (v := .bool ((bits .and .u64 t3 1) == 1)) rfl), g0, ⟨[.bool ((bits .and .u64 t3 1) == 1)], rfl, rfl⟩, hs.ext⟩

set_option maxRecDepth 100000 in
theorem ref07_equivalent_ok {l1 : (List (Vec 4))} {a1 : Int} {b1 : Int} {r : Bool} (hM : M.ref07_equivalent l1 a1 b1 = some r) {g0 : Hp} {w0 : World} (hi : Imm g0 w0) {v1 : Value} (hRv1 : RdS (tVec 4 .u64) g0 v1 l1) :
    CallsV Try.prog 63 #[v1, .int .u8 a1, .int .u8 b1] w0 (fun v w' => ∃ g', (VRd tBool false g' v r) ∧ Ext g0 w0 g' w') := by
  unfold M.ref07_equivalent at hM
  have hs := Sep.start hi
  refine calls_of_WP (args := [v1, .int .u8 a1, .int .u8 b1]) Try.func63 rfl Try.ntmps63 rfl ?_
  refine WP_seq ?_
  refine WP_region ?_
  refine O (r_assign (v := .bool false) rfl) rfl ?_
  refine OW_nil ?_
  obtain ⟨o3, hx1, hKhx1⟩ := stepS hM
  refine WP_cut (fun E w => ∃ u9 : Unit, o3 = .next u9 ∧ ∃ (gg10 : Hp), Hle g0 gg10 ∧ Go.Lx.Sep g0 w0 gg10 w []) ?_ ?_
  · have hM := hx1
    have hag0 := Hle.refl g0
    refine WP_seq ?_
    refine WP_region ?_
    refine O (r_assign (v := .int .i64 0) rfl) rfl ?_
    refine OW_nil ?_
    refine WP_block ?_
    refine WP_loop (fun (i5 : Int) E w => ∃ (gg14 : Hp), E 0 = v1 ∧ E 1 = .int .u8 a1 ∧ E 2 = .int .u8 b1 ∧ E 7 = .int .i64 i5 ∧ Hle g0 gg14 ∧ Go.Lx.Sep g0 w0 gg14 w []) hM ⟨g0, rfl, rfl, rfl, rfl, (Hle.refl _), hs⟩ ?_
    clear hs hM
    rintro i5 o2 E w hM ⟨gg14, hE0, hE1, hE2, hE7, hlegg14, hs⟩
    obtain ⟨E, rfl⟩ := open1 (E := E) hE0
    obtain ⟨E, rfl⟩ := open1 (E := E) hE1
    obtain ⟨E, rfl⟩ := open1 (E := E) hE2
    obtain ⟨E, rfl⟩ := open1 (E := E) hE7
    replace hRv1 := hRv1.mono hlegg14
    replace hag0 := hag0.trans hlegg14
    have hagg14 := Hle.refl gg14
    refine WP_seq ?_
    refine WP_seq ?_
    refine WP_region ?_
    refine O (r_move (v := .int .i64 i5) rfl) rfl ?_
    refine O (r_move (v := v1) rfl) rfl ?_
    obtain ⟨a7, ca7, hva7⟩ := hRv1.shape
    refine O (r_lenSl (v := v1) Try.underlying74 rfl hva7) rfl ?_
    refine O (r_lss rfl rfl) rfl ?_
    refine OW_nil ?_
    rcases condS hM with ⟨hc11, hM⟩ | ⟨hc11, hM⟩
    · refine WP_true rfl hc11 ?_
      refine WP_skip ?_
      refine WP_seq ?_
      refine WP_block ?_
      refine WP_seq ?_
      refine WP_any (.q 0 (.q 1 (.q 2 (.q 3 (.q 4 (.q 6 (.q 7 (.q 8 (.q 9 (.q 10 (.s 5 (.s 11 (.q 12 (.leaf)))))))))))))) (SS g0 w0 gg14 []) mo (by decide +kernel) (fun _ _ _ h => h) ?_
      have hs := hs.drew
      have hRv1b := hRv1
      have hS : SS g0 w0 gg14 [] _ := ⟨gg14, Hle.refl _, hs⟩
      refine A rfl hS (fun w9 h9 => by obtain ⟨g9, hle9, hs⟩ := h9; exact r_move (v := v1) rfl) rfl ?_
      refine A rfl hS (fun w9 h9 => by obtain ⟨g9, hle9, hs⟩ := h9; exact r_move (v := .int .i64 i5) rfl) rfl ?_
      obtain ⟨e6, he6, hM⟩ := bindS hM
      obtain ⟨b12, ob12, cb12, hvb12, cs21, hcs21, hcb12⟩ := hRv1b.at he6
      have hcs21 : cs21 = _ := hcs21; subst hcs21
      refine A rfl hS (fun w9 h9 => by obtain ⟨g9, hle9, hs⟩ := h9; exact r_idxSl Try.underlying74 ti77 (v := v1) rfl hvb12 rfl (idxL_some he6).1 (idxL_some he6).2.1) rfl ?_
      refine A rfl hS (fun w9 h9 => by obtain ⟨g9, hle9, hs⟩ := h9; exact r_loadEl (cs := e6.1.map (.int .u64)) ti77 rfl (by simp [e6.2]) (.inl rfl) (hcb12 _ (hs.imm.of_le hle9)) (v := encV .u64 e6) rfl) rfl ?_
      refine A rfl hS (fun w9 h9 => by obtain ⟨g9, hle9, hs⟩ := h9; exact r_move (v := .int .u8 a1) rfl) rfl ?_
      refine A rfl hS (fun w9 h9 => by obtain ⟨g9, hle9, hs⟩ := h9; exact r_move (v := v1) rfl) rfl ?_
      refine A rfl hS (fun w9 h9 => by obtain ⟨g9, hle9, hs⟩ := h9; exact r_move (v := .int .i64 i5) rfl) rfl ?_
      obtain ⟨b13, ob13, cb13, hvb13, cs22, hcs22, hcb13⟩ := hRv1b.at he6
      have hcs22 : cs22 = _ := hcs22; subst hcs22
      refine A rfl hS (fun w9 h9 => by obtain ⟨g9, hle9, hs⟩ := h9; exact r_idxSl Try.underlying74 ti77 (v := v1) rfl hvb13 rfl (idxL_some he6).1 (idxL_some he6).2.1) rfl ?_
      refine A rfl hS (fun w9 h9 => by obtain ⟨g9, hle9, hs⟩ := h9; exact r_loadEl (cs := e6.1.map (.int .u64)) ti77 rfl (by simp [e6.2]) (.inl rfl) (hcb13 _ (hs.imm.of_le hle9)) (v := encV .u64 e6) rfl) rfl ?_
      refine A rfl hS (fun w9 h9 => by obtain ⟨g9, hle9, hs⟩ := h9; exact r_move (v := .int .u8 b1) rfl) rfl ?_
      refine A1 rfl ?_
      obtain ⟨rv11, hrv11, hM⟩ := bindS hM
      refine C [encV .u64 e6, .int .u8 a1] cf65 rfl (ref07_Has_ok hrv11 hs.imm) rfl ?_
      rintro v12 wv11 ⟨gg18, hvv12, hegg18⟩
      have hlegg18 := hegg18.le hs.imm
      replace hs := hs.call hegg18
      replace hRv1 := hRv1.mono hlegg18
      replace hlegg14 := hlegg14.trans hlegg18
      replace hagg14 := hagg14.trans hlegg18
      obtain ⟨cs23, rfl, hcs23⟩ := hvv12
      have hcs23 : cs23 = _ := hcs23; subst hcs23
      refine OW_nil ?_
      have hS : SS g0 w0 gg14 [] _ := ⟨gg18, hagg14, hs⟩
      refine ⟨fun _ => hS, ?_⟩
      refine A1 rfl ?_
      obtain ⟨rv12, hrv12, hM⟩ := bindS hM
      refine C [encV .u64 e6, .int .u8 b1] cf65 rfl (ref07_Has_ok hrv12 hs.imm) rfl ?_
      rintro v13 wv12 ⟨gg19, hvv13, hegg19⟩
      have hlegg19 := hegg19.le hs.imm
      replace hs := hs.call hegg19
      replace hRv1 := hRv1.mono hlegg19
      replace hlegg14 := hlegg14.trans hlegg19
      replace hagg14 := hagg14.trans hlegg19
      obtain ⟨cs24, rfl, hcs24⟩ := hvv13
      have hcs24 : cs24 = _ := hcs24; subst hcs24
      refine OW_nil ?_
      have hS : SS g0 w0 gg14 [] _ := ⟨gg19, hagg14, hs⟩
      refine ⟨fun _ => hS, ?_⟩
      refine A rfl hS (fun w9 h9 => by obtain ⟨g9, hle9, hs⟩ := h9; exact r_neqB Try.underlying4 rfl rfl) rfl ?_
      refine AN ?_
      rcases condS hM with ⟨hc12, hM⟩ | ⟨hc12, hM⟩
      · refine WP_true rfl hc12 ?_
        refine WP_seq ?_
        refine WP_region ?_
        refine O (r_assign (v := .bool false) rfl) rfl ?_
        refine OW_nil ?_
        refine WP_ret ?_
        obtain rfl := Option.some.inj hM
        refine fun hr => ?_
        have hM := congrArg some hr
        obtain rfl := Option.some.inj hM
        have hM := hKhx1
        obtain rfl := Option.some.inj hM
        exact ⟨_, res1 Try.results63 (rv_tmp (v := .bool false) rfl), gg19, ⟨[.bool false], rfl, rfl⟩, hs.ext⟩
      · refine WP_false rfl hc12 ?_
        refine WP_skip ?_
        refine WP_region ?_
        refine O (r_move (v := .int .i64 i5) rfl) rfl ?_
        obtain ⟨t6, ht6, hM⟩ := bindS hM
        refine O (r_addM rfl rfl ht6) rfl ?_
        refine O (r_assign (v := .int .i64 t6) rfl) rfl ?_
        refine OW_nil ?_
        obtain rfl := Option.some.inj hM
        exact ⟨gg19, rfl, rfl, rfl, rfl, hlegg14, hs⟩
    · refine WP_false rfl hc11 ?_
      refine WP_exit ?_
      obtain rfl := Option.some.inj hM
      refine fun hr => ?_
      have hM := congrArg some hr
      obtain rfl := Option.some.inj hM
      exact ⟨(), rfl, gg14, hlegg14, hs⟩
  · clear hs
    rintro E w ⟨_, rfl, gg10, hlegg10, hs⟩
    have hM := hKhx1
    dsimp only [onStep] at hM
    refine WP_seq ?_
    refine WP_region ?_
    refine O (r_assign (v := .bool true) rfl) rfl ?_
    refine OW_nil ?_
    refine WP_ret ?_
    obtain rfl := Option.some.inj hM
    exact ⟨_, res1 Try.results63 (rv_tmp (v := .bool true) rfl), gg10, ⟨[.bool true], rfl, rfl⟩, hs.ext⟩

set_option maxRecDepth 100000 in
theorem ref07_Ints_ok {a1 : (List Int)} {b1 : (List Int)} {r : Bool} (hM : M.ref07_Ints a1 b1 = some r) {g0 : Hp} {w0 : World} (hi : Imm g0 w0) {v1 : Value} (hRv1 : RdS (tInt .i64) g0 v1 a1) {v2 : Value} (hRv2 : RdS (tInt .i64) g0 v2 b1) :
    CallsV Try.prog 19 #[v1, v2] w0 (fun v w' => ∃ g', (VRd tBool false g' v r) ∧ Ext g0 w0 g' w') := by
  unfold M.ref07_Ints at hM
  have hs := Sep.start hi
  refine calls_of_WP (args := [v1, v2]) Try.func19 rfl Try.ntmps19 rfl ?_
  refine WP_seq ?_
  refine WP_region ?_
  refine O (r_assign (v := .bool false) rfl) rfl ?_
  refine OW_nil ?_
  refine WP_seq ?_
  refine WP_seq ?_
  refine WP_region ?_
  refine O (r_move (v := v1) rfl) rfl ?_
  obtain ⟨a2, ca2, hva2⟩ := hRv1.shape
  refine O (r_lenSl (v := v1) Try.underlying22 rfl hva2) rfl ?_
  refine O (r_move (v := v2) rfl) rfl ?_
  obtain ⟨a3, ca3, hva3⟩ := hRv2.shape
  refine O (r_lenSl (v := v2) Try.underlying22 rfl hva3) rfl ?_
  refine O (r_neq rfl rfl) rfl ?_
  refine OW_nil ?_
  rcases condS hM with ⟨hc1, hM⟩ | ⟨hc1, hM⟩
  · refine WP_true rfl hc1 ?_
    refine WP_seq ?_
    refine WP_region ?_
    refine O (r_assign (v := .bool false) rfl) rfl ?_
    refine OW_nil ?_
    refine WP_ret ?_
    obtain rfl := Option.some.inj hM
    exact ⟨_, res1 Try.results19 (rv_tmp (v := .bool false) rfl), g0, ⟨[.bool false], rfl, rfl⟩, hs.ext⟩
  · refine WP_false rfl hc1 ?_
    refine WP_skip ?_
    obtain ⟨o3, hx1, hKhx1⟩ := stepS hM
    refine WP_cut (fun E w => ∃ u9 : Unit, o3 = .next u9 ∧ Go.Lx.Sep g0 w0 g0 w []) ?_ ?_
    · have hM := hx1
      have hag0 := Hle.refl g0
      refine WP_seq ?_
      refine WP_region ?_
      refine O (r_assign (v := .int .i64 0) rfl) rfl ?_
      refine OW_nil ?_
      refine WP_block ?_
      refine WP_loop (fun (i5 : Int) E w => E 0 = v1 ∧ E 1 = v2 ∧ E 5 = .int .i64 i5 ∧ Go.Lx.Sep g0 w0 g0 w []) hM ⟨rfl, rfl, rfl, hs⟩ ?_
      clear hs hM
      rintro i5 o2 E w hM ⟨hE0, hE1, hE5, hs⟩
      obtain ⟨E, rfl⟩ := open1 (E := E) hE0
      obtain ⟨E, rfl⟩ := open1 (E := E) hE1
      obtain ⟨E, rfl⟩ := open1 (E := E) hE5
      refine WP_seq ?_
      refine WP_seq ?_
      refine WP_region ?_
      refine O (r_move (v := .int .i64 i5) rfl) rfl ?_
      refine O (r_move (v := v1) rfl) rfl ?_
      obtain ⟨a9, ca9, hva9⟩ := hRv1.shape
      refine O (r_lenSl (v := v1) Try.underlying22 rfl hva9) rfl ?_
      refine O (r_lss rfl rfl) rfl ?_
      refine OW_nil ?_
      rcases condS hM with ⟨hc12, hM⟩ | ⟨hc12, hM⟩
      · refine WP_true rfl hc12 ?_
        refine WP_skip ?_
        refine WP_seq ?_
        refine WP_block ?_
        refine WP_seq ?_
        refine WP_draw mo (by decide +kernel) ?_
        have hs := hs.drew
        refine S (r_move (v := v1) rfl) rfl ?_
        refine S (r_move (v := .int .i64 i5) rfl) rfl ?_
        obtain ⟨e11, he11, hM⟩ := bindS hM
        obtain ⟨b12, ob12, cb12, hvb12, cs11, hcs11, hcb12⟩ := hRv1.at he11
        have hcs11 : cs11 = _ := hcs11; subst hcs11
        refine S (r_idxSl Try.underlying22 ti3 (v := v1) rfl hvb12 rfl (idxL_some he11).1 (idxL_some he11).2.1) rfl ?_
        refine S (r_loadEl (cs := [.int .i64 e11]) ti3 rfl rfl (.inr rfl) (hcb12 _ hs.imm) (v := .int .i64 e11) rfl) rfl ?_
        refine S (r_move (v := v2) rfl) rfl ?_
        refine S (r_move (v := .int .i64 i5) rfl) rfl ?_
        obtain ⟨e12, he12, hM⟩ := bindS hM
        obtain ⟨b13, ob13, cb13, hvb13, cs12, hcs12, hcb13⟩ := hRv2.at he12
        have hcs12 : cs12 = _ := hcs12; subst hcs12
        refine S (r_idxSl Try.underlying22 ti3 (v := v2) rfl hvb13 rfl (idxL_some he12).1 (idxL_some he12).2.1) rfl ?_
        refine S (r_loadEl (cs := [.int .i64 e12]) ti3 rfl rfl (.inr rfl) (hcb13 _ hs.imm) (v := .int .i64 e12) rfl) rfl ?_
        refine S (r_neq rfl rfl) rfl ?_
        refine SW_nil ?_
        rcases condS hM with ⟨hc13, hM⟩ | ⟨hc13, hM⟩
        · refine WP_true rfl hc13 ?_
          refine WP_seq ?_
          refine WP_region ?_
          refine O (r_assign (v := .bool false) rfl) rfl ?_
          refine OW_nil ?_
          refine WP_ret ?_
          obtain rfl := Option.some.inj hM
          refine fun hr => ?_
          have hM := congrArg some hr
          obtain rfl := Option.some.inj hM
          have hM := hKhx1
          obtain rfl := Option.some.inj hM
          exact ⟨_, res1 Try.results19 (rv_tmp (v := .bool false) rfl), g0, ⟨[.bool false], rfl, rfl⟩, hs.ext⟩
        · refine WP_false rfl hc13 ?_
          refine WP_skip ?_
          refine WP_region ?_
          refine O (r_move (v := .int .i64 i5) rfl) rfl ?_
          obtain ⟨t6, ht6, hM⟩ := bindS hM
          refine O (r_addM rfl rfl ht6) rfl ?_
          refine O (r_assign (v := .int .i64 t6) rfl) rfl ?_
          refine OW_nil ?_
          obtain rfl := Option.some.inj hM
          exact ⟨rfl, rfl, rfl, hs⟩
      · refine WP_false rfl hc12 ?_
        refine WP_exit ?_
        obtain rfl := Option.some.inj hM
        refine fun hr => ?_
        have hM := congrArg some hr
        obtain rfl := Option.some.inj hM
        exact ⟨(), rfl, hs⟩
    · clear hs
      rintro E w ⟨_, rfl, hs⟩
      have hM := hKhx1
      dsimp only [onStep] at hM
      refine WP_seq ?_
      refine WP_region ?_
      refine O (r_assign (v := .bool true) rfl) rfl ?_
      refine OW_nil ?_
      refine WP_ret ?_
      obtain rfl := Option.some.inj hM
      exact ⟨_, res1 Try.results19 (rv_tmp (v := .bool true) rfl), g0, ⟨[.bool true], rfl, rfl⟩, hs.ext⟩

set_option maxRecDepth 100000 in
theorem byteset_Has_ok {s1 : (Vec 4)} {b1 : Int} {r : Bool} (hM : M.byteset_Has s1 b1 = some r) {g0 : Hp} {w0 : World} (hi : Imm g0 w0) :
    CallsV Try.prog 60 #[encV .u64 s1, .int .u8 b1] w0 (fun v w' => ∃ g', (VRd tBool false g' v r) ∧ Ext g0 w0 g' w') := by
  unfold M.byteset_Has at hM
  have hs := Sep.start hi
  refine calls_of_WP (args := [encV .u64 s1, .int .u8 b1]) Try.func60 rfl Try.ntmps60 rfl ?_
  refine WP_seq ?_
  refine WP_region ?_
  refine OW_box (v := encV .u64 s1) rfl hs (zs := s1.1.map (.int .u64)) rfl rfl ?_
  intro b2 wv1 hs
  refine O (r_assign (v := .bool false) rfl) rfl ?_
  refine OW_nil ?_
  refine WP_seq ?_
  refine WP_region ?_
  refine O (r_move (v := .int .u8 b1) rfl) rfl ?_
  obtain ⟨t1, ht1, hM⟩ := bindS hM
  refine O (r_quoM rfl rfl ht1) rfl ?_
  obtain ⟨c1, hc1, hM⟩ := bindS hM
  refine O (r_idxArr Try.underlying77 ti75 rfl rfl (vget_some hc1).1 (vget_some hc1).2.1) rfl ?_
  refine O (r_load ti75 rfl (hs.cell (i := 0) rfl (vget_cell hc1))) rfl ?_
  refine O (r_move (v := .int .u8 b1) rfl) rfl ?_
  obtain ⟨t2, ht2, hM⟩ := bindS hM
  refine O (r_remM rfl rfl ht2) rfl ?_
  obtain ⟨t3, ht3, hM⟩ := bindS hM
  refine O (r_shrM rfl rfl ht3) rfl ?_
  refine O (r_and rfl rfl) rfl ?_
  refine O (r_eql rfl rfl) rfl ?_
  refine O (r_assign (v := .bool ((bits .and .u64 t3 1) == 1)) rfl) rfl ?_
  refine OW_nil ?_
  refine WP_ret ?_
  obtain rfl := Option.some.inj hM
  exact ⟨_, res1 Try.results60 (rv_tmp (v := .bool ((bits .and .u64 t3 1) == 1)) rfl), g0, ⟨[.bool ((bits .and .u64 t3 1) == 1)], rfl, rfl⟩, hs.ext⟩

set_option maxRecDepth 100000 in
theorem ref10_Valid_ok {p1 : T_DFA} {r : Bool} (hM : M.ref10_Valid p1 = some r) {g0 : Hp} {w0 : World} (hi : Imm g0 w0) {cs1 : List Value} (hcs1 : tT_DFA.rel g0 cs1 p1) :
    CallsV Try.prog 10 #[.agg cs1.toArray] w0 (fun v w' => ∃ g', (VRd tBool false g' v r) ∧ Ext g0 w0 g' w') := by
  unfold M.ref10_Valid at hM
  obtain ⟨cs2, cs3, cs4, rfl, hcs2, hcs3, hcs4⟩ := hcs1
  obtain ⟨v1, rfl, hRv1⟩ := hcs2
  obtain ⟨v2, rfl, hRv2⟩ := hcs3
  obtain ⟨v3, rfl, hRv3⟩ := hcs4
  have hs := Sep.start hi
  refine calls_of_WP (args := [.agg (List.toArray (α := Value) [v1, v2, v3])]) Try.func10 rfl Try.ntmps10 rfl ?_
  refine WP_seq ?_
  refine WP_region ?_
  refine OW_box (v := .agg (List.toArray (α := Value) [v1, v2, v3])) rfl hs (zs := [v1, v2, v3]) rfl rfl ?_
  intro b1 wv1 hs
  refine O (r_assign (v := .bool false) rfl) rfl ?_
  refine OW_nil ?_
  refine WP_seq ?_
  refine WP_region ?_
  refine O (r_fieldAddr Try.underlying25 ti23 rfl rfl (by decide) rfl rfl) rfl ?_
  refine O (r_load (v := v2) ti23 rfl (hs.cell (i := 0) (o := 1) rfl rfl)) rfl ?_
  obtain ⟨a1, ca1, hva1⟩ := hRv2.shape
  refine O (r_lenSl (v := v2) Try.underlying23 rfl hva1) rfl ?_
  refine O (r_assign (v := .int .i64 (p1.Next.length : Int)) rfl) rfl ?_
  refine OW_nil ?_
  refine WP_seq ?_
  obtain ⟨xv1, hx1, hKhx1⟩ := bindS hM
  refine WP_cut (fun E w => E 1 = .pointer (some ⟨b1, 0, none⟩) ∧ E 3 = .int .i64 (p1.Next.length : Int) ∧ E 29 = .bool xv1 ∧ Go.Lx.Sep g0 w0 g0 w [Go.Lx.box b1 25 ([v1, v2, v3])]) ?_ ?_
  · have hM := hx1
    have hag0 := Hle.refl g0
    refine WP_region ?_
    refine O (r_fieldAddr Try.underlying25 ti22 rfl rfl (by decide) rfl rfl) rfl ?_
    refine O (r_load (v := v1) ti22 rfl (hs.cell (i := 0) (o := 0) rfl rfl)) rfl ?_
    obtain ⟨a4, ca4, hva4⟩ := hRv1.shape
    refine O (r_lenSl (v := v1) Try.underlying22 rfl hva4) rfl ?_
    refine O (r_neq rfl rfl) rfl ?_
    refine O (r_move (v := .bool ((p1.Class.length : Int) != 256)) rfl) rfl ?_
    rcases condS hM with ⟨hg4, hM⟩ | ⟨hg4, hM⟩
    · refine OK rfl rfl rfl (by rw [hg4]; rfl) rfl ?_
      refine OK rfl rfl rfl (by rw [hg4]; rfl) rfl ?_
      refine O (r_pickT (v := .bool true) rfl hg4 rfl) rfl ?_
      refine O (r_move (v := .bool true) rfl) rfl ?_
      refine OK rfl rfl rfl rfl rfl ?_
      refine OK rfl rfl rfl rfl rfl ?_
      refine O (r_pickT (v := .bool true) rfl rfl rfl) rfl ?_
      refine O (r_move (v := .bool true) rfl) rfl ?_
      refine OK rfl rfl rfl rfl rfl ?_
      refine OK rfl rfl rfl rfl rfl ?_
      refine OK rfl rfl rfl rfl rfl ?_
      refine OK rfl rfl rfl rfl rfl ?_
      refine OK rfl rfl rfl rfl rfl ?_
      refine O (r_pickT (v := .bool true) rfl rfl rfl) rfl ?_
      refine OW_nil ?_
      obtain rfl := Option.some.inj hM
      exact ⟨rfl, rfl, rfl, hs⟩
    · refine OG rfl rfl rfl (by rw [hg4]; rfl) (r_move (v := .int .i64 (p1.Next.length : Int)) rfl) rfl ?_
      refine OG rfl rfl rfl (by rw [hg4]; rfl) (r_lss rfl rfl) rfl ?_
      refine O (r_pickF (v := .bool (decide ((p1.Next.length : Int) < 1))) rfl hg4 rfl) rfl ?_
      refine O (r_move (v := .bool (decide ((p1.Next.length : Int) < 1))) rfl) rfl ?_
      rcases condS hM with ⟨hg5, hM⟩ | ⟨hg5, hM⟩
      · refine OK rfl rfl rfl (by rw [hg5]; rfl) rfl ?_
        refine OK rfl rfl rfl (by rw [hg5]; rfl) rfl ?_
        refine O (r_pickT (v := .bool true) rfl hg5 rfl) rfl ?_
        refine O (r_move (v := .bool true) rfl) rfl ?_
        refine OK rfl rfl rfl rfl rfl ?_
        refine OK rfl rfl rfl rfl rfl ?_
        refine OK rfl rfl rfl rfl rfl ?_
        refine OK rfl rfl rfl rfl rfl ?_
        refine OK rfl rfl rfl rfl rfl ?_
        refine O (r_pickT (v := .bool true) rfl rfl rfl) rfl ?_
        refine OW_nil ?_
        obtain rfl := Option.some.inj hM
        exact ⟨rfl, rfl, rfl, hs⟩
      · refine OG rfl rfl rfl (by rw [hg5]; rfl) (r_move (v := .int .i64 (p1.Next.length : Int)) rfl) rfl ?_
        refine OG rfl rfl rfl (by rw [hg5]; rfl) (r_gtr rfl rfl) rfl ?_
        refine O (r_pickF (v := .bool (decide (500 < (p1.Next.length : Int)))) rfl hg5 rfl) rfl ?_
        refine O (r_move (v := .bool (decide (500 < (p1.Next.length : Int)))) rfl) rfl ?_
        rcases condS hM with ⟨hg6, hM⟩ | ⟨hg6, hM⟩
        · refine OK rfl rfl rfl (by rw [hg6]; rfl) rfl ?_
          refine OK rfl rfl rfl (by rw [hg6]; rfl) rfl ?_
          refine OK rfl rfl rfl (by rw [hg6]; rfl) rfl ?_
          refine OK rfl rfl rfl (by rw [hg6]; rfl) rfl ?_
          refine OK rfl rfl rfl (by rw [hg6]; rfl) rfl ?_
          refine O (r_pickT (v := .bool true) rfl hg6 rfl) rfl ?_
          refine OW_nil ?_
          obtain rfl := Option.some.inj hM
          exact ⟨rfl, rfl, rfl, hs⟩
        · refine OG rfl rfl rfl (by rw [hg6]; rfl) (r_fieldAddr Try.underlying25 ti22 rfl rfl (by decide) rfl rfl) rfl ?_
          refine OG rfl rfl rfl (by rw [hg6]; rfl) (r_load (v := v3) ti22 rfl (hs.cell (i := 0) (o := 2) rfl rfl)) rfl ?_
          obtain ⟨a5, ca5, hva5⟩ := hRv3.shape
          refine OG rfl rfl rfl (by rw [hg6]; rfl) (r_lenSl (v := v3) Try.underlying22 rfl hva5) rfl ?_
          refine OG rfl rfl rfl (by rw [hg6]; rfl) (r_move (v := .int .i64 (p1.Next.length : Int)) rfl) rfl ?_
          refine OG rfl rfl rfl (by rw [hg6]; rfl) (r_neq rfl rfl) rfl ?_
          refine O (r_pickF (v := .bool ((p1.Accept.length : Int) != (p1.Next.length : Int))) rfl hg6 rfl) rfl ?_
          refine OW_nil ?_
          obtain rfl := Option.some.inj hM
          exact ⟨rfl, rfl, rfl, hs⟩
  · clear hs
    rintro E w ⟨hE1, hE3, hE29, hs⟩
    have hM := hKhx1
    obtain ⟨E, rfl⟩ := open1 (E := E) hE1
    obtain ⟨E, rfl⟩ := open1 (E := E) hE3
    obtain ⟨E, rfl⟩ := open1 (E := E) hE29
    rcases condS hM with ⟨hc1, hM⟩ | ⟨hc1, hM⟩
    · refine WP_true rfl hc1 ?_
      refine WP_seq ?_
      refine WP_region ?_
      refine O (r_assign (v := .bool false) rfl) rfl ?_
      refine OW_nil ?_
      refine WP_ret ?_
      obtain rfl := Option.some.inj hM
      exact ⟨_, res1 Try.results10 (rv_tmp (v := .bool false) rfl), g0, ⟨[.bool false], rfl, rfl⟩, hs.ext⟩
    · refine WP_false rfl hc1 ?_
      refine WP_skip ?_
      refine WP_seq ?_
      refine WP_region ?_
      refine O (r_fieldAddr Try.underlying25 ti23 rfl rfl (by decide) rfl rfl) rfl ?_
      refine O (r_load (v := v2) ti23 rfl (hs.cell (i := 0) (o := 1) rfl rfl)) rfl ?_
      obtain ⟨e1, he1, hM⟩ := bindS hM
      obtain ⟨b2, ob2, cb2, hvb2, cs5, hcs5, hcb2⟩ := hRv2.at he1
      obtain ⟨v4, rfl, hRv4⟩ := hcs5
      refine O (r_idxSl Try.underlying23 ti22 (v := v2) rfl hvb2 rfl (idxL_some he1).1 (idxL_some he1).2.1) rfl ?_
      refine O (r_loadEl (cs := [v4]) ti22 rfl rfl (.inr rfl) (hcb2 _ hs.imm) (v := v4) rfl) rfl ?_
      obtain ⟨a6, ca6, hva6⟩ := hRv4.shape
      refine O (r_lenSl (v := v4) Try.underlying22 rfl hva6) rfl ?_
      refine O (r_assign (v := .int .i64 (e1.length : Int)) rfl) rfl ?_
      refine OW_nil ?_
      refine WP_seq ?_
      refine WP_seq ?_
      refine WP_region ?_
      refine O (r_move (v := .int .i64 (e1.length : Int)) rfl) rfl ?_
      refine O (r_lss rfl rfl) rfl ?_
      refine OW_nil ?_
      rcases condS hM with ⟨hc2, hM⟩ | ⟨hc2, hM⟩
      · refine WP_true rfl hc2 ?_
        refine WP_seq ?_
        refine WP_region ?_
        refine O (r_assign (v := .bool false) rfl) rfl ?_
        refine OW_nil ?_
        refine WP_ret ?_
        obtain rfl := Option.some.inj hM
        exact ⟨_, res1 Try.results10 (rv_tmp (v := .bool false) rfl), g0, ⟨[.bool false], rfl, rfl⟩, hs.ext⟩
      · refine WP_false rfl hc2 ?_
        refine WP_skip ?_
        obtain ⟨o3, hx5, hKhx5⟩ := stepS hM
        refine WP_cut (fun E w => ∃ u9 : Unit, o3 = .next u9 ∧ E 1 = .pointer (some ⟨b1, 0, none⟩) ∧ E 3 = .int .i64 (p1.Next.length : Int) ∧ E 4 = .int .i64 (e1.length : Int) ∧ Go.Lx.Sep g0 w0 g0 w [Go.Lx.box b1 25 ([v1, v2, v3])]) ?_ ?_
        · have hM := hx5
          have hag0 := Hle.refl g0
          refine WP_seq ?_
          refine WP_region ?_
          refine O (r_assign (v := .int .i64 0) rfl) rfl ?_
          refine OW_nil ?_
          refine WP_block ?_
          refine WP_loop (fun (xv10 : Int) E w => E 1 = .pointer (some ⟨b1, 0, none⟩) ∧ E 3 = .int .i64 (p1.Next.length : Int) ∧ E 4 = .int .i64 (e1.length : Int) ∧ E 5 = .int .i64 xv10 ∧ Go.Lx.Sep g0 w0 g0 w [Go.Lx.box b1 25 ([v1, v2, v3])]) hM ⟨rfl, rfl, rfl, rfl, hs⟩ ?_
          clear hs hM
          rintro xv10 o2 E w hM ⟨hE1, hE3, hE4, hE5, hs⟩
          obtain ⟨E, rfl⟩ := open1 (E := E) hE1
          obtain ⟨E, rfl⟩ := open1 (E := E) hE3
          obtain ⟨E, rfl⟩ := open1 (E := E) hE4
          obtain ⟨E, rfl⟩ := open1 (E := E) hE5
          refine WP_seq ?_
          refine WP_seq ?_
          refine WP_region ?_
          refine O (r_move (v := .int .i64 xv10) rfl) rfl ?_
          refine O (r_lss rfl rfl) rfl ?_
          refine OW_nil ?_
          rcases condS hM with ⟨hc13, hM⟩ | ⟨hc13, hM⟩
          · refine WP_true rfl hc13 ?_
            refine WP_skip ?_
            refine WP_seq ?_
            refine WP_block ?_
            obtain ⟨xv13, hx8, hKhx8⟩ := bindS hM
            refine WP_cut (fun E w => E 1 = .pointer (some ⟨b1, 0, none⟩) ∧ E 3 = .int .i64 (p1.Next.length : Int) ∧ E 4 = .int .i64 (e1.length : Int) ∧ E 5 = .int .i64 xv10 ∧ E 55 = .bool xv13 ∧ Go.Lx.Sep g0 w0 g0 w [Go.Lx.box b1 25 ([v1, v2, v3])]) ?_ ?_
            · have hM := hx8
              refine WP_region ?_
              refine O (r_fieldAddr Try.underlying25 ti22 rfl rfl (by decide) rfl rfl) rfl ?_
              refine O (r_load (v := v1) ti22 rfl (hs.cell (i := 0) (o := 0) rfl rfl)) rfl ?_
              refine O (r_move (v := .int .i64 xv10) rfl) rfl ?_
              obtain ⟨e13, he13, hM⟩ := bindS hM
              obtain ⟨b25, ob25, cb25, hvb25, cs28, hcs28, hcb25⟩ := hRv1.at he13
              have hcs28 : cs28 = _ := hcs28; subst hcs28
              refine O (r_idxSl Try.underlying22 ti3 (v := v1) rfl hvb25 rfl (idxL_some he13).1 (idxL_some he13).2.1) rfl ?_
              refine O (r_loadEl (cs := [.int .i64 e13]) ti3 rfl rfl (.inr rfl) (hcb25 _ hs.imm) (v := .int .i64 e13) rfl) rfl ?_
              refine O (r_lss rfl rfl) rfl ?_
              refine O (r_move (v := .bool (decide (e13 < 0))) rfl) rfl ?_
              rcases condS hM with ⟨hg18, hM⟩ | ⟨hg18, hM⟩
              · refine OK rfl rfl rfl (by rw [hg18]; rfl) rfl ?_
                refine OK rfl rfl rfl (by rw [hg18]; rfl) rfl ?_
                refine OK rfl rfl rfl (by rw [hg18]; rfl) rfl ?_
                refine OK rfl rfl rfl (by rw [hg18]; rfl) rfl ?_
                refine OK rfl rfl rfl (by rw [hg18]; rfl) rfl ?_
                refine OK rfl rfl rfl (by rw [hg18]; rfl) rfl ?_
                refine OK rfl rfl rfl (by rw [hg18]; rfl) rfl ?_
                refine O (r_pickT (v := .bool true) rfl hg18 rfl) rfl ?_
                refine OW_nil ?_
                obtain rfl := Option.some.inj hM
                exact ⟨rfl, rfl, rfl, rfl, rfl, hs⟩
              · refine OG rfl rfl rfl (by rw [hg18]; rfl) (r_fieldAddr Try.underlying25 ti22 rfl rfl (by decide) rfl rfl) rfl ?_
                refine OG rfl rfl rfl (by rw [hg18]; rfl) (r_load (v := v1) ti22 rfl (hs.cell (i := 0) (o := 0) rfl rfl)) rfl ?_
                refine OG rfl rfl rfl (by rw [hg18]; rfl) (r_move (v := .int .i64 xv10) rfl) rfl ?_
                obtain ⟨b26, ob26, cb26, hvb26, cs29, hcs29, hcb26⟩ := hRv1.at he13
                have hcs29 : cs29 = _ := hcs29; subst hcs29
                refine OG rfl rfl rfl (by rw [hg18]; rfl) (r_idxSl Try.underlying22 ti3 (v := v1) rfl hvb26 rfl (idxL_some he13).1 (idxL_some he13).2.1) rfl ?_
                refine OG rfl rfl rfl (by rw [hg18]; rfl) (r_loadEl (cs := [.int .i64 e13]) ti3 rfl rfl (.inr rfl) (hcb26 _ hs.imm) (v := .int .i64 e13) rfl) rfl ?_
                refine OG rfl rfl rfl (by rw [hg18]; rfl) (r_move (v := .int .i64 (e1.length : Int)) rfl) rfl ?_
                refine OG rfl rfl rfl (by rw [hg18]; rfl) (r_geq rfl rfl) rfl ?_
                refine O (r_pickF (v := .bool (decide ((e1.length : Int) ≤ e13))) rfl hg18 rfl) rfl ?_
                refine OW_nil ?_
                obtain rfl := Option.some.inj hM
                exact ⟨rfl, rfl, rfl, rfl, rfl, hs⟩
            · clear hs
              rintro E w ⟨hE1, hE3, hE4, hE5, hE55, hs⟩
              have hM := hKhx8
              obtain ⟨E, rfl⟩ := open1 (E := E) hE1
              obtain ⟨E, rfl⟩ := open1 (E := E) hE3
              obtain ⟨E, rfl⟩ := open1 (E := E) hE4
              obtain ⟨E, rfl⟩ := open1 (E := E) hE5
              obtain ⟨E, rfl⟩ := open1 (E := E) hE55
              rcases condS hM with ⟨hc14, hM⟩ | ⟨hc14, hM⟩
              · refine WP_true rfl hc14 ?_
                refine WP_seq ?_
                refine WP_region ?_
                refine O (r_assign (v := .bool false) rfl) rfl ?_
                refine OW_nil ?_
                refine WP_ret ?_
                obtain rfl := Option.some.inj hM
                refine fun hr => ?_
                have hM := congrArg some hr
                obtain rfl := Option.some.inj hM
                have hM := hKhx5
                obtain rfl := Option.some.inj hM
                exact ⟨_, res1 Try.results10 (rv_tmp (v := .bool false) rfl), g0, ⟨[.bool false], rfl, rfl⟩, hs.ext⟩
              · refine WP_false rfl hc14 ?_
                refine WP_skip ?_
                refine WP_region ?_
                refine O (r_move (v := .int .i64 xv10) rfl) rfl ?_
                obtain ⟨t6, ht6, hM⟩ := bindS hM
                refine O (r_addM rfl rfl ht6) rfl ?_
                refine O (r_assign (v := .int .i64 t6) rfl) rfl ?_
                refine OW_nil ?_
                obtain rfl := Option.some.inj hM
                exact ⟨rfl, rfl, rfl, rfl, hs⟩
          · refine WP_false rfl hc13 ?_
            refine WP_exit ?_
            obtain rfl := Option.some.inj hM
            refine fun hr => ?_
            have hM := congrArg some hr
            obtain rfl := Option.some.inj hM
            exact ⟨(), rfl, rfl, rfl, rfl, hs⟩
        · clear hs
          rintro E w ⟨_, rfl, hE1, hE3, hE4, hs⟩
          have hM := hKhx5
          dsimp only [onStep] at hM
          obtain ⟨E, rfl⟩ := open1 (E := E) hE1
          obtain ⟨E, rfl⟩ := open1 (E := E) hE3
          obtain ⟨E, rfl⟩ := open1 (E := E) hE4
          obtain ⟨o24, hx36, hKhx36⟩ := stepS hM
          refine WP_cut (fun E w => ∃ u9 : Unit, o24 = .next u9 ∧ Go.Lx.Sep g0 w0 g0 w []) ?_ ?_
          · have hM := hx36
            have hag0 := Hle.refl g0
            refine WP_seq ?_
            refine WP_region ?_
            refine O (r_assign (v := .int .i64 0) rfl) rfl ?_
            refine OW_nil ?_
            refine WP_block ?_
            refine WP_loop (fun (xv74 : Int) E w => E 1 = .pointer (some ⟨b1, 0, none⟩) ∧ E 3 = .int .i64 (p1.Next.length : Int) ∧ E 4 = .int .i64 (e1.length : Int) ∧ E 6 = .int .i64 xv74 ∧ Go.Lx.Sep g0 w0 g0 w [Go.Lx.box b1 25 ([v1, v2, v3])]) hM ⟨rfl, rfl, rfl, rfl, hs⟩ ?_
            clear hs hM
            rintro xv74 o20 E w hM ⟨hE1, hE3, hE4, hE6, hs⟩
            obtain ⟨E, rfl⟩ := open1 (E := E) hE1
            obtain ⟨E, rfl⟩ := open1 (E := E) hE3
            obtain ⟨E, rfl⟩ := open1 (E := E) hE4
            obtain ⟨E, rfl⟩ := open1 (E := E) hE6
            refine WP_seq ?_
            refine WP_seq ?_
            refine WP_region ?_
            refine O (r_move (v := .int .i64 xv74) rfl) rfl ?_
            refine O (r_move (v := .int .i64 (p1.Next.length : Int)) rfl) rfl ?_
            refine O (r_lss rfl rfl) rfl ?_
            refine OW_nil ?_
            rcases condS hM with ⟨hc90, hM⟩ | ⟨hc90, hM⟩
            · refine WP_true rfl hc90 ?_
              refine WP_skip ?_
              obtain ⟨o23, hx59, hKhx59⟩ := stepS hM
              refine WP_cut (fun E w => ∃ u9 : Unit, o23 = .next u9 ∧ E 1 = .pointer (some ⟨b1, 0, none⟩) ∧ E 3 = .int .i64 (p1.Next.length : Int) ∧ E 4 = .int .i64 (e1.length : Int) ∧ E 6 = .int .i64 xv74 ∧ Go.Lx.Sep g0 w0 g0 w [Go.Lx.box b1 25 ([v1, v2, v3])]) ?_ ?_
              · have hM := hx59
                refine WP_block ?_
                refine WP_seq ?_
                obtain ⟨xv97, hx60, hKhx60⟩ := bindS hM
                refine WP_cut (fun E w => E 1 = .pointer (some ⟨b1, 0, none⟩) ∧ E 3 = .int .i64 (p1.Next.length : Int) ∧ E 4 = .int .i64 (e1.length : Int) ∧ E 6 = .int .i64 xv74 ∧ E 76 = .bool xv97 ∧ Go.Lx.Sep g0 w0 g0 w [Go.Lx.box b1 25 ([v1, v2, v3])]) ?_ ?_
                · have hM := hx60
                  refine WP_region ?_
                  refine O (r_fieldAddr Try.underlying25 ti23 rfl rfl (by decide) rfl rfl) rfl ?_
                  refine O (r_load (v := v2) ti23 rfl (hs.cell (i := 0) (o := 1) rfl rfl)) rfl ?_
                  refine O (r_move (v := .int .i64 xv74) rfl) rfl ?_
                  obtain ⟨e160, he160, hM⟩ := bindS hM
                  obtain ⟨b337, ob337, cb337, hvb337, cs340, hcs340, hcb337⟩ := hRv2.at he160
                  obtain ⟨v160, rfl, hRv160⟩ := hcs340
                  refine O (r_idxSl Try.underlying23 ti22 (v := v2) rfl hvb337 rfl (idxL_some he160).1 (idxL_some he160).2.1) rfl ?_
                  refine O (r_loadEl (cs := [v160]) ti22 rfl rfl (.inr rfl) (hcb337 _ hs.imm) (v := v160) rfl) rfl ?_
                  obtain ⟨a30, ca30, hva30⟩ := hRv160.shape
                  refine O (r_lenSl (v := v160) Try.underlying22 rfl hva30) rfl ?_
                  refine O (r_move (v := .int .i64 (e1.length : Int)) rfl) rfl ?_
                  refine O (r_neq rfl rfl) rfl ?_
                  refine O (r_move (v := .bool ((e160.length : Int) != (e1.length : Int))) rfl) rfl ?_
                  rcases condS hM with ⟨hg108, hM⟩ | ⟨hg108, hM⟩
                  · refine OK rfl rfl rfl (by rw [hg108]; rfl) rfl ?_
                    refine OK rfl rfl rfl (by rw [hg108]; rfl) rfl ?_
                    refine OK rfl rfl rfl (by rw [hg108]; rfl) rfl ?_
                    refine OK rfl rfl rfl (by rw [hg108]; rfl) rfl ?_
                    refine OK rfl rfl rfl (by rw [hg108]; rfl) rfl ?_
                    refine OK rfl rfl rfl (by rw [hg108]; rfl) rfl ?_
                    refine O (r_pickT (v := .bool true) rfl hg108 rfl) rfl ?_
                    refine OW_nil ?_
                    obtain rfl := Option.some.inj hM
                    exact ⟨rfl, rfl, rfl, rfl, rfl, hs⟩
                  · refine OG rfl rfl rfl (by rw [hg108]; rfl) (r_fieldAddr Try.underlying25 ti22 rfl rfl (by decide) rfl rfl) rfl ?_
                    refine OG rfl rfl rfl (by rw [hg108]; rfl) (r_load (v := v3) ti22 rfl (hs.cell (i := 0) (o := 2) rfl rfl)) rfl ?_
                    refine OG rfl rfl rfl (by rw [hg108]; rfl) (r_move (v := .int .i64 xv74) rfl) rfl ?_
                    obtain ⟨e161, he161, hM⟩ := bindS hM
                    obtain ⟨b338, ob338, cb338, hvb338, cs341, hcs341, hcb338⟩ := hRv3.at he161
                    have hcs341 : cs341 = _ := hcs341; subst hcs341
                    refine OG rfl rfl rfl (by rw [hg108]; rfl) (r_idxSl Try.underlying22 ti3 (v := v3) rfl hvb338 rfl (idxL_some he161).1 (idxL_some he161).2.1) rfl ?_
                    refine OG rfl rfl rfl (by rw [hg108]; rfl) (r_loadEl (cs := [.int .i64 e161]) ti3 rfl rfl (.inr rfl) (hcb338 _ hs.imm) (v := .int .i64 e161) rfl) rfl ?_
                    refine OG rfl rfl rfl (by rw [hg108]; rfl) (r_lss rfl rfl) rfl ?_
                    refine O (r_pickF (v := .bool (decide (e161 < (-1)))) rfl hg108 rfl) rfl ?_
                    refine OW_nil ?_
                    obtain rfl := Option.some.inj hM
                    exact ⟨rfl, rfl, rfl, rfl, rfl, hs⟩
                · clear hs
                  rintro E w ⟨hE1, hE3, hE4, hE6, hE76, hs⟩
                  have hM := hKhx60
                  obtain ⟨E, rfl⟩ := open1 (E := E) hE1
                  obtain ⟨E, rfl⟩ := open1 (E := E) hE3
                  obtain ⟨E, rfl⟩ := open1 (E := E) hE4
                  obtain ⟨E, rfl⟩ := open1 (E := E) hE6
                  obtain ⟨E, rfl⟩ := open1 (E := E) hE76
                  rcases condS hM with ⟨hc98, hM⟩ | ⟨hc98, hM⟩
                  · refine WP_true rfl hc98 ?_
                    refine WP_seq ?_
                    refine WP_region ?_
                    refine O (r_assign (v := .bool false) rfl) rfl ?_
                    refine OW_nil ?_
                    refine WP_ret ?_
                    obtain rfl := Option.some.inj hM
                    have hM := hKhx59
                    obtain rfl := Option.some.inj hM
                    refine fun hr => ?_
                    have hM := congrArg some hr
                    obtain rfl := Option.some.inj hM
                    have hM := hKhx36
                    obtain rfl := Option.some.inj hM
                    exact ⟨_, res1 Try.results10 (rv_tmp (v := .bool false) rfl), g0, ⟨[.bool false], rfl, rfl⟩, hs.ext⟩
                  · refine WP_false rfl hc98 ?_
                    refine WP_skip ?_
                    refine WP_seq ?_
                    refine WP_region ?_
                    refine O (r_assign (v := .int .i64 0) rfl) rfl ?_
                    refine OW_nil ?_
                    refine WP_block ?_
                    refine WP_loop (fun (xv100 : Int) E w => E 1 = .pointer (some ⟨b1, 0, none⟩) ∧ E 3 = .int .i64 (p1.Next.length : Int) ∧ E 4 = .int .i64 (e1.length : Int) ∧ E 6 = .int .i64 xv74 ∧ E 7 = .int .i64 xv100 ∧ Go.Lx.Sep g0 w0 g0 w [Go.Lx.box b1 25 ([v1, v2, v3])]) hM ⟨rfl, rfl, rfl, rfl, rfl, hs⟩ ?_
                    clear hs hM
                    rintro xv100 o22 E w hM ⟨hE1, hE3, hE4, hE6, hE7, hs⟩
                    obtain ⟨E, rfl⟩ := open1 (E := E) hE1
                    obtain ⟨E, rfl⟩ := open1 (E := E) hE3
                    obtain ⟨E, rfl⟩ := open1 (E := E) hE4
                    obtain ⟨E, rfl⟩ := open1 (E := E) hE6
                    obtain ⟨E, rfl⟩ := open1 (E := E) hE7
                    refine WP_seq ?_
                    refine WP_seq ?_
                    refine WP_region ?_
                    refine O (r_move (v := .int .i64 xv100) rfl) rfl ?_
                    refine O (r_move (v := .int .i64 (e1.length : Int)) rfl) rfl ?_
                    refine O (r_lss rfl rfl) rfl ?_
                    refine OW_nil ?_
                    rcases condS hM with ⟨hc103, hM⟩ | ⟨hc103, hM⟩
                    · refine WP_true rfl hc103 ?_
                      refine WP_skip ?_
                      refine WP_seq ?_
                      refine WP_block ?_
                      obtain ⟨xv103, hx63, hKhx63⟩ := bindS hM
                      refine WP_cut (fun E w => E 1 = .pointer (some ⟨b1, 0, none⟩) ∧ E 3 = .int .i64 (p1.Next.length : Int) ∧ E 4 = .int .i64 (e1.length : Int) ∧ E 6 = .int .i64 xv74 ∧ E 7 = .int .i64 xv100 ∧ E 102 = .bool xv103 ∧ Go.Lx.Sep g0 w0 g0 w [Go.Lx.box b1 25 ([v1, v2, v3])]) ?_ ?_
                      · have hM := hx63
                        refine WP_region ?_
                        refine O (r_fieldAddr Try.underlying25 ti23 rfl rfl (by decide) rfl rfl) rfl ?_
                        refine O (r_load (v := v2) ti23 rfl (hs.cell (i := 0) (o := 1) rfl rfl)) rfl ?_
                        refine O (r_move (v := .int .i64 xv74) rfl) rfl ?_
                        obtain ⟨e172, he172, hM⟩ := bindS hM
                        obtain ⟨b359, ob359, cb359, hvb359, cs362, hcs362, hcb359⟩ := hRv2.at he172
                        obtain ⟨v171, rfl, hRv171⟩ := hcs362
                        refine O (r_idxSl Try.underlying23 ti22 (v := v2) rfl hvb359 rfl (idxL_some he172).1 (idxL_some he172).2.1) rfl ?_
                        refine O (r_loadEl (cs := [v171]) ti22 rfl rfl (.inr rfl) (hcb359 _ hs.imm) (v := v171) rfl) rfl ?_
                        refine O (r_move (v := .int .i64 xv100) rfl) rfl ?_
                        obtain ⟨e173, he173, hM⟩ := bindS hM
                        obtain ⟨b360, ob360, cb360, hvb360, cs363, hcs363, hcb360⟩ := hRv171.at he173
                        have hcs363 : cs363 = _ := hcs363; subst hcs363
                        refine O (r_idxSl Try.underlying22 ti3 (v := v171) rfl hvb360 rfl (idxL_some he173).1 (idxL_some he173).2.1) rfl ?_
                        refine O (r_loadEl (cs := [.int .i64 e173]) ti3 rfl rfl (.inr rfl) (hcb360 _ hs.imm) (v := .int .i64 e173) rfl) rfl ?_
                        refine O (r_lss rfl rfl) rfl ?_
                        refine O (r_move (v := .bool (decide (e173 < (-1)))) rfl) rfl ?_
                        rcases condS hM with ⟨hg114, hM⟩ | ⟨hg114, hM⟩
                        · refine OK rfl rfl rfl (by rw [hg114]; rfl) rfl ?_
                          refine OK rfl rfl rfl (by rw [hg114]; rfl) rfl ?_
                          refine OK rfl rfl rfl (by rw [hg114]; rfl) rfl ?_
                          refine OK rfl rfl rfl (by rw [hg114]; rfl) rfl ?_
                          refine OK rfl rfl rfl (by rw [hg114]; rfl) rfl ?_
                          refine OK rfl rfl rfl (by rw [hg114]; rfl) rfl ?_
                          refine OK rfl rfl rfl (by rw [hg114]; rfl) rfl ?_
                          refine OK rfl rfl rfl (by rw [hg114]; rfl) rfl ?_
                          refine OK rfl rfl rfl (by rw [hg114]; rfl) rfl ?_
                          refine OK rfl rfl rfl (by rw [hg114]; rfl) rfl ?_
                          refine O (r_pickT (v := .bool true) rfl hg114 rfl) rfl ?_
                          refine OW_nil ?_
                          obtain rfl := Option.some.inj hM
                          exact ⟨rfl, rfl, rfl, rfl, rfl, rfl, hs⟩
                        · refine OG rfl rfl rfl (by rw [hg114]; rfl) (r_fieldAddr Try.underlying25 ti23 rfl rfl (by decide) rfl rfl) rfl ?_
                          refine OG rfl rfl rfl (by rw [hg114]; rfl) (r_load (v := v2) ti23 rfl (hs.cell (i := 0) (o := 1) rfl rfl)) rfl ?_
                          refine OG rfl rfl rfl (by rw [hg114]; rfl) (r_move (v := .int .i64 xv74) rfl) rfl ?_
                          obtain ⟨b361, ob361, cb361, hvb361, cs364, hcs364, hcb361⟩ := hRv2.at he172
                          obtain ⟨v172, rfl, hRv172⟩ := hcs364
                          refine OG rfl rfl rfl (by rw [hg114]; rfl) (r_idxSl Try.underlying23 ti22 (v := v2) rfl hvb361 rfl (idxL_some he172).1 (idxL_some he172).2.1) rfl ?_
                          refine OG rfl rfl rfl (by rw [hg114]; rfl) (r_loadEl (cs := [v172]) ti22 rfl rfl (.inr rfl) (hcb361 _ hs.imm) (v := v172) rfl) rfl ?_
                          refine OG rfl rfl rfl (by rw [hg114]; rfl) (r_move (v := .int .i64 xv100) rfl) rfl ?_
                          obtain ⟨b362, ob362, cb362, hvb362, cs365, hcs365, hcb362⟩ := hRv172.at he173
                          have hcs365 : cs365 = _ := hcs365; subst hcs365
                          refine OG rfl rfl rfl (by rw [hg114]; rfl) (r_idxSl Try.underlying22 ti3 (v := v172) rfl hvb362 rfl (idxL_some he173).1 (idxL_some he173).2.1) rfl ?_
                          refine OG rfl rfl rfl (by rw [hg114]; rfl) (r_loadEl (cs := [.int .i64 e173]) ti3 rfl rfl (.inr rfl) (hcb362 _ hs.imm) (v := .int .i64 e173) rfl) rfl ?_
                          refine OG rfl rfl rfl (by rw [hg114]; rfl) (r_move (v := .int .i64 (p1.Next.length : Int)) rfl) rfl ?_
                          refine OG rfl rfl rfl (by rw [hg114]; rfl) (r_geq rfl rfl) rfl ?_
                          refine O (r_pickF (v := .bool (decide ((p1.Next.length : Int) ≤ e173))) rfl hg114 rfl) rfl ?_
                          refine OW_nil ?_
                          obtain rfl := Option.some.inj hM
                          exact ⟨rfl, rfl, rfl, rfl, rfl, rfl, hs⟩
                      · clear hs
                        rintro E w ⟨hE1, hE3, hE4, hE6, hE7, hE102, hs⟩
                        have hM := hKhx63
                        obtain ⟨E, rfl⟩ := open1 (E := E) hE1
                        obtain ⟨E, rfl⟩ := open1 (E := E) hE3
                        obtain ⟨E, rfl⟩ := open1 (E := E) hE4
                        obtain ⟨E, rfl⟩ := open1 (E := E) hE6
                        obtain ⟨E, rfl⟩ := open1 (E := E) hE7
                        obtain ⟨E, rfl⟩ := open1 (E := E) hE102
                        rcases condS hM with ⟨hc104, hM⟩ | ⟨hc104, hM⟩
                        · refine WP_true rfl hc104 ?_
                          refine WP_seq ?_
                          refine WP_region ?_
                          refine O (r_assign (v := .bool false) rfl) rfl ?_
                          refine OW_nil ?_
                          refine WP_ret ?_
                          obtain rfl := Option.some.inj hM
                          refine fun hr => ?_
                          have hM := congrArg some hr
                          obtain rfl := Option.some.inj hM
                          have hM := hKhx59
                          obtain rfl := Option.some.inj hM
                          refine fun hr => ?_
                          have hM := congrArg some hr
                          obtain rfl := Option.some.inj hM
                          have hM := hKhx36
                          obtain rfl := Option.some.inj hM
                          exact ⟨_, res1 Try.results10 (rv_tmp (v := .bool false) rfl), g0, ⟨[.bool false], rfl, rfl⟩, hs.ext⟩
                        · refine WP_false rfl hc104 ?_
                          refine WP_skip ?_
                          refine WP_region ?_
                          refine O (r_move (v := .int .i64 xv100) rfl) rfl ?_
                          obtain ⟨t47, ht47, hM⟩ := bindS hM
                          refine O (r_addM rfl rfl ht47) rfl ?_
                          refine O (r_assign (v := .int .i64 t47) rfl) rfl ?_
                          refine OW_nil ?_
                          obtain rfl := Option.some.inj hM
                          exact ⟨rfl, rfl, rfl, rfl, rfl, hs⟩
                    · refine WP_false rfl hc103 ?_
                      refine WP_exit ?_
                      obtain rfl := Option.some.inj hM
                      refine fun hr => ?_
                      have hM := congrArg some hr
                      obtain rfl := Option.some.inj hM
                      exact ⟨(), rfl, rfl, rfl, rfl, rfl, hs⟩
              · clear hs
                rintro E w ⟨_, rfl, hE1, hE3, hE4, hE6, hs⟩
                have hM := hKhx59
                dsimp only [onStep] at hM
                obtain ⟨E, rfl⟩ := open1 (E := E) hE1
                obtain ⟨E, rfl⟩ := open1 (E := E) hE3
                obtain ⟨E, rfl⟩ := open1 (E := E) hE4
                obtain ⟨E, rfl⟩ := open1 (E := E) hE6
                refine WP_region ?_
                refine O (r_move (v := .int .i64 xv74) rfl) rfl ?_
                obtain ⟨t48, ht48, hM⟩ := bindS hM
                refine O (r_addM rfl rfl ht48) rfl ?_
                refine O (r_assign (v := .int .i64 t48) rfl) rfl ?_
                refine OW_nil ?_
                obtain rfl := Option.some.inj hM
                exact ⟨rfl, rfl, rfl, rfl, hs⟩
            · refine WP_false rfl hc90 ?_
              refine WP_exit ?_
              obtain rfl := Option.some.inj hM
              refine fun hr => ?_
              have hM := congrArg some hr
              obtain rfl := Option.some.inj hM
              exact ⟨(), rfl, (hs.sub (.cons _ .slnil))⟩
          · clear hs
            rintro E w ⟨_, rfl, hs⟩
            have hM := hKhx36
            dsimp only [onStep] at hM
            refine WP_seq ?_
            refine WP_region ?_
            refine O (r_assign (v := .bool true) rfl) rfl ?_
            refine OW_nil ?_
            refine WP_ret ?_
            obtain rfl := Option.some.inj hM
            exact ⟨_, res1 Try.results10 (rv_tmp (v := .bool true) rfl), g0, ⟨[.bool true], rfl, rfl⟩, hs.ext⟩

set_option maxRecDepth 100000 in
theorem ref10_Step_ok {d1 : T_DFA} {s1 : Int} {b1 : Int} {r : Int} (hM : M.ref10_Step d1 s1 b1 = some r) {g0 : Hp} {w0 : World} (hi : Imm g0 w0) {cs1 : List Value} (hcs1 : tT_DFA.rel g0 cs1 d1) :
    CallsV Try.prog 31 #[.agg cs1.toArray, .int .i64 s1, .int .u8 b1] w0 (fun v w' => ∃ g', (VRd (tInt .i64) false g' v r) ∧ Ext g0 w0 g' w') := by
  unfold M.ref10_Step at hM
  obtain ⟨cs2, cs3, cs4, rfl, hcs2, hcs3, hcs4⟩ := hcs1
  obtain ⟨v1, rfl, hRv1⟩ := hcs2
  obtain ⟨v2, rfl, hRv2⟩ := hcs3
  obtain ⟨v3, rfl, hRv3⟩ := hcs4
  have hs := Sep.start hi
  refine calls_of_WP (args := [.agg (List.toArray (α := Value) [v1, v2, v3]), .int .i64 s1, .int .u8 b1]) Try.func31 rfl Try.ntmps31 rfl ?_
  refine WP_seq ?_
  refine WP_region ?_
  refine OW_box (v := .agg (List.toArray (α := Value) [v1, v2, v3])) rfl hs (zs := [v1, v2, v3]) rfl rfl ?_
  intro b2 wv1 hs
  refine O (r_assign (v := .int .i64 0) rfl) rfl ?_
  refine OW_nil ?_
  refine WP_seq ?_
  refine WP_seq ?_
  refine WP_region ?_
  refine O (r_move (v := .int .i64 s1) rfl) rfl ?_
  refine O (r_lss rfl rfl) rfl ?_
  refine OW_nil ?_
  rcases condS hM with ⟨hc1, hM⟩ | ⟨hc1, hM⟩
  · refine WP_true rfl hc1 ?_
    refine WP_seq ?_
    refine WP_region ?_
    refine O (r_assign (v := .int .i64 (-1)) rfl) rfl ?_
    refine OW_nil ?_
    refine WP_ret ?_
    obtain rfl := Option.some.inj hM
    exact ⟨_, res1 Try.results31 (rv_tmp (v := .int .i64 (-1)) rfl), g0, ⟨[.int .i64 (-1)], rfl, rfl⟩, hs.ext⟩
  · refine WP_false rfl hc1 ?_
    refine WP_skip ?_
    refine WP_seq ?_
    refine WP_draw mo (by decide +kernel) ?_
    have hs := hs.drew
    refine S (r_fieldAddr Try.underlying25 ti23 rfl rfl (by decide) rfl rfl) rfl ?_
    refine S (r_load (v := v2) ti23 rfl (hs.cell (i := 0) (o := 1) rfl rfl)) rfl ?_
    refine S (r_move (v := .int .i64 s1) rfl) rfl ?_
    obtain ⟨e1, he1, hM⟩ := bindS hM
    obtain ⟨b3, ob3, cb3, hvb3, cs5, hcs5, hcb3⟩ := hRv2.at he1
    obtain ⟨v4, rfl, hRv4⟩ := hcs5
    refine S (r_idxSl Try.underlying23 ti22 (v := v2) rfl hvb3 rfl (idxL_some he1).1 (idxL_some he1).2.1) rfl ?_
    refine S (r_loadEl (cs := [v4]) ti22 rfl rfl (.inr rfl) (hcb3 _ hs.imm) (v := v4) rfl) rfl ?_
    refine S (r_fieldAddr Try.underlying25 ti22 rfl rfl (by decide) rfl rfl) rfl ?_
    refine S (r_load (v := v1) ti22 rfl (hs.cell (i := 0) (o := 0) rfl rfl)) rfl ?_
    refine S (r_move (v := .int .u8 b1) rfl) rfl ?_
    obtain ⟨e2, he2, hM⟩ := bindS hM
    obtain ⟨b4, ob4, cb4, hvb4, cs6, hcs6, hcb4⟩ := hRv1.at he2
    have hcs6 : cs6 = _ := hcs6; subst hcs6
    refine S (r_idxSl Try.underlying22 ti3 (v := v1) rfl hvb4 rfl (idxL_some he2).1 (idxL_some he2).2.1) rfl ?_
    refine S (r_loadEl (cs := [.int .i64 e2]) ti3 rfl rfl (.inr rfl) (hcb4 _ hs.imm) (v := .int .i64 e2) rfl) rfl ?_
    obtain ⟨e3, he3, hM⟩ := bindS hM
    obtain ⟨b5, ob5, cb5, hvb5, cs7, hcs7, hcb5⟩ := hRv4.at he3
    have hcs7 : cs7 = _ := hcs7; subst hcs7
    refine S (r_idxSl Try.underlying22 ti3 (v := v4) rfl hvb5 rfl (idxL_some he3).1 (idxL_some he3).2.1) rfl ?_
    refine S (r_loadEl (cs := [.int .i64 e3]) ti3 rfl rfl (.inr rfl) (hcb5 _ hs.imm) (v := .int .i64 e3) rfl) rfl ?_
    refine S (r_assign (v := .int .i64 e3) rfl) rfl ?_
    refine SW_nil ?_
    refine WP_ret ?_
    obtain rfl := Option.some.inj hM
    exact ⟨_, res1 Try.results31 (rv_tmp (v := .int .i64 e3) rfl), g0, ⟨[.int .i64 e3], rfl, rfl⟩, hs.ext⟩

set_option maxRecDepth 100000 in
theorem ref10_accept_ok {d1 : T_DFA} {s1 : Int} {r : Int} (hM : M.ref10_accept d1 s1 = some r) {g0 : Hp} {w0 : World} (hi : Imm g0 w0) {cs1 : List Value} (hcs1 : tT_DFA.rel g0 cs1 d1) :
    CallsV Try.prog 32 #[.agg cs1.toArray, .int .i64 s1] w0 (fun v w' => ∃ g', (VRd (tInt .i64) false g' v r) ∧ Ext g0 w0 g' w') := by
  unfold M.ref10_accept at hM
  obtain ⟨cs2, cs3, cs4, rfl, hcs2, hcs3, hcs4⟩ := hcs1
  obtain ⟨v1, rfl, hRv1⟩ := hcs2
  obtain ⟨v2, rfl, hRv2⟩ := hcs3
  obtain ⟨v3, rfl, hRv3⟩ := hcs4
  have hs := Sep.start hi
  refine calls_of_WP (args := [.agg (List.toArray (α := Value) [v1, v2, v3]), .int .i64 s1]) Try.func32 rfl Try.ntmps32 rfl ?_
  refine WP_seq ?_
  refine WP_region ?_
  refine OW_box (v := .agg (List.toArray (α := Value) [v1, v2, v3])) rfl hs (zs := [v1, v2, v3]) rfl rfl ?_
  intro b1 wv1 hs
  refine O (r_assign (v := .int .i64 0) rfl) rfl ?_
  refine OW_nil ?_
  refine WP_seq ?_
  refine WP_seq ?_
  refine WP_region ?_
  refine O (r_move (v := .int .i64 s1) rfl) rfl ?_
  refine O (r_lss rfl rfl) rfl ?_
  refine OW_nil ?_
  rcases condS hM with ⟨hc1, hM⟩ | ⟨hc1, hM⟩
  · refine WP_true rfl hc1 ?_
    refine WP_seq ?_
    refine WP_region ?_
    refine O (r_assign (v := .int .i64 (-1)) rfl) rfl ?_
    refine OW_nil ?_
    refine WP_ret ?_
    obtain rfl := Option.some.inj hM
    exact ⟨_, res1 Try.results32 (rv_tmp (v := .int .i64 (-1)) rfl), g0, ⟨[.int .i64 (-1)], rfl, rfl⟩, hs.ext⟩
  · refine WP_false rfl hc1 ?_
    refine WP_skip ?_
    refine WP_seq ?_
    refine WP_region ?_
    refine O (r_fieldAddr Try.underlying25 ti22 rfl rfl (by decide) rfl rfl) rfl ?_
    refine O (r_load (v := v3) ti22 rfl (hs.cell (i := 0) (o := 2) rfl rfl)) rfl ?_
    refine O (r_move (v := .int .i64 s1) rfl) rfl ?_
    obtain ⟨e1, he1, hM⟩ := bindS hM
    obtain ⟨b2, ob2, cb2, hvb2, cs5, hcs5, hcb2⟩ := hRv3.at he1
    have hcs5 : cs5 = _ := hcs5; subst hcs5
    refine O (r_idxSl Try.underlying22 ti3 (v := v3) rfl hvb2 rfl (idxL_some he1).1 (idxL_some he1).2.1) rfl ?_
    refine O (r_loadEl (cs := [.int .i64 e1]) ti3 rfl rfl (.inr rfl) (hcb2 _ hs.imm) (v := .int .i64 e1) rfl) rfl ?_
    refine O (r_assign (v := .int .i64 e1) rfl) rfl ?_
    refine OW_nil ?_
    refine WP_ret ?_
    obtain rfl := Option.some.inj hM
    exact ⟨_, res1 Try.results32 (rv_tmp (v := .int .i64 e1) rfl), g0, ⟨[.int .i64 e1], rfl, rfl⟩, hs.ext⟩

set_option maxRecDepth 100000 in
theorem ref10_Run_ok {d1 : T_DFA} {s1 : Str} {r : Int} (hM : M.ref10_Run d1 s1 = some r) {g0 : Hp} {w0 : World} (hi : Imm g0 w0) {cs1 : List Value} (hcs1 : tT_DFA.rel g0 cs1 d1) :
    CallsV Try.prog 13 #[.agg cs1.toArray, encS s1] w0 (fun v w' => ∃ g', (VRd (tInt .i64) false g' v r) ∧ Ext g0 w0 g' w') := by
  unfold M.ref10_Run at hM
  obtain ⟨cs2, cs3, cs4, rfl, hcs2, hcs3, hcs4⟩ := hcs1
  obtain ⟨v1, rfl, hRv1⟩ := hcs2
  obtain ⟨v2, rfl, hRv2⟩ := hcs3
  obtain ⟨v3, rfl, hRv3⟩ := hcs4
  have hs := Sep.start hi
  refine calls_of_WP (args := [.agg (List.toArray (α := Value) [v1, v2, v3]), encS s1]) Try.func13 rfl Try.ntmps13 rfl ?_
  refine WP_seq ?_
  refine WP_region ?_
  refine OW_box (v := .agg (List.toArray (α := Value) [v1, v2, v3])) rfl hs (zs := [v1, v2, v3]) rfl rfl ?_
  intro b1 wv1 hs
  refine O (r_assign (v := .int .i64 0) rfl) rfl ?_
  refine OW_nil ?_
  refine WP_seq ?_
  refine WP_region ?_
  refine O (r_assign (v := .int .i64 0) rfl) rfl ?_
  refine OW_nil ?_
  obtain ⟨atv7, hx1, hKhx1⟩ := bindS hM
  refine WP_cut (fun E w => ∃ (gg7 : Hp), E 2 = .pointer (some ⟨b1, 0, none⟩) ∧ E 5 = .int .i64 atv7 ∧ Hle g0 gg7 ∧ Go.Lx.Sep g0 w0 gg7 w [Go.Lx.box b1 25 ([v1, v2, v3])]) ?_ ?_
  · have hM := hx1
    have hag0 := Hle.refl g0
    refine WP_seq ?_
    refine WP_region ?_
    refine O (r_assign (v := .int .i64 0) rfl) rfl ?_
    refine OW_nil ?_
    refine WP_block ?_
    refine WP_loop (fun (st9 : Int × Int) E w => match st9 with | (atv10, i5) => ∃ (gg10 : Hp), E 1 = encS s1 ∧ E 2 = .pointer (some ⟨b1, 0, none⟩) ∧ E 5 = .int .i64 atv10 ∧ E 6 = .int .i64 i5 ∧ Hle g0 gg10 ∧ Go.Lx.Sep g0 w0 gg10 w [Go.Lx.box b1 25 ([v1, v2, v3])]) hM ⟨g0, rfl, rfl, rfl, rfl, (Hle.refl _), hs⟩ ?_
    clear hs hM
    rintro ⟨atv10, i5⟩ o2 E w hM ⟨gg10, hE1, hE2, hE5, hE6, hlegg10, hs⟩
    obtain ⟨E, rfl⟩ := open1 (E := E) hE1
    obtain ⟨E, rfl⟩ := open1 (E := E) hE2
    obtain ⟨E, rfl⟩ := open1 (E := E) hE5
    obtain ⟨E, rfl⟩ := open1 (E := E) hE6
    replace hRv1 := hRv1.mono hlegg10
    replace hRv2 := hRv2.mono hlegg10
    replace hRv3 := hRv3.mono hlegg10
    replace hag0 := hag0.trans hlegg10
    have hagg10 := Hle.refl gg10
    refine WP_seq ?_
    refine WP_seq ?_
    refine WP_region ?_
    refine O (r_move (v := .int .i64 i5) rfl) rfl ?_
    refine O (r_move (v := encS s1) rfl) rfl ?_
    refine O (r_lenStr Try.underlying9 rfl) rfl ?_
    refine O (r_lss rfl rfl) rfl ?_
    refine OW_nil ?_
    rcases condS hM with ⟨hc6, hM⟩ | ⟨hc6, hM⟩
    · refine WP_true rfl hc6 ?_
      refine WP_skip ?_
      refine WP_seq ?_
      refine WP_block ?_
      refine WP_drawTail 5 mo (by decide +kernel) ?_
      have hs := hs.drew
      refine S (r_loadN (cs := [v1, v2, v3]) ti25 rfl rfl (hs.cells (i := 0) rfl)) rfl ?_
      refine S (r_move (v := .int .i64 atv10) rfl) rfl ?_
      refine S (r_move (v := encS s1) rfl) rfl ?_
      refine S (r_move (v := .int .i64 i5) rfl) rfl ?_
      obtain ⟨c6, hc6, hM⟩ := bindS hM
      refine S (r_idxStr Try.underlying9 rfl rfl hc6) rfl ?_
      refine SW_nil ?_
      obtain ⟨atv13, hatv13, hM⟩ := bindS hM
      refine C [.agg (List.toArray (α := Value) [v1, v2, v3]), .int .i64 atv10, .int .u8 c6] cf31 rfl (ref10_Step_ok hatv13 hs.imm (⟨[v1], [v2], [v3], rfl, ⟨_, rfl, hRv1⟩, ⟨_, rfl, hRv2⟩, ⟨_, rfl, hRv3⟩⟩)) rfl ?_
      rintro v9 wv7 ⟨gg13, hvv9, hegg13⟩
      have hlegg13 := hegg13.le hs.imm
      replace hs := hs.call hegg13
      replace hRv1 := hRv1.mono hlegg13
      replace hRv2 := hRv2.mono hlegg13
      replace hRv3 := hRv3.mono hlegg13
      replace hlegg10 := hlegg10.trans hlegg13
      replace hagg10 := hagg10.trans hlegg13
      obtain ⟨cs10, rfl, hcs10⟩ := hvv9
      have hcs10 : cs10 = _ := hcs10; subst hcs10
      refine O (r_assign (v := .int .i64 atv13) rfl) rfl ?_
      refine OW_nil ?_
      refine WP_region ?_
      refine O (r_move (v := .int .i64 i5) rfl) rfl ?_
      obtain ⟨t6, ht6, hM⟩ := bindS hM
      refine O (r_addM rfl rfl ht6) rfl ?_
      refine O (r_assign (v := .int .i64 t6) rfl) rfl ?_
      refine OW_nil ?_
      obtain rfl := Option.some.inj hM
      exact ⟨gg13, rfl, rfl, rfl, rfl, hlegg10, hs⟩
    · refine WP_false rfl hc6 ?_
      refine WP_exit ?_
      obtain rfl := Option.some.inj hM
      refine fun hr => ?_
      have hM := congrArg some hr
      obtain rfl := Option.some.inj hM
      exact ⟨gg10, rfl, rfl, hlegg10, hs⟩
  · clear hs
    rintro E w ⟨gg7, hE2, hE5, hlegg7, hs⟩
    have hM := hKhx1
    obtain ⟨E, rfl⟩ := open1 (E := E) hE2
    obtain ⟨E, rfl⟩ := open1 (E := E) hE5
    replace hRv1 := hRv1.mono hlegg7
    replace hRv2 := hRv2.mono hlegg7
    replace hRv3 := hRv3.mono hlegg7
    refine WP_seq ?_
    refine WP_region ?_
    refine O (r_loadN (cs := [v1, v2, v3]) ti25 rfl rfl (hs.cells (i := 0) rfl)) rfl ?_
    refine O (r_move (v := .int .i64 atv7) rfl) rfl ?_
    obtain ⟨rv1, hrv1, hM⟩ := bindS hM
    refine C [.agg (List.toArray (α := Value) [v1, v2, v3]), .int .i64 atv7] cf32 rfl (ref10_accept_ok hrv1 hs.imm (⟨[v1], [v2], [v3], rfl, ⟨_, rfl, hRv1⟩, ⟨_, rfl, hRv2⟩, ⟨_, rfl, hRv3⟩⟩)) rfl ?_
    rintro v10 wv8 ⟨gg14, hvv10, hegg14⟩
    have hlegg14 := hegg14.le hs.imm
    replace hs := hs.call hegg14
    replace hRv1 := hRv1.mono hlegg14
    replace hRv2 := hRv2.mono hlegg14
    replace hRv3 := hRv3.mono hlegg14
    obtain ⟨cs11, rfl, hcs11⟩ := hvv10
    have hcs11 : cs11 = _ := hcs11; subst hcs11
    refine O (r_assign (v := .int .i64 rv1) rfl) rfl ?_
    refine OW_nil ?_
    refine WP_ret ?_
    obtain rfl := Option.some.inj hM
    exact ⟨_, res1 Try.results13 (rv_tmp (v := .int .i64 rv1) rfl), gg14, ⟨[.int .i64 rv1], rfl, rfl⟩, hs.ext⟩

set_option maxRecDepth 100000 in
theorem ref10_Small_ok {d1 : T_DFA} {states1 : Int} {classes1 : Int} {r : Bool} (hM : M.ref10_Small d1 states1 classes1 = some r) {g0 : Hp} {w0 : World} (hi : Imm g0 w0) {cs1 : List Value} (hcs1 : tT_DFA.rel g0 cs1 d1) :
    CallsV Try.prog 14 #[.agg cs1.toArray, .int .i64 states1, .int .i64 classes1] w0 (fun v w' => ∃ g', (VRd tBool false g' v r) ∧ Ext g0 w0 g' w') := by
  unfold M.ref10_Small at hM
  obtain ⟨cs2, cs3, cs4, rfl, hcs2, hcs3, hcs4⟩ := hcs1
  obtain ⟨v1, rfl, hRv1⟩ := hcs2
  obtain ⟨v2, rfl, hRv2⟩ := hcs3
  obtain ⟨v3, rfl, hRv3⟩ := hcs4
  have hs := Sep.start hi
  refine calls_of_WP (args := [.agg (List.toArray (α := Value) [v1, v2, v3]), .int .i64 states1, .int .i64 classes1]) Try.func14 rfl Try.ntmps14 rfl ?_
  refine WP_seq ?_
  refine WP_region ?_
  refine OW_box (v := .agg (List.toArray (α := Value) [v1, v2, v3])) rfl hs (zs := [v1, v2, v3]) rfl rfl ?_
  intro b1 wv1 hs
  refine O (r_assign (v := .bool false) rfl) rfl ?_
  refine OW_nil ?_
  obtain ⟨xv1, hx1, hKhx1⟩ := bindS hM
  refine WP_cut (fun E w => ∃ (gg2 : Hp), E 6 = .bool xv1 ∧ Hle g0 gg2 ∧ Go.Lx.Sep g0 w0 gg2 w []) ?_ ?_
  · have hM := hx1
    have hag0 := Hle.refl g0
    refine WP_region ?_
    refine O (r_loadN (cs := [v1, v2, v3]) ti25 rfl rfl (hs.cells (i := 0) rfl)) rfl ?_
    obtain ⟨rv2, hrv2, hM⟩ := bindS hM
    refine C [.agg (List.toArray (α := Value) [v1, v2, v3])] cf10 rfl (ref10_Valid_ok hrv2 hs.imm (⟨[v1], [v2], [v3], rfl, ⟨_, rfl, hRv1⟩, ⟨_, rfl, hRv2⟩, ⟨_, rfl, hRv3⟩⟩)) rfl ?_
    rintro v6 wv3 ⟨gg3, hvv6, hegg3⟩
    have hlegg3 := hegg3.le hs.imm
    replace hs := hs.call hegg3
    replace hRv1 := hRv1.mono hlegg3
    replace hRv2 := hRv2.mono hlegg3
    replace hRv3 := hRv3.mono hlegg3
    replace hag0 := hag0.trans hlegg3
    obtain ⟨cs7, rfl, hcs7⟩ := hvv6
    have hcs7 : cs7 = _ := hcs7; subst hcs7
    refine O (r_move (v := .bool rv2) rfl) rfl ?_
    rcases condS hM with ⟨hg3, hM⟩ | ⟨hg3, hM⟩
    · refine OG rfl rfl rfl (by rw [hg3]; rfl) (r_fieldAddr Try.underlying25 ti23 rfl rfl (by decide) rfl rfl) rfl ?_
      refine OG rfl rfl rfl (by rw [hg3]; rfl) (r_load (v := v2) ti23 rfl (hs.cell (i := 0) (o := 1) rfl rfl)) rfl ?_
      obtain ⟨a3, ca3, hva3⟩ := hRv2.shape
      refine OG rfl rfl rfl (by rw [hg3]; rfl) (r_lenSl (v := v2) Try.underlying23 rfl hva3) rfl ?_
      refine OG rfl rfl rfl (by rw [hg3]; rfl) (r_move (v := .int .i64 states1) rfl) rfl ?_
      refine OG rfl rfl rfl (by rw [hg3]; rfl) (r_leq rfl rfl) rfl ?_
      refine O (r_pickT (v := .bool (decide ((d1.Next.length : Int) ≤ states1))) rfl hg3 rfl) rfl ?_
      refine O (r_move (v := .bool (decide ((d1.Next.length : Int) ≤ states1))) rfl) rfl ?_
      rcases condS hM with ⟨hg4, hM⟩ | ⟨hg4, hM⟩
      · refine OG rfl rfl rfl (by rw [hg4]; rfl) (r_fieldAddr Try.underlying25 ti23 rfl rfl (by decide) rfl rfl) rfl ?_
        refine OG rfl rfl rfl (by rw [hg4]; rfl) (r_load (v := v2) ti23 rfl (hs.cell (i := 0) (o := 1) rfl rfl)) rfl ?_
        obtain ⟨e2, he2, hM⟩ := bindS hM
        obtain ⟨b3, ob3, cb3, hvb3, cs8, hcs8, hcb3⟩ := hRv2.at he2
        obtain ⟨v7, rfl, hRv7⟩ := hcs8
        refine OG rfl rfl rfl (by rw [hg4]; rfl) (r_idxSl Try.underlying23 ti22 (v := v2) rfl hvb3 rfl (idxL_some he2).1 (idxL_some he2).2.1) rfl ?_
        refine OG rfl rfl rfl (by rw [hg4]; rfl) (r_loadEl (cs := [v7]) ti22 rfl rfl (.inr rfl) (hcb3 _ hs.imm) (v := v7) rfl) rfl ?_
        obtain ⟨a4, ca4, hva4⟩ := hRv7.shape
        refine OG rfl rfl rfl (by rw [hg4]; rfl) (r_lenSl (v := v7) Try.underlying22 rfl hva4) rfl ?_
        refine OG rfl rfl rfl (by rw [hg4]; rfl) (r_move (v := .int .i64 classes1) rfl) rfl ?_
        refine OG rfl rfl rfl (by rw [hg4]; rfl) (r_leq rfl rfl) rfl ?_
        refine O (r_pickT (v := .bool (decide ((e2.length : Int) ≤ classes1))) rfl hg4 rfl) rfl ?_
        refine O (r_assign (v := .bool (decide ((e2.length : Int) ≤ classes1))) rfl) rfl ?_
        refine OW_nil ?_
        obtain rfl := Option.some.inj hM
        exact ⟨gg3, rfl, hag0, (hs.sub (.cons _ .slnil))⟩
      · refine OK rfl rfl rfl (by rw [hg4]; rfl) rfl ?_
        refine OK rfl rfl rfl (by rw [hg4]; rfl) rfl ?_
        refine OK rfl rfl rfl (by rw [hg4]; rfl) rfl ?_
        refine OK rfl rfl rfl (by rw [hg4]; rfl) rfl ?_
        refine OK rfl rfl rfl (by rw [hg4]; rfl) rfl ?_
        refine OK rfl rfl rfl (by rw [hg4]; rfl) rfl ?_
        refine OK rfl rfl rfl (by rw [hg4]; rfl) rfl ?_
        refine O (r_pickF (v := .bool false) rfl hg4 rfl) rfl ?_
        refine O (r_assign (v := .bool false) rfl) rfl ?_
        refine OW_nil ?_
        obtain rfl := Option.some.inj hM
        exact ⟨gg3, rfl, hag0, (hs.sub (.cons _ .slnil))⟩
    · refine OK rfl rfl rfl (by rw [hg3]; rfl) rfl ?_
      refine OK rfl rfl rfl (by rw [hg3]; rfl) rfl ?_
      refine OK rfl rfl rfl (by rw [hg3]; rfl) rfl ?_
      refine OK rfl rfl rfl (by rw [hg3]; rfl) rfl ?_
      refine OK rfl rfl rfl (by rw [hg3]; rfl) rfl ?_
      refine O (r_pickF (v := .bool false) rfl hg3 rfl) rfl ?_
      refine O (r_move (v := .bool false) rfl) rfl ?_
      refine OK rfl rfl rfl rfl rfl ?_
      refine OK rfl rfl rfl rfl rfl ?_
      refine OK rfl rfl rfl rfl rfl ?_
      refine OK rfl rfl rfl rfl rfl ?_
      refine OK rfl rfl rfl rfl rfl ?_
      refine OK rfl rfl rfl rfl rfl ?_
      refine OK rfl rfl rfl rfl rfl ?_
      refine O (r_pickF (v := .bool false) rfl rfl rfl) rfl ?_
      refine O (r_assign (v := .bool false) rfl) rfl ?_
      refine OW_nil ?_
      obtain rfl := Option.some.inj hM
      exact ⟨gg3, rfl, hag0, (hs.sub (.cons _ .slnil))⟩
  · clear hs
    rintro E w ⟨gg2, hE6, hlegg2, hs⟩
    have hM := hKhx1
    obtain ⟨E, rfl⟩ := open1 (E := E) hE6
    refine WP_ret ?_
    obtain rfl := Option.some.inj hM
    exact ⟨_, res1 Try.results14 (rv_tmp (v := .bool xv1) rfl), gg2, ⟨[.bool xv1], rfl, rfl⟩, hs.ext⟩

set_option maxRecDepth 100000 in
theorem ref10_Same_ok {a1 : T_DFA} {b1 : T_DFA} {r : Bool} (hM : M.ref10_Same a1 b1 = some r) {g0 : Hp} {w0 : World} (hi : Imm g0 w0) {cs1 : List Value} (hcs1 : tT_DFA.rel g0 cs1 a1) {cs2 : List Value} (hcs2 : tT_DFA.rel g0 cs2 b1) :
    CallsV Try.prog 16 #[.agg cs1.toArray, .agg cs2.toArray] w0 (fun v w' => ∃ g', (VRd tBool false g' v r) ∧ Ext g0 w0 g' w') := by
  unfold M.ref10_Same at hM
  obtain ⟨cs3, cs4, cs5, rfl, hcs3, hcs4, hcs5⟩ := hcs1
  obtain ⟨v1, rfl, hRv1⟩ := hcs3
  obtain ⟨v2, rfl, hRv2⟩ := hcs4
  obtain ⟨v3, rfl, hRv3⟩ := hcs5
  obtain ⟨cs6, cs7, cs8, rfl, hcs6, hcs7, hcs8⟩ := hcs2
  obtain ⟨v4, rfl, hRv4⟩ := hcs6
  obtain ⟨v5, rfl, hRv5⟩ := hcs7
  obtain ⟨v6, rfl, hRv6⟩ := hcs8
  have hs := Sep.start hi
  refine calls_of_WP (args := [.agg (List.toArray (α := Value) [v1, v2, v3]), .agg (List.toArray (α := Value) [v4, v5, v6])]) Try.func16 rfl Try.ntmps16 rfl ?_
  refine WP_seq ?_
  refine WP_region ?_
  refine OW_box (v := .agg (List.toArray (α := Value) [v1, v2, v3])) rfl hs (zs := [v1, v2, v3]) rfl rfl ?_
  intro b2 wv1 hs
  refine OW_box (v := .agg (List.toArray (α := Value) [v4, v5, v6])) rfl hs (zs := [v4, v5, v6]) rfl rfl ?_
  intro b3 wv2 hs
  refine O (r_assign (v := .bool false) rfl) rfl ?_
  refine OW_nil ?_
  refine WP_seq ?_
  obtain ⟨xv1, hx1, hKhx1⟩ := bindS hM
  refine WP_cut (fun E w => ∃ (gg3 : Hp), E 2 = .pointer (some ⟨b2, 0, none⟩) ∧ E 3 = .pointer (some ⟨b3, 0, none⟩) ∧ E 28 = .bool xv1 ∧ Hle g0 gg3 ∧ Go.Lx.Sep g0 w0 gg3 w [Go.Lx.box b3 25 ([v4, v5, v6]), Go.Lx.box b2 25 ([v1, v2, v3])]) ?_ ?_
  · have hM := hx1
    have hag0 := Hle.refl g0
    refine WP_region ?_
    refine O (r_fieldAddr Try.underlying25 ti23 rfl rfl (by decide) rfl rfl) rfl ?_
    refine O (r_load (v := v2) ti23 rfl (hs.cell (i := 1) (o := 1) rfl rfl)) rfl ?_
    obtain ⟨a4, ca4, hva4⟩ := hRv2.shape
    refine O (r_lenSl (v := v2) Try.underlying23 rfl hva4) rfl ?_
    refine O (r_fieldAddr Try.underlying25 ti23 rfl rfl (by decide) rfl rfl) rfl ?_
    refine O (r_load (v := v5) ti23 rfl (hs.cell (i := 0) (o := 1) rfl rfl)) rfl ?_
    obtain ⟨a5, ca5, hva5⟩ := hRv5.shape
    refine O (r_lenSl (v := v5) Try.underlying23 rfl hva5) rfl ?_
    refine O (r_neq rfl rfl) rfl ?_
    refine O (r_move (v := .bool ((a1.Next.length : Int) != (b1.Next.length : Int))) rfl) rfl ?_
    rcases condS hM with ⟨hg3, hM⟩ | ⟨hg3, hM⟩
    · refine OK rfl rfl rfl (by rw [hg3]; rfl) rfl ?_
      refine OK rfl rfl rfl (by rw [hg3]; rfl) rfl ?_
      refine OK rfl rfl rfl (by rw [hg3]; rfl) rfl ?_
      refine OK rfl rfl rfl (by rw [hg3]; rfl) rfl ?_
      refine OK rfl rfl rfl (by rw [hg3]; rfl) rfl ?_
      refine OK rfl rfl rfl (by rw [hg3]; rfl) rfl ?_
      refine O (r_pickT (v := .bool true) rfl hg3 rfl) rfl ?_
      refine O (r_move (v := .bool true) rfl) rfl ?_
      refine OK rfl rfl rfl rfl rfl ?_
      refine OK rfl rfl rfl rfl rfl ?_
      refine OK rfl rfl rfl rfl rfl ?_
      refine OK rfl rfl rfl rfl rfl ?_
      refine OK rfl rfl rfl rfl rfl ?_
      refine OK rfl rfl rfl rfl rfl ?_
      refine O (r_pickT (v := .bool true) rfl rfl rfl) rfl ?_
      refine OW_nil ?_
      obtain rfl := Option.some.inj hM
      exact ⟨g0, rfl, rfl, rfl, (Hle.refl _), hs⟩
    · refine OG rfl rfl rfl (by rw [hg3]; rfl) (r_fieldAddr Try.underlying25 ti22 rfl rfl (by decide) rfl rfl) rfl ?_
      refine OG rfl rfl rfl (by rw [hg3]; rfl) (r_load (v := v1) ti22 rfl (hs.cell (i := 1) (o := 0) rfl rfl)) rfl ?_
      refine OG rfl rfl rfl (by rw [hg3]; rfl) (r_fieldAddr Try.underlying25 ti22 rfl rfl (by decide) rfl rfl) rfl ?_
      refine OG rfl rfl rfl (by rw [hg3]; rfl) (r_load (v := v4) ti22 rfl (hs.cell (i := 0) (o := 0) rfl rfl)) rfl ?_
      obtain ⟨rv3, hrv3, hM⟩ := bindS hM
      refine CG rfl rfl rfl (by rw [hg3]; rfl) [v1, v4] cf19 rfl (ref07_Ints_ok hrv3 hs.imm hRv1 hRv4) rfl ?_
      rintro v9 wv5 ⟨gg4, hvv9, hegg4⟩
      have hlegg4 := hegg4.le hs.imm
      replace hs := hs.call hegg4
      replace hRv1 := hRv1.mono hlegg4
      replace hRv2 := hRv2.mono hlegg4
      replace hRv3 := hRv3.mono hlegg4
      replace hRv4 := hRv4.mono hlegg4
      replace hRv5 := hRv5.mono hlegg4
      replace hRv6 := hRv6.mono hlegg4
      replace hag0 := hag0.trans hlegg4
      obtain ⟨cs11, rfl, hcs11⟩ := hvv9
      have hcs11 : cs11 = _ := hcs11; subst hcs11
      refine OG rfl rfl rfl (by rw [hg3]; rfl) (r_not rfl) rfl ?_
      refine O (r_pickF (v := .bool (!rv3)) rfl hg3 rfl) rfl ?_
      refine O (r_move (v := .bool (!rv3)) rfl) rfl ?_
      rcases condS hM with ⟨hg4, hM⟩ | ⟨hg4, hM⟩
      · refine OK rfl rfl rfl (by rw [hg4]; rfl) rfl ?_
        refine OK rfl rfl rfl (by rw [hg4]; rfl) rfl ?_
        refine OK rfl rfl rfl (by rw [hg4]; rfl) rfl ?_
        refine OK rfl rfl rfl (by rw [hg4]; rfl) rfl ?_
        refine OK rfl rfl rfl (by rw [hg4]; rfl) rfl ?_
        refine OK rfl rfl rfl (by rw [hg4]; rfl) rfl ?_
        refine O (r_pickT (v := .bool true) rfl hg4 rfl) rfl ?_
        refine OW_nil ?_
        obtain rfl := Option.some.inj hM
        exact ⟨gg4, rfl, rfl, rfl, hag0, hs⟩
      · refine OG rfl rfl rfl (by rw [hg4]; rfl) (r_fieldAddr Try.underlying25 ti22 rfl rfl (by decide) rfl rfl) rfl ?_
        refine OG rfl rfl rfl (by rw [hg4]; rfl) (r_load (v := v3) ti22 rfl (hs.cell (i := 1) (o := 2) rfl rfl)) rfl ?_
        refine OG rfl rfl rfl (by rw [hg4]; rfl) (r_fieldAddr Try.underlying25 ti22 rfl rfl (by decide) rfl rfl) rfl ?_
        refine OG rfl rfl rfl (by rw [hg4]; rfl) (r_load (v := v6) ti22 rfl (hs.cell (i := 0) (o := 2) rfl rfl)) rfl ?_
        obtain ⟨rv4, hrv4, hM⟩ := bindS hM
        refine CG rfl rfl rfl (by rw [hg4]; rfl) [v3, v6] cf19 rfl (ref07_Ints_ok hrv4 hs.imm hRv3 hRv6) rfl ?_
        rintro v10 wv6 ⟨gg5, hvv10, hegg5⟩
        have hlegg5 := hegg5.le hs.imm
        replace hs := hs.call hegg5
        replace hRv1 := hRv1.mono hlegg5
        replace hRv2 := hRv2.mono hlegg5
        replace hRv3 := hRv3.mono hlegg5
        replace hRv4 := hRv4.mono hlegg5
        replace hRv5 := hRv5.mono hlegg5
        replace hRv6 := hRv6.mono hlegg5
        replace hag0 := hag0.trans hlegg5
        obtain ⟨cs12, rfl, hcs12⟩ := hvv10
        have hcs12 : cs12 = _ := hcs12; subst hcs12
        refine OG rfl rfl rfl (by rw [hg4]; rfl) (r_not rfl) rfl ?_
        refine O (r_pickF (v := .bool (!rv4)) rfl hg4 rfl) rfl ?_
        refine OW_nil ?_
        obtain rfl := Option.some.inj hM
        exact ⟨gg5, rfl, rfl, rfl, hag0, hs⟩
  · clear hs
    rintro E w ⟨gg3, hE2, hE3, hE28, hlegg3, hs⟩
    have hM := hKhx1
    obtain ⟨E, rfl⟩ := open1 (E := E) hE2
    obtain ⟨E, rfl⟩ := open1 (E := E) hE3
    obtain ⟨E, rfl⟩ := open1 (E := E) hE28
    replace hRv1 := hRv1.mono hlegg3
    replace hRv2 := hRv2.mono hlegg3
    replace hRv3 := hRv3.mono hlegg3
    replace hRv4 := hRv4.mono hlegg3
    replace hRv5 := hRv5.mono hlegg3
    replace hRv6 := hRv6.mono hlegg3
    rcases condS hM with ⟨hc1, hM⟩ | ⟨hc1, hM⟩
    · refine WP_true rfl hc1 ?_
      refine WP_seq ?_
      refine WP_region ?_
      refine O (r_assign (v := .bool false) rfl) rfl ?_
      refine OW_nil ?_
      refine WP_ret ?_
      obtain rfl := Option.some.inj hM
      exact ⟨_, res1 Try.results16 (rv_tmp (v := .bool false) rfl), gg3, ⟨[.bool false], rfl, rfl⟩, hs.ext⟩
    · refine WP_false rfl hc1 ?_
      refine WP_skip ?_
      obtain ⟨o3, hx2, hKhx2⟩ := stepS hM
      refine WP_cut (fun E w => ∃ u9 : Unit, o3 = .next u9 ∧ ∃ (gg12 : Hp), Hle gg3 gg12 ∧ Go.Lx.Sep g0 w0 gg12 w []) ?_ ?_
      · have hM := hx2
        have hagg3 := Hle.refl gg3
        refine WP_seq ?_
        refine WP_region ?_
        refine O (r_assign (v := .int .i64 0) rfl) rfl ?_
        refine OW_nil ?_
        refine WP_block ?_
        refine WP_loop (fun (i5 : Int) E w => ∃ (gg15 : Hp), E 2 = .pointer (some ⟨b2, 0, none⟩) ∧ E 3 = .pointer (some ⟨b3, 0, none⟩) ∧ E 5 = .int .i64 i5 ∧ Hle gg3 gg15 ∧ Go.Lx.Sep g0 w0 gg15 w [Go.Lx.box b3 25 ([v4, v5, v6]), Go.Lx.box b2 25 ([v1, v2, v3])]) hM ⟨gg3, rfl, rfl, rfl, (Hle.refl _), hs⟩ ?_
        clear hs hM
        rintro i5 o2 E w hM ⟨gg15, hE2, hE3, hE5, hlegg15, hs⟩
        obtain ⟨E, rfl⟩ := open1 (E := E) hE2
        obtain ⟨E, rfl⟩ := open1 (E := E) hE3
        obtain ⟨E, rfl⟩ := open1 (E := E) hE5
        replace hRv1 := hRv1.mono hlegg15
        replace hRv2 := hRv2.mono hlegg15
        replace hRv3 := hRv3.mono hlegg15
        replace hRv4 := hRv4.mono hlegg15
        replace hRv5 := hRv5.mono hlegg15
        replace hRv6 := hRv6.mono hlegg15
        replace hagg3 := hagg3.trans hlegg15
        have hagg15 := Hle.refl gg15
        refine WP_seq ?_
        refine WP_seq ?_
        refine WP_region ?_
        refine O (r_move (v := .int .i64 i5) rfl) rfl ?_
        refine O (r_fieldAddr Try.underlying25 ti23 rfl rfl (by decide) rfl rfl) rfl ?_
        refine O (r_load (v := v2) ti23 rfl (hs.cell (i := 1) (o := 1) rfl rfl)) rfl ?_
        obtain ⟨a11, ca11, hva11⟩ := hRv2.shape
        refine O (r_lenSl (v := v2) Try.underlying23 rfl hva11) rfl ?_
        refine O (r_lss rfl rfl) rfl ?_
        refine OW_nil ?_
        rcases condS hM with ⟨hc12, hM⟩ | ⟨hc12, hM⟩
        · refine WP_true rfl hc12 ?_
          refine WP_skip ?_
          refine WP_seq ?_
          refine WP_block ?_
          refine WP_seq ?_
          refine WP_drawTail 10 mo (by decide +kernel) ?_
          have hs := hs.drew
          refine S (r_fieldAddr Try.underlying25 ti23 rfl rfl (by decide) rfl rfl) rfl ?_
          refine S (r_load (v := v2) ti23 rfl (hs.cell (i := 1) (o := 1) rfl rfl)) rfl ?_
          refine S (r_move (v := .int .i64 i5) rfl) rfl ?_
          obtain ⟨e11, he11, hM⟩ := bindS hM
          obtain ⟨b14, ob14, cb14, hvb14, cs28, hcs28, hcb14⟩ := hRv2.at he11
          obtain ⟨v26, rfl, hRv26⟩ := hcs28
          refine S (r_idxSl Try.underlying23 ti22 (v := v2) rfl hvb14 rfl (idxL_some he11).1 (idxL_some he11).2.1) rfl ?_
          refine S (r_loadEl (cs := [v26]) ti22 rfl rfl (.inr rfl) (hcb14 _ hs.imm) (v := v26) rfl) rfl ?_
          refine S (r_fieldAddr Try.underlying25 ti23 rfl rfl (by decide) rfl rfl) rfl ?_
          refine S (r_load (v := v5) ti23 rfl (hs.cell (i := 0) (o := 1) rfl rfl)) rfl ?_
          refine S (r_move (v := .int .i64 i5) rfl) rfl ?_
          obtain ⟨e12, he12, hM⟩ := bindS hM
          obtain ⟨b15, ob15, cb15, hvb15, cs29, hcs29, hcb15⟩ := hRv5.at he12
          obtain ⟨v27, rfl, hRv27⟩ := hcs29
          refine S (r_idxSl Try.underlying23 ti22 (v := v5) rfl hvb15 rfl (idxL_some he12).1 (idxL_some he12).2.1) rfl ?_
          refine S (r_loadEl (cs := [v27]) ti22 rfl rfl (.inr rfl) (hcb15 _ hs.imm) (v := v27) rfl) rfl ?_
          refine SW_nil ?_
          obtain ⟨rv10, hrv10, hM⟩ := bindS hM
          refine C [v26, v27] cf19 rfl (ref07_Ints_ok hrv10 hs.imm hRv26 hRv27) rfl ?_
          rintro v28 wv12 ⟨gg18, hvv28, hegg18⟩
          have hlegg18 := hegg18.le hs.imm
          replace hs := hs.call hegg18
          replace hRv1 := hRv1.mono hlegg18
          replace hRv2 := hRv2.mono hlegg18
          replace hRv3 := hRv3.mono hlegg18
          replace hRv4 := hRv4.mono hlegg18
          replace hRv5 := hRv5.mono hlegg18
          replace hRv6 := hRv6.mono hlegg18
          replace hRv26 := hRv26.mono hlegg18
          replace hRv27 := hRv27.mono hlegg18
          replace hlegg15 := hlegg15.trans hlegg18
          replace hagg15 := hagg15.trans hlegg18
          obtain ⟨cs30, rfl, hcs30⟩ := hvv28
          have hcs30 : cs30 = _ := hcs30; subst hcs30
          refine O (r_not rfl) rfl ?_
          refine OW_nil ?_
          rcases condS hM with ⟨hc13, hM⟩ | ⟨hc13, hM⟩
          · refine WP_true rfl hc13 ?_
            refine WP_seq ?_
            refine WP_region ?_
            refine O (r_assign (v := .bool false) rfl) rfl ?_
            refine OW_nil ?_
            refine WP_ret ?_
            obtain rfl := Option.some.inj hM
            refine fun hr => ?_
            have hM := congrArg some hr
            obtain rfl := Option.some.inj hM
            have hM := hKhx2
            obtain rfl := Option.some.inj hM
            exact ⟨_, res1 Try.results16 (rv_tmp (v := .bool false) rfl), gg18, ⟨[.bool false], rfl, rfl⟩, hs.ext⟩
          · refine WP_false rfl hc13 ?_
            refine WP_skip ?_
            refine WP_region ?_
            refine O (r_move (v := .int .i64 i5) rfl) rfl ?_
            obtain ⟨t6, ht6, hM⟩ := bindS hM
            refine O (r_addM rfl rfl ht6) rfl ?_
            refine O (r_assign (v := .int .i64 t6) rfl) rfl ?_
            refine OW_nil ?_
            obtain rfl := Option.some.inj hM
            exact ⟨gg18, rfl, rfl, rfl, hlegg15, hs⟩
        · refine WP_false rfl hc12 ?_
          refine WP_exit ?_
          obtain rfl := Option.some.inj hM
          refine fun hr => ?_
          have hM := congrArg some hr
          obtain rfl := Option.some.inj hM
          exact ⟨(), rfl, gg15, hlegg15, (hs.sub (.cons _ (.cons _ .slnil)))⟩
      · clear hs
        rintro E w ⟨_, rfl, gg12, hlegg12, hs⟩
        have hM := hKhx2
        dsimp only [onStep] at hM
        refine WP_seq ?_
        refine WP_region ?_
        refine O (r_assign (v := .bool true) rfl) rfl ?_
        refine OW_nil ?_
        refine WP_ret ?_
        obtain rfl := Option.some.inj hM
        exact ⟨_, res1 Try.results16 (rv_tmp (v := .bool true) rfl), gg12, ⟨[.bool true], rfl, rfl⟩, hs.ext⟩

set_option maxRecDepth 100000 in
theorem ref10_Difference_ok {p1 : T_DFA} {p2 : T_DFA} {r : Str × Bool} (hM : M.ref10_Difference p1 p2 = some r) {g0 : Hp} {w0 : World} (hi : Imm g0 w0) {cs1 : List Value} (hcs1 : tT_DFA.rel g0 cs1 p1) {cs2 : List Value} (hcs2 : tT_DFA.rel g0 cs2 p2) :
    CallsV Try.prog 18 #[.agg cs1.toArray, .agg cs2.toArray] w0 (fun v w' => ∃ g', (∃ v1 v2, v = .tuple #[v1, v2] ∧ VRd tStr false g' v1 r.1 ∧ VRd tBool false g' v2 r.2) ∧ Ext g0 w0 g' w') := by
  unfold M.ref10_Difference at hM
  obtain ⟨cs3, cs4, cs5, rfl, hcs3, hcs4, hcs5⟩ := hcs1
  obtain ⟨v1, rfl, hRv1⟩ := hcs3
  obtain ⟨v2, rfl, hRv2⟩ := hcs4
  obtain ⟨v3, rfl, hRv3⟩ := hcs5
  obtain ⟨cs6, cs7, cs8, rfl, hcs6, hcs7, hcs8⟩ := hcs2
  obtain ⟨v4, rfl, hRv4⟩ := hcs6
  obtain ⟨v5, rfl, hRv5⟩ := hcs7
  obtain ⟨v6, rfl, hRv6⟩ := hcs8
  have hs := Sep.start hi
  refine calls_of_WP (args := [.agg (List.toArray (α := Value) [v1, v2, v3]), .agg (List.toArray (α := Value) [v4, v5, v6])]) Try.func18 rfl Try.ntmps18 rfl ?_
  refine WP_seq ?_
  refine WP_region ?_
  refine OW_box (v := .agg (List.toArray (α := Value) [v1, v2, v3])) rfl hs (zs := [v1, v2, v3]) rfl rfl ?_
  intro b1 wv1 hs
  refine OW_box (v := .agg (List.toArray (α := Value) [v4, v5, v6])) rfl hs (zs := [v4, v5, v6]) rfl rfl ?_
  intro b2 wv2 hs
  refine O (r_assign (v := encS []) rfl) rfl ?_
  refine O (r_assign (v := .bool false) rfl) rfl ?_
  refine OW_nil ?_
  refine WP_seq ?_
  refine WP_region ?_
  refine O (r_build (vs := [(0, .int .i64 0), (1, .int .i64 0), (2, encS [])]) (cs := [.int .i64 0, .int .i64 0, encS []]) rfl (by kernel_rfl)) rfl ?_
  refine OW_lit (τ := tT_ref10_pair) [.agg (List.toArray (α := Value) [.int .i64 0, .int .i64 0, encS []])] [(T_ref10_pair.mk 0 0 [])] Try.underlying73 ti72 (by decide) hs rfl rfl rfl ⟨⟨[.int .i64 0], [.int .i64 0], [encS []], rfl, rfl, rfl, rfl⟩, trivial⟩ rfl ?_
  intro v7 wv3 xs1 hrelxs1 hs
  refine O (r_assign (v := v7) rfl) rfl ?_
  refine OW_nil ?_
  obtain ⟨o165, hx310, hKhx310⟩ := stepS hM
  refine WP_cut (fun E w => ∃ u9 : Unit, o165 = .next u9 ∧ ∃ (gg127 : Hp), Hle g0 gg127 ∧ Go.Lx.Sep g0 w0 gg127 w []) ?_ ?_
  · have hM := hx310
    have hag0 := Hle.refl g0
    refine WP_seq ?_
    refine WP_region ?_
    refine O (r_assign (v := .int .i64 0) rfl) rfl ?_
    refine OW_nil ?_
    refine WP_block ?_
    refine WP_loop (fun (st9 : (List T_ref10_pair) × Int) E w => match st9 with | (xv1005, xv1006) => ∃ (gg170 : Hp) (v368 : Value) (xs250 : List Value), E 2 = .pointer (some ⟨b1, 0, none⟩) ∧ E 3 = .pointer (some ⟨b2, 0, none⟩) ∧ E 6 = v368 ∧ E 7 = .int .i64 xv1006 ∧ Hle g0 gg170 ∧ RowRel tT_ref10_pair gg170 xs250 xv1005 ∧ Go.Lx.Sep g0 w0 gg170 w [.row v368 72 tT_ref10_pair.sz xv1005.length xs250, Go.Lx.box b2 25 ([v4, v5, v6]), Go.Lx.box b1 25 ([v1, v2, v3])]) hM ⟨g0, v7, xs1, rfl, rfl, rfl, rfl, (Hle.refl _), hrelxs1, hs⟩ ?_
    clear hs hM
    rintro ⟨xv1005, xv1006⟩ o137 E w hM ⟨gg170, v368, xs250, hE2, hE3, hE6, hE7, hlegg170, hrelxs250, hs⟩
    obtain ⟨E, rfl⟩ := open1 (E := E) hE2
    obtain ⟨E, rfl⟩ := open1 (E := E) hE3
    obtain ⟨E, rfl⟩ := open1 (E := E) hE6
    obtain ⟨E, rfl⟩ := open1 (E := E) hE7
    replace hRv1 := hRv1.mono hlegg170
    replace hRv2 := hRv2.mono hlegg170
    replace hRv3 := hRv3.mono hlegg170
    replace hRv4 := hRv4.mono hlegg170
    replace hRv5 := hRv5.mono hlegg170
    replace hRv6 := hRv6.mono hlegg170
    replace hag0 := hag0.trans hlegg170
    have hagg170 := Hle.refl gg170
    refine WP_seq ?_
    refine WP_seq ?_
    refine WP_region ?_
    refine O (r_move (v := .int .i64 xv1006) rfl) rfl ?_
    refine O (r_move (v := v368) rfl) rfl ?_
    obtain ⟨a726, ca726, hva726⟩ := hs.rowShape (i := 0) rfl
    refine O (r_lenSl (v := v368) Try.underlying73 rfl hva726) rfl ?_
    refine O (r_lss rfl rfl) rfl ?_
    refine OW_nil ?_
    rcases condS hM with ⟨hc466, hM⟩ | ⟨hc466, hM⟩
    · refine WP_true rfl hc466 ?_
      refine WP_skip ?_
      obtain ⟨o164, hx568, hKhx568⟩ := stepS hM
      refine WP_cut (fun E w => ∃ (xv1388 : (List T_ref10_pair)), o164 = .next xv1388 ∧ ∃ (gg233 : Hp) (v503 : Value) (xs343 : List Value), E 2 = .pointer (some ⟨b1, 0, none⟩) ∧ E 3 = .pointer (some ⟨b2, 0, none⟩) ∧ E 6 = v503 ∧ E 7 = .int .i64 xv1006 ∧ Hle gg170 gg233 ∧ RowRel tT_ref10_pair gg233 xs343 xv1388 ∧ Go.Lx.Sep g0 w0 gg233 w [.row v503 72 tT_ref10_pair.sz xv1388.length xs343, Go.Lx.box b2 25 ([v4, v5, v6]), Go.Lx.box b1 25 ([v1, v2, v3])]) ?_ ?_
      · have hM := hx568
        refine WP_block ?_
        refine WP_seq ?_
        refine WP_seq ?_
        refine WP_any (.q 0 (.q 1 (.q 2 (.q 3 (.q 4 (.q 5 (.q 7 (.q 8 (.q 9 (.q 10 (.q 11 (.q 12 (.s 6 (.s 13 (.q 14 (.leaf)))))))))))))))) (SS g0 w0 gg170 [.row v368 72 tT_ref10_pair.sz xv1005.length xs250, Go.Lx.box b2 25 ([v4, v5, v6]), Go.Lx.box b1 25 ([v1, v2, v3])]) mo (by decide +kernel) (fun _ _ _ h => h) ?_
        have hs := hs.drew
        have hRv1b := hRv1
        have hRv2b := hRv2
        have hRv3b := hRv3
        have hRv4b := hRv4
        have hRv5b := hRv5
        have hRv6b := hRv6
        have hrelxs250b := hrelxs250
        have hS : SS g0 w0 gg170 [.row v368 72 tT_ref10_pair.sz xv1005.length xs250, Go.Lx.box b2 25 ([v4, v5, v6]), Go.Lx.box b1 25 ([v1, v2, v3])] _ := ⟨gg170, Hle.refl _, hs⟩
        refine A rfl hS (fun w9 h9 => by obtain ⟨g9, hle9, hs⟩ := h9; exact r_loadN (cs := [v1, v2, v3]) ti25 rfl rfl (hs.cells (i := 2) rfl)) rfl ?_
        refine A rfl hS (fun w9 h9 => by obtain ⟨g9, hle9, hs⟩ := h9; exact r_move (v := v368) rfl) rfl ?_
        refine A rfl hS (fun w9 h9 => by obtain ⟨g9, hle9, hs⟩ := h9; exact r_move (v := .int .i64 xv1006) rfl) rfl ?_
        obtain ⟨e404, he404, hM⟩ := bindS hM
        obtain ⟨b1026, cb1026, hvb1026, cs4255, hcs4255, hcb1026⟩ := hs.rowEl (i := 0) rfl hrelxs250 he404
        obtain ⟨cs4256, cs4257, cs4258, rfl, hcs4256, hcs4257, hcs4258⟩ := hcs4255
        have hcs4256 : cs4256 = _ := hcs4256; subst hcs4256
        have hcs4257 : cs4257 = _ := hcs4257; subst hcs4257
        have hcs4258 : cs4258 = _ := hcs4258; subst hcs4258
        refine A rfl hS (fun w9 h9 => by obtain ⟨g9, hle9, hs⟩ := h9; exact r_idxSl Try.underlying73 ti72 (v := v368) rfl hvb1026 rfl (idxL_some he404).1 (idxL_some he404).2.1) rfl ?_
        refine A rfl hS (fun w9 h9 => by obtain ⟨g9, hle9, hs⟩ := h9; exact r_fieldAddr Try.underlying72 ti3 rfl rfl (by decide) rfl rfl) rfl ?_
        refine A rfl hS (fun w9 h9 => by obtain ⟨g9, hle9, hs⟩ := h9; exact r_loadEl (cs := [.int .i64 e404.a]) ti3 rfl rfl (.inr rfl) (elemField (cs := [.int .i64 e404.a, .int .i64 e404.b, encS e404.s]) (hcb1026 _ (hs.at (i := 0) rfl)) ([]) ([.int .i64 e404.a]) ([.int .i64 e404.b, encS e404.s]) rfl rfl) (v := .int .i64 e404.a) rfl) rfl ?_
        refine A rfl hS (fun w9 h9 => by obtain ⟨g9, hle9, hs⟩ := h9; exact r_loadN (cs := [v4, v5, v6]) ti25 rfl rfl (hs.cells (i := 1) rfl)) rfl ?_
        refine A rfl hS (fun w9 h9 => by obtain ⟨g9, hle9, hs⟩ := h9; exact r_move (v := v368) rfl) rfl ?_
        refine A rfl hS (fun w9 h9 => by obtain ⟨g9, hle9, hs⟩ := h9; exact r_move (v := .int .i64 xv1006) rfl) rfl ?_
        obtain ⟨b1027, cb1027, hvb1027, cs4259, hcs4259, hcb1027⟩ := hs.rowEl (i := 0) rfl hrelxs250 he404
        obtain ⟨cs4260, cs4261, cs4262, rfl, hcs4260, hcs4261, hcs4262⟩ := hcs4259
        have hcs4260 : cs4260 = _ := hcs4260; subst hcs4260
        have hcs4261 : cs4261 = _ := hcs4261; subst hcs4261
        have hcs4262 : cs4262 = _ := hcs4262; subst hcs4262
        refine A rfl hS (fun w9 h9 => by obtain ⟨g9, hle9, hs⟩ := h9; exact r_idxSl Try.underlying73 ti72 (v := v368) rfl hvb1027 rfl (idxL_some he404).1 (idxL_some he404).2.1) rfl ?_
        refine A rfl hS (fun w9 h9 => by obtain ⟨g9, hle9, hs⟩ := h9; exact r_fieldAddr Try.underlying72 ti3 rfl rfl (by decide) rfl rfl) rfl ?_
        refine A rfl hS (fun w9 h9 => by obtain ⟨g9, hle9, hs⟩ := h9; exact r_loadEl (cs := [.int .i64 e404.b]) ti3 rfl rfl (.inr rfl) (elemField (cs := [.int .i64 e404.a, .int .i64 e404.b, encS e404.s]) (hcb1027 _ (hs.at (i := 0) rfl)) ([.int .i64 e404.a]) ([.int .i64 e404.b]) ([encS e404.s]) rfl rfl) (v := .int .i64 e404.b) rfl) rfl ?_
        refine A1 rfl ?_
        obtain ⟨rv155, hrv155, hM⟩ := bindS hM
        refine C [.agg (List.toArray (α := Value) [v1, v2, v3]), .int .i64 e404.a] cf32 rfl (ref10_accept_ok hrv155 hs.imm (⟨[v1], [v2], [v3], rfl, ⟨_, rfl, hRv1⟩, ⟨_, rfl, hRv2⟩, ⟨_, rfl, hRv3⟩⟩)) rfl ?_
        rintro v504 wv356 ⟨gg234, hvv504, hegg234⟩
        have hlegg234 := hegg234.le hs.imm
        replace hs := hs.call hegg234
        replace hRv1 := hRv1.mono hlegg234
        replace hRv2 := hRv2.mono hlegg234
        replace hRv3 := hRv3.mono hlegg234
        replace hRv4 := hRv4.mono hlegg234
        replace hRv5 := hRv5.mono hlegg234
        replace hRv6 := hRv6.mono hlegg234
        replace hrelxs250 := hrelxs250.mono hlegg234
        replace hlegg170 := hlegg170.trans hlegg234
        replace hagg170 := hagg170.trans hlegg234
        obtain ⟨cs4263, rfl, hcs4263⟩ := hvv504
        have hcs4263 : cs4263 = _ := hcs4263; subst hcs4263
        refine OW_nil ?_
        have hS : SS g0 w0 gg170 [.row v368 72 tT_ref10_pair.sz xv1005.length xs250, Go.Lx.box b2 25 ([v4, v5, v6]), Go.Lx.box b1 25 ([v1, v2, v3])] _ := ⟨gg234, hagg170, hs⟩
        refine ⟨fun _ => hS, ?_⟩
        refine A1 rfl ?_
        obtain ⟨rv156, hrv156, hM⟩ := bindS hM
        refine C [.agg (List.toArray (α := Value) [v4, v5, v6]), .int .i64 e404.b] cf32 rfl (ref10_accept_ok hrv156 hs.imm (⟨[v4], [v5], [v6], rfl, ⟨_, rfl, hRv4⟩, ⟨_, rfl, hRv5⟩, ⟨_, rfl, hRv6⟩⟩)) rfl ?_
        rintro v505 wv357 ⟨gg235, hvv505, hegg235⟩
        have hlegg235 := hegg235.le hs.imm
        replace hs := hs.call hegg235
        replace hRv1 := hRv1.mono hlegg235
        replace hRv2 := hRv2.mono hlegg235
        replace hRv3 := hRv3.mono hlegg235
        replace hRv4 := hRv4.mono hlegg235
        replace hRv5 := hRv5.mono hlegg235
        replace hRv6 := hRv6.mono hlegg235
        replace hrelxs250 := hrelxs250.mono hlegg235
        replace hlegg170 := hlegg170.trans hlegg235
        replace hagg170 := hagg170.trans hlegg235
        obtain ⟨cs4264, rfl, hcs4264⟩ := hvv505
        have hcs4264 : cs4264 = _ := hcs4264; subst hcs4264
        refine OW_nil ?_
        have hS : SS g0 w0 gg170 [.row v368 72 tT_ref10_pair.sz xv1005.length xs250, Go.Lx.box b2 25 ([v4, v5, v6]), Go.Lx.box b1 25 ([v1, v2, v3])] _ := ⟨gg235, hagg170, hs⟩
        refine ⟨fun _ => hS, ?_⟩
        refine A rfl hS (fun w9 h9 => by obtain ⟨g9, hle9, hs⟩ := h9; exact r_neq rfl rfl) rfl ?_
        refine AN ?_
        rcases condS hM with ⟨hc513, hM⟩ | ⟨hc513, hM⟩
        · refine WP_true rfl hc513 ?_
          refine WP_seq ?_
          refine WP_region ?_
          refine O (r_move (v := v368) rfl) rfl ?_
          refine O (r_move (v := .int .i64 xv1006) rfl) rfl ?_
          obtain ⟨b1028, cb1028, hvb1028, cs4265, hcs4265, hcb1028⟩ := hs.rowEl (i := 0) rfl hrelxs250 he404
          obtain ⟨cs4266, cs4267, cs4268, rfl, hcs4266, hcs4267, hcs4268⟩ := hcs4265
          have hcs4266 : cs4266 = _ := hcs4266; subst hcs4266
          have hcs4267 : cs4267 = _ := hcs4267; subst hcs4267
          have hcs4268 : cs4268 = _ := hcs4268; subst hcs4268
          refine O (r_idxSl Try.underlying73 ti72 (v := v368) rfl hvb1028 rfl (idxL_some he404).1 (idxL_some he404).2.1) rfl ?_
          refine O (r_fieldAddr Try.underlying72 ti9 rfl rfl (by decide) rfl rfl) rfl ?_
          refine O (r_loadEl (cs := [encS e404.s]) ti9 rfl rfl (.inr rfl) (elemField (cs := [.int .i64 e404.a, .int .i64 e404.b, encS e404.s]) (hcb1028 _ (hs.at (i := 0) rfl)) ([.int .i64 e404.a, .int .i64 e404.b]) ([encS e404.s]) ([]) rfl rfl) (v := encS e404.s) rfl) rfl ?_
          refine O (r_assign (v := encS e404.s) rfl) rfl ?_
          refine O (r_assign (v := .bool true) rfl) rfl ?_
          refine OW_nil ?_
          refine WP_ret ?_
          obtain rfl := Option.some.inj hM
          have hM := hKhx568
          obtain rfl := Option.some.inj hM
          refine fun hr => ?_
          have hM := congrArg some hr
          obtain rfl := Option.some.inj hM
          have hM := hKhx310
          obtain rfl := Option.some.inj hM
          exact ⟨_, res2 Try.results18 (rv_tmp (v := encS e404.s) rfl) (rv_tmp (v := .bool true) rfl), gg235, ⟨_, _, rfl, ⟨[encS e404.s], rfl, rfl⟩, ⟨[.bool true], rfl, rfl⟩⟩, hs.ext⟩
        · refine WP_false rfl hc513 ?_
          refine WP_skip ?_
          refine WP_seq ?_
          refine WP_region ?_
          refine O (r_assign (v := .int .i64 0) rfl) rfl ?_
          refine OW_nil ?_
          refine WP_block ?_
          refine WP_loop (fun (st9 : (List T_ref10_pair) × Int) E w => match st9 with | (xv1431, xv1432) => ∃ (gg242 : Hp) (v520 : Value) (xs354 : List Value), E 2 = .pointer (some ⟨b1, 0, none⟩) ∧ E 3 = .pointer (some ⟨b2, 0, none⟩) ∧ E 6 = v520 ∧ E 7 = .int .i64 xv1006 ∧ E 8 = .int .i64 xv1432 ∧ Hle gg235 gg242 ∧ RowRel tT_ref10_pair gg242 xs354 xv1431 ∧ Go.Lx.Sep g0 w0 gg242 w [.row v520 72 tT_ref10_pair.sz xv1431.length xs354, Go.Lx.box b2 25 ([v4, v5, v6]), Go.Lx.box b1 25 ([v1, v2, v3])]) hM ⟨gg235, v368, xs250, rfl, rfl, rfl, rfl, rfl, (Hle.refl _), hrelxs250, hs⟩ ?_
          clear hs hM
          rintro ⟨xv1431, xv1432⟩ o159 E w hM ⟨gg242, v520, xs354, hE2, hE3, hE6, hE7, hE8, hlegg242, hrelxs354, hs⟩
          obtain ⟨E, rfl⟩ := open1 (E := E) hE2
          obtain ⟨E, rfl⟩ := open1 (E := E) hE3
          obtain ⟨E, rfl⟩ := open1 (E := E) hE6
          obtain ⟨E, rfl⟩ := open1 (E := E) hE7
          obtain ⟨E, rfl⟩ := open1 (E := E) hE8
          replace hRv1 := hRv1.mono hlegg242
          replace hRv2 := hRv2.mono hlegg242
          replace hRv3 := hRv3.mono hlegg242
          replace hRv4 := hRv4.mono hlegg242
          replace hRv5 := hRv5.mono hlegg242
          replace hRv6 := hRv6.mono hlegg242
          replace hlegg170 := hlegg170.trans hlegg242
          replace hagg170 := hagg170.trans hlegg242
          have hagg242 := Hle.refl gg242
          refine WP_seq ?_
          refine WP_seq ?_
          refine WP_region ?_
          refine O (r_move (v := .int .i64 xv1432) rfl) rfl ?_
          refine O (r_lss rfl rfl) rfl ?_
          refine OW_nil ?_
          rcases condS hM with ⟨hc544, hM⟩ | ⟨hc544, hM⟩
          · refine WP_true rfl hc544 ?_
            refine WP_skip ?_
            obtain ⟨y107, hx611, hKhx611⟩ := bindS hM
            refine WP_cut (fun E w => ∃ (gg251 : Hp) (v541 : Value) (xs369 : List Value), E 2 = .pointer (some ⟨b1, 0, none⟩) ∧ E 3 = .pointer (some ⟨b2, 0, none⟩) ∧ E 6 = v541 ∧ E 7 = .int .i64 xv1006 ∧ E 8 = .int .i64 xv1432 ∧ Hle gg242 gg251 ∧ RowRel tT_ref10_pair gg251 xs369 y107 ∧ Go.Lx.Sep g0 w0 gg251 w [.row v541 72 tT_ref10_pair.sz y107.length xs369, Go.Lx.box b2 25 ([v4, v5, v6]), Go.Lx.box b1 25 ([v1, v2, v3])]) ?_ ?_
            · have hM := hx611
              refine WP_block ?_
              refine WP_seq ?_
              refine WP_any (.q 0 (.q 1 (.q 2 (.q 3 (.q 4 (.q 5 (.q 6 (.q 7 (.q 9 (.q 10 (.q 11 (.q 12 (.q 13 (.q 14 (.q 15 (.q 16 (.s 8 (.s 17 (.q 18 (.q 19 (.leaf))))))))))))))))))))) (SS g0 w0 gg242 [.row v520 72 tT_ref10_pair.sz xv1431.length xs354, Go.Lx.box b2 25 ([v4, v5, v6]), Go.Lx.box b1 25 ([v1, v2, v3])]) mo (by decide +kernel) (fun _ _ _ h => h) ?_
              have hs := hs.drew
              have hRv1b := hRv1
              have hRv2b := hRv2
              have hRv3b := hRv3
              have hRv4b := hRv4
              have hRv5b := hRv5
              have hRv6b := hRv6
              have hrelxs354b := hrelxs354
              have hS : SS g0 w0 gg242 [.row v520 72 tT_ref10_pair.sz xv1431.length xs354, Go.Lx.box b2 25 ([v4, v5, v6]), Go.Lx.box b1 25 ([v1, v2, v3])] _ := ⟨gg242, Hle.refl _, hs⟩
              refine A rfl hS (fun w9 h9 => by obtain ⟨g9, hle9, hs⟩ := h9; exact r_loadN (cs := [v1, v2, v3]) ti25 rfl rfl (hs.cells (i := 2) rfl)) rfl ?_
              refine A rfl hS (fun w9 h9 => by obtain ⟨g9, hle9, hs⟩ := h9; exact r_move (v := v520) rfl) rfl ?_
              refine A rfl hS (fun w9 h9 => by obtain ⟨g9, hle9, hs⟩ := h9; exact r_move (v := .int .i64 xv1006) rfl) rfl ?_
              obtain ⟨e438, he438, hM⟩ := bindS hM
              obtain ⟨b1104, cb1104, hvb1104, cs4579, hcs4579, hcb1104⟩ := hs.rowEl (i := 0) rfl hrelxs354 he438
              obtain ⟨cs4580, cs4581, cs4582, rfl, hcs4580, hcs4581, hcs4582⟩ := hcs4579
              have hcs4580 : cs4580 = _ := hcs4580; subst hcs4580
              have hcs4581 : cs4581 = _ := hcs4581; subst hcs4581
              have hcs4582 : cs4582 = _ := hcs4582; subst hcs4582
              refine A rfl hS (fun w9 h9 => by obtain ⟨g9, hle9, hs⟩ := h9; exact r_idxSl Try.underlying73 ti72 (v := v520) rfl hvb1104 rfl (idxL_some he438).1 (idxL_some he438).2.1) rfl ?_
              refine A rfl hS (fun w9 h9 => by obtain ⟨g9, hle9, hs⟩ := h9; exact r_fieldAddr Try.underlying72 ti3 rfl rfl (by decide) rfl rfl) rfl ?_
              refine A rfl hS (fun w9 h9 => by obtain ⟨g9, hle9, hs⟩ := h9; exact r_loadEl (cs := [.int .i64 e438.a]) ti3 rfl rfl (.inr rfl) (elemField (cs := [.int .i64 e438.a, .int .i64 e438.b, encS e438.s]) (hcb1104 _ (hs.at (i := 0) rfl)) ([]) ([.int .i64 e438.a]) ([.int .i64 e438.b, encS e438.s]) rfl rfl) (v := .int .i64 e438.a) rfl) rfl ?_
              refine A rfl hS (fun w9 h9 => by obtain ⟨g9, hle9, hs⟩ := h9; exact r_move (v := .int .i64 xv1432) rfl) rfl ?_
              refine A rfl hS (fun w9 h9 => by obtain ⟨g9, hle9, hs⟩ := h9; exact r_conv Try.underlying3 Try.underlying5 rfl) rfl ?_
              refine A rfl hS (fun w9 h9 => by obtain ⟨g9, hle9, hs⟩ := h9; exact r_loadN (cs := [v4, v5, v6]) ti25 rfl rfl (hs.cells (i := 1) rfl)) rfl ?_
              refine A rfl hS (fun w9 h9 => by obtain ⟨g9, hle9, hs⟩ := h9; exact r_move (v := v520) rfl) rfl ?_
              refine A rfl hS (fun w9 h9 => by obtain ⟨g9, hle9, hs⟩ := h9; exact r_move (v := .int .i64 xv1006) rfl) rfl ?_
              obtain ⟨b1105, cb1105, hvb1105, cs4583, hcs4583, hcb1105⟩ := hs.rowEl (i := 0) rfl hrelxs354 he438
              obtain ⟨cs4584, cs4585, cs4586, rfl, hcs4584, hcs4585, hcs4586⟩ := hcs4583
              have hcs4584 : cs4584 = _ := hcs4584; subst hcs4584
              have hcs4585 : cs4585 = _ := hcs4585; subst hcs4585
              have hcs4586 : cs4586 = _ := hcs4586; subst hcs4586
              refine A rfl hS (fun w9 h9 => by obtain ⟨g9, hle9, hs⟩ := h9; exact r_idxSl Try.underlying73 ti72 (v := v520) rfl hvb1105 rfl (idxL_some he438).1 (idxL_some he438).2.1) rfl ?_
              refine A rfl hS (fun w9 h9 => by obtain ⟨g9, hle9, hs⟩ := h9; exact r_fieldAddr Try.underlying72 ti3 rfl rfl (by decide) rfl rfl) rfl ?_
              refine A rfl hS (fun w9 h9 => by obtain ⟨g9, hle9, hs⟩ := h9; exact r_loadEl (cs := [.int .i64 e438.b]) ti3 rfl rfl (.inr rfl) (elemField (cs := [.int .i64 e438.a, .int .i64 e438.b, encS e438.s]) (hcb1105 _ (hs.at (i := 0) rfl)) ([.int .i64 e438.a]) ([.int .i64 e438.b]) ([encS e438.s]) rfl rfl) (v := .int .i64 e438.b) rfl) rfl ?_
              refine A rfl hS (fun w9 h9 => by obtain ⟨g9, hle9, hs⟩ := h9; exact r_move (v := .int .i64 xv1432) rfl) rfl ?_
              refine A rfl hS (fun w9 h9 => by obtain ⟨g9, hle9, hs⟩ := h9; exact r_conv Try.underlying3 Try.underlying5 rfl) rfl ?_
              refine A1 rfl ?_
              obtain ⟨rv167, hrv167, hM⟩ := bindS hM
              refine C [.agg (List.toArray (α := Value) [v1, v2, v3]), .int .i64 e438.a, .int .u8 (IntKind.u8.wrap xv1432)] cf31 rfl (ref10_Step_ok hrv167 hs.imm (⟨[v1], [v2], [v3], rfl, ⟨_, rfl, hRv1⟩, ⟨_, rfl, hRv2⟩, ⟨_, rfl, hRv3⟩⟩)) rfl ?_
              rintro v542 wv383 ⟨gg252, hvv542, hegg252⟩
              have hlegg252 := hegg252.le hs.imm
              replace hs := hs.call hegg252
              replace hRv1 := hRv1.mono hlegg252
              replace hRv2 := hRv2.mono hlegg252
              replace hRv3 := hRv3.mono hlegg252
              replace hRv4 := hRv4.mono hlegg252
              replace hRv5 := hRv5.mono hlegg252
              replace hRv6 := hRv6.mono hlegg252
              replace hrelxs354 := hrelxs354.mono hlegg252
              replace hlegg170 := hlegg170.trans hlegg252
              replace hagg170 := hagg170.trans hlegg252
              replace hlegg242 := hlegg242.trans hlegg252
              replace hagg242 := hagg242.trans hlegg252
              obtain ⟨cs4587, rfl, hcs4587⟩ := hvv542
              have hcs4587 : cs4587 = _ := hcs4587; subst hcs4587
              refine OW_nil ?_
              have hS : SS g0 w0 gg242 [.row v520 72 tT_ref10_pair.sz xv1431.length xs354, Go.Lx.box b2 25 ([v4, v5, v6]), Go.Lx.box b1 25 ([v1, v2, v3])] _ := ⟨gg252, hagg242, hs⟩
              refine ⟨fun _ => hS, ?_⟩
              refine A1 rfl ?_
              obtain ⟨rv168, hrv168, hM⟩ := bindS hM
              refine C [.agg (List.toArray (α := Value) [v4, v5, v6]), .int .i64 e438.b, .int .u8 (IntKind.u8.wrap xv1432)] cf31 rfl (ref10_Step_ok hrv168 hs.imm (⟨[v4], [v5], [v6], rfl, ⟨_, rfl, hRv4⟩, ⟨_, rfl, hRv5⟩, ⟨_, rfl, hRv6⟩⟩)) rfl ?_
              rintro v543 wv384 ⟨gg253, hvv543, hegg253⟩
              have hlegg253 := hegg253.le hs.imm
              replace hs := hs.call hegg253
              replace hRv1 := hRv1.mono hlegg253
              replace hRv2 := hRv2.mono hlegg253
              replace hRv3 := hRv3.mono hlegg253
              replace hRv4 := hRv4.mono hlegg253
              replace hRv5 := hRv5.mono hlegg253
              replace hRv6 := hRv6.mono hlegg253
              replace hrelxs354 := hrelxs354.mono hlegg253
              replace hlegg170 := hlegg170.trans hlegg253
              replace hagg170 := hagg170.trans hlegg253
              replace hlegg242 := hlegg242.trans hlegg253
              replace hagg242 := hagg242.trans hlegg253
              obtain ⟨cs4588, rfl, hcs4588⟩ := hvv543
              have hcs4588 : cs4588 = _ := hcs4588; subst hcs4588
              refine OW_nil ?_
              have hS : SS g0 w0 gg242 [.row v520 72 tT_ref10_pair.sz xv1431.length xs354, Go.Lx.box b2 25 ([v4, v5, v6]), Go.Lx.box b1 25 ([v1, v2, v3])] _ := ⟨gg253, hagg242, hs⟩
              refine ⟨fun _ => hS, ?_⟩
              refine A rfl hS (fun w9 h9 => by obtain ⟨g9, hle9, hs⟩ := h9; exact r_assign (v := .int .i64 rv167) rfl) rfl ?_
              refine A rfl hS (fun w9 h9 => by obtain ⟨g9, hle9, hs⟩ := h9; exact r_assign (v := .int .i64 rv168) rfl) rfl ?_
              refine AN ?_
              obtain ⟨xv1495, hx612, hKhx612⟩ := bindS hM
              refine WP_cut (fun E w => E 2 = .pointer (some ⟨b1, 0, none⟩) ∧ E 3 = .pointer (some ⟨b2, 0, none⟩) ∧ E 6 = v520 ∧ E 7 = .int .i64 xv1006 ∧ E 8 = .int .i64 xv1432 ∧ E 9 = .int .i64 rv167 ∧ E 10 = .int .i64 rv168 ∧ E 11 = .bool xv1495 ∧ Go.Lx.Sep g0 w0 gg253 w [.row v520 72 tT_ref10_pair.sz xv1431.length xs354, Go.Lx.box b2 25 ([v4, v5, v6]), Go.Lx.box b1 25 ([v1, v2, v3])]) ?_ ?_
              · have hM := hx612
                have hagg253 := Hle.refl gg253
                refine WP_region ?_
                refine O (r_move (v := .int .i64 rv167) rfl) rfl ?_
                refine O (r_lss rfl rfl) rfl ?_
                refine O (r_move (v := .bool (decide (rv167 < 0))) rfl) rfl ?_
                rcases condS hM with ⟨hg1390, hM⟩ | ⟨hg1390, hM⟩
                · refine OG rfl rfl rfl (by rw [hg1390]; rfl) (r_move (v := .int .i64 rv168) rfl) rfl ?_
                  refine OG rfl rfl rfl (by rw [hg1390]; rfl) (r_lss rfl rfl) rfl ?_
                  refine O (r_pickT (v := .bool (decide (rv168 < 0))) rfl hg1390 rfl) rfl ?_
                  refine O (r_assign (v := .bool (decide (rv168 < 0))) rfl) rfl ?_
                  refine OW_nil ?_
                  obtain rfl := Option.some.inj hM
                  exact ⟨rfl, rfl, rfl, rfl, rfl, rfl, rfl, rfl, hs⟩
                · refine OK rfl rfl rfl (by rw [hg1390]; rfl) rfl ?_
                  refine OK rfl rfl rfl (by rw [hg1390]; rfl) rfl ?_
                  refine O (r_pickF (v := .bool false) rfl hg1390 rfl) rfl ?_
                  refine O (r_assign (v := .bool false) rfl) rfl ?_
                  refine OW_nil ?_
                  obtain rfl := Option.some.inj hM
                  exact ⟨rfl, rfl, rfl, rfl, rfl, rfl, rfl, rfl, hs⟩
              · clear hs
                rintro E w ⟨hE2, hE3, hE6, hE7, hE8, hE9, hE10, hE11, hs⟩
                have hM := hKhx612
                obtain ⟨E, rfl⟩ := open1 (E := E) hE2
                obtain ⟨E, rfl⟩ := open1 (E := E) hE3
                obtain ⟨E, rfl⟩ := open1 (E := E) hE6
                obtain ⟨E, rfl⟩ := open1 (E := E) hE7
                obtain ⟨E, rfl⟩ := open1 (E := E) hE8
                obtain ⟨E, rfl⟩ := open1 (E := E) hE9
                obtain ⟨E, rfl⟩ := open1 (E := E) hE10
                obtain ⟨E, rfl⟩ := open1 (E := E) hE11
                obtain ⟨xv1505, hx616, hKhx616⟩ := bindS hM
                refine WP_cut (fun E w => ∃ (v544 : Value) (xs370 : List Value), E 2 = .pointer (some ⟨b1, 0, none⟩) ∧ E 3 = .pointer (some ⟨b2, 0, none⟩) ∧ E 6 = v544 ∧ E 7 = .int .i64 xv1006 ∧ E 8 = .int .i64 xv1432 ∧ E 9 = .int .i64 rv167 ∧ E 10 = .int .i64 rv168 ∧ E 11 = .bool xv1505 ∧ RowRel tT_ref10_pair gg253 xs370 xv1431 ∧ Go.Lx.Sep g0 w0 gg253 w [.row v544 72 tT_ref10_pair.sz xv1431.length xs370, Go.Lx.box b2 25 ([v4, v5, v6]), Go.Lx.box b1 25 ([v1, v2, v3])]) ?_ ?_
                · have hM := hx616
                  have hagg253 := Hle.refl gg253
                  refine WP_seq ?_
                  refine WP_region ?_
                  refine O (r_assign (v := .int .i64 0) rfl) rfl ?_
                  refine OW_nil ?_
                  refine WP_block ?_
                  refine WP_loop (fun (st9 : Bool × Int) E w => match st9 with | (xv1509, xv1510) => E 2 = .pointer (some ⟨b1, 0, none⟩) ∧ E 3 = .pointer (some ⟨b2, 0, none⟩) ∧ E 6 = v520 ∧ E 7 = .int .i64 xv1006 ∧ E 8 = .int .i64 xv1432 ∧ E 9 = .int .i64 rv167 ∧ E 10 = .int .i64 rv168 ∧ E 11 = .bool xv1509 ∧ E 12 = .int .i64 xv1510 ∧ Go.Lx.Sep g0 w0 gg253 w [.row v520 72 tT_ref10_pair.sz xv1431.length xs354, Go.Lx.box b2 25 ([v4, v5, v6]), Go.Lx.box b1 25 ([v1, v2, v3])]) hM ⟨rfl, rfl, rfl, rfl, rfl, rfl, rfl, rfl, rfl, hs⟩ ?_
                  clear hs hM
                  rintro ⟨xv1509, xv1510⟩ o163 E w hM ⟨hE2, hE3, hE6, hE7, hE8, hE9, hE10, hE11, hE12, hs⟩
                  obtain ⟨E, rfl⟩ := open1 (E := E) hE2
                  obtain ⟨E, rfl⟩ := open1 (E := E) hE3
                  obtain ⟨E, rfl⟩ := open1 (E := E) hE6
                  obtain ⟨E, rfl⟩ := open1 (E := E) hE7
                  obtain ⟨E, rfl⟩ := open1 (E := E) hE8
                  obtain ⟨E, rfl⟩ := open1 (E := E) hE9
                  obtain ⟨E, rfl⟩ := open1 (E := E) hE10
                  obtain ⟨E, rfl⟩ := open1 (E := E) hE11
                  obtain ⟨E, rfl⟩ := open1 (E := E) hE12
                  refine WP_seq ?_
                  obtain ⟨xv1514, hx619, hKhx619⟩ := bindS hM
                  refine WP_cut (fun E w => E 2 = .pointer (some ⟨b1, 0, none⟩) ∧ E 3 = .pointer (some ⟨b2, 0, none⟩) ∧ E 6 = v520 ∧ E 7 = .int .i64 xv1006 ∧ E 8 = .int .i64 xv1432 ∧ E 9 = .int .i64 rv167 ∧ E 10 = .int .i64 rv168 ∧ E 11 = .bool xv1509 ∧ E 12 = .int .i64 xv1510 ∧ E 76 = .bool xv1514 ∧ Go.Lx.Sep g0 w0 gg253 w [.row v520 72 tT_ref10_pair.sz xv1431.length xs354, Go.Lx.box b2 25 ([v4, v5, v6]), Go.Lx.box b1 25 ([v1, v2, v3])]) ?_ ?_
                  · have hM := hx619
                    refine WP_region ?_
                    refine O (r_move (v := .int .i64 xv1510) rfl) rfl ?_
                    refine O (r_move (v := v520) rfl) rfl ?_
                    obtain ⟨a870, ca870, hva870⟩ := hs.rowShape (i := 0) rfl
                    refine O (r_lenSl (v := v520) Try.underlying73 rfl hva870) rfl ?_
                    refine O (r_lss rfl rfl) rfl ?_
                    refine O (r_move (v := .bool (decide (xv1510 < (xv1431.length : Int)))) rfl) rfl ?_
                    rcases condS hM with ⟨hg1407, hM⟩ | ⟨hg1407, hM⟩
                    · refine OG rfl rfl rfl (by rw [hg1407]; rfl) (r_move (v := .bool xv1509) rfl) rfl ?_
                      refine OG rfl rfl rfl (by rw [hg1407]; rfl) (r_not rfl) rfl ?_
                      refine O (r_pickT (v := .bool (!xv1509)) rfl hg1407 rfl) rfl ?_
                      refine OW_nil ?_
                      obtain rfl := Option.some.inj hM
                      exact ⟨rfl, rfl, rfl, rfl, rfl, rfl, rfl, rfl, rfl, rfl, hs⟩
                    · refine OK rfl rfl rfl (by rw [hg1407]; rfl) rfl ?_
                      refine OK rfl rfl rfl (by rw [hg1407]; rfl) rfl ?_
                      refine O (r_pickF (v := .bool false) rfl hg1407 rfl) rfl ?_
                      refine OW_nil ?_
                      obtain rfl := Option.some.inj hM
                      exact ⟨rfl, rfl, rfl, rfl, rfl, rfl, rfl, rfl, rfl, rfl, hs⟩
                  · clear hs
                    rintro E w ⟨hE2, hE3, hE6, hE7, hE8, hE9, hE10, hE11, hE12, hE76, hs⟩
                    have hM := hKhx619
                    obtain ⟨E, rfl⟩ := open1 (E := E) hE2
                    obtain ⟨E, rfl⟩ := open1 (E := E) hE3
                    obtain ⟨E, rfl⟩ := open1 (E := E) hE6
                    obtain ⟨E, rfl⟩ := open1 (E := E) hE7
                    obtain ⟨E, rfl⟩ := open1 (E := E) hE8
                    obtain ⟨E, rfl⟩ := open1 (E := E) hE9
                    obtain ⟨E, rfl⟩ := open1 (E := E) hE10
                    obtain ⟨E, rfl⟩ := open1 (E := E) hE11
                    obtain ⟨E, rfl⟩ := open1 (E := E) hE12
                    obtain ⟨E, rfl⟩ := open1 (E := E) hE76
                    rcases condS hM with ⟨hc557, hM⟩ | ⟨hc557, hM⟩
                    · refine WP_true rfl hc557 ?_
                      refine WP_skip ?_
                      refine WP_seq ?_
                      refine WP_block ?_
                      refine WP_region ?_
                      refine O (r_move (v := v520) rfl) rfl ?_
                      refine O (r_move (v := .int .i64 xv1510) rfl) rfl ?_
                      obtain ⟨e444, he444, hM⟩ := bindS hM
                      obtain ⟨b1116, cb1116, hvb1116, cs4629, hcs4629, hcb1116⟩ := hs.rowEl (i := 0) rfl hrelxs354 he444
                      obtain ⟨cs4630, cs4631, cs4632, rfl, hcs4630, hcs4631, hcs4632⟩ := hcs4629
                      have hcs4630 : cs4630 = _ := hcs4630; subst hcs4630
                      have hcs4631 : cs4631 = _ := hcs4631; subst hcs4631
                      have hcs4632 : cs4632 = _ := hcs4632; subst hcs4632
                      refine O (r_idxSl Try.underlying73 ti72 (v := v520) rfl hvb1116 rfl (idxL_some he444).1 (idxL_some he444).2.1) rfl ?_
                      refine O (r_fieldAddr Try.underlying72 ti3 rfl rfl (by decide) rfl rfl) rfl ?_
                      refine O (r_loadEl (cs := [.int .i64 e444.a]) ti3 rfl rfl (.inr rfl) (elemField (cs := [.int .i64 e444.a, .int .i64 e444.b, encS e444.s]) (hcb1116 _ (hs.at (i := 0) rfl)) ([]) ([.int .i64 e444.a]) ([.int .i64 e444.b, encS e444.s]) rfl rfl) (v := .int .i64 e444.a) rfl) rfl ?_
                      refine O (r_move (v := .int .i64 rv167) rfl) rfl ?_
                      refine O (r_eql rfl rfl) rfl ?_
                      refine O (r_move (v := .bool (e444.a == rv167)) rfl) rfl ?_
                      rcases condS hM with ⟨hg1408, hM⟩ | ⟨hg1408, hM⟩
                      · refine OG rfl rfl rfl (by rw [hg1408]; rfl) (r_move (v := v520) rfl) rfl ?_
                        refine OG rfl rfl rfl (by rw [hg1408]; rfl) (r_move (v := .int .i64 xv1510) rfl) rfl ?_
                        obtain ⟨b1117, cb1117, hvb1117, cs4633, hcs4633, hcb1117⟩ := hs.rowEl (i := 0) rfl hrelxs354 he444
                        obtain ⟨cs4634, cs4635, cs4636, rfl, hcs4634, hcs4635, hcs4636⟩ := hcs4633
                        have hcs4634 : cs4634 = _ := hcs4634; subst hcs4634
                        have hcs4635 : cs4635 = _ := hcs4635; subst hcs4635
                        have hcs4636 : cs4636 = _ := hcs4636; subst hcs4636
                        refine OG rfl rfl rfl (by rw [hg1408]; rfl) (r_idxSl Try.underlying73 ti72 (v := v520) rfl hvb1117 rfl (idxL_some he444).1 (idxL_some he444).2.1) rfl ?_
                        refine OG rfl rfl rfl (by rw [hg1408]; rfl) (r_fieldAddr Try.underlying72 ti3 rfl rfl (by decide) rfl rfl) rfl ?_
                        refine OG rfl rfl rfl (by rw [hg1408]; rfl) (r_loadEl (cs := [.int .i64 e444.b]) ti3 rfl rfl (.inr rfl) (elemField (cs := [.int .i64 e444.a, .int .i64 e444.b, encS e444.s]) (hcb1117 _ (hs.at (i := 0) rfl)) ([.int .i64 e444.a]) ([.int .i64 e444.b]) ([encS e444.s]) rfl rfl) (v := .int .i64 e444.b) rfl) rfl ?_
                        refine OG rfl rfl rfl (by rw [hg1408]; rfl) (r_move (v := .int .i64 rv168) rfl) rfl ?_
                        refine OG rfl rfl rfl (by rw [hg1408]; rfl) (r_eql rfl rfl) rfl ?_
                        refine O (r_pickT (v := .bool (e444.b == rv168)) rfl hg1408 rfl) rfl ?_
                        refine O (r_assign (v := .bool (e444.b == rv168)) rfl) rfl ?_
                        refine OW_nil ?_
                        refine WP_region ?_
                        refine O (r_move (v := .int .i64 xv1510) rfl) rfl ?_
                        obtain ⟨t903, ht903, hM⟩ := bindS hM
                        refine O (r_addM rfl rfl ht903) rfl ?_
                        refine O (r_assign (v := .int .i64 t903) rfl) rfl ?_
                        refine OW_nil ?_
                        obtain rfl := Option.some.inj hM
                        exact ⟨rfl, rfl, rfl, rfl, rfl, rfl, rfl, rfl, rfl, hs⟩
                      · refine OK rfl rfl rfl (by rw [hg1408]; rfl) rfl ?_
                        refine OK rfl rfl rfl (by rw [hg1408]; rfl) rfl ?_
                        refine OK rfl rfl rfl (by rw [hg1408]; rfl) rfl ?_
                        refine OK rfl rfl rfl (by rw [hg1408]; rfl) rfl ?_
                        refine OK rfl rfl rfl (by rw [hg1408]; rfl) rfl ?_
                        refine OK rfl rfl rfl (by rw [hg1408]; rfl) rfl ?_
                        refine OK rfl rfl rfl (by rw [hg1408]; rfl) rfl ?_
                        refine O (r_pickF (v := .bool false) rfl hg1408 rfl) rfl ?_
                        refine O (r_assign (v := .bool false) rfl) rfl ?_
                        refine OW_nil ?_
                        refine WP_region ?_
                        refine O (r_move (v := .int .i64 xv1510) rfl) rfl ?_
                        obtain ⟨t904, ht904, hM⟩ := bindS hM
                        refine O (r_addM rfl rfl ht904) rfl ?_
                        refine O (r_assign (v := .int .i64 t904) rfl) rfl ?_
                        refine OW_nil ?_
                        obtain rfl := Option.some.inj hM
                        exact ⟨rfl, rfl, rfl, rfl, rfl, rfl, rfl, rfl, rfl, hs⟩
                    · refine WP_false rfl hc557 ?_
                      refine WP_exit ?_
                      obtain rfl := Option.some.inj hM
                      refine fun hr => ?_
                      have hM := congrArg some hr
                      obtain rfl := Option.some.inj hM
                      exact ⟨v520, xs354, rfl, rfl, rfl, rfl, rfl, rfl, rfl, rfl, hrelxs354, hs⟩
                · clear hs
                  rintro E w ⟨v544, xs370, hE2, hE3, hE6, hE7, hE8, hE9, hE10, hE11, hrelxs370, hs⟩
                  have hM := hKhx616
                  obtain ⟨E, rfl⟩ := open1 (E := E) hE2
                  obtain ⟨E, rfl⟩ := open1 (E := E) hE3
                  obtain ⟨E, rfl⟩ := open1 (E := E) hE6
                  obtain ⟨E, rfl⟩ := open1 (E := E) hE7
                  obtain ⟨E, rfl⟩ := open1 (E := E) hE8
                  obtain ⟨E, rfl⟩ := open1 (E := E) hE9
                  obtain ⟨E, rfl⟩ := open1 (E := E) hE10
                  obtain ⟨E, rfl⟩ := open1 (E := E) hE11
                  refine WP_seq ?_
                  refine WP_region ?_
                  refine O (r_move (v := .bool xv1505) rfl) rfl ?_
                  refine O (r_not rfl) rfl ?_
                  refine OW_nil ?_
                  rcases condS hM with ⟨hc558, hM⟩ | ⟨hc558, hM⟩
                  · refine WP_true rfl hc558 ?_
                    refine WP_any (.q 0 (.q 1 (.q 2 (.q 3 (.q 4 (.q 5 (.q 6 (.q 7 (.q 8 (.q 9 (.s 10 (.s 11 (.q 12 (.q 13 (.s 14 (.s 15 (.q 16 (.leaf)))))))))))))))))) (SS g0 w0 gg253 [.row v544 72 tT_ref10_pair.sz xv1431.length xs370, Go.Lx.box b2 25 ([v4, v5, v6]), Go.Lx.box b1 25 ([v1, v2, v3])]) mo (by decide +kernel) (fun _ _ _ h => h) ?_
                    have hs := hs.drew
                    have hagg253 := Hle.refl gg253
                    have hRv1b := hRv1
                    have hRv2b := hRv2
                    have hRv3b := hRv3
                    have hRv4b := hRv4
                    have hRv5b := hRv5
                    have hRv6b := hRv6
                    have hrelxs370b := hrelxs370
                    have hS : SS g0 w0 gg253 [.row v544 72 tT_ref10_pair.sz xv1431.length xs370, Go.Lx.box b2 25 ([v4, v5, v6]), Go.Lx.box b1 25 ([v1, v2, v3])] _ := ⟨gg253, Hle.refl _, hs⟩
                    refine A rfl hS (fun w9 h9 => by obtain ⟨g9, hle9, hs⟩ := h9; exact r_move (v := v544) rfl) rfl ?_
                    refine A rfl hS (fun w9 h9 => by obtain ⟨g9, hle9, hs⟩ := h9; exact r_move (v := .int .i64 rv167) rfl) rfl ?_
                    refine A rfl hS (fun w9 h9 => by obtain ⟨g9, hle9, hs⟩ := h9; exact r_move (v := .int .i64 rv168) rfl) rfl ?_
                    refine A rfl hS (fun w9 h9 => by obtain ⟨g9, hle9, hs⟩ := h9; exact r_move (v := v544) rfl) rfl ?_
                    refine A rfl hS (fun w9 h9 => by obtain ⟨g9, hle9, hs⟩ := h9; exact r_move (v := .int .i64 xv1006) rfl) rfl ?_
                    obtain ⟨b1118, cb1118, hvb1118, cs4637, hcs4637, hcb1118⟩ := hs.rowEl (i := 0) rfl hrelxs370 he438
                    obtain ⟨cs4638, cs4639, cs4640, rfl, hcs4638, hcs4639, hcs4640⟩ := hcs4637
                    have hcs4638 : cs4638 = _ := hcs4638; subst hcs4638
                    have hcs4639 : cs4639 = _ := hcs4639; subst hcs4639
                    have hcs4640 : cs4640 = _ := hcs4640; subst hcs4640
                    refine A rfl hS (fun w9 h9 => by obtain ⟨g9, hle9, hs⟩ := h9; exact r_idxSl Try.underlying73 ti72 (v := v544) rfl hvb1118 rfl (idxL_some he438).1 (idxL_some he438).2.1) rfl ?_
                    refine A rfl hS (fun w9 h9 => by obtain ⟨g9, hle9, hs⟩ := h9; exact r_fieldAddr Try.underlying72 ti9 rfl rfl (by decide) rfl rfl) rfl ?_
                    refine A rfl hS (fun w9 h9 => by obtain ⟨g9, hle9, hs⟩ := h9; exact r_loadEl (cs := [encS e438.s]) ti9 rfl rfl (.inr rfl) (elemField (cs := [.int .i64 e438.a, .int .i64 e438.b, encS e438.s]) (hcb1118 _ (hs.at (i := 0) rfl)) ([.int .i64 e438.a, .int .i64 e438.b]) ([encS e438.s]) ([]) rfl rfl) (v := encS e438.s) rfl) rfl ?_
                    refine A rfl hS (fun w9 h9 => by obtain ⟨g9, hle9, hs⟩ := h9; exact r_move (v := .int .i64 xv1432) rfl) rfl ?_
                    refine A rfl hS (fun w9 h9 => by obtain ⟨g9, hle9, hs⟩ := h9; exact r_conv Try.underlying3 Try.underlying5 rfl) rfl ?_
                    refine A1 rfl ?_
                    refine OW_lit (τ := (tInt .u8)) [.int .u8 (IntKind.u8.wrap xv1432)] [(IntKind.u8.wrap xv1432)] Try.underlying59 ti5 (by decide) hs rfl rfl rfl ⟨rfl, trivial⟩ rfl ?_
                    intro v545 wv385 xs371 hrelxs371 hs
                    refine OW_nil ?_
                    have hS : SS g0 w0 gg253 [.row v544 72 tT_ref10_pair.sz xv1431.length xs370, Go.Lx.box b2 25 ([v4, v5, v6]), Go.Lx.box b1 25 ([v1, v2, v3])] _ := ⟨gg253, (Hle.refl _), (hs.sub (.cons _ (.cons_cons _ (.cons_cons _ (.cons_cons _ .slnil)))))⟩
                    refine ⟨fun _ => hS, ?_⟩
                    refine A1 rfl ?_
                    refine O (r_toStr (l := [(IntKind.u8.wrap xv1432)]) Try.underlying59 Try.underlying5 Try.underlying9 (v := v545) rfl (hs.rowSrc (i := 0) rfl) hrelxs371) rfl ?_
                    refine OW_nil ?_
                    have hS : SS g0 w0 gg253 [.row v544 72 tT_ref10_pair.sz xv1431.length xs370, Go.Lx.box b2 25 ([v4, v5, v6]), Go.Lx.box b1 25 ([v1, v2, v3])] _ := ⟨gg253, (Hle.refl _), (hs.sub (.cons _ (.cons_cons _ (.cons_cons _ (.cons_cons _ .slnil)))))⟩
                    refine ⟨fun _ => hS, ?_⟩
                    obtain ⟨s72, hs72, hM⟩ := bindS hM
                    refine A rfl hS (fun w9 h9 => by obtain ⟨g9, hle9, hs⟩ := h9; exact r_catS rfl rfl hs72) rfl ?_
                    refine A rfl hS (fun w9 h9 => by obtain ⟨g9, hle9, hs⟩ := h9; exact r_build (vs := [(0, .int .i64 rv167), (1, .int .i64 rv168), (2, encS s72)]) (cs := [.int .i64 rv167, .int .i64 rv168, encS s72]) rfl (by kernel_rfl)) rfl ?_
                    refine A1 rfl ?_
                    refine OW_lit (τ := tT_ref10_pair) [.agg (List.toArray (α := Value) [.int .i64 rv167, .int .i64 rv168, encS s72])] [(T_ref10_pair.mk rv167 rv168 s72)] Try.underlying73 ti72 (by decide) hs rfl rfl rfl ⟨⟨[.int .i64 rv167], [.int .i64 rv168], [encS s72], rfl, rfl, rfl, rfl⟩, trivial⟩ rfl ?_
                    intro v546 wv386 xs372 hrelxs372 hs
                    refine OW_nil ?_
                    have hS : SS g0 w0 gg253 [.row v544 72 tT_ref10_pair.sz xv1431.length xs370, Go.Lx.box b2 25 ([v4, v5, v6]), Go.Lx.box b1 25 ([v1, v2, v3])] _ := ⟨gg253, (Hle.refl _), (hs.sub (.cons _ (.cons _ (.cons_cons _ (.cons_cons _ (.cons_cons _ .slnil))))))⟩
                    refine ⟨fun _ => hS, ?_⟩
                    refine A1 rfl ?_
                    obtain ⟨y108, hy108, hM⟩ := bindS hM
                    refine OW_appendK Try.underlying73 ti72 rfl (by decide) (by decide) hs (i := 2) rfl hrelxs370 (v := v544) rfl (u := v546) rfl (hs.rowSrc (i := 0) rfl) hrelxs372 hy108 rfl ?_
                    intro v547 wv387 xs373 hrelxs373 hsO hs
                    refine OW_nil ?_
                    replace hS : SS g0 w0 gg253 [.row v544 72 tT_ref10_pair.sz xv1431.length xs370, Go.Lx.box b2 25 ([v4, v5, v6]), Go.Lx.box b1 25 ([v1, v2, v3])] _ := ⟨gg253, (Hle.refl _), (hsO.sub (.cons _ (.cons _ (.cons_cons _ (.cons_cons _ (.cons_cons _ .slnil))))))⟩
                    refine ⟨fun _ => hS, ?_⟩
                    refine A rfl hS (fun w9 h9 => by obtain ⟨g9, hle9, hs⟩ := h9; exact r_assign (v := v547) rfl) rfl ?_
                    refine AN ?_
                    obtain rfl := Option.some.inj hM
                    exact ⟨gg253, v547, xs373, rfl, rfl, rfl, rfl, rfl, hagg242, hrelxs373, (hs.sub (.cons _ (.cons _ (.cons_cons _ (.cons_cons _ (.cons_cons _ .slnil))))))⟩
                  · refine WP_false rfl hc558 ?_
                    refine WP_skip ?_
                    obtain rfl := Option.some.inj hM
                    exact ⟨gg253, v544, xs370, rfl, rfl, rfl, rfl, rfl, hagg242, hrelxs370, hs⟩
            · clear hs
              rintro E w ⟨gg251, v541, xs369, hE2, hE3, hE6, hE7, hE8, hlegg251, hrelxs369, hs⟩
              have hM := hKhx611
              obtain ⟨E, rfl⟩ := open1 (E := E) hE2
              obtain ⟨E, rfl⟩ := open1 (E := E) hE3
              obtain ⟨E, rfl⟩ := open1 (E := E) hE6
              obtain ⟨E, rfl⟩ := open1 (E := E) hE7
              obtain ⟨E, rfl⟩ := open1 (E := E) hE8
              replace hRv1 := hRv1.mono hlegg251
              replace hRv2 := hRv2.mono hlegg251
              replace hRv3 := hRv3.mono hlegg251
              replace hRv4 := hRv4.mono hlegg251
              replace hRv5 := hRv5.mono hlegg251
              replace hRv6 := hRv6.mono hlegg251
              replace hlegg170 := hlegg170.trans hlegg251
              replace hagg170 := hagg170.trans hlegg251
              replace hlegg242 := hlegg242.trans hlegg251
              replace hagg242 := hagg242.trans hlegg251
              refine WP_region ?_
              refine O (r_move (v := .int .i64 xv1432) rfl) rfl ?_
              obtain ⟨t905, ht905, hM⟩ := bindS hM
              refine O (r_addM rfl rfl ht905) rfl ?_
              refine O (r_assign (v := .int .i64 t905) rfl) rfl ?_
              refine OW_nil ?_
              obtain rfl := Option.some.inj hM
              exact ⟨gg251, v541, xs369, rfl, rfl, rfl, rfl, rfl, hlegg242, hrelxs369, hs⟩
          · refine WP_false rfl hc544 ?_
            refine WP_exit ?_
            obtain rfl := Option.some.inj hM
            refine fun hr => ?_
            have hM := congrArg some hr
            obtain rfl := Option.some.inj hM
            exact ⟨xv1431, rfl, gg242, v520, xs354, rfl, rfl, rfl, rfl, hagg170, hrelxs354, hs⟩
      · clear hs
        rintro E w ⟨xv1388, rfl, gg233, v503, xs343, hE2, hE3, hE6, hE7, hlegg233, hrelxs343, hs⟩
        have hM := hKhx568
        dsimp only [onStep] at hM
        obtain ⟨E, rfl⟩ := open1 (E := E) hE2
        obtain ⟨E, rfl⟩ := open1 (E := E) hE3
        obtain ⟨E, rfl⟩ := open1 (E := E) hE6
        obtain ⟨E, rfl⟩ := open1 (E := E) hE7
        replace hRv1 := hRv1.mono hlegg233
        replace hRv2 := hRv2.mono hlegg233
        replace hRv3 := hRv3.mono hlegg233
        replace hRv4 := hRv4.mono hlegg233
        replace hRv5 := hRv5.mono hlegg233
        replace hRv6 := hRv6.mono hlegg233
        replace hlegg170 := hlegg170.trans hlegg233
        replace hagg170 := hagg170.trans hlegg233
        refine WP_region ?_
        refine O (r_move (v := .int .i64 xv1006) rfl) rfl ?_
        obtain ⟨t906, ht906, hM⟩ := bindS hM
        refine O (r_addM rfl rfl ht906) rfl ?_
        refine O (r_assign (v := .int .i64 t906) rfl) rfl ?_
        refine OW_nil ?_
        obtain rfl := Option.some.inj hM
        exact ⟨gg233, v503, xs343, rfl, rfl, rfl, rfl, hlegg170, hrelxs343, hs⟩
    · refine WP_false rfl hc466 ?_
      refine WP_exit ?_
      obtain rfl := Option.some.inj hM
      refine fun hr => ?_
      have hM := congrArg some hr
      obtain rfl := Option.some.inj hM
      exact ⟨(), rfl, gg170, hlegg170, (hs.sub (.cons _ (.cons _ (.cons _ .slnil))))⟩
  · clear hs
    rintro E w ⟨_, rfl, gg127, hlegg127, hs⟩
    have hM := hKhx310
    dsimp only [onStep] at hM
    refine WP_seq ?_
    refine WP_region ?_
    refine O (r_assign (v := encS []) rfl) rfl ?_
    refine O (r_assign (v := .bool false) rfl) rfl ?_
    refine OW_nil ?_
    refine WP_ret ?_
    obtain rfl := Option.some.inj hM
    exact ⟨_, res2 Try.results18 (rv_tmp (v := encS []) rfl) (rv_tmp (v := .bool false) rfl), gg127, ⟨_, _, rfl, ⟨[encS []], rfl, rfl⟩, ⟨[.bool false], rfl, rfl⟩⟩, hs.ext⟩

set_option maxRecDepth 100000 in
theorem dfa_between_1_ok {nv1 : Int} {c1 : Int} {c2 : Int} {r : Bool} (hM : M.dfa_between_1 nv1 c1 c2 = some r) {g0 : Hp} {w0 : World} (hi : Imm g0 w0) {b1 : Nat} {cs1 : List Value} (hBb1 : IBox 3 b1 cs1 g0) (hcs1 : (tInt .i64).rel g0 cs1 c1) {b2 : Nat} {cs2 : List Value} (hBb2 : IBox 3 b2 cs2 g0) (hcs2 : (tInt .i64).rel g0 cs2 c2) :
    CallsV Try.prog 53 #[.int .i64 nv1, .pointer (some ⟨b1, 0, none⟩), .pointer (some ⟨b2, 0, none⟩)] w0 (fun v w' => ∃ g', (VRd tBool false g' v r) ∧ Ext g0 w0 g' w') := by
  unfold M.dfa_between_1 at hM
  have hcs1 : cs1 = _ := hcs1; subst hcs1
  have hcs2 : cs2 = _ := hcs2; subst hcs2
  have hs := Sep.start hi
  refine calls_of_WP (args := [.int .i64 nv1, .pointer (some ⟨b1, 0, none⟩), .pointer (some ⟨b2, 0, none⟩)]) Try.func53 rfl Try.ntmps53 rfl ?_
  refine WP_seq ?_
  refine WP_region ?_
  refine O (r_assign (v := .bool false) rfl) rfl ?_
  refine OW_nil ?_
  obtain ⟨xv1, hx1, hKhx1⟩ := bindS hM
  refine WP_cut (fun E w => E 4 = .bool xv1 ∧ Go.Lx.Sep g0 w0 g0 w []) ?_ ?_
  · have hM := hx1
    have hag0 := Hle.refl g0
    refine WP_region ?_
    refine O (r_move (v := .int .i64 nv1) rfl) rfl ?_
    refine O (r_loadEl (o := 0) (cs := [.int .i64 c1]) ti3 rfl rfl (.inr rfl) (hBb1.cells hs.imm) (v := .int .i64 c1) rfl) rfl ?_
    refine O (r_lss rfl rfl) rfl ?_
    refine O (r_move (v := .bool (decide (nv1 < c1))) rfl) rfl ?_
    rcases condS hM with ⟨hg2, hM⟩ | ⟨hg2, hM⟩
    · refine OK rfl rfl rfl (by rw [hg2]; rfl) rfl ?_
      refine OK rfl rfl rfl (by rw [hg2]; rfl) rfl ?_
      refine OK rfl rfl rfl (by rw [hg2]; rfl) rfl ?_
      refine O (r_pickT (v := .bool true) rfl hg2 rfl) rfl ?_
      refine O (r_assign (v := .bool true) rfl) rfl ?_
      refine OW_nil ?_
      obtain rfl := Option.some.inj hM
      exact ⟨rfl, hs⟩
    · refine OG rfl rfl rfl (by rw [hg2]; rfl) (r_move (v := .int .i64 nv1) rfl) rfl ?_
      refine OG rfl rfl rfl (by rw [hg2]; rfl) (r_loadEl (o := 0) (cs := [.int .i64 c2]) ti3 rfl rfl (.inr rfl) (hBb2.cells hs.imm) (v := .int .i64 c2) rfl) rfl ?_
      refine OG rfl rfl rfl (by rw [hg2]; rfl) (r_gtr rfl rfl) rfl ?_
      refine O (r_pickF (v := .bool (decide (c2 < nv1))) rfl hg2 rfl) rfl ?_
      refine O (r_assign (v := .bool (decide (c2 < nv1))) rfl) rfl ?_
      refine OW_nil ?_
      obtain rfl := Option.some.inj hM
      exact ⟨rfl, hs⟩
  · clear hs
    rintro E w ⟨hE4, hs⟩
    have hM := hKhx1
    obtain ⟨E, rfl⟩ := open1 (E := E) hE4
    refine WP_ret ?_
    obtain rfl := Option.some.inj hM
    exact ⟨_, res1 Try.results53 (rv_tmp (v := .bool xv1) rfl), g0, ⟨[.bool xv1], rfl, rfl⟩, hs.ext⟩

set_option maxRecDepth 100000 in
theorem dfa_Valid_1_ok {a1 : Int} {r : Bool} (hM : M.dfa_Valid_1 a1 = some r) {g0 : Hp} {w0 : World} (hi : Imm g0 w0) :
    CallsV Try.prog 28 #[.int .i64 a1] w0 (fun v w' => ∃ g', (VRd tBool false g' v r) ∧ Ext g0 w0 g' w') := by
  unfold M.dfa_Valid_1 at hM
  have hs := Sep.start hi
  refine calls_of_WP (args := [.int .i64 a1]) Try.func28 rfl Try.ntmps28 rfl ?_
  refine WP_seq ?_
  refine WP_region ?_
  refine O (r_assign (v := .bool false) rfl) rfl ?_
  refine OW_nil ?_
  refine WP_seq ?_
  refine WP_region ?_
  refine O (r_move (v := .int .i64 a1) rfl) rfl ?_
  refine O (r_lss rfl rfl) rfl ?_
  refine O (r_assign (v := .bool (decide (a1 < (-1)))) rfl) rfl ?_
  refine OW_nil ?_
  refine WP_ret ?_
  obtain rfl := Option.some.inj hM
  exact ⟨_, res1 Try.results28 (rv_tmp (v := .bool (decide (a1 < (-1)))) rfl), g0, ⟨[.bool (decide (a1 < (-1)))], rfl, rfl⟩, hs.ext⟩

set_option maxRecDepth 100000 in
theorem dfa_live_1_ok {t1 : Int} {c1 : (List Bool)} {r : Bool} (hM : M.dfa_live_1 t1 c1 = some r) {g0 : Hp} {w0 : World} (hi : Imm g0 w0) {b1 : Nat} {cs1 : List Value} (hBb1 : IBox 88 b1 cs1 g0) (hcs1 : (tSl tBool).rel g0 cs1 c1) :
    CallsV Try.prog 66 #[.int .i64 t1, .pointer (some ⟨b1, 0, none⟩)] w0 (fun v w' => ∃ g', (VRd tBool false g' v r) ∧ Ext g0 w0 g' w') := by
  unfold M.dfa_live_1 at hM
  obtain ⟨v1, rfl, hRv1⟩ := hcs1
  have hs := Sep.start hi
  refine calls_of_WP (args := [.int .i64 t1, .pointer (some ⟨b1, 0, none⟩)]) Try.func66 rfl Try.ntmps66 rfl ?_
  refine WP_seq ?_
  refine WP_region ?_
  refine O (r_assign (v := .bool false) rfl) rfl ?_
  refine OW_nil ?_
  obtain ⟨e2, hx1, hKhx1⟩ := bindS hM
  refine WP_cut (fun E w => E 3 = .bool e2 ∧ Go.Lx.Sep g0 w0 g0 w []) ?_ ?_
  · have hM := hx1
    have hag0 := Hle.refl g0
    refine WP_region ?_
    refine O (r_move (v := .int .i64 t1) rfl) rfl ?_
    refine O (r_geq rfl rfl) rfl ?_
    refine O (r_move (v := .bool (decide (0 ≤ t1))) rfl) rfl ?_
    rcases condS hM with ⟨hg2, hM⟩ | ⟨hg2, hM⟩
    · refine OG rfl rfl rfl (by rw [hg2]; rfl) (r_loadEl (o := 0) (cs := [v1]) ti88 rfl rfl (.inr rfl) (hBb1.cells hs.imm) (v := v1) rfl) rfl ?_
      refine OG rfl rfl rfl (by rw [hg2]; rfl) (r_move (v := .int .i64 t1) rfl) rfl ?_
      obtain ⟨e3, he3, hM⟩ := bindS hM
      obtain ⟨b3, ob3, cb3, hvb3, cs3, hcs3, hcb3⟩ := hRv1.at he3
      have hcs3 : cs3 = _ := hcs3; subst hcs3
      refine OG rfl rfl rfl (by rw [hg2]; rfl) (r_idxSl Try.underlying88 ti4 (v := v1) rfl hvb3 rfl (idxL_some he3).1 (idxL_some he3).2.1) rfl ?_
      refine OG rfl rfl rfl (by rw [hg2]; rfl) (r_loadEl (cs := [.bool e3]) ti4 rfl rfl (.inr rfl) (hcb3 _ hs.imm) (v := .bool e3) rfl) rfl ?_
      refine O (r_pickT (v := .bool e3) rfl hg2 rfl) rfl ?_
      refine O (r_assign (v := .bool e3) rfl) rfl ?_
      refine OW_nil ?_
      obtain rfl := Option.some.inj hM
      exact ⟨rfl, hs⟩
    · refine OK rfl rfl rfl (by rw [hg2]; rfl) rfl ?_
      refine OK rfl rfl rfl (by rw [hg2]; rfl) rfl ?_
      refine OK rfl rfl rfl (by rw [hg2]; rfl) rfl ?_
      refine OK rfl rfl rfl (by rw [hg2]; rfl) rfl ?_
      refine O (r_pickF (v := .bool false) rfl hg2 rfl) rfl ?_
      refine O (r_assign (v := .bool false) rfl) rfl ?_
      refine OW_nil ?_
      obtain rfl := Option.some.inj hM
      exact ⟨rfl, hs⟩
  · clear hs
    rintro E w ⟨hE3, hs⟩
    have hM := hKhx1
    obtain ⟨E, rfl⟩ := open1 (E := E) hE3
    refine WP_ret ?_
    obtain rfl := Option.some.inj hM
    exact ⟨_, res1 Try.results66 (rv_tmp (v := .bool e2) rfl), g0, ⟨[.bool e2], rfl, rfl⟩, hs.ext⟩

set_option maxRecDepth 100000 in
theorem slices_IndexFunc_int_int_ok {s1 : (List Int)} {f1 : (Int → Option Bool)} {r : Int} (hM : M.slices_IndexFunc_int_int s1 f1 = some r) {g0 : Hp} {w0 : World} (hi : Imm g0 w0) {v1 : Value} (hRv1 : RdS (tInt .i64) g0 v1 s1) {v2 : Value} (hRv2 : FnRd1 Try.prog (VRd (tInt .i64) false) (VRd tBool false) v2 f1 g0) :
    CallsV Try.prog 54 #[v1, v2] w0 (fun v w' => ∃ g', (VRd (tInt .i64) false g' v r) ∧ Ext g0 w0 g' w') := by
  unfold M.slices_IndexFunc_int_int at hM
  have hs := Sep.start hi
  refine calls_of_WP (args := [v1, v2]) Try.func54 rfl Try.ntmps54 rfl ?_
  refine WP_seq ?_
  refine WP_region ?_
  refine O (r_assign (v := .int .i64 0) rfl) rfl ?_
  refine OW_nil ?_
  obtain ⟨o3, hx1, hKhx1⟩ := stepS hM
  refine WP_cut (fun E w => ∃ u9 : Unit, o3 = .next u9 ∧ ∃ (gg7 : Hp), Hle g0 gg7 ∧ Go.Lx.Sep g0 w0 gg7 w []) ?_ ?_
  · have hM := hx1
    have hag0 := Hle.refl g0
    refine WP_seq ?_
    refine WP_region ?_
    refine O (r_move (v := v1) rfl) rfl ?_
    obtain ⟨a2, ca2, hva2⟩ := hRv1.shape
    refine O (r_lenSl (v := v1) Try.underlying22 rfl hva2) rfl ?_
    refine O (r_move (v := .int .i64 0) rfl) rfl ?_
    refine OW_nil ?_
    refine WP_block ?_
    refine WP_loop (fun (xv5 : Int) E w => ∃ (gg10 : Hp), E 0 = v1 ∧ E 1 = v2 ∧ E 7 = .int .i64 (s1.length : Int) ∧ E 8 = .int .i64 xv5 ∧ Hle g0 gg10 ∧ Go.Lx.Sep g0 w0 gg10 w []) hM ⟨g0, rfl, rfl, rfl, rfl, (Hle.refl _), hs⟩ ?_
    clear hs hM
    rintro xv5 o2 E w hM ⟨gg10, hE0, hE1, hE7, hE8, hlegg10, hs⟩
    obtain ⟨E, rfl⟩ := open1 (E := E) hE0
    obtain ⟨E, rfl⟩ := open1 (E := E) hE1
    obtain ⟨E, rfl⟩ := open1 (E := E) hE7
    obtain ⟨E, rfl⟩ := open1 (E := E) hE8
    replace hRv1 := hRv1.mono hlegg10
    replace hRv2 := hRv2.mono hlegg10
    replace hag0 := hag0.trans hlegg10
    have hagg10 := Hle.refl gg10
    refine WP_seq ?_
    refine WP_region ?_
    refine O (r_lss rfl rfl) rfl ?_
    refine OW_nil ?_
    refine WP_seq ?_
    rcases condS hM with ⟨hc11, hM⟩ | ⟨hc11, hM⟩
    · refine WP_true rfl hc11 ?_
      refine WP_skip ?_
      refine WP_seq ?_
      refine WP_block ?_
      refine WP_seq ?_
      refine WP_region ?_
      refine O (r_move (v := .int .i64 xv5) rfl) rfl ?_
      refine O (r_assign (v := .int .i64 xv5) rfl) rfl ?_
      refine OW_nil ?_
      refine WP_seq ?_
      refine WP_region ?_
      refine O (r_move (v := v2) rfl) rfl ?_
      refine O (r_move (v := v1) rfl) rfl ?_
      refine O (r_move (v := .int .i64 xv5) rfl) rfl ?_
      obtain ⟨e6, he6, hM⟩ := bindS hM
      obtain ⟨b6, ob6, cb6, hvb6, cs11, hcs11, hcb6⟩ := hRv1.at he6
      have hcs11 : cs11 = _ := hcs11; subst hcs11
      refine O (r_idxSl Try.underlying22 ti3 (v := v1) rfl hvb6 rfl (idxL_some he6).1 (idxL_some he6).2.1) rfl ?_
      refine O (r_loadEl (cs := [.int .i64 e6]) ti3 rfl rfl (.inr rfl) (hcb6 _ hs.imm) (v := .int .i64 e6) rfl) rfl ?_
      obtain ⟨rv6, hrv6, hM⟩ := bindS hM
      obtain ⟨f7, cf7, ef7, cff7, okf7⟩ := id hRv2
      refine CV [.int .i64 e6] cf7 cff7 ef7 rfl (okf7 _ _ _ _ _ (Hle.refl _) hs.imm (show VRd (tInt .i64) false gg10 _ _ from ⟨[.int .i64 e6], rfl, rfl⟩) hrv6) rfl ?_
      rintro v8 wv6 ⟨gg13, hvv8, hegg13⟩
      have hlegg13 := hegg13.le hs.imm
      replace hs := hs.call hegg13
      replace hRv1 := hRv1.mono hlegg13
      replace hRv2 := hRv2.mono hlegg13
      replace hlegg10 := hlegg10.trans hlegg13
      replace hagg10 := hagg10.trans hlegg13
      obtain ⟨cs12, rfl, hcs12⟩ := hvv8
      have hcs12 : cs12 = _ := hcs12; subst hcs12
      refine OW_nil ?_
      rcases condS hM with ⟨hc12, hM⟩ | ⟨hc12, hM⟩
      · refine WP_true rfl hc12 ?_
        refine WP_seq ?_
        refine WP_region ?_
        refine O (r_move (v := .int .i64 xv5) rfl) rfl ?_
        refine O (r_assign (v := .int .i64 xv5) rfl) rfl ?_
        refine OW_nil ?_
        refine WP_ret ?_
        obtain rfl := Option.some.inj hM
        refine fun hr => ?_
        have hM := congrArg some hr
        obtain rfl := Option.some.inj hM
        have hM := hKhx1
        obtain rfl := Option.some.inj hM
        exact ⟨_, res1 Try.results54 (rv_tmp (v := .int .i64 xv5) rfl), gg13, ⟨[.int .i64 xv5], rfl, rfl⟩, hs.ext⟩
      · refine WP_false rfl hc12 ?_
        refine WP_skip ?_
        refine WP_region ?_
        obtain ⟨t6, ht6, hM⟩ := bindS hM
        refine O (r_addM rfl rfl ht6) rfl ?_
        refine O (r_move (v := .int .i64 t6) rfl) rfl ?_
        refine OW_nil ?_
        obtain rfl := Option.some.inj hM
        exact ⟨gg13, rfl, rfl, rfl, rfl, hlegg10, hs⟩
    · refine WP_false rfl hc11 ?_
      refine WP_exit ?_
      obtain rfl := Option.some.inj hM
      refine fun hr => ?_
      have hM := congrArg some hr
      obtain rfl := Option.some.inj hM
      exact ⟨(), rfl, gg10, hlegg10, hs⟩
  · clear hs
    rintro E w ⟨_, rfl, gg7, hlegg7, hs⟩
    have hM := hKhx1
    dsimp only [onStep] at hM
    refine WP_seq ?_
    refine WP_region ?_
    refine O (r_assign (v := .int .i64 (-1)) rfl) rfl ?_
    refine OW_nil ?_
    refine WP_ret ?_
    obtain rfl := Option.some.inj hM
    exact ⟨_, res1 Try.results54 (rv_tmp (v := .int .i64 (-1)) rfl), gg7, ⟨[.int .i64 (-1)], rfl, rfl⟩, hs.ext⟩

set_option maxRecDepth 100000 in
theorem slices_ContainsFunc_int_int_ok {s1 : (List Int)} {f1 : (Int → Option Bool)} {r : Bool} (hM : M.slices_ContainsFunc_int_int s1 f1 = some r) {g0 : Hp} {w0 : World} (hi : Imm g0 w0) {v1 : Value} (hRv1 : RdS (tInt .i64) g0 v1 s1) {v2 : Value} (hRv2 : FnRd1 Try.prog (VRd (tInt .i64) false) (VRd tBool false) v2 f1 g0) :
    CallsV Try.prog 27 #[v1, v2] w0 (fun v w' => ∃ g', (VRd tBool false g' v r) ∧ Ext g0 w0 g' w') := by
  unfold M.slices_ContainsFunc_int_int at hM
  have hs := Sep.start hi
  refine calls_of_WP (args := [v1, v2]) Try.func27 rfl Try.ntmps27 rfl ?_
  refine WP_seq ?_
  refine WP_region ?_
  refine O (r_assign (v := .bool false) rfl) rfl ?_
  refine OW_nil ?_
  refine WP_seq ?_
  refine WP_region ?_
  refine O (r_move (v := v1) rfl) rfl ?_
  refine O (r_move (v := v2) rfl) rfl ?_
  obtain ⟨rv1, hrv1, hM⟩ := bindS hM
  refine C [v1, v2] cf54 rfl (slices_IndexFunc_int_int_ok hrv1 hs.imm hRv1 hRv2) rfl ?_
  rintro v3 wv1 ⟨gg1, hvv3, hegg1⟩
  have hlegg1 := hegg1.le hs.imm
  replace hs := hs.call hegg1
  replace hRv1 := hRv1.mono hlegg1
  replace hRv2 := hRv2.mono hlegg1
  obtain ⟨cs1, rfl, hcs1⟩ := hvv3
  have hcs1 : cs1 = _ := hcs1; subst hcs1
  refine O (r_geq rfl rfl) rfl ?_
  refine O (r_assign (v := .bool (decide (0 ≤ rv1))) rfl) rfl ?_
  refine OW_nil ?_
  refine WP_ret ?_
  obtain rfl := Option.some.inj hM
  exact ⟨_, res1 Try.results27 (rv_tmp (v := .bool (decide (0 ≤ rv1))) rfl), gg1, ⟨[.bool (decide (0 ≤ rv1))], rfl, rfl⟩, hs.ext⟩

set_option maxRecDepth 100000 in
theorem slices_Clone_int_int_ok {s1 : (List Int)} {r : (List Int)} (hM : M.slices_Clone_int_int s1 = some r) {g0 : Hp} {w0 : World} (hi : Imm g0 w0) {v1 : Value} (hRv1 : RdS (tInt .i64) g0 v1 s1) :
    CallsV Try.prog 56 #[v1] w0 (fun v w' => ∃ g' y0, (RowRel (tInt .i64) g' y0 r) ∧ Sep g0 w0 g' w' [.row v 3 (tInt .i64).sz r.length y0]) := by
  unfold M.slices_Clone_int_int at hM
  have hs := Sep.start hi
  refine calls_of_WP (args := [v1]) Try.func56 rfl Try.ntmps56 rfl ?_
  refine WP_seq ?_
  refine WP_region ?_
  refine O (r_assign (v := .slice none 0 0) rfl) rfl ?_
  refine OW_nil ?_
  refine WP_seq ?_
  refine WP_seq ?_
  refine WP_region ?_
  refine O (r_move (v := v1) rfl) rfl ?_
  obtain ⟨a1, ca1, hva1⟩ := hRv1.shape
  refine O (r_eqlNil (v := v1) Try.underlying22 rfl hva1 rfl) rfl ?_
  refine OW_nil ?_
  rcases truth_cases a1.isNone with hn1 | hn1
  · obtain rfl := Option.isNone_iff_eq_none.1 hn1
    have hl9 : s1 = [] := RdS.none_nil hRv1 hva1
    have hM : (some []) = some r := by rw [hl9] at hM; simpa [appM] using hM
    refine WP_true rfl rfl ?_
    refine WP_seq ?_
    refine WP_region ?_
    refine O (r_assign (v := .slice none 0 0) rfl) rfl ?_
    refine OW_nil ?_
    refine WP_ret ?_
    have hs := hs.nilRow 3 (tInt .i64).sz
    have hn0 : RowRel (tInt .i64) g0 [] [] := RowRel.nil
    obtain rfl := Option.some.inj hM
    exact ⟨_, res1 Try.results56 (rv_tmp (v := (.slice none 0 0)) rfl), g0, [], hn0, hs⟩
  · refine WP_false rfl hn1 ?_
    refine WP_skip ?_
    refine WP_seq ?_
    refine WP_region ?_
    refine OW_lit (τ := (tInt .i64)) [] [] Try.underlying22 ti3 (by decide) hs rfl rfl rfl trivial rfl ?_
    intro v2 wv1 xs1 hrelxs1 hs
    refine O (r_move (v := v1) rfl) rfl ?_
    obtain ⟨xs2, hrxs2, hlxs2⟩ := (id hRv1)
    obtain ⟨y1, hy1, hM⟩ := bindS hM
    refine OW_append Try.underlying22 ti3 rfl (by decide) (by decide) hs (i := 0) rfl hrelxs1 (v := v2) rfl (u := v1) rfl (hlxs2.src hs.imm) hrxs2 hy1 rfl ?_
    intro v3 wv2 xs3 hrelxs3 hs
    refine O (r_assign (v := v3) rfl) rfl ?_
    refine OW_nil ?_
    refine WP_ret ?_
    obtain rfl := Option.some.inj hM
    exact ⟨_, res1 Try.results56 (rv_tmp (v := v3) rfl), g0, xs3, hrelxs3, hs⟩

set_option maxRecDepth 100000 in
theorem dfa_between_ok {l1 : (List Int)} {lo1 : Int} {hiv1 : Int} {r : Bool} (hM : M.dfa_between l1 lo1 hiv1 = some r) {g0 : Hp} {w0 : World} (hi : Imm g0 w0) {v1 : Value} (hRv1 : RdS (tInt .i64) g0 v1 l1) :
    CallsV Try.prog 26 #[v1, .int .i64 lo1, .int .i64 hiv1] w0 (fun v w' => ∃ g', (VRd tBool false g' v r) ∧ Ext g0 w0 g' w') := by
  unfold M.dfa_between at hM
  have hs := Sep.start hi
  refine calls_of_WP (args := [v1, .int .i64 lo1, .int .i64 hiv1]) Try.func26 rfl Try.ntmps26 rfl ?_
  refine WP_seq ?_
  refine WP_region ?_
  refine OW_box (v := .int .i64 lo1) rfl hs (zs := [.int .i64 lo1]) rfl rfl ?_
  intro b1 wv1 hs
  refine OW_box (v := .int .i64 hiv1) rfl hs (zs := [.int .i64 hiv1]) rfl rfl ?_
  intro b2 wv2 hs
  refine O (r_assign (v := .bool false) rfl) rfl ?_
  refine OW_nil ?_
  refine WP_seq ?_
  refine WP_region ?_
  refine O (r_move (v := v1) rfl) rfl ?_
  refine O (r_makeFunc (vs := [.pointer (some ⟨b1, 0, none⟩), .pointer (some ⟨b2, 0, none⟩)]) rfl) rfl ?_
  have hsL1 := hs
  have hRv1L1 := hRv1
  obtain ⟨gg1, hlegg1, hBgg1, hs⟩ := hs.relBox (i := 1) rfl
  replace hRv1 := hRv1.mono hlegg1
  obtain ⟨gg2, hlegg2, hBgg2, hs⟩ := hs.relBox (i := 0) rfl
  replace hRv1 := hRv1.mono hlegg2
  replace hBgg1 := hBgg1.mono hlegg2
  obtain ⟨rv1, hrv1, hM⟩ := bindS hM
  refine C [v1, .func (.func 53) #[] (List.toArray [.pointer (some ⟨b1, 0, none⟩), .pointer (some ⟨b2, 0, none⟩)])] cf27 rfl (slices_ContainsFunc_int_int_ok hrv1 hs.imm hRv1 (show FnRd1 Try.prog (VRd (tInt .i64) false) (VRd tBool false) (.func (.func 53) #[] (List.toArray [.pointer (some ⟨b1, 0, none⟩), .pointer (some ⟨b2, 0, none⟩)])) (fun x901 => M.dfa_between_1 x901 lo1 hiv1) gg2 from ⟨53, [.pointer (some ⟨b1, 0, none⟩), .pointer (some ⟨b2, 0, none⟩)], rfl, cf53, fun g9 w9 a90 x90 r9 hle9 hi9 ha90 hM9 => by obtain ⟨c90, rfl, ha90⟩ := ha90; have ha90 : c90 = _ := ha90; subst ha90; exact dfa_between_1_ok hM9 hi9 (hBgg1.mono hle9) ((tInt .i64).mono hle9 rfl) (hBgg2.mono hle9) ((tInt .i64).mono hle9 rfl)⟩)) rfl ?_
  rintro v2 wv3 ⟨gg3, hvv2, hegg3⟩
  obtain ⟨gg4, hlegg4, hs⟩ := hsL1.lent hegg3
  replace hRv1 := hRv1L1.mono hlegg4
  obtain ⟨cs1, rfl, hcs1⟩ := hvv2
  have hcs1 : cs1 = _ := hcs1; subst hcs1
  refine O (r_not rfl) rfl ?_
  refine O (r_assign (v := .bool (!rv1)) rfl) rfl ?_
  refine OW_nil ?_
  refine WP_ret ?_
  obtain rfl := Option.some.inj hM
  exact ⟨_, res1 Try.results26 (rv_tmp (v := .bool (!rv1)) rfl), gg4, ⟨[.bool (!rv1)], rfl, rfl⟩, hs.ext⟩


end Go.Proofs.Ytogpainomdfpnaa
