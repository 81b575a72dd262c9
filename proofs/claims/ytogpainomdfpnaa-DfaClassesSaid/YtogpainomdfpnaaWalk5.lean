/- The walks: what each function does is what its model says. Printed by a program of my own. -/
import Derived.Test.YtogpainomdfpnaaWalk4
set_option linter.unusedVariables false
namespace Go.Proofs.Ytogpainomdfpnaa
open Go.Lx Go.RowKit
set_option maxRecDepth 100000 in
theorem law10_awake_ok {r : Bool} (hM : M.law10_awake = some r) {g0 : Hp} {w0 : World} (hi : Imm g0 w0) :
    CallsV Try.prog 9 #[] w0 (fun v w' => ∃ g', (VRd tBool false g' v r) ∧ Ext g0 w0 g' w') := by
  unfold M.law10_awake at hM
  have hs := Sep.start hi
  refine calls_of_WP (args := []) Try.func9 rfl Try.ntmps9 rfl ?_
  refine WP_seq ?_
  refine WP_region ?_
  refine O (r_assign (v := .bool false) rfl) rfl ?_
  refine OW_nil ?_
  refine WP_seq ?_
  refine WP_region ?_
  obtain ⟨rv1, hrv1, hM⟩ := bindS hM
  refine C [] cf24 rfl (law10_plus_ok hrv1 hs.imm) rfl ?_
  rintro v1 wv1 ⟨gg1, hvv1, hegg1⟩
  have hlegg1 := hegg1.le hs.imm
  replace hs := hs.call hegg1
  obtain ⟨v2, v3, rfl, hvv2, hvv3⟩ := hvv1
  obtain ⟨cs1, rfl, hcs1⟩ := hvv3
  obtain ⟨cs2, cs3, cs4, rfl, hcs2, hcs3, hcs4⟩ := hcs1
  obtain ⟨v4, rfl, hRv4⟩ := hcs2
  obtain ⟨v5, rfl, hRv5⟩ := hcs3
  obtain ⟨v6, rfl, hRv6⟩ := hcs4
  obtain ⟨cs5, rfl, hcs5⟩ := hvv2
  obtain ⟨cs6, cs7, cs8, rfl, hcs6, hcs7, hcs8⟩ := hcs5
  obtain ⟨v7, rfl, hRv7⟩ := hcs6
  obtain ⟨v8, rfl, hRv8⟩ := hcs7
  obtain ⟨v9, rfl, hRv9⟩ := hcs8
  refine O (r_move (v := .tuple #[.agg (List.toArray (α := Value) [v7, v8, v9]), .agg (List.toArray (α := Value) [v4, v5, v6])]) rfl) rfl ?_
  refine O (r_extract (vs := [.agg (List.toArray (α := Value) [v7, v8, v9]), .agg (List.toArray (α := Value) [v4, v5, v6])]) (v := .agg (List.toArray (α := Value) [v7, v8, v9])) rfl rfl) rfl ?_
  refine O (r_extract (vs := [.agg (List.toArray (α := Value) [v7, v8, v9]), .agg (List.toArray (α := Value) [v4, v5, v6])]) (v := .agg (List.toArray (α := Value) [v4, v5, v6])) rfl rfl) rfl ?_
  refine OW_alloc ti25 hs (zs := [.slice none 0 0, .slice none 0 0, .slice none 0 0]) rfl rfl ?_
  intro b1 wv2 hs
  refine OW_alloc ti25 hs (zs := [.slice none 0 0, .slice none 0 0, .slice none 0 0]) rfl rfl ?_
  intro b2 wv3 hs
  refine OW_storeAll ti25 hs (i := 1) rfl rfl (v := .agg (List.toArray (α := Value) [v7, v8, v9])) rfl (vs := [v7, v8, v9]) rfl (one_cons (by obtain ⟨_, _, h9⟩ := hRv7.shape; rw [h9]; rfl) (one_cons (by obtain ⟨_, _, h9⟩ := hRv8.shape; rw [h9]; rfl) (one_cons (by obtain ⟨_, _, h9⟩ := hRv9.shape; rw [h9]; rfl) one_nil))) rfl rfl ?_
  intro wv4 hs
  refine OW_storeAll ti25 hs (i := 0) rfl rfl (v := .agg (List.toArray (α := Value) [v4, v5, v6])) rfl (vs := [v4, v5, v6]) rfl (one_cons (by obtain ⟨_, _, h9⟩ := hRv4.shape; rw [h9]; rfl) (one_cons (by obtain ⟨_, _, h9⟩ := hRv5.shape; rw [h9]; rfl) (one_cons (by obtain ⟨_, _, h9⟩ := hRv6.shape; rw [h9]; rfl) one_nil))) rfl rfl ?_
  intro wv5 hs
  refine OW_nil ?_
  refine WP_seq ?_
  refine WP_region ?_
  refine O (r_loadN (cs := [v7, v8, v9]) ti25 rfl rfl (hs.cells (i := 1) rfl)) rfl ?_
  refine O (r_loadN (cs := [v4, v5, v6]) ti25 rfl rfl (hs.cells (i := 0) rfl)) rfl ?_
  obtain ⟨rv2, hrv2, hM⟩ := bindS hM
  refine C [.agg (List.toArray (α := Value) [v7, v8, v9]), .agg (List.toArray (α := Value) [v4, v5, v6])] cf17 rfl (dfa_Difference_ok hrv2 hs.imm (⟨[v7], [v8], [v9], rfl, ⟨_, rfl, hRv7⟩, ⟨_, rfl, hRv8⟩, ⟨_, rfl, hRv9⟩⟩) (⟨[v4], [v5], [v6], rfl, ⟨_, rfl, hRv4⟩, ⟨_, rfl, hRv5⟩, ⟨_, rfl, hRv6⟩⟩)) rfl ?_
  rintro v10 wv6 ⟨gg2, hvv10, hegg2⟩
  have hlegg2 := hegg2.le hs.imm
  replace hs := hs.call hegg2
  replace hRv4 := hRv4.mono hlegg2
  replace hRv5 := hRv5.mono hlegg2
  replace hRv6 := hRv6.mono hlegg2
  replace hRv7 := hRv7.mono hlegg2
  replace hRv8 := hRv8.mono hlegg2
  replace hRv9 := hRv9.mono hlegg2
  obtain ⟨v11, v12, rfl, hvv11, hvv12⟩ := hvv10
  obtain ⟨cs9, rfl, hcs9⟩ := hvv12
  have hcs9 : cs9 = _ := hcs9; subst hcs9
  obtain ⟨cs10, rfl, hcs10⟩ := hvv11
  have hcs10 : cs10 = _ := hcs10; subst hcs10
  refine O (r_move (v := .tuple #[encS rv2.1, .bool rv2.2]) rfl) rfl ?_
  refine O (r_extract (vs := [encS rv2.1, .bool rv2.2]) (v := encS rv2.1) rfl rfl) rfl ?_
  refine O (r_extract (vs := [encS rv2.1, .bool rv2.2]) (v := .bool rv2.2) rfl rfl) rfl ?_
  refine O (r_assign (v := encS rv2.1) rfl) rfl ?_
  refine O (r_assign (v := .bool rv2.2) rfl) rfl ?_
  refine OW_nil ?_
  obtain ⟨⟨xv1, xv2⟩, hx1, hKhx1⟩ := bindS hM
  refine WP_cut (fun E w => ∃ (gg90 : Hp), E 1 = .pointer (some ⟨b1, 0, none⟩) ∧ E 2 = .pointer (some ⟨b2, 0, none⟩) ∧ E 4 = .bool rv2.2 ∧ E 5 = encS xv1 ∧ E 6 = .bool xv2 ∧ Hle gg2 gg90 ∧ Go.Lx.Sep g0 w0 gg90 w [Go.Lx.box b2 25 ([v4, v5, v6]), Go.Lx.box b1 25 ([v7, v8, v9])]) ?_ ?_
  · have hM := hx1
    have hagg2 := Hle.refl gg2
    obtain ⟨rv5, hrv5, hM⟩ := bindS hM
    obtain ⟨rv6, hrv6, hM⟩ := bindS hM
    refine WP_any (.q 0 (.c 1 (.c 2 (.c 3 (.s 4 (.q 5 (.s 6 (.q 7 (.q 8 (.q 9 (.q 10 (.q 11 (.leaf))))))))) (.c 4 (.s 3 (.q 5 (.s 6 (.q 7 (.q 8 (.q 9 (.q 10 (.q 11 (.leaf))))))))) (.n))) (.c 4 (.s 2 (.s 3 (.q 5 (.s 6 (.q 7 (.q 8 (.q 9 (.q 10 (.q 11 (.leaf)))))))))) (.n))) (.c 2 (.c 1 (.c 3 (.s 4 (.q 5 (.s 6 (.q 7 (.q 8 (.q 9 (.q 10 (.q 11 (.leaf))))))))) (.c 4 (.s 3 (.q 5 (.s 6 (.q 7 (.q 8 (.q 9 (.q 10 (.q 11 (.leaf))))))))) (.n))) (.c 3 (.c 1 (.s 4 (.q 5 (.s 6 (.q 7 (.q 8 (.q 9 (.q 10 (.q 11 (.leaf))))))))) (.c 4 (.s 1 (.q 5 (.s 6 (.q 7 (.q 8 (.q 9 (.q 10 (.q 11 (.leaf))))))))) (.n))) (.c 4 (.c 1 (.s 3 (.q 5 (.s 6 (.q 7 (.q 8 (.q 9 (.q 10 (.q 11 (.leaf))))))))) (.c 3 (.s 1 (.q 5 (.s 6 (.q 7 (.q 8 (.q 9 (.q 10 (.q 11 (.leaf))))))))) (.n))) (.n)))) (.c 4 (.c 1 (.s 2 (.s 3 (.q 5 (.s 6 (.q 7 (.q 8 (.q 9 (.q 10 (.q 11 (.leaf)))))))))) (.c 2 (.c 1 (.s 3 (.q 5 (.s 6 (.q 7 (.q 8 (.q 9 (.q 10 (.q 11 (.leaf))))))))) (.c 3 (.s 1 (.q 5 (.s 6 (.q 7 (.q 8 (.q 9 (.q 10 (.q 11 (.leaf))))))))) (.n))) (.n))) (.n))))) (SS g0 w0 gg2 [Go.Lx.box b2 25 ([v4, v5, v6]), Go.Lx.box b1 25 ([v7, v8, v9])]) mo (by decide +kernel) (fun _ _ _ h => h) ?_
    have hs := hs.drew
    have hRv4b := hRv4
    have hRv5b := hRv5
    have hRv6b := hRv6
    have hRv7b := hRv7
    have hRv8b := hRv8
    have hRv9b := hRv9
    have hS : SS g0 w0 gg2 [Go.Lx.box b2 25 ([v4, v5, v6]), Go.Lx.box b1 25 ([v7, v8, v9])] _ := ⟨gg2, Hle.refl _, hs⟩
    refine A rfl hS (fun w9 h9 => by obtain ⟨g9, hle9, hs⟩ := h9; exact r_loadN (cs := [v7, v8, v9]) ti25 rfl rfl (hs.cells (i := 1) rfl)) rfl ?_
    refine A2 rfl ?_ ?_
    · refine C [.int .u8 97] cf25 rfl (law10_class_ok hrv5 hs.imm) rfl ?_
      rintro v97 wv63 ⟨gg98, xs43, hvv97, hegg98⟩
      have hlegg98 := hegg98.ext.le hs.imm
      replace hs := hs.callOwn hegg98
      simp only [List.cons_append, List.nil_append] at hs
      replace hRv4 := hRv4.mono hlegg98
      replace hRv5 := hRv5.mono hlegg98
      replace hRv6 := hRv6.mono hlegg98
      replace hRv7 := hRv7.mono hlegg98
      replace hRv8 := hRv8.mono hlegg98
      replace hRv9 := hRv9.mono hlegg98
      replace hagg2 := hagg2.trans hlegg98
      refine OW_nil ?_
      have hS : SS g0 w0 gg2 [Go.Lx.box b2 25 ([v4, v5, v6]), Go.Lx.box b1 25 ([v7, v8, v9])] _ := ⟨gg98, hagg2, (hs.sub (.cons _ (.cons_cons _ (.cons_cons _ .slnil))))⟩
      refine ⟨fun _ => hS, ?_⟩
      refine A2 rfl ?_ ?_
      · refine OW_lit (τ := (tInt .i64)) [.int .i64 (-1), .int .i64 (-1)] [(-1), (-1)] Try.underlying22 ti3 (by decide) hs rfl rfl rfl ⟨rfl, rfl, trivial⟩ rfl ?_
        intro v98 wv64 xs44 hrelxs44 hs
        refine OW_nil ?_
        have hS : SS g0 w0 gg2 [Go.Lx.box b2 25 ([v4, v5, v6]), Go.Lx.box b1 25 ([v7, v8, v9])] _ := ⟨gg98, hagg2, (hs.sub (.cons _ (.cons _ (.cons_cons _ (.cons_cons _ .slnil)))))⟩
        refine ⟨fun _ => hS, ?_⟩
        refine A2 rfl ?_ ?_
        · obtain ⟨gg99, hlegg99, hRgg99, hs⟩ := hs.relRow (i := 0) rfl hrelxs44
          replace hRv4 := hRv4.mono hlegg99
          replace hRv5 := hRv5.mono hlegg99
          replace hRv6 := hRv6.mono hlegg99
          replace hRv7 := hRv7.mono hlegg99
          replace hRv8 := hRv8.mono hlegg99
          replace hRv9 := hRv9.mono hlegg99
          replace hvv97 := hvv97.mono hlegg99
          replace hagg2 := hagg2.trans hlegg99
          refine OW_lit (τ := (tSl (tInt .i64))) [v98] [[(-1), (-1)]] Try.underlying23 ti22 (by decide) hs rfl rfl rfl ⟨⟨v98, cells_one (by obtain ⟨_, _, h9⟩ := hRgg99.shape; rw [h9]; rfl), hRgg99⟩, trivial⟩ rfl ?_
          intro v99 wv65 xs45 hrelxs45 hs
          refine OW_nil ?_
          have hS : SS g0 w0 gg2 [Go.Lx.box b2 25 ([v4, v5, v6]), Go.Lx.box b1 25 ([v7, v8, v9])] _ := ⟨gg99, hagg2, (hs.sub (.cons _ (.cons _ (.cons_cons _ (.cons_cons _ .slnil)))))⟩
          refine ⟨fun _ => hS, ?_⟩
          refine A1 rfl ?_
          refine OW_lit (τ := (tInt .i64)) [.int .i64 (-1)] [(-1)] Try.underlying22 ti3 (by decide) hs rfl rfl rfl ⟨rfl, trivial⟩ rfl ?_
          intro v100 wv66 xs46 hrelxs46 hs
          refine OW_nil ?_
          have hS : SS g0 w0 gg2 [Go.Lx.box b2 25 ([v4, v5, v6]), Go.Lx.box b1 25 ([v7, v8, v9])] _ := ⟨gg99, hagg2, (hs.sub (.cons _ (.cons _ (.cons _ (.cons_cons _ (.cons_cons _ .slnil))))))⟩
          refine ⟨fun _ => hS, ?_⟩
          have ho43 := one_of_shape (hs.rowShape (i := 2) rfl)
          have ho44 := one_of_shape (hs.rowShape (i := 1) rfl)
          have ho45 := one_of_shape (hs.rowShape (i := 0) rfl)
          refine A rfl hS (fun w9 h9 => by obtain ⟨g9, hle9, hs⟩ := h9; exact r_build (vs := [(0, v97), (1, v99), (2, v100)]) (cs := [v97, v99, v100]) rfl (built_fill [(0, 1), (1, 1), (2, 1)] [.slice none 0 0, .slice none 0 0, .slice none 0 0] (fun _ => by kernel_rfl) (fill_step ([]) ([.slice none 0 0]) ([.slice none 0 0, .slice none 0 0]) ([v97]) rfl rfl (cells_one ho43) rfl rfl rfl <| fill_step ([v97]) ([.slice none 0 0]) ([.slice none 0 0]) ([v99]) rfl rfl (cells_one ho44) rfl rfl rfl <| fill_step ([v97, v99]) ([.slice none 0 0]) ([]) ([v100]) rfl rfl (cells_one ho45) rfl rfl rfl <| fill_done))) rfl ?_
          refine A1 rfl ?_
          have hsL15 := hs
          have hRv4L15 := hRv4
          have hRv5L15 := hRv5
          have hRv6L15 := hRv6
          have hRv7L15 := hRv7
          have hRv8L15 := hRv8
          have hRv9L15 := hRv9
          have hvv97L15 := hvv97
          have hRgg99L15 := hRgg99
          have hrelxs45L15 := hrelxs45
          have hrelxs46L15 := hrelxs46
          have hagg2L15 := hagg2
          obtain ⟨gg100, hlegg100, hRgg100, hs⟩ := hs.relRow (i := 2) rfl hvv97
          replace hRv4 := hRv4.mono hlegg100
          replace hRv5 := hRv5.mono hlegg100
          replace hRv6 := hRv6.mono hlegg100
          replace hRv7 := hRv7.mono hlegg100
          replace hRv8 := hRv8.mono hlegg100
          replace hRv9 := hRv9.mono hlegg100
          replace hRgg99 := hRgg99.mono hlegg100
          replace hrelxs45 := hrelxs45.mono hlegg100
          replace hrelxs46 := hrelxs46.mono hlegg100
          replace hagg2 := hagg2.trans hlegg100
          obtain ⟨gg101, hlegg101, hRgg101, hs⟩ := hs.relRow (i := 1) rfl hrelxs45
          replace hRv4 := hRv4.mono hlegg101
          replace hRv5 := hRv5.mono hlegg101
          replace hRv6 := hRv6.mono hlegg101
          replace hRv7 := hRv7.mono hlegg101
          replace hRv8 := hRv8.mono hlegg101
          replace hRv9 := hRv9.mono hlegg101
          replace hRgg99 := hRgg99.mono hlegg101
          replace hrelxs46 := hrelxs46.mono hlegg101
          replace hRgg100 := hRgg100.mono hlegg101
          replace hagg2 := hagg2.trans hlegg101
          obtain ⟨gg102, hlegg102, hRgg102, hs⟩ := hs.relRow (i := 0) rfl hrelxs46
          replace hRv4 := hRv4.mono hlegg102
          replace hRv5 := hRv5.mono hlegg102
          replace hRv6 := hRv6.mono hlegg102
          replace hRv7 := hRv7.mono hlegg102
          replace hRv8 := hRv8.mono hlegg102
          replace hRv9 := hRv9.mono hlegg102
          replace hRgg99 := hRgg99.mono hlegg102
          replace hRgg100 := hRgg100.mono hlegg102
          replace hRgg101 := hRgg101.mono hlegg102
          replace hagg2 := hagg2.trans hlegg102
          refine C [.agg (List.toArray (α := Value) [v7, v8, v9]), .agg (List.toArray (α := Value) [v97, v99, v100])] cf17 rfl (dfa_Difference_ok hrv6 hs.imm (⟨[v7], [v8], [v9], rfl, ⟨_, rfl, hRv7⟩, ⟨_, rfl, hRv8⟩, ⟨_, rfl, hRv9⟩⟩) (⟨[v97], [v99], [v100], rfl, ⟨_, rfl, hRgg100⟩, ⟨_, rfl, hRgg101⟩, ⟨_, rfl, hRgg102⟩⟩)) rfl ?_
          rintro v101 wv67 ⟨gg103, hvv101, hegg103⟩
          obtain ⟨gg104, hlegg104, hs⟩ := hsL15.lent hegg103
          replace hRv4 := hRv4L15.mono hlegg104
          replace hRv5 := hRv5L15.mono hlegg104
          replace hRv6 := hRv6L15.mono hlegg104
          replace hRv7 := hRv7L15.mono hlegg104
          replace hRv8 := hRv8L15.mono hlegg104
          replace hRv9 := hRv9L15.mono hlegg104
          replace hvv97 := hvv97L15.mono hlegg104
          replace hRgg99 := hRgg99L15.mono hlegg104
          replace hrelxs45 := hrelxs45L15.mono hlegg104
          replace hrelxs46 := hrelxs46L15.mono hlegg104
          replace hagg2 := hagg2L15.trans hlegg104
          obtain ⟨v102, v103, rfl, hvv102, hvv103⟩ := hvv101
          obtain ⟨cs39, rfl, hcs39⟩ := hvv103
          have hcs39 : cs39 = _ := hcs39; subst hcs39
          obtain ⟨cs40, rfl, hcs40⟩ := hvv102
          have hcs40 : cs40 = _ := hcs40; subst hcs40
          refine OW_nil ?_
          have hS : SS g0 w0 gg2 [Go.Lx.box b2 25 ([v4, v5, v6]), Go.Lx.box b1 25 ([v7, v8, v9])] _ := ⟨gg104, hagg2, (hs.sub (.cons _ (.cons _ (.cons _ (.cons_cons _ (.cons_cons _ .slnil))))))⟩
          refine ⟨fun _ => hS, ?_⟩
          refine A rfl hS (fun w9 h9 => by obtain ⟨g9, hle9, hs⟩ := h9; exact r_move (v := .tuple #[encS rv6.1, .bool rv6.2]) rfl) rfl ?_
          refine A rfl hS (fun w9 h9 => by obtain ⟨g9, hle9, hs⟩ := h9; exact r_extract (vs := [encS rv6.1, .bool rv6.2]) (v := encS rv6.1) rfl rfl) rfl ?_
          refine A rfl hS (fun w9 h9 => by obtain ⟨g9, hle9, hs⟩ := h9; exact r_extract (vs := [encS rv6.1, .bool rv6.2]) (v := .bool rv6.2) rfl rfl) rfl ?_
          refine A rfl hS (fun w9 h9 => by obtain ⟨g9, hle9, hs⟩ := h9; exact r_assign (v := encS rv6.1) rfl) rfl ?_
          refine A rfl hS (fun w9 h9 => by obtain ⟨g9, hle9, hs⟩ := h9; exact r_assign (v := .bool rv6.2) rfl) rfl ?_
          refine AN ?_
          simp only [Option.some.injEq, Prod.mk.injEq] at hM
          obtain ⟨rfl, rfl⟩ := hM
          exact ⟨gg104, rfl, rfl, rfl, rfl, rfl, hagg2, (hs.sub (.cons _ (.cons _ (.cons _ (.cons_cons _ (.cons_cons _ .slnil))))))⟩
        refine A2 rfl ?_ ?_
        · refine OW_lit (τ := (tInt .i64)) [.int .i64 (-1)] [(-1)] Try.underlying22 ti3 (by decide) hs rfl rfl rfl ⟨rfl, trivial⟩ rfl ?_
          intro v104 wv68 xs47 hrelxs47 hs
          refine OW_nil ?_
          have hS : SS g0 w0 gg2 [Go.Lx.box b2 25 ([v4, v5, v6]), Go.Lx.box b1 25 ([v7, v8, v9])] _ := ⟨gg98, hagg2, (hs.sub (.cons _ (.cons _ (.cons _ (.cons_cons _ (.cons_cons _ .slnil))))))⟩
          refine ⟨fun _ => hS, ?_⟩
          refine A1 rfl ?_
          obtain ⟨gg105, hlegg105, hRgg105, hs⟩ := hs.relRow (i := 1) rfl hrelxs44
          replace hRv4 := hRv4.mono hlegg105
          replace hRv5 := hRv5.mono hlegg105
          replace hRv6 := hRv6.mono hlegg105
          replace hRv7 := hRv7.mono hlegg105
          replace hRv8 := hRv8.mono hlegg105
          replace hRv9 := hRv9.mono hlegg105
          replace hvv97 := hvv97.mono hlegg105
          replace hrelxs47 := hrelxs47.mono hlegg105
          replace hagg2 := hagg2.trans hlegg105
          refine OW_lit (τ := (tSl (tInt .i64))) [v98] [[(-1), (-1)]] Try.underlying23 ti22 (by decide) hs rfl rfl rfl ⟨⟨v98, cells_one (by obtain ⟨_, _, h9⟩ := hRgg105.shape; rw [h9]; rfl), hRgg105⟩, trivial⟩ rfl ?_
          intro v105 wv69 xs48 hrelxs48 hs
          refine OW_nil ?_
          have hS : SS g0 w0 gg2 [Go.Lx.box b2 25 ([v4, v5, v6]), Go.Lx.box b1 25 ([v7, v8, v9])] _ := ⟨gg105, hagg2, (hs.sub (.cons _ (.cons _ (.cons _ (.cons_cons _ (.cons_cons _ .slnil))))))⟩
          refine ⟨fun _ => hS, ?_⟩
          have ho46 := one_of_shape (hs.rowShape (i := 2) rfl)
          have ho47 := one_of_shape (hs.rowShape (i := 0) rfl)
          have ho48 := one_of_shape (hs.rowShape (i := 1) rfl)
          refine A rfl hS (fun w9 h9 => by obtain ⟨g9, hle9, hs⟩ := h9; exact r_build (vs := [(0, v97), (1, v105), (2, v104)]) (cs := [v97, v105, v104]) rfl (built_fill [(0, 1), (1, 1), (2, 1)] [.slice none 0 0, .slice none 0 0, .slice none 0 0] (fun _ => by kernel_rfl) (fill_step ([]) ([.slice none 0 0]) ([.slice none 0 0, .slice none 0 0]) ([v97]) rfl rfl (cells_one ho46) rfl rfl rfl <| fill_step ([v97]) ([.slice none 0 0]) ([.slice none 0 0]) ([v105]) rfl rfl (cells_one ho47) rfl rfl rfl <| fill_step ([v97, v105]) ([.slice none 0 0]) ([]) ([v104]) rfl rfl (cells_one ho48) rfl rfl rfl <| fill_done))) rfl ?_
          refine A1 rfl ?_
          have hsL16 := hs
          have hRv4L16 := hRv4
          have hRv5L16 := hRv5
          have hRv6L16 := hRv6
          have hRv7L16 := hRv7
          have hRv8L16 := hRv8
          have hRv9L16 := hRv9
          have hvv97L16 := hvv97
          have hrelxs47L16 := hrelxs47
          have hRgg105L16 := hRgg105
          have hrelxs48L16 := hrelxs48
          have hagg2L16 := hagg2
          obtain ⟨gg106, hlegg106, hRgg106, hs⟩ := hs.relRow (i := 2) rfl hvv97
          replace hRv4 := hRv4.mono hlegg106
          replace hRv5 := hRv5.mono hlegg106
          replace hRv6 := hRv6.mono hlegg106
          replace hRv7 := hRv7.mono hlegg106
          replace hRv8 := hRv8.mono hlegg106
          replace hRv9 := hRv9.mono hlegg106
          replace hrelxs47 := hrelxs47.mono hlegg106
          replace hRgg105 := hRgg105.mono hlegg106
          replace hrelxs48 := hrelxs48.mono hlegg106
          replace hagg2 := hagg2.trans hlegg106
          obtain ⟨gg107, hlegg107, hRgg107, hs⟩ := hs.relRow (i := 0) rfl hrelxs48
          replace hRv4 := hRv4.mono hlegg107
          replace hRv5 := hRv5.mono hlegg107
          replace hRv6 := hRv6.mono hlegg107
          replace hRv7 := hRv7.mono hlegg107
          replace hRv8 := hRv8.mono hlegg107
          replace hRv9 := hRv9.mono hlegg107
          replace hrelxs47 := hrelxs47.mono hlegg107
          replace hRgg105 := hRgg105.mono hlegg107
          replace hRgg106 := hRgg106.mono hlegg107
          replace hagg2 := hagg2.trans hlegg107
          obtain ⟨gg108, hlegg108, hRgg108, hs⟩ := hs.relRow (i := 0) rfl hrelxs47
          replace hRv4 := hRv4.mono hlegg108
          replace hRv5 := hRv5.mono hlegg108
          replace hRv6 := hRv6.mono hlegg108
          replace hRv7 := hRv7.mono hlegg108
          replace hRv8 := hRv8.mono hlegg108
          replace hRv9 := hRv9.mono hlegg108
          replace hRgg105 := hRgg105.mono hlegg108
          replace hRgg106 := hRgg106.mono hlegg108
          replace hRgg107 := hRgg107.mono hlegg108
          replace hagg2 := hagg2.trans hlegg108
          refine C [.agg (List.toArray (α := Value) [v7, v8, v9]), .agg (List.toArray (α := Value) [v97, v105, v104])] cf17 rfl (dfa_Difference_ok hrv6 hs.imm (⟨[v7], [v8], [v9], rfl, ⟨_, rfl, hRv7⟩, ⟨_, rfl, hRv8⟩, ⟨_, rfl, hRv9⟩⟩) (⟨[v97], [v105], [v104], rfl, ⟨_, rfl, hRgg106⟩, ⟨_, rfl, hRgg107⟩, ⟨_, rfl, hRgg108⟩⟩)) rfl ?_
          rintro v106 wv70 ⟨gg109, hvv106, hegg109⟩
          obtain ⟨gg110, hlegg110, hs⟩ := hsL16.lent hegg109
          replace hRv4 := hRv4L16.mono hlegg110
          replace hRv5 := hRv5L16.mono hlegg110
          replace hRv6 := hRv6L16.mono hlegg110
          replace hRv7 := hRv7L16.mono hlegg110
          replace hRv8 := hRv8L16.mono hlegg110
          replace hRv9 := hRv9L16.mono hlegg110
          replace hvv97 := hvv97L16.mono hlegg110
          replace hrelxs47 := hrelxs47L16.mono hlegg110
          replace hRgg105 := hRgg105L16.mono hlegg110
          replace hrelxs48 := hrelxs48L16.mono hlegg110
          replace hagg2 := hagg2L16.trans hlegg110
          obtain ⟨v107, v108, rfl, hvv107, hvv108⟩ := hvv106
          obtain ⟨cs41, rfl, hcs41⟩ := hvv108
          have hcs41 : cs41 = _ := hcs41; subst hcs41
          obtain ⟨cs42, rfl, hcs42⟩ := hvv107
          have hcs42 : cs42 = _ := hcs42; subst hcs42
          refine OW_nil ?_
          have hS : SS g0 w0 gg2 [Go.Lx.box b2 25 ([v4, v5, v6]), Go.Lx.box b1 25 ([v7, v8, v9])] _ := ⟨gg110, hagg2, (hs.sub (.cons _ (.cons _ (.cons _ (.cons_cons _ (.cons_cons _ .slnil))))))⟩
          refine ⟨fun _ => hS, ?_⟩
          refine A rfl hS (fun w9 h9 => by obtain ⟨g9, hle9, hs⟩ := h9; exact r_move (v := .tuple #[encS rv6.1, .bool rv6.2]) rfl) rfl ?_
          refine A rfl hS (fun w9 h9 => by obtain ⟨g9, hle9, hs⟩ := h9; exact r_extract (vs := [encS rv6.1, .bool rv6.2]) (v := encS rv6.1) rfl rfl) rfl ?_
          refine A rfl hS (fun w9 h9 => by obtain ⟨g9, hle9, hs⟩ := h9; exact r_extract (vs := [encS rv6.1, .bool rv6.2]) (v := .bool rv6.2) rfl rfl) rfl ?_
          refine A rfl hS (fun w9 h9 => by obtain ⟨g9, hle9, hs⟩ := h9; exact r_assign (v := encS rv6.1) rfl) rfl ?_
          refine A rfl hS (fun w9 h9 => by obtain ⟨g9, hle9, hs⟩ := h9; exact r_assign (v := .bool rv6.2) rfl) rfl ?_
          refine AN ?_
          simp only [Option.some.injEq, Prod.mk.injEq] at hM
          obtain ⟨rfl, rfl⟩ := hM
          exact ⟨gg110, rfl, rfl, rfl, rfl, rfl, hagg2, (hs.sub (.cons _ (.cons _ (.cons _ (.cons_cons _ (.cons_cons _ .slnil))))))⟩
        trivial
      refine A2 rfl ?_ ?_
      · refine OW_lit (τ := (tInt .i64)) [.int .i64 (-1)] [(-1)] Try.underlying22 ti3 (by decide) hs rfl rfl rfl ⟨rfl, trivial⟩ rfl ?_
        intro v109 wv71 xs49 hrelxs49 hs
        refine OW_nil ?_
        have hS : SS g0 w0 gg2 [Go.Lx.box b2 25 ([v4, v5, v6]), Go.Lx.box b1 25 ([v7, v8, v9])] _ := ⟨gg98, hagg2, (hs.sub (.cons _ (.cons _ (.cons_cons _ (.cons_cons _ .slnil)))))⟩
        refine ⟨fun _ => hS, ?_⟩
        refine A1 rfl ?_
        refine OW_lit (τ := (tInt .i64)) [.int .i64 (-1), .int .i64 (-1)] [(-1), (-1)] Try.underlying22 ti3 (by decide) hs rfl rfl rfl ⟨rfl, rfl, trivial⟩ rfl ?_
        intro v110 wv72 xs50 hrelxs50 hs
        refine OW_nil ?_
        have hS : SS g0 w0 gg2 [Go.Lx.box b2 25 ([v4, v5, v6]), Go.Lx.box b1 25 ([v7, v8, v9])] _ := ⟨gg98, hagg2, (hs.sub (.cons _ (.cons _ (.cons _ (.cons_cons _ (.cons_cons _ .slnil))))))⟩
        refine ⟨fun _ => hS, ?_⟩
        refine A1 rfl ?_
        obtain ⟨gg111, hlegg111, hRgg111, hs⟩ := hs.relRow (i := 0) rfl hrelxs50
        replace hRv4 := hRv4.mono hlegg111
        replace hRv5 := hRv5.mono hlegg111
        replace hRv6 := hRv6.mono hlegg111
        replace hRv7 := hRv7.mono hlegg111
        replace hRv8 := hRv8.mono hlegg111
        replace hRv9 := hRv9.mono hlegg111
        replace hvv97 := hvv97.mono hlegg111
        replace hrelxs49 := hrelxs49.mono hlegg111
        replace hagg2 := hagg2.trans hlegg111
        refine OW_lit (τ := (tSl (tInt .i64))) [v110] [[(-1), (-1)]] Try.underlying23 ti22 (by decide) hs rfl rfl rfl ⟨⟨v110, cells_one (by obtain ⟨_, _, h9⟩ := hRgg111.shape; rw [h9]; rfl), hRgg111⟩, trivial⟩ rfl ?_
        intro v111 wv73 xs51 hrelxs51 hs
        refine OW_nil ?_
        have hS : SS g0 w0 gg2 [Go.Lx.box b2 25 ([v4, v5, v6]), Go.Lx.box b1 25 ([v7, v8, v9])] _ := ⟨gg111, hagg2, (hs.sub (.cons _ (.cons _ (.cons _ (.cons_cons _ (.cons_cons _ .slnil))))))⟩
        refine ⟨fun _ => hS, ?_⟩
        have ho49 := one_of_shape (hs.rowShape (i := 2) rfl)
        have ho50 := one_of_shape (hs.rowShape (i := 0) rfl)
        have ho51 := one_of_shape (hs.rowShape (i := 1) rfl)
        refine A rfl hS (fun w9 h9 => by obtain ⟨g9, hle9, hs⟩ := h9; exact r_build (vs := [(0, v97), (1, v111), (2, v109)]) (cs := [v97, v111, v109]) rfl (built_fill [(0, 1), (1, 1), (2, 1)] [.slice none 0 0, .slice none 0 0, .slice none 0 0] (fun _ => by kernel_rfl) (fill_step ([]) ([.slice none 0 0]) ([.slice none 0 0, .slice none 0 0]) ([v97]) rfl rfl (cells_one ho49) rfl rfl rfl <| fill_step ([v97]) ([.slice none 0 0]) ([.slice none 0 0]) ([v111]) rfl rfl (cells_one ho50) rfl rfl rfl <| fill_step ([v97, v111]) ([.slice none 0 0]) ([]) ([v109]) rfl rfl (cells_one ho51) rfl rfl rfl <| fill_done))) rfl ?_
        refine A1 rfl ?_
        have hsL17 := hs
        have hRv4L17 := hRv4
        have hRv5L17 := hRv5
        have hRv6L17 := hRv6
        have hRv7L17 := hRv7
        have hRv8L17 := hRv8
        have hRv9L17 := hRv9
        have hvv97L17 := hvv97
        have hrelxs49L17 := hrelxs49
        have hRgg111L17 := hRgg111
        have hrelxs51L17 := hrelxs51
        have hagg2L17 := hagg2
        obtain ⟨gg112, hlegg112, hRgg112, hs⟩ := hs.relRow (i := 2) rfl hvv97
        replace hRv4 := hRv4.mono hlegg112
        replace hRv5 := hRv5.mono hlegg112
        replace hRv6 := hRv6.mono hlegg112
        replace hRv7 := hRv7.mono hlegg112
        replace hRv8 := hRv8.mono hlegg112
        replace hRv9 := hRv9.mono hlegg112
        replace hrelxs49 := hrelxs49.mono hlegg112
        replace hRgg111 := hRgg111.mono hlegg112
        replace hrelxs51 := hrelxs51.mono hlegg112
        replace hagg2 := hagg2.trans hlegg112
        obtain ⟨gg113, hlegg113, hRgg113, hs⟩ := hs.relRow (i := 0) rfl hrelxs51
        replace hRv4 := hRv4.mono hlegg113
        replace hRv5 := hRv5.mono hlegg113
        replace hRv6 := hRv6.mono hlegg113
        replace hRv7 := hRv7.mono hlegg113
        replace hRv8 := hRv8.mono hlegg113
        replace hRv9 := hRv9.mono hlegg113
        replace hrelxs49 := hrelxs49.mono hlegg113
        replace hRgg111 := hRgg111.mono hlegg113
        replace hRgg112 := hRgg112.mono hlegg113
        replace hagg2 := hagg2.trans hlegg113
        obtain ⟨gg114, hlegg114, hRgg114, hs⟩ := hs.relRow (i := 0) rfl hrelxs49
        replace hRv4 := hRv4.mono hlegg114
        replace hRv5 := hRv5.mono hlegg114
        replace hRv6 := hRv6.mono hlegg114
        replace hRv7 := hRv7.mono hlegg114
        replace hRv8 := hRv8.mono hlegg114
        replace hRv9 := hRv9.mono hlegg114
        replace hRgg111 := hRgg111.mono hlegg114
        replace hRgg112 := hRgg112.mono hlegg114
        replace hRgg113 := hRgg113.mono hlegg114
        replace hagg2 := hagg2.trans hlegg114
        refine C [.agg (List.toArray (α := Value) [v7, v8, v9]), .agg (List.toArray (α := Value) [v97, v111, v109])] cf17 rfl (dfa_Difference_ok hrv6 hs.imm (⟨[v7], [v8], [v9], rfl, ⟨_, rfl, hRv7⟩, ⟨_, rfl, hRv8⟩, ⟨_, rfl, hRv9⟩⟩) (⟨[v97], [v111], [v109], rfl, ⟨_, rfl, hRgg112⟩, ⟨_, rfl, hRgg113⟩, ⟨_, rfl, hRgg114⟩⟩)) rfl ?_
        rintro v112 wv74 ⟨gg115, hvv112, hegg115⟩
        obtain ⟨gg116, hlegg116, hs⟩ := hsL17.lent hegg115
        replace hRv4 := hRv4L17.mono hlegg116
        replace hRv5 := hRv5L17.mono hlegg116
        replace hRv6 := hRv6L17.mono hlegg116
        replace hRv7 := hRv7L17.mono hlegg116
        replace hRv8 := hRv8L17.mono hlegg116
        replace hRv9 := hRv9L17.mono hlegg116
        replace hvv97 := hvv97L17.mono hlegg116
        replace hrelxs49 := hrelxs49L17.mono hlegg116
        replace hRgg111 := hRgg111L17.mono hlegg116
        replace hrelxs51 := hrelxs51L17.mono hlegg116
        replace hagg2 := hagg2L17.trans hlegg116
        obtain ⟨v113, v114, rfl, hvv113, hvv114⟩ := hvv112
        obtain ⟨cs43, rfl, hcs43⟩ := hvv114
        have hcs43 : cs43 = _ := hcs43; subst hcs43
        obtain ⟨cs44, rfl, hcs44⟩ := hvv113
        have hcs44 : cs44 = _ := hcs44; subst hcs44
        refine OW_nil ?_
        have hS : SS g0 w0 gg2 [Go.Lx.box b2 25 ([v4, v5, v6]), Go.Lx.box b1 25 ([v7, v8, v9])] _ := ⟨gg116, hagg2, (hs.sub (.cons _ (.cons _ (.cons _ (.cons_cons _ (.cons_cons _ .slnil))))))⟩
        refine ⟨fun _ => hS, ?_⟩
        refine A rfl hS (fun w9 h9 => by obtain ⟨g9, hle9, hs⟩ := h9; exact r_move (v := .tuple #[encS rv6.1, .bool rv6.2]) rfl) rfl ?_
        refine A rfl hS (fun w9 h9 => by obtain ⟨g9, hle9, hs⟩ := h9; exact r_extract (vs := [encS rv6.1, .bool rv6.2]) (v := encS rv6.1) rfl rfl) rfl ?_
        refine A rfl hS (fun w9 h9 => by obtain ⟨g9, hle9, hs⟩ := h9; exact r_extract (vs := [encS rv6.1, .bool rv6.2]) (v := .bool rv6.2) rfl rfl) rfl ?_
        refine A rfl hS (fun w9 h9 => by obtain ⟨g9, hle9, hs⟩ := h9; exact r_assign (v := encS rv6.1) rfl) rfl ?_
        refine A rfl hS (fun w9 h9 => by obtain ⟨g9, hle9, hs⟩ := h9; exact r_assign (v := .bool rv6.2) rfl) rfl ?_
        refine AN ?_
        simp only [Option.some.injEq, Prod.mk.injEq] at hM
        obtain ⟨rfl, rfl⟩ := hM
        exact ⟨gg116, rfl, rfl, rfl, rfl, rfl, hagg2, (hs.sub (.cons _ (.cons _ (.cons _ (.cons_cons _ (.cons_cons _ .slnil))))))⟩
      trivial
    refine A2 rfl ?_ ?_
    · refine OW_lit (τ := (tInt .i64)) [.int .i64 (-1), .int .i64 (-1)] [(-1), (-1)] Try.underlying22 ti3 (by decide) hs rfl rfl rfl ⟨rfl, rfl, trivial⟩ rfl ?_
      intro v115 wv75 xs52 hrelxs52 hs
      refine OW_nil ?_
      have hS : SS g0 w0 gg2 [Go.Lx.box b2 25 ([v4, v5, v6]), Go.Lx.box b1 25 ([v7, v8, v9])] _ := ⟨gg2, (Hle.refl _), (hs.sub (.cons _ (.cons_cons _ (.cons_cons _ .slnil))))⟩
      refine ⟨fun _ => hS, ?_⟩
      refine A2 rfl ?_ ?_
      · refine C [.int .u8 97] cf25 rfl (law10_class_ok hrv5 hs.imm) rfl ?_
        rintro v116 wv76 ⟨gg117, xs53, hvv116, hegg117⟩
        have hlegg117 := hegg117.ext.le hs.imm
        replace hs := hs.callOwn hegg117
        simp only [List.cons_append, List.nil_append] at hs
        replace hRv4 := hRv4.mono hlegg117
        replace hRv5 := hRv5.mono hlegg117
        replace hRv6 := hRv6.mono hlegg117
        replace hRv7 := hRv7.mono hlegg117
        replace hRv8 := hRv8.mono hlegg117
        replace hRv9 := hRv9.mono hlegg117
        replace hrelxs52 := hrelxs52.mono hlegg117
        replace hagg2 := hagg2.trans hlegg117
        refine OW_nil ?_
        have hS : SS g0 w0 gg2 [Go.Lx.box b2 25 ([v4, v5, v6]), Go.Lx.box b1 25 ([v7, v8, v9])] _ := ⟨gg117, hagg2, (hs.sub (.cons _ (.cons _ (.cons_cons _ (.cons_cons _ .slnil)))))⟩
        refine ⟨fun _ => hS, ?_⟩
        refine A2 rfl ?_ ?_
        · obtain ⟨gg118, hlegg118, hRgg118, hs⟩ := hs.relRow (i := 1) rfl hrelxs52
          replace hRv4 := hRv4.mono hlegg118
          replace hRv5 := hRv5.mono hlegg118
          replace hRv6 := hRv6.mono hlegg118
          replace hRv7 := hRv7.mono hlegg118
          replace hRv8 := hRv8.mono hlegg118
          replace hRv9 := hRv9.mono hlegg118
          replace hvv116 := hvv116.mono hlegg118
          replace hagg2 := hagg2.trans hlegg118
          refine OW_lit (τ := (tSl (tInt .i64))) [v115] [[(-1), (-1)]] Try.underlying23 ti22 (by decide) hs rfl rfl rfl ⟨⟨v115, cells_one (by obtain ⟨_, _, h9⟩ := hRgg118.shape; rw [h9]; rfl), hRgg118⟩, trivial⟩ rfl ?_
          intro v117 wv77 xs54 hrelxs54 hs
          refine OW_nil ?_
          have hS : SS g0 w0 gg2 [Go.Lx.box b2 25 ([v4, v5, v6]), Go.Lx.box b1 25 ([v7, v8, v9])] _ := ⟨gg118, hagg2, (hs.sub (.cons _ (.cons _ (.cons_cons _ (.cons_cons _ .slnil)))))⟩
          refine ⟨fun _ => hS, ?_⟩
          refine A1 rfl ?_
          refine OW_lit (τ := (tInt .i64)) [.int .i64 (-1)] [(-1)] Try.underlying22 ti3 (by decide) hs rfl rfl rfl ⟨rfl, trivial⟩ rfl ?_
          intro v118 wv78 xs55 hrelxs55 hs
          refine OW_nil ?_
          have hS : SS g0 w0 gg2 [Go.Lx.box b2 25 ([v4, v5, v6]), Go.Lx.box b1 25 ([v7, v8, v9])] _ := ⟨gg118, hagg2, (hs.sub (.cons _ (.cons _ (.cons _ (.cons_cons _ (.cons_cons _ .slnil))))))⟩
          refine ⟨fun _ => hS, ?_⟩
          have ho52 := one_of_shape (hs.rowShape (i := 2) rfl)
          have ho53 := one_of_shape (hs.rowShape (i := 1) rfl)
          have ho54 := one_of_shape (hs.rowShape (i := 0) rfl)
          refine A rfl hS (fun w9 h9 => by obtain ⟨g9, hle9, hs⟩ := h9; exact r_build (vs := [(0, v116), (1, v117), (2, v118)]) (cs := [v116, v117, v118]) rfl (built_fill [(0, 1), (1, 1), (2, 1)] [.slice none 0 0, .slice none 0 0, .slice none 0 0] (fun _ => by kernel_rfl) (fill_step ([]) ([.slice none 0 0]) ([.slice none 0 0, .slice none 0 0]) ([v116]) rfl rfl (cells_one ho52) rfl rfl rfl <| fill_step ([v116]) ([.slice none 0 0]) ([.slice none 0 0]) ([v117]) rfl rfl (cells_one ho53) rfl rfl rfl <| fill_step ([v116, v117]) ([.slice none 0 0]) ([]) ([v118]) rfl rfl (cells_one ho54) rfl rfl rfl <| fill_done))) rfl ?_
          refine A1 rfl ?_
          have hsL18 := hs
          have hRv4L18 := hRv4
          have hRv5L18 := hRv5
          have hRv6L18 := hRv6
          have hRv7L18 := hRv7
          have hRv8L18 := hRv8
          have hRv9L18 := hRv9
          have hvv116L18 := hvv116
          have hRgg118L18 := hRgg118
          have hrelxs54L18 := hrelxs54
          have hrelxs55L18 := hrelxs55
          have hagg2L18 := hagg2
          obtain ⟨gg119, hlegg119, hRgg119, hs⟩ := hs.relRow (i := 2) rfl hvv116
          replace hRv4 := hRv4.mono hlegg119
          replace hRv5 := hRv5.mono hlegg119
          replace hRv6 := hRv6.mono hlegg119
          replace hRv7 := hRv7.mono hlegg119
          replace hRv8 := hRv8.mono hlegg119
          replace hRv9 := hRv9.mono hlegg119
          replace hRgg118 := hRgg118.mono hlegg119
          replace hrelxs54 := hrelxs54.mono hlegg119
          replace hrelxs55 := hrelxs55.mono hlegg119
          replace hagg2 := hagg2.trans hlegg119
          obtain ⟨gg120, hlegg120, hRgg120, hs⟩ := hs.relRow (i := 1) rfl hrelxs54
          replace hRv4 := hRv4.mono hlegg120
          replace hRv5 := hRv5.mono hlegg120
          replace hRv6 := hRv6.mono hlegg120
          replace hRv7 := hRv7.mono hlegg120
          replace hRv8 := hRv8.mono hlegg120
          replace hRv9 := hRv9.mono hlegg120
          replace hRgg118 := hRgg118.mono hlegg120
          replace hrelxs55 := hrelxs55.mono hlegg120
          replace hRgg119 := hRgg119.mono hlegg120
          replace hagg2 := hagg2.trans hlegg120
          obtain ⟨gg121, hlegg121, hRgg121, hs⟩ := hs.relRow (i := 0) rfl hrelxs55
          replace hRv4 := hRv4.mono hlegg121
          replace hRv5 := hRv5.mono hlegg121
          replace hRv6 := hRv6.mono hlegg121
          replace hRv7 := hRv7.mono hlegg121
          replace hRv8 := hRv8.mono hlegg121
          replace hRv9 := hRv9.mono hlegg121
          replace hRgg118 := hRgg118.mono hlegg121
          replace hRgg119 := hRgg119.mono hlegg121
          replace hRgg120 := hRgg120.mono hlegg121
          replace hagg2 := hagg2.trans hlegg121
          refine C [.agg (List.toArray (α := Value) [v7, v8, v9]), .agg (List.toArray (α := Value) [v116, v117, v118])] cf17 rfl (dfa_Difference_ok hrv6 hs.imm (⟨[v7], [v8], [v9], rfl, ⟨_, rfl, hRv7⟩, ⟨_, rfl, hRv8⟩, ⟨_, rfl, hRv9⟩⟩) (⟨[v116], [v117], [v118], rfl, ⟨_, rfl, hRgg119⟩, ⟨_, rfl, hRgg120⟩, ⟨_, rfl, hRgg121⟩⟩)) rfl ?_
          rintro v119 wv79 ⟨gg122, hvv119, hegg122⟩
          obtain ⟨gg123, hlegg123, hs⟩ := hsL18.lent hegg122
          replace hRv4 := hRv4L18.mono hlegg123
          replace hRv5 := hRv5L18.mono hlegg123
          replace hRv6 := hRv6L18.mono hlegg123
          replace hRv7 := hRv7L18.mono hlegg123
          replace hRv8 := hRv8L18.mono hlegg123
          replace hRv9 := hRv9L18.mono hlegg123
          replace hvv116 := hvv116L18.mono hlegg123
          replace hRgg118 := hRgg118L18.mono hlegg123
          replace hrelxs54 := hrelxs54L18.mono hlegg123
          replace hrelxs55 := hrelxs55L18.mono hlegg123
          replace hagg2 := hagg2L18.trans hlegg123
          obtain ⟨v120, v121, rfl, hvv120, hvv121⟩ := hvv119
          obtain ⟨cs45, rfl, hcs45⟩ := hvv121
          have hcs45 : cs45 = _ := hcs45; subst hcs45
          obtain ⟨cs46, rfl, hcs46⟩ := hvv120
          have hcs46 : cs46 = _ := hcs46; subst hcs46
          refine OW_nil ?_
          have hS : SS g0 w0 gg2 [Go.Lx.box b2 25 ([v4, v5, v6]), Go.Lx.box b1 25 ([v7, v8, v9])] _ := ⟨gg123, hagg2, (hs.sub (.cons _ (.cons _ (.cons _ (.cons_cons _ (.cons_cons _ .slnil))))))⟩
          refine ⟨fun _ => hS, ?_⟩
          refine A rfl hS (fun w9 h9 => by obtain ⟨g9, hle9, hs⟩ := h9; exact r_move (v := .tuple #[encS rv6.1, .bool rv6.2]) rfl) rfl ?_
          refine A rfl hS (fun w9 h9 => by obtain ⟨g9, hle9, hs⟩ := h9; exact r_extract (vs := [encS rv6.1, .bool rv6.2]) (v := encS rv6.1) rfl rfl) rfl ?_
          refine A rfl hS (fun w9 h9 => by obtain ⟨g9, hle9, hs⟩ := h9; exact r_extract (vs := [encS rv6.1, .bool rv6.2]) (v := .bool rv6.2) rfl rfl) rfl ?_
          refine A rfl hS (fun w9 h9 => by obtain ⟨g9, hle9, hs⟩ := h9; exact r_assign (v := encS rv6.1) rfl) rfl ?_
          refine A rfl hS (fun w9 h9 => by obtain ⟨g9, hle9, hs⟩ := h9; exact r_assign (v := .bool rv6.2) rfl) rfl ?_
          refine AN ?_
          simp only [Option.some.injEq, Prod.mk.injEq] at hM
          obtain ⟨rfl, rfl⟩ := hM
          exact ⟨gg123, rfl, rfl, rfl, rfl, rfl, hagg2, (hs.sub (.cons _ (.cons _ (.cons _ (.cons_cons _ (.cons_cons _ .slnil))))))⟩
        refine A2 rfl ?_ ?_
        · refine OW_lit (τ := (tInt .i64)) [.int .i64 (-1)] [(-1)] Try.underlying22 ti3 (by decide) hs rfl rfl rfl ⟨rfl, trivial⟩ rfl ?_
          intro v122 wv80 xs56 hrelxs56 hs
          refine OW_nil ?_
          have hS : SS g0 w0 gg2 [Go.Lx.box b2 25 ([v4, v5, v6]), Go.Lx.box b1 25 ([v7, v8, v9])] _ := ⟨gg117, hagg2, (hs.sub (.cons _ (.cons _ (.cons _ (.cons_cons _ (.cons_cons _ .slnil))))))⟩
          refine ⟨fun _ => hS, ?_⟩
          refine A1 rfl ?_
          obtain ⟨gg124, hlegg124, hRgg124, hs⟩ := hs.relRow (i := 2) rfl hrelxs52
          replace hRv4 := hRv4.mono hlegg124
          replace hRv5 := hRv5.mono hlegg124
          replace hRv6 := hRv6.mono hlegg124
          replace hRv7 := hRv7.mono hlegg124
          replace hRv8 := hRv8.mono hlegg124
          replace hRv9 := hRv9.mono hlegg124
          replace hvv116 := hvv116.mono hlegg124
          replace hrelxs56 := hrelxs56.mono hlegg124
          replace hagg2 := hagg2.trans hlegg124
          refine OW_lit (τ := (tSl (tInt .i64))) [v115] [[(-1), (-1)]] Try.underlying23 ti22 (by decide) hs rfl rfl rfl ⟨⟨v115, cells_one (by obtain ⟨_, _, h9⟩ := hRgg124.shape; rw [h9]; rfl), hRgg124⟩, trivial⟩ rfl ?_
          intro v123 wv81 xs57 hrelxs57 hs
          refine OW_nil ?_
          have hS : SS g0 w0 gg2 [Go.Lx.box b2 25 ([v4, v5, v6]), Go.Lx.box b1 25 ([v7, v8, v9])] _ := ⟨gg124, hagg2, (hs.sub (.cons _ (.cons _ (.cons _ (.cons_cons _ (.cons_cons _ .slnil))))))⟩
          refine ⟨fun _ => hS, ?_⟩
          have ho55 := one_of_shape (hs.rowShape (i := 2) rfl)
          have ho56 := one_of_shape (hs.rowShape (i := 0) rfl)
          have ho57 := one_of_shape (hs.rowShape (i := 1) rfl)
          refine A rfl hS (fun w9 h9 => by obtain ⟨g9, hle9, hs⟩ := h9; exact r_build (vs := [(0, v116), (1, v123), (2, v122)]) (cs := [v116, v123, v122]) rfl (built_fill [(0, 1), (1, 1), (2, 1)] [.slice none 0 0, .slice none 0 0, .slice none 0 0] (fun _ => by kernel_rfl) (fill_step ([]) ([.slice none 0 0]) ([.slice none 0 0, .slice none 0 0]) ([v116]) rfl rfl (cells_one ho55) rfl rfl rfl <| fill_step ([v116]) ([.slice none 0 0]) ([.slice none 0 0]) ([v123]) rfl rfl (cells_one ho56) rfl rfl rfl <| fill_step ([v116, v123]) ([.slice none 0 0]) ([]) ([v122]) rfl rfl (cells_one ho57) rfl rfl rfl <| fill_done))) rfl ?_
          refine A1 rfl ?_
          have hsL19 := hs
          have hRv4L19 := hRv4
          have hRv5L19 := hRv5
          have hRv6L19 := hRv6
          have hRv7L19 := hRv7
          have hRv8L19 := hRv8
          have hRv9L19 := hRv9
          have hvv116L19 := hvv116
          have hrelxs56L19 := hrelxs56
          have hRgg124L19 := hRgg124
          have hrelxs57L19 := hrelxs57
          have hagg2L19 := hagg2
          obtain ⟨gg125, hlegg125, hRgg125, hs⟩ := hs.relRow (i := 2) rfl hvv116
          replace hRv4 := hRv4.mono hlegg125
          replace hRv5 := hRv5.mono hlegg125
          replace hRv6 := hRv6.mono hlegg125
          replace hRv7 := hRv7.mono hlegg125
          replace hRv8 := hRv8.mono hlegg125
          replace hRv9 := hRv9.mono hlegg125
          replace hrelxs56 := hrelxs56.mono hlegg125
          replace hRgg124 := hRgg124.mono hlegg125
          replace hrelxs57 := hrelxs57.mono hlegg125
          replace hagg2 := hagg2.trans hlegg125
          obtain ⟨gg126, hlegg126, hRgg126, hs⟩ := hs.relRow (i := 0) rfl hrelxs57
          replace hRv4 := hRv4.mono hlegg126
          replace hRv5 := hRv5.mono hlegg126
          replace hRv6 := hRv6.mono hlegg126
          replace hRv7 := hRv7.mono hlegg126
          replace hRv8 := hRv8.mono hlegg126
          replace hRv9 := hRv9.mono hlegg126
          replace hrelxs56 := hrelxs56.mono hlegg126
          replace hRgg124 := hRgg124.mono hlegg126
          replace hRgg125 := hRgg125.mono hlegg126
          replace hagg2 := hagg2.trans hlegg126
          obtain ⟨gg127, hlegg127, hRgg127, hs⟩ := hs.relRow (i := 0) rfl hrelxs56
          replace hRv4 := hRv4.mono hlegg127
          replace hRv5 := hRv5.mono hlegg127
          replace hRv6 := hRv6.mono hlegg127
          replace hRv7 := hRv7.mono hlegg127
          replace hRv8 := hRv8.mono hlegg127
          replace hRv9 := hRv9.mono hlegg127
          replace hRgg124 := hRgg124.mono hlegg127
          replace hRgg125 := hRgg125.mono hlegg127
          replace hRgg126 := hRgg126.mono hlegg127
          replace hagg2 := hagg2.trans hlegg127
          refine C [.agg (List.toArray (α := Value) [v7, v8, v9]), .agg (List.toArray (α := Value) [v116, v123, v122])] cf17 rfl (dfa_Difference_ok hrv6 hs.imm (⟨[v7], [v8], [v9], rfl, ⟨_, rfl, hRv7⟩, ⟨_, rfl, hRv8⟩, ⟨_, rfl, hRv9⟩⟩) (⟨[v116], [v123], [v122], rfl, ⟨_, rfl, hRgg125⟩, ⟨_, rfl, hRgg126⟩, ⟨_, rfl, hRgg127⟩⟩)) rfl ?_
          rintro v124 wv82 ⟨gg128, hvv124, hegg128⟩
          obtain ⟨gg129, hlegg129, hs⟩ := hsL19.lent hegg128
          replace hRv4 := hRv4L19.mono hlegg129
          replace hRv5 := hRv5L19.mono hlegg129
          replace hRv6 := hRv6L19.mono hlegg129
          replace hRv7 := hRv7L19.mono hlegg129
          replace hRv8 := hRv8L19.mono hlegg129
          replace hRv9 := hRv9L19.mono hlegg129
          replace hvv116 := hvv116L19.mono hlegg129
          replace hrelxs56 := hrelxs56L19.mono hlegg129
          replace hRgg124 := hRgg124L19.mono hlegg129
          replace hrelxs57 := hrelxs57L19.mono hlegg129
          replace hagg2 := hagg2L19.trans hlegg129
          obtain ⟨v125, v126, rfl, hvv125, hvv126⟩ := hvv124
          obtain ⟨cs47, rfl, hcs47⟩ := hvv126
          have hcs47 : cs47 = _ := hcs47; subst hcs47
          obtain ⟨cs48, rfl, hcs48⟩ := hvv125
          have hcs48 : cs48 = _ := hcs48; subst hcs48
          refine OW_nil ?_
          have hS : SS g0 w0 gg2 [Go.Lx.box b2 25 ([v4, v5, v6]), Go.Lx.box b1 25 ([v7, v8, v9])] _ := ⟨gg129, hagg2, (hs.sub (.cons _ (.cons _ (.cons _ (.cons_cons _ (.cons_cons _ .slnil))))))⟩
          refine ⟨fun _ => hS, ?_⟩
          refine A rfl hS (fun w9 h9 => by obtain ⟨g9, hle9, hs⟩ := h9; exact r_move (v := .tuple #[encS rv6.1, .bool rv6.2]) rfl) rfl ?_
          refine A rfl hS (fun w9 h9 => by obtain ⟨g9, hle9, hs⟩ := h9; exact r_extract (vs := [encS rv6.1, .bool rv6.2]) (v := encS rv6.1) rfl rfl) rfl ?_
          refine A rfl hS (fun w9 h9 => by obtain ⟨g9, hle9, hs⟩ := h9; exact r_extract (vs := [encS rv6.1, .bool rv6.2]) (v := .bool rv6.2) rfl rfl) rfl ?_
          refine A rfl hS (fun w9 h9 => by obtain ⟨g9, hle9, hs⟩ := h9; exact r_assign (v := encS rv6.1) rfl) rfl ?_
          refine A rfl hS (fun w9 h9 => by obtain ⟨g9, hle9, hs⟩ := h9; exact r_assign (v := .bool rv6.2) rfl) rfl ?_
          refine AN ?_
          simp only [Option.some.injEq, Prod.mk.injEq] at hM
          obtain ⟨rfl, rfl⟩ := hM
          exact ⟨gg129, rfl, rfl, rfl, rfl, rfl, hagg2, (hs.sub (.cons _ (.cons _ (.cons _ (.cons_cons _ (.cons_cons _ .slnil))))))⟩
        trivial
      refine A2 rfl ?_ ?_
      · obtain ⟨gg130, hlegg130, hRgg130, hs⟩ := hs.relRow (i := 0) rfl hrelxs52
        replace hRv4 := hRv4.mono hlegg130
        replace hRv5 := hRv5.mono hlegg130
        replace hRv6 := hRv6.mono hlegg130
        replace hRv7 := hRv7.mono hlegg130
        replace hRv8 := hRv8.mono hlegg130
        replace hRv9 := hRv9.mono hlegg130
        replace hagg2 := hagg2.trans hlegg130
        refine OW_lit (τ := (tSl (tInt .i64))) [v115] [[(-1), (-1)]] Try.underlying23 ti22 (by decide) hs rfl rfl rfl ⟨⟨v115, cells_one (by obtain ⟨_, _, h9⟩ := hRgg130.shape; rw [h9]; rfl), hRgg130⟩, trivial⟩ rfl ?_
        intro v127 wv83 xs58 hrelxs58 hs
        refine OW_nil ?_
        have hS : SS g0 w0 gg2 [Go.Lx.box b2 25 ([v4, v5, v6]), Go.Lx.box b1 25 ([v7, v8, v9])] _ := ⟨gg130, hagg2, (hs.sub (.cons _ (.cons_cons _ (.cons_cons _ .slnil))))⟩
        refine ⟨fun _ => hS, ?_⟩
        refine A2 rfl ?_ ?_
        · refine C [.int .u8 97] cf25 rfl (law10_class_ok hrv5 hs.imm) rfl ?_
          rintro v128 wv84 ⟨gg131, xs59, hvv128, hegg131⟩
          have hlegg131 := hegg131.ext.le hs.imm
          replace hs := hs.callOwn hegg131
          simp only [List.cons_append, List.nil_append] at hs
          replace hRv4 := hRv4.mono hlegg131
          replace hRv5 := hRv5.mono hlegg131
          replace hRv6 := hRv6.mono hlegg131
          replace hRv7 := hRv7.mono hlegg131
          replace hRv8 := hRv8.mono hlegg131
          replace hRv9 := hRv9.mono hlegg131
          replace hRgg130 := hRgg130.mono hlegg131
          replace hrelxs58 := hrelxs58.mono hlegg131
          replace hagg2 := hagg2.trans hlegg131
          refine OW_nil ?_
          have hS : SS g0 w0 gg2 [Go.Lx.box b2 25 ([v4, v5, v6]), Go.Lx.box b1 25 ([v7, v8, v9])] _ := ⟨gg131, hagg2, (hs.sub (.cons _ (.cons _ (.cons_cons _ (.cons_cons _ .slnil)))))⟩
          refine ⟨fun _ => hS, ?_⟩
          refine A1 rfl ?_
          refine OW_lit (τ := (tInt .i64)) [.int .i64 (-1)] [(-1)] Try.underlying22 ti3 (by decide) hs rfl rfl rfl ⟨rfl, trivial⟩ rfl ?_
          intro v129 wv85 xs60 hrelxs60 hs
          refine OW_nil ?_
          have hS : SS g0 w0 gg2 [Go.Lx.box b2 25 ([v4, v5, v6]), Go.Lx.box b1 25 ([v7, v8, v9])] _ := ⟨gg131, hagg2, (hs.sub (.cons _ (.cons _ (.cons _ (.cons_cons _ (.cons_cons _ .slnil))))))⟩
          refine ⟨fun _ => hS, ?_⟩
          have ho58 := one_of_shape (hs.rowShape (i := 1) rfl)
          have ho59 := one_of_shape (hs.rowShape (i := 2) rfl)
          have ho60 := one_of_shape (hs.rowShape (i := 0) rfl)
          refine A rfl hS (fun w9 h9 => by obtain ⟨g9, hle9, hs⟩ := h9; exact r_build (vs := [(0, v128), (1, v127), (2, v129)]) (cs := [v128, v127, v129]) rfl (built_fill [(0, 1), (1, 1), (2, 1)] [.slice none 0 0, .slice none 0 0, .slice none 0 0] (fun _ => by kernel_rfl) (fill_step ([]) ([.slice none 0 0]) ([.slice none 0 0, .slice none 0 0]) ([v128]) rfl rfl (cells_one ho58) rfl rfl rfl <| fill_step ([v128]) ([.slice none 0 0]) ([.slice none 0 0]) ([v127]) rfl rfl (cells_one ho59) rfl rfl rfl <| fill_step ([v128, v127]) ([.slice none 0 0]) ([]) ([v129]) rfl rfl (cells_one ho60) rfl rfl rfl <| fill_done))) rfl ?_
          refine A1 rfl ?_
          have hsL20 := hs
          have hRv4L20 := hRv4
          have hRv5L20 := hRv5
          have hRv6L20 := hRv6
          have hRv7L20 := hRv7
          have hRv8L20 := hRv8
          have hRv9L20 := hRv9
          have hRgg130L20 := hRgg130
          have hrelxs58L20 := hrelxs58
          have hvv128L20 := hvv128
          have hrelxs60L20 := hrelxs60
          have hagg2L20 := hagg2
          obtain ⟨gg132, hlegg132, hRgg132, hs⟩ := hs.relRow (i := 1) rfl hvv128
          replace hRv4 := hRv4.mono hlegg132
          replace hRv5 := hRv5.mono hlegg132
          replace hRv6 := hRv6.mono hlegg132
          replace hRv7 := hRv7.mono hlegg132
          replace hRv8 := hRv8.mono hlegg132
          replace hRv9 := hRv9.mono hlegg132
          replace hRgg130 := hRgg130.mono hlegg132
          replace hrelxs58 := hrelxs58.mono hlegg132
          replace hrelxs60 := hrelxs60.mono hlegg132
          replace hagg2 := hagg2.trans hlegg132
          obtain ⟨gg133, hlegg133, hRgg133, hs⟩ := hs.relRow (i := 1) rfl hrelxs58
          replace hRv4 := hRv4.mono hlegg133
          replace hRv5 := hRv5.mono hlegg133
          replace hRv6 := hRv6.mono hlegg133
          replace hRv7 := hRv7.mono hlegg133
          replace hRv8 := hRv8.mono hlegg133
          replace hRv9 := hRv9.mono hlegg133
          replace hRgg130 := hRgg130.mono hlegg133
          replace hrelxs60 := hrelxs60.mono hlegg133
          replace hRgg132 := hRgg132.mono hlegg133
          replace hagg2 := hagg2.trans hlegg133
          obtain ⟨gg134, hlegg134, hRgg134, hs⟩ := hs.relRow (i := 0) rfl hrelxs60
          replace hRv4 := hRv4.mono hlegg134
          replace hRv5 := hRv5.mono hlegg134
          replace hRv6 := hRv6.mono hlegg134
          replace hRv7 := hRv7.mono hlegg134
          replace hRv8 := hRv8.mono hlegg134
          replace hRv9 := hRv9.mono hlegg134
          replace hRgg130 := hRgg130.mono hlegg134
          replace hRgg132 := hRgg132.mono hlegg134
          replace hRgg133 := hRgg133.mono hlegg134
          replace hagg2 := hagg2.trans hlegg134
          refine C [.agg (List.toArray (α := Value) [v7, v8, v9]), .agg (List.toArray (α := Value) [v128, v127, v129])] cf17 rfl (dfa_Difference_ok hrv6 hs.imm (⟨[v7], [v8], [v9], rfl, ⟨_, rfl, hRv7⟩, ⟨_, rfl, hRv8⟩, ⟨_, rfl, hRv9⟩⟩) (⟨[v128], [v127], [v129], rfl, ⟨_, rfl, hRgg132⟩, ⟨_, rfl, hRgg133⟩, ⟨_, rfl, hRgg134⟩⟩)) rfl ?_
          rintro v130 wv86 ⟨gg135, hvv130, hegg135⟩
          obtain ⟨gg136, hlegg136, hs⟩ := hsL20.lent hegg135
          replace hRv4 := hRv4L20.mono hlegg136
          replace hRv5 := hRv5L20.mono hlegg136
          replace hRv6 := hRv6L20.mono hlegg136
          replace hRv7 := hRv7L20.mono hlegg136
          replace hRv8 := hRv8L20.mono hlegg136
          replace hRv9 := hRv9L20.mono hlegg136
          replace hRgg130 := hRgg130L20.mono hlegg136
          replace hrelxs58 := hrelxs58L20.mono hlegg136
          replace hvv128 := hvv128L20.mono hlegg136
          replace hrelxs60 := hrelxs60L20.mono hlegg136
          replace hagg2 := hagg2L20.trans hlegg136
          obtain ⟨v131, v132, rfl, hvv131, hvv132⟩ := hvv130
          obtain ⟨cs49, rfl, hcs49⟩ := hvv132
          have hcs49 : cs49 = _ := hcs49; subst hcs49
          obtain ⟨cs50, rfl, hcs50⟩ := hvv131
          have hcs50 : cs50 = _ := hcs50; subst hcs50
          refine OW_nil ?_
          have hS : SS g0 w0 gg2 [Go.Lx.box b2 25 ([v4, v5, v6]), Go.Lx.box b1 25 ([v7, v8, v9])] _ := ⟨gg136, hagg2, (hs.sub (.cons _ (.cons _ (.cons _ (.cons_cons _ (.cons_cons _ .slnil))))))⟩
          refine ⟨fun _ => hS, ?_⟩
          refine A rfl hS (fun w9 h9 => by obtain ⟨g9, hle9, hs⟩ := h9; exact r_move (v := .tuple #[encS rv6.1, .bool rv6.2]) rfl) rfl ?_
          refine A rfl hS (fun w9 h9 => by obtain ⟨g9, hle9, hs⟩ := h9; exact r_extract (vs := [encS rv6.1, .bool rv6.2]) (v := encS rv6.1) rfl rfl) rfl ?_
          refine A rfl hS (fun w9 h9 => by obtain ⟨g9, hle9, hs⟩ := h9; exact r_extract (vs := [encS rv6.1, .bool rv6.2]) (v := .bool rv6.2) rfl rfl) rfl ?_
          refine A rfl hS (fun w9 h9 => by obtain ⟨g9, hle9, hs⟩ := h9; exact r_assign (v := encS rv6.1) rfl) rfl ?_
          refine A rfl hS (fun w9 h9 => by obtain ⟨g9, hle9, hs⟩ := h9; exact r_assign (v := .bool rv6.2) rfl) rfl ?_
          refine AN ?_
          simp only [Option.some.injEq, Prod.mk.injEq] at hM
          obtain ⟨rfl, rfl⟩ := hM
          exact ⟨gg136, rfl, rfl, rfl, rfl, rfl, hagg2, (hs.sub (.cons _ (.cons _ (.cons _ (.cons_cons _ (.cons_cons _ .slnil))))))⟩
        refine A2 rfl ?_ ?_
        · refine OW_lit (τ := (tInt .i64)) [.int .i64 (-1)] [(-1)] Try.underlying22 ti3 (by decide) hs rfl rfl rfl ⟨rfl, trivial⟩ rfl ?_
          intro v133 wv87 xs61 hrelxs61 hs
          refine OW_nil ?_
          have hS : SS g0 w0 gg2 [Go.Lx.box b2 25 ([v4, v5, v6]), Go.Lx.box b1 25 ([v7, v8, v9])] _ := ⟨gg130, hagg2, (hs.sub (.cons _ (.cons _ (.cons_cons _ (.cons_cons _ .slnil)))))⟩
          refine ⟨fun _ => hS, ?_⟩
          refine A1 rfl ?_
          refine C [.int .u8 97] cf25 rfl (law10_class_ok hrv5 hs.imm) rfl ?_
          rintro v134 wv88 ⟨gg137, xs62, hvv134, hegg137⟩
          have hlegg137 := hegg137.ext.le hs.imm
          replace hs := hs.callOwn hegg137
          simp only [List.cons_append, List.nil_append] at hs
          replace hRv4 := hRv4.mono hlegg137
          replace hRv5 := hRv5.mono hlegg137
          replace hRv6 := hRv6.mono hlegg137
          replace hRv7 := hRv7.mono hlegg137
          replace hRv8 := hRv8.mono hlegg137
          replace hRv9 := hRv9.mono hlegg137
          replace hRgg130 := hRgg130.mono hlegg137
          replace hrelxs58 := hrelxs58.mono hlegg137
          replace hrelxs61 := hrelxs61.mono hlegg137
          replace hagg2 := hagg2.trans hlegg137
          refine OW_nil ?_
          have hS : SS g0 w0 gg2 [Go.Lx.box b2 25 ([v4, v5, v6]), Go.Lx.box b1 25 ([v7, v8, v9])] _ := ⟨gg137, hagg2, (hs.sub (.cons _ (.cons _ (.cons _ (.cons_cons _ (.cons_cons _ .slnil))))))⟩
          refine ⟨fun _ => hS, ?_⟩
          have ho61 := one_of_shape (hs.rowShape (i := 0) rfl)
          have ho62 := one_of_shape (hs.rowShape (i := 2) rfl)
          have ho63 := one_of_shape (hs.rowShape (i := 1) rfl)
          refine A rfl hS (fun w9 h9 => by obtain ⟨g9, hle9, hs⟩ := h9; exact r_build (vs := [(0, v134), (1, v127), (2, v133)]) (cs := [v134, v127, v133]) rfl (built_fill [(0, 1), (1, 1), (2, 1)] [.slice none 0 0, .slice none 0 0, .slice none 0 0] (fun _ => by kernel_rfl) (fill_step ([]) ([.slice none 0 0]) ([.slice none 0 0, .slice none 0 0]) ([v134]) rfl rfl (cells_one ho61) rfl rfl rfl <| fill_step ([v134]) ([.slice none 0 0]) ([.slice none 0 0]) ([v127]) rfl rfl (cells_one ho62) rfl rfl rfl <| fill_step ([v134, v127]) ([.slice none 0 0]) ([]) ([v133]) rfl rfl (cells_one ho63) rfl rfl rfl <| fill_done))) rfl ?_
          refine A1 rfl ?_
          have hsL21 := hs
          have hRv4L21 := hRv4
          have hRv5L21 := hRv5
          have hRv6L21 := hRv6
          have hRv7L21 := hRv7
          have hRv8L21 := hRv8
          have hRv9L21 := hRv9
          have hRgg130L21 := hRgg130
          have hrelxs58L21 := hrelxs58
          have hrelxs61L21 := hrelxs61
          have hvv134L21 := hvv134
          have hagg2L21 := hagg2
          obtain ⟨gg138, hlegg138, hRgg138, hs⟩ := hs.relRow (i := 0) rfl hvv134
          replace hRv4 := hRv4.mono hlegg138
          replace hRv5 := hRv5.mono hlegg138
          replace hRv6 := hRv6.mono hlegg138
          replace hRv7 := hRv7.mono hlegg138
          replace hRv8 := hRv8.mono hlegg138
          replace hRv9 := hRv9.mono hlegg138
          replace hRgg130 := hRgg130.mono hlegg138
          replace hrelxs58 := hrelxs58.mono hlegg138
          replace hrelxs61 := hrelxs61.mono hlegg138
          replace hagg2 := hagg2.trans hlegg138
          obtain ⟨gg139, hlegg139, hRgg139, hs⟩ := hs.relRow (i := 1) rfl hrelxs58
          replace hRv4 := hRv4.mono hlegg139
          replace hRv5 := hRv5.mono hlegg139
          replace hRv6 := hRv6.mono hlegg139
          replace hRv7 := hRv7.mono hlegg139
          replace hRv8 := hRv8.mono hlegg139
          replace hRv9 := hRv9.mono hlegg139
          replace hRgg130 := hRgg130.mono hlegg139
          replace hrelxs61 := hrelxs61.mono hlegg139
          replace hRgg138 := hRgg138.mono hlegg139
          replace hagg2 := hagg2.trans hlegg139
          obtain ⟨gg140, hlegg140, hRgg140, hs⟩ := hs.relRow (i := 0) rfl hrelxs61
          replace hRv4 := hRv4.mono hlegg140
          replace hRv5 := hRv5.mono hlegg140
          replace hRv6 := hRv6.mono hlegg140
          replace hRv7 := hRv7.mono hlegg140
          replace hRv8 := hRv8.mono hlegg140
          replace hRv9 := hRv9.mono hlegg140
          replace hRgg130 := hRgg130.mono hlegg140
          replace hRgg138 := hRgg138.mono hlegg140
          replace hRgg139 := hRgg139.mono hlegg140
          replace hagg2 := hagg2.trans hlegg140
          refine C [.agg (List.toArray (α := Value) [v7, v8, v9]), .agg (List.toArray (α := Value) [v134, v127, v133])] cf17 rfl (dfa_Difference_ok hrv6 hs.imm (⟨[v7], [v8], [v9], rfl, ⟨_, rfl, hRv7⟩, ⟨_, rfl, hRv8⟩, ⟨_, rfl, hRv9⟩⟩) (⟨[v134], [v127], [v133], rfl, ⟨_, rfl, hRgg138⟩, ⟨_, rfl, hRgg139⟩, ⟨_, rfl, hRgg140⟩⟩)) rfl ?_
          rintro v135 wv89 ⟨gg141, hvv135, hegg141⟩
          obtain ⟨gg142, hlegg142, hs⟩ := hsL21.lent hegg141
          replace hRv4 := hRv4L21.mono hlegg142
          replace hRv5 := hRv5L21.mono hlegg142
          replace hRv6 := hRv6L21.mono hlegg142
          replace hRv7 := hRv7L21.mono hlegg142
          replace hRv8 := hRv8L21.mono hlegg142
          replace hRv9 := hRv9L21.mono hlegg142
          replace hRgg130 := hRgg130L21.mono hlegg142
          replace hrelxs58 := hrelxs58L21.mono hlegg142
          replace hrelxs61 := hrelxs61L21.mono hlegg142
          replace hvv134 := hvv134L21.mono hlegg142
          replace hagg2 := hagg2L21.trans hlegg142
          obtain ⟨v136, v137, rfl, hvv136, hvv137⟩ := hvv135
          obtain ⟨cs51, rfl, hcs51⟩ := hvv137
          have hcs51 : cs51 = _ := hcs51; subst hcs51
          obtain ⟨cs52, rfl, hcs52⟩ := hvv136
          have hcs52 : cs52 = _ := hcs52; subst hcs52
          refine OW_nil ?_
          have hS : SS g0 w0 gg2 [Go.Lx.box b2 25 ([v4, v5, v6]), Go.Lx.box b1 25 ([v7, v8, v9])] _ := ⟨gg142, hagg2, (hs.sub (.cons _ (.cons _ (.cons _ (.cons_cons _ (.cons_cons _ .slnil))))))⟩
          refine ⟨fun _ => hS, ?_⟩
          refine A rfl hS (fun w9 h9 => by obtain ⟨g9, hle9, hs⟩ := h9; exact r_move (v := .tuple #[encS rv6.1, .bool rv6.2]) rfl) rfl ?_
          refine A rfl hS (fun w9 h9 => by obtain ⟨g9, hle9, hs⟩ := h9; exact r_extract (vs := [encS rv6.1, .bool rv6.2]) (v := encS rv6.1) rfl rfl) rfl ?_
          refine A rfl hS (fun w9 h9 => by obtain ⟨g9, hle9, hs⟩ := h9; exact r_extract (vs := [encS rv6.1, .bool rv6.2]) (v := .bool rv6.2) rfl rfl) rfl ?_
          refine A rfl hS (fun w9 h9 => by obtain ⟨g9, hle9, hs⟩ := h9; exact r_assign (v := encS rv6.1) rfl) rfl ?_
          refine A rfl hS (fun w9 h9 => by obtain ⟨g9, hle9, hs⟩ := h9; exact r_assign (v := .bool rv6.2) rfl) rfl ?_
          refine AN ?_
          simp only [Option.some.injEq, Prod.mk.injEq] at hM
          obtain ⟨rfl, rfl⟩ := hM
          exact ⟨gg142, rfl, rfl, rfl, rfl, rfl, hagg2, (hs.sub (.cons _ (.cons _ (.cons _ (.cons_cons _ (.cons_cons _ .slnil))))))⟩
        trivial
      refine A2 rfl ?_ ?_
      · refine OW_lit (τ := (tInt .i64)) [.int .i64 (-1)] [(-1)] Try.underlying22 ti3 (by decide) hs rfl rfl rfl ⟨rfl, trivial⟩ rfl ?_
        intro v138 wv90 xs63 hrelxs63 hs
        refine OW_nil ?_
        have hS : SS g0 w0 gg2 [Go.Lx.box b2 25 ([v4, v5, v6]), Go.Lx.box b1 25 ([v7, v8, v9])] _ := ⟨gg2, (Hle.refl _), (hs.sub (.cons _ (.cons _ (.cons_cons _ (.cons_cons _ .slnil)))))⟩
        refine ⟨fun _ => hS, ?_⟩
        refine A2 rfl ?_ ?_
        · refine C [.int .u8 97] cf25 rfl (law10_class_ok hrv5 hs.imm) rfl ?_
          rintro v139 wv91 ⟨gg143, xs64, hvv139, hegg143⟩
          have hlegg143 := hegg143.ext.le hs.imm
          replace hs := hs.callOwn hegg143
          simp only [List.cons_append, List.nil_append] at hs
          replace hRv4 := hRv4.mono hlegg143
          replace hRv5 := hRv5.mono hlegg143
          replace hRv6 := hRv6.mono hlegg143
          replace hRv7 := hRv7.mono hlegg143
          replace hRv8 := hRv8.mono hlegg143
          replace hRv9 := hRv9.mono hlegg143
          replace hrelxs52 := hrelxs52.mono hlegg143
          replace hrelxs63 := hrelxs63.mono hlegg143
          replace hagg2 := hagg2.trans hlegg143
          refine OW_nil ?_
          have hS : SS g0 w0 gg2 [Go.Lx.box b2 25 ([v4, v5, v6]), Go.Lx.box b1 25 ([v7, v8, v9])] _ := ⟨gg143, hagg2, (hs.sub (.cons _ (.cons _ (.cons _ (.cons_cons _ (.cons_cons _ .slnil))))))⟩
          refine ⟨fun _ => hS, ?_⟩
          refine A1 rfl ?_
          obtain ⟨gg144, hlegg144, hRgg144, hs⟩ := hs.relRow (i := 2) rfl hrelxs52
          replace hRv4 := hRv4.mono hlegg144
          replace hRv5 := hRv5.mono hlegg144
          replace hRv6 := hRv6.mono hlegg144
          replace hRv7 := hRv7.mono hlegg144
          replace hRv8 := hRv8.mono hlegg144
          replace hRv9 := hRv9.mono hlegg144
          replace hrelxs63 := hrelxs63.mono hlegg144
          replace hvv139 := hvv139.mono hlegg144
          replace hagg2 := hagg2.trans hlegg144
          refine OW_lit (τ := (tSl (tInt .i64))) [v115] [[(-1), (-1)]] Try.underlying23 ti22 (by decide) hs rfl rfl rfl ⟨⟨v115, cells_one (by obtain ⟨_, _, h9⟩ := hRgg144.shape; rw [h9]; rfl), hRgg144⟩, trivial⟩ rfl ?_
          intro v140 wv92 xs65 hrelxs65 hs
          refine OW_nil ?_
          have hS : SS g0 w0 gg2 [Go.Lx.box b2 25 ([v4, v5, v6]), Go.Lx.box b1 25 ([v7, v8, v9])] _ := ⟨gg144, hagg2, (hs.sub (.cons _ (.cons _ (.cons _ (.cons_cons _ (.cons_cons _ .slnil))))))⟩
          refine ⟨fun _ => hS, ?_⟩
          have ho64 := one_of_shape (hs.rowShape (i := 1) rfl)
          have ho65 := one_of_shape (hs.rowShape (i := 0) rfl)
          have ho66 := one_of_shape (hs.rowShape (i := 2) rfl)
          refine A rfl hS (fun w9 h9 => by obtain ⟨g9, hle9, hs⟩ := h9; exact r_build (vs := [(0, v139), (1, v140), (2, v138)]) (cs := [v139, v140, v138]) rfl (built_fill [(0, 1), (1, 1), (2, 1)] [.slice none 0 0, .slice none 0 0, .slice none 0 0] (fun _ => by kernel_rfl) (fill_step ([]) ([.slice none 0 0]) ([.slice none 0 0, .slice none 0 0]) ([v139]) rfl rfl (cells_one ho64) rfl rfl rfl <| fill_step ([v139]) ([.slice none 0 0]) ([.slice none 0 0]) ([v140]) rfl rfl (cells_one ho65) rfl rfl rfl <| fill_step ([v139, v140]) ([.slice none 0 0]) ([]) ([v138]) rfl rfl (cells_one ho66) rfl rfl rfl <| fill_done))) rfl ?_
          refine A1 rfl ?_
          have hsL22 := hs
          have hRv4L22 := hRv4
          have hRv5L22 := hRv5
          have hRv6L22 := hRv6
          have hRv7L22 := hRv7
          have hRv8L22 := hRv8
          have hRv9L22 := hRv9
          have hrelxs63L22 := hrelxs63
          have hvv139L22 := hvv139
          have hRgg144L22 := hRgg144
          have hrelxs65L22 := hrelxs65
          have hagg2L22 := hagg2
          obtain ⟨gg145, hlegg145, hRgg145, hs⟩ := hs.relRow (i := 1) rfl hvv139
          replace hRv4 := hRv4.mono hlegg145
          replace hRv5 := hRv5.mono hlegg145
          replace hRv6 := hRv6.mono hlegg145
          replace hRv7 := hRv7.mono hlegg145
          replace hRv8 := hRv8.mono hlegg145
          replace hRv9 := hRv9.mono hlegg145
          replace hrelxs63 := hrelxs63.mono hlegg145
          replace hRgg144 := hRgg144.mono hlegg145
          replace hrelxs65 := hrelxs65.mono hlegg145
          replace hagg2 := hagg2.trans hlegg145
          obtain ⟨gg146, hlegg146, hRgg146, hs⟩ := hs.relRow (i := 0) rfl hrelxs65
          replace hRv4 := hRv4.mono hlegg146
          replace hRv5 := hRv5.mono hlegg146
          replace hRv6 := hRv6.mono hlegg146
          replace hRv7 := hRv7.mono hlegg146
          replace hRv8 := hRv8.mono hlegg146
          replace hRv9 := hRv9.mono hlegg146
          replace hrelxs63 := hrelxs63.mono hlegg146
          replace hRgg144 := hRgg144.mono hlegg146
          replace hRgg145 := hRgg145.mono hlegg146
          replace hagg2 := hagg2.trans hlegg146
          obtain ⟨gg147, hlegg147, hRgg147, hs⟩ := hs.relRow (i := 0) rfl hrelxs63
          replace hRv4 := hRv4.mono hlegg147
          replace hRv5 := hRv5.mono hlegg147
          replace hRv6 := hRv6.mono hlegg147
          replace hRv7 := hRv7.mono hlegg147
          replace hRv8 := hRv8.mono hlegg147
          replace hRv9 := hRv9.mono hlegg147
          replace hRgg144 := hRgg144.mono hlegg147
          replace hRgg145 := hRgg145.mono hlegg147
          replace hRgg146 := hRgg146.mono hlegg147
          replace hagg2 := hagg2.trans hlegg147
          refine C [.agg (List.toArray (α := Value) [v7, v8, v9]), .agg (List.toArray (α := Value) [v139, v140, v138])] cf17 rfl (dfa_Difference_ok hrv6 hs.imm (⟨[v7], [v8], [v9], rfl, ⟨_, rfl, hRv7⟩, ⟨_, rfl, hRv8⟩, ⟨_, rfl, hRv9⟩⟩) (⟨[v139], [v140], [v138], rfl, ⟨_, rfl, hRgg145⟩, ⟨_, rfl, hRgg146⟩, ⟨_, rfl, hRgg147⟩⟩)) rfl ?_
          rintro v141 wv93 ⟨gg148, hvv141, hegg148⟩
          obtain ⟨gg149, hlegg149, hs⟩ := hsL22.lent hegg148
          replace hRv4 := hRv4L22.mono hlegg149
          replace hRv5 := hRv5L22.mono hlegg149
          replace hRv6 := hRv6L22.mono hlegg149
          replace hRv7 := hRv7L22.mono hlegg149
          replace hRv8 := hRv8L22.mono hlegg149
          replace hRv9 := hRv9L22.mono hlegg149
          replace hrelxs63 := hrelxs63L22.mono hlegg149
          replace hvv139 := hvv139L22.mono hlegg149
          replace hRgg144 := hRgg144L22.mono hlegg149
          replace hrelxs65 := hrelxs65L22.mono hlegg149
          replace hagg2 := hagg2L22.trans hlegg149
          obtain ⟨v142, v143, rfl, hvv142, hvv143⟩ := hvv141
          obtain ⟨cs53, rfl, hcs53⟩ := hvv143
          have hcs53 : cs53 = _ := hcs53; subst hcs53
          obtain ⟨cs54, rfl, hcs54⟩ := hvv142
          have hcs54 : cs54 = _ := hcs54; subst hcs54
          refine OW_nil ?_
          have hS : SS g0 w0 gg2 [Go.Lx.box b2 25 ([v4, v5, v6]), Go.Lx.box b1 25 ([v7, v8, v9])] _ := ⟨gg149, hagg2, (hs.sub (.cons _ (.cons _ (.cons _ (.cons_cons _ (.cons_cons _ .slnil))))))⟩
          refine ⟨fun _ => hS, ?_⟩
          refine A rfl hS (fun w9 h9 => by obtain ⟨g9, hle9, hs⟩ := h9; exact r_move (v := .tuple #[encS rv6.1, .bool rv6.2]) rfl) rfl ?_
          refine A rfl hS (fun w9 h9 => by obtain ⟨g9, hle9, hs⟩ := h9; exact r_extract (vs := [encS rv6.1, .bool rv6.2]) (v := encS rv6.1) rfl rfl) rfl ?_
          refine A rfl hS (fun w9 h9 => by obtain ⟨g9, hle9, hs⟩ := h9; exact r_extract (vs := [encS rv6.1, .bool rv6.2]) (v := .bool rv6.2) rfl rfl) rfl ?_
          refine A rfl hS (fun w9 h9 => by obtain ⟨g9, hle9, hs⟩ := h9; exact r_assign (v := encS rv6.1) rfl) rfl ?_
          refine A rfl hS (fun w9 h9 => by obtain ⟨g9, hle9, hs⟩ := h9; exact r_assign (v := .bool rv6.2) rfl) rfl ?_
          refine AN ?_
          simp only [Option.some.injEq, Prod.mk.injEq] at hM
          obtain ⟨rfl, rfl⟩ := hM
          exact ⟨gg149, rfl, rfl, rfl, rfl, rfl, hagg2, (hs.sub (.cons _ (.cons _ (.cons _ (.cons_cons _ (.cons_cons _ .slnil))))))⟩
        refine A2 rfl ?_ ?_
        · obtain ⟨gg150, hlegg150, hRgg150, hs⟩ := hs.relRow (i := 1) rfl hrelxs52
          replace hRv4 := hRv4.mono hlegg150
          replace hRv5 := hRv5.mono hlegg150
          replace hRv6 := hRv6.mono hlegg150
          replace hRv7 := hRv7.mono hlegg150
          replace hRv8 := hRv8.mono hlegg150
          replace hRv9 := hRv9.mono hlegg150
          replace hrelxs63 := hrelxs63.mono hlegg150
          replace hagg2 := hagg2.trans hlegg150
          refine OW_lit (τ := (tSl (tInt .i64))) [v115] [[(-1), (-1)]] Try.underlying23 ti22 (by decide) hs rfl rfl rfl ⟨⟨v115, cells_one (by obtain ⟨_, _, h9⟩ := hRgg150.shape; rw [h9]; rfl), hRgg150⟩, trivial⟩ rfl ?_
          intro v144 wv94 xs66 hrelxs66 hs
          refine OW_nil ?_
          have hS : SS g0 w0 gg2 [Go.Lx.box b2 25 ([v4, v5, v6]), Go.Lx.box b1 25 ([v7, v8, v9])] _ := ⟨gg150, hagg2, (hs.sub (.cons _ (.cons _ (.cons_cons _ (.cons_cons _ .slnil)))))⟩
          refine ⟨fun _ => hS, ?_⟩
          refine A1 rfl ?_
          refine C [.int .u8 97] cf25 rfl (law10_class_ok hrv5 hs.imm) rfl ?_
          rintro v145 wv95 ⟨gg151, xs67, hvv145, hegg151⟩
          have hlegg151 := hegg151.ext.le hs.imm
          replace hs := hs.callOwn hegg151
          simp only [List.cons_append, List.nil_append] at hs
          replace hRv4 := hRv4.mono hlegg151
          replace hRv5 := hRv5.mono hlegg151
          replace hRv6 := hRv6.mono hlegg151
          replace hRv7 := hRv7.mono hlegg151
          replace hRv8 := hRv8.mono hlegg151
          replace hRv9 := hRv9.mono hlegg151
          replace hrelxs63 := hrelxs63.mono hlegg151
          replace hRgg150 := hRgg150.mono hlegg151
          replace hrelxs66 := hrelxs66.mono hlegg151
          replace hagg2 := hagg2.trans hlegg151
          refine OW_nil ?_
          have hS : SS g0 w0 gg2 [Go.Lx.box b2 25 ([v4, v5, v6]), Go.Lx.box b1 25 ([v7, v8, v9])] _ := ⟨gg151, hagg2, (hs.sub (.cons _ (.cons _ (.cons _ (.cons_cons _ (.cons_cons _ .slnil))))))⟩
          refine ⟨fun _ => hS, ?_⟩
          have ho67 := one_of_shape (hs.rowShape (i := 0) rfl)
          have ho68 := one_of_shape (hs.rowShape (i := 1) rfl)
          have ho69 := one_of_shape (hs.rowShape (i := 2) rfl)
          refine A rfl hS (fun w9 h9 => by obtain ⟨g9, hle9, hs⟩ := h9; exact r_build (vs := [(0, v145), (1, v144), (2, v138)]) (cs := [v145, v144, v138]) rfl (built_fill [(0, 1), (1, 1), (2, 1)] [.slice none 0 0, .slice none 0 0, .slice none 0 0] (fun _ => by kernel_rfl) (fill_step ([]) ([.slice none 0 0]) ([.slice none 0 0, .slice none 0 0]) ([v145]) rfl rfl (cells_one ho67) rfl rfl rfl <| fill_step ([v145]) ([.slice none 0 0]) ([.slice none 0 0]) ([v144]) rfl rfl (cells_one ho68) rfl rfl rfl <| fill_step ([v145, v144]) ([.slice none 0 0]) ([]) ([v138]) rfl rfl (cells_one ho69) rfl rfl rfl <| fill_done))) rfl ?_
          refine A1 rfl ?_
          have hsL23 := hs
          have hRv4L23 := hRv4
          have hRv5L23 := hRv5
          have hRv6L23 := hRv6
          have hRv7L23 := hRv7
          have hRv8L23 := hRv8
          have hRv9L23 := hRv9
          have hrelxs63L23 := hrelxs63
          have hRgg150L23 := hRgg150
          have hrelxs66L23 := hrelxs66
          have hvv145L23 := hvv145
          have hagg2L23 := hagg2
          obtain ⟨gg152, hlegg152, hRgg152, hs⟩ := hs.relRow (i := 0) rfl hvv145
          replace hRv4 := hRv4.mono hlegg152
          replace hRv5 := hRv5.mono hlegg152
          replace hRv6 := hRv6.mono hlegg152
          replace hRv7 := hRv7.mono hlegg152
          replace hRv8 := hRv8.mono hlegg152
          replace hRv9 := hRv9.mono hlegg152
          replace hrelxs63 := hrelxs63.mono hlegg152
          replace hRgg150 := hRgg150.mono hlegg152
          replace hrelxs66 := hrelxs66.mono hlegg152
          replace hagg2 := hagg2.trans hlegg152
          obtain ⟨gg153, hlegg153, hRgg153, hs⟩ := hs.relRow (i := 0) rfl hrelxs66
          replace hRv4 := hRv4.mono hlegg153
          replace hRv5 := hRv5.mono hlegg153
          replace hRv6 := hRv6.mono hlegg153
          replace hRv7 := hRv7.mono hlegg153
          replace hRv8 := hRv8.mono hlegg153
          replace hRv9 := hRv9.mono hlegg153
          replace hrelxs63 := hrelxs63.mono hlegg153
          replace hRgg150 := hRgg150.mono hlegg153
          replace hRgg152 := hRgg152.mono hlegg153
          replace hagg2 := hagg2.trans hlegg153
          obtain ⟨gg154, hlegg154, hRgg154, hs⟩ := hs.relRow (i := 0) rfl hrelxs63
          replace hRv4 := hRv4.mono hlegg154
          replace hRv5 := hRv5.mono hlegg154
          replace hRv6 := hRv6.mono hlegg154
          replace hRv7 := hRv7.mono hlegg154
          replace hRv8 := hRv8.mono hlegg154
          replace hRv9 := hRv9.mono hlegg154
          replace hRgg150 := hRgg150.mono hlegg154
          replace hRgg152 := hRgg152.mono hlegg154
          replace hRgg153 := hRgg153.mono hlegg154
          replace hagg2 := hagg2.trans hlegg154
          refine C [.agg (List.toArray (α := Value) [v7, v8, v9]), .agg (List.toArray (α := Value) [v145, v144, v138])] cf17 rfl (dfa_Difference_ok hrv6 hs.imm (⟨[v7], [v8], [v9], rfl, ⟨_, rfl, hRv7⟩, ⟨_, rfl, hRv8⟩, ⟨_, rfl, hRv9⟩⟩) (⟨[v145], [v144], [v138], rfl, ⟨_, rfl, hRgg152⟩, ⟨_, rfl, hRgg153⟩, ⟨_, rfl, hRgg154⟩⟩)) rfl ?_
          rintro v146 wv96 ⟨gg155, hvv146, hegg155⟩
          obtain ⟨gg156, hlegg156, hs⟩ := hsL23.lent hegg155
          replace hRv4 := hRv4L23.mono hlegg156
          replace hRv5 := hRv5L23.mono hlegg156
          replace hRv6 := hRv6L23.mono hlegg156
          replace hRv7 := hRv7L23.mono hlegg156
          replace hRv8 := hRv8L23.mono hlegg156
          replace hRv9 := hRv9L23.mono hlegg156
          replace hrelxs63 := hrelxs63L23.mono hlegg156
          replace hRgg150 := hRgg150L23.mono hlegg156
          replace hrelxs66 := hrelxs66L23.mono hlegg156
          replace hvv145 := hvv145L23.mono hlegg156
          replace hagg2 := hagg2L23.trans hlegg156
          obtain ⟨v147, v148, rfl, hvv147, hvv148⟩ := hvv146
          obtain ⟨cs55, rfl, hcs55⟩ := hvv148
          have hcs55 : cs55 = _ := hcs55; subst hcs55
          obtain ⟨cs56, rfl, hcs56⟩ := hvv147
          have hcs56 : cs56 = _ := hcs56; subst hcs56
          refine OW_nil ?_
          have hS : SS g0 w0 gg2 [Go.Lx.box b2 25 ([v4, v5, v6]), Go.Lx.box b1 25 ([v7, v8, v9])] _ := ⟨gg156, hagg2, (hs.sub (.cons _ (.cons _ (.cons _ (.cons_cons _ (.cons_cons _ .slnil))))))⟩
          refine ⟨fun _ => hS, ?_⟩
          refine A rfl hS (fun w9 h9 => by obtain ⟨g9, hle9, hs⟩ := h9; exact r_move (v := .tuple #[encS rv6.1, .bool rv6.2]) rfl) rfl ?_
          refine A rfl hS (fun w9 h9 => by obtain ⟨g9, hle9, hs⟩ := h9; exact r_extract (vs := [encS rv6.1, .bool rv6.2]) (v := encS rv6.1) rfl rfl) rfl ?_
          refine A rfl hS (fun w9 h9 => by obtain ⟨g9, hle9, hs⟩ := h9; exact r_extract (vs := [encS rv6.1, .bool rv6.2]) (v := .bool rv6.2) rfl rfl) rfl ?_
          refine A rfl hS (fun w9 h9 => by obtain ⟨g9, hle9, hs⟩ := h9; exact r_assign (v := encS rv6.1) rfl) rfl ?_
          refine A rfl hS (fun w9 h9 => by obtain ⟨g9, hle9, hs⟩ := h9; exact r_assign (v := .bool rv6.2) rfl) rfl ?_
          refine AN ?_
          simp only [Option.some.injEq, Prod.mk.injEq] at hM
          obtain ⟨rfl, rfl⟩ := hM
          exact ⟨gg156, rfl, rfl, rfl, rfl, rfl, hagg2, (hs.sub (.cons _ (.cons _ (.cons _ (.cons_cons _ (.cons_cons _ .slnil))))))⟩
        trivial
      trivial
    refine A2 rfl ?_ ?_
    · refine OW_lit (τ := (tInt .i64)) [.int .i64 (-1)] [(-1)] Try.underlying22 ti3 (by decide) hs rfl rfl rfl ⟨rfl, trivial⟩ rfl ?_
      intro v149 wv97 xs68 hrelxs68 hs
      refine OW_nil ?_
      have hS : SS g0 w0 gg2 [Go.Lx.box b2 25 ([v4, v5, v6]), Go.Lx.box b1 25 ([v7, v8, v9])] _ := ⟨gg2, (Hle.refl _), (hs.sub (.cons _ (.cons_cons _ (.cons_cons _ .slnil))))⟩
      refine ⟨fun _ => hS, ?_⟩
      refine A2 rfl ?_ ?_
      · refine C [.int .u8 97] cf25 rfl (law10_class_ok hrv5 hs.imm) rfl ?_
        rintro v150 wv98 ⟨gg157, xs69, hvv150, hegg157⟩
        have hlegg157 := hegg157.ext.le hs.imm
        replace hs := hs.callOwn hegg157
        simp only [List.cons_append, List.nil_append] at hs
        replace hRv4 := hRv4.mono hlegg157
        replace hRv5 := hRv5.mono hlegg157
        replace hRv6 := hRv6.mono hlegg157
        replace hRv7 := hRv7.mono hlegg157
        replace hRv8 := hRv8.mono hlegg157
        replace hRv9 := hRv9.mono hlegg157
        replace hrelxs68 := hrelxs68.mono hlegg157
        replace hagg2 := hagg2.trans hlegg157
        refine OW_nil ?_
        have hS : SS g0 w0 gg2 [Go.Lx.box b2 25 ([v4, v5, v6]), Go.Lx.box b1 25 ([v7, v8, v9])] _ := ⟨gg157, hagg2, (hs.sub (.cons _ (.cons _ (.cons_cons _ (.cons_cons _ .slnil)))))⟩
        refine ⟨fun _ => hS, ?_⟩
        refine A1 rfl ?_
        refine OW_lit (τ := (tInt .i64)) [.int .i64 (-1), .int .i64 (-1)] [(-1), (-1)] Try.underlying22 ti3 (by decide) hs rfl rfl rfl ⟨rfl, rfl, trivial⟩ rfl ?_
        intro v151 wv99 xs70 hrelxs70 hs
        refine OW_nil ?_
        have hS : SS g0 w0 gg2 [Go.Lx.box b2 25 ([v4, v5, v6]), Go.Lx.box b1 25 ([v7, v8, v9])] _ := ⟨gg157, hagg2, (hs.sub (.cons _ (.cons _ (.cons _ (.cons_cons _ (.cons_cons _ .slnil))))))⟩
        refine ⟨fun _ => hS, ?_⟩
        refine A1 rfl ?_
        obtain ⟨gg158, hlegg158, hRgg158, hs⟩ := hs.relRow (i := 0) rfl hrelxs70
        replace hRv4 := hRv4.mono hlegg158
        replace hRv5 := hRv5.mono hlegg158
        replace hRv6 := hRv6.mono hlegg158
        replace hRv7 := hRv7.mono hlegg158
        replace hRv8 := hRv8.mono hlegg158
        replace hRv9 := hRv9.mono hlegg158
        replace hrelxs68 := hrelxs68.mono hlegg158
        replace hvv150 := hvv150.mono hlegg158
        replace hagg2 := hagg2.trans hlegg158
        refine OW_lit (τ := (tSl (tInt .i64))) [v151] [[(-1), (-1)]] Try.underlying23 ti22 (by decide) hs rfl rfl rfl ⟨⟨v151, cells_one (by obtain ⟨_, _, h9⟩ := hRgg158.shape; rw [h9]; rfl), hRgg158⟩, trivial⟩ rfl ?_
        intro v152 wv100 xs71 hrelxs71 hs
        refine OW_nil ?_
        have hS : SS g0 w0 gg2 [Go.Lx.box b2 25 ([v4, v5, v6]), Go.Lx.box b1 25 ([v7, v8, v9])] _ := ⟨gg158, hagg2, (hs.sub (.cons _ (.cons _ (.cons _ (.cons_cons _ (.cons_cons _ .slnil))))))⟩
        refine ⟨fun _ => hS, ?_⟩
        have ho70 := one_of_shape (hs.rowShape (i := 1) rfl)
        have ho71 := one_of_shape (hs.rowShape (i := 0) rfl)
        have ho72 := one_of_shape (hs.rowShape (i := 2) rfl)
        refine A rfl hS (fun w9 h9 => by obtain ⟨g9, hle9, hs⟩ := h9; exact r_build (vs := [(0, v150), (1, v152), (2, v149)]) (cs := [v150, v152, v149]) rfl (built_fill [(0, 1), (1, 1), (2, 1)] [.slice none 0 0, .slice none 0 0, .slice none 0 0] (fun _ => by kernel_rfl) (fill_step ([]) ([.slice none 0 0]) ([.slice none 0 0, .slice none 0 0]) ([v150]) rfl rfl (cells_one ho70) rfl rfl rfl <| fill_step ([v150]) ([.slice none 0 0]) ([.slice none 0 0]) ([v152]) rfl rfl (cells_one ho71) rfl rfl rfl <| fill_step ([v150, v152]) ([.slice none 0 0]) ([]) ([v149]) rfl rfl (cells_one ho72) rfl rfl rfl <| fill_done))) rfl ?_
        refine A1 rfl ?_
        have hsL24 := hs
        have hRv4L24 := hRv4
        have hRv5L24 := hRv5
        have hRv6L24 := hRv6
        have hRv7L24 := hRv7
        have hRv8L24 := hRv8
        have hRv9L24 := hRv9
        have hrelxs68L24 := hrelxs68
        have hvv150L24 := hvv150
        have hRgg158L24 := hRgg158
        have hrelxs71L24 := hrelxs71
        have hagg2L24 := hagg2
        obtain ⟨gg159, hlegg159, hRgg159, hs⟩ := hs.relRow (i := 1) rfl hvv150
        replace hRv4 := hRv4.mono hlegg159
        replace hRv5 := hRv5.mono hlegg159
        replace hRv6 := hRv6.mono hlegg159
        replace hRv7 := hRv7.mono hlegg159
        replace hRv8 := hRv8.mono hlegg159
        replace hRv9 := hRv9.mono hlegg159
        replace hrelxs68 := hrelxs68.mono hlegg159
        replace hRgg158 := hRgg158.mono hlegg159
        replace hrelxs71 := hrelxs71.mono hlegg159
        replace hagg2 := hagg2.trans hlegg159
        obtain ⟨gg160, hlegg160, hRgg160, hs⟩ := hs.relRow (i := 0) rfl hrelxs71
        replace hRv4 := hRv4.mono hlegg160
        replace hRv5 := hRv5.mono hlegg160
        replace hRv6 := hRv6.mono hlegg160
        replace hRv7 := hRv7.mono hlegg160
        replace hRv8 := hRv8.mono hlegg160
        replace hRv9 := hRv9.mono hlegg160
        replace hrelxs68 := hrelxs68.mono hlegg160
        replace hRgg158 := hRgg158.mono hlegg160
        replace hRgg159 := hRgg159.mono hlegg160
        replace hagg2 := hagg2.trans hlegg160
        obtain ⟨gg161, hlegg161, hRgg161, hs⟩ := hs.relRow (i := 0) rfl hrelxs68
        replace hRv4 := hRv4.mono hlegg161
        replace hRv5 := hRv5.mono hlegg161
        replace hRv6 := hRv6.mono hlegg161
        replace hRv7 := hRv7.mono hlegg161
        replace hRv8 := hRv8.mono hlegg161
        replace hRv9 := hRv9.mono hlegg161
        replace hRgg158 := hRgg158.mono hlegg161
        replace hRgg159 := hRgg159.mono hlegg161
        replace hRgg160 := hRgg160.mono hlegg161
        replace hagg2 := hagg2.trans hlegg161
        refine C [.agg (List.toArray (α := Value) [v7, v8, v9]), .agg (List.toArray (α := Value) [v150, v152, v149])] cf17 rfl (dfa_Difference_ok hrv6 hs.imm (⟨[v7], [v8], [v9], rfl, ⟨_, rfl, hRv7⟩, ⟨_, rfl, hRv8⟩, ⟨_, rfl, hRv9⟩⟩) (⟨[v150], [v152], [v149], rfl, ⟨_, rfl, hRgg159⟩, ⟨_, rfl, hRgg160⟩, ⟨_, rfl, hRgg161⟩⟩)) rfl ?_
        rintro v153 wv101 ⟨gg162, hvv153, hegg162⟩
        obtain ⟨gg163, hlegg163, hs⟩ := hsL24.lent hegg162
        replace hRv4 := hRv4L24.mono hlegg163
        replace hRv5 := hRv5L24.mono hlegg163
        replace hRv6 := hRv6L24.mono hlegg163
        replace hRv7 := hRv7L24.mono hlegg163
        replace hRv8 := hRv8L24.mono hlegg163
        replace hRv9 := hRv9L24.mono hlegg163
        replace hrelxs68 := hrelxs68L24.mono hlegg163
        replace hvv150 := hvv150L24.mono hlegg163
        replace hRgg158 := hRgg158L24.mono hlegg163
        replace hrelxs71 := hrelxs71L24.mono hlegg163
        replace hagg2 := hagg2L24.trans hlegg163
        obtain ⟨v154, v155, rfl, hvv154, hvv155⟩ := hvv153
        obtain ⟨cs57, rfl, hcs57⟩ := hvv155
        have hcs57 : cs57 = _ := hcs57; subst hcs57
        obtain ⟨cs58, rfl, hcs58⟩ := hvv154
        have hcs58 : cs58 = _ := hcs58; subst hcs58
        refine OW_nil ?_
        have hS : SS g0 w0 gg2 [Go.Lx.box b2 25 ([v4, v5, v6]), Go.Lx.box b1 25 ([v7, v8, v9])] _ := ⟨gg163, hagg2, (hs.sub (.cons _ (.cons _ (.cons _ (.cons_cons _ (.cons_cons _ .slnil))))))⟩
        refine ⟨fun _ => hS, ?_⟩
        refine A rfl hS (fun w9 h9 => by obtain ⟨g9, hle9, hs⟩ := h9; exact r_move (v := .tuple #[encS rv6.1, .bool rv6.2]) rfl) rfl ?_
        refine A rfl hS (fun w9 h9 => by obtain ⟨g9, hle9, hs⟩ := h9; exact r_extract (vs := [encS rv6.1, .bool rv6.2]) (v := encS rv6.1) rfl rfl) rfl ?_
        refine A rfl hS (fun w9 h9 => by obtain ⟨g9, hle9, hs⟩ := h9; exact r_extract (vs := [encS rv6.1, .bool rv6.2]) (v := .bool rv6.2) rfl rfl) rfl ?_
        refine A rfl hS (fun w9 h9 => by obtain ⟨g9, hle9, hs⟩ := h9; exact r_assign (v := encS rv6.1) rfl) rfl ?_
        refine A rfl hS (fun w9 h9 => by obtain ⟨g9, hle9, hs⟩ := h9; exact r_assign (v := .bool rv6.2) rfl) rfl ?_
        refine AN ?_
        simp only [Option.some.injEq, Prod.mk.injEq] at hM
        obtain ⟨rfl, rfl⟩ := hM
        exact ⟨gg163, rfl, rfl, rfl, rfl, rfl, hagg2, (hs.sub (.cons _ (.cons _ (.cons _ (.cons_cons _ (.cons_cons _ .slnil))))))⟩
      refine A2 rfl ?_ ?_
      · refine OW_lit (τ := (tInt .i64)) [.int .i64 (-1), .int .i64 (-1)] [(-1), (-1)] Try.underlying22 ti3 (by decide) hs rfl rfl rfl ⟨rfl, rfl, trivial⟩ rfl ?_
        intro v156 wv102 xs72 hrelxs72 hs
        refine OW_nil ?_
        have hS : SS g0 w0 gg2 [Go.Lx.box b2 25 ([v4, v5, v6]), Go.Lx.box b1 25 ([v7, v8, v9])] _ := ⟨gg2, (Hle.refl _), (hs.sub (.cons _ (.cons _ (.cons_cons _ (.cons_cons _ .slnil)))))⟩
        refine ⟨fun _ => hS, ?_⟩
        refine A2 rfl ?_ ?_
        · refine C [.int .u8 97] cf25 rfl (law10_class_ok hrv5 hs.imm) rfl ?_
          rintro v157 wv103 ⟨gg164, xs73, hvv157, hegg164⟩
          have hlegg164 := hegg164.ext.le hs.imm
          replace hs := hs.callOwn hegg164
          simp only [List.cons_append, List.nil_append] at hs
          replace hRv4 := hRv4.mono hlegg164
          replace hRv5 := hRv5.mono hlegg164
          replace hRv6 := hRv6.mono hlegg164
          replace hRv7 := hRv7.mono hlegg164
          replace hRv8 := hRv8.mono hlegg164
          replace hRv9 := hRv9.mono hlegg164
          replace hrelxs68 := hrelxs68.mono hlegg164
          replace hrelxs72 := hrelxs72.mono hlegg164
          replace hagg2 := hagg2.trans hlegg164
          refine OW_nil ?_
          have hS : SS g0 w0 gg2 [Go.Lx.box b2 25 ([v4, v5, v6]), Go.Lx.box b1 25 ([v7, v8, v9])] _ := ⟨gg164, hagg2, (hs.sub (.cons _ (.cons _ (.cons _ (.cons_cons _ (.cons_cons _ .slnil))))))⟩
          refine ⟨fun _ => hS, ?_⟩
          refine A1 rfl ?_
          obtain ⟨gg165, hlegg165, hRgg165, hs⟩ := hs.relRow (i := 1) rfl hrelxs72
          replace hRv4 := hRv4.mono hlegg165
          replace hRv5 := hRv5.mono hlegg165
          replace hRv6 := hRv6.mono hlegg165
          replace hRv7 := hRv7.mono hlegg165
          replace hRv8 := hRv8.mono hlegg165
          replace hRv9 := hRv9.mono hlegg165
          replace hrelxs68 := hrelxs68.mono hlegg165
          replace hvv157 := hvv157.mono hlegg165
          replace hagg2 := hagg2.trans hlegg165
          refine OW_lit (τ := (tSl (tInt .i64))) [v156] [[(-1), (-1)]] Try.underlying23 ti22 (by decide) hs rfl rfl rfl ⟨⟨v156, cells_one (by obtain ⟨_, _, h9⟩ := hRgg165.shape; rw [h9]; rfl), hRgg165⟩, trivial⟩ rfl ?_
          intro v158 wv104 xs74 hrelxs74 hs
          refine OW_nil ?_
          have hS : SS g0 w0 gg2 [Go.Lx.box b2 25 ([v4, v5, v6]), Go.Lx.box b1 25 ([v7, v8, v9])] _ := ⟨gg165, hagg2, (hs.sub (.cons _ (.cons _ (.cons _ (.cons_cons _ (.cons_cons _ .slnil))))))⟩
          refine ⟨fun _ => hS, ?_⟩
          have ho73 := one_of_shape (hs.rowShape (i := 1) rfl)
          have ho74 := one_of_shape (hs.rowShape (i := 0) rfl)
          have ho75 := one_of_shape (hs.rowShape (i := 2) rfl)
          refine A rfl hS (fun w9 h9 => by obtain ⟨g9, hle9, hs⟩ := h9; exact r_build (vs := [(0, v157), (1, v158), (2, v149)]) (cs := [v157, v158, v149]) rfl (built_fill [(0, 1), (1, 1), (2, 1)] [.slice none 0 0, .slice none 0 0, .slice none 0 0] (fun _ => by kernel_rfl) (fill_step ([]) ([.slice none 0 0]) ([.slice none 0 0, .slice none 0 0]) ([v157]) rfl rfl (cells_one ho73) rfl rfl rfl <| fill_step ([v157]) ([.slice none 0 0]) ([.slice none 0 0]) ([v158]) rfl rfl (cells_one ho74) rfl rfl rfl <| fill_step ([v157, v158]) ([.slice none 0 0]) ([]) ([v149]) rfl rfl (cells_one ho75) rfl rfl rfl <| fill_done))) rfl ?_
          refine A1 rfl ?_
          have hsL25 := hs
          have hRv4L25 := hRv4
          have hRv5L25 := hRv5
          have hRv6L25 := hRv6
          have hRv7L25 := hRv7
          have hRv8L25 := hRv8
          have hRv9L25 := hRv9
          have hrelxs68L25 := hrelxs68
          have hvv157L25 := hvv157
          have hRgg165L25 := hRgg165
          have hrelxs74L25 := hrelxs74
          have hagg2L25 := hagg2
          obtain ⟨gg166, hlegg166, hRgg166, hs⟩ := hs.relRow (i := 1) rfl hvv157
          replace hRv4 := hRv4.mono hlegg166
          replace hRv5 := hRv5.mono hlegg166
          replace hRv6 := hRv6.mono hlegg166
          replace hRv7 := hRv7.mono hlegg166
          replace hRv8 := hRv8.mono hlegg166
          replace hRv9 := hRv9.mono hlegg166
          replace hrelxs68 := hrelxs68.mono hlegg166
          replace hRgg165 := hRgg165.mono hlegg166
          replace hrelxs74 := hrelxs74.mono hlegg166
          replace hagg2 := hagg2.trans hlegg166
          obtain ⟨gg167, hlegg167, hRgg167, hs⟩ := hs.relRow (i := 0) rfl hrelxs74
          replace hRv4 := hRv4.mono hlegg167
          replace hRv5 := hRv5.mono hlegg167
          replace hRv6 := hRv6.mono hlegg167
          replace hRv7 := hRv7.mono hlegg167
          replace hRv8 := hRv8.mono hlegg167
          replace hRv9 := hRv9.mono hlegg167
          replace hrelxs68 := hrelxs68.mono hlegg167
          replace hRgg165 := hRgg165.mono hlegg167
          replace hRgg166 := hRgg166.mono hlegg167
          replace hagg2 := hagg2.trans hlegg167
          obtain ⟨gg168, hlegg168, hRgg168, hs⟩ := hs.relRow (i := 0) rfl hrelxs68
          replace hRv4 := hRv4.mono hlegg168
          replace hRv5 := hRv5.mono hlegg168
          replace hRv6 := hRv6.mono hlegg168
          replace hRv7 := hRv7.mono hlegg168
          replace hRv8 := hRv8.mono hlegg168
          replace hRv9 := hRv9.mono hlegg168
          replace hRgg165 := hRgg165.mono hlegg168
          replace hRgg166 := hRgg166.mono hlegg168
          replace hRgg167 := hRgg167.mono hlegg168
          replace hagg2 := hagg2.trans hlegg168
          refine C [.agg (List.toArray (α := Value) [v7, v8, v9]), .agg (List.toArray (α := Value) [v157, v158, v149])] cf17 rfl (dfa_Difference_ok hrv6 hs.imm (⟨[v7], [v8], [v9], rfl, ⟨_, rfl, hRv7⟩, ⟨_, rfl, hRv8⟩, ⟨_, rfl, hRv9⟩⟩) (⟨[v157], [v158], [v149], rfl, ⟨_, rfl, hRgg166⟩, ⟨_, rfl, hRgg167⟩, ⟨_, rfl, hRgg168⟩⟩)) rfl ?_
          rintro v159 wv105 ⟨gg169, hvv159, hegg169⟩
          obtain ⟨gg170, hlegg170, hs⟩ := hsL25.lent hegg169
          replace hRv4 := hRv4L25.mono hlegg170
          replace hRv5 := hRv5L25.mono hlegg170
          replace hRv6 := hRv6L25.mono hlegg170
          replace hRv7 := hRv7L25.mono hlegg170
          replace hRv8 := hRv8L25.mono hlegg170
          replace hRv9 := hRv9L25.mono hlegg170
          replace hrelxs68 := hrelxs68L25.mono hlegg170
          replace hvv157 := hvv157L25.mono hlegg170
          replace hRgg165 := hRgg165L25.mono hlegg170
          replace hrelxs74 := hrelxs74L25.mono hlegg170
          replace hagg2 := hagg2L25.trans hlegg170
          obtain ⟨v160, v161, rfl, hvv160, hvv161⟩ := hvv159
          obtain ⟨cs59, rfl, hcs59⟩ := hvv161
          have hcs59 : cs59 = _ := hcs59; subst hcs59
          obtain ⟨cs60, rfl, hcs60⟩ := hvv160
          have hcs60 : cs60 = _ := hcs60; subst hcs60
          refine OW_nil ?_
          have hS : SS g0 w0 gg2 [Go.Lx.box b2 25 ([v4, v5, v6]), Go.Lx.box b1 25 ([v7, v8, v9])] _ := ⟨gg170, hagg2, (hs.sub (.cons _ (.cons _ (.cons _ (.cons_cons _ (.cons_cons _ .slnil))))))⟩
          refine ⟨fun _ => hS, ?_⟩
          refine A rfl hS (fun w9 h9 => by obtain ⟨g9, hle9, hs⟩ := h9; exact r_move (v := .tuple #[encS rv6.1, .bool rv6.2]) rfl) rfl ?_
          refine A rfl hS (fun w9 h9 => by obtain ⟨g9, hle9, hs⟩ := h9; exact r_extract (vs := [encS rv6.1, .bool rv6.2]) (v := encS rv6.1) rfl rfl) rfl ?_
          refine A rfl hS (fun w9 h9 => by obtain ⟨g9, hle9, hs⟩ := h9; exact r_extract (vs := [encS rv6.1, .bool rv6.2]) (v := .bool rv6.2) rfl rfl) rfl ?_
          refine A rfl hS (fun w9 h9 => by obtain ⟨g9, hle9, hs⟩ := h9; exact r_assign (v := encS rv6.1) rfl) rfl ?_
          refine A rfl hS (fun w9 h9 => by obtain ⟨g9, hle9, hs⟩ := h9; exact r_assign (v := .bool rv6.2) rfl) rfl ?_
          refine AN ?_
          simp only [Option.some.injEq, Prod.mk.injEq] at hM
          obtain ⟨rfl, rfl⟩ := hM
          exact ⟨gg170, rfl, rfl, rfl, rfl, rfl, hagg2, (hs.sub (.cons _ (.cons _ (.cons _ (.cons_cons _ (.cons_cons _ .slnil))))))⟩
        refine A2 rfl ?_ ?_
        · obtain ⟨gg171, hlegg171, hRgg171, hs⟩ := hs.relRow (i := 0) rfl hrelxs72
          replace hRv4 := hRv4.mono hlegg171
          replace hRv5 := hRv5.mono hlegg171
          replace hRv6 := hRv6.mono hlegg171
          replace hRv7 := hRv7.mono hlegg171
          replace hRv8 := hRv8.mono hlegg171
          replace hRv9 := hRv9.mono hlegg171
          replace hrelxs68 := hrelxs68.mono hlegg171
          replace hagg2 := hagg2.trans hlegg171
          refine OW_lit (τ := (tSl (tInt .i64))) [v156] [[(-1), (-1)]] Try.underlying23 ti22 (by decide) hs rfl rfl rfl ⟨⟨v156, cells_one (by obtain ⟨_, _, h9⟩ := hRgg171.shape; rw [h9]; rfl), hRgg171⟩, trivial⟩ rfl ?_
          intro v162 wv106 xs75 hrelxs75 hs
          refine OW_nil ?_
          have hS : SS g0 w0 gg2 [Go.Lx.box b2 25 ([v4, v5, v6]), Go.Lx.box b1 25 ([v7, v8, v9])] _ := ⟨gg171, hagg2, (hs.sub (.cons _ (.cons _ (.cons_cons _ (.cons_cons _ .slnil)))))⟩
          refine ⟨fun _ => hS, ?_⟩
          refine A1 rfl ?_
          refine C [.int .u8 97] cf25 rfl (law10_class_ok hrv5 hs.imm) rfl ?_
          rintro v163 wv107 ⟨gg172, xs76, hvv163, hegg172⟩
          have hlegg172 := hegg172.ext.le hs.imm
          replace hs := hs.callOwn hegg172
          simp only [List.cons_append, List.nil_append] at hs
          replace hRv4 := hRv4.mono hlegg172
          replace hRv5 := hRv5.mono hlegg172
          replace hRv6 := hRv6.mono hlegg172
          replace hRv7 := hRv7.mono hlegg172
          replace hRv8 := hRv8.mono hlegg172
          replace hRv9 := hRv9.mono hlegg172
          replace hrelxs68 := hrelxs68.mono hlegg172
          replace hRgg171 := hRgg171.mono hlegg172
          replace hrelxs75 := hrelxs75.mono hlegg172
          replace hagg2 := hagg2.trans hlegg172
          refine OW_nil ?_
          have hS : SS g0 w0 gg2 [Go.Lx.box b2 25 ([v4, v5, v6]), Go.Lx.box b1 25 ([v7, v8, v9])] _ := ⟨gg172, hagg2, (hs.sub (.cons _ (.cons _ (.cons _ (.cons_cons _ (.cons_cons _ .slnil))))))⟩
          refine ⟨fun _ => hS, ?_⟩
          have ho76 := one_of_shape (hs.rowShape (i := 0) rfl)
          have ho77 := one_of_shape (hs.rowShape (i := 1) rfl)
          have ho78 := one_of_shape (hs.rowShape (i := 2) rfl)
          refine A rfl hS (fun w9 h9 => by obtain ⟨g9, hle9, hs⟩ := h9; exact r_build (vs := [(0, v163), (1, v162), (2, v149)]) (cs := [v163, v162, v149]) rfl (built_fill [(0, 1), (1, 1), (2, 1)] [.slice none 0 0, .slice none 0 0, .slice none 0 0] (fun _ => by kernel_rfl) (fill_step ([]) ([.slice none 0 0]) ([.slice none 0 0, .slice none 0 0]) ([v163]) rfl rfl (cells_one ho76) rfl rfl rfl <| fill_step ([v163]) ([.slice none 0 0]) ([.slice none 0 0]) ([v162]) rfl rfl (cells_one ho77) rfl rfl rfl <| fill_step ([v163, v162]) ([.slice none 0 0]) ([]) ([v149]) rfl rfl (cells_one ho78) rfl rfl rfl <| fill_done))) rfl ?_
          refine A1 rfl ?_
          have hsL26 := hs
          have hRv4L26 := hRv4
          have hRv5L26 := hRv5
          have hRv6L26 := hRv6
          have hRv7L26 := hRv7
          have hRv8L26 := hRv8
          have hRv9L26 := hRv9
          have hrelxs68L26 := hrelxs68
          have hRgg171L26 := hRgg171
          have hrelxs75L26 := hrelxs75
          have hvv163L26 := hvv163
          have hagg2L26 := hagg2
          obtain ⟨gg173, hlegg173, hRgg173, hs⟩ := hs.relRow (i := 0) rfl hvv163
          replace hRv4 := hRv4.mono hlegg173
          replace hRv5 := hRv5.mono hlegg173
          replace hRv6 := hRv6.mono hlegg173
          replace hRv7 := hRv7.mono hlegg173
          replace hRv8 := hRv8.mono hlegg173
          replace hRv9 := hRv9.mono hlegg173
          replace hrelxs68 := hrelxs68.mono hlegg173
          replace hRgg171 := hRgg171.mono hlegg173
          replace hrelxs75 := hrelxs75.mono hlegg173
          replace hagg2 := hagg2.trans hlegg173
          obtain ⟨gg174, hlegg174, hRgg174, hs⟩ := hs.relRow (i := 0) rfl hrelxs75
          replace hRv4 := hRv4.mono hlegg174
          replace hRv5 := hRv5.mono hlegg174
          replace hRv6 := hRv6.mono hlegg174
          replace hRv7 := hRv7.mono hlegg174
          replace hRv8 := hRv8.mono hlegg174
          replace hRv9 := hRv9.mono hlegg174
          replace hrelxs68 := hrelxs68.mono hlegg174
          replace hRgg171 := hRgg171.mono hlegg174
          replace hRgg173 := hRgg173.mono hlegg174
          replace hagg2 := hagg2.trans hlegg174
          obtain ⟨gg175, hlegg175, hRgg175, hs⟩ := hs.relRow (i := 0) rfl hrelxs68
          replace hRv4 := hRv4.mono hlegg175
          replace hRv5 := hRv5.mono hlegg175
          replace hRv6 := hRv6.mono hlegg175
          replace hRv7 := hRv7.mono hlegg175
          replace hRv8 := hRv8.mono hlegg175
          replace hRv9 := hRv9.mono hlegg175
          replace hRgg171 := hRgg171.mono hlegg175
          replace hRgg173 := hRgg173.mono hlegg175
          replace hRgg174 := hRgg174.mono hlegg175
          replace hagg2 := hagg2.trans hlegg175
          refine C [.agg (List.toArray (α := Value) [v7, v8, v9]), .agg (List.toArray (α := Value) [v163, v162, v149])] cf17 rfl (dfa_Difference_ok hrv6 hs.imm (⟨[v7], [v8], [v9], rfl, ⟨_, rfl, hRv7⟩, ⟨_, rfl, hRv8⟩, ⟨_, rfl, hRv9⟩⟩) (⟨[v163], [v162], [v149], rfl, ⟨_, rfl, hRgg173⟩, ⟨_, rfl, hRgg174⟩, ⟨_, rfl, hRgg175⟩⟩)) rfl ?_
          rintro v164 wv108 ⟨gg176, hvv164, hegg176⟩
          obtain ⟨gg177, hlegg177, hs⟩ := hsL26.lent hegg176
          replace hRv4 := hRv4L26.mono hlegg177
          replace hRv5 := hRv5L26.mono hlegg177
          replace hRv6 := hRv6L26.mono hlegg177
          replace hRv7 := hRv7L26.mono hlegg177
          replace hRv8 := hRv8L26.mono hlegg177
          replace hRv9 := hRv9L26.mono hlegg177
          replace hrelxs68 := hrelxs68L26.mono hlegg177
          replace hRgg171 := hRgg171L26.mono hlegg177
          replace hrelxs75 := hrelxs75L26.mono hlegg177
          replace hvv163 := hvv163L26.mono hlegg177
          replace hagg2 := hagg2L26.trans hlegg177
          obtain ⟨v165, v166, rfl, hvv165, hvv166⟩ := hvv164
          obtain ⟨cs61, rfl, hcs61⟩ := hvv166
          have hcs61 : cs61 = _ := hcs61; subst hcs61
          obtain ⟨cs62, rfl, hcs62⟩ := hvv165
          have hcs62 : cs62 = _ := hcs62; subst hcs62
          refine OW_nil ?_
          have hS : SS g0 w0 gg2 [Go.Lx.box b2 25 ([v4, v5, v6]), Go.Lx.box b1 25 ([v7, v8, v9])] _ := ⟨gg177, hagg2, (hs.sub (.cons _ (.cons _ (.cons _ (.cons_cons _ (.cons_cons _ .slnil))))))⟩
          refine ⟨fun _ => hS, ?_⟩
          refine A rfl hS (fun w9 h9 => by obtain ⟨g9, hle9, hs⟩ := h9; exact r_move (v := .tuple #[encS rv6.1, .bool rv6.2]) rfl) rfl ?_
          refine A rfl hS (fun w9 h9 => by obtain ⟨g9, hle9, hs⟩ := h9; exact r_extract (vs := [encS rv6.1, .bool rv6.2]) (v := encS rv6.1) rfl rfl) rfl ?_
          refine A rfl hS (fun w9 h9 => by obtain ⟨g9, hle9, hs⟩ := h9; exact r_extract (vs := [encS rv6.1, .bool rv6.2]) (v := .bool rv6.2) rfl rfl) rfl ?_
          refine A rfl hS (fun w9 h9 => by obtain ⟨g9, hle9, hs⟩ := h9; exact r_assign (v := encS rv6.1) rfl) rfl ?_
          refine A rfl hS (fun w9 h9 => by obtain ⟨g9, hle9, hs⟩ := h9; exact r_assign (v := .bool rv6.2) rfl) rfl ?_
          refine AN ?_
          simp only [Option.some.injEq, Prod.mk.injEq] at hM
          obtain ⟨rfl, rfl⟩ := hM
          exact ⟨gg177, rfl, rfl, rfl, rfl, rfl, hagg2, (hs.sub (.cons _ (.cons _ (.cons _ (.cons_cons _ (.cons_cons _ .slnil))))))⟩
        trivial
      trivial
    trivial
  · clear hs
    rintro E w ⟨gg90, hE1, hE2, hE4, hE5, hE6, hlegg90, hs⟩
    have hM := hKhx1
    obtain ⟨E, rfl⟩ := open1 (E := E) hE1
    obtain ⟨E, rfl⟩ := open1 (E := E) hE2
    obtain ⟨E, rfl⟩ := open1 (E := E) hE4
    obtain ⟨E, rfl⟩ := open1 (E := E) hE5
    obtain ⟨E, rfl⟩ := open1 (E := E) hE6
    replace hRv7 := hRv7.mono hlegg90
    replace hRv8 := hRv8.mono hlegg90
    replace hRv9 := hRv9.mono hlegg90
    replace hRv4 := hRv4.mono hlegg90
    replace hRv5 := hRv5.mono hlegg90
    replace hRv6 := hRv6.mono hlegg90
    obtain ⟨xv3, hx2, hKhx2⟩ := bindS hM
    refine WP_cut (fun E w => ∃ (gg187 : Hp), E 0 = .bool xv3 ∧ Hle gg90 gg187 ∧ Go.Lx.Sep g0 w0 gg187 w []) ?_ ?_
    · have hM := hx2
      have hagg90 := Hle.refl gg90
      refine WP_any (.q 0 (.s 1 (.q 2 (.q 3 (.s 4 (.q 5 (.q 6 (.q 7 (.q 8 (.s 9 (.q 10 (.q 11 (.q 12 (.q 13 (.s 14 (.q 15 (.q 16 (.q 17 (.q 18 (.s 19 (.q 20 (.q 21 (.q 22 (.q 23 (.q 25 (.s 24 (.s 26 (.q 27 (.q 28 (.q 29 (.q 31 (.s 30 (.s 32 (.q 33 (.q 34 (.q 35 (.q 36 (.q 37 (.q 38 (.q 39 (.q 40 (.q 41 (.q 42 (.q 43 (.q 44 (.q 45 (.leaf))))))))))))))))))))))))))))))))))))))))))))))) (SS g0 w0 gg90 [Go.Lx.box b2 25 ([v4, v5, v6]), Go.Lx.box b1 25 ([v7, v8, v9])]) mo (by decide +kernel) (fun _ _ _ h => h) ?_
      have hs := hs.drew
      have hRv7b := hRv7
      have hRv8b := hRv8
      have hRv9b := hRv9
      have hRv4b := hRv4
      have hRv5b := hRv5
      have hRv6b := hRv6
      have hS : SS g0 w0 gg90 [Go.Lx.box b2 25 ([v4, v5, v6]), Go.Lx.box b1 25 ([v7, v8, v9])] _ := ⟨gg90, Hle.refl _, hs⟩
      refine A rfl hS (fun w9 h9 => by obtain ⟨g9, hle9, hs⟩ := h9; exact r_loadN (cs := [v7, v8, v9]) ti25 rfl rfl (hs.cells (i := 1) rfl)) rfl ?_
      refine A1 rfl ?_
      obtain ⟨rv16, hrv16, hM⟩ := bindS hM
      refine C [.agg (List.toArray (α := Value) [v7, v8, v9])] cf11 rfl (dfa_Valid_ok hrv16 hs.imm (⟨[v7], [v8], [v9], rfl, ⟨_, rfl, hRv7⟩, ⟨_, rfl, hRv8⟩, ⟨_, rfl, hRv9⟩⟩)) rfl ?_
      rintro v182 wv118 ⟨gg188, hvv182, hegg188⟩
      have hlegg188 := hegg188.le hs.imm
      replace hs := hs.call hegg188
      replace hRv7 := hRv7.mono hlegg188
      replace hRv8 := hRv8.mono hlegg188
      replace hRv9 := hRv9.mono hlegg188
      replace hRv4 := hRv4.mono hlegg188
      replace hRv5 := hRv5.mono hlegg188
      replace hRv6 := hRv6.mono hlegg188
      replace hagg90 := hagg90.trans hlegg188
      obtain ⟨cs78, rfl, hcs78⟩ := hvv182
      have hcs78 : cs78 = _ := hcs78; subst hcs78
      refine OW_nil ?_
      have hS : SS g0 w0 gg90 [Go.Lx.box b2 25 ([v4, v5, v6]), Go.Lx.box b1 25 ([v7, v8, v9])] _ := ⟨gg188, hagg90, hs⟩
      refine ⟨fun _ => hS, ?_⟩
      refine A rfl hS (fun w9 h9 => by obtain ⟨g9, hle9, hs⟩ := h9; exact r_move (v := .bool rv16) rfl) rfl ?_
      rcases condS hM with ⟨hg10, hM⟩ | ⟨hg10, hM⟩
      · refine AG rfl rfl rfl rfl (by rw [hg10]; rfl) hS (fun w9 h9 => by obtain ⟨g9, hle9, hs⟩ := h9; exact r_build (vs := []) (cs := [.slice none 0 0, .slice none 0 0, .slice none 0 0]) rfl (built_fill [(0, 1), (1, 1), (2, 1)] [.slice none 0 0, .slice none 0 0, .slice none 0 0] (fun _ => by kernel_rfl) (fill_done))) rfl ?_
        refine A1 rfl ?_
        obtain ⟨rv17, hrv17, hM⟩ := bindS hM
        refine CG rfl rfl rfl (by rw [hg10]; rfl) [.agg (List.toArray (α := Value) [.slice none 0 0, .slice none 0 0, .slice none 0 0])] cf11 rfl (dfa_Valid_ok hrv17 hs.imm (⟨[.slice none 0 0], [.slice none 0 0], [.slice none 0 0], rfl, ⟨_, rfl, RdS.nil⟩, ⟨_, rfl, RdS.nil⟩, ⟨_, rfl, RdS.nil⟩⟩)) rfl ?_
        rintro v183 wv119 ⟨gg189, hvv183, hegg189⟩
        have hlegg189 := hegg189.le hs.imm
        replace hs := hs.call hegg189
        replace hRv7 := hRv7.mono hlegg189
        replace hRv8 := hRv8.mono hlegg189
        replace hRv9 := hRv9.mono hlegg189
        replace hRv4 := hRv4.mono hlegg189
        replace hRv5 := hRv5.mono hlegg189
        replace hRv6 := hRv6.mono hlegg189
        replace hagg90 := hagg90.trans hlegg189
        obtain ⟨cs79, rfl, hcs79⟩ := hvv183
        have hcs79 : cs79 = _ := hcs79; subst hcs79
        refine OW_nil ?_
        have hS : SS g0 w0 gg90 [Go.Lx.box b2 25 ([v4, v5, v6]), Go.Lx.box b1 25 ([v7, v8, v9])] _ := ⟨gg189, hagg90, hs⟩
        refine ⟨fun _ => hS, ?_⟩
        refine AG rfl rfl rfl rfl (by rw [hg10]; rfl) hS (fun w9 h9 => by obtain ⟨g9, hle9, hs⟩ := h9; exact r_not rfl) rfl ?_
        refine A rfl hS (fun w9 h9 => by obtain ⟨g9, hle9, hs⟩ := h9; exact r_pickT (v := .bool (!rv17)) rfl hg10 rfl) rfl ?_
        refine A rfl hS (fun w9 h9 => by obtain ⟨g9, hle9, hs⟩ := h9; exact r_move (v := .bool (!rv17)) rfl) rfl ?_
        rcases condS hM with ⟨hg11, hM⟩ | ⟨hg11, hM⟩
        · refine AG rfl rfl rfl rfl (by rw [hg11]; rfl) hS (fun w9 h9 => by obtain ⟨g9, hle9, hs⟩ := h9; exact r_loadN (cs := [v7, v8, v9]) ti25 rfl rfl (hs.cells (i := 1) rfl)) rfl ?_
          refine A1 rfl ?_
          obtain ⟨rv18, hrv18, hM⟩ := bindS hM
          refine CG rfl rfl rfl (by rw [hg11]; rfl) [.agg (List.toArray (α := Value) [v7, v8, v9]), encS [97, 97]] cf12 rfl (dfa_Run_ok hrv18 hs.imm (⟨[v7], [v8], [v9], rfl, ⟨_, rfl, hRv7⟩, ⟨_, rfl, hRv8⟩, ⟨_, rfl, hRv9⟩⟩)) rfl ?_
          rintro v184 wv120 ⟨gg190, hvv184, hegg190⟩
          have hlegg190 := hegg190.le hs.imm
          replace hs := hs.call hegg190
          replace hRv7 := hRv7.mono hlegg190
          replace hRv8 := hRv8.mono hlegg190
          replace hRv9 := hRv9.mono hlegg190
          replace hRv4 := hRv4.mono hlegg190
          replace hRv5 := hRv5.mono hlegg190
          replace hRv6 := hRv6.mono hlegg190
          replace hagg90 := hagg90.trans hlegg190
          obtain ⟨cs80, rfl, hcs80⟩ := hvv184
          have hcs80 : cs80 = _ := hcs80; subst hcs80
          refine OW_nil ?_
          have hS : SS g0 w0 gg90 [Go.Lx.box b2 25 ([v4, v5, v6]), Go.Lx.box b1 25 ([v7, v8, v9])] _ := ⟨gg190, hagg90, hs⟩
          refine ⟨fun _ => hS, ?_⟩
          refine AG rfl rfl rfl rfl (by rw [hg11]; rfl) hS (fun w9 h9 => by obtain ⟨g9, hle9, hs⟩ := h9; exact r_eql rfl rfl) rfl ?_
          refine A rfl hS (fun w9 h9 => by obtain ⟨g9, hle9, hs⟩ := h9; exact r_pickT (v := .bool (rv18 == 0)) rfl hg11 rfl) rfl ?_
          refine A rfl hS (fun w9 h9 => by obtain ⟨g9, hle9, hs⟩ := h9; exact r_move (v := .bool (rv18 == 0)) rfl) rfl ?_
          rcases condS hM with ⟨hg12, hM⟩ | ⟨hg12, hM⟩
          · refine AG rfl rfl rfl rfl (by rw [hg12]; rfl) hS (fun w9 h9 => by obtain ⟨g9, hle9, hs⟩ := h9; exact r_loadN (cs := [v7, v8, v9]) ti25 rfl rfl (hs.cells (i := 1) rfl)) rfl ?_
            refine A1 rfl ?_
            obtain ⟨rv19, hrv19, hM⟩ := bindS hM
            refine CG rfl rfl rfl (by rw [hg12]; rfl) [.agg (List.toArray (α := Value) [v7, v8, v9]), encS []] cf12 rfl (dfa_Run_ok hrv19 hs.imm (⟨[v7], [v8], [v9], rfl, ⟨_, rfl, hRv7⟩, ⟨_, rfl, hRv8⟩, ⟨_, rfl, hRv9⟩⟩)) rfl ?_
            rintro v185 wv121 ⟨gg191, hvv185, hegg191⟩
            have hlegg191 := hegg191.le hs.imm
            replace hs := hs.call hegg191
            replace hRv7 := hRv7.mono hlegg191
            replace hRv8 := hRv8.mono hlegg191
            replace hRv9 := hRv9.mono hlegg191
            replace hRv4 := hRv4.mono hlegg191
            replace hRv5 := hRv5.mono hlegg191
            replace hRv6 := hRv6.mono hlegg191
            replace hagg90 := hagg90.trans hlegg191
            obtain ⟨cs81, rfl, hcs81⟩ := hvv185
            have hcs81 : cs81 = _ := hcs81; subst hcs81
            refine OW_nil ?_
            have hS : SS g0 w0 gg90 [Go.Lx.box b2 25 ([v4, v5, v6]), Go.Lx.box b1 25 ([v7, v8, v9])] _ := ⟨gg191, hagg90, hs⟩
            refine ⟨fun _ => hS, ?_⟩
            refine AG rfl rfl rfl rfl (by rw [hg12]; rfl) hS (fun w9 h9 => by obtain ⟨g9, hle9, hs⟩ := h9; exact r_eql rfl rfl) rfl ?_
            refine A rfl hS (fun w9 h9 => by obtain ⟨g9, hle9, hs⟩ := h9; exact r_pickT (v := .bool (rv19 == (-1))) rfl hg12 rfl) rfl ?_
            refine A rfl hS (fun w9 h9 => by obtain ⟨g9, hle9, hs⟩ := h9; exact r_move (v := .bool (rv19 == (-1))) rfl) rfl ?_
            rcases condS hM with ⟨hg13, hM⟩ | ⟨hg13, hM⟩
            · refine AG rfl rfl rfl rfl (by rw [hg13]; rfl) hS (fun w9 h9 => by obtain ⟨g9, hle9, hs⟩ := h9; exact r_loadN (cs := [v7, v8, v9]) ti25 rfl rfl (hs.cells (i := 1) rfl)) rfl ?_
              refine A1 rfl ?_
              obtain ⟨rv20, hrv20, hM⟩ := bindS hM
              refine CG rfl rfl rfl (by rw [hg13]; rfl) [.agg (List.toArray (α := Value) [v7, v8, v9]), encS [97, 98]] cf12 rfl (dfa_Run_ok hrv20 hs.imm (⟨[v7], [v8], [v9], rfl, ⟨_, rfl, hRv7⟩, ⟨_, rfl, hRv8⟩, ⟨_, rfl, hRv9⟩⟩)) rfl ?_
              rintro v186 wv122 ⟨gg192, hvv186, hegg192⟩
              have hlegg192 := hegg192.le hs.imm
              replace hs := hs.call hegg192
              replace hRv7 := hRv7.mono hlegg192
              replace hRv8 := hRv8.mono hlegg192
              replace hRv9 := hRv9.mono hlegg192
              replace hRv4 := hRv4.mono hlegg192
              replace hRv5 := hRv5.mono hlegg192
              replace hRv6 := hRv6.mono hlegg192
              replace hagg90 := hagg90.trans hlegg192
              obtain ⟨cs82, rfl, hcs82⟩ := hvv186
              have hcs82 : cs82 = _ := hcs82; subst hcs82
              refine OW_nil ?_
              have hS : SS g0 w0 gg90 [Go.Lx.box b2 25 ([v4, v5, v6]), Go.Lx.box b1 25 ([v7, v8, v9])] _ := ⟨gg192, hagg90, hs⟩
              refine ⟨fun _ => hS, ?_⟩
              refine AG rfl rfl rfl rfl (by rw [hg13]; rfl) hS (fun w9 h9 => by obtain ⟨g9, hle9, hs⟩ := h9; exact r_eql rfl rfl) rfl ?_
              refine A rfl hS (fun w9 h9 => by obtain ⟨g9, hle9, hs⟩ := h9; exact r_pickT (v := .bool (rv20 == (-1))) rfl hg13 rfl) rfl ?_
              refine A rfl hS (fun w9 h9 => by obtain ⟨g9, hle9, hs⟩ := h9; exact r_move (v := .bool (rv20 == (-1))) rfl) rfl ?_
              rcases condS hM with ⟨hg14, hM⟩ | ⟨hg14, hM⟩
              · refine AG rfl rfl rfl rfl (by rw [hg14]; rfl) hS (fun w9 h9 => by obtain ⟨g9, hle9, hs⟩ := h9; exact r_loadN (cs := [v4, v5, v6]) ti25 rfl rfl (hs.cells (i := 0) rfl)) rfl ?_
                refine AG rfl rfl rfl rfl (by rw [hg14]; rfl) hS (fun w9 h9 => by obtain ⟨g9, hle9, hs⟩ := h9; exact r_loadN (cs := [v7, v8, v9]) ti25 rfl rfl (hs.cells (i := 1) rfl)) rfl ?_
                refine A1 rfl ?_
                obtain ⟨rv21, hrv21, hM⟩ := bindS hM
                refine CG rfl rfl rfl (by rw [hg14]; rfl) [.agg (List.toArray (α := Value) [v4, v5, v6])] cf15 rfl (dfa_Minimize_ok hrv21 hs.imm (⟨[v4], [v5], [v6], rfl, ⟨_, rfl, hRv4⟩, ⟨_, rfl, hRv5⟩, ⟨_, rfl, hRv6⟩⟩)) rfl ?_
                rintro v187 wv123 ⟨gg193, hvv187, hegg193⟩
                have hlegg193 := hegg193.le hs.imm
                replace hs := hs.call hegg193
                replace hRv7 := hRv7.mono hlegg193
                replace hRv8 := hRv8.mono hlegg193
                replace hRv9 := hRv9.mono hlegg193
                replace hRv4 := hRv4.mono hlegg193
                replace hRv5 := hRv5.mono hlegg193
                replace hRv6 := hRv6.mono hlegg193
                replace hagg90 := hagg90.trans hlegg193
                obtain ⟨cs83, rfl, hcs83⟩ := hvv187
                obtain ⟨cs84, cs85, cs86, rfl, hcs84, hcs85, hcs86⟩ := hcs83
                obtain ⟨v188, rfl, hRv188⟩ := hcs84
                obtain ⟨v189, rfl, hRv189⟩ := hcs85
                obtain ⟨v190, rfl, hRv190⟩ := hcs86
                refine OW_nil ?_
                have hS : SS g0 w0 gg90 [Go.Lx.box b2 25 ([v4, v5, v6]), Go.Lx.box b1 25 ([v7, v8, v9])] _ := ⟨gg193, hagg90, hs⟩
                refine ⟨fun _ => hS, ?_⟩
                refine A1 rfl ?_
                obtain ⟨rv22, hrv22, hM⟩ := bindS hM
                refine CG rfl rfl rfl (by rw [hg14]; rfl) [.agg (List.toArray (α := Value) [v188, v189, v190]), .agg (List.toArray (α := Value) [v7, v8, v9])] cf16 rfl (ref10_Same_ok hrv22 hs.imm (⟨[v188], [v189], [v190], rfl, ⟨_, rfl, hRv188⟩, ⟨_, rfl, hRv189⟩, ⟨_, rfl, hRv190⟩⟩) (⟨[v7], [v8], [v9], rfl, ⟨_, rfl, hRv7⟩, ⟨_, rfl, hRv8⟩, ⟨_, rfl, hRv9⟩⟩)) rfl ?_
                rintro v191 wv124 ⟨gg194, hvv191, hegg194⟩
                have hlegg194 := hegg194.le hs.imm
                replace hs := hs.call hegg194
                replace hRv7 := hRv7.mono hlegg194
                replace hRv8 := hRv8.mono hlegg194
                replace hRv9 := hRv9.mono hlegg194
                replace hRv4 := hRv4.mono hlegg194
                replace hRv5 := hRv5.mono hlegg194
                replace hRv6 := hRv6.mono hlegg194
                replace hRv188 := hRv188.mono hlegg194
                replace hRv189 := hRv189.mono hlegg194
                replace hRv190 := hRv190.mono hlegg194
                replace hagg90 := hagg90.trans hlegg194
                obtain ⟨cs87, rfl, hcs87⟩ := hvv191
                have hcs87 : cs87 = _ := hcs87; subst hcs87
                refine OW_nil ?_
                have hS : SS g0 w0 gg90 [Go.Lx.box b2 25 ([v4, v5, v6]), Go.Lx.box b1 25 ([v7, v8, v9])] _ := ⟨gg194, hagg90, hs⟩
                refine ⟨fun _ => hS, ?_⟩
                refine A rfl hS (fun w9 h9 => by obtain ⟨g9, hle9, hs⟩ := h9; exact r_pickT (v := .bool rv22) rfl hg14 rfl) rfl ?_
                refine A rfl hS (fun w9 h9 => by obtain ⟨g9, hle9, hs⟩ := h9; exact r_move (v := .bool rv22) rfl) rfl ?_
                rcases condS hM with ⟨hg15, hM⟩ | ⟨hg15, hM⟩
                · refine AG rfl rfl rfl rfl (by rw [hg15]; rfl) hS (fun w9 h9 => by obtain ⟨g9, hle9, hs⟩ := h9; exact r_loadN (cs := [v7, v8, v9]) ti25 rfl rfl (hs.cells (i := 1) rfl)) rfl ?_
                  refine AG rfl rfl rfl rfl (by rw [hg15]; rfl) hS (fun w9 h9 => by obtain ⟨g9, hle9, hs⟩ := h9; exact r_loadN (cs := [v7, v8, v9]) ti25 rfl rfl (hs.cells (i := 1) rfl)) rfl ?_
                  refine A1 rfl ?_
                  obtain ⟨rv23, hrv23, hM⟩ := bindS hM
                  refine CG rfl rfl rfl (by rw [hg15]; rfl) [.agg (List.toArray (α := Value) [v7, v8, v9])] cf15 rfl (dfa_Minimize_ok hrv23 hs.imm (⟨[v7], [v8], [v9], rfl, ⟨_, rfl, hRv7⟩, ⟨_, rfl, hRv8⟩, ⟨_, rfl, hRv9⟩⟩)) rfl ?_
                  rintro v192 wv125 ⟨gg195, hvv192, hegg195⟩
                  have hlegg195 := hegg195.le hs.imm
                  replace hs := hs.call hegg195
                  replace hRv7 := hRv7.mono hlegg195
                  replace hRv8 := hRv8.mono hlegg195
                  replace hRv9 := hRv9.mono hlegg195
                  replace hRv4 := hRv4.mono hlegg195
                  replace hRv5 := hRv5.mono hlegg195
                  replace hRv6 := hRv6.mono hlegg195
                  replace hRv188 := hRv188.mono hlegg195
                  replace hRv189 := hRv189.mono hlegg195
                  replace hRv190 := hRv190.mono hlegg195
                  replace hagg90 := hagg90.trans hlegg195
                  obtain ⟨cs88, rfl, hcs88⟩ := hvv192
                  obtain ⟨cs89, cs90, cs91, rfl, hcs89, hcs90, hcs91⟩ := hcs88
                  obtain ⟨v193, rfl, hRv193⟩ := hcs89
                  obtain ⟨v194, rfl, hRv194⟩ := hcs90
                  obtain ⟨v195, rfl, hRv195⟩ := hcs91
                  refine OW_nil ?_
                  have hS : SS g0 w0 gg90 [Go.Lx.box b2 25 ([v4, v5, v6]), Go.Lx.box b1 25 ([v7, v8, v9])] _ := ⟨gg195, hagg90, hs⟩
                  refine ⟨fun _ => hS, ?_⟩
                  refine A1 rfl ?_
                  obtain ⟨rv24, hrv24, hM⟩ := bindS hM
                  refine CG rfl rfl rfl (by rw [hg15]; rfl) [.agg (List.toArray (α := Value) [v193, v194, v195]), .agg (List.toArray (α := Value) [v7, v8, v9])] cf16 rfl (ref10_Same_ok hrv24 hs.imm (⟨[v193], [v194], [v195], rfl, ⟨_, rfl, hRv193⟩, ⟨_, rfl, hRv194⟩, ⟨_, rfl, hRv195⟩⟩) (⟨[v7], [v8], [v9], rfl, ⟨_, rfl, hRv7⟩, ⟨_, rfl, hRv8⟩, ⟨_, rfl, hRv9⟩⟩)) rfl ?_
                  rintro v196 wv126 ⟨gg196, hvv196, hegg196⟩
                  have hlegg196 := hegg196.le hs.imm
                  replace hs := hs.call hegg196
                  replace hRv7 := hRv7.mono hlegg196
                  replace hRv8 := hRv8.mono hlegg196
                  replace hRv9 := hRv9.mono hlegg196
                  replace hRv4 := hRv4.mono hlegg196
                  replace hRv5 := hRv5.mono hlegg196
                  replace hRv6 := hRv6.mono hlegg196
                  replace hRv188 := hRv188.mono hlegg196
                  replace hRv189 := hRv189.mono hlegg196
                  replace hRv190 := hRv190.mono hlegg196
                  replace hRv193 := hRv193.mono hlegg196
                  replace hRv194 := hRv194.mono hlegg196
                  replace hRv195 := hRv195.mono hlegg196
                  replace hagg90 := hagg90.trans hlegg196
                  obtain ⟨cs92, rfl, hcs92⟩ := hvv196
                  have hcs92 : cs92 = _ := hcs92; subst hcs92
                  refine OW_nil ?_
                  have hS : SS g0 w0 gg90 [Go.Lx.box b2 25 ([v4, v5, v6]), Go.Lx.box b1 25 ([v7, v8, v9])] _ := ⟨gg196, hagg90, hs⟩
                  refine ⟨fun _ => hS, ?_⟩
                  refine A rfl hS (fun w9 h9 => by obtain ⟨g9, hle9, hs⟩ := h9; exact r_pickT (v := .bool rv24) rfl hg15 rfl) rfl ?_
                  refine A rfl hS (fun w9 h9 => by obtain ⟨g9, hle9, hs⟩ := h9; exact r_move (v := .bool rv24) rfl) rfl ?_
                  rcases condS hM with ⟨hg16, hM⟩ | ⟨hg16, hM⟩
                  · refine AG rfl rfl rfl rfl (by rw [hg16]; rfl) hS (fun w9 h9 => by obtain ⟨g9, hle9, hs⟩ := h9; exact r_move (v := .bool rv2.2) rfl) rfl ?_
                    refine AG rfl rfl rfl rfl (by rw [hg16]; rfl) hS (fun w9 h9 => by obtain ⟨g9, hle9, hs⟩ := h9; exact r_not rfl) rfl ?_
                    refine A rfl hS (fun w9 h9 => by obtain ⟨g9, hle9, hs⟩ := h9; exact r_pickT (v := .bool (!rv2.2)) rfl hg16 rfl) rfl ?_
                    refine A rfl hS (fun w9 h9 => by obtain ⟨g9, hle9, hs⟩ := h9; exact r_move (v := .bool (!rv2.2)) rfl) rfl ?_
                    rcases condS hM with ⟨hg17, hM⟩ | ⟨hg17, hM⟩
                    · refine AG rfl rfl rfl rfl (by rw [hg17]; rfl) hS (fun w9 h9 => by obtain ⟨g9, hle9, hs⟩ := h9; exact r_move (v := .bool xv2) rfl) rfl ?_
                      refine A rfl hS (fun w9 h9 => by obtain ⟨g9, hle9, hs⟩ := h9; exact r_pickT (v := .bool xv2) rfl hg17 rfl) rfl ?_
                      refine A rfl hS (fun w9 h9 => by obtain ⟨g9, hle9, hs⟩ := h9; exact r_move (v := .bool xv2) rfl) rfl ?_
                      rcases condS hM with ⟨hg18, hM⟩ | ⟨hg18, hM⟩
                      · refine AG rfl rfl rfl rfl (by rw [hg18]; rfl) hS (fun w9 h9 => by obtain ⟨g9, hle9, hs⟩ := h9; exact r_move (v := encS xv1) rfl) rfl ?_
                        refine AG rfl rfl rfl rfl (by rw [hg18]; rfl) hS (fun w9 h9 => by obtain ⟨g9, hle9, hs⟩ := h9; exact r_eqlS rfl rfl) rfl ?_
                        refine A rfl hS (fun w9 h9 => by obtain ⟨g9, hle9, hs⟩ := h9; exact r_pickT (v := .bool (xv1 == [97])) rfl hg18 rfl) rfl ?_
                        refine A rfl hS (fun w9 h9 => by obtain ⟨g9, hle9, hs⟩ := h9; exact r_assign (v := .bool (xv1 == [97])) rfl) rfl ?_
                        refine AN ?_
                        obtain rfl := Option.some.inj hM
                        exact ⟨gg196, rfl, hagg90, (hs.sub (.cons _ (.cons _ .slnil)))⟩
                      · refine AK rfl rfl rfl rfl (by rw [hg18]; rfl) hS rfl ?_
                        refine AK rfl rfl rfl rfl (by rw [hg18]; rfl) hS rfl ?_
                        refine A rfl hS (fun w9 h9 => by obtain ⟨g9, hle9, hs⟩ := h9; exact r_pickF (v := .bool false) rfl hg18 rfl) rfl ?_
                        refine A rfl hS (fun w9 h9 => by obtain ⟨g9, hle9, hs⟩ := h9; exact r_assign (v := .bool false) rfl) rfl ?_
                        refine AN ?_
                        obtain rfl := Option.some.inj hM
                        exact ⟨gg196, rfl, hagg90, (hs.sub (.cons _ (.cons _ .slnil)))⟩
                    · refine AK rfl rfl rfl rfl (by rw [hg17]; rfl) hS rfl ?_
                      refine A rfl hS (fun w9 h9 => by obtain ⟨g9, hle9, hs⟩ := h9; exact r_pickF (v := .bool false) rfl hg17 rfl) rfl ?_
                      refine A rfl hS (fun w9 h9 => by obtain ⟨g9, hle9, hs⟩ := h9; exact r_move (v := .bool false) rfl) rfl ?_
                      refine AK rfl rfl rfl rfl rfl hS rfl ?_
                      refine AK rfl rfl rfl rfl rfl hS rfl ?_
                      refine A rfl hS (fun w9 h9 => by obtain ⟨g9, hle9, hs⟩ := h9; exact r_pickF (v := .bool false) rfl rfl rfl) rfl ?_
                      refine A rfl hS (fun w9 h9 => by obtain ⟨g9, hle9, hs⟩ := h9; exact r_assign (v := .bool false) rfl) rfl ?_
                      refine AN ?_
                      obtain rfl := Option.some.inj hM
                      exact ⟨gg196, rfl, hagg90, (hs.sub (.cons _ (.cons _ .slnil)))⟩
                  · refine AK rfl rfl rfl rfl (by rw [hg16]; rfl) hS rfl ?_
                    refine AK rfl rfl rfl rfl (by rw [hg16]; rfl) hS rfl ?_
                    refine A rfl hS (fun w9 h9 => by obtain ⟨g9, hle9, hs⟩ := h9; exact r_pickF (v := .bool false) rfl hg16 rfl) rfl ?_
                    refine A rfl hS (fun w9 h9 => by obtain ⟨g9, hle9, hs⟩ := h9; exact r_move (v := .bool false) rfl) rfl ?_
                    refine AK rfl rfl rfl rfl rfl hS rfl ?_
                    refine A rfl hS (fun w9 h9 => by obtain ⟨g9, hle9, hs⟩ := h9; exact r_pickF (v := .bool false) rfl rfl rfl) rfl ?_
                    refine A rfl hS (fun w9 h9 => by obtain ⟨g9, hle9, hs⟩ := h9; exact r_move (v := .bool false) rfl) rfl ?_
                    refine AK rfl rfl rfl rfl rfl hS rfl ?_
                    refine AK rfl rfl rfl rfl rfl hS rfl ?_
                    refine A rfl hS (fun w9 h9 => by obtain ⟨g9, hle9, hs⟩ := h9; exact r_pickF (v := .bool false) rfl rfl rfl) rfl ?_
                    refine A rfl hS (fun w9 h9 => by obtain ⟨g9, hle9, hs⟩ := h9; exact r_assign (v := .bool false) rfl) rfl ?_
                    refine AN ?_
                    obtain rfl := Option.some.inj hM
                    exact ⟨gg196, rfl, hagg90, (hs.sub (.cons _ (.cons _ .slnil)))⟩
                · refine AK rfl rfl rfl rfl (by rw [hg15]; rfl) hS rfl ?_
                  refine AK rfl rfl rfl rfl (by rw [hg15]; rfl) hS rfl ?_
                  refine A1 rfl ?_
                  refine OK rfl rfl rfl (by rw [hg15]; rfl) rfl ?_
                  refine OW_nil ⟨fun _ => hS, ?_⟩
                  refine A1 rfl ?_
                  refine OK rfl rfl rfl (by rw [hg15]; rfl) rfl ?_
                  refine OW_nil ⟨fun _ => hS, ?_⟩
                  refine A rfl hS (fun w9 h9 => by obtain ⟨g9, hle9, hs⟩ := h9; exact r_pickF (v := .bool false) rfl hg15 rfl) rfl ?_
                  refine A rfl hS (fun w9 h9 => by obtain ⟨g9, hle9, hs⟩ := h9; exact r_move (v := .bool false) rfl) rfl ?_
                  refine AK rfl rfl rfl rfl rfl hS rfl ?_
                  refine AK rfl rfl rfl rfl rfl hS rfl ?_
                  refine A rfl hS (fun w9 h9 => by obtain ⟨g9, hle9, hs⟩ := h9; exact r_pickF (v := .bool false) rfl rfl rfl) rfl ?_
                  refine A rfl hS (fun w9 h9 => by obtain ⟨g9, hle9, hs⟩ := h9; exact r_move (v := .bool false) rfl) rfl ?_
                  refine AK rfl rfl rfl rfl rfl hS rfl ?_
                  refine A rfl hS (fun w9 h9 => by obtain ⟨g9, hle9, hs⟩ := h9; exact r_pickF (v := .bool false) rfl rfl rfl) rfl ?_
                  refine A rfl hS (fun w9 h9 => by obtain ⟨g9, hle9, hs⟩ := h9; exact r_move (v := .bool false) rfl) rfl ?_
                  refine AK rfl rfl rfl rfl rfl hS rfl ?_
                  refine AK rfl rfl rfl rfl rfl hS rfl ?_
                  refine A rfl hS (fun w9 h9 => by obtain ⟨g9, hle9, hs⟩ := h9; exact r_pickF (v := .bool false) rfl rfl rfl) rfl ?_
                  refine A rfl hS (fun w9 h9 => by obtain ⟨g9, hle9, hs⟩ := h9; exact r_assign (v := .bool false) rfl) rfl ?_
                  refine AN ?_
                  obtain rfl := Option.some.inj hM
                  exact ⟨gg194, rfl, hagg90, (hs.sub (.cons _ (.cons _ .slnil)))⟩
              · refine AK rfl rfl rfl rfl (by rw [hg14]; rfl) hS rfl ?_
                refine AK rfl rfl rfl rfl (by rw [hg14]; rfl) hS rfl ?_
                refine A1 rfl ?_
                refine OK rfl rfl rfl (by rw [hg14]; rfl) rfl ?_
                refine OW_nil ⟨fun _ => hS, ?_⟩
                refine A1 rfl ?_
                refine OK rfl rfl rfl (by rw [hg14]; rfl) rfl ?_
                refine OW_nil ⟨fun _ => hS, ?_⟩
                refine A rfl hS (fun w9 h9 => by obtain ⟨g9, hle9, hs⟩ := h9; exact r_pickF (v := .bool false) rfl hg14 rfl) rfl ?_
                refine A rfl hS (fun w9 h9 => by obtain ⟨g9, hle9, hs⟩ := h9; exact r_move (v := .bool false) rfl) rfl ?_
                refine AK rfl rfl rfl rfl rfl hS rfl ?_
                refine AK rfl rfl rfl rfl rfl hS rfl ?_
                refine A1 rfl ?_
                refine OK rfl rfl rfl rfl rfl ?_
                refine OW_nil ⟨fun _ => hS, ?_⟩
                refine A1 rfl ?_
                refine OK rfl rfl rfl rfl rfl ?_
                refine OW_nil ⟨fun _ => hS, ?_⟩
                refine A rfl hS (fun w9 h9 => by obtain ⟨g9, hle9, hs⟩ := h9; exact r_pickF (v := .bool false) rfl rfl rfl) rfl ?_
                refine A rfl hS (fun w9 h9 => by obtain ⟨g9, hle9, hs⟩ := h9; exact r_move (v := .bool false) rfl) rfl ?_
                refine AK rfl rfl rfl rfl rfl hS rfl ?_
                refine AK rfl rfl rfl rfl rfl hS rfl ?_
                refine A rfl hS (fun w9 h9 => by obtain ⟨g9, hle9, hs⟩ := h9; exact r_pickF (v := .bool false) rfl rfl rfl) rfl ?_
                refine A rfl hS (fun w9 h9 => by obtain ⟨g9, hle9, hs⟩ := h9; exact r_move (v := .bool false) rfl) rfl ?_
                refine AK rfl rfl rfl rfl rfl hS rfl ?_
                refine A rfl hS (fun w9 h9 => by obtain ⟨g9, hle9, hs⟩ := h9; exact r_pickF (v := .bool false) rfl rfl rfl) rfl ?_
                refine A rfl hS (fun w9 h9 => by obtain ⟨g9, hle9, hs⟩ := h9; exact r_move (v := .bool false) rfl) rfl ?_
                refine AK rfl rfl rfl rfl rfl hS rfl ?_
                refine AK rfl rfl rfl rfl rfl hS rfl ?_
                refine A rfl hS (fun w9 h9 => by obtain ⟨g9, hle9, hs⟩ := h9; exact r_pickF (v := .bool false) rfl rfl rfl) rfl ?_
                refine A rfl hS (fun w9 h9 => by obtain ⟨g9, hle9, hs⟩ := h9; exact r_assign (v := .bool false) rfl) rfl ?_
                refine AN ?_
                obtain rfl := Option.some.inj hM
                exact ⟨gg192, rfl, hagg90, (hs.sub (.cons _ (.cons _ .slnil)))⟩
            · refine AK rfl rfl rfl rfl (by rw [hg13]; rfl) hS rfl ?_
              refine A1 rfl ?_
              refine OK rfl rfl rfl (by rw [hg13]; rfl) rfl ?_
              refine OW_nil ⟨fun _ => hS, ?_⟩
              refine AK rfl rfl rfl rfl (by rw [hg13]; rfl) hS rfl ?_
              refine A rfl hS (fun w9 h9 => by obtain ⟨g9, hle9, hs⟩ := h9; exact r_pickF (v := .bool false) rfl hg13 rfl) rfl ?_
              refine A rfl hS (fun w9 h9 => by obtain ⟨g9, hle9, hs⟩ := h9; exact r_move (v := .bool false) rfl) rfl ?_
              refine AK rfl rfl rfl rfl rfl hS rfl ?_
              refine AK rfl rfl rfl rfl rfl hS rfl ?_
              refine A1 rfl ?_
              refine OK rfl rfl rfl rfl rfl ?_
              refine OW_nil ⟨fun _ => hS, ?_⟩
              refine A1 rfl ?_
              refine OK rfl rfl rfl rfl rfl ?_
              refine OW_nil ⟨fun _ => hS, ?_⟩
              refine A rfl hS (fun w9 h9 => by obtain ⟨g9, hle9, hs⟩ := h9; exact r_pickF (v := .bool false) rfl rfl rfl) rfl ?_
              refine A rfl hS (fun w9 h9 => by obtain ⟨g9, hle9, hs⟩ := h9; exact r_move (v := .bool false) rfl) rfl ?_
              refine AK rfl rfl rfl rfl rfl hS rfl ?_
              refine AK rfl rfl rfl rfl rfl hS rfl ?_
              refine A1 rfl ?_
              refine OK rfl rfl rfl rfl rfl ?_
              refine OW_nil ⟨fun _ => hS, ?_⟩
              refine A1 rfl ?_
              refine OK rfl rfl rfl rfl rfl ?_
              refine OW_nil ⟨fun _ => hS, ?_⟩
              refine A rfl hS (fun w9 h9 => by obtain ⟨g9, hle9, hs⟩ := h9; exact r_pickF (v := .bool false) rfl rfl rfl) rfl ?_
              refine A rfl hS (fun w9 h9 => by obtain ⟨g9, hle9, hs⟩ := h9; exact r_move (v := .bool false) rfl) rfl ?_
              refine AK rfl rfl rfl rfl rfl hS rfl ?_
              refine AK rfl rfl rfl rfl rfl hS rfl ?_
              refine A rfl hS (fun w9 h9 => by obtain ⟨g9, hle9, hs⟩ := h9; exact r_pickF (v := .bool false) rfl rfl rfl) rfl ?_
              refine A rfl hS (fun w9 h9 => by obtain ⟨g9, hle9, hs⟩ := h9; exact r_move (v := .bool false) rfl) rfl ?_
              refine AK rfl rfl rfl rfl rfl hS rfl ?_
              refine A rfl hS (fun w9 h9 => by obtain ⟨g9, hle9, hs⟩ := h9; exact r_pickF (v := .bool false) rfl rfl rfl) rfl ?_
              refine A rfl hS (fun w9 h9 => by obtain ⟨g9, hle9, hs⟩ := h9; exact r_move (v := .bool false) rfl) rfl ?_
              refine AK rfl rfl rfl rfl rfl hS rfl ?_
              refine AK rfl rfl rfl rfl rfl hS rfl ?_
              refine A rfl hS (fun w9 h9 => by obtain ⟨g9, hle9, hs⟩ := h9; exact r_pickF (v := .bool false) rfl rfl rfl) rfl ?_
              refine A rfl hS (fun w9 h9 => by obtain ⟨g9, hle9, hs⟩ := h9; exact r_assign (v := .bool false) rfl) rfl ?_
              refine AN ?_
              obtain rfl := Option.some.inj hM
              exact ⟨gg191, rfl, hagg90, (hs.sub (.cons _ (.cons _ .slnil)))⟩
          · refine AK rfl rfl rfl rfl (by rw [hg12]; rfl) hS rfl ?_
            refine A1 rfl ?_
            refine OK rfl rfl rfl (by rw [hg12]; rfl) rfl ?_
            refine OW_nil ⟨fun _ => hS, ?_⟩
            refine AK rfl rfl rfl rfl (by rw [hg12]; rfl) hS rfl ?_
            refine A rfl hS (fun w9 h9 => by obtain ⟨g9, hle9, hs⟩ := h9; exact r_pickF (v := .bool false) rfl hg12 rfl) rfl ?_
            refine A rfl hS (fun w9 h9 => by obtain ⟨g9, hle9, hs⟩ := h9; exact r_move (v := .bool false) rfl) rfl ?_
            refine AK rfl rfl rfl rfl rfl hS rfl ?_
            refine A1 rfl ?_
            refine OK rfl rfl rfl rfl rfl ?_
            refine OW_nil ⟨fun _ => hS, ?_⟩
            refine AK rfl rfl rfl rfl rfl hS rfl ?_
            refine A rfl hS (fun w9 h9 => by obtain ⟨g9, hle9, hs⟩ := h9; exact r_pickF (v := .bool false) rfl rfl rfl) rfl ?_
            refine A rfl hS (fun w9 h9 => by obtain ⟨g9, hle9, hs⟩ := h9; exact r_move (v := .bool false) rfl) rfl ?_
            refine AK rfl rfl rfl rfl rfl hS rfl ?_
            refine AK rfl rfl rfl rfl rfl hS rfl ?_
            refine A1 rfl ?_
            refine OK rfl rfl rfl rfl rfl ?_
            refine OW_nil ⟨fun _ => hS, ?_⟩
            refine A1 rfl ?_
            refine OK rfl rfl rfl rfl rfl ?_
            refine OW_nil ⟨fun _ => hS, ?_⟩
            refine A rfl hS (fun w9 h9 => by obtain ⟨g9, hle9, hs⟩ := h9; exact r_pickF (v := .bool false) rfl rfl rfl) rfl ?_
            refine A rfl hS (fun w9 h9 => by obtain ⟨g9, hle9, hs⟩ := h9; exact r_move (v := .bool false) rfl) rfl ?_
            refine AK rfl rfl rfl rfl rfl hS rfl ?_
            refine AK rfl rfl rfl rfl rfl hS rfl ?_
            refine A1 rfl ?_
            refine OK rfl rfl rfl rfl rfl ?_
            refine OW_nil ⟨fun _ => hS, ?_⟩
            refine A1 rfl ?_
            refine OK rfl rfl rfl rfl rfl ?_
            refine OW_nil ⟨fun _ => hS, ?_⟩
            refine A rfl hS (fun w9 h9 => by obtain ⟨g9, hle9, hs⟩ := h9; exact r_pickF (v := .bool false) rfl rfl rfl) rfl ?_
            refine A rfl hS (fun w9 h9 => by obtain ⟨g9, hle9, hs⟩ := h9; exact r_move (v := .bool false) rfl) rfl ?_
            refine AK rfl rfl rfl rfl rfl hS rfl ?_
            refine AK rfl rfl rfl rfl rfl hS rfl ?_
            refine A rfl hS (fun w9 h9 => by obtain ⟨g9, hle9, hs⟩ := h9; exact r_pickF (v := .bool false) rfl rfl rfl) rfl ?_
            refine A rfl hS (fun w9 h9 => by obtain ⟨g9, hle9, hs⟩ := h9; exact r_move (v := .bool false) rfl) rfl ?_
            refine AK rfl rfl rfl rfl rfl hS rfl ?_
            refine A rfl hS (fun w9 h9 => by obtain ⟨g9, hle9, hs⟩ := h9; exact r_pickF (v := .bool false) rfl rfl rfl) rfl ?_
            refine A rfl hS (fun w9 h9 => by obtain ⟨g9, hle9, hs⟩ := h9; exact r_move (v := .bool false) rfl) rfl ?_
            refine AK rfl rfl rfl rfl rfl hS rfl ?_
            refine AK rfl rfl rfl rfl rfl hS rfl ?_
            refine A rfl hS (fun w9 h9 => by obtain ⟨g9, hle9, hs⟩ := h9; exact r_pickF (v := .bool false) rfl rfl rfl) rfl ?_
            refine A rfl hS (fun w9 h9 => by obtain ⟨g9, hle9, hs⟩ := h9; exact r_assign (v := .bool false) rfl) rfl ?_
            refine AN ?_
            obtain rfl := Option.some.inj hM
            exact ⟨gg190, rfl, hagg90, (hs.sub (.cons _ (.cons _ .slnil)))⟩
        · refine AK rfl rfl rfl rfl (by rw [hg11]; rfl) hS rfl ?_
          refine A1 rfl ?_
          refine OK rfl rfl rfl (by rw [hg11]; rfl) rfl ?_
          refine OW_nil ⟨fun _ => hS, ?_⟩
          refine AK rfl rfl rfl rfl (by rw [hg11]; rfl) hS rfl ?_
          refine A rfl hS (fun w9 h9 => by obtain ⟨g9, hle9, hs⟩ := h9; exact r_pickF (v := .bool false) rfl hg11 rfl) rfl ?_
          refine A rfl hS (fun w9 h9 => by obtain ⟨g9, hle9, hs⟩ := h9; exact r_move (v := .bool false) rfl) rfl ?_
          refine AK rfl rfl rfl rfl rfl hS rfl ?_
          refine A1 rfl ?_
          refine OK rfl rfl rfl rfl rfl ?_
          refine OW_nil ⟨fun _ => hS, ?_⟩
          refine AK rfl rfl rfl rfl rfl hS rfl ?_
          refine A rfl hS (fun w9 h9 => by obtain ⟨g9, hle9, hs⟩ := h9; exact r_pickF (v := .bool false) rfl rfl rfl) rfl ?_
          refine A rfl hS (fun w9 h9 => by obtain ⟨g9, hle9, hs⟩ := h9; exact r_move (v := .bool false) rfl) rfl ?_
          refine AK rfl rfl rfl rfl rfl hS rfl ?_
          refine A1 rfl ?_
          refine OK rfl rfl rfl rfl rfl ?_
          refine OW_nil ⟨fun _ => hS, ?_⟩
          refine AK rfl rfl rfl rfl rfl hS rfl ?_
          refine A rfl hS (fun w9 h9 => by obtain ⟨g9, hle9, hs⟩ := h9; exact r_pickF (v := .bool false) rfl rfl rfl) rfl ?_
          refine A rfl hS (fun w9 h9 => by obtain ⟨g9, hle9, hs⟩ := h9; exact r_move (v := .bool false) rfl) rfl ?_
          refine AK rfl rfl rfl rfl rfl hS rfl ?_
          refine AK rfl rfl rfl rfl rfl hS rfl ?_
          refine A1 rfl ?_
          refine OK rfl rfl rfl rfl rfl ?_
          refine OW_nil ⟨fun _ => hS, ?_⟩
          refine A1 rfl ?_
          refine OK rfl rfl rfl rfl rfl ?_
          refine OW_nil ⟨fun _ => hS, ?_⟩
          refine A rfl hS (fun w9 h9 => by obtain ⟨g9, hle9, hs⟩ := h9; exact r_pickF (v := .bool false) rfl rfl rfl) rfl ?_
          refine A rfl hS (fun w9 h9 => by obtain ⟨g9, hle9, hs⟩ := h9; exact r_move (v := .bool false) rfl) rfl ?_
          refine AK rfl rfl rfl rfl rfl hS rfl ?_
          refine AK rfl rfl rfl rfl rfl hS rfl ?_
          refine A1 rfl ?_
          refine OK rfl rfl rfl rfl rfl ?_
          refine OW_nil ⟨fun _ => hS, ?_⟩
          refine A1 rfl ?_
          refine OK rfl rfl rfl rfl rfl ?_
          refine OW_nil ⟨fun _ => hS, ?_⟩
          refine A rfl hS (fun w9 h9 => by obtain ⟨g9, hle9, hs⟩ := h9; exact r_pickF (v := .bool false) rfl rfl rfl) rfl ?_
          refine A rfl hS (fun w9 h9 => by obtain ⟨g9, hle9, hs⟩ := h9; exact r_move (v := .bool false) rfl) rfl ?_
          refine AK rfl rfl rfl rfl rfl hS rfl ?_
          refine AK rfl rfl rfl rfl rfl hS rfl ?_
          refine A rfl hS (fun w9 h9 => by obtain ⟨g9, hle9, hs⟩ := h9; exact r_pickF (v := .bool false) rfl rfl rfl) rfl ?_
          refine A rfl hS (fun w9 h9 => by obtain ⟨g9, hle9, hs⟩ := h9; exact r_move (v := .bool false) rfl) rfl ?_
          refine AK rfl rfl rfl rfl rfl hS rfl ?_
          refine A rfl hS (fun w9 h9 => by obtain ⟨g9, hle9, hs⟩ := h9; exact r_pickF (v := .bool false) rfl rfl rfl) rfl ?_
          refine A rfl hS (fun w9 h9 => by obtain ⟨g9, hle9, hs⟩ := h9; exact r_move (v := .bool false) rfl) rfl ?_
          refine AK rfl rfl rfl rfl rfl hS rfl ?_
          refine AK rfl rfl rfl rfl rfl hS rfl ?_
          refine A rfl hS (fun w9 h9 => by obtain ⟨g9, hle9, hs⟩ := h9; exact r_pickF (v := .bool false) rfl rfl rfl) rfl ?_
          refine A rfl hS (fun w9 h9 => by obtain ⟨g9, hle9, hs⟩ := h9; exact r_assign (v := .bool false) rfl) rfl ?_
          refine AN ?_
          obtain rfl := Option.some.inj hM
          exact ⟨gg189, rfl, hagg90, (hs.sub (.cons _ (.cons _ .slnil)))⟩
      · refine AK rfl rfl rfl rfl (by rw [hg10]; rfl) hS rfl ?_
        refine A1 rfl ?_
        refine OK rfl rfl rfl (by rw [hg10]; rfl) rfl ?_
        refine OW_nil ⟨fun _ => hS, ?_⟩
        refine AK rfl rfl rfl rfl (by rw [hg10]; rfl) hS rfl ?_
        refine A rfl hS (fun w9 h9 => by obtain ⟨g9, hle9, hs⟩ := h9; exact r_pickF (v := .bool false) rfl hg10 rfl) rfl ?_
        refine A rfl hS (fun w9 h9 => by obtain ⟨g9, hle9, hs⟩ := h9; exact r_move (v := .bool false) rfl) rfl ?_
        refine AK rfl rfl rfl rfl rfl hS rfl ?_
        refine A1 rfl ?_
        refine OK rfl rfl rfl rfl rfl ?_
        refine OW_nil ⟨fun _ => hS, ?_⟩
        refine AK rfl rfl rfl rfl rfl hS rfl ?_
        refine A rfl hS (fun w9 h9 => by obtain ⟨g9, hle9, hs⟩ := h9; exact r_pickF (v := .bool false) rfl rfl rfl) rfl ?_
        refine A rfl hS (fun w9 h9 => by obtain ⟨g9, hle9, hs⟩ := h9; exact r_move (v := .bool false) rfl) rfl ?_
        refine AK rfl rfl rfl rfl rfl hS rfl ?_
        refine A1 rfl ?_
        refine OK rfl rfl rfl rfl rfl ?_
        refine OW_nil ⟨fun _ => hS, ?_⟩
        refine AK rfl rfl rfl rfl rfl hS rfl ?_
        refine A rfl hS (fun w9 h9 => by obtain ⟨g9, hle9, hs⟩ := h9; exact r_pickF (v := .bool false) rfl rfl rfl) rfl ?_
        refine A rfl hS (fun w9 h9 => by obtain ⟨g9, hle9, hs⟩ := h9; exact r_move (v := .bool false) rfl) rfl ?_
        refine AK rfl rfl rfl rfl rfl hS rfl ?_
        refine A1 rfl ?_
        refine OK rfl rfl rfl rfl rfl ?_
        refine OW_nil ⟨fun _ => hS, ?_⟩
        refine AK rfl rfl rfl rfl rfl hS rfl ?_
        refine A rfl hS (fun w9 h9 => by obtain ⟨g9, hle9, hs⟩ := h9; exact r_pickF (v := .bool false) rfl rfl rfl) rfl ?_
        refine A rfl hS (fun w9 h9 => by obtain ⟨g9, hle9, hs⟩ := h9; exact r_move (v := .bool false) rfl) rfl ?_
        refine AK rfl rfl rfl rfl rfl hS rfl ?_
        refine AK rfl rfl rfl rfl rfl hS rfl ?_
        refine A1 rfl ?_
        refine OK rfl rfl rfl rfl rfl ?_
        refine OW_nil ⟨fun _ => hS, ?_⟩
        refine A1 rfl ?_
        refine OK rfl rfl rfl rfl rfl ?_
        refine OW_nil ⟨fun _ => hS, ?_⟩
        refine A rfl hS (fun w9 h9 => by obtain ⟨g9, hle9, hs⟩ := h9; exact r_pickF (v := .bool false) rfl rfl rfl) rfl ?_
        refine A rfl hS (fun w9 h9 => by obtain ⟨g9, hle9, hs⟩ := h9; exact r_move (v := .bool false) rfl) rfl ?_
        refine AK rfl rfl rfl rfl rfl hS rfl ?_
        refine AK rfl rfl rfl rfl rfl hS rfl ?_
        refine A1 rfl ?_
        refine OK rfl rfl rfl rfl rfl ?_
        refine OW_nil ⟨fun _ => hS, ?_⟩
        refine A1 rfl ?_
        refine OK rfl rfl rfl rfl rfl ?_
        refine OW_nil ⟨fun _ => hS, ?_⟩
        refine A rfl hS (fun w9 h9 => by obtain ⟨g9, hle9, hs⟩ := h9; exact r_pickF (v := .bool false) rfl rfl rfl) rfl ?_
        refine A rfl hS (fun w9 h9 => by obtain ⟨g9, hle9, hs⟩ := h9; exact r_move (v := .bool false) rfl) rfl ?_
        refine AK rfl rfl rfl rfl rfl hS rfl ?_
        refine AK rfl rfl rfl rfl rfl hS rfl ?_
        refine A rfl hS (fun w9 h9 => by obtain ⟨g9, hle9, hs⟩ := h9; exact r_pickF (v := .bool false) rfl rfl rfl) rfl ?_
        refine A rfl hS (fun w9 h9 => by obtain ⟨g9, hle9, hs⟩ := h9; exact r_move (v := .bool false) rfl) rfl ?_
        refine AK rfl rfl rfl rfl rfl hS rfl ?_
        refine A rfl hS (fun w9 h9 => by obtain ⟨g9, hle9, hs⟩ := h9; exact r_pickF (v := .bool false) rfl rfl rfl) rfl ?_
        refine A rfl hS (fun w9 h9 => by obtain ⟨g9, hle9, hs⟩ := h9; exact r_move (v := .bool false) rfl) rfl ?_
        refine AK rfl rfl rfl rfl rfl hS rfl ?_
        refine AK rfl rfl rfl rfl rfl hS rfl ?_
        refine A rfl hS (fun w9 h9 => by obtain ⟨g9, hle9, hs⟩ := h9; exact r_pickF (v := .bool false) rfl rfl rfl) rfl ?_
        refine A rfl hS (fun w9 h9 => by obtain ⟨g9, hle9, hs⟩ := h9; exact r_assign (v := .bool false) rfl) rfl ?_
        refine AN ?_
        obtain rfl := Option.some.inj hM
        exact ⟨gg188, rfl, hagg90, (hs.sub (.cons _ (.cons _ .slnil)))⟩
    · clear hs
      rintro E w ⟨gg187, hE0, hlegg187, hs⟩
      have hM := hKhx2
      obtain ⟨E, rfl⟩ := open1 (E := E) hE0
      refine WP_ret ?_
      obtain rfl := Option.some.inj hM
      exact ⟨_, res1 Try.results9 (rv_tmp (v := .bool xv3) rfl), gg187, ⟨[.bool xv3], rfl, rfl⟩, hs.ext⟩


end Go.Proofs.Ytogpainomdfpnaa
