/- The walks: what each function does is what its model says. Printed by a program of my own. -/
import Derived.Test.YtogpainomdfpnaaWalk3
set_option linter.unusedVariables false
namespace Go.Proofs.Ytogpainomdfpnaa
open Go.Lx Go.RowKit
set_option maxRecDepth 100000 in
theorem dfa_Difference_ok {p1 : T_DFA} {p2 : T_DFA} {r : Str × Bool} (hM : M.dfa_Difference p1 p2 = some r) {g0 : Hp} {w0 : World} (hi : Imm g0 w0) {cs1 : List Value} (hcs1 : tT_DFA.rel g0 cs1 p1) {cs2 : List Value} (hcs2 : tT_DFA.rel g0 cs2 p2) :
    CallsV Try.prog 17 #[.agg cs1.toArray, .agg cs2.toArray] w0 (fun v w' => ∃ g', (∃ v1 v2, v = .tuple #[v1, v2] ∧ VRd tStr false g' v1 r.1 ∧ VRd tBool false g' v2 r.2) ∧ Ext g0 w0 g' w') := by
  unfold M.dfa_Difference at hM
  obtain ⟨cs3, cs4, cs5, rfl, hcs3, hcs4, hcs5⟩ := hcs1
  obtain ⟨v1, rfl, hRv1⟩ := hcs3
  obtain ⟨v2, rfl, hRv2⟩ := hcs4
  obtain ⟨v3, rfl, hRv3⟩ := hcs5
  obtain ⟨cs6, cs7, cs8, rfl, hcs6, hcs7, hcs8⟩ := hcs2
  obtain ⟨v4, rfl, hRv4⟩ := hcs6
  obtain ⟨v5, rfl, hRv5⟩ := hcs7
  obtain ⟨v6, rfl, hRv6⟩ := hcs8
  have hs := Sep.start hi
  refine calls_of_WP (args := [.agg (List.toArray (α := Value) [v1, v2, v3]), .agg (List.toArray (α := Value) [v4, v5, v6])]) Try.func17 rfl Try.ntmps17 rfl ?_
  refine WP_seq ?_
  refine WP_region ?_
  refine OW_box (v := .agg (List.toArray (α := Value) [v1, v2, v3])) rfl hs (zs := [v1, v2, v3]) rfl rfl ?_
  intro b1 wv1 hs
  refine OW_box (v := .agg (List.toArray (α := Value) [v4, v5, v6])) rfl hs (zs := [v4, v5, v6]) rfl rfl ?_
  intro b2 wv2 hs
  refine O (r_assign (v := encS []) rfl) rfl ?_
  refine O (r_assign (v := .bool false) rfl) rfl ?_
  refine OW_nil ?_
  refine WP_seq ?_
  refine WP_region ?_
  refine O (r_build (vs := []) (cs := ([.int .i64 0, .int .i64 0]) ++ ([encS []])) rfl (by kernel_rfl)) rfl ?_
  refine OW_lit (τ := tT_dfa_entry) [.agg (List.toArray (α := Value) (([.int .i64 0, .int .i64 0]) ++ ([encS []])))] [(T_dfa_entry.mk (T_dfa_pair.mk 0 0) [])] Try.underlying67 ti66 (by decide) hs rfl rfl rfl ⟨⟨[.int .i64 0, .int .i64 0], [encS []], rfl, ⟨[.int .i64 0], [.int .i64 0], rfl, rfl, rfl⟩, rfl⟩, trivial⟩ rfl ?_
  intro v7 wv3 xs1 hrelxs1 hs
  refine O (r_assign (v := v7) rfl) rfl ?_
  refine OW_nil ?_
  refine WP_seq ?_
  refine WP_region ?_
  refine OW_makeMap hs rfl ?_
  intro b3 wv4 hs
  have hmb3 : MRel (fun (p : T_dfa_pair) => Value.agg #[.int .i64 p.a, .int .i64 p.b]) (fun (_ : Unit) => Value.agg #[]) #[] [] := mrel_nil
  refine O (r_build (vs := []) (cs := [.int .i64 0, .int .i64 0]) rfl (by kernel_rfl)) rfl ?_
  refine O (r_build (vs := []) (cs := []) rfl (by kernel_rfl)) rfl ?_
  refine OW_mapIns (kk := (T_dfa_pair.mk 0 0)) (vv := ()) Try.underlying69 (keyLaw_pair (K := T_dfa_pair) (ek := (fun (p : T_dfa_pair) => Value.agg #[.int .i64 p.a, .int .i64 p.b])) (·.a) (·.b) Try.underlying64 Try.underlying3 Try.underlying3 ti3 ti3 rfl rfl (by decide) (by decide) (by kernel_rfl) (fun _ => rfl) (by intro x y; rw [Bool.eq_iff_iff]; cases x; cases y; simp)) hs (i := 0) rfl hmb3 rfl rfl rfl ?_
  intro es1 ck1 wv5 hmes1 hs
  refine O (r_move (v := .map (some b3)) rfl) rfl ?_
  refine O (r_assign (v := .map (some b3)) rfl) rfl ?_
  refine OW_nil ?_
  obtain ⟨o21, hx58, hKhx58⟩ := stepS hM
  refine WP_cut (fun E w => ∃ u9 : Unit, o21 = .next u9 ∧ ∃ (gg595 : Hp), Hle g0 gg595 ∧ Go.Lx.Sep g0 w0 gg595 w []) ?_ ?_
  · have hM := hx58
    have hag0 := Hle.refl g0
    refine WP_seq ?_
    refine WP_region ?_
    refine O (r_assign (v := .int .i64 0) rfl) rfl ?_
    refine OW_nil ?_
    refine WP_block ?_
    refine WP_loop (fun (st9 : (List T_dfa_entry) × (List (T_dfa_pair × Unit)) × Int) E w => match st9 with | (xv61, m57, xv62) => ∃ (gg794 : Hp) (es106 : Array MapEntry) (ck106 : Nat) (v896 : Value) (xs202 : List Value), E 2 = .pointer (some ⟨b1, 0, none⟩) ∧ E 3 = .pointer (some ⟨b2, 0, none⟩) ∧ E 6 = v896 ∧ E 7 = .map (some b3) ∧ E 8 = .int .i64 xv62 ∧ Hle g0 gg794 ∧ MRel (fun (p : T_dfa_pair) => Value.agg #[.int .i64 p.a, .int .i64 p.b]) (fun (_ : Unit) => Value.agg #[]) es106 m57 ∧ RowRel tT_dfa_entry gg794 xs202 xv61 ∧ Go.Lx.Sep g0 w0 gg794 w [.obj b3 (.map es106 ck106), .row v896 66 tT_dfa_entry.sz xv61.length xs202, Go.Lx.box b2 25 ([v4, v5, v6]), Go.Lx.box b1 25 ([v1, v2, v3])]) hM ⟨g0, es1, ck1, v7, xs1, rfl, rfl, rfl, rfl, rfl, (Hle.refl _), hmes1, hrelxs1, hs⟩ ?_
    clear hs hM
    rintro ⟨xv61, m57, xv62⟩ o17 E w hM ⟨gg794, es106, ck106, v896, xs202, hE2, hE3, hE6, hE7, hE8, hlegg794, hmes106, hrelxs202, hs⟩
    obtain ⟨E, rfl⟩ := open1 (E := E) hE2
    obtain ⟨E, rfl⟩ := open1 (E := E) hE3
    obtain ⟨E, rfl⟩ := open1 (E := E) hE6
    obtain ⟨E, rfl⟩ := open1 (E := E) hE7
    obtain ⟨E, rfl⟩ := open1 (E := E) hE8
    replace hRv1 := hRv1.mono hlegg794
    replace hRv2 := hRv2.mono hlegg794
    replace hRv3 := hRv3.mono hlegg794
    replace hRv4 := hRv4.mono hlegg794
    replace hRv5 := hRv5.mono hlegg794
    replace hRv6 := hRv6.mono hlegg794
    replace hag0 := hag0.trans hlegg794
    have hagg794 := Hle.refl gg794
    refine WP_seq ?_
    refine WP_seq ?_
    refine WP_region ?_
    refine O (r_move (v := .int .i64 xv62) rfl) rfl ?_
    refine O (r_move (v := v896) rfl) rfl ?_
    obtain ⟨a6, ca6, hva6⟩ := hs.rowShape (i := 1) rfl
    refine O (r_lenSl (v := v896) Try.underlying67 rfl hva6) rfl ?_
    refine O (r_lss rfl rfl) rfl ?_
    refine OW_nil ?_
    rcases condS hM with ⟨hc106, hM⟩ | ⟨hc106, hM⟩
    · refine WP_true rfl hc106 ?_
      refine WP_skip ?_
      obtain ⟨o20, hx106, hKhx106⟩ := stepS hM
      refine WP_cut (fun E w => ∃ (xv84 : (List T_dfa_entry)) (m78 : (List (T_dfa_pair × Unit))), o20 = .next (xv84, m78) ∧ ∃ (gg1091 : Hp) (es145 : Array MapEntry) (ck145 : Nat) (v1229 : Value) (xs277 : List Value), E 2 = .pointer (some ⟨b1, 0, none⟩) ∧ E 3 = .pointer (some ⟨b2, 0, none⟩) ∧ E 6 = v1229 ∧ E 7 = .map (some b3) ∧ E 8 = .int .i64 xv62 ∧ Hle gg794 gg1091 ∧ MRel (fun (p : T_dfa_pair) => Value.agg #[.int .i64 p.a, .int .i64 p.b]) (fun (_ : Unit) => Value.agg #[]) es145 m78 ∧ RowRel tT_dfa_entry gg1091 xs277 xv84 ∧ Go.Lx.Sep g0 w0 gg1091 w [.obj b3 (.map es145 ck145), .row v1229 66 tT_dfa_entry.sz xv84.length xs277, Go.Lx.box b2 25 ([v4, v5, v6]), Go.Lx.box b1 25 ([v1, v2, v3])]) ?_ ?_
      · have hM := hx106
        refine WP_block ?_
        refine WP_seq ?_
        refine WP_region ?_
        refine O (r_move (v := v896) rfl) rfl ?_
        refine O (r_move (v := .int .i64 xv62) rfl) rfl ?_
        obtain ⟨e12, he12, hM⟩ := bindS hM
        obtain ⟨b686, cb686, hvb686, cs1010, hcs1010, hcb686⟩ := hs.rowEl (i := 1) rfl hrelxs202 he12
        obtain ⟨cs1011, cs1012, rfl, hcs1011, hcs1012⟩ := hcs1010
        obtain ⟨cs1013, cs1014, rfl, hcs1013, hcs1014⟩ := hcs1011
        have hcs1013 : cs1013 = _ := hcs1013; subst hcs1013
        have hcs1014 : cs1014 = _ := hcs1014; subst hcs1014
        have hcs1012 : cs1012 = _ := hcs1012; subst hcs1012
        refine O (r_idxSl Try.underlying67 ti66 (v := v896) rfl hvb686 rfl (idxL_some he12).1 (idxL_some he12).2.1) rfl ?_
        refine O (r_loadEl (cs := ([.int .i64 e12.atv.a, .int .i64 e12.atv.b]) ++ ([encS e12.text])) ti66 rfl rfl (.inl rfl) (hcb686 _ (hs.at (i := 1) rfl)) (v := .agg (List.toArray (α := Value) (([.int .i64 e12.atv.a, .int .i64 e12.atv.b]) ++ ([encS e12.text])))) rfl) rfl ?_
        refine OW_alloc ti66 hs (zs := ([.int .i64 0, .int .i64 0]) ++ ([encS []])) rfl rfl ?_
        intro b687 wv2426 hs
        refine OW_storeAll ti66 hs (i := 0) rfl rfl (v := .agg (List.toArray (α := Value) (([.int .i64 e12.atv.a, .int .i64 e12.atv.b]) ++ ([encS e12.text])))) rfl (vs := ([.int .i64 e12.atv.a, .int .i64 e12.atv.b]) ++ ([encS e12.text])) rfl (one_append (one_cons rfl (one_cons rfl one_nil)) (one_cons rfl one_nil)) rfl rfl ?_
        intro wv2427 hs
        refine OW_nil ?_
        refine WP_seq ?_
        refine WP_seq ?_
        refine WP_any (.q 0 (.q 1 (.q 2 (.q 3 (.q 5 (.q 6 (.q 7 (.q 8 (.s 4 (.s 9 (.q 10 (.leaf)))))))))))) (SS g0 w0 gg794 [Go.Lx.box b687 66 (([.int .i64 e12.atv.a, .int .i64 e12.atv.b]) ++ ([encS e12.text])), .obj b3 (.map es106 ck106), .row v896 66 tT_dfa_entry.sz xv61.length xs202, Go.Lx.box b2 25 ([v4, v5, v6]), Go.Lx.box b1 25 ([v1, v2, v3])]) mo (by decide +kernel) (fun _ _ _ h => h) ?_
        have hs := hs.drew
        have hRv1b := hRv1
        have hRv2b := hRv2
        have hRv3b := hRv3
        have hRv4b := hRv4
        have hRv5b := hRv5
        have hRv6b := hRv6
        have hrelxs202b := hrelxs202
        have hS : SS g0 w0 gg794 [Go.Lx.box b687 66 (([.int .i64 e12.atv.a, .int .i64 e12.atv.b]) ++ ([encS e12.text])), .obj b3 (.map es106 ck106), .row v896 66 tT_dfa_entry.sz xv61.length xs202, Go.Lx.box b2 25 ([v4, v5, v6]), Go.Lx.box b1 25 ([v1, v2, v3])] _ := ⟨gg794, Hle.refl _, hs⟩
        refine A rfl hS (fun w9 h9 => by obtain ⟨g9, hle9, hs⟩ := h9; exact r_loadN (cs := [v1, v2, v3]) ti25 rfl rfl (hs.cells (i := 4) rfl)) rfl ?_
        refine A rfl hS (fun w9 h9 => by obtain ⟨g9, hle9, hs⟩ := h9; exact r_fieldAddr Try.underlying66 ti64 rfl rfl (by decide) rfl rfl) rfl ?_
        refine A rfl hS (fun w9 h9 => by obtain ⟨g9, hle9, hs⟩ := h9; exact r_fieldAddr Try.underlying64 ti3 rfl rfl (by decide) rfl rfl) rfl ?_
        refine A rfl hS (fun w9 h9 => by obtain ⟨g9, hle9, hs⟩ := h9; exact r_load (v := .int .i64 e12.atv.a) ti3 rfl (hs.cell (i := 0) (o := 0) rfl rfl)) rfl ?_
        refine A rfl hS (fun w9 h9 => by obtain ⟨g9, hle9, hs⟩ := h9; exact r_loadN (cs := [v4, v5, v6]) ti25 rfl rfl (hs.cells (i := 3) rfl)) rfl ?_
        refine A rfl hS (fun w9 h9 => by obtain ⟨g9, hle9, hs⟩ := h9; exact r_fieldAddr Try.underlying66 ti64 rfl rfl (by decide) rfl rfl) rfl ?_
        refine A rfl hS (fun w9 h9 => by obtain ⟨g9, hle9, hs⟩ := h9; exact r_fieldAddr Try.underlying64 ti3 rfl rfl (by decide) rfl rfl) rfl ?_
        refine A rfl hS (fun w9 h9 => by obtain ⟨g9, hle9, hs⟩ := h9; exact r_load (v := .int .i64 e12.atv.b) ti3 rfl (hs.cell (i := 0) (o := 1) rfl rfl)) rfl ?_
        refine A1 rfl ?_
        obtain ⟨rv419, hrv419, hM⟩ := bindS hM
        refine C [.agg (List.toArray (α := Value) [v1, v2, v3]), .int .i64 e12.atv.a] cf30 rfl (dfa_result_ok hrv419 hs.imm (⟨[v1], [v2], [v3], rfl, ⟨_, rfl, hRv1⟩, ⟨_, rfl, hRv2⟩, ⟨_, rfl, hRv3⟩⟩)) rfl ?_
        rintro v1230 wv2428 ⟨gg1092, hvv1230, hegg1092⟩
        have hlegg1092 := hegg1092.le hs.imm
        replace hs := hs.call hegg1092
        replace hRv1 := hRv1.mono hlegg1092
        replace hRv2 := hRv2.mono hlegg1092
        replace hRv3 := hRv3.mono hlegg1092
        replace hRv4 := hRv4.mono hlegg1092
        replace hRv5 := hRv5.mono hlegg1092
        replace hRv6 := hRv6.mono hlegg1092
        replace hrelxs202 := hrelxs202.mono hlegg1092
        replace hlegg794 := hlegg794.trans hlegg1092
        replace hagg794 := hagg794.trans hlegg1092
        obtain ⟨cs1015, rfl, hcs1015⟩ := hvv1230
        have hcs1015 : cs1015 = _ := hcs1015; subst hcs1015
        refine OW_nil ?_
        have hS : SS g0 w0 gg794 [Go.Lx.box b687 66 (([.int .i64 e12.atv.a, .int .i64 e12.atv.b]) ++ ([encS e12.text])), .obj b3 (.map es106 ck106), .row v896 66 tT_dfa_entry.sz xv61.length xs202, Go.Lx.box b2 25 ([v4, v5, v6]), Go.Lx.box b1 25 ([v1, v2, v3])] _ := ⟨gg1092, hagg794, hs⟩
        refine ⟨fun _ => hS, ?_⟩
        refine A1 rfl ?_
        obtain ⟨rv420, hrv420, hM⟩ := bindS hM
        refine C [.agg (List.toArray (α := Value) [v4, v5, v6]), .int .i64 e12.atv.b] cf30 rfl (dfa_result_ok hrv420 hs.imm (⟨[v4], [v5], [v6], rfl, ⟨_, rfl, hRv4⟩, ⟨_, rfl, hRv5⟩, ⟨_, rfl, hRv6⟩⟩)) rfl ?_
        rintro v1231 wv2429 ⟨gg1093, hvv1231, hegg1093⟩
        have hlegg1093 := hegg1093.le hs.imm
        replace hs := hs.call hegg1093
        replace hRv1 := hRv1.mono hlegg1093
        replace hRv2 := hRv2.mono hlegg1093
        replace hRv3 := hRv3.mono hlegg1093
        replace hRv4 := hRv4.mono hlegg1093
        replace hRv5 := hRv5.mono hlegg1093
        replace hRv6 := hRv6.mono hlegg1093
        replace hrelxs202 := hrelxs202.mono hlegg1093
        replace hlegg794 := hlegg794.trans hlegg1093
        replace hagg794 := hagg794.trans hlegg1093
        obtain ⟨cs1016, rfl, hcs1016⟩ := hvv1231
        have hcs1016 : cs1016 = _ := hcs1016; subst hcs1016
        refine OW_nil ?_
        have hS : SS g0 w0 gg794 [Go.Lx.box b687 66 (([.int .i64 e12.atv.a, .int .i64 e12.atv.b]) ++ ([encS e12.text])), .obj b3 (.map es106 ck106), .row v896 66 tT_dfa_entry.sz xv61.length xs202, Go.Lx.box b2 25 ([v4, v5, v6]), Go.Lx.box b1 25 ([v1, v2, v3])] _ := ⟨gg1093, hagg794, hs⟩
        refine ⟨fun _ => hS, ?_⟩
        refine A rfl hS (fun w9 h9 => by obtain ⟨g9, hle9, hs⟩ := h9; exact r_neq rfl rfl) rfl ?_
        refine AN ?_
        rcases condS hM with ⟨hc117, hM⟩ | ⟨hc117, hM⟩
        · refine WP_true rfl hc117 ?_
          refine WP_seq ?_
          refine WP_region ?_
          refine O (r_fieldAddr Try.underlying66 ti9 rfl rfl (by decide) rfl rfl) rfl ?_
          refine O (r_load (v := encS e12.text) ti9 rfl (hs.cell (i := 0) (o := 2) rfl rfl)) rfl ?_
          refine O (r_assign (v := encS e12.text) rfl) rfl ?_
          refine O (r_assign (v := .bool true) rfl) rfl ?_
          refine OW_nil ?_
          refine WP_ret ?_
          obtain rfl := Option.some.inj hM
          have hM := hKhx106
          obtain rfl := Option.some.inj hM
          refine fun hr => ?_
          have hM := congrArg some hr
          obtain rfl := Option.some.inj hM
          have hM := hKhx58
          obtain rfl := Option.some.inj hM
          exact ⟨_, res2 Try.results17 (rv_tmp (v := encS e12.text) rfl) (rv_tmp (v := .bool true) rfl), gg1093, ⟨_, _, rfl, ⟨[encS e12.text], rfl, rfl⟩, ⟨[.bool true], rfl, rfl⟩⟩, hs.ext⟩
        · refine WP_false rfl hc117 ?_
          refine WP_skip ?_
          refine WP_seq ?_
          refine WP_region ?_
          refine O (r_move (v := .int .i64 0) rfl) rfl ?_
          refine OW_nil ?_
          refine WP_block ?_
          refine WP_loop (fun (st9 : (List T_dfa_entry) × (List (T_dfa_pair × Unit)) × Int) E w => match st9 with | (xv87, m81, xv88) => ∃ (gg1126 : Hp) (es150 : Array MapEntry) (ck150 : Nat) (v1268 : Value) (xs286 : List Value), E 2 = .pointer (some ⟨b1, 0, none⟩) ∧ E 3 = .pointer (some ⟨b2, 0, none⟩) ∧ E 6 = v1268 ∧ E 7 = .map (some b3) ∧ E 8 = .int .i64 xv62 ∧ E 9 = .pointer (some ⟨b687, 0, none⟩) ∧ E 43 = .int .i64 xv88 ∧ Hle gg1093 gg1126 ∧ MRel (fun (p : T_dfa_pair) => Value.agg #[.int .i64 p.a, .int .i64 p.b]) (fun (_ : Unit) => Value.agg #[]) es150 m81 ∧ RowRel tT_dfa_entry gg1126 xs286 xv87 ∧ Go.Lx.Sep g0 w0 gg1126 w [Go.Lx.box b687 66 (([.int .i64 e12.atv.a, .int .i64 e12.atv.b]) ++ ([encS e12.text])), .obj b3 (.map es150 ck150), .row v1268 66 tT_dfa_entry.sz xv87.length xs286, Go.Lx.box b2 25 ([v4, v5, v6]), Go.Lx.box b1 25 ([v1, v2, v3])]) hM ⟨gg1093, es106, ck106, v896, xs202, rfl, rfl, rfl, rfl, rfl, rfl, rfl, (Hle.refl _), hmes106, hrelxs202, hs⟩ ?_
          clear hs hM
          rintro ⟨xv87, m81, xv88⟩ o19 E w hM ⟨gg1126, es150, ck150, v1268, xs286, hE2, hE3, hE6, hE7, hE8, hE9, hE43, hlegg1126, hmes150, hrelxs286, hs⟩
          obtain ⟨E, rfl⟩ := open1 (E := E) hE2
          obtain ⟨E, rfl⟩ := open1 (E := E) hE3
          obtain ⟨E, rfl⟩ := open1 (E := E) hE6
          obtain ⟨E, rfl⟩ := open1 (E := E) hE7
          obtain ⟨E, rfl⟩ := open1 (E := E) hE8
          obtain ⟨E, rfl⟩ := open1 (E := E) hE9
          obtain ⟨E, rfl⟩ := open1 (E := E) hE43
          replace hRv1 := hRv1.mono hlegg1126
          replace hRv2 := hRv2.mono hlegg1126
          replace hRv3 := hRv3.mono hlegg1126
          replace hRv4 := hRv4.mono hlegg1126
          replace hRv5 := hRv5.mono hlegg1126
          replace hRv6 := hRv6.mono hlegg1126
          replace hlegg794 := hlegg794.trans hlegg1126
          replace hagg794 := hagg794.trans hlegg1126
          have hagg1126 := Hle.refl gg1126
          refine WP_seq ?_
          refine WP_region ?_
          refine O (r_lss rfl rfl) rfl ?_
          refine OW_nil ?_
          refine WP_seq ?_
          rcases condS hM with ⟨hc124, hM⟩ | ⟨hc124, hM⟩
          · refine WP_true rfl hc124 ?_
            refine WP_skip ?_
            obtain ⟨⟨y107, m84⟩, hx114, hKhx114⟩ := bindS hM
            refine WP_cut (fun E w => ∃ (gg1174 : Hp) (es156 : Array MapEntry) (ck156 : Nat) (v1322 : Value) (xs298 : List Value), E 2 = .pointer (some ⟨b1, 0, none⟩) ∧ E 3 = .pointer (some ⟨b2, 0, none⟩) ∧ E 6 = v1322 ∧ E 7 = .map (some b3) ∧ E 8 = .int .i64 xv62 ∧ E 9 = .pointer (some ⟨b687, 0, none⟩) ∧ E 43 = .int .i64 xv88 ∧ Hle gg1126 gg1174 ∧ MRel (fun (p : T_dfa_pair) => Value.agg #[.int .i64 p.a, .int .i64 p.b]) (fun (_ : Unit) => Value.agg #[]) es156 m84 ∧ RowRel tT_dfa_entry gg1174 xs298 y107 ∧ Go.Lx.Sep g0 w0 gg1174 w [Go.Lx.box b687 66 (([.int .i64 e12.atv.a, .int .i64 e12.atv.b]) ++ ([encS e12.text])), .obj b3 (.map es156 ck156), .row v1322 66 tT_dfa_entry.sz y107.length xs298, Go.Lx.box b2 25 ([v4, v5, v6]), Go.Lx.box b1 25 ([v1, v2, v3])]) ?_ ?_
            · have hM := hx114
              refine WP_block ?_
              refine WP_seq ?_
              refine WP_region ?_
              refine O (r_move (v := .int .i64 xv88) rfl) rfl ?_
              refine O (r_assign (v := .int .i64 xv88) rfl) rfl ?_
              refine OW_nil ?_
              obtain ⟨⟨rv453, rv454⟩, hx115, hKhx115⟩ := bindS hM
              refine WP_cut (fun E w => ∃ (gg1182 : Hp) (b742 : Nat), E 2 = .pointer (some ⟨b1, 0, none⟩) ∧ E 3 = .pointer (some ⟨b2, 0, none⟩) ∧ E 6 = v1268 ∧ E 7 = .map (some b3) ∧ E 8 = .int .i64 xv62 ∧ E 9 = .pointer (some ⟨b687, 0, none⟩) ∧ E 10 = .int .i64 xv88 ∧ E 11 = .pointer (some ⟨b742, 0, none⟩) ∧ E 43 = .int .i64 xv88 ∧ Hle gg1126 gg1182 ∧ Go.Lx.Sep g0 w0 gg1182 w [Go.Lx.box b742 64 ([.int .i64 rv453, .int .i64 rv454]), Go.Lx.box b687 66 (([.int .i64 e12.atv.a, .int .i64 e12.atv.b]) ++ ([encS e12.text])), .obj b3 (.map es150 ck150), .row v1268 66 tT_dfa_entry.sz xv87.length xs286, Go.Lx.box b2 25 ([v4, v5, v6]), Go.Lx.box b1 25 ([v1, v2, v3])]) ?_ ?_
              · have hM := hx115
                obtain ⟨rv455, hrv455, hM⟩ := bindS hM
                obtain ⟨rv456, hrv456, hM⟩ := bindS hM
                refine WP_any (.q 0 (.q 1 (.q 2 (.q 3 (.q 4 (.q 5 (.q 7 (.q 8 (.q 9 (.q 10 (.q 11 (.q 12 (.c 6 (.c 13 (.q 14 (.s 15 (.s 16 (.leaf)))) (.c 15 (.s 13 (.q 14 (.s 16 (.leaf)))) (.n))) (.c 15 (.s 6 (.s 13 (.q 14 (.s 16 (.leaf))))) (.n))))))))))))))) (SS g0 w0 gg1126 [Go.Lx.box b687 66 (([.int .i64 e12.atv.a, .int .i64 e12.atv.b]) ++ ([encS e12.text])), .obj b3 (.map es150 ck150), .row v1268 66 tT_dfa_entry.sz xv87.length xs286, Go.Lx.box b2 25 ([v4, v5, v6]), Go.Lx.box b1 25 ([v1, v2, v3])]) mo (by decide +kernel) (fun _ _ _ h => h) ?_
                have hs := hs.drew
                have hRv1b := hRv1
                have hRv2b := hRv2
                have hRv3b := hRv3
                have hRv4b := hRv4
                have hRv5b := hRv5
                have hRv6b := hRv6
                have hrelxs286b := hrelxs286
                have hS : SS g0 w0 gg1126 [Go.Lx.box b687 66 (([.int .i64 e12.atv.a, .int .i64 e12.atv.b]) ++ ([encS e12.text])), .obj b3 (.map es150 ck150), .row v1268 66 tT_dfa_entry.sz xv87.length xs286, Go.Lx.box b2 25 ([v4, v5, v6]), Go.Lx.box b1 25 ([v1, v2, v3])] _ := ⟨gg1126, Hle.refl _, hs⟩
                refine A rfl hS (fun w9 h9 => by obtain ⟨g9, hle9, hs⟩ := h9; exact r_loadN (cs := [v1, v2, v3]) ti25 rfl rfl (hs.cells (i := 4) rfl)) rfl ?_
                refine A rfl hS (fun w9 h9 => by obtain ⟨g9, hle9, hs⟩ := h9; exact r_fieldAddr Try.underlying66 ti64 rfl rfl (by decide) rfl rfl) rfl ?_
                refine A rfl hS (fun w9 h9 => by obtain ⟨g9, hle9, hs⟩ := h9; exact r_fieldAddr Try.underlying64 ti3 rfl rfl (by decide) rfl rfl) rfl ?_
                refine A rfl hS (fun w9 h9 => by obtain ⟨g9, hle9, hs⟩ := h9; exact r_load (v := .int .i64 e12.atv.a) ti3 rfl (hs.cell (i := 0) (o := 0) rfl rfl)) rfl ?_
                refine A rfl hS (fun w9 h9 => by obtain ⟨g9, hle9, hs⟩ := h9; exact r_move (v := .int .i64 xv88) rfl) rfl ?_
                refine A rfl hS (fun w9 h9 => by obtain ⟨g9, hle9, hs⟩ := h9; exact r_conv Try.underlying3 Try.underlying5 rfl) rfl ?_
                refine A rfl hS (fun w9 h9 => by obtain ⟨g9, hle9, hs⟩ := h9; exact r_loadN (cs := [v4, v5, v6]) ti25 rfl rfl (hs.cells (i := 3) rfl)) rfl ?_
                refine A rfl hS (fun w9 h9 => by obtain ⟨g9, hle9, hs⟩ := h9; exact r_fieldAddr Try.underlying66 ti64 rfl rfl (by decide) rfl rfl) rfl ?_
                refine A rfl hS (fun w9 h9 => by obtain ⟨g9, hle9, hs⟩ := h9; exact r_fieldAddr Try.underlying64 ti3 rfl rfl (by decide) rfl rfl) rfl ?_
                refine A rfl hS (fun w9 h9 => by obtain ⟨g9, hle9, hs⟩ := h9; exact r_load (v := .int .i64 e12.atv.b) ti3 rfl (hs.cell (i := 0) (o := 1) rfl rfl)) rfl ?_
                refine A rfl hS (fun w9 h9 => by obtain ⟨g9, hle9, hs⟩ := h9; exact r_move (v := .int .i64 xv88) rfl) rfl ?_
                refine A rfl hS (fun w9 h9 => by obtain ⟨g9, hle9, hs⟩ := h9; exact r_conv Try.underlying3 Try.underlying5 rfl) rfl ?_
                refine A2 rfl ?_ ?_
                · refine C [.agg (List.toArray (α := Value) [v1, v2, v3]), .int .i64 e12.atv.a, .int .u8 (IntKind.u8.wrap xv88)] cf29 rfl (dfa_step_ok hrv455 hs.imm (⟨[v1], [v2], [v3], rfl, ⟨_, rfl, hRv1⟩, ⟨_, rfl, hRv2⟩, ⟨_, rfl, hRv3⟩⟩)) rfl ?_
                  rintro v1332 wv2629 ⟨gg1185, hvv1332, hegg1185⟩
                  have hlegg1185 := hegg1185.le hs.imm
                  replace hs := hs.call hegg1185
                  replace hRv1 := hRv1.mono hlegg1185
                  replace hRv2 := hRv2.mono hlegg1185
                  replace hRv3 := hRv3.mono hlegg1185
                  replace hRv4 := hRv4.mono hlegg1185
                  replace hRv5 := hRv5.mono hlegg1185
                  replace hRv6 := hRv6.mono hlegg1185
                  replace hrelxs286 := hrelxs286.mono hlegg1185
                  replace hlegg794 := hlegg794.trans hlegg1185
                  replace hagg794 := hagg794.trans hlegg1185
                  replace hlegg1126 := hlegg1126.trans hlegg1185
                  replace hagg1126 := hagg1126.trans hlegg1185
                  obtain ⟨cs1096, rfl, hcs1096⟩ := hvv1332
                  have hcs1096 : cs1096 = _ := hcs1096; subst hcs1096
                  refine OW_nil ?_
                  have hS : SS g0 w0 gg1126 [Go.Lx.box b687 66 (([.int .i64 e12.atv.a, .int .i64 e12.atv.b]) ++ ([encS e12.text])), .obj b3 (.map es150 ck150), .row v1268 66 tT_dfa_entry.sz xv87.length xs286, Go.Lx.box b2 25 ([v4, v5, v6]), Go.Lx.box b1 25 ([v1, v2, v3])] _ := ⟨gg1185, hagg1126, hs⟩
                  refine ⟨fun _ => hS, ?_⟩
                  refine A2 rfl ?_ ?_
                  · refine C [.agg (List.toArray (α := Value) [v4, v5, v6]), .int .i64 e12.atv.b, .int .u8 (IntKind.u8.wrap xv88)] cf29 rfl (dfa_step_ok hrv456 hs.imm (⟨[v4], [v5], [v6], rfl, ⟨_, rfl, hRv4⟩, ⟨_, rfl, hRv5⟩, ⟨_, rfl, hRv6⟩⟩)) rfl ?_
                    rintro v1333 wv2630 ⟨gg1186, hvv1333, hegg1186⟩
                    have hlegg1186 := hegg1186.le hs.imm
                    replace hs := hs.call hegg1186
                    replace hRv1 := hRv1.mono hlegg1186
                    replace hRv2 := hRv2.mono hlegg1186
                    replace hRv3 := hRv3.mono hlegg1186
                    replace hRv4 := hRv4.mono hlegg1186
                    replace hRv5 := hRv5.mono hlegg1186
                    replace hRv6 := hRv6.mono hlegg1186
                    replace hrelxs286 := hrelxs286.mono hlegg1186
                    replace hlegg794 := hlegg794.trans hlegg1186
                    replace hagg794 := hagg794.trans hlegg1186
                    replace hlegg1126 := hlegg1126.trans hlegg1186
                    replace hagg1126 := hagg1126.trans hlegg1186
                    obtain ⟨cs1097, rfl, hcs1097⟩ := hvv1333
                    have hcs1097 : cs1097 = _ := hcs1097; subst hcs1097
                    refine OW_nil ?_
                    have hS : SS g0 w0 gg1126 [Go.Lx.box b687 66 (([.int .i64 e12.atv.a, .int .i64 e12.atv.b]) ++ ([encS e12.text])), .obj b3 (.map es150 ck150), .row v1268 66 tT_dfa_entry.sz xv87.length xs286, Go.Lx.box b2 25 ([v4, v5, v6]), Go.Lx.box b1 25 ([v1, v2, v3])] _ := ⟨gg1186, hagg1126, hs⟩
                    refine ⟨fun _ => hS, ?_⟩
                    refine A rfl hS (fun w9 h9 => by obtain ⟨g9, hle9, hs⟩ := h9; exact r_build (vs := [(0, .int .i64 rv455), (1, .int .i64 rv456)]) (cs := [.int .i64 rv455, .int .i64 rv456]) rfl (by kernel_rfl)) rfl ?_
                    refine A1 rfl ?_
                    refine OW_alloc ti64 hs (zs := [.int .i64 0, .int .i64 0]) rfl rfl ?_
                    intro b744 wv2631 hs
                    refine OW_nil ?_
                    have hS : SS g0 w0 gg1126 [Go.Lx.box b687 66 (([.int .i64 e12.atv.a, .int .i64 e12.atv.b]) ++ ([encS e12.text])), .obj b3 (.map es150 ck150), .row v1268 66 tT_dfa_entry.sz xv87.length xs286, Go.Lx.box b2 25 ([v4, v5, v6]), Go.Lx.box b1 25 ([v1, v2, v3])] _ := ⟨gg1186, hagg1126, (hs.sub (.cons _ (.cons_cons _ (.cons_cons _ (.cons_cons _ (.cons_cons _ (.cons_cons _ .slnil)))))))⟩
                    refine ⟨fun _ => hS, ?_⟩
                    refine A1 rfl ?_
                    refine OW_storeAll ti64 hs (i := 0) rfl rfl (v := .agg (List.toArray (α := Value) [.int .i64 rv455, .int .i64 rv456])) rfl (vs := [.int .i64 rv455, .int .i64 rv456]) rfl (one_cons rfl (one_cons rfl one_nil)) rfl rfl ?_
                    intro wv2632 hs
                    refine OW_nil ?_
                    refine ⟨fun h => absurd h (by decide +kernel), ?_⟩
                    refine AN ?_
                    simp only [Option.some.injEq, Prod.mk.injEq] at hM
                    obtain ⟨rfl, rfl⟩ := hM
                    exact ⟨gg1186, b744, rfl, rfl, rfl, rfl, rfl, rfl, rfl, rfl, rfl, hagg1126, hs⟩
                  refine A2 rfl ?_ ?_
                  · refine OW_alloc ti64 hs (zs := [.int .i64 0, .int .i64 0]) rfl rfl ?_
                    intro b745 wv2633 hs
                    refine OW_nil ?_
                    have hS : SS g0 w0 gg1126 [Go.Lx.box b687 66 (([.int .i64 e12.atv.a, .int .i64 e12.atv.b]) ++ ([encS e12.text])), .obj b3 (.map es150 ck150), .row v1268 66 tT_dfa_entry.sz xv87.length xs286, Go.Lx.box b2 25 ([v4, v5, v6]), Go.Lx.box b1 25 ([v1, v2, v3])] _ := ⟨gg1185, hagg1126, (hs.sub (.cons _ (.cons_cons _ (.cons_cons _ (.cons_cons _ (.cons_cons _ (.cons_cons _ .slnil)))))))⟩
                    refine ⟨fun _ => hS, ?_⟩
                    refine A1 rfl ?_
                    refine C [.agg (List.toArray (α := Value) [v4, v5, v6]), .int .i64 e12.atv.b, .int .u8 (IntKind.u8.wrap xv88)] cf29 rfl (dfa_step_ok hrv456 hs.imm (⟨[v4], [v5], [v6], rfl, ⟨_, rfl, hRv4⟩, ⟨_, rfl, hRv5⟩, ⟨_, rfl, hRv6⟩⟩)) rfl ?_
                    rintro v1334 wv2634 ⟨gg1187, hvv1334, hegg1187⟩
                    have hlegg1187 := hegg1187.le hs.imm
                    replace hs := hs.call hegg1187
                    replace hRv1 := hRv1.mono hlegg1187
                    replace hRv2 := hRv2.mono hlegg1187
                    replace hRv3 := hRv3.mono hlegg1187
                    replace hRv4 := hRv4.mono hlegg1187
                    replace hRv5 := hRv5.mono hlegg1187
                    replace hRv6 := hRv6.mono hlegg1187
                    replace hrelxs286 := hrelxs286.mono hlegg1187
                    replace hlegg794 := hlegg794.trans hlegg1187
                    replace hagg794 := hagg794.trans hlegg1187
                    replace hlegg1126 := hlegg1126.trans hlegg1187
                    replace hagg1126 := hagg1126.trans hlegg1187
                    obtain ⟨cs1098, rfl, hcs1098⟩ := hvv1334
                    have hcs1098 : cs1098 = _ := hcs1098; subst hcs1098
                    refine OW_nil ?_
                    have hS : SS g0 w0 gg1126 [Go.Lx.box b687 66 (([.int .i64 e12.atv.a, .int .i64 e12.atv.b]) ++ ([encS e12.text])), .obj b3 (.map es150 ck150), .row v1268 66 tT_dfa_entry.sz xv87.length xs286, Go.Lx.box b2 25 ([v4, v5, v6]), Go.Lx.box b1 25 ([v1, v2, v3])] _ := ⟨gg1187, hagg1126, (hs.sub (.cons _ (.cons_cons _ (.cons_cons _ (.cons_cons _ (.cons_cons _ (.cons_cons _ .slnil)))))))⟩
                    refine ⟨fun _ => hS, ?_⟩
                    refine A rfl hS (fun w9 h9 => by obtain ⟨g9, hle9, hs⟩ := h9; exact r_build (vs := [(0, .int .i64 rv455), (1, .int .i64 rv456)]) (cs := [.int .i64 rv455, .int .i64 rv456]) rfl (by kernel_rfl)) rfl ?_
                    refine A1 rfl ?_
                    refine OW_storeAll ti64 hs (i := 0) rfl rfl (v := .agg (List.toArray (α := Value) [.int .i64 rv455, .int .i64 rv456])) rfl (vs := [.int .i64 rv455, .int .i64 rv456]) rfl (one_cons rfl (one_cons rfl one_nil)) rfl rfl ?_
                    intro wv2635 hs
                    refine OW_nil ?_
                    refine ⟨fun h => absurd h (by decide +kernel), ?_⟩
                    refine AN ?_
                    simp only [Option.some.injEq, Prod.mk.injEq] at hM
                    obtain ⟨rfl, rfl⟩ := hM
                    exact ⟨gg1187, b745, rfl, rfl, rfl, rfl, rfl, rfl, rfl, rfl, rfl, hagg1126, hs⟩
                  trivial
                refine A2 rfl ?_ ?_
                · refine OW_alloc ti64 hs (zs := [.int .i64 0, .int .i64 0]) rfl rfl ?_
                  intro b746 wv2636 hs
                  refine OW_nil ?_
                  have hS : SS g0 w0 gg1126 [Go.Lx.box b687 66 (([.int .i64 e12.atv.a, .int .i64 e12.atv.b]) ++ ([encS e12.text])), .obj b3 (.map es150 ck150), .row v1268 66 tT_dfa_entry.sz xv87.length xs286, Go.Lx.box b2 25 ([v4, v5, v6]), Go.Lx.box b1 25 ([v1, v2, v3])] _ := ⟨gg1126, (Hle.refl _), (hs.sub (.cons _ (.cons_cons _ (.cons_cons _ (.cons_cons _ (.cons_cons _ (.cons_cons _ .slnil)))))))⟩
                  refine ⟨fun _ => hS, ?_⟩
                  refine A1 rfl ?_
                  refine C [.agg (List.toArray (α := Value) [v1, v2, v3]), .int .i64 e12.atv.a, .int .u8 (IntKind.u8.wrap xv88)] cf29 rfl (dfa_step_ok hrv455 hs.imm (⟨[v1], [v2], [v3], rfl, ⟨_, rfl, hRv1⟩, ⟨_, rfl, hRv2⟩, ⟨_, rfl, hRv3⟩⟩)) rfl ?_
                  rintro v1335 wv2637 ⟨gg1188, hvv1335, hegg1188⟩
                  have hlegg1188 := hegg1188.le hs.imm
                  replace hs := hs.call hegg1188
                  replace hRv1 := hRv1.mono hlegg1188
                  replace hRv2 := hRv2.mono hlegg1188
                  replace hRv3 := hRv3.mono hlegg1188
                  replace hRv4 := hRv4.mono hlegg1188
                  replace hRv5 := hRv5.mono hlegg1188
                  replace hRv6 := hRv6.mono hlegg1188
                  replace hrelxs286 := hrelxs286.mono hlegg1188
                  replace hlegg794 := hlegg794.trans hlegg1188
                  replace hagg794 := hagg794.trans hlegg1188
                  replace hlegg1126 := hlegg1126.trans hlegg1188
                  replace hagg1126 := hagg1126.trans hlegg1188
                  obtain ⟨cs1099, rfl, hcs1099⟩ := hvv1335
                  have hcs1099 : cs1099 = _ := hcs1099; subst hcs1099
                  refine OW_nil ?_
                  have hS : SS g0 w0 gg1126 [Go.Lx.box b687 66 (([.int .i64 e12.atv.a, .int .i64 e12.atv.b]) ++ ([encS e12.text])), .obj b3 (.map es150 ck150), .row v1268 66 tT_dfa_entry.sz xv87.length xs286, Go.Lx.box b2 25 ([v4, v5, v6]), Go.Lx.box b1 25 ([v1, v2, v3])] _ := ⟨gg1188, hagg1126, (hs.sub (.cons _ (.cons_cons _ (.cons_cons _ (.cons_cons _ (.cons_cons _ (.cons_cons _ .slnil)))))))⟩
                  refine ⟨fun _ => hS, ?_⟩
                  refine A1 rfl ?_
                  refine C [.agg (List.toArray (α := Value) [v4, v5, v6]), .int .i64 e12.atv.b, .int .u8 (IntKind.u8.wrap xv88)] cf29 rfl (dfa_step_ok hrv456 hs.imm (⟨[v4], [v5], [v6], rfl, ⟨_, rfl, hRv4⟩, ⟨_, rfl, hRv5⟩, ⟨_, rfl, hRv6⟩⟩)) rfl ?_
                  rintro v1336 wv2638 ⟨gg1189, hvv1336, hegg1189⟩
                  have hlegg1189 := hegg1189.le hs.imm
                  replace hs := hs.call hegg1189
                  replace hRv1 := hRv1.mono hlegg1189
                  replace hRv2 := hRv2.mono hlegg1189
                  replace hRv3 := hRv3.mono hlegg1189
                  replace hRv4 := hRv4.mono hlegg1189
                  replace hRv5 := hRv5.mono hlegg1189
                  replace hRv6 := hRv6.mono hlegg1189
                  replace hrelxs286 := hrelxs286.mono hlegg1189
                  replace hlegg794 := hlegg794.trans hlegg1189
                  replace hagg794 := hagg794.trans hlegg1189
                  replace hlegg1126 := hlegg1126.trans hlegg1189
                  replace hagg1126 := hagg1126.trans hlegg1189
                  obtain ⟨cs1100, rfl, hcs1100⟩ := hvv1336
                  have hcs1100 : cs1100 = _ := hcs1100; subst hcs1100
                  refine OW_nil ?_
                  have hS : SS g0 w0 gg1126 [Go.Lx.box b687 66 (([.int .i64 e12.atv.a, .int .i64 e12.atv.b]) ++ ([encS e12.text])), .obj b3 (.map es150 ck150), .row v1268 66 tT_dfa_entry.sz xv87.length xs286, Go.Lx.box b2 25 ([v4, v5, v6]), Go.Lx.box b1 25 ([v1, v2, v3])] _ := ⟨gg1189, hagg1126, (hs.sub (.cons _ (.cons_cons _ (.cons_cons _ (.cons_cons _ (.cons_cons _ (.cons_cons _ .slnil)))))))⟩
                  refine ⟨fun _ => hS, ?_⟩
                  refine A rfl hS (fun w9 h9 => by obtain ⟨g9, hle9, hs⟩ := h9; exact r_build (vs := [(0, .int .i64 rv455), (1, .int .i64 rv456)]) (cs := [.int .i64 rv455, .int .i64 rv456]) rfl (by kernel_rfl)) rfl ?_
                  refine A1 rfl ?_
                  refine OW_storeAll ti64 hs (i := 0) rfl rfl (v := .agg (List.toArray (α := Value) [.int .i64 rv455, .int .i64 rv456])) rfl (vs := [.int .i64 rv455, .int .i64 rv456]) rfl (one_cons rfl (one_cons rfl one_nil)) rfl rfl ?_
                  intro wv2639 hs
                  refine OW_nil ?_
                  refine ⟨fun h => absurd h (by decide +kernel), ?_⟩
                  refine AN ?_
                  simp only [Option.some.injEq, Prod.mk.injEq] at hM
                  obtain ⟨rfl, rfl⟩ := hM
                  exact ⟨gg1189, b746, rfl, rfl, rfl, rfl, rfl, rfl, rfl, rfl, rfl, hagg1126, hs⟩
                trivial
              · clear hs
                rintro E w ⟨gg1182, b742, hE2, hE3, hE6, hE7, hE8, hE9, hE10, hE11, hE43, hlegg1182, hs⟩
                have hM := hKhx115
                obtain ⟨E, rfl⟩ := open1 (E := E) hE2
                obtain ⟨E, rfl⟩ := open1 (E := E) hE3
                obtain ⟨E, rfl⟩ := open1 (E := E) hE6
                obtain ⟨E, rfl⟩ := open1 (E := E) hE7
                obtain ⟨E, rfl⟩ := open1 (E := E) hE8
                obtain ⟨E, rfl⟩ := open1 (E := E) hE9
                obtain ⟨E, rfl⟩ := open1 (E := E) hE10
                obtain ⟨E, rfl⟩ := open1 (E := E) hE11
                obtain ⟨E, rfl⟩ := open1 (E := E) hE43
                replace hRv1 := hRv1.mono hlegg1182
                replace hRv2 := hRv2.mono hlegg1182
                replace hRv3 := hRv3.mono hlegg1182
                replace hRv4 := hRv4.mono hlegg1182
                replace hRv5 := hRv5.mono hlegg1182
                replace hRv6 := hRv6.mono hlegg1182
                replace hrelxs286 := hrelxs286.mono hlegg1182
                replace hlegg794 := hlegg794.trans hlegg1182
                replace hagg794 := hagg794.trans hlegg1182
                replace hlegg1126 := hlegg1126.trans hlegg1182
                replace hagg1126 := hagg1126.trans hlegg1182
                refine WP_seq ?_
                refine WP_region ?_
                refine O (r_move (v := .map (some b3)) rfl) rfl ?_
                refine O (r_loadN (cs := [.int .i64 rv453, .int .i64 rv454]) ti64 rfl rfl (hs.cells (i := 0) rfl)) rfl ?_
                refine O (r_lookup (z := ()) (kk := (T_dfa_pair.mk rv453 rv454)) Try.underlying69 ti68 (keyLaw_pair (K := T_dfa_pair) (ek := (fun (p : T_dfa_pair) => Value.agg #[.int .i64 p.a, .int .i64 p.b])) (·.a) (·.b) Try.underlying64 Try.underlying3 Try.underlying3 ti3 ti3 rfl rfl (by decide) (by decide) (by kernel_rfl) (fun _ => rfl) (by intro x y; rw [Bool.eq_iff_iff]; cases x; cases y; simp)) hs (i := 2) rfl hmes150 rfl rfl) rfl ?_
                refine O (r_move (v := .tuple #[.agg (List.toArray (α := Value) []), .bool ((mget m81 (T_dfa_pair.mk rv453 rv454)).isSome)]) rfl) rfl ?_
                refine O (r_extract (vs := [.agg (List.toArray (α := Value) []), .bool ((mget m81 (T_dfa_pair.mk rv453 rv454)).isSome)]) (v := .agg (List.toArray (α := Value) [])) rfl rfl) rfl ?_
                refine O (r_extract (vs := [.agg (List.toArray (α := Value) []), .bool ((mget m81 (T_dfa_pair.mk rv453 rv454)).isSome)]) (v := .bool ((mget m81 (T_dfa_pair.mk rv453 rv454)).isSome)) rfl rfl) rfl ?_
                refine OW_alloc ti68 hs (zs := []) rfl rfl ?_
                intro b747 wv2640 hs
                refine OW_storeAll ti68 hs (i := 0) rfl rfl (v := .agg (List.toArray (α := Value) [])) rfl (vs := []) rfl one_nil rfl rfl ?_
                intro wv2641 hs
                refine O (r_assign (v := .bool ((mget m81 (T_dfa_pair.mk rv453 rv454)).isSome)) rfl) rfl ?_
                refine OW_nil ?_
                refine WP_seq ?_
                refine WP_region ?_
                refine O (r_move (v := .bool ((mget m81 (T_dfa_pair.mk rv453 rv454)).isSome)) rfl) rfl ?_
                refine O (r_not rfl) rfl ?_
                refine OW_nil ?_
                rcases condS hM with ⟨hc126, hM⟩ | ⟨hc126, hM⟩
                · refine WP_true rfl hc126 ?_
                  refine WP_seq ?_
                  refine WP_region ?_
                  refine O (r_move (v := .map (some b3)) rfl) rfl ?_
                  refine O (r_loadN (cs := [.int .i64 rv453, .int .i64 rv454]) ti64 rfl rfl (hs.cells (i := 1) rfl)) rfl ?_
                  refine O (r_build (vs := []) (cs := []) rfl (by kernel_rfl)) rfl ?_
                  refine OW_mapSet (kk := (T_dfa_pair.mk rv453 rv454)) (vv := ()) Try.underlying69 (keyLaw_pair (K := T_dfa_pair) (ek := (fun (p : T_dfa_pair) => Value.agg #[.int .i64 p.a, .int .i64 p.b])) (·.a) (·.b) Try.underlying64 Try.underlying3 Try.underlying3 ti3 ti3 rfl rfl (by decide) (by decide) (by kernel_rfl) (fun _ => rfl) (by intro x y; rw [Bool.eq_iff_iff]; cases x; cases y; simp)) hs (i := 3) rfl hmes150 rfl rfl rfl ?_
                  intro es157 ck157 wv2642 hmes157 hs
                  refine OW_nil ?_
                  refine WP_region ?_
                  refine O (r_move (v := v1268) rfl) rfl ?_
                  refine O (r_loadN (cs := [.int .i64 rv453, .int .i64 rv454]) ti64 rfl rfl (hs.cells (i := 1) rfl)) rfl ?_
                  refine O (r_fieldAddr Try.underlying66 ti9 rfl rfl (by decide) rfl rfl) rfl ?_
                  refine O (r_load (v := encS e12.text) ti9 rfl (hs.cell (i := 2) (o := 2) rfl rfl)) rfl ?_
                  refine O (r_move (v := .int .i64 xv88) rfl) rfl ?_
                  refine O (r_conv Try.underlying3 Try.underlying5 rfl) rfl ?_
                  refine OW_lit (τ := (tInt .u8)) [.int .u8 (IntKind.u8.wrap xv88)] [(IntKind.u8.wrap xv88)] Try.underlying59 ti5 (by decide) hs rfl rfl rfl ⟨rfl, trivial⟩ rfl ?_
                  intro v1337 wv2643 xs299 hrelxs299 hs
                  refine O (r_toStr (l := [(IntKind.u8.wrap xv88)]) Try.underlying59 Try.underlying5 Try.underlying9 (v := v1337) rfl (hs.rowSrc (i := 0) rfl) hrelxs299) rfl ?_
                  obtain ⟨s72, hs72, hM⟩ := bindS hM
                  refine O (r_catS rfl rfl hs72) rfl ?_
                  refine O (r_build (vs := [(0, .agg (List.toArray (α := Value) [.int .i64 rv453, .int .i64 rv454])), (1, encS s72)]) (cs := ([.int .i64 rv453, .int .i64 rv454]) ++ ([encS s72])) rfl (by kernel_rfl)) rfl ?_
                  refine OW_lit (τ := tT_dfa_entry) [.agg (List.toArray (α := Value) (([.int .i64 rv453, .int .i64 rv454]) ++ ([encS s72])))] [(T_dfa_entry.mk (T_dfa_pair.mk rv453 rv454) s72)] Try.underlying67 ti66 (by decide) hs rfl rfl rfl ⟨⟨[.int .i64 rv453, .int .i64 rv454], [encS s72], rfl, ⟨[.int .i64 rv453], [.int .i64 rv454], rfl, rfl, rfl⟩, rfl⟩, trivial⟩ rfl ?_
                  intro v1338 wv2644 xs300 hrelxs300 hs
                  obtain ⟨y108, hy108, hM⟩ := bindS hM
                  refine OW_append Try.underlying67 ti66 rfl (by decide) (by decide) hs (i := 6) rfl hrelxs286 (v := v1268) rfl (u := v1338) rfl (hs.rowSrc (i := 0) rfl) hrelxs300 hy108 rfl ?_
                  intro v1339 wv2645 xs301 hrelxs301 hs
                  refine O (r_assign (v := v1339) rfl) rfl ?_
                  refine OW_nil ?_
                  simp only [Option.some.injEq, Prod.mk.injEq] at hM
                  obtain ⟨rfl, rfl⟩ := hM
                  exact ⟨gg1182, es157, ck157, v1339, xs301, rfl, rfl, rfl, rfl, rfl, rfl, rfl, hagg1126, hmes157, hrelxs301, (hs.sub (.cons _ (.cons _ (.cons _ (.cons _ (.cons_cons _ (.cons_cons _ (.cons_cons _ (.cons_cons _ (.cons_cons _ .slnil))))))))))⟩
                · refine WP_false rfl hc126 ?_
                  refine WP_skip ?_
                  simp only [Option.some.injEq, Prod.mk.injEq] at hM
                  obtain ⟨rfl, rfl⟩ := hM
                  exact ⟨gg1182, es150, ck150, v1268, xs286, rfl, rfl, rfl, rfl, rfl, rfl, rfl, hagg1126, hmes150, hrelxs286, (hs.sub (.cons _ (.cons _ (.cons_cons _ (.cons_cons _ (.cons_cons _ (.cons_cons _ (.cons_cons _ .slnil))))))))⟩
            · clear hs
              rintro E w ⟨gg1174, es156, ck156, v1322, xs298, hE2, hE3, hE6, hE7, hE8, hE9, hE43, hlegg1174, hmes156, hrelxs298, hs⟩
              have hM := hKhx114
              obtain ⟨E, rfl⟩ := open1 (E := E) hE2
              obtain ⟨E, rfl⟩ := open1 (E := E) hE3
              obtain ⟨E, rfl⟩ := open1 (E := E) hE6
              obtain ⟨E, rfl⟩ := open1 (E := E) hE7
              obtain ⟨E, rfl⟩ := open1 (E := E) hE8
              obtain ⟨E, rfl⟩ := open1 (E := E) hE9
              obtain ⟨E, rfl⟩ := open1 (E := E) hE43
              replace hRv1 := hRv1.mono hlegg1174
              replace hRv2 := hRv2.mono hlegg1174
              replace hRv3 := hRv3.mono hlegg1174
              replace hRv4 := hRv4.mono hlegg1174
              replace hRv5 := hRv5.mono hlegg1174
              replace hRv6 := hRv6.mono hlegg1174
              replace hlegg794 := hlegg794.trans hlegg1174
              replace hagg794 := hagg794.trans hlegg1174
              replace hlegg1126 := hlegg1126.trans hlegg1174
              replace hagg1126 := hagg1126.trans hlegg1174
              refine WP_region ?_
              obtain ⟨t41, ht41, hM⟩ := bindS hM
              refine O (r_addM rfl rfl ht41) rfl ?_
              refine O (r_move (v := .int .i64 t41) rfl) rfl ?_
              refine OW_nil ?_
              obtain rfl := Option.some.inj hM
              exact ⟨gg1174, es156, ck156, v1322, xs298, rfl, rfl, rfl, rfl, rfl, rfl, rfl, hlegg1126, hmes156, hrelxs298, hs⟩
          · refine WP_false rfl hc124 ?_
            refine WP_exit ?_
            obtain rfl := Option.some.inj hM
            refine fun hr => ?_
            have hM := congrArg some hr
            obtain rfl := Option.some.inj hM
            exact ⟨xv87, m81, rfl, gg1126, es150, ck150, v1268, xs286, rfl, rfl, rfl, rfl, rfl, hagg794, hmes150, hrelxs286, (hs.sub (.cons _ (.cons_cons _ (.cons_cons _ (.cons_cons _ (.cons_cons _ .slnil))))))⟩
      · clear hs
        rintro E w ⟨xv84, m78, rfl, gg1091, es145, ck145, v1229, xs277, hE2, hE3, hE6, hE7, hE8, hlegg1091, hmes145, hrelxs277, hs⟩
        have hM := hKhx106
        dsimp only [onStep] at hM
        obtain ⟨E, rfl⟩ := open1 (E := E) hE2
        obtain ⟨E, rfl⟩ := open1 (E := E) hE3
        obtain ⟨E, rfl⟩ := open1 (E := E) hE6
        obtain ⟨E, rfl⟩ := open1 (E := E) hE7
        obtain ⟨E, rfl⟩ := open1 (E := E) hE8
        replace hRv1 := hRv1.mono hlegg1091
        replace hRv2 := hRv2.mono hlegg1091
        replace hRv3 := hRv3.mono hlegg1091
        replace hRv4 := hRv4.mono hlegg1091
        replace hRv5 := hRv5.mono hlegg1091
        replace hRv6 := hRv6.mono hlegg1091
        replace hlegg794 := hlegg794.trans hlegg1091
        replace hagg794 := hagg794.trans hlegg1091
        refine WP_region ?_
        refine O (r_move (v := .int .i64 xv62) rfl) rfl ?_
        obtain ⟨t42, ht42, hM⟩ := bindS hM
        refine O (r_addM rfl rfl ht42) rfl ?_
        refine O (r_assign (v := .int .i64 t42) rfl) rfl ?_
        refine OW_nil ?_
        obtain rfl := Option.some.inj hM
        exact ⟨gg1091, es145, ck145, v1229, xs277, rfl, rfl, rfl, rfl, rfl, hlegg794, hmes145, hrelxs277, hs⟩
    · refine WP_false rfl hc106 ?_
      refine WP_exit ?_
      obtain rfl := Option.some.inj hM
      refine fun hr => ?_
      have hM := congrArg some hr
      obtain rfl := Option.some.inj hM
      exact ⟨(), rfl, gg794, hlegg794, (hs.sub (.cons _ (.cons _ (.cons _ (.cons _ .slnil)))))⟩
  · clear hs
    rintro E w ⟨_, rfl, gg595, hlegg595, hs⟩
    have hM := hKhx58
    dsimp only [onStep] at hM
    refine WP_seq ?_
    refine WP_region ?_
    refine O (r_assign (v := encS []) rfl) rfl ?_
    refine O (r_assign (v := .bool false) rfl) rfl ?_
    refine OW_nil ?_
    refine WP_ret ?_
    obtain rfl := Option.some.inj hM
    exact ⟨_, res2 Try.results17 (rv_tmp (v := encS []) rfl) (rv_tmp (v := .bool false) rfl), gg595, ⟨_, _, rfl, ⟨[encS []], rfl, rfl⟩, ⟨[.bool false], rfl, rfl⟩⟩, hs.ext⟩

set_option maxRecDepth 100000 in
theorem law10_class_ok {b1 : Int} {r : (List Int)} (hM : M.law10_class b1 = some r) {g0 : Hp} {w0 : World} (hi : Imm g0 w0) :
    CallsV Try.prog 25 #[.int .u8 b1] w0 (fun v w' => ∃ g' y0, (RowRel (tInt .i64) g' y0 r) ∧ Sep g0 w0 g' w' [.row v 3 (tInt .i64).sz r.length y0]) := by
  unfold M.law10_class at hM
  have hs := Sep.start hi
  refine calls_of_WP (args := [.int .u8 b1]) Try.func25 rfl Try.ntmps25 rfl ?_
  refine WP_seq ?_
  refine WP_region ?_
  refine O (r_assign (v := .slice none 0 0) rfl) rfl ?_
  refine OW_nil ?_
  refine WP_seq ?_
  refine WP_region ?_
  obtain ⟨c1, hc1, hM⟩ := bindS hM
  refine OW_make (τ := (tInt .i64)) (zc := [.int .i64 0]) (zx := 0) Try.underlying22 ti3 rfl rfl (by decide) hs rfl rfl hc1 rfl ?_
  intro v1 wv1 xs1 hrelxs1 hs
  refine O (r_assign (v := v1) rfl) rfl ?_
  refine OW_nil ?_
  refine WP_seq ?_
  refine WP_region ?_
  refine O (r_move (v := v1) rfl) rfl ?_
  refine O (r_move (v := .int .u8 b1) rfl) rfl ?_
  obtain ⟨c2, hc2, hM⟩ := bindS hM
  obtain ⟨b2, cb2, hvb2, wv2, xs2, hstb2, hrelb2, hsb2⟩ := hs.rowPut (i := 0) rfl hrelxs1 hc2 (cs := [.int .i64 1]) rfl
  refine O (r_idxSl Try.underlying22 ti3 (v := v1) rfl hvb2 rfl (setL_some hc2).1 (setL_some hc2).2.1) rfl ?_
  refine O0 (r_store ti3 rfl (v := .int .i64 1) rfl rfl hstb2) ?_
  have hs := hsb2
  refine OW_nil ?_
  refine WP_seq ?_
  refine WP_region ?_
  refine O (r_move (v := v1) rfl) rfl ?_
  refine O (r_assign (v := v1) rfl) rfl ?_
  refine OW_nil ?_
  refine WP_ret ?_
  obtain rfl := Option.some.inj hM
  exact ⟨_, res1 Try.results25 (rv_tmp (v := v1) rfl), g0, xs2, hrelb2, hs⟩

set_option maxRecDepth 100000 in
theorem law10_plus_ok {r : T_DFA × T_DFA} (hM : M.law10_plus = some r) {g0 : Hp} {w0 : World} (hi : Imm g0 w0) :
    CallsV Try.prog 24 #[] w0 (fun v w' => ∃ g', (∃ v1 v2, v = .tuple #[v1, v2] ∧ VRd tT_DFA true g' v1 r.1 ∧ VRd tT_DFA true g' v2 r.2) ∧ Ext g0 w0 g' w') := by
  unfold M.law10_plus at hM
  have hs := Sep.start hi
  refine calls_of_WP (args := []) Try.func24 rfl Try.ntmps24 rfl ?_
  refine WP_seq ?_
  refine WP_region ?_
  refine OW_alloc ti25 hs (zs := [.slice none 0 0, .slice none 0 0, .slice none 0 0]) rfl rfl ?_
  intro b1 wv1 hs
  refine OW_alloc ti25 hs (zs := [.slice none 0 0, .slice none 0 0, .slice none 0 0]) rfl rfl ?_
  intro b2 wv2 hs
  refine OW_nil ?_
  refine WP_seq ?_
  refine WP_region ?_
  obtain ⟨rv1, hrv1, hM⟩ := bindS hM
  refine C [.int .u8 97] cf25 rfl (law10_class_ok hrv1 hs.imm) rfl ?_
  rintro v1 wv3 ⟨gg1, xs1, hvv1, hegg1⟩
  have hlegg1 := hegg1.ext.le hs.imm
  replace hs := hs.callOwn hegg1
  simp only [List.cons_append, List.nil_append] at hs
  refine OW_lit (τ := (tInt .i64)) [.int .i64 (-1), .int .i64 1] [(-1), 1] Try.underlying22 ti3 (by decide) hs rfl rfl rfl ⟨rfl, rfl, trivial⟩ rfl ?_
  intro v2 wv4 xs2 hrelxs2 hs
  refine OW_lit (τ := (tInt .i64)) [.int .i64 (-1), .int .i64 1] [(-1), 1] Try.underlying22 ti3 (by decide) hs rfl rfl rfl ⟨rfl, rfl, trivial⟩ rfl ?_
  intro v3 wv5 xs3 hrelxs3 hs
  obtain ⟨gg2, hlegg2, hRgg2, hs⟩ := hs.relRow (i := 1) rfl hrelxs2
  replace hvv1 := hvv1.mono hlegg2
  replace hrelxs3 := hrelxs3.mono hlegg2
  obtain ⟨gg3, hlegg3, hRgg3, hs⟩ := hs.relRow (i := 0) rfl hrelxs3
  replace hvv1 := hvv1.mono hlegg3
  replace hRgg2 := hRgg2.mono hlegg3
  refine OW_lit (τ := (tSl (tInt .i64))) [v2, v3] [[(-1), 1], [(-1), 1]] Try.underlying23 ti22 (by decide) hs rfl rfl rfl ⟨⟨v2, cells_one (by obtain ⟨_, _, h9⟩ := hRgg2.shape; rw [h9]; rfl), hRgg2⟩, ⟨v3, cells_one (by obtain ⟨_, _, h9⟩ := hRgg3.shape; rw [h9]; rfl), hRgg3⟩, trivial⟩ rfl ?_
  intro v4 wv6 xs4 hrelxs4 hs
  refine OW_lit (τ := (tInt .i64)) [.int .i64 (-1), .int .i64 0] [(-1), 0] Try.underlying22 ti3 (by decide) hs rfl rfl rfl ⟨rfl, rfl, trivial⟩ rfl ?_
  intro v5 wv7 xs5 hrelxs5 hs
  have ho1 := one_of_shape (hs.rowShape (i := 2) rfl)
  have ho2 := one_of_shape (hs.rowShape (i := 1) rfl)
  have ho3 := one_of_shape (hs.rowShape (i := 0) rfl)
  refine O (r_build (vs := [(0, v1), (1, v4), (2, v5)]) (cs := [v1, v4, v5]) rfl (built_fill [(0, 1), (1, 1), (2, 1)] [.slice none 0 0, .slice none 0 0, .slice none 0 0] (fun _ => by kernel_rfl) (fill_step ([]) ([.slice none 0 0]) ([.slice none 0 0, .slice none 0 0]) ([v1]) rfl rfl (cells_one ho1) rfl rfl rfl <| fill_step ([v1]) ([.slice none 0 0]) ([.slice none 0 0]) ([v4]) rfl rfl (cells_one ho2) rfl rfl rfl <| fill_step ([v1, v4]) ([.slice none 0 0]) ([]) ([v5]) rfl rfl (cells_one ho3) rfl rfl rfl <| fill_done))) rfl ?_
  obtain ⟨rv2, hrv2, hM⟩ := bindS hM
  refine C [.int .u8 97] cf25 rfl (law10_class_ok hrv2 hs.imm) rfl ?_
  rintro v6 wv8 ⟨gg4, xs6, hvv6, hegg4⟩
  have hlegg4 := hegg4.ext.le hs.imm
  replace hs := hs.callOwn hegg4
  simp only [List.cons_append, List.nil_append] at hs
  replace hvv1 := hvv1.mono hlegg4
  replace hRgg2 := hRgg2.mono hlegg4
  replace hRgg3 := hRgg3.mono hlegg4
  replace hrelxs4 := hrelxs4.mono hlegg4
  replace hrelxs5 := hrelxs5.mono hlegg4
  refine OW_lit (τ := (tInt .i64)) [.int .i64 (-1), .int .i64 1] [(-1), 1] Try.underlying22 ti3 (by decide) hs rfl rfl rfl ⟨rfl, rfl, trivial⟩ rfl ?_
  intro v7 wv9 xs7 hrelxs7 hs
  refine OW_lit (τ := (tInt .i64)) [.int .i64 (-1), .int .i64 2] [(-1), 2] Try.underlying22 ti3 (by decide) hs rfl rfl rfl ⟨rfl, rfl, trivial⟩ rfl ?_
  intro v8 wv10 xs8 hrelxs8 hs
  refine OW_lit (τ := (tInt .i64)) [.int .i64 (-1), .int .i64 1] [(-1), 1] Try.underlying22 ti3 (by decide) hs rfl rfl rfl ⟨rfl, rfl, trivial⟩ rfl ?_
  intro v9 wv11 xs9 hrelxs9 hs
  obtain ⟨gg5, hlegg5, hRgg5, hs⟩ := hs.relRow (i := 2) rfl hrelxs7
  replace hvv1 := hvv1.mono hlegg5
  replace hRgg2 := hRgg2.mono hlegg5
  replace hRgg3 := hRgg3.mono hlegg5
  replace hrelxs4 := hrelxs4.mono hlegg5
  replace hrelxs5 := hrelxs5.mono hlegg5
  replace hvv6 := hvv6.mono hlegg5
  replace hrelxs8 := hrelxs8.mono hlegg5
  replace hrelxs9 := hrelxs9.mono hlegg5
  obtain ⟨gg6, hlegg6, hRgg6, hs⟩ := hs.relRow (i := 1) rfl hrelxs8
  replace hvv1 := hvv1.mono hlegg6
  replace hRgg2 := hRgg2.mono hlegg6
  replace hRgg3 := hRgg3.mono hlegg6
  replace hrelxs4 := hrelxs4.mono hlegg6
  replace hrelxs5 := hrelxs5.mono hlegg6
  replace hvv6 := hvv6.mono hlegg6
  replace hrelxs9 := hrelxs9.mono hlegg6
  replace hRgg5 := hRgg5.mono hlegg6
  obtain ⟨gg7, hlegg7, hRgg7, hs⟩ := hs.relRow (i := 0) rfl hrelxs9
  replace hvv1 := hvv1.mono hlegg7
  replace hRgg2 := hRgg2.mono hlegg7
  replace hRgg3 := hRgg3.mono hlegg7
  replace hrelxs4 := hrelxs4.mono hlegg7
  replace hrelxs5 := hrelxs5.mono hlegg7
  replace hvv6 := hvv6.mono hlegg7
  replace hRgg5 := hRgg5.mono hlegg7
  replace hRgg6 := hRgg6.mono hlegg7
  refine OW_lit (τ := (tSl (tInt .i64))) [v7, v8, v9] [[(-1), 1], [(-1), 2], [(-1), 1]] Try.underlying23 ti22 (by decide) hs rfl rfl rfl ⟨⟨v7, cells_one (by obtain ⟨_, _, h9⟩ := hRgg5.shape; rw [h9]; rfl), hRgg5⟩, ⟨v8, cells_one (by obtain ⟨_, _, h9⟩ := hRgg6.shape; rw [h9]; rfl), hRgg6⟩, ⟨v9, cells_one (by obtain ⟨_, _, h9⟩ := hRgg7.shape; rw [h9]; rfl), hRgg7⟩, trivial⟩ rfl ?_
  intro v10 wv12 xs10 hrelxs10 hs
  refine OW_lit (τ := (tInt .i64)) [.int .i64 (-1), .int .i64 0, .int .i64 0] [(-1), 0, 0] Try.underlying22 ti3 (by decide) hs rfl rfl rfl ⟨rfl, rfl, rfl, trivial⟩ rfl ?_
  intro v11 wv13 xs11 hrelxs11 hs
  have ho4 := one_of_shape (hs.rowShape (i := 2) rfl)
  have ho5 := one_of_shape (hs.rowShape (i := 1) rfl)
  have ho6 := one_of_shape (hs.rowShape (i := 0) rfl)
  refine O (r_build (vs := [(0, v6), (1, v10), (2, v11)]) (cs := [v6, v10, v11]) rfl (built_fill [(0, 1), (1, 1), (2, 1)] [.slice none 0 0, .slice none 0 0, .slice none 0 0] (fun _ => by kernel_rfl) (fill_step ([]) ([.slice none 0 0]) ([.slice none 0 0, .slice none 0 0]) ([v6]) rfl rfl (cells_one ho4) rfl rfl rfl <| fill_step ([v6]) ([.slice none 0 0]) ([.slice none 0 0]) ([v10]) rfl rfl (cells_one ho5) rfl rfl rfl <| fill_step ([v6, v10]) ([.slice none 0 0]) ([]) ([v11]) rfl rfl (cells_one ho6) rfl rfl rfl <| fill_done))) rfl ?_
  refine OW_storeAll ti25 hs (i := 7) rfl rfl (v := .agg (List.toArray (α := Value) [v1, v4, v5])) rfl (vs := [v1, v4, v5]) rfl (one_cons (by obtain ⟨_, _, h9⟩ := hs.rowShape (i := 5) rfl; rw [h9]; rfl) (one_cons (by obtain ⟨_, _, h9⟩ := hs.rowShape (i := 4) rfl; rw [h9]; rfl) (one_cons (by obtain ⟨_, _, h9⟩ := hs.rowShape (i := 3) rfl; rw [h9]; rfl) one_nil))) rfl rfl ?_
  intro wv14 hs
  refine OW_storeAll ti25 hs (i := 6) rfl rfl (v := .agg (List.toArray (α := Value) [v6, v10, v11])) rfl (vs := [v6, v10, v11]) rfl (one_cons (by obtain ⟨_, _, h9⟩ := hs.rowShape (i := 2) rfl; rw [h9]; rfl) (one_cons (by obtain ⟨_, _, h9⟩ := hs.rowShape (i := 1) rfl; rw [h9]; rfl) (one_cons (by obtain ⟨_, _, h9⟩ := hs.rowShape (i := 0) rfl; rw [h9]; rfl) one_nil))) rfl rfl ?_
  intro wv15 hs
  refine OW_nil ?_
  refine WP_ret ?_
  obtain ⟨gg8, hlegg8, hRgg8, hs⟩ := hs.relRow (i := 5) rfl hvv1
  replace hRgg2 := hRgg2.mono hlegg8
  replace hRgg3 := hRgg3.mono hlegg8
  replace hrelxs4 := hrelxs4.mono hlegg8
  replace hrelxs5 := hrelxs5.mono hlegg8
  replace hvv6 := hvv6.mono hlegg8
  replace hRgg5 := hRgg5.mono hlegg8
  replace hRgg6 := hRgg6.mono hlegg8
  replace hRgg7 := hRgg7.mono hlegg8
  replace hrelxs10 := hrelxs10.mono hlegg8
  replace hrelxs11 := hrelxs11.mono hlegg8
  obtain ⟨gg9, hlegg9, hRgg9, hs⟩ := hs.relRow (i := 4) rfl hrelxs4
  replace hRgg2 := hRgg2.mono hlegg9
  replace hRgg3 := hRgg3.mono hlegg9
  replace hrelxs5 := hrelxs5.mono hlegg9
  replace hvv6 := hvv6.mono hlegg9
  replace hRgg5 := hRgg5.mono hlegg9
  replace hRgg6 := hRgg6.mono hlegg9
  replace hRgg7 := hRgg7.mono hlegg9
  replace hrelxs10 := hrelxs10.mono hlegg9
  replace hrelxs11 := hrelxs11.mono hlegg9
  replace hRgg8 := hRgg8.mono hlegg9
  obtain ⟨gg10, hlegg10, hRgg10, hs⟩ := hs.relRow (i := 3) rfl hrelxs5
  replace hRgg2 := hRgg2.mono hlegg10
  replace hRgg3 := hRgg3.mono hlegg10
  replace hvv6 := hvv6.mono hlegg10
  replace hRgg5 := hRgg5.mono hlegg10
  replace hRgg6 := hRgg6.mono hlegg10
  replace hRgg7 := hRgg7.mono hlegg10
  replace hrelxs10 := hrelxs10.mono hlegg10
  replace hrelxs11 := hrelxs11.mono hlegg10
  replace hRgg8 := hRgg8.mono hlegg10
  replace hRgg9 := hRgg9.mono hlegg10
  obtain ⟨gg11, hlegg11, hRgg11, hs⟩ := hs.relRow (i := 2) rfl hvv6
  replace hRgg2 := hRgg2.mono hlegg11
  replace hRgg3 := hRgg3.mono hlegg11
  replace hRgg5 := hRgg5.mono hlegg11
  replace hRgg6 := hRgg6.mono hlegg11
  replace hRgg7 := hRgg7.mono hlegg11
  replace hrelxs10 := hrelxs10.mono hlegg11
  replace hrelxs11 := hrelxs11.mono hlegg11
  replace hRgg8 := hRgg8.mono hlegg11
  replace hRgg9 := hRgg9.mono hlegg11
  replace hRgg10 := hRgg10.mono hlegg11
  obtain ⟨gg12, hlegg12, hRgg12, hs⟩ := hs.relRow (i := 1) rfl hrelxs10
  replace hRgg2 := hRgg2.mono hlegg12
  replace hRgg3 := hRgg3.mono hlegg12
  replace hRgg5 := hRgg5.mono hlegg12
  replace hRgg6 := hRgg6.mono hlegg12
  replace hRgg7 := hRgg7.mono hlegg12
  replace hrelxs11 := hrelxs11.mono hlegg12
  replace hRgg8 := hRgg8.mono hlegg12
  replace hRgg9 := hRgg9.mono hlegg12
  replace hRgg10 := hRgg10.mono hlegg12
  replace hRgg11 := hRgg11.mono hlegg12
  obtain ⟨gg13, hlegg13, hRgg13, hs⟩ := hs.relRow (i := 0) rfl hrelxs11
  replace hRgg2 := hRgg2.mono hlegg13
  replace hRgg3 := hRgg3.mono hlegg13
  replace hRgg5 := hRgg5.mono hlegg13
  replace hRgg6 := hRgg6.mono hlegg13
  replace hRgg7 := hRgg7.mono hlegg13
  replace hRgg8 := hRgg8.mono hlegg13
  replace hRgg9 := hRgg9.mono hlegg13
  replace hRgg10 := hRgg10.mono hlegg13
  replace hRgg11 := hRgg11.mono hlegg13
  replace hRgg12 := hRgg12.mono hlegg13
  obtain rfl := Option.some.inj hM
  exact ⟨_, res2 Try.results24 (rv_cells (vs := [v1, v4, v5]) ti25 rfl rfl (hs.cells (i := 1) rfl)) (rv_cells (vs := [v6, v10, v11]) ti25 rfl rfl (hs.cells (i := 0) rfl)), gg13, ⟨_, _, rfl, ⟨[v1, v4, v5], rfl, ⟨[v1], [v4], [v5], rfl, ⟨_, rfl, hRgg8⟩, ⟨_, rfl, hRgg9⟩, ⟨_, rfl, hRgg10⟩⟩⟩, ⟨[v6, v10, v11], rfl, ⟨[v6], [v10], [v11], rfl, ⟨_, rfl, hRgg11⟩, ⟨_, rfl, hRgg12⟩, ⟨_, rfl, hRgg13⟩⟩⟩⟩, hs.ext⟩


end Go.Proofs.Ytogpainomdfpnaa
