/- The walk of the law. Printed by a program of my own. -/
import Derived.Test.YtjjinpgjfabemaaDoorTyp
import Derived.Test.YtjjinpgjfabemaaDoorWalk1
set_option linter.unusedVariables false
set_option linter.unusedSimpArgs false
namespace Go.Proofs.YtjjinpgjfabemaaDoor
open Go.Lx Go.RowKit
set_option maxRecDepth 100000 in
theorem law07_BytesetAll_ok {p1 : (Vec 4)} {p2 : Int} {r : Bool} (hM : M.law07_BytesetAll p1 p2 = some r) {g0 : Hp} {w0 : World} (hi : Imm g0 w0) (hG0 : GBox 0 (M.deBruijn.1.map (Value.int .u8)) g0) :
    CallsV Tryd.prog 3 #[encV .u64 p1, Value.int .u8 p2] w0 (fun v w' => ∃ g', (VRd tBool false g' v r) ∧ Ext g0 w0 g' w') := by
 unfold M.law07_BytesetAll at hM
 have hs := Sep.start hi
 refine calls_of_WP (args := [encV .u64 p1, Value.int .u8 p2]) Tryd.func3 rfl Tryd.ntmps3 rfl ?_
 have hds : (argEnv [encV .u64 p1, Value.int .u8 p2]).ds = [] := rfl
 refine WP_seq <| WP_region <| OW_box (v := encV .u64 p1) rfl hs (zs := p1.1.map (Value.int .u64)) rfl rfl ?_
 intro b1 wv1 hs
 refine OW_box (v := Value.int .u8 p2) rfl hs (zs := [Value.int .u8 p2]) rfl rfl ?_
 intro b2 wv2 hs
 refine OW_alloc ti4 hs (zs := [Value.bool false]) rfl rfl ?_
 intro b3 wv3 hs
 refine OW_nil <| WP_seq <| WP_region <| O (r_loadN (cs := p1.1.map (Value.int .u64)) ti24 rfl (by simp [p1.2]) (hs.cells (i := 2) rfl)) rfl ?_
 obtain ⟨rv1, hrv1, hM⟩ := bindS hM
 refine C [encV .u64 p1] cf4 rfl (law07_elements_ok hrv1 hs.imm hG0) rfl ?_
 rintro v1 wv4 ⟨gg1, xs1, v2, v3, ⟨rfl, hvv2, hvv3⟩, hegg1⟩
 have hlegg1 := hegg1.ext.le hs.imm
 replace hs := hs.callOwn hegg1
 simp only [List.cons_append, List.nil_append] at hs
 replace hG0 := hG0.mono hlegg1
 obtain ⟨cs1, rfl, hcs1⟩ := hvv3
 have hcs1 : cs1 = _ := hcs1; subst hcs1
 refine O (r_move (v := Value.tuple #[v2, Value.bool rv1.2]) rfl) rfl <| O (r_extract (vs := [v2, Value.bool rv1.2]) (v := v2) rfl rfl) rfl <| O (r_extract (vs := [v2, Value.bool rv1.2]) (v := Value.bool rv1.2) rfl rfl) rfl <| OW_alloc ti25 hs (zs := [Value.slice none 0 0]) rfl rfl ?_
 intro b4 wv5 hs
 refine OW_store1 ti25 hs (i := 0) rfl rfl (v := v2) rfl (by obtain ⟨_, _, h9⟩ := hs.rowShape (i := 1) rfl; rw [h9]; rfl) (o := 0) (Nat.zero_lt_succ _) ?_
 intro wv6 hs
 refine O (r_assign (v := Value.bool rv1.2) rfl) rfl <| OW_nil <| WP_seq ?_
 obtain ⟨xv1, hx1, hKhx1⟩ := bindS hM
 refine WP_cut (fun E w => ∃ (gg3 : Hp), E 2 = Value.pointer (some ⟨b1, 0, none⟩) ∧ E 3 = Value.pointer (some ⟨b2, 0, none⟩) ∧ E 4 = Value.pointer (some ⟨b3, 0, none⟩) ∧ E 5 = Value.pointer (some ⟨b4, 0, none⟩) ∧ E 23 = Value.bool xv1 ∧ E.ds = [] ∧ Hle gg1 gg3 ∧ Go.Lx.Sep g0 w0 gg3 w [Go.Lx.box b4 25 ([v2]), .row v2 5 (tInt .u8).sz rv1.1.length xs1, Go.Lx.box b3 4 ([Value.bool false]), Go.Lx.box b2 5 ([Value.int .u8 p2]), Go.Lx.box b1 24 (p1.1.map (Value.int .u64))]) ?_ ?_
 ·have hM := hx1
  have hagg1 := Hle.refl gg1
  refine WP_any (.q 0 (.q 1 (.q 2 (.q 3 (.q 4 (.q 5 (.s 6 (.q 7 (.q 8 (.leaf)))))))))) (SS g0 w0 gg1 [Go.Lx.box b4 25 ([v2]), .row v2 5 (tInt .u8).sz rv1.1.length xs1, Go.Lx.box b3 4 ([Value.bool false]), Go.Lx.box b2 5 ([Value.int .u8 p2]), Go.Lx.box b1 24 (p1.1.map (Value.int .u64))]) mo (by decide +kernel) ?_
  have hs := hs.drew
  have hS : SS g0 w0 gg1 [Go.Lx.box b4 25 ([v2]), .row v2 5 (tInt .u8).sz rv1.1.length xs1, Go.Lx.box b3 4 ([Value.bool false]), Go.Lx.box b2 5 ([Value.int .u8 p2]), Go.Lx.box b1 24 (p1.1.map (Value.int .u64))] _ := ⟨gg1, Hle.refl _, hs⟩
  refine A rfl hS (fun w9 ⟨g9, hle9, hs⟩ => r_move (v := Value.bool rv1.2) rfl) rfl <| A rfl hS (fun w9 ⟨g9, hle9, hs⟩ => r_not rfl) rfl <| A rfl hS (fun w9 ⟨g9, hle9, hs⟩ => r_move (v := Value.bool (!rv1.2)) rfl) rfl ?_
  rcases condS hM with ⟨hg2, hM⟩ | ⟨hg2, hM⟩
  ·refine AK rfl rfl rfl rfl (by rw [hg2]; rfl) hS rfl <| AK rfl rfl rfl rfl (by rw [hg2]; rfl) hS rfl <| AK rfl rfl rfl rfl (by rw [hg2]; rfl) hS rfl <| A1 rfl <| OK rfl rfl rfl (by rw [hg2]; rfl) rfl <| OW_nil ⟨fun _ => hS, ?_⟩
   refine AK rfl rfl rfl rfl (by rw [hg2]; rfl) hS rfl <| A rfl hS (fun w9 ⟨g9, hle9, hs⟩ => r_pickT (v := Value.bool true) rfl hg2 rfl) rfl <| AN ?_
   obtain rfl := Option.some.inj hM
   exact ⟨gg1, rfl, rfl, rfl, rfl, rfl, hds, (Hle.refl _), hs⟩
  ·refine AG rfl rfl rfl rfl (by rw [hg2]; rfl) hS (fun w9 ⟨g9, hle9, hs⟩ => r_load (v := v2) ti25 rfl (hs.cell (i := 0) (o := 0) rfl rfl)) rfl ?_
   obtain ⟨a2, ca2, hva2⟩ := hs.rowShape (i := 1) rfl
   refine AG rfl rfl rfl rfl (by rw [hg2]; rfl) hS (fun w9 ⟨g9, hle9, hs⟩ => r_lenSl (v := v2) Tryd.underlying25 rfl hva2) rfl <| AG rfl rfl rfl rfl (by rw [hg2]; rfl) hS (fun w9 ⟨g9, hle9, hs⟩ => r_loadN (cs := p1.1.map (Value.int .u64)) ti24 rfl (by simp [p1.2]) (hs.cells (i := 4) rfl)) rfl <| A1 rfl ?_
   obtain ⟨rv3, hrv3, hM⟩ := bindS hM
   refine CG rfl rfl rfl (by rw [hg2]; rfl) [encV .u64 p1] cf5 rfl (byteset_Len_ok hrv3 hs.imm) rfl ?_
   rintro v5 wv8 ⟨gg4, hvv5, hegg4⟩
   have hlegg4 := hegg4.le hs.imm
   replace hs := hs.call hegg4
   replace hagg1 := hagg1.trans hlegg4
   obtain ⟨cs3, rfl, hcs3⟩ := hvv5
   have hcs3 : cs3 = _ := hcs3; subst hcs3
   refine OW_nil ?_
   replace hS := hS.to hagg1 hs
   refine ⟨fun _ => hS, ?_⟩
   refine AG rfl rfl rfl rfl (by rw [hg2]; rfl) hS (fun w9 ⟨g9, hle9, hs⟩ => r_neq rfl rfl) rfl <| A rfl hS (fun w9 ⟨g9, hle9, hs⟩ => r_pickF (v := Value.bool ((rv1.1.length : Int) != rv3)) rfl hg2 rfl) rfl <| AN ?_
   obtain rfl := Option.some.inj hM
   exact ⟨gg4, rfl, rfl, rfl, rfl, rfl, hds, hagg1, hs⟩
 ·clear hs
  rintro E w ⟨gg3, hE2, hE3, hE4, hE5, hE23, hds, hlegg3, hs⟩
  have hM := hKhx1
  obtain ⟨E, rfl⟩ := open5 (E := E) hE2 hE3 hE4 hE5 hE23
  replace hG0 := hG0.mono hlegg3
  replace hvv2 := hvv2.mono hlegg3
  rcases condS hM with ⟨hc1, hM⟩ | ⟨hc1, hM⟩
  ·refine WP_true rfl hc1 <| WP_seq <| WP_region <| OW_store1 ti4 hs (i := 2) rfl rfl (v := Value.bool false) rfl rfl (o := 0) (Nat.zero_lt_succ _) ?_
   intro wv9 hs
   refine OW_nil <| WP_ret ?_
   obtain rfl := Option.some.inj hM
   refine FL_nil hds ?_
   exact ⟨_, res1 Tryd.results3 (rv_cell (v := Value.bool false) ti4 rfl (hs.cell (i := 2) (o := 0) rfl rfl)), gg3, ⟨[Value.bool false], rfl, rfl⟩, hs.ext⟩
  ·refine WP_false rfl hc1 <| WP_skip ?_
   obtain ⟨o3, hx5, hKhx5⟩ := stepS hM
   refine WP_cut (fun E w => ∃ u9 : Unit, o3 = .next u9 ∧ ∃ (gg17 : Hp) (v12 : Value) (xs2 : List Value), E 2 = Value.pointer (some ⟨b1, 0, none⟩) ∧ E 3 = Value.pointer (some ⟨b2, 0, none⟩) ∧ E 4 = Value.pointer (some ⟨b3, 0, none⟩) ∧ E 5 = Value.pointer (some ⟨b4, 0, none⟩) ∧ E.ds = [] ∧ Hle gg3 gg17 ∧ RowRel (tInt .u8) gg17 xs2 rv1.1 ∧ Go.Lx.Sep g0 w0 gg17 w [Go.Lx.box b4 25 ([v12]), .row v12 5 (tInt .u8).sz rv1.1.length xs2, Go.Lx.box b3 4 ([Value.bool false]), Go.Lx.box b2 5 ([Value.int .u8 p2]), Go.Lx.box b1 24 (p1.1.map (Value.int .u64))]) ?_ ?_
   ·have hM := hx5
    have hagg3 := Hle.refl gg3
    refine WP_seq <| WP_region <| O (r_assign (v := Value.int .i64 0) rfl) rfl <| OW_nil <| WP_block <| WP_loop (fun (xv10 : Int) E w => ∃ (gg22 : Hp), E 2 = Value.pointer (some ⟨b1, 0, none⟩) ∧ E 3 = Value.pointer (some ⟨b2, 0, none⟩) ∧ E 4 = Value.pointer (some ⟨b3, 0, none⟩) ∧ E 5 = Value.pointer (some ⟨b4, 0, none⟩) ∧ E 7 = Value.int .i64 xv10 ∧ E.ds = [] ∧ Hle gg3 gg22 ∧ Go.Lx.Sep g0 w0 gg22 w [Go.Lx.box b4 25 ([v2]), .row v2 5 (tInt .u8).sz rv1.1.length xs1, Go.Lx.box b3 4 ([Value.bool false]), Go.Lx.box b2 5 ([Value.int .u8 p2]), Go.Lx.box b1 24 (p1.1.map (Value.int .u64))]) hM ⟨gg3, rfl, rfl, rfl, rfl, rfl, hds, (Hle.refl _), hs⟩ ?_
    clear hs hM
    rintro xv10 o2 E w hM ⟨gg22, hE2, hE3, hE4, hE5, hE7, hds, hlegg22, hs⟩
    obtain ⟨E, rfl⟩ := open5 (E := E) hE2 hE3 hE4 hE5 hE7
    replace hvv2 := hvv2.mono hlegg22
    have hagg22 := Hle.refl gg22
    refine WP_seq <| WP_seq <| WP_region <| O (r_move (v := Value.int .i64 xv10) rfl) rfl <| O (r_load (v := v2) ti25 rfl (hs.cell (i := 0) (o := 0) rfl rfl)) rfl ?_
    obtain ⟨a8, ca8, hva8⟩ := hs.rowShape (i := 1) rfl
    refine O (r_lenSl (v := v2) Tryd.underlying25 rfl hva8) rfl <| O (r_lss rfl rfl) rfl <| OW_nil ?_
    rcases condS hM with ⟨hc12, hM⟩ | ⟨hc12, hM⟩
    ·refine WP_true rfl hc12 <| WP_skip <| WP_seq <| WP_block ?_
     obtain ⟨xv13, hx8, hKhx8⟩ := bindS hM
     refine WP_cut (fun E w => ∃ (gg28 : Hp), E 2 = Value.pointer (some ⟨b1, 0, none⟩) ∧ E 3 = Value.pointer (some ⟨b2, 0, none⟩) ∧ E 4 = Value.pointer (some ⟨b3, 0, none⟩) ∧ E 5 = Value.pointer (some ⟨b4, 0, none⟩) ∧ E 7 = Value.int .i64 xv10 ∧ E 52 = Value.bool xv13 ∧ E.ds = [] ∧ Hle gg22 gg28 ∧ Go.Lx.Sep g0 w0 gg28 w [Go.Lx.box b4 25 ([v2]), .row v2 5 (tInt .u8).sz rv1.1.length xs1, Go.Lx.box b3 4 ([Value.bool false]), Go.Lx.box b2 5 ([Value.int .u8 p2]), Go.Lx.box b1 24 (p1.1.map (Value.int .u64))]) ?_ ?_
     ·have hM := hx8
      refine WP_any (.q 0 (.q 1 (.q 2 (.q 3 (.q 4 (.s 5 (.q 6 (.q 7 (.q 8 (.q 9 (.q 10 (.q 11 (.q 12 (.q 13 (.q 14 (.q 15 (.q 16 (.q 17 (.q 18 (.q 19 (.q 20 (.q 21 (.q 22 (.leaf)))))))))))))))))))))))) (SS g0 w0 gg22 [Go.Lx.box b4 25 ([v2]), .row v2 5 (tInt .u8).sz rv1.1.length xs1, Go.Lx.box b3 4 ([Value.bool false]), Go.Lx.box b2 5 ([Value.int .u8 p2]), Go.Lx.box b1 24 (p1.1.map (Value.int .u64))]) mo (by decide +kernel) ?_
      have hs := hs.drew
      have hS : SS g0 w0 gg22 [Go.Lx.box b4 25 ([v2]), .row v2 5 (tInt .u8).sz rv1.1.length xs1, Go.Lx.box b3 4 ([Value.bool false]), Go.Lx.box b2 5 ([Value.int .u8 p2]), Go.Lx.box b1 24 (p1.1.map (Value.int .u64))] _ := ⟨gg22, Hle.refl _, hs⟩
      refine A rfl hS (fun w9 ⟨g9, hle9, hs⟩ => r_loadN (cs := p1.1.map (Value.int .u64)) ti24 rfl (by simp [p1.2]) (hs.cells (i := 4) rfl)) rfl <| A rfl hS (fun w9 ⟨g9, hle9, hs⟩ => r_load (v := v2) ti25 rfl (hs.cell (i := 0) (o := 0) rfl rfl)) rfl <| A rfl hS (fun w9 ⟨g9, hle9, hs⟩ => r_move (v := Value.int .i64 xv10) rfl) rfl ?_
      obtain ⟨e23, he23, hM⟩ := bindS hM
      obtain ⟨b38, cb38, hvb38, cs48, hcs48, hcb38⟩ := hs.rowEl (i := 1) rfl hvv2 he23
      have hcs48 : cs48 = _ := hcs48; subst hcs48
      refine A rfl hS (fun w9 ⟨g9, hle9, hs⟩ => r_idxSl Tryd.underlying25 ti5 (v := v2) rfl hvb38 rfl (idxL_some he23).1 (idxL_some he23).2.1) rfl <| A rfl hS (fun w9 ⟨g9, hle9, hs⟩ => r_loadEl (cs := [Value.int .u8 e23]) ti5 rfl rfl (.inr rfl) (hcb38 _ (hs.at (i := 1) rfl)) (v := Value.int .u8 e23) rfl) rfl <| A1 rfl ?_
      obtain ⟨rv15, hrv15, hM⟩ := bindS hM
      refine C [encV .u64 p1, Value.int .u8 e23] cf6 rfl (ref07_Has_ok hrv15 hs.imm) rfl ?_
      rintro v18 wv26 ⟨gg29, hvv18, hegg29⟩
      have hlegg29 := hegg29.le hs.imm
      replace hs := hs.call hegg29
      replace hvv2 := hvv2.mono hlegg29
      replace hagg22 := hagg22.trans hlegg29
      obtain ⟨cs49, rfl, hcs49⟩ := hvv18
      have hcs49 : cs49 = _ := hcs49; subst hcs49
      refine OW_nil ?_
      replace hS := hS.to hagg22 hs
      refine ⟨fun _ => hS, ?_⟩
      refine A rfl hS (fun w9 ⟨g9, hle9, hs⟩ => r_not rfl) rfl <| A rfl hS (fun w9 ⟨g9, hle9, hs⟩ => r_move (v := Value.bool (!rv15)) rfl) rfl ?_
      rcases condS hM with ⟨hg25, hM⟩ | ⟨hg25, hM⟩
      ·refine AK rfl rfl rfl rfl (by rw [hg25]; rfl) hS rfl <| AK rfl rfl rfl rfl (by rw [hg25]; rfl) hS rfl <| AK rfl rfl rfl rfl (by rw [hg25]; rfl) hS rfl <| AKU rfl rfl rfl rfl hS rfl <| AKU rfl rfl rfl rfl hS rfl <| AKU rfl rfl rfl rfl hS rfl <| AKU rfl rfl rfl rfl hS rfl <| AKU rfl rfl rfl rfl hS rfl <| AKU rfl rfl rfl rfl hS rfl <| AKU rfl rfl rfl rfl hS rfl <| AKU rfl rfl rfl rfl hS rfl <| AKU rfl rfl rfl rfl hS rfl <| AKU rfl rfl rfl rfl hS rfl <| AK rfl rfl rfl rfl (by rw [hg25]; rfl) hS rfl <| A rfl hS (fun w9 ⟨g9, hle9, hs⟩ => r_pickT (v := Value.bool true) rfl hg25 rfl) rfl <| AN ?_
       obtain rfl := Option.some.inj hM
       exact ⟨gg29, rfl, rfl, rfl, rfl, rfl, rfl, hds, hagg22, hs⟩
      ·refine AG rfl rfl rfl rfl (by rw [hg25]; rfl) hS (fun w9 ⟨g9, hle9, hs⟩ => r_move (v := Value.int .i64 xv10) rfl) rfl <| AG rfl rfl rfl rfl (by rw [hg25]; rfl) hS (fun w9 ⟨g9, hle9, hs⟩ => r_gtr rfl rfl) rfl <| AG rfl rfl rfl rfl (by rw [hg25]; rfl) hS (fun w9 ⟨g9, hle9, hs⟩ => r_move (v := Value.bool (decide (0 < xv10))) rfl) rfl ?_
       rcases condS hM with ⟨hg26, hM⟩ | ⟨hg26, hM⟩
       ·refine AG rfl rfl rfl rfl (by rw [hg26]; rfl) hS (fun w9 ⟨g9, hle9, hs⟩ => r_load (v := v2) ti25 rfl (hs.cell (i := 0) (o := 0) rfl rfl)) rfl <| AG rfl rfl rfl rfl (by rw [hg26]; rfl) hS (fun w9 ⟨g9, hle9, hs⟩ => r_move (v := Value.int .i64 xv10) rfl) rfl ?_
        obtain ⟨b39, cb39, hvb39, cs50, hcs50, hcb39⟩ := hs.rowEl (i := 1) rfl hvv2 he23
        have hcs50 : cs50 = _ := hcs50; subst hcs50
        refine AG rfl rfl rfl rfl (by rw [hg26]; rfl) hS (fun w9 ⟨g9, hle9, hs⟩ => r_idxSl Tryd.underlying25 ti5 (v := v2) rfl hvb39 rfl (idxL_some he23).1 (idxL_some he23).2.1) rfl <| AG rfl rfl rfl rfl (by rw [hg26]; rfl) hS (fun w9 ⟨g9, hle9, hs⟩ => r_loadEl (cs := [Value.int .u8 e23]) ti5 rfl rfl (.inr rfl) (hcb39 _ (hs.at (i := 1) rfl)) (v := Value.int .u8 e23) rfl) rfl <| AG rfl rfl rfl rfl (by rw [hg26]; rfl) hS (fun w9 ⟨g9, hle9, hs⟩ => r_load (v := v2) ti25 rfl (hs.cell (i := 0) (o := 0) rfl rfl)) rfl <| AG rfl rfl rfl rfl (by rw [hg26]; rfl) hS (fun w9 ⟨g9, hle9, hs⟩ => r_move (v := Value.int .i64 xv10) rfl) rfl ?_
        obtain ⟨t17, ht17, hM⟩ := bindS hM
        refine AG rfl rfl rfl rfl (by rw [hg26]; rfl) hS (fun w9 ⟨g9, hle9, hs⟩ => r_subM rfl rfl ht17) rfl ?_
        obtain ⟨e24, he24, hM⟩ := bindS hM
        obtain ⟨b40, cb40, hvb40, cs51, hcs51, hcb40⟩ := hs.rowEl (i := 1) rfl hvv2 he24
        have hcs51 : cs51 = _ := hcs51; subst hcs51
        refine AG rfl rfl rfl rfl (by rw [hg26]; rfl) hS (fun w9 ⟨g9, hle9, hs⟩ => r_idxSl Tryd.underlying25 ti5 (v := v2) rfl hvb40 rfl (idxL_some he24).1 (idxL_some he24).2.1) rfl <| AG rfl rfl rfl rfl (by rw [hg26]; rfl) hS (fun w9 ⟨g9, hle9, hs⟩ => r_loadEl (cs := [Value.int .u8 e24]) ti5 rfl rfl (.inr rfl) (hcb40 _ (hs.at (i := 1) rfl)) (v := Value.int .u8 e24) rfl) rfl <| AG rfl rfl rfl rfl (by rw [hg26]; rfl) hS (fun w9 ⟨g9, hle9, hs⟩ => r_leq rfl rfl) rfl <| AG rfl rfl rfl rfl (by rw [hg25]; rfl) hS (fun w9 ⟨g9, hle9, hs⟩ => r_pickT (v := Value.bool (decide (e23 ≤ e24))) rfl hg26 rfl) rfl <| A rfl hS (fun w9 ⟨g9, hle9, hs⟩ => r_pickF (v := Value.bool (decide (e23 ≤ e24))) rfl hg25 rfl) rfl ?_
        refine AN ?_
        obtain rfl := Option.some.inj hM
        exact ⟨gg29, rfl, rfl, rfl, rfl, rfl, rfl, hds, hagg22, hs⟩
       ·refine AK rfl rfl rfl rfl (by rw [hg26]; rfl) hS rfl <| AK rfl rfl rfl rfl (by rw [hg26]; rfl) hS rfl <| AK rfl rfl rfl rfl (by rw [hg26]; rfl) hS rfl <| AK rfl rfl rfl rfl (by rw [hg26]; rfl) hS rfl <| AK rfl rfl rfl rfl (by rw [hg26]; rfl) hS rfl <| AK rfl rfl rfl rfl (by rw [hg26]; rfl) hS rfl <| AK rfl rfl rfl rfl (by rw [hg26]; rfl) hS rfl <| AK rfl rfl rfl rfl (by rw [hg26]; rfl) hS rfl <| AK rfl rfl rfl rfl (by rw [hg26]; rfl) hS rfl <| AK rfl rfl rfl rfl (by rw [hg26]; rfl) hS rfl <| AG rfl rfl rfl rfl (by rw [hg25]; rfl) hS (fun w9 ⟨g9, hle9, hs⟩ => r_pickF (v := Value.bool false) rfl hg26 rfl) rfl <| A rfl hS (fun w9 ⟨g9, hle9, hs⟩ => r_pickF (v := Value.bool false) rfl hg25 rfl) rfl ?_
        refine AN ?_
        obtain rfl := Option.some.inj hM
        exact ⟨gg29, rfl, rfl, rfl, rfl, rfl, rfl, hds, hagg22, hs⟩
     ·clear hs
      rintro E w ⟨gg28, hE2, hE3, hE4, hE5, hE7, hE52, hds, hlegg28, hs⟩
      have hM := hKhx8
      obtain ⟨E, rfl⟩ := open6 (E := E) hE2 hE3 hE4 hE5 hE7 hE52
      replace hlegg22 := hlegg22.trans hlegg28
      rcases condS hM with ⟨hc13, hM⟩ | ⟨hc13, hM⟩
      ·refine WP_true rfl hc13 <| WP_seq <| WP_region <| OW_store1 ti4 hs (i := 2) rfl rfl (v := Value.bool false) rfl rfl (o := 0) (Nat.zero_lt_succ _) ?_
       intro wv27 hs
       refine OW_nil <| WP_ret ?_
       obtain rfl := Option.some.inj hM
       refine fun hr => ?_
       have hM := congrArg some hr
       obtain rfl := Option.some.inj hM
       have hM := hKhx5
       obtain rfl := Option.some.inj hM
       refine FL_nil hds ?_
       exact ⟨_, res1 Tryd.results3 (rv_cell (v := Value.bool false) ti4 rfl (hs.cell (i := 2) (o := 0) rfl rfl)), gg28, ⟨[Value.bool false], rfl, rfl⟩, hs.ext⟩
      ·refine WP_false rfl hc13 <| WP_skip <| WP_region <| O (r_move (v := Value.int .i64 xv10) rfl) rfl ?_
       obtain ⟨t18, ht18, hM⟩ := bindS hM
       refine O (r_addM rfl rfl ht18) rfl <| O (r_assign (v := Value.int .i64 t18) rfl) rfl <| OW_nil ?_
       obtain rfl := Option.some.inj hM
       exact ⟨gg28, rfl, rfl, rfl, rfl, rfl, hds, hlegg22, hs⟩
    ·refine WP_false rfl hc12 <| WP_exit ?_
     obtain rfl := Option.some.inj hM
     refine fun hr => ?_
     have hM := congrArg some hr
     obtain rfl := Option.some.inj hM
     exact ⟨(), rfl, gg22, v2, xs1, rfl, rfl, rfl, rfl, hds, hlegg22, hvv2, hs⟩
   ·clear hs
    rintro E w ⟨_, rfl, gg17, v12, xs2, hE2, hE3, hE4, hE5, hds, hlegg17, hrelxs2, hs⟩
    have hM := hKhx5
    dsimp only [onStep] at hM
    obtain ⟨E, rfl⟩ := open4 (E := E) hE2 hE3 hE4 hE5
    replace hG0 := hG0.mono hlegg17
    refine WP_seq <| WP_region <| OW_alloc ti3 hs (zs := [Value.int .i64 0]) rfl rfl ?_
    intro b41 wv28 hs
    refine OW_store1 ti3 hs (i := 0) rfl rfl (v := Value.int .i64 0) rfl rfl (o := 0) (Nat.zero_lt_succ _) ?_
    intro wv29 hs
    refine OW_nil ?_
    obtain ⟨o4, hx13, hKhx13⟩ := stepS hM
    refine WP_cut (fun E w => ∃ (xv21 : Int), o4 = .next xv21 ∧ ∃ (gg37 : Hp) (Dm4 : Nat) (v22 : Value) (xs5 : List Value), E 3 = Value.pointer (some ⟨b2, 0, none⟩) ∧ E 4 = Value.pointer (some ⟨b3, 0, none⟩) ∧ E 5 = Value.pointer (some ⟨b4, 0, none⟩) ∧ E 8 = Value.pointer (some ⟨b41, 0, none⟩) ∧ E.ds = [markD Dm4] ∧ Hle gg17 gg37 ∧ RowRel (tInt .u8) gg37 xs5 rv1.1 ∧ Go.Lx.Sep g0 w0 gg37 w [.obj Dm4 (.deferred (some [])), Go.Lx.box b41 3 ([Value.int .i64 xv21]), Go.Lx.box b4 25 ([v22]), .row v22 5 (tInt .u8).sz rv1.1.length xs5, Go.Lx.box b3 4 ([Value.bool false]), Go.Lx.box b2 5 ([Value.int .u8 p2])]) ?_ ?_
    ·have hM := hx13
     have hagg17 := Hle.refl gg17
     refine WP_seq <| WP_region <| O (r_loadN (cs := p1.1.map (Value.int .u64)) ti24 rfl (by simp [p1.2]) (hs.cells (i := 5) rfl)) rfl ?_
     obtain ⟨u2, hu2, hM⟩ := bindS hM
     refine C [encV .u64 p1] cf7 rfl (byteset_All_ok hu2 hs.imm hG0) rfl ?_
     rintro v23 wv40 ⟨gg38, ⟨capv23, rfl, hitv23⟩, hegg38⟩
     have hlegg38 := hegg38.le hs.imm
     replace hs := hs.call hegg38
     replace hrelxs2 := hrelxs2.mono hlegg38
     replace hagg17 := hagg17.trans hlegg38
     refine OW_nil <| WP_block ?_
     have hagg38 := Hle.refl gg38
     obtain ⟨rx2, hx16, hM⟩ := bindS hM
     refine WP_rangeX (L0 := [Go.Lx.box b41 3 ([Value.int .i64 0]), Go.Lx.box b4 25 ([v12]), .row v12 5 (tInt .u8).sz rv1.1.length xs2, Go.Lx.box b3 4 ([Value.bool false]), Go.Lx.box b2 5 ([Value.int .u8 p2])]) (Lo := []) rfl (hs.sub (.cons_cons _ (.cons_cons _ (.cons_cons _ (.cons_cons _ (.cons_cons _ (.cons _ .slnil))))))) rfl hitv23 ⟨rfl, by decide⟩ (fun (xv24 : Int) gg41 Lq => Lq = [Go.Lx.box b41 3 ([Value.int .i64 xv24]), Go.Lx.box b4 25 ([v12]), .row v12 5 (tInt .u8).sz rv1.1.length xs2, Go.Lx.box b3 4 ([Value.bool false]), Go.Lx.box b2 5 ([Value.int .u8 p2])]) (fun (q9 : (Int) ⊕ (Int)) (gq : Hp) (Lq : List Res) => match q9 with | .inl t25 => ∃ (v24 : Value) (xs6 : List Value), RowRel (tInt .u8) gq xs6 rv1.1 ∧ Lq = [Go.Lx.box b41 3 ([Value.int .i64 t25]), Go.Lx.box b4 25 ([v24]), .row v24 5 (tInt .u8).sz rv1.1.length xs6, Go.Lx.box b3 4 ([Value.bool false]), Go.Lx.box b2 5 ([Value.int .u8 p2])] | .inr xv27 => ∃ (v25 : Value) (xs7 : List Value), RowRel (tInt .u8) gq xs7 rv1.1 ∧ Lq = [Go.Lx.box b41 3 ([Value.int .i64 xv27]), Go.Lx.box b4 25 ([v25]), .row v25 5 (tInt .u8).sz rv1.1.length xs7, Go.Lx.box b3 4 ([Value.bool false]), Go.Lx.box b2 5 ([Value.int .u8 p2])]) (fun (q9 : (Int) ⊕ (Int)) => match q9 with | .inl _ => Code.exit 2 | .inr _ => Code.ret) (by rintro xv24 g8 g9 L9 hle9 rfl; exact rfl) (fun q9 g8 g9 L9 hle9 h9 => match q9, L9, h9 with | .inl t25, _, ⟨v24, xs6, hrelxs6, rfl⟩ => ⟨v24, xs6, hrelxs6.mono hle9, rfl⟩ | .inr xv27, _, ⟨v25, xs7, hrelxs7, rfl⟩ => ⟨v25, xs7, hrelxs7.mono hle9, rfl⟩) hx16 rfl ?_ ?_ ?_
     ·clear hs hM
      rintro l9 gg41 w9 Ls9 L8 a9 x xv24 r9 hs rfl hA hM hlegg41
      replace hrelxs2 := hrelxs2.mono hlegg41
      have hs : Go.Lx.Sep g0 w0 gg41 _ (Go.Lx.box b41 3 ([Value.int .i64 xv24]) :: Go.Lx.box b4 25 ([v12]) :: .row v12 5 (tInt .u8).sz rv1.1.length xs2 :: Go.Lx.box b3 4 ([Value.bool false]) :: Go.Lx.box b2 5 ([Value.int .u8 p2]) :: L8) := hs
      have hds : ([] : List Deferred) = [] := rfl
      have hagg41 := Hle.refl gg41
      obtain ⟨cs67, rfl, hcs67⟩ := hA
      have hcs67 : cs67 = _ := hcs67; subst hcs67
      refine WP_region <| O (r_assign (v := Value.int .u8 x) rfl) rfl <| OW_nil ?_
      refine ⟨gg41, [Go.Lx.box b41 3 ([Value.int .i64 xv24]), Go.Lx.box b4 25 ([v12]), .row v12 5 (tInt .u8).sz rv1.1.length xs2, Go.Lx.box b3 4 ([Value.bool false]), Go.Lx.box b2 5 ([Value.int .u8 p2])], hs, (Hle.refl _), ?_⟩
      intro w7 L7 hs
      have hs : Go.Lx.Sep g0 w0 gg41 _ (Go.Lx.box b41 3 ([Value.int .i64 xv24]) :: Go.Lx.box b4 25 ([v12]) :: .row v12 5 (tInt .u8).sz rv1.1.length xs2 :: Go.Lx.box b3 4 ([Value.bool false]) :: Go.Lx.box b2 5 ([Value.int .u8 p2]) :: L7) := hs
      refine WP_block <| WP_seq ?_
      obtain ⟨xv28, hx17, hKhx17⟩ := bindS hM
      refine WP_cut (fun E w => E 3 = Value.pointer (some ⟨b2, 0, none⟩) ∧ E 4 = Value.pointer (some ⟨b3, 0, none⟩) ∧ E 5 = Value.pointer (some ⟨b4, 0, none⟩) ∧ E 8 = Value.pointer (some ⟨b41, 0, none⟩) ∧ E 67 = Value.bool xv28 ∧ E.ds = [] ∧ Go.Lx.Sep g0 w0 gg41 w (Go.Lx.box b41 3 ([Value.int .i64 xv24]) :: Go.Lx.box b4 25 ([v12]) :: .row v12 5 (tInt .u8).sz rv1.1.length xs2 :: Go.Lx.box b3 4 ([Value.bool false]) :: Go.Lx.box b2 5 ([Value.int .u8 p2]) :: L7)) ?_ ?_
      ·have hM := hx17
       refine WP_region <| O (r_load (v := Value.int .i64 xv24) ti3 rfl (hs.cell (i := 0) (o := 0) rfl rfl)) rfl <| O (r_load (v := v12) ti25 rfl (hs.cell (i := 1) (o := 0) rfl rfl)) rfl ?_
       obtain ⟨a20, ca20, hva20⟩ := hs.rowShape (i := 2) rfl
       refine O (r_lenSl (v := v12) Tryd.underlying25 rfl hva20) rfl <| O (r_geq rfl rfl) rfl <| O (r_move (v := Value.bool (decide ((rv1.1.length : Int) ≤ xv24))) rfl) rfl ?_
       rcases condS hM with ⟨hg38, hM⟩ | ⟨hg38, hM⟩
       ·refine OK rfl rfl rfl (by rw [hg38]; rfl) rfl <| OK rfl rfl rfl (by rw [hg38]; rfl) rfl <| OK rfl rfl rfl (by rw [hg38]; rfl) rfl <| OK rfl rfl rfl (by rw [hg38]; rfl) rfl <| OK rfl rfl rfl (by rw [hg38]; rfl) rfl <| OK rfl rfl rfl (by rw [hg38]; rfl) rfl <| O (r_pickT (v := Value.bool true) rfl hg38 rfl) rfl <| OW_nil ?_
        obtain rfl := Option.some.inj hM
        exact ⟨rfl, rfl, rfl, rfl, rfl, hds, hs⟩
       ·refine OG rfl rfl rfl (by rw [hg38]; rfl) (r_move (v := Value.int .u8 x) rfl) rfl <| OG rfl rfl rfl (by rw [hg38]; rfl) (r_load (v := v12) ti25 rfl (hs.cell (i := 1) (o := 0) rfl rfl)) rfl <| OG rfl rfl rfl (by rw [hg38]; rfl) (r_load (v := Value.int .i64 xv24) ti3 rfl (hs.cell (i := 0) (o := 0) rfl rfl)) rfl ?_
        obtain ⟨e36, he36, hM⟩ := bindS hM
        obtain ⟨b53, cb53, hvb53, cs69, hcs69, hcb53⟩ := hs.rowEl (i := 2) rfl hrelxs2 he36
        have hcs69 : cs69 = _ := hcs69; subst hcs69
        refine OG rfl rfl rfl (by rw [hg38]; rfl) (r_idxSl Tryd.underlying25 ti5 (v := v12) rfl hvb53 rfl (idxL_some he36).1 (idxL_some he36).2.1) rfl <| OG rfl rfl rfl (by rw [hg38]; rfl) (r_loadEl (cs := [Value.int .u8 e36]) ti5 rfl rfl (.inr rfl) (hcb53 _ (hs.at (i := 2) rfl)) (v := Value.int .u8 e36) rfl) rfl <| OG rfl rfl rfl (by rw [hg38]; rfl) (r_neq rfl rfl) rfl <| O (r_pickF (v := Value.bool (x != e36)) rfl hg38 rfl) rfl <| OW_nil ?_
        obtain rfl := Option.some.inj hM
        exact ⟨rfl, rfl, rfl, rfl, rfl, hds, hs⟩
      ·clear hs
       rintro E w ⟨hE3, hE4, hE5, hE8, hE67, hds, hs⟩
       have hM := hKhx17
       obtain ⟨E, rfl⟩ := open5 (E := E) hE3 hE4 hE5 hE8 hE67
       rcases condS hM with ⟨hc24, hM⟩ | ⟨hc24, hM⟩
       ·refine WP_true rfl hc24 <| WP_seq <| WP_region <| OW_store1 ti4 hs (i := 3) rfl rfl (v := Value.bool false) rfl rfl (o := 0) (Nat.zero_lt_succ _) ?_
        intro wv45 hs
        refine OW_nil <| WP_ret ?_
        obtain rfl := Option.some.inj hM
        exact ⟨_, rfl, rfl, gg41, [Go.Lx.box b41 3 ([Value.int .i64 xv24]), Go.Lx.box b4 25 ([v12]), .row v12 5 (tInt .u8).sz rv1.1.length xs2, Go.Lx.box b3 4 ([Value.bool false]), Go.Lx.box b2 5 ([Value.int .u8 p2])], ⟨v12, xs2, hrelxs2, rfl⟩, (Hle.refl _), hs⟩
       ·refine WP_false rfl hc24 <| WP_skip <| WP_seq <| WP_region <| O (r_load (v := Value.int .i64 xv24) ti3 rfl (hs.cell (i := 0) (o := 0) rfl rfl)) rfl ?_
        obtain ⟨t26, ht26, hM⟩ := bindS hM
        refine O (r_addM rfl rfl ht26) rfl <| OW_store1 ti3 hs (i := 0) rfl rfl (v := Value.int .i64 t26) rfl rfl (o := 0) (Nat.zero_lt_succ _) ?_
        intro wv46 hs
        refine OW_nil <| WP_seq <| WP_region <| O (r_load (v := Value.int .i64 t26) ti3 rfl (hs.cell (i := 0) (o := 0) rfl rfl)) rfl <| O (r_load (v := Value.int .u8 p2) ti5 rfl (hs.cell (i := 4) (o := 0) rfl rfl)) rfl <| O (r_conv Tryd.underlying5 Tryd.underlying3 rfl) rfl <| O (r_gtr rfl rfl) rfl <| OW_nil ?_
        rcases condS hM with ⟨hc25, hM⟩ | ⟨hc25, hM⟩
        ·refine WP_true rfl hc25 <| WP_exit ?_
         obtain rfl := Option.some.inj hM
         exact ⟨_, rfl, rfl, gg41, [Go.Lx.box b41 3 ([Value.int .i64 t26]), Go.Lx.box b4 25 ([v12]), .row v12 5 (tInt .u8).sz rv1.1.length xs2, Go.Lx.box b3 4 ([Value.bool false]), Go.Lx.box b2 5 ([Value.int .u8 p2])], ⟨v12, xs2, hrelxs2, rfl⟩, (Hle.refl _), hs⟩
        ·refine WP_false rfl hc25 <| WP_skip ?_
         obtain rfl := Option.some.inj hM
         exact ⟨_, rfl, gg41, [Go.Lx.box b41 3 ([Value.int .i64 t26]), Go.Lx.box b4 25 ([v12]), .row v12 5 (tInt .u8).sz rv1.1.length xs2, Go.Lx.box b3 4 ([Value.bool false]), Go.Lx.box b2 5 ([Value.int .u8 p2])], rfl, (Hle.refl _), hs⟩
     ·clear hs
      rintro xv24 gg41 wv47 Dm5 Ls9 rfl hlegg41 rfl hs
      replace hrelxs2 := hrelxs2.mono hlegg41
      replace hagg17 := hagg17.trans hlegg41
      have hs : Go.Lx.Sep g0 w0 gg41 _ [.obj Dm5 (.deferred (some [])), Go.Lx.box b41 3 ([Value.int .i64 xv24]), Go.Lx.box b4 25 ([v12]), .row v12 5 (tInt .u8).sz rv1.1.length xs2, Go.Lx.box b3 4 ([Value.bool false]), Go.Lx.box b2 5 ([Value.int .u8 p2])] := hs
      have hds := congrArg (List.cons (markD Dm5)) hds
      dsimp only at hM
      obtain rfl := Option.some.inj hM
      exact ⟨xv24, rfl, gg41, Dm5, v12, xs2, rfl, rfl, rfl, rfl, hds, hagg17, hrelxs2, hs⟩
     ·clear hs
      rintro (t25 | xv27) g7 w7 D7 L7 rfl hle7 hX7 hs
      ·obtain ⟨gg43, rfl⟩ : ∃ q, q = g7 := ⟨_, rfl⟩
       obtain ⟨Dm6, rfl⟩ : ∃ q, q = D7 := ⟨_, rfl⟩
       have hlegg43 := hle7
       obtain ⟨v24, xs6, hrelxs6, rfl⟩ := hX7
       replace hagg17 := hagg17.trans hlegg43
       have hs : Go.Lx.Sep g0 w0 gg43 _ [.obj Dm6 (.deferred (some [])), Go.Lx.box b41 3 ([Value.int .i64 t25]), Go.Lx.box b4 25 ([v24]), .row v24 5 (tInt .u8).sz rv1.1.length xs6, Go.Lx.box b3 4 ([Value.bool false]), Go.Lx.box b2 5 ([Value.int .u8 p2])] := hs
       have hds := congrArg (List.cons (markD Dm6)) hds
       dsimp only at hM
       refine WP_exit ?_
       obtain rfl := Option.some.inj hM
       exact ⟨t25, rfl, gg43, Dm6, v24, xs6, rfl, rfl, rfl, rfl, hds, hagg17, hrelxs6, hs⟩
      ·obtain ⟨gg44, rfl⟩ : ∃ q, q = g7 := ⟨_, rfl⟩
       obtain ⟨Dm7, rfl⟩ : ∃ q, q = D7 := ⟨_, rfl⟩
       have hlegg44 := hle7
       obtain ⟨v25, xs7, hrelxs7, rfl⟩ := hX7
       have hs : Go.Lx.Sep g0 w0 gg44 _ [.obj Dm7 (.deferred (some [])), Go.Lx.box b41 3 ([Value.int .i64 xv27]), Go.Lx.box b4 25 ([v25]), .row v25 5 (tInt .u8).sz rv1.1.length xs7, Go.Lx.box b3 4 ([Value.bool false]), Go.Lx.box b2 5 ([Value.int .u8 p2])] := hs
       have hds := congrArg (List.cons (markD Dm7)) hds
       dsimp only at hM
       refine WP_ret ?_
       obtain rfl := Option.some.inj hM
       have hM := hKhx13
       obtain rfl := Option.some.inj hM
       refine FL_mark hds hs (i := 0) rfl ?_
       intro wv50 hs
       have hs := (hs.sub (.cons _ (.cons_cons _ (.cons_cons _ (.cons_cons _ (.cons_cons _ (.cons_cons _ .slnil)))))))
       replace hs : Go.Lx.Sep g0 w0 gg44 _ [Go.Lx.box b41 3 ([Value.int .i64 xv27]), Go.Lx.box b4 25 ([v25]), .row v25 5 (tInt .u8).sz rv1.1.length xs7, Go.Lx.box b3 4 ([Value.bool false]), Go.Lx.box b2 5 ([Value.int .u8 p2])] := hs
       refine FL_nil rfl ?_
       exact ⟨_, res1 Tryd.results3 (rv_cell (v := Value.bool false) ti4 rfl (hs.cell (i := 3) (o := 0) rfl rfl)), gg44, ⟨[Value.bool false], rfl, rfl⟩, hs.ext⟩
    ·clear hs
     rintro E w ⟨xv21, rfl, gg37, Dm4, v22, xs5, hE3, hE4, hE5, hE8, hds, hlegg37, hrelxs5, hs⟩
     have hM := hKhx13
     dsimp only [onStep] at hM
     obtain ⟨E, rfl⟩ := open4 (E := E) hE3 hE4 hE5 hE8
     obtain ⟨xv29, hx18, hKhx18⟩ := bindS hM
     refine WP_cut (fun E w => ∃ (gg46 : Hp), E 4 = Value.pointer (some ⟨b3, 0, none⟩) ∧ E.ds = [markD Dm4] ∧ Hle gg37 gg46 ∧ Go.Lx.Sep g0 w0 gg46 w [.obj Dm4 (.deferred (some [])), Go.Lx.box b3 4 ([Value.bool xv29])]) ?_ ?_
     ·have hM := hx18
      have hagg37 := Hle.refl gg37
      refine WP_region ?_
      obtain ⟨rv17, hrv17, hM⟩ := bindS hM
      refine C [] cf8 rfl (law07_awake_ok hrv17 hs.imm) rfl ?_
      rintro v27 wv54 ⟨gg47, hvv27, hegg47⟩
      have hlegg47 := hegg47.le hs.imm
      replace hs := hs.call hegg47
      replace hagg37 := hagg37.trans hlegg47
      obtain ⟨cs71, rfl, hcs71⟩ := hvv27
      have hcs71 : cs71 = _ := hcs71; subst hcs71
      refine O (r_move (v := Value.bool rv17) rfl) rfl ?_
      rcases condS hM with ⟨hg40, hM⟩ | ⟨hg40, hM⟩
      ·refine OG rfl rfl rfl (by rw [hg40]; rfl) (r_load (v := Value.int .i64 xv21) ti3 rfl (hs.cell (i := 1) (o := 0) rfl rfl)) rfl <| OG rfl rfl rfl (by rw [hg40]; rfl) (r_load (v := v22) ti25 rfl (hs.cell (i := 2) (o := 0) rfl rfl)) rfl ?_
       obtain ⟨a22, ca22, hva22⟩ := hs.rowShape (i := 3) rfl
       refine OG rfl rfl rfl (by rw [hg40]; rfl) (r_lenSl (v := v22) Tryd.underlying25 rfl hva22) rfl <| OG rfl rfl rfl (by rw [hg40]; rfl) (r_load (v := Value.int .u8 p2) ti5 rfl (hs.cell (i := 5) (o := 0) rfl rfl)) rfl <| OG rfl rfl rfl (by rw [hg40]; rfl) (r_conv Tryd.underlying5 Tryd.underlying3 rfl) rfl ?_
       obtain ⟨t28, ht28, hM⟩ := bindS hM
       refine OG rfl rfl rfl (by rw [hg40]; rfl) (r_addM rfl rfl ht28) rfl <| OG rfl rfl rfl (by rw [hg40]; rfl) (r_min2 rfl rfl) rfl <| OG rfl rfl rfl (by rw [hg40]; rfl) (r_eql rfl rfl) rfl <| O (r_pickT (v := Value.bool (xv21 == (min2 (rv1.1.length : Int) t28))) rfl hg40 rfl) rfl <| OW_store1 ti4 hs (i := 4) rfl rfl (v := Value.bool (xv21 == (min2 (rv1.1.length : Int) t28))) rfl rfl (o := 0) (Nat.zero_lt_succ _) ?_
       intro wv55 hs
       refine OW_nil ?_
       obtain rfl := Option.some.inj hM
       exact ⟨gg47, rfl, hds, hagg37, (hs.sub (.cons_cons _ (.cons _ (.cons _ (.cons _ (.cons_cons _ (.cons _ .slnil)))))))⟩
      ·refine OK rfl rfl rfl (by rw [hg40]; rfl) rfl <| OK rfl rfl rfl (by rw [hg40]; rfl) rfl <| OK rfl rfl rfl (by rw [hg40]; rfl) rfl <| OK rfl rfl rfl (by rw [hg40]; rfl) rfl <| OK rfl rfl rfl (by rw [hg40]; rfl) rfl <| OK rfl rfl rfl (by rw [hg40]; rfl) rfl <| OK rfl rfl rfl (by rw [hg40]; rfl) rfl <| OK rfl rfl rfl (by rw [hg40]; rfl) rfl <| O (r_pickF (v := Value.bool false) rfl hg40 rfl) rfl <| OW_store1 ti4 hs (i := 4) rfl rfl (v := Value.bool false) rfl rfl (o := 0) (Nat.zero_lt_succ _) ?_
       intro wv56 hs
       refine OW_nil ?_
       obtain rfl := Option.some.inj hM
       exact ⟨gg47, rfl, hds, hagg37, (hs.sub (.cons_cons _ (.cons _ (.cons _ (.cons _ (.cons_cons _ (.cons _ .slnil)))))))⟩
     ·clear hs
      rintro E w ⟨gg46, hE4, hds, hlegg46, hs⟩
      have hM := hKhx18
      obtain ⟨E, rfl⟩ := open1 (E := E) hE4
      refine WP_ret ?_
      obtain rfl := Option.some.inj hM
      refine FL_mark hds hs (i := 0) rfl ?_
      intro wv57 hs
      have hs := (hs.sub (.cons _ (.cons_cons _ .slnil)))
      replace hs : Go.Lx.Sep g0 w0 gg46 _ [Go.Lx.box b3 4 ([Value.bool xv29])] := hs
      refine FL_nil rfl ?_
      exact ⟨_, res1 Tryd.results3 (rv_cell (v := Value.bool xv29) ti4 rfl (hs.cell (i := 0) (o := 0) rfl rfl)), gg46, ⟨[Value.bool xv29], rfl, rfl⟩, hs.ext⟩

end Go.Proofs.YtjjinpgjfabemaaDoor
