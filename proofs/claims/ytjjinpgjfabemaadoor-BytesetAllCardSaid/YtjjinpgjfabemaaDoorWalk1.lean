/- The walks: what each function does is what its model says. Printed by a program of my own. -/
import Derived.Test.YtjjinpgjfabemaaDoorTyp
set_option linter.unusedVariables false
set_option linter.unusedSimpArgs false
namespace Go.Proofs.YtjjinpgjfabemaaDoor
open Go.Lx Go.RowKit
set_option maxRecDepth 100000 in
theorem math_bits_TrailingZeros64_ok {xv1 : Int} {r : Int} (hM : M.math_bits_TrailingZeros64 xv1 = some r) {g0 : Hp} {w0 : World} (hi : Imm g0 w0) (hG0 : GBox 0 (M.deBruijn.1.map (Value.int .u8)) g0) :
    CallsV Tryd.prog 11 #[Value.int .u64 xv1] w0 (fun v w' => ∃ g', (VRd (tInt .i64) false g' v r) ∧ Ext g0 w0 g' w') := by
 unfold M.math_bits_TrailingZeros64 at hM
 have hs := Sep.start hi
 refine calls_of_WP (args := [Value.int .u64 xv1]) Tryd.func11 rfl Tryd.ntmps11 rfl ?_
 have hds : (argEnv [Value.int .u64 xv1]).ds = [] := rfl
 refine WP_seq <| WP_region <| O (r_assign (v := Value.int .i64 0) rfl) rfl <| OW_nil <| WP_seq <| WP_seq <| WP_region <| O (r_move (v := Value.int .u64 xv1) rfl) rfl <| O (r_eql rfl rfl) rfl <| OW_nil ?_
 rcases condS hM with ⟨hc1, hM⟩ | ⟨hc1, hM⟩
 ·refine WP_true rfl hc1 <| WP_seq <| WP_region <| O (r_assign (v := Value.int .i64 64) rfl) rfl <| OW_nil <| WP_ret ?_
  obtain rfl := Option.some.inj hM
  refine FL_nil hds ?_
  exact ⟨_, res1 Tryd.results11 (rv_tmp (v := Value.int .i64 64) rfl), g0, ⟨[Value.int .i64 64], rfl, rfl⟩, hs.ext⟩
 ·refine WP_false rfl hc1 <| WP_skip <| WP_seq <| WP_region <| O (r_move (v := Value.int .u64 xv1) rfl) rfl <| O (r_move (v := Value.int .u64 xv1) rfl) rfl <| O (r_neg rfl) rfl <| O (r_and rfl rfl) rfl <| O (r_mulW rfl rfl) rfl ?_
  obtain ⟨t1, ht1, hM⟩ := bindS hM
  refine O (r_shrM rfl rfl ht1) rfl ?_
  obtain ⟨c1, hc1, hM⟩ := bindS hM
  refine O (r_idxArr Tryd.underlying42 ti5 rfl rfl (vget_some hc1).1 (vget_some hc1).2.1) rfl <| O (r_loadEl (cs := [Value.int .u8 c1]) ti5 rfl rfl (.inr rfl) (vecEl (hG0.cells hs.imm) hc1) (v := Value.int .u8 c1) rfl) rfl <| O (r_conv Tryd.underlying5 Tryd.underlying3 rfl) rfl <| O (r_assign (v := Value.int .i64 (IntKind.i64.wrap c1)) rfl) rfl <| OW_nil <| WP_ret ?_
  obtain rfl := Option.some.inj hM
  refine FL_nil hds ?_
  exact ⟨_, res1 Tryd.results11 (rv_tmp (v := Value.int .i64 (IntKind.i64.wrap c1)) rfl), g0, ⟨[Value.int .i64 (IntKind.i64.wrap c1)], rfl, rfl⟩, hs.ext⟩

set_option maxRecDepth 100000 in
theorem byteset_All_1_ok {c1 : (Vec 4)} {gb : Hp} {b1 : Nat} {cs1 : List Value} (hBb1 : IBox 24 b1 cs1 gb) (hcs1 : (tVec 4 .u64).rel gb cs1 c1) (hG0 : GBox 0 (M.deBruijn.1.map (Value.int .u8)) gb) : IterOk Tryd.prog 10 [Value.pointer (some ⟨b1, 0, none⟩)] (VRd (tInt .u8) false) (fun {σ} y s => M.byteset_All_1 y c1 s) gb := by
 have hcs1 : cs1 = _ := hcs1; subst hcs1
 refine ⟨cf10, ?_⟩
 intro σ yv Y yield1 g0 w0 gi w Ls Lt s0 r hY hYm hle hs hYs hM
 unfold M.byteset_All_1 at hM
 replace hBb1 := hBb1.mono hle
 replace hG0 := hG0.mono hle
 have hagi := Hle.refl gi
 refine calls_of_WP (args := [yv, Value.pointer (some ⟨b1, 0, none⟩)]) Tryd.func10 rfl Tryd.ntmps10 rfl ?_
 have hds : (argEnv [yv, Value.pointer (some ⟨b1, 0, none⟩)]).ds = [] := rfl
 refine WP_seq <| WP_region <| O (r_loadEl (o := 0) (cs := c1.1.map (Value.int .u64)) ti24 rfl (by simp [c1.2]) (.inl rfl) (hBb1.cells hs.imm) (v := encV .u64 c1) rfl) rfl <| O (r_move (v := Value.int .i64 0) rfl) rfl <| OW_nil <| WP_block <| WP_loop (fun (st9 : Int × σ) E w => match st9 with | (xv2, s9) => ∃ (gg21 : Hp) (Ls15 : List Res), E 0 = yv ∧ E 5 = encV .u64 c1 ∧ E 6 = Value.int .i64 xv2 ∧ E.ds = [] ∧ Hle gi gg21 ∧ Y s9 gg21 Ls15 ∧ Go.Lx.Sep g0 w0 gg21 w ((Ls15 ++ Lt))) hM ⟨gi, Ls, rfl, rfl, rfl, hds, (Hle.refl _), hYs, hs⟩ ?_
 clear hs hM
 rintro ⟨xv2, s9⟩ o7 E w hM ⟨gg21, Ls15, hE0, hE5, hE6, hds, hlegg21, hYs, hs⟩
 obtain ⟨E, rfl⟩ := open3 (E := E) hE0 hE5 hE6
 replace hG0 := hG0.mono hlegg21
 have hagg21 := Hle.refl gg21
 refine WP_seq <| WP_region <| O (r_lss rfl rfl) rfl <| OW_nil <| WP_seq ?_
 rcases condS hM with ⟨hc27, hM⟩ | ⟨hc27, hM⟩
 ·refine WP_true rfl hc27 <| WP_skip ?_
  obtain ⟨o10, hx3, hKhx3⟩ := stepS hM
  refine WP_cut (fun E w => ∃ (s21 : σ), o10 = .next s21 ∧ ∃ (gg51 : Hp) (Ls36 : List Res), E 0 = yv ∧ E 5 = encV .u64 c1 ∧ E 6 = Value.int .i64 xv2 ∧ E.ds = [] ∧ Hle gg21 gg51 ∧ Y s21 gg51 Ls36 ∧ Go.Lx.Sep g0 w0 gg51 w ((Ls36 ++ Lt))) ?_ ?_
  ·have hM := hx3
   refine WP_block <| WP_seq <| WP_region <| O (r_move (v := Value.int .i64 xv2) rfl) rfl ?_
   obtain ⟨c7, hc7, hM⟩ := bindS hM
   refine O (r_idxVec (v := c1) Tryd.underlying24 ti22 rfl rfl hc7) rfl <| O (r_assign (v := Value.int .i64 xv2) rfl) rfl <| O (r_assign (v := Value.int .u64 c7) rfl) rfl <| OW_nil <| WP_block <| WP_loop (fun (st9 : Int × σ) E w => match st9 with | (wv49, s23) => ∃ (gg55 : Hp) (Ls39 : List Res), E 0 = yv ∧ E 3 = Value.int .i64 xv2 ∧ E 4 = Value.int .u64 wv49 ∧ E 5 = encV .u64 c1 ∧ E 6 = Value.int .i64 xv2 ∧ E.ds = [] ∧ Hle gg21 gg55 ∧ Y s23 gg55 Ls39 ∧ Go.Lx.Sep g0 w0 gg55 w ((Ls39 ++ Lt))) hM ⟨gg21, Ls15, rfl, rfl, rfl, rfl, rfl, hds, (Hle.refl _), hYs, hs⟩ ?_
   clear hs hM
   rintro ⟨wv49, s23⟩ o9 E w hM ⟨gg55, Ls39, hE0, hE3, hE4, hE5, hE6, hds, hlegg55, hYs, hs⟩
   obtain ⟨E, rfl⟩ := open5 (E := E) hE0 hE3 hE4 hE5 hE6
   replace hG0 := hG0.mono hlegg55
   replace hlegg21 := hlegg21.trans hlegg55
   have hagg55 := Hle.refl gg55
   refine WP_seq <| WP_seq <| WP_region <| O (r_move (v := Value.int .u64 wv49) rfl) rfl <| O (r_neq rfl rfl) rfl <| OW_nil ?_
   rcases condS hM with ⟨hc38, hM⟩ | ⟨hc38, hM⟩
   ·refine WP_true rfl hc38 <| WP_skip <| WP_seq <| WP_block <| WP_seq <| WP_region <| O (r_move (v := yv) rfl) rfl <| O (r_move (v := Value.int .i64 xv2) rfl) rfl ?_
    obtain ⟨t37, ht37, hM⟩ := bindS hM
    refine O (r_mulM rfl rfl ht37) rfl <| O (r_move (v := Value.int .u64 wv49) rfl) rfl ?_
    obtain ⟨rv18, hrv18, hM⟩ := bindS hM
    refine C [Value.int .u64 wv49] cf11 rfl (math_bits_TrailingZeros64_ok hrv18 hs.imm hG0) rfl ?_
    rintro v35 wv53 ⟨gg59, hvv35, hegg59⟩
    have hlegg59 := hegg59.le hs.imm
    replace hs := hs.call hegg59
    replace hYs := hYm _ _ _ _ hlegg59 hYs
    replace hlegg21 := hlegg21.trans hlegg59
    replace hlegg55 := hlegg55.trans hlegg59
    obtain ⟨cs19, rfl, hcs19⟩ := hvv35
    have hcs19 : cs19 = _ := hcs19; subst hcs19
    obtain ⟨t38, ht38, hM⟩ := bindS hM
    refine O (r_addM rfl rfl ht38) rfl <| O (r_conv Tryd.underlying3 Tryd.underlying5 rfl) rfl ?_
    obtain ⟨y18, hy18, hM⟩ := bindS hM
    have hs9 : Go.Lx.Sep g0 w0 gg59 _ (Ls39 ++ ([] ++ Lt)) := Sep.swap (A := []) (B := Ls39) (L := Lt) hs
    refine OW_callW [Value.int .u8 (IntKind.u8.wrap t38)] rfl rfl (hY hs9 hYs (show VRd (tInt .u8) false gg59 _ _ from ⟨[Value.int .u8 (IntKind.u8.wrap t38)], rfl, rfl⟩) hy18) rfl ?_
    rintro v36 wv54 ⟨gg60, Ls42, rfl, hlegg60, hYs, hs⟩
    clear hs9
    replace hlegg21 := hlegg21.trans hlegg60
    replace hlegg55 := hlegg55.trans hlegg60
    have hs : Go.Lx.Sep g0 w0 gg60 _ ((Ls42 ++ Lt)) := Sep.swap (A := Ls42) (B := []) (L := Lt) hs
    refine O (r_not rfl) rfl <| OW_nil ?_
    rcases condS hM with ⟨hc39, hM⟩ | ⟨hc39, hM⟩
    ·refine WP_true rfl hc39 <| WP_ret ?_
     obtain rfl := Option.some.inj hM
     refine fun hr => ?_
     have hM := congrArg some hr
     obtain rfl := Option.some.inj hM
     have hM := hKhx3
     obtain rfl := Option.some.inj hM
     refine fun hr => ?_
     have hM := congrArg some hr
     obtain rfl := Option.some.inj hM
     refine FL_nil hds ?_
     exact ⟨_, res_none Tryd.results10, gg60, Ls42, hlegg21, hYs, Sep.tail (A := []) (L := Ls42 ++ Lt) hs⟩
    ·refine WP_false rfl hc39 <| WP_skip <| WP_region <| O (r_move (v := Value.int .u64 wv49) rfl) rfl <| O (r_move (v := Value.int .u64 wv49) rfl) rfl <| O (r_subW rfl rfl) rfl <| O (r_and rfl rfl) rfl <| O (r_assign (v := Value.int .u64 (bits .and .u64 wv49 (IntKind.u64.wrap (wv49 - 1)))) rfl) rfl <| OW_nil ?_
     obtain rfl := Option.some.inj hM
     exact ⟨gg60, Ls42, rfl, rfl, rfl, rfl, rfl, hds, hlegg55, hYs, hs⟩
   ·refine WP_false rfl hc38 <| WP_exit ?_
    obtain rfl := Option.some.inj hM
    refine fun hr => ?_
    have hM := congrArg some hr
    obtain rfl := Option.some.inj hM
    exact ⟨s23, rfl, gg55, Ls39, rfl, rfl, rfl, hds, hlegg55, hYs, hs⟩
  ·clear hs
   rintro E w ⟨s21, rfl, gg51, Ls36, hE0, hE5, hE6, hds, hlegg51, hYs, hs⟩
   have hM := hKhx3
   dsimp only [onStep] at hM
   obtain ⟨E, rfl⟩ := open3 (E := E) hE0 hE5 hE6
   replace hlegg21 := hlegg21.trans hlegg51
   refine WP_region ?_
   obtain ⟨t39, ht39, hM⟩ := bindS hM
   refine O (r_addM rfl rfl ht39) rfl <| O (r_move (v := Value.int .i64 t39) rfl) rfl <| OW_nil ?_
   obtain rfl := Option.some.inj hM
   exact ⟨gg51, Ls36, rfl, rfl, rfl, hds, hlegg21, hYs, hs⟩
 ·refine WP_false rfl hc27 <| WP_exit ?_
  obtain rfl := Option.some.inj hM
  refine fun hr => ?_
  have hM := congrArg some hr
  obtain rfl := Option.some.inj hM
  refine FL_nil hds ?_
  exact ⟨_, res_none Tryd.results10, gg21, Ls15, hlegg21, hYs, Sep.tail (A := []) (L := Ls15 ++ Lt) hs⟩

set_option maxRecDepth 100000 in
theorem byteset_All_ok {s1 : (Vec 4)} {r : Unit} (hM : M.byteset_All s1 = some r) {g0 : Hp} {w0 : World} (hi : Imm g0 w0) (hG0 : GBox 0 (M.deBruijn.1.map (Value.int .u8)) g0) :
    CallsV Tryd.prog 7 #[encV .u64 s1] w0 (fun v w' => ∃ g', (∃ cap, v = .func (.func 10) #[] (List.toArray cap) ∧ IterOk Tryd.prog 10 cap (VRd (tInt .u8) false) (fun {σ} y s => M.byteset_All_1 y s1 s) g') ∧ Ext g0 w0 g' w') := by
 unfold M.byteset_All at hM
 have hs := Sep.start hi
 refine calls_of_WP (args := [encV .u64 s1]) Tryd.func7 rfl Tryd.ntmps7 rfl ?_
 have hds : (argEnv [encV .u64 s1]).ds = [] := rfl
 refine WP_seq <| WP_region <| OW_box (v := encV .u64 s1) rfl hs (zs := s1.1.map (Value.int .u64)) rfl rfl ?_
 intro b1 wv1 hs
 refine O (r_assign (v := Value.nilFunc) rfl) rfl <| OW_nil <| WP_seq <| WP_region <| O (r_makeFunc (vs := [Value.pointer (some ⟨b1, 0, none⟩)]) rfl) rfl <| O (r_assign (v := Value.func (.func 10) #[] (List.toArray [Value.pointer (some ⟨b1, 0, none⟩)])) rfl) rfl <| OW_nil <| WP_ret ?_
 obtain rfl := Option.some.inj hM
 refine FL_nil hds ?_
 obtain ⟨gg1, hlegg1, hBgg1, hs⟩ := hs.relBox (i := 0) rfl
 replace hG0 := hG0.mono hlegg1
 exact ⟨_, res1 Tryd.results7 (rv_tmp (v := Value.func (.func 10) #[] (List.toArray [Value.pointer (some ⟨b1, 0, none⟩)])) rfl), gg1, ⟨[Value.pointer (some ⟨b1, 0, none⟩)], rfl, byteset_All_1_ok hBgg1 rfl hG0⟩, hs.ext⟩

set_option maxRecDepth 100000 in
theorem law07_elements_ok {s1 : (Vec 4)} {r : (List Int) × Bool} (hM : M.law07_elements s1 = some r) {g0 : Hp} {w0 : World} (hi : Imm g0 w0) (hG0 : GBox 0 (M.deBruijn.1.map (Value.int .u8)) g0) :
    CallsV Tryd.prog 4 #[encV .u64 s1] w0 (fun v w' => ∃ g' y0 v1 v2, (v = .tuple #[v1, v2] ∧ RowRel (tInt .u8) g' y0 r.1 ∧ VRd tBool false g' v2 r.2) ∧ Sep g0 w0 g' w' [.row v1 5 (tInt .u8).sz r.1.length y0]) := by
 unfold M.law07_elements at hM
 have hs := Sep.start hi
 refine calls_of_WP (args := [encV .u64 s1]) Tryd.func4 rfl Tryd.ntmps4 rfl ?_
 have hds : (argEnv [encV .u64 s1]).ds = [] := rfl
 refine WP_seq <| WP_region <| OW_box (v := encV .u64 s1) rfl hs (zs := s1.1.map (Value.int .u64)) rfl rfl ?_
 intro b1 wv1 hs
 refine OW_alloc ti25 hs (zs := [Value.slice none 0 0]) rfl rfl ?_
 intro b2 wv2 hs
 refine OW_alloc ti4 hs (zs := [Value.bool false]) rfl rfl ?_
 intro b3 wv3 hs
 refine OW_nil <| WP_seq <| WP_region <| O (r_loadN (cs := s1.1.map (Value.int .u64)) ti24 rfl (by simp [s1.2]) (hs.cells (i := 2) rfl)) rfl ?_
 obtain ⟨u1, hu1, hM⟩ := bindS hM
 refine C [encV .u64 s1] cf7 rfl (byteset_All_ok hu1 hs.imm hG0) rfl ?_
 rintro v1 wv4 ⟨gg1, ⟨capv1, rfl, hitv1⟩, hegg1⟩
 have hlegg1 := hegg1.le hs.imm
 replace hs := hs.call hegg1
 refine O (r_assign (v := Value.func (.func 10) #[] (List.toArray capv1)) rfl) rfl <| OW_nil <| WP_seq <| WP_seq <| WP_region <| O (r_move (v := Value.func (.func 10) #[] (List.toArray capv1)) rfl) rfl <| O (r_eqlNilF Tryd.underlying31 rfl rfl) rfl <| OW_nil <| WP_false rfl rfl <| WP_skip <| WP_seq <| WP_region <| OW_alloc ti25 hs (zs := [Value.slice none 0 0]) rfl rfl ?_
 intro b4 wv5 hs
 refine OW_nil ?_
 obtain ⟨o1, hx2, hKhx2⟩ := stepS hM
 refine WP_cut (fun E w => ∃ (xv5 : (List Int)), o1 = .next xv5 ∧ ∃ (gg7 : Hp) (Dm3 : Nat) (v12 : Value) (xs12 : List Value), E 2 = Value.pointer (some ⟨b2, 0, none⟩) ∧ E 3 = Value.pointer (some ⟨b3, 0, none⟩) ∧ E 5 = Value.pointer (some ⟨b4, 0, none⟩) ∧ E.ds = [markD Dm3] ∧ Hle gg1 gg7 ∧ RowRel (tInt .u8) gg7 xs12 xv5 ∧ Go.Lx.Sep g0 w0 gg7 w [.obj Dm3 (.deferred (some [])), .row v12 5 (tInt .u8).sz xv5.length xs12, Go.Lx.box b4 25 ([v12]), Go.Lx.box b3 4 ([Value.bool false]), Go.Lx.box b2 25 ([Value.slice none 0 0])]) ?_ ?_
 ·have hM := hx2
  have hagg1 := Hle.refl gg1
  refine WP_seq <| WP_region <| O (r_move (v := Value.func (.func 10) #[] (List.toArray capv1)) rfl) rfl <| OW_nil <| WP_block ?_
  have hs := hs.nilRow 5 (tInt .u8).sz
  obtain ⟨rx2, hx3, hM⟩ := bindS hM
  refine WP_rangeX (L0 := [.row (Value.slice none 0 0) 5 (tInt .u8).sz [].length [], Go.Lx.box b4 25 ([Value.slice none 0 0]), Go.Lx.box b3 4 ([Value.bool false]), Go.Lx.box b2 25 ([Value.slice none 0 0])]) (Lo := []) rfl (hs.sub (.cons_cons _ (.cons_cons _ (.cons_cons _ (.cons_cons _ (.cons _ .slnil)))))) rfl hitv1 ⟨rfl, by decide⟩ (fun (xv7 : (List Int)) gg10 Lq => ∃ (v16 : Value) (xs17 : List Value), RowRel (tInt .u8) gg10 xs17 xv7 ∧ Lq = [.row v16 5 (tInt .u8).sz xv7.length xs17, Go.Lx.box b4 25 ([v16]), Go.Lx.box b3 4 ([Value.bool false]), Go.Lx.box b2 25 ([Value.slice none 0 0])]) (fun (q9 : ((List Int))) (gq : Hp) (Lq : List Res) => match q9 with | xv9 => ∃ (v20 : Value) (xs21 : List Value), RowRel (tInt .u8) gq xs21 xv9 ∧ Lq = [.row v20 5 (tInt .u8).sz xv9.length xs21, Go.Lx.box b4 25 ([v20]), Go.Lx.box b3 4 ([Value.bool false]), Go.Lx.box b2 25 ([Value.slice none 0 0])]) (fun (q9 : ((List Int))) => match q9 with | _ => Code.ret) (by rintro xv7 g8 g9 L9 hle9 ⟨v16, xs17, hrelxs17, rfl⟩; exact ⟨v16, xs17, hrelxs17.mono hle9, rfl⟩) (fun q9 g8 g9 L9 hle9 h9 => match q9, L9, h9 with | xv9, _, ⟨v20, xs21, hrelxs21, rfl⟩ => ⟨v20, xs21, hrelxs21.mono hle9, rfl⟩) hx3 ⟨(Value.slice none 0 0), [], RowRel.nil, rfl⟩ ?_ ?_ ?_
  ·clear hs hM
   rintro l9 gg10 w9 Ls9 L8 a9 x xv7 r9 hs ⟨v16, xs17, hrelxs17, rfl⟩ hA hM hlegg10
   have hs : Go.Lx.Sep g0 w0 gg10 _ (.row v16 5 (tInt .u8).sz xv7.length xs17 :: Go.Lx.box b4 25 ([v16]) :: Go.Lx.box b3 4 ([Value.bool false]) :: Go.Lx.box b2 25 ([Value.slice none 0 0]) :: L8) := hs
   have hds : ([] : List Deferred) = [] := rfl
   have hagg10 := Hle.refl gg10
   obtain ⟨cs6, rfl, hcs6⟩ := hA
   have hcs6 : cs6 = _ := hcs6; subst hcs6
   refine WP_region <| O (r_assign (v := Value.int .u8 x) rfl) rfl <| OW_nil ?_
   refine ⟨gg10, [.row v16 5 (tInt .u8).sz xv7.length xs17, Go.Lx.box b4 25 ([v16]), Go.Lx.box b3 4 ([Value.bool false]), Go.Lx.box b2 25 ([Value.slice none 0 0])], hs, (Hle.refl _), ?_⟩
   intro w7 L7 hs
   have hs : Go.Lx.Sep g0 w0 gg10 _ (.row v16 5 (tInt .u8).sz xv7.length xs17 :: Go.Lx.box b4 25 ([v16]) :: Go.Lx.box b3 4 ([Value.bool false]) :: Go.Lx.box b2 25 ([Value.slice none 0 0]) :: L7) := hs
   refine WP_block <| WP_seq <| WP_seq <| WP_region <| O (r_load (v := v16) ti25 rfl (hs.cell (i := 1) (o := 0) rfl rfl)) rfl ?_
   obtain ⟨a4, ca4, hva4⟩ := hs.rowShape (i := 0) rfl
   refine O (r_lenSl (v := v16) Tryd.underlying25 rfl hva4) rfl <| O (r_geq rfl rfl) rfl <| OW_nil ?_
   rcases condS hM with ⟨hc6, hM⟩ | ⟨hc6, hM⟩
   ·refine WP_true rfl hc6 <| WP_seq <| WP_region <| OW_store1 ti25 hs (i := 3) rfl rfl (v := Value.slice none 0 0) rfl rfl (o := 0) (Nat.zero_lt_succ _) ?_
    intro wv33 hs
    refine OW_store1 ti4 hs (i := 2) rfl rfl (v := Value.bool false) rfl rfl (o := 0) (Nat.zero_lt_succ _) ?_
    intro wv34 hs
    refine OW_nil <| WP_ret ?_
    obtain rfl := Option.some.inj hM
    exact ⟨_, rfl, rfl, gg10, [.row v16 5 (tInt .u8).sz xv7.length xs17, Go.Lx.box b4 25 ([v16]), Go.Lx.box b3 4 ([Value.bool false]), Go.Lx.box b2 25 ([Value.slice none 0 0])], ⟨v16, xs17, hrelxs17, rfl⟩, (Hle.refl _), hs⟩
   ·refine WP_false rfl hc6 <| WP_skip <| WP_region <| O (r_load (v := v16) ti25 rfl (hs.cell (i := 1) (o := 0) rfl rfl)) rfl <| O (r_move (v := Value.int .u8 x) rfl) rfl <| OW_lit (τ := (tInt .u8)) [Value.int .u8 x] [x] Tryd.underlying25 ti5 (by decide) hs rfl rfl rfl ⟨rfl, trivial⟩ rfl ?_
    intro v21 wv35 xs22 hrelxs22 hs
    obtain ⟨y6, hy6, hM⟩ := bindS hM
    refine OW_append Tryd.underlying25 ti5 rfl (by decide) (by decide) hs (i := 1) rfl hrelxs17 (v := v16) rfl (u := v21) rfl (hs.rowSrc (i := 0) rfl) hrelxs22 hy6 rfl ?_
    intro v22 wv36 xs23 hrelxs23 hs
    refine OW_store1 ti25 hs (i := 2) rfl rfl (v := v22) rfl (by obtain ⟨_, _, h9⟩ := hs.rowShape (i := 1) rfl; rw [h9]; rfl) (o := 0) (Nat.zero_lt_succ _) ?_
    intro wv37 hs
    refine OW_nil ?_
    obtain rfl := Option.some.inj hM
    exact ⟨_, rfl, gg10, [.row v22 5 (tInt .u8).sz y6.length xs23, Go.Lx.box b4 25 ([v22]), Go.Lx.box b3 4 ([Value.bool false]), Go.Lx.box b2 25 ([Value.slice none 0 0])], ⟨v22, xs23, hrelxs23, rfl⟩, (Hle.refl _), (Sep.selT (A := [.row v21 5 (tInt .u8).sz [x].length xs22, .row v22 5 (tInt .u8).sz y6.length xs23, Go.Lx.box b4 25 ([v22]), Go.Lx.box b3 4 ([Value.bool false]), Go.Lx.box b2 25 ([Value.slice none 0 0])]) (A' := [.row v22 5 (tInt .u8).sz y6.length xs23, Go.Lx.box b4 25 ([v22]), Go.Lx.box b3 4 ([Value.bool false]), Go.Lx.box b2 25 ([Value.slice none 0 0])]) (L := L7) hs [1, 2, 3, 4] (by decide) rfl)⟩
  ·clear hs
   rintro xv7 gg10 wv38 Dm4 Ls9 rfl hlegg10 ⟨v16, xs17, hrelxs17, rfl⟩ hs
   replace hagg1 := hagg1.trans hlegg10
   have hs : Go.Lx.Sep g0 w0 gg10 _ [.obj Dm4 (.deferred (some [])), .row v16 5 (tInt .u8).sz xv7.length xs17, Go.Lx.box b4 25 ([v16]), Go.Lx.box b3 4 ([Value.bool false]), Go.Lx.box b2 25 ([Value.slice none 0 0])] := hs
   have hds := congrArg (List.cons (markD Dm4)) hds
   dsimp only at hM
   obtain rfl := Option.some.inj hM
   exact ⟨xv7, rfl, gg10, Dm4, v16, xs17, rfl, rfl, rfl, hds, hagg1, hrelxs17, hs⟩
  ·clear hs
   rintro xv9 gg12 wv39 Dm5 Ls9 rfl hlegg12 ⟨v20, xs21, hrelxs21, rfl⟩ hs
   have hs : Go.Lx.Sep g0 w0 gg12 _ [.obj Dm5 (.deferred (some [])), .row v20 5 (tInt .u8).sz xv9.length xs21, Go.Lx.box b4 25 ([v20]), Go.Lx.box b3 4 ([Value.bool false]), Go.Lx.box b2 25 ([Value.slice none 0 0])] := hs
   have hds := congrArg (List.cons (markD Dm5)) hds
   dsimp only at hM
   refine WP_ret ?_
   obtain rfl := Option.some.inj hM
   have hM := hKhx2
   obtain rfl := Option.some.inj hM
   refine FL_mark hds hs (i := 0) rfl ?_
   intro wv40 hs
   have hs := (hs.sub (.cons _ (.cons_cons _ (.cons_cons _ (.cons_cons _ (.cons_cons _ .slnil))))))
   replace hs : Go.Lx.Sep g0 w0 gg12 _ [.row v20 5 (tInt .u8).sz xv9.length xs21, Go.Lx.box b4 25 ([v20]), Go.Lx.box b3 4 ([Value.bool false]), Go.Lx.box b2 25 ([Value.slice none 0 0])] := hs
   have hs := hs.nilRow 5 (tInt .u8).sz
   have hn0 : RowRel (tInt .u8) gg12 [] [] := RowRel.nil
   refine FL_nil rfl ?_
   exact ⟨_, res2 Tryd.results4 (rv_cell (v := (Value.slice none 0 0)) ti25 rfl (hs.cell (i := 4) (o := 0) rfl rfl)) (rv_cell (v := Value.bool false) ti4 rfl (hs.cell (i := 3) (o := 0) rfl rfl)), gg12, [], _, _, ⟨rfl, hn0, ⟨[Value.bool false], rfl, rfl⟩⟩, (hs.sub (.cons_cons _ (.cons _ (.cons _ (.cons _ (.cons _ .slnil))))))⟩
 ·clear hs
  rintro E w ⟨xv5, rfl, gg7, Dm3, v12, xs12, hE2, hE3, hE5, hds, hlegg7, hrelxs12, hs⟩
  have hM := hKhx2
  dsimp only [onStep] at hM
  obtain ⟨E, rfl⟩ := open3 (E := E) hE2 hE3 hE5
  refine WP_seq <| WP_region <| O (r_load (v := v12) ti25 rfl (hs.cell (i := 2) (o := 0) rfl rfl)) rfl <| OW_store1 ti25 hs (i := 4) rfl rfl (v := v12) rfl (by obtain ⟨_, _, h9⟩ := hs.rowShape (i := 1) rfl; rw [h9]; rfl) (o := 0) (Nat.zero_lt_succ _) ?_
  intro wv41 hs
  refine OW_store1 ti4 hs (i := 3) rfl rfl (v := Value.bool true) rfl rfl (o := 0) (Nat.zero_lt_succ _) ?_
  intro wv42 hs
  refine OW_nil <| WP_ret ?_
  obtain rfl := Option.some.inj hM
  refine FL_mark hds hs (i := 0) rfl ?_
  intro wv43 hs
  have hs := (hs.sub (.cons _ (.cons_cons _ (.cons_cons _ (.cons_cons _ (.cons_cons _ .slnil))))))
  replace hs : Go.Lx.Sep g0 w0 gg7 _ [.row v12 5 (tInt .u8).sz xv5.length xs12, Go.Lx.box b4 25 ([v12]), Go.Lx.box b3 4 ([Value.bool true]), Go.Lx.box b2 25 ([v12])] := hs
  refine FL_nil rfl ?_
  exact ⟨_, res2 Tryd.results4 (rv_cell (v := v12) ti25 rfl (hs.cell (i := 3) (o := 0) rfl rfl)) (rv_cell (v := Value.bool true) ti4 rfl (hs.cell (i := 2) (o := 0) rfl rfl)), gg7, xs12, _, _, ⟨rfl, hrelxs12, ⟨[Value.bool true], rfl, rfl⟩⟩, (hs.sub (.cons_cons _ (.cons _ (.cons _ (.cons _ .slnil)))))⟩

set_option maxRecDepth 100000 in
theorem math_bits_OnesCount64_ok {xv1 : Int} {r : Int} (hM : M.math_bits_OnesCount64 xv1 = some r) {g0 : Hp} {w0 : World} (hi : Imm g0 w0) :
    CallsV Tryd.prog 9 #[Value.int .u64 xv1] w0 (fun v w' => ∃ g', (VRd (tInt .i64) false g' v r) ∧ Ext g0 w0 g' w') := by
 unfold M.math_bits_OnesCount64 at hM
 have hs := Sep.start hi
 refine calls_of_WP (args := [Value.int .u64 xv1]) Tryd.func9 rfl Tryd.ntmps9 rfl ?_
 have hds : (argEnv [Value.int .u64 xv1]).ds = [] := rfl
 refine WP_seq <| WP_region <| O (r_assign (v := Value.int .i64 0) rfl) rfl <| OW_nil <| WP_seq <| WP_region <| O (r_move (v := Value.int .u64 xv1) rfl) rfl ?_
 obtain ⟨t1, ht1, hM⟩ := bindS hM
 refine O (r_shrM rfl rfl ht1) rfl <| O (r_and rfl rfl) rfl <| O (r_move (v := Value.int .u64 xv1) rfl) rfl <| O (r_and rfl rfl) rfl <| O (r_addW rfl rfl) rfl <| O (r_assign (v := Value.int .u64 (IntKind.u64.wrap ((bits .and .u64 t1 6148914691236517205) + (bits .and .u64 xv1 6148914691236517205)))) rfl) rfl <| OW_nil <| WP_seq <| WP_region <| O (r_move (v := Value.int .u64 (IntKind.u64.wrap ((bits .and .u64 t1 6148914691236517205) + (bits .and .u64 xv1 6148914691236517205)))) rfl) rfl ?_
 obtain ⟨t2, ht2, hM⟩ := bindS hM
 refine O (r_shrM rfl rfl ht2) rfl <| O (r_and rfl rfl) rfl <| O (r_move (v := Value.int .u64 (IntKind.u64.wrap ((bits .and .u64 t1 6148914691236517205) + (bits .and .u64 xv1 6148914691236517205)))) rfl) rfl ?_
 obtain ⟨t3, ht3, hM⟩ := bindS hM
 refine O (Runs.cast (r_and rfl rfl) (congrArg (Value.int .u64) (Option.some.inj ht3))) rfl <| O (r_addW rfl rfl) rfl <| O (r_assign (v := Value.int .u64 (IntKind.u64.wrap ((bits .and .u64 t2 3689348814741910323) + t3))) rfl) rfl <| OW_nil <| WP_seq <| WP_region <| O (r_move (v := Value.int .u64 (IntKind.u64.wrap ((bits .and .u64 t2 3689348814741910323) + t3))) rfl) rfl ?_
 obtain ⟨t4, ht4, hM⟩ := bindS hM
 refine O (r_shrM rfl rfl ht4) rfl <| O (r_move (v := Value.int .u64 (IntKind.u64.wrap ((bits .and .u64 t2 3689348814741910323) + t3))) rfl) rfl <| O (r_addW rfl rfl) rfl ?_
 obtain ⟨t5, ht5, hM⟩ := bindS hM
 refine O (Runs.cast (r_and rfl rfl) (congrArg (Value.int .u64) (Option.some.inj ht5))) rfl <| O (r_assign (v := Value.int .u64 t5) rfl) rfl <| OW_nil <| WP_seq <| WP_region <| O (r_move (v := Value.int .u64 t5) rfl) rfl <| O (r_move (v := Value.int .u64 t5) rfl) rfl ?_
 obtain ⟨t6, ht6, hM⟩ := bindS hM
 refine O (r_shrM rfl rfl ht6) rfl <| O (r_addW rfl rfl) rfl <| O (r_assign (v := Value.int .u64 (IntKind.u64.wrap (t5 + t6))) rfl) rfl <| OW_nil <| WP_seq <| WP_region <| O (r_move (v := Value.int .u64 (IntKind.u64.wrap (t5 + t6))) rfl) rfl <| O (r_move (v := Value.int .u64 (IntKind.u64.wrap (t5 + t6))) rfl) rfl ?_
 obtain ⟨t7, ht7, hM⟩ := bindS hM
 refine O (r_shrM rfl rfl ht7) rfl <| O (r_addW rfl rfl) rfl <| O (r_assign (v := Value.int .u64 (IntKind.u64.wrap ((IntKind.u64.wrap (t5 + t6)) + t7))) rfl) rfl <| OW_nil <| WP_seq <| WP_region <| O (r_move (v := Value.int .u64 (IntKind.u64.wrap ((IntKind.u64.wrap (t5 + t6)) + t7))) rfl) rfl <| O (r_move (v := Value.int .u64 (IntKind.u64.wrap ((IntKind.u64.wrap (t5 + t6)) + t7))) rfl) rfl ?_
 obtain ⟨t8, ht8, hM⟩ := bindS hM
 refine O (r_shrM rfl rfl ht8) rfl <| O (r_addW rfl rfl) rfl <| O (r_assign (v := Value.int .u64 (IntKind.u64.wrap ((IntKind.u64.wrap ((IntKind.u64.wrap (t5 + t6)) + t7)) + t8))) rfl) rfl <| OW_nil <| WP_seq <| WP_region <| O (r_move (v := Value.int .u64 (IntKind.u64.wrap ((IntKind.u64.wrap ((IntKind.u64.wrap (t5 + t6)) + t7)) + t8))) rfl) rfl <| O (r_conv Tryd.underlying22 Tryd.underlying3 rfl) rfl ?_
 obtain ⟨t9, ht9, hM⟩ := bindS hM
 refine O (Runs.cast (r_and rfl rfl) (congrArg (Value.int .i64) (Option.some.inj ht9))) rfl <| O (r_assign (v := Value.int .i64 t9) rfl) rfl <| OW_nil <| WP_ret ?_
 obtain rfl := Option.some.inj hM
 refine FL_nil hds ?_
 exact ⟨_, res1 Tryd.results9 (rv_tmp (v := Value.int .i64 t9) rfl), g0, ⟨[Value.int .i64 t9], rfl, rfl⟩, hs.ext⟩

set_option maxRecDepth 100000 in
theorem byteset_Len_ok {s1 : (Vec 4)} {r : Int} (hM : M.byteset_Len s1 = some r) {g0 : Hp} {w0 : World} (hi : Imm g0 w0) :
    CallsV Tryd.prog 5 #[encV .u64 s1] w0 (fun v w' => ∃ g', (VRd (tInt .i64) false g' v r) ∧ Ext g0 w0 g' w') := by
 unfold M.byteset_Len at hM
 have hs := Sep.start hi
 refine calls_of_WP (args := [encV .u64 s1]) Tryd.func5 rfl Tryd.ntmps5 rfl ?_
 have hds : (argEnv [encV .u64 s1]).ds = [] := rfl
 refine WP_seq <| WP_region <| OW_box (v := encV .u64 s1) rfl hs (zs := s1.1.map (Value.int .u64)) rfl rfl ?_
 intro b1 wv1 hs
 refine O (r_assign (v := Value.int .i64 0) rfl) rfl <| OW_nil <| WP_seq <| WP_region <| O (r_assign (v := Value.int .i64 0) rfl) rfl <| OW_nil ?_
 obtain ⟨nv4, hx1, hKhx1⟩ := bindS hM
 refine WP_cut (fun E w => ∃ (gg7 : Hp), E 3 = Value.int .i64 nv4 ∧ E.ds = [] ∧ Hle g0 gg7 ∧ Go.Lx.Sep g0 w0 gg7 w []) ?_ ?_
 ·have hM := hx1
  have hag0 := Hle.refl g0
  refine WP_seq <| WP_region <| O (r_loadN (cs := s1.1.map (Value.int .u64)) ti24 rfl (by simp [s1.2]) (hs.cells (i := 0) rfl)) rfl <| O (r_move (v := Value.int .i64 0) rfl) rfl <| OW_nil <| WP_block <| WP_loop (fun (st9 : Int × Int) E w => match st9 with | (nv6, xv5) => ∃ (gg10 : Hp), E 3 = Value.int .i64 nv6 ∧ E 6 = encV .u64 s1 ∧ E 7 = Value.int .i64 xv5 ∧ E.ds = [] ∧ Hle g0 gg10 ∧ Go.Lx.Sep g0 w0 gg10 w []) hM ⟨g0, rfl, rfl, rfl, hds, (Hle.refl _), (hs.sub (.cons _ .slnil))⟩ ?_
  clear hs hM
  rintro ⟨nv6, xv5⟩ o2 E w hM ⟨gg10, hE3, hE6, hE7, hds, hlegg10, hs⟩
  obtain ⟨E, rfl⟩ := open3 (E := E) hE3 hE6 hE7
  have hagg10 := Hle.refl gg10
  refine WP_seq <| WP_region <| O (r_lss rfl rfl) rfl <| OW_nil <| WP_seq ?_
  rcases condS hM with ⟨hc6, hM⟩ | ⟨hc6, hM⟩
  ·refine WP_true rfl hc6 <| WP_skip <| WP_seq <| WP_block <| WP_seq <| WP_region ?_
   obtain ⟨c6, hc6, hM⟩ := bindS hM
   refine O (r_idxVec (v := s1) Tryd.underlying24 ti22 rfl rfl hc6) rfl <| O (r_assign (v := Value.int .u64 c6) rfl) rfl <| OW_nil <| WP_region <| O (r_move (v := Value.int .i64 nv6) rfl) rfl <| O (r_move (v := Value.int .u64 c6) rfl) rfl ?_
   obtain ⟨rv6, hrv6, hM⟩ := bindS hM
   refine C [Value.int .u64 c6] cf9 rfl (math_bits_OnesCount64_ok hrv6 hs.imm) rfl ?_
   rintro v6 wv7 ⟨gg13, hvv6, hegg13⟩
   have hlegg13 := hegg13.le hs.imm
   replace hs := hs.call hegg13
   replace hlegg10 := hlegg10.trans hlegg13
   obtain ⟨cs6, rfl, hcs6⟩ := hvv6
   have hcs6 : cs6 = _ := hcs6; subst hcs6
   obtain ⟨t11, ht11, hM⟩ := bindS hM
   refine O (r_addM rfl rfl ht11) rfl <| O (r_assign (v := Value.int .i64 t11) rfl) rfl <| OW_nil <| WP_region ?_
   obtain ⟨t12, ht12, hM⟩ := bindS hM
   refine O (r_addM rfl rfl ht12) rfl <| O (r_move (v := Value.int .i64 t12) rfl) rfl <| OW_nil ?_
   obtain rfl := Option.some.inj hM
   exact ⟨gg13, rfl, rfl, rfl, hds, hlegg10, hs⟩
  ·refine WP_false rfl hc6 <| WP_exit ?_
   obtain rfl := Option.some.inj hM
   refine fun hr => ?_
   have hM := congrArg some hr
   obtain rfl := Option.some.inj hM
   exact ⟨gg10, rfl, hds, hlegg10, hs⟩
 ·clear hs
  rintro E w ⟨gg7, hE3, hds, hlegg7, hs⟩
  have hM := hKhx1
  obtain ⟨E, rfl⟩ := open1 (E := E) hE3
  refine WP_seq <| WP_region <| O (r_move (v := Value.int .i64 nv4) rfl) rfl <| O (r_assign (v := Value.int .i64 nv4) rfl) rfl <| OW_nil <| WP_ret ?_
  obtain rfl := Option.some.inj hM
  refine FL_nil hds ?_
  exact ⟨_, res1 Tryd.results5 (rv_tmp (v := Value.int .i64 nv4) rfl), gg7, ⟨[Value.int .i64 nv4], rfl, rfl⟩, hs.ext⟩

set_option maxRecDepth 100000 in
theorem ref07_Has_ok {s1 : (Vec 4)} {b1 : Int} {r : Bool} (hM : M.ref07_Has s1 b1 = some r) {g0 : Hp} {w0 : World} (hi : Imm g0 w0) :
    CallsV Tryd.prog 6 #[encV .u64 s1, Value.int .u8 b1] w0 (fun v w' => ∃ g', (VRd tBool false g' v r) ∧ Ext g0 w0 g' w') := by
 unfold M.ref07_Has at hM
 have hs := Sep.start hi
 refine calls_of_WP (args := [encV .u64 s1, Value.int .u8 b1]) Tryd.func6 rfl Tryd.ntmps6 rfl ?_
 have hds : (argEnv [encV .u64 s1, Value.int .u8 b1]).ds = [] := rfl
 refine WP_seq <| WP_region <| OW_box (v := encV .u64 s1) rfl hs (zs := s1.1.map (Value.int .u64)) rfl rfl ?_
 intro b2 wv1 hs
 refine O (r_assign (v := Value.bool false) rfl) rfl <| OW_nil <| WP_seq <| WP_region <| O (r_move (v := Value.int .u8 b1) rfl) rfl ?_
 obtain ⟨t1, ht1, hM⟩ := bindS hM
 refine O (r_quoM rfl rfl ht1) rfl ?_
 obtain ⟨c1, hc1, hM⟩ := bindS hM
 refine O (r_idxArr Tryd.underlying24 ti22 rfl rfl (vget_some hc1).1 (vget_some hc1).2.1) rfl <| O (r_load ti22 rfl (hs.cell (i := 0) rfl (vget_cell hc1))) rfl <| O (r_move (v := Value.int .u8 b1) rfl) rfl ?_
 obtain ⟨t2, ht2, hM⟩ := bindS hM
 refine O (r_remM rfl rfl ht2) rfl ?_
 obtain ⟨t3, ht3, hM⟩ := bindS hM
 refine O (r_shrM rfl rfl ht3) rfl <| O (r_and rfl rfl) rfl <| O (r_eql rfl rfl) rfl <| O (r_assign (v := Value.bool ((bits .and .u64 t3 1) == 1)) rfl) rfl <| OW_nil <| WP_ret ?_
 obtain rfl := Option.some.inj hM
 refine FL_nil hds ?_
 exact ⟨_, res1 Tryd.results6 (rv_tmp (v := Value.bool ((bits .and .u64 t3 1) == 1)) rfl), g0, ⟨[Value.bool ((bits .and .u64 t3 1) == 1)], rfl, rfl⟩, hs.ext⟩

set_option maxRecDepth 100000 in
theorem byteset_Range_ok {lo1 : Int} {hiv1 : Int} {r : (Vec 4)} (hM : M.byteset_Range lo1 hiv1 = some r) {g0 : Hp} {w0 : World} (hi : Imm g0 w0) :
    CallsV Tryd.prog 12 #[Value.int .u8 lo1, Value.int .u8 hiv1] w0 (fun v w' => ∃ g', (VRd (tVec 4 .u64) true g' v r) ∧ Ext g0 w0 g' w') := by
 unfold M.byteset_Range at hM
 have hs := Sep.start hi
 refine calls_of_WP (args := [Value.int .u8 lo1, Value.int .u8 hiv1]) Tryd.func12 rfl Tryd.ntmps12 rfl ?_
 have hds : (argEnv [Value.int .u8 lo1, Value.int .u8 hiv1]).ds = [] := rfl
 refine WP_seq <| WP_region <| OW_alloc ti24 hs (zs := (Vec.zero 4).1.map (Value.int .u64)) rfl rfl ?_
 intro b1 wv1 hs
 refine OW_nil <| WP_seq <| WP_region <| OW_alloc ti24 hs (zs := (Vec.zero 4).1.map (Value.int .u64)) rfl rfl ?_
 intro b2 wv2 hs
 refine OW_nil ?_
 obtain ⟨xv7, hx1, hKhx1⟩ := bindS hM
 refine WP_cut (fun E w => E 4 = Value.pointer (some ⟨b1, 0, none⟩) ∧ E 5 = Value.pointer (some ⟨b2, 0, none⟩) ∧ E.ds = [] ∧ Go.Lx.Sep g0 w0 g0 w [Go.Lx.box b2 24 (xv7.1.map (Value.int .u64)), Go.Lx.box b1 24 ((Vec.zero 4).1.map (Value.int .u64))]) ?_ ?_
 ·have hM := hx1
  have hag0 := Hle.refl g0
  refine WP_seq <| WP_region <| O (r_move (v := Value.int .u8 lo1) rfl) rfl <| O (r_conv Tryd.underlying5 Tryd.underlying3 rfl) rfl <| O (r_assign (v := Value.int .i64 (IntKind.i64.wrap lo1)) rfl) rfl <| OW_nil <| WP_block <| WP_loop (fun (st9 : (Vec 4) × Int) E w => match st9 with | (xv10, b7) => E 1 = Value.int .u8 hiv1 ∧ E 4 = Value.pointer (some ⟨b1, 0, none⟩) ∧ E 5 = Value.pointer (some ⟨b2, 0, none⟩) ∧ E 6 = Value.int .i64 b7 ∧ E.ds = [] ∧ Go.Lx.Sep g0 w0 g0 w [Go.Lx.box b2 24 (xv10.1.map (Value.int .u64)), Go.Lx.box b1 24 ((Vec.zero 4).1.map (Value.int .u64))]) hM ⟨rfl, rfl, rfl, rfl, hds, hs⟩ ?_
  clear hs hM
  rintro ⟨xv10, b7⟩ o2 E w hM ⟨hE1, hE4, hE5, hE6, hds, hs⟩
  obtain ⟨E, rfl⟩ := open4 (E := E) hE1 hE4 hE5 hE6
  refine WP_seq <| WP_seq <| WP_region <| O (r_move (v := Value.int .i64 b7) rfl) rfl <| O (r_move (v := Value.int .u8 hiv1) rfl) rfl <| O (r_conv Tryd.underlying5 Tryd.underlying3 rfl) rfl <| O (r_leq rfl rfl) rfl <| OW_nil ?_
  rcases condS hM with ⟨hc6, hM⟩ | ⟨hc6, hM⟩
  ·refine WP_true rfl hc6 <| WP_skip <| WP_seq <| WP_block <| WP_drawTail 9 mo (by decide +kernel) ?_
   have hs := hs.drew
   refine S (r_move (v := Value.int .i64 b7) rfl) rfl ?_
   obtain ⟨t21, ht21, hM⟩ := bindS hM
   refine S (r_quoM rfl rfl ht21) rfl ?_
   obtain ⟨c6, hc6, hM⟩ := bindS hM
   refine S (r_idxArr Tryd.underlying24 ti22 rfl rfl (vget_some hc6).1 (vget_some hc6).2.1) rfl <| S (r_load ti22 rfl (hs.cell (i := 0) rfl (vget_cell hc6))) rfl <| S (r_move (v := Value.int .i64 b7) rfl) rfl ?_
   obtain ⟨t22, ht22, hM⟩ := bindS hM
   refine S (r_remM rfl rfl ht22) rfl ?_
   obtain ⟨t23, ht23, hM⟩ := bindS hM
   refine S (r_shlM rfl rfl ht23) rfl <| S (r_or rfl rfl) rfl ?_
   obtain ⟨xv13, hxv13, hM⟩ := bindS hM
   refine S (r_idxArr Tryd.underlying24 ti22 rfl rfl (vset_some hxv13).1 (vset_some hxv13).2.1) rfl <| SW_nil <| OW_store1 ti22 hs (i := 0) rfl rfl (v := Value.int .u64 (bits .or .u64 c6 t23)) rfl rfl (vset_lt hxv13) ?_
   intro wv8 hs
   replace hs : Go.Lx.Sep g0 w0 g0 wv8 [Go.Lx.box b2 24 (xv13.1.map (Value.int .u64)), Go.Lx.box b1 24 ((Vec.zero 4).1.map (Value.int .u64))] := by have h9 := hs; simp only [List.set] at h9; rw [vset_cells hxv13] at h9; exact h9
   refine OW_nil <| WP_region <| O (r_move (v := Value.int .i64 b7) rfl) rfl ?_
   obtain ⟨t24, ht24, hM⟩ := bindS hM
   refine O (r_addM rfl rfl ht24) rfl <| O (r_assign (v := Value.int .i64 t24) rfl) rfl <| OW_nil ?_
   obtain rfl := Option.some.inj hM
   exact ⟨rfl, rfl, rfl, rfl, hds, hs⟩
  ·refine WP_false rfl hc6 <| WP_exit ?_
   obtain rfl := Option.some.inj hM
   refine fun hr => ?_
   have hM := congrArg some hr
   obtain rfl := Option.some.inj hM
   exact ⟨rfl, rfl, hds, hs⟩
 ·clear hs
  rintro E w ⟨hE4, hE5, hds, hs⟩
  have hM := hKhx1
  obtain ⟨E, rfl⟩ := open2 (E := E) hE4 hE5
  refine WP_seq <| WP_region <| O (r_loadN (cs := xv7.1.map (Value.int .u64)) ti24 rfl (by simp [xv7.2]) (hs.cells (i := 0) rfl)) rfl <| OW_storeAll ti24 hs (i := 1) rfl rfl (v := encV .u64 xv7) rfl (vs := xv7.1.map (Value.int .u64)) rfl vec_one (by simp [xv7.2]) (by simp [xv7.2, (Vec.zero 4).2]) ?_
  intro wv9 hs
  refine OW_nil <| WP_ret ?_
  obtain rfl := Option.some.inj hM
  refine FL_nil hds ?_
  exact ⟨_, res1 Tryd.results12 (rv_cells (vs := xv7.1.map (Value.int .u64)) ti24 rfl (by simp [xv7.2]) (hs.cells (i := 1) rfl)), g0, ⟨xv7.1.map (Value.int .u64), rfl, rfl⟩, hs.ext⟩

set_option maxRecDepth 100000 in
theorem byteset_Of_ok {s1 : Str} {r : (Vec 4)} (hM : M.byteset_Of s1 = some r) {g0 : Hp} {w0 : World} (hi : Imm g0 w0) :
    CallsV Tryd.prog 14 #[encS s1] w0 (fun v w' => ∃ g', (VRd (tVec 4 .u64) true g' v r) ∧ Ext g0 w0 g' w') := by
 unfold M.byteset_Of at hM
 have hs := Sep.start hi
 refine calls_of_WP (args := [encS s1]) Tryd.func14 rfl Tryd.ntmps14 rfl ?_
 have hds : (argEnv [encS s1]).ds = [] := rfl
 refine WP_seq <| WP_region <| OW_alloc ti24 hs (zs := (Vec.zero 4).1.map (Value.int .u64)) rfl rfl ?_
 intro b1 wv1 hs
 refine OW_nil <| WP_seq <| WP_region <| OW_alloc ti24 hs (zs := (Vec.zero 4).1.map (Value.int .u64)) rfl rfl ?_
 intro b2 wv2 hs
 refine OW_nil ?_
 obtain ⟨xv10, hx1, hKhx1⟩ := bindS hM
 refine WP_cut (fun E w => E 2 = Value.pointer (some ⟨b1, 0, none⟩) ∧ E 3 = Value.pointer (some ⟨b2, 0, none⟩) ∧ E.ds = [] ∧ Go.Lx.Sep g0 w0 g0 w [Go.Lx.box b2 24 (xv10.1.map (Value.int .u64)), Go.Lx.box b1 24 ((Vec.zero 4).1.map (Value.int .u64))]) ?_ ?_
 ·have hM := hx1
  have hag0 := Hle.refl g0
  refine WP_seq <| WP_region <| O (r_move (v := encS s1) rfl) rfl <| O (r_lenStr Tryd.underlying9 rfl) rfl <| O (r_move (v := Value.int .i64 0) rfl) rfl <| OW_nil <| WP_block <| WP_loop (fun (st9 : (Vec 4) × Int) E w => match st9 with | (xv14, xv15) => E 0 = encS s1 ∧ E 2 = Value.pointer (some ⟨b1, 0, none⟩) ∧ E 3 = Value.pointer (some ⟨b2, 0, none⟩) ∧ E 6 = Value.int .i64 (s1.length : Int) ∧ E 7 = Value.int .i64 xv15 ∧ E.ds = [] ∧ Go.Lx.Sep g0 w0 g0 w [Go.Lx.box b2 24 (xv14.1.map (Value.int .u64)), Go.Lx.box b1 24 ((Vec.zero 4).1.map (Value.int .u64))]) hM ⟨rfl, rfl, rfl, rfl, rfl, hds, hs⟩ ?_
  clear hs hM
  rintro ⟨xv14, xv15⟩ o2 E w hM ⟨hE0, hE2, hE3, hE6, hE7, hds, hs⟩
  obtain ⟨E, rfl⟩ := open5 (E := E) hE0 hE2 hE3 hE6 hE7
  refine WP_seq <| WP_region <| O (r_lss rfl rfl) rfl <| OW_nil <| WP_seq ?_
  rcases condS hM with ⟨hc6, hM⟩ | ⟨hc6, hM⟩
  ·refine WP_true rfl hc6 <| WP_skip <| WP_seq <| WP_block <| WP_seq <| WP_region <| O (r_move (v := Value.int .i64 xv15) rfl) rfl <| O (r_assign (v := Value.int .i64 xv15) rfl) rfl <| OW_nil <| WP_drawTail 13 mo (by decide +kernel) ?_
   have hs := hs.drew
   refine S (r_move (v := encS s1) rfl) rfl <| S (r_move (v := Value.int .i64 xv15) rfl) rfl ?_
   obtain ⟨c11, hc11, hM⟩ := bindS hM
   refine S (r_idxStr Tryd.underlying9 rfl rfl hc11) rfl ?_
   obtain ⟨t21, ht21, hM⟩ := bindS hM
   refine S (r_quoM rfl rfl ht21) rfl ?_
   obtain ⟨c12, hc12, hM⟩ := bindS hM
   refine S (r_idxArr Tryd.underlying24 ti22 rfl rfl (vget_some hc12).1 (vget_some hc12).2.1) rfl <| S (r_load ti22 rfl (hs.cell (i := 0) rfl (vget_cell hc12))) rfl <| S (r_move (v := encS s1) rfl) rfl <| S (r_move (v := Value.int .i64 xv15) rfl) rfl <| S (r_idxStr Tryd.underlying9 rfl rfl hc11) rfl ?_
   obtain ⟨t22, ht22, hM⟩ := bindS hM
   refine S (r_remM rfl rfl ht22) rfl ?_
   obtain ⟨t23, ht23, hM⟩ := bindS hM
   refine S (r_shlM rfl rfl ht23) rfl <| S (r_or rfl rfl) rfl ?_
   obtain ⟨xv19, hxv19, hM⟩ := bindS hM
   refine S (r_idxArr Tryd.underlying24 ti22 rfl rfl (vset_some hxv19).1 (vset_some hxv19).2.1) rfl <| SW_nil <| OW_store1 ti22 hs (i := 0) rfl rfl (v := Value.int .u64 (bits .or .u64 c12 t23)) rfl rfl (vset_lt hxv19) ?_
   intro wv8 hs
   replace hs : Go.Lx.Sep g0 w0 g0 wv8 [Go.Lx.box b2 24 (xv19.1.map (Value.int .u64)), Go.Lx.box b1 24 ((Vec.zero 4).1.map (Value.int .u64))] := by have h9 := hs; simp only [List.set] at h9; rw [vset_cells hxv19] at h9; exact h9
   refine OW_nil <| WP_region ?_
   obtain ⟨t24, ht24, hM⟩ := bindS hM
   refine O (r_addM rfl rfl ht24) rfl <| O (r_move (v := Value.int .i64 t24) rfl) rfl <| OW_nil ?_
   obtain rfl := Option.some.inj hM
   exact ⟨rfl, rfl, rfl, rfl, rfl, hds, hs⟩
  ·refine WP_false rfl hc6 <| WP_exit ?_
   obtain rfl := Option.some.inj hM
   refine fun hr => ?_
   have hM := congrArg some hr
   obtain rfl := Option.some.inj hM
   exact ⟨rfl, rfl, hds, hs⟩
 ·clear hs
  rintro E w ⟨hE2, hE3, hds, hs⟩
  have hM := hKhx1
  obtain ⟨E, rfl⟩ := open2 (E := E) hE2 hE3
  refine WP_seq <| WP_region <| O (r_loadN (cs := xv10.1.map (Value.int .u64)) ti24 rfl (by simp [xv10.2]) (hs.cells (i := 0) rfl)) rfl <| OW_storeAll ti24 hs (i := 1) rfl rfl (v := encV .u64 xv10) rfl (vs := xv10.1.map (Value.int .u64)) rfl vec_one (by simp [xv10.2]) (by simp [xv10.2, (Vec.zero 4).2]) ?_
  intro wv9 hs
  refine OW_nil <| WP_ret ?_
  obtain rfl := Option.some.inj hM
  refine FL_nil hds ?_
  exact ⟨_, res1 Tryd.results14 (rv_cells (vs := xv10.1.map (Value.int .u64)) ti24 rfl (by simp [xv10.2]) (hs.cells (i := 1) rfl)), g0, ⟨xv10.1.map (Value.int .u64), rfl, rfl⟩, hs.ext⟩

set_option maxRecDepth 100000 in
theorem byteset_Has_ok {s1 : (Vec 4)} {b1 : Int} {r : Bool} (hM : M.byteset_Has s1 b1 = some r) {g0 : Hp} {w0 : World} (hi : Imm g0 w0) :
    CallsV Tryd.prog 15 #[encV .u64 s1, Value.int .u8 b1] w0 (fun v w' => ∃ g', (VRd tBool false g' v r) ∧ Ext g0 w0 g' w') := by
 unfold M.byteset_Has at hM
 have hs := Sep.start hi
 refine calls_of_WP (args := [encV .u64 s1, Value.int .u8 b1]) Tryd.func15 rfl Tryd.ntmps15 rfl ?_
 have hds : (argEnv [encV .u64 s1, Value.int .u8 b1]).ds = [] := rfl
 refine WP_seq <| WP_region <| OW_box (v := encV .u64 s1) rfl hs (zs := s1.1.map (Value.int .u64)) rfl rfl ?_
 intro b2 wv1 hs
 refine O (r_assign (v := Value.bool false) rfl) rfl <| OW_nil <| WP_seq <| WP_region <| O (r_move (v := Value.int .u8 b1) rfl) rfl ?_
 obtain ⟨t1, ht1, hM⟩ := bindS hM
 refine O (r_quoM rfl rfl ht1) rfl ?_
 obtain ⟨c1, hc1, hM⟩ := bindS hM
 refine O (r_idxArr Tryd.underlying24 ti22 rfl rfl (vget_some hc1).1 (vget_some hc1).2.1) rfl <| O (r_load ti22 rfl (hs.cell (i := 0) rfl (vget_cell hc1))) rfl <| O (r_move (v := Value.int .u8 b1) rfl) rfl ?_
 obtain ⟨t2, ht2, hM⟩ := bindS hM
 refine O (r_remM rfl rfl ht2) rfl ?_
 obtain ⟨t3, ht3, hM⟩ := bindS hM
 refine O (r_shrM rfl rfl ht3) rfl <| O (r_and rfl rfl) rfl <| O (r_eql rfl rfl) rfl <| O (r_assign (v := Value.bool ((bits .and .u64 t3 1) == 1)) rfl) rfl <| OW_nil <| WP_ret ?_
 obtain rfl := Option.some.inj hM
 refine FL_nil hds ?_
 exact ⟨_, res1 Tryd.results15 (rv_tmp (v := Value.bool ((bits .and .u64 t3 1) == 1)) rfl), g0, ⟨[Value.bool ((bits .and .u64 t3 1) == 1)], rfl, rfl⟩, hs.ext⟩

set_option maxRecDepth 100000 in
theorem byteset_Classes_ok {l1 : (List (Vec 4))} {r : (List Int)} (hM : M.byteset_Classes l1 = some r) {g0 : Hp} {w0 : World} (hi : Imm g0 w0) {v1 : Value} (hRv1 : RdS (tVec 4 .u64) g0 v1 l1) :
    CallsV Tryd.prog 13 #[v1] w0 (fun v w' => ∃ g' y0, (RowRel (tInt .i64) g' y0 r) ∧ Sep g0 w0 g' w' [.row v 3 (tInt .i64).sz r.length y0]) := by
 unfold M.byteset_Classes at hM
 have hs := Sep.start hi
 refine calls_of_WP (args := [v1]) Tryd.func13 rfl Tryd.ntmps13 rfl ?_
 have hds : (argEnv [v1]).ds = [] := rfl
 refine WP_seq <| WP_region <| O (r_assign (v := Value.slice none 0 0) rfl) rfl <| OW_nil <| WP_seq <| WP_region ?_
 obtain ⟨out1, hout1, hM⟩ := bindS hM
 refine OW_make (τ := (tInt .i64)) (zc := [Value.int .i64 0]) (zx := 0) Tryd.underlying37 ti3 rfl rfl (by decide) hs rfl rfl hout1 rfl ?_
 intro v2 wv1 xs1 hrelxs1 hs
 refine O (r_assign (v := v2) rfl) rfl <| OW_nil <| WP_seq <| WP_region <| OW_makeMap hs rfl ?_
 intro b1 wv2 hs
 have hmb1 : MRel encS (Value.int .i64) #[] [] := mrel_nil
 refine O (r_assign (v := Value.map (some b1)) rfl) rfl <| OW_nil ?_
 obtain ⟨out14, hx52, hKhx52⟩ := bindS hM
 refine WP_cut (fun E w => ∃ (gg157 : Hp) (v171 : Value) (xs176 : List Value), E 3 = v171 ∧ E.ds = [] ∧ Hle g0 gg157 ∧ RowRel (tInt .i64) gg157 xs176 out14 ∧ Go.Lx.Sep g0 w0 gg157 w [.row v171 3 (tInt .i64).sz out14.length xs176]) ?_ ?_
 ·have hM := hx52
  have hag0 := Hle.refl g0
  refine WP_seq <| WP_region <| O (r_move (v := v2) rfl) rfl ?_
  obtain ⟨a20, ca20, hva20⟩ := hs.rowShape (i := 1) rfl
  refine O (r_lenSl (v := v2) Tryd.underlying37 rfl hva20) rfl <| O (r_move (v := Value.int .i64 0) rfl) rfl <| OW_nil <| WP_block <| WP_loop (fun (st9 : (List Int) × (List (Str × Int)) × Int) E w => match st9 with | (out19, m17, xv53) => ∃ (gg210 : Hp) (es33 : Array MapEntry) (ck33 : Nat) (v228 : Value) (xs235 : List Value), E 0 = v1 ∧ E 3 = v228 ∧ E 4 = Value.map (some b1) ∧ E 14 = Value.int .i64 (out1.length : Int) ∧ E 15 = Value.int .i64 xv53 ∧ E.ds = [] ∧ Hle g0 gg210 ∧ MRel encS (Value.int .i64) es33 m17 ∧ RowRel (tInt .i64) gg210 xs235 out19 ∧ Go.Lx.Sep g0 w0 gg210 w [.obj b1 (.map es33 ck33), .row v228 3 (tInt .i64).sz out19.length xs235]) hM ⟨g0, #[], 0, v2, xs1, rfl, rfl, rfl, rfl, rfl, hds, (Hle.refl _), hmb1, hrelxs1, hs⟩ ?_
  clear hs hM
  rintro ⟨out19, m17, xv53⟩ o22 E w hM ⟨gg210, es33, ck33, v228, xs235, hE0, hE3, hE4, hE14, hE15, hds, hlegg210, hmes33, hrelxs235, hs⟩
  obtain ⟨E, rfl⟩ := open5 (E := E) hE0 hE3 hE4 hE14 hE15
  replace hRv1 := hRv1.mono hlegg210
  have hagg210 := Hle.refl gg210
  refine WP_seq <| WP_region <| O (r_lss rfl rfl) rfl <| OW_nil <| WP_seq ?_
  rcases condS hM with ⟨hc206, hM⟩ | ⟨hc206, hM⟩
  ·refine WP_true rfl hc206 <| WP_skip ?_
   obtain ⟨⟨out25, m23⟩, hx95, hKhx95⟩ := bindS hM
   refine WP_cut (fun E w => ∃ (gg288 : Hp) (es45 : Array MapEntry) (ck45 : Nat) (v312 : Value) (xs322 : List Value), E 0 = v1 ∧ E 3 = v312 ∧ E 4 = Value.map (some b1) ∧ E 14 = Value.int .i64 (out1.length : Int) ∧ E 15 = Value.int .i64 xv53 ∧ E.ds = [] ∧ Hle gg210 gg288 ∧ MRel encS (Value.int .i64) es45 m23 ∧ RowRel (tInt .i64) gg288 xs322 out25 ∧ Go.Lx.Sep g0 w0 gg288 w [.obj b1 (.map es45 ck45), .row v312 3 (tInt .i64).sz out25.length xs322]) ?_ ?_
   ·have hM := hx95
    refine WP_block <| WP_seq <| WP_region <| O (r_move (v := Value.int .i64 xv53) rfl) rfl <| O (r_assign (v := Value.int .i64 xv53) rfl) rfl <| OW_nil <| WP_seq <| WP_region <| O (r_move (v := v1) rfl) rfl ?_
    obtain ⟨a36, ca36, hva36⟩ := hRv1.shape
    refine O (r_lenSl (v := v1) Tryd.underlying40 rfl hva36) rfl ?_
    obtain ⟨key287, hkey287, hM⟩ := bindS hM
    refine OW_make (τ := (tInt .u8)) (zc := [Value.int .u8 0]) (zx := 0) Tryd.underlying25 ti5 rfl rfl (by decide) hs rfl rfl hkey287 rfl ?_
    intro v313 wv575 xs323 hrelxs323 hs
    refine O (r_assign (v := v313) rfl) rfl <| OW_nil ?_
    obtain ⟨key300, hx99, hKhx99⟩ := bindS hM
    refine WP_cut (fun E w => ∃ (gg301 : Hp) (v327 : Value) (xs337 : List Value) (v326 : Value) (xs336 : List Value), E 0 = v1 ∧ E 3 = v326 ∧ E 4 = Value.map (some b1) ∧ E 5 = Value.int .i64 xv53 ∧ E 6 = v327 ∧ E 14 = Value.int .i64 (out1.length : Int) ∧ E 15 = Value.int .i64 xv53 ∧ E.ds = [] ∧ Hle gg210 gg301 ∧ RowRel (tInt .u8) gg301 xs337 key300 ∧ RowRel (tInt .i64) gg301 xs336 out19 ∧ Go.Lx.Sep g0 w0 gg301 w [.row v327 5 (tInt .u8).sz key300.length xs337, .obj b1 (.map es33 ck33), .row v326 3 (tInt .i64).sz out19.length xs336]) ?_ ?_
    ·have hM := hx99
     refine WP_seq <| WP_region <| O (r_move (v := v1) rfl) rfl ?_
     obtain ⟨a38, ca38, hva38⟩ := hRv1.shape
     refine O (r_lenSl (v := v1) Tryd.underlying40 rfl hva38) rfl <| O (r_move (v := Value.int .i64 0) rfl) rfl <| OW_nil <| WP_block <| WP_loop (fun (st9 : (List Int) × Int) E w => match st9 with | (key305, xv77) => ∃ (gg306 : Hp) (v332 : Value) (xs342 : List Value), E 0 = v1 ∧ E 3 = v228 ∧ E 4 = Value.map (some b1) ∧ E 5 = Value.int .i64 xv53 ∧ E 6 = v332 ∧ E 14 = Value.int .i64 (out1.length : Int) ∧ E 15 = Value.int .i64 xv53 ∧ E 21 = v1 ∧ E 22 = Value.int .i64 (l1.length : Int) ∧ E 23 = Value.int .i64 xv77 ∧ E.ds = [] ∧ Hle gg210 gg306 ∧ RowRel (tInt .u8) gg306 xs342 key305 ∧ Go.Lx.Sep g0 w0 gg306 w [.row v332 5 (tInt .u8).sz key305.length xs342, .obj b1 (.map es33 ck33), .row v228 3 (tInt .i64).sz out19.length xs235]) hM ⟨gg210, v313, xs323, rfl, rfl, rfl, rfl, rfl, rfl, rfl, rfl, rfl, rfl, hds, (Hle.refl _), hrelxs323, hs⟩ ?_
     clear hs hM
     rintro ⟨key305, xv77⟩ o26 E w hM ⟨gg306, v332, xs342, hE0, hE3, hE4, hE5, hE6, hE14, hE15, hE21, hE22, hE23, hds, hlegg306, hrelxs342, hs⟩
     obtain ⟨E, rfl⟩ := open8 (E := E) hE0 hE3 hE4 hE5 hE6 hE14 hE15 hE21
     obtain ⟨E, rfl⟩ := open2 (E := E) hE22 hE23
     replace hRv1 := hRv1.mono hlegg306
     replace hrelxs235 := hrelxs235.mono hlegg306
     have hagg306 := Hle.refl gg306
     refine WP_seq <| WP_region <| O (r_lss rfl rfl) rfl <| OW_nil <| WP_seq ?_
     rcases condS hM with ⟨hc242, hM⟩ | ⟨hc242, hM⟩
     ·refine WP_true rfl hc242 <| WP_skip ?_
      obtain ⟨key311, hx102, hKhx102⟩ := bindS hM
      refine WP_cut (fun E w => ∃ (gg312 : Hp) (v338 : Value) (xs348 : List Value), E 0 = v1 ∧ E 3 = v228 ∧ E 4 = Value.map (some b1) ∧ E 5 = Value.int .i64 xv53 ∧ E 6 = v338 ∧ E 14 = Value.int .i64 (out1.length : Int) ∧ E 15 = Value.int .i64 xv53 ∧ E 21 = v1 ∧ E 22 = Value.int .i64 (l1.length : Int) ∧ E 23 = Value.int .i64 xv77 ∧ E.ds = [] ∧ Hle gg306 gg312 ∧ RowRel (tInt .u8) gg312 xs348 key311 ∧ Go.Lx.Sep g0 w0 gg312 w [.row v338 5 (tInt .u8).sz key311.length xs348, .obj b1 (.map es33 ck33), .row v228 3 (tInt .i64).sz out19.length xs235]) ?_ ?_
      ·have hM := hx102
       refine WP_block <| WP_seq <| WP_region <| O (r_move (v := Value.int .i64 xv77) rfl) rfl ?_
       obtain ⟨e144, he144, hM⟩ := bindS hM
       obtain ⟨b442, ob442, cb442, hvb442, cs287, hcs287, hcb442⟩ := hRv1.at he144
       have hcs287 : cs287 = _ := hcs287; subst hcs287
       refine O (r_idxSl Tryd.underlying40 ti24 (v := v1) rfl hvb442 rfl (idxL_some he144).1 (idxL_some he144).2.1) rfl <| O (r_loadEl (cs := e144.1.map (Value.int .u64)) ti24 rfl (by simp [e144.2]) (.inl rfl) (hcb442 _ hs.imm) (v := encV .u64 e144) rfl) rfl <| OW_alloc ti24 hs (zs := (Vec.zero 4).1.map (Value.int .u64)) rfl rfl ?_
       intro b443 wv620 hs
       refine O (r_assign (v := Value.int .i64 xv77) rfl) rfl <| OW_storeAll ti24 hs (i := 0) rfl rfl (v := encV .u64 e144) rfl (vs := e144.1.map (Value.int .u64)) rfl vec_one (by simp [e144.2]) (by simp [e144.2, (Vec.zero 4).2]) ?_
       intro wv621 hs
       refine OW_nil <| WP_seq <| WP_region <| O (r_loadN (cs := e144.1.map (Value.int .u64)) ti24 rfl (by simp [e144.2]) (hs.cells (i := 0) rfl)) rfl <| O (r_move (v := Value.int .i64 xv53) rfl) rfl <| O (r_conv Tryd.underlying3 Tryd.underlying5 rfl) rfl ?_
       obtain ⟨rv144, hrv144, hM⟩ := bindS hM
       refine C [encV .u64 e144, Value.int .u8 (IntKind.u8.wrap xv53)] cf15 rfl (byteset_Has_ok hrv144 hs.imm) rfl ?_
       rintro v339 wv622 ⟨gg313, hvv339, hegg313⟩
       have hlegg313 := hegg313.le hs.imm
       replace hs := hs.call hegg313
       replace hrelxs342 := hrelxs342.mono hlegg313
       replace hagg306 := hagg306.trans hlegg313
       obtain ⟨cs288, rfl, hcs288⟩ := hvv339
       have hcs288 : cs288 = _ := hcs288; subst hcs288
       refine OW_nil ?_
       rcases condS hM with ⟨hc244, hM⟩ | ⟨hc244, hM⟩
       ·refine WP_true rfl hc244 <| WP_region <| O (r_move (v := v332) rfl) rfl <| O (r_move (v := Value.int .i64 xv77) rfl) rfl ?_
        obtain ⟨key312, hkey312, hM⟩ := bindS hM
        obtain ⟨b444, cb444, hvb444, wv623, xs349, hstb444, hrelb444, hsb444⟩ := hs.rowPut (i := 1) rfl hrelxs342 hkey312 (cs := [Value.int .u8 1]) rfl
        refine O (r_idxSl Tryd.underlying25 ti5 (v := v332) rfl hvb444 rfl (setL_some hkey312).1 (setL_some hkey312).2.1) rfl <| O0 (r_store ti5 rfl (v := Value.int .u8 1) rfl rfl hstb444) ?_
        have hs := hsb444
        refine OW_nil ?_
        obtain rfl := Option.some.inj hM
        exact ⟨gg313, v332, xs349, rfl, rfl, rfl, rfl, rfl, rfl, rfl, rfl, rfl, rfl, hds, hagg306, hrelb444, (hs.sub (.cons _ (.cons_cons _ (.cons_cons _ (.cons_cons _ .slnil)))))⟩
       ·refine WP_false rfl hc244 <| WP_skip ?_
        obtain rfl := Option.some.inj hM
        exact ⟨gg313, v332, xs342, rfl, rfl, rfl, rfl, rfl, rfl, rfl, rfl, rfl, rfl, hds, hagg306, hrelxs342, (hs.sub (.cons _ (.cons_cons _ (.cons_cons _ (.cons_cons _ .slnil)))))⟩
      ·clear hs
       rintro E w ⟨gg312, v338, xs348, hE0, hE3, hE4, hE5, hE6, hE14, hE15, hE21, hE22, hE23, hds, hlegg312, hrelxs348, hs⟩
       have hM := hKhx102
       obtain ⟨E, rfl⟩ := open8 (E := E) hE0 hE3 hE4 hE5 hE6 hE14 hE15 hE21
       obtain ⟨E, rfl⟩ := open2 (E := E) hE22 hE23
       replace hlegg306 := hlegg306.trans hlegg312
       refine WP_region ?_
       obtain ⟨t77, ht77, hM⟩ := bindS hM
       refine O (r_addM rfl rfl ht77) rfl <| O (r_move (v := Value.int .i64 t77) rfl) rfl <| OW_nil ?_
       obtain rfl := Option.some.inj hM
       exact ⟨gg312, v338, xs348, rfl, rfl, rfl, rfl, rfl, rfl, rfl, rfl, rfl, rfl, hds, hlegg306, hrelxs348, hs⟩
     ·refine WP_false rfl hc242 <| WP_exit ?_
      obtain rfl := Option.some.inj hM
      refine fun hr => ?_
      have hM := congrArg some hr
      obtain rfl := Option.some.inj hM
      exact ⟨gg306, v332, xs342, v228, xs235, rfl, rfl, rfl, rfl, rfl, rfl, rfl, hds, hlegg306, hrelxs342, hrelxs235, hs⟩
    ·clear hs
     rintro E w ⟨gg301, v327, xs337, v326, xs336, hE0, hE3, hE4, hE5, hE6, hE14, hE15, hds, hlegg301, hrelxs337, hrelxs336, hs⟩
     have hM := hKhx99
     obtain ⟨E, rfl⟩ := open7 (E := E) hE0 hE3 hE4 hE5 hE6 hE14 hE15
     replace hagg210 := hagg210.trans hlegg301
     refine WP_seq <| WP_region <| O (r_move (v := Value.map (some b1)) rfl) rfl <| O (r_move (v := v327) rfl) rfl <| O (r_toStr (l := key300) Tryd.underlying25 Tryd.underlying5 Tryd.underlying9 (v := v327) rfl (hs.rowSrc (i := 0) rfl) hrelxs337) rfl <| O (r_lookup (z := 0) (kk := (toStr key300)) Tryd.underlying43 ti3 (keyLaw_str Tryd.underlying9) hs (i := 1) rfl hmes33 rfl rfl) rfl <| O (r_move (v := Value.tuple #[Value.int .i64 ((mget m17 (toStr key300)).getD 0), Value.bool ((mget m17 (toStr key300)).isSome)]) rfl) rfl <| O (r_extract (vs := [Value.int .i64 ((mget m17 (toStr key300)).getD 0), Value.bool ((mget m17 (toStr key300)).isSome)]) (v := Value.int .i64 ((mget m17 (toStr key300)).getD 0)) rfl rfl) rfl ?_
     refine O (r_extract (vs := [Value.int .i64 ((mget m17 (toStr key300)).getD 0), Value.bool ((mget m17 (toStr key300)).isSome)]) (v := Value.bool ((mget m17 (toStr key300)).isSome)) rfl rfl) rfl <| O (r_assign (v := Value.int .i64 ((mget m17 (toStr key300)).getD 0)) rfl) rfl <| O (r_assign (v := Value.bool ((mget m17 (toStr key300)).isSome)) rfl) rfl <| OW_nil ?_
     obtain ⟨⟨m24, nv12⟩, hx103, hKhx103⟩ := bindS hM
     refine WP_cut (fun E w => ∃ (es47 : Array MapEntry) (ck47 : Nat), E 0 = v1 ∧ E 3 = v326 ∧ E 4 = Value.map (some b1) ∧ E 5 = Value.int .i64 xv53 ∧ E 9 = Value.int .i64 nv12 ∧ E 14 = Value.int .i64 (out1.length : Int) ∧ E 15 = Value.int .i64 xv53 ∧ E.ds = [] ∧ MRel encS (Value.int .i64) es47 m24 ∧ Go.Lx.Sep g0 w0 gg301 w [.obj b1 (.map es47 ck47), .row v326 3 (tInt .i64).sz out19.length xs336]) ?_ ?_
     ·have hM := hx103
      have hagg301 := Hle.refl gg301
      refine WP_seq <| WP_region <| O (r_move (v := Value.bool ((mget m17 (toStr key300)).isSome)) rfl) rfl <| O (r_not rfl) rfl <| OW_nil ?_
      rcases condS hM with ⟨hc246, hM⟩ | ⟨hc246, hM⟩
      ·refine WP_true rfl hc246 <| WP_seq <| WP_region <| O (r_move (v := Value.map (some b1)) rfl) rfl <| O (r_lenMap Tryd.underlying43 hs (i := 1) rfl hmes33 rfl) rfl <| O (r_assign (v := Value.int .i64 (m17.length : Int)) rfl) rfl <| OW_nil <| WP_region <| O (r_move (v := Value.map (some b1)) rfl) rfl <| O (r_move (v := v327) rfl) rfl <| O (r_toStr (l := key300) Tryd.underlying25 Tryd.underlying5 Tryd.underlying9 (v := v327) rfl (hs.rowSrc (i := 0) rfl) hrelxs337) rfl <| O (r_move (v := Value.int .i64 (m17.length : Int)) rfl) rfl <| OW_mapSet (kk := (toStr key300)) (vv := (m17.length : Int)) Tryd.underlying43 (keyLaw_str Tryd.underlying9) hs (i := 1) rfl hmes33 rfl rfl rfl ?_
       intro es48 ck48 wv625 hmes48 hs
       refine OW_nil ?_
       simp only [Option.some.injEq, Prod.mk.injEq] at hM
       obtain ⟨rfl, rfl⟩ := hM
       exact ⟨es48, ck48, rfl, rfl, rfl, rfl, rfl, rfl, rfl, hds, hmes48, (hs.sub (.cons _ (.cons_cons _ (.cons_cons _ .slnil))))⟩
      ·refine WP_false rfl hc246 <| WP_skip ?_
       simp only [Option.some.injEq, Prod.mk.injEq] at hM
       obtain ⟨rfl, rfl⟩ := hM
       exact ⟨es33, ck33, rfl, rfl, rfl, rfl, rfl, rfl, rfl, hds, hmes33, (hs.sub (.cons _ (.cons_cons _ (.cons_cons _ .slnil))))⟩
     ·clear hs
      rintro E w ⟨es47, ck47, hE0, hE3, hE4, hE5, hE9, hE14, hE15, hds, hmes47, hs⟩
      have hM := hKhx103
      obtain ⟨E, rfl⟩ := open7 (E := E) hE0 hE3 hE4 hE5 hE9 hE14 hE15
      refine WP_region <| O (r_move (v := v326) rfl) rfl <| O (r_move (v := Value.int .i64 xv53) rfl) rfl <| O (r_move (v := Value.int .i64 nv12) rfl) rfl ?_
      obtain ⟨out26, hout26, hM⟩ := bindS hM
      obtain ⟨b445, cb445, hvb445, wv626, xs350, hstb445, hrelb445, hsb445⟩ := hs.rowPut (i := 1) rfl hrelxs336 hout26 (cs := [Value.int .i64 nv12]) rfl
      refine O (r_idxSl Tryd.underlying37 ti3 (v := v326) rfl hvb445 rfl (setL_some hout26).1 (setL_some hout26).2.1) rfl <| O0 (r_store ti3 rfl (v := Value.int .i64 nv12) rfl rfl hstb445) ?_
      have hs := hsb445
      refine OW_nil ?_
      simp only [Option.some.injEq, Prod.mk.injEq] at hM
      obtain ⟨rfl, rfl⟩ := hM
      exact ⟨gg301, es47, ck47, v326, xs350, rfl, rfl, rfl, rfl, rfl, hds, hagg210, hmes47, hrelb445, hs⟩
   ·clear hs
    rintro E w ⟨gg288, es45, ck45, v312, xs322, hE0, hE3, hE4, hE14, hE15, hds, hlegg288, hmes45, hrelxs322, hs⟩
    have hM := hKhx95
    obtain ⟨E, rfl⟩ := open5 (E := E) hE0 hE3 hE4 hE14 hE15
    replace hlegg210 := hlegg210.trans hlegg288
    refine WP_region ?_
    obtain ⟨t78, ht78, hM⟩ := bindS hM
    refine O (r_addM rfl rfl ht78) rfl <| O (r_move (v := Value.int .i64 t78) rfl) rfl <| OW_nil ?_
    obtain rfl := Option.some.inj hM
    exact ⟨gg288, es45, ck45, v312, xs322, rfl, rfl, rfl, rfl, rfl, hds, hlegg210, hmes45, hrelxs322, hs⟩
  ·refine WP_false rfl hc206 <| WP_exit ?_
   obtain rfl := Option.some.inj hM
   refine fun hr => ?_
   have hM := congrArg some hr
   obtain rfl := Option.some.inj hM
   exact ⟨gg210, v228, xs235, rfl, hds, hlegg210, hrelxs235, (hs.sub (.cons _ (.cons_cons _ .slnil)))⟩
 ·clear hs
  rintro E w ⟨gg157, v171, xs176, hE3, hds, hlegg157, hrelxs176, hs⟩
  have hM := hKhx52
  obtain ⟨E, rfl⟩ := open1 (E := E) hE3
  refine WP_seq <| WP_region <| O (r_move (v := v171) rfl) rfl <| O (r_assign (v := v171) rfl) rfl <| OW_nil <| WP_ret ?_
  obtain rfl := Option.some.inj hM
  refine FL_nil hds ?_
  exact ⟨_, res1 Tryd.results13 (rv_tmp (v := v171) rfl), gg157, xs176, hrelxs176, hs⟩

set_option maxRecDepth 100000 in
theorem law07_awake_ok {r : Bool} (hM : M.law07_awake = some r) {g0 : Hp} {w0 : World} (hi : Imm g0 w0) :
    CallsV Tryd.prog 8 #[] w0 (fun v w' => ∃ g', (VRd tBool false g' v r) ∧ Ext g0 w0 g' w') := by
 unfold M.law07_awake at hM
 have hs := Sep.start hi
 refine calls_of_WP (args := []) Tryd.func8 rfl Tryd.ntmps8 rfl ?_
 have hds : (argEnv []).ds = [] := rfl
 refine WP_seq <| WP_region <| O (r_assign (v := Value.bool false) rfl) rfl <| OW_nil <| WP_seq <| WP_region ?_
 obtain ⟨rv1, hrv1, hM⟩ := bindS hM
 refine C [Value.int .u8 97, Value.int .u8 99] cf12 rfl (byteset_Range_ok hrv1 hs.imm) rfl ?_
 rintro v1 wv1 ⟨gg1, hvv1, hegg1⟩
 have hlegg1 := hegg1.le hs.imm
 replace hs := hs.call hegg1
 obtain ⟨cs1, rfl, hcs1⟩ := hvv1
 have hcs1 : cs1 = _ := hcs1; subst hcs1
 refine OW_alloc ti24 hs (zs := (Vec.zero 4).1.map (Value.int .u64)) rfl rfl ?_
 intro b1 wv2 hs
 refine OW_storeAll ti24 hs (i := 0) rfl rfl (v := encV .u64 rv1) rfl (vs := rv1.1.map (Value.int .u64)) rfl vec_one (by simp [rv1.2]) (by simp [rv1.2, (Vec.zero 4).2]) ?_
 intro wv3 hs
 refine OW_nil <| WP_seq <| WP_region ?_
 obtain ⟨rv2, hrv2, hM⟩ := bindS hM
 refine C [encS [97, 98]] cf14 rfl (byteset_Of_ok hrv2 hs.imm) rfl ?_
 rintro v2 wv4 ⟨gg2, hvv2, hegg2⟩
 have hlegg2 := hegg2.le hs.imm
 replace hs := hs.call hegg2
 obtain ⟨cs2, rfl, hcs2⟩ := hvv2
 have hcs2 : cs2 = _ := hcs2; subst hcs2
 obtain ⟨rv3, hrv3, hM⟩ := bindS hM
 refine C [encS [98, 99]] cf14 rfl (byteset_Of_ok hrv3 hs.imm) rfl ?_
 rintro v3 wv5 ⟨gg3, hvv3, hegg3⟩
 have hlegg3 := hegg3.le hs.imm
 replace hs := hs.call hegg3
 obtain ⟨cs3, rfl, hcs3⟩ := hvv3
 have hcs3 : cs3 = _ := hcs3; subst hcs3
 refine OW_lit (τ := (tVec 4 .u64)) [encV .u64 rv2, encV .u64 rv3] [rv2, rv3] Tryd.underlying40 ti24 (by decide) hs rfl rfl rfl ⟨rfl, rfl, trivial⟩ rfl ?_
 intro v4 wv6 xs1 hrelxs1 hs
 have hsL1 := hs
 obtain ⟨gg4, hlegg4, hRgg4, hs⟩ := hs.relRow (i := 0) rfl hrelxs1
 obtain ⟨c1, hc1, hM⟩ := bindS hM
 refine C [v4] cf13 rfl (byteset_Classes_ok hc1 hs.imm hRgg4) rfl ?_
 rintro v5 wv7 ⟨gg5, xs2, hvv5, hegg5⟩
 obtain ⟨gg6, hlegg6, hs⟩ := hsL1.lentOwn hegg5
 simp only [List.cons_append, List.nil_append] at hs
 have hvv5 : RowRel (tInt .i64) gg6 xs2 c1 := RowRel.flat (fun _ _ _ _ h => h) hvv5
 refine O (r_assign (v := v5) rfl) rfl <| OW_nil ?_
 obtain ⟨xv1, hx1, hKhx1⟩ := bindS hM
 refine WP_cut (fun E w => ∃ (gg12 : Hp), E 0 = Value.bool xv1 ∧ E.ds = [] ∧ Hle gg6 gg12 ∧ Go.Lx.Sep g0 w0 gg12 w []) ?_ ?_
 ·have hM := hx1
  have hagg6 := Hle.refl gg6
  refine WP_region <| O (r_loadN (cs := rv1.1.map (Value.int .u64)) ti24 rfl (by simp [rv1.2]) (hs.cells (i := 2) rfl)) rfl ?_
  obtain ⟨rv9, hrv9, hM⟩ := bindS hM
  refine C [encV .u64 rv1] cf5 rfl (byteset_Len_ok hrv9 hs.imm) rfl ?_
  rintro v11 wv13 ⟨gg13, hvv11, hegg13⟩
  have hlegg13 := hegg13.le hs.imm
  replace hs := hs.call hegg13
  replace hvv5 := hvv5.mono hlegg13
  replace hagg6 := hagg6.trans hlegg13
  obtain ⟨cs14, rfl, hcs14⟩ := hvv11
  have hcs14 : cs14 = _ := hcs14; subst hcs14
  refine O (r_eql rfl rfl) rfl <| O (r_move (v := Value.bool (rv9 == 3)) rfl) rfl ?_
  rcases condS hM with ⟨hg10, hM⟩ | ⟨hg10, hM⟩
  ·refine OG rfl rfl rfl (by rw [hg10]; rfl) (r_loadN (cs := rv1.1.map (Value.int .u64)) ti24 rfl (by simp [rv1.2]) (hs.cells (i := 2) rfl)) rfl ?_
   obtain ⟨rv10, hrv10, hM⟩ := bindS hM
   refine CG rfl rfl rfl (by rw [hg10]; rfl) [encV .u64 rv1, Value.int .u8 98] cf15 rfl (byteset_Has_ok hrv10 hs.imm) rfl ?_
   rintro v12 wv14 ⟨gg14, hvv12, hegg14⟩
   have hlegg14 := hegg14.le hs.imm
   replace hs := hs.call hegg14
   replace hvv5 := hvv5.mono hlegg14
   replace hagg6 := hagg6.trans hlegg14
   obtain ⟨cs15, rfl, hcs15⟩ := hvv12
   have hcs15 : cs15 = _ := hcs15; subst hcs15
   refine O (r_pickT (v := Value.bool rv10) rfl hg10 rfl) rfl <| O (r_move (v := Value.bool rv10) rfl) rfl ?_
   rcases condS hM with ⟨hg11, hM⟩ | ⟨hg11, hM⟩
   ·refine OG rfl rfl rfl (by rw [hg11]; rfl) (r_loadN (cs := rv1.1.map (Value.int .u64)) ti24 rfl (by simp [rv1.2]) (hs.cells (i := 2) rfl)) rfl ?_
    obtain ⟨rv11, hrv11, hM⟩ := bindS hM
    refine CG rfl rfl rfl (by rw [hg11]; rfl) [encV .u64 rv1, Value.int .u8 100] cf15 rfl (byteset_Has_ok hrv11 hs.imm) rfl ?_
    rintro v13 wv15 ⟨gg15, hvv13, hegg15⟩
    have hlegg15 := hegg15.le hs.imm
    replace hs := hs.call hegg15
    replace hvv5 := hvv5.mono hlegg15
    replace hagg6 := hagg6.trans hlegg15
    obtain ⟨cs16, rfl, hcs16⟩ := hvv13
    have hcs16 : cs16 = _ := hcs16; subst hcs16
    refine OG rfl rfl rfl (by rw [hg11]; rfl) (r_not rfl) rfl <| O (r_pickT (v := Value.bool (!rv11)) rfl hg11 rfl) rfl <| O (r_move (v := Value.bool (!rv11)) rfl) rfl ?_
    rcases condS hM with ⟨hg12, hM⟩ | ⟨hg12, hM⟩
    ·obtain ⟨rv12, hrv12, hM⟩ := bindS hM
     refine CG rfl rfl rfl (by rw [hg12]; rfl) [Value.int .u8 99, Value.int .u8 97] cf12 rfl (byteset_Range_ok hrv12 hs.imm) rfl ?_
     rintro v14 wv16 ⟨gg16, hvv14, hegg16⟩
     have hlegg16 := hegg16.le hs.imm
     replace hs := hs.call hegg16
     replace hvv5 := hvv5.mono hlegg16
     replace hagg6 := hagg6.trans hlegg16
     obtain ⟨cs17, rfl, hcs17⟩ := hvv14
     have hcs17 : cs17 = _ := hcs17; subst hcs17
     obtain ⟨rv13, hrv13, hM⟩ := bindS hM
     refine CG rfl rfl rfl (by rw [hg12]; rfl) [encV .u64 rv12] cf5 rfl (byteset_Len_ok hrv13 hs.imm) rfl ?_
     rintro v15 wv17 ⟨gg17, hvv15, hegg17⟩
     have hlegg17 := hegg17.le hs.imm
     replace hs := hs.call hegg17
     replace hvv5 := hvv5.mono hlegg17
     replace hagg6 := hagg6.trans hlegg17
     obtain ⟨cs18, rfl, hcs18⟩ := hvv15
     have hcs18 : cs18 = _ := hcs18; subst hcs18
     refine OG rfl rfl rfl (by rw [hg12]; rfl) (r_eql rfl rfl) rfl <| O (r_pickT (v := Value.bool (rv13 == 0)) rfl hg12 rfl) rfl <| O (r_move (v := Value.bool (rv13 == 0)) rfl) rfl ?_
     rcases condS hM with ⟨hg13, hM⟩ | ⟨hg13, hM⟩
     ·refine OG rfl rfl rfl (by rw [hg13]; rfl) (r_move (v := v5) rfl) rfl ?_
      obtain ⟨a2, ca2, hva2⟩ := hs.rowShape (i := 0) rfl
      refine OG rfl rfl rfl (by rw [hg13]; rfl) (r_lenSl (v := v5) Tryd.underlying37 rfl hva2) rfl <| OG rfl rfl rfl (by rw [hg13]; rfl) (r_eql rfl rfl) rfl <| O (r_pickT (v := Value.bool ((c1.length : Int) == 256)) rfl hg13 rfl) rfl <| O (r_move (v := Value.bool ((c1.length : Int) == 256)) rfl) rfl ?_
      rcases condS hM with ⟨hg14, hM⟩ | ⟨hg14, hM⟩
      ·refine OG rfl rfl rfl (by rw [hg14]; rfl) (r_move (v := v5) rfl) rfl ?_
       obtain ⟨e6, he6, hM⟩ := bindS hM
       obtain ⟨b7, cb7, hvb7, cs19, hcs19, hcb7⟩ := hs.rowEl (i := 0) rfl hvv5 he6
       have hcs19 : cs19 = _ := hcs19; subst hcs19
       refine OG rfl rfl rfl (by rw [hg14]; rfl) (r_idxSl Tryd.underlying37 ti3 (v := v5) rfl hvb7 rfl (idxL_some he6).1 (idxL_some he6).2.1) rfl <| OG rfl rfl rfl (by rw [hg14]; rfl) (r_loadEl (cs := [Value.int .i64 e6]) ti3 rfl rfl (.inr rfl) (hcb7 _ (hs.at (i := 0) rfl)) (v := Value.int .i64 e6) rfl) rfl <| OG rfl rfl rfl (by rw [hg14]; rfl) (r_eql rfl rfl) rfl <| O (r_pickT (v := Value.bool (e6 == 0)) rfl hg14 rfl) rfl <| O (r_move (v := Value.bool (e6 == 0)) rfl) rfl ?_
       rcases condS hM with ⟨hg15, hM⟩ | ⟨hg15, hM⟩
       ·refine OG rfl rfl rfl (by rw [hg15]; rfl) (r_move (v := v5) rfl) rfl ?_
        obtain ⟨e7, he7, hM⟩ := bindS hM
        obtain ⟨b8, cb8, hvb8, cs20, hcs20, hcb8⟩ := hs.rowEl (i := 0) rfl hvv5 he7
        have hcs20 : cs20 = _ := hcs20; subst hcs20
        refine OG rfl rfl rfl (by rw [hg15]; rfl) (r_idxSl Tryd.underlying37 ti3 (v := v5) rfl hvb8 rfl (idxL_some he7).1 (idxL_some he7).2.1) rfl <| OG rfl rfl rfl (by rw [hg15]; rfl) (r_loadEl (cs := [Value.int .i64 e7]) ti3 rfl rfl (.inr rfl) (hcb8 _ (hs.at (i := 0) rfl)) (v := Value.int .i64 e7) rfl) rfl <| OG rfl rfl rfl (by rw [hg15]; rfl) (r_eql rfl rfl) rfl <| O (r_pickT (v := Value.bool (e7 == 1)) rfl hg15 rfl) rfl <| O (r_move (v := Value.bool (e7 == 1)) rfl) rfl ?_
        rcases condS hM with ⟨hg16, hM⟩ | ⟨hg16, hM⟩
        ·refine OG rfl rfl rfl (by rw [hg16]; rfl) (r_move (v := v5) rfl) rfl ?_
         obtain ⟨e8, he8, hM⟩ := bindS hM
         obtain ⟨b9, cb9, hvb9, cs21, hcs21, hcb9⟩ := hs.rowEl (i := 0) rfl hvv5 he8
         have hcs21 : cs21 = _ := hcs21; subst hcs21
         refine OG rfl rfl rfl (by rw [hg16]; rfl) (r_idxSl Tryd.underlying37 ti3 (v := v5) rfl hvb9 rfl (idxL_some he8).1 (idxL_some he8).2.1) rfl <| OG rfl rfl rfl (by rw [hg16]; rfl) (r_loadEl (cs := [Value.int .i64 e8]) ti3 rfl rfl (.inr rfl) (hcb9 _ (hs.at (i := 0) rfl)) (v := Value.int .i64 e8) rfl) rfl <| OG rfl rfl rfl (by rw [hg16]; rfl) (r_eql rfl rfl) rfl <| O (r_pickT (v := Value.bool (e8 == 2)) rfl hg16 rfl) rfl <| O (r_move (v := Value.bool (e8 == 2)) rfl) rfl ?_
         rcases condS hM with ⟨hg17, hM⟩ | ⟨hg17, hM⟩
         ·refine OG rfl rfl rfl (by rw [hg17]; rfl) (r_move (v := v5) rfl) rfl ?_
          obtain ⟨e9, he9, hM⟩ := bindS hM
          obtain ⟨b10, cb10, hvb10, cs22, hcs22, hcb10⟩ := hs.rowEl (i := 0) rfl hvv5 he9
          have hcs22 : cs22 = _ := hcs22; subst hcs22
          refine OG rfl rfl rfl (by rw [hg17]; rfl) (r_idxSl Tryd.underlying37 ti3 (v := v5) rfl hvb10 rfl (idxL_some he9).1 (idxL_some he9).2.1) rfl <| OG rfl rfl rfl (by rw [hg17]; rfl) (r_loadEl (cs := [Value.int .i64 e9]) ti3 rfl rfl (.inr rfl) (hcb10 _ (hs.at (i := 0) rfl)) (v := Value.int .i64 e9) rfl) rfl <| OG rfl rfl rfl (by rw [hg17]; rfl) (r_eql rfl rfl) rfl <| O (r_pickT (v := Value.bool (e9 == 3)) rfl hg17 rfl) rfl <| O (r_move (v := Value.bool (e9 == 3)) rfl) rfl ?_
          rcases condS hM with ⟨hg18, hM⟩ | ⟨hg18, hM⟩
          ·refine OG rfl rfl rfl (by rw [hg18]; rfl) (r_move (v := v5) rfl) rfl ?_
           obtain ⟨e10, he10, hM⟩ := bindS hM
           obtain ⟨b11, cb11, hvb11, cs23, hcs23, hcb11⟩ := hs.rowEl (i := 0) rfl hvv5 he10
           have hcs23 : cs23 = _ := hcs23; subst hcs23
           refine OG rfl rfl rfl (by rw [hg18]; rfl) (r_idxSl Tryd.underlying37 ti3 (v := v5) rfl hvb11 rfl (idxL_some he10).1 (idxL_some he10).2.1) rfl <| OG rfl rfl rfl (by rw [hg18]; rfl) (r_loadEl (cs := [Value.int .i64 e10]) ti3 rfl rfl (.inr rfl) (hcb11 _ (hs.at (i := 0) rfl)) (v := Value.int .i64 e10) rfl) rfl <| OG rfl rfl rfl (by rw [hg18]; rfl) (r_eql rfl rfl) rfl <| O (r_pickT (v := Value.bool (e10 == 0)) rfl hg18 rfl) rfl <| O (r_assign (v := Value.bool (e10 == 0)) rfl) rfl <| OW_nil ?_
           obtain rfl := Option.some.inj hM
           exact ⟨gg17, rfl, hds, hagg6, (hs.sub (.cons _ (.cons _ (.cons _ .slnil))))⟩
          ·refine OK rfl rfl rfl (by rw [hg18]; rfl) rfl <| OK rfl rfl rfl (by rw [hg18]; rfl) rfl <| OK rfl rfl rfl (by rw [hg18]; rfl) rfl <| OK rfl rfl rfl (by rw [hg18]; rfl) rfl <| O (r_pickF (v := Value.bool false) rfl hg18 rfl) rfl <| O (r_assign (v := Value.bool false) rfl) rfl <| OW_nil ?_
           obtain rfl := Option.some.inj hM
           exact ⟨gg17, rfl, hds, hagg6, (hs.sub (.cons _ (.cons _ (.cons _ .slnil))))⟩
         ·refine OK rfl rfl rfl (by rw [hg17]; rfl) rfl <| OK rfl rfl rfl (by rw [hg17]; rfl) rfl <| OK rfl rfl rfl (by rw [hg17]; rfl) rfl <| OK rfl rfl rfl (by rw [hg17]; rfl) rfl <| O (r_pickF (v := Value.bool false) rfl hg17 rfl) rfl <| O (r_move (v := Value.bool false) rfl) rfl <| OK rfl rfl rfl rfl rfl <| OK rfl rfl rfl rfl rfl <| OK rfl rfl rfl rfl rfl <| OK rfl rfl rfl rfl rfl <| O (r_pickF (v := Value.bool false) rfl rfl rfl) rfl <| O (r_assign (v := Value.bool false) rfl) rfl <| OW_nil ?_
          obtain rfl := Option.some.inj hM
          exact ⟨gg17, rfl, hds, hagg6, (hs.sub (.cons _ (.cons _ (.cons _ .slnil))))⟩
        ·refine OK rfl rfl rfl (by rw [hg16]; rfl) rfl <| OK rfl rfl rfl (by rw [hg16]; rfl) rfl <| OK rfl rfl rfl (by rw [hg16]; rfl) rfl <| OK rfl rfl rfl (by rw [hg16]; rfl) rfl <| O (r_pickF (v := Value.bool false) rfl hg16 rfl) rfl <| O (r_move (v := Value.bool false) rfl) rfl <| OK rfl rfl rfl rfl rfl <| OK rfl rfl rfl rfl rfl <| OK rfl rfl rfl rfl rfl <| OK rfl rfl rfl rfl rfl <| O (r_pickF (v := Value.bool false) rfl rfl rfl) rfl <| O (r_move (v := Value.bool false) rfl) rfl <| OK rfl rfl rfl rfl rfl <| OK rfl rfl rfl rfl rfl <| OK rfl rfl rfl rfl rfl <| OK rfl rfl rfl rfl rfl <| O (r_pickF (v := Value.bool false) rfl rfl rfl) rfl <| O (r_assign (v := Value.bool false) rfl) rfl <| OW_nil ?_
         obtain rfl := Option.some.inj hM
         exact ⟨gg17, rfl, hds, hagg6, (hs.sub (.cons _ (.cons _ (.cons _ .slnil))))⟩
       ·refine OK rfl rfl rfl (by rw [hg15]; rfl) rfl <| OK rfl rfl rfl (by rw [hg15]; rfl) rfl <| OK rfl rfl rfl (by rw [hg15]; rfl) rfl <| OK rfl rfl rfl (by rw [hg15]; rfl) rfl <| O (r_pickF (v := Value.bool false) rfl hg15 rfl) rfl <| O (r_move (v := Value.bool false) rfl) rfl <| OK rfl rfl rfl rfl rfl <| OK rfl rfl rfl rfl rfl <| OK rfl rfl rfl rfl rfl <| OK rfl rfl rfl rfl rfl <| O (r_pickF (v := Value.bool false) rfl rfl rfl) rfl <| O (r_move (v := Value.bool false) rfl) rfl <| OK rfl rfl rfl rfl rfl <| OK rfl rfl rfl rfl rfl <| OK rfl rfl rfl rfl rfl <| OK rfl rfl rfl rfl rfl <| O (r_pickF (v := Value.bool false) rfl rfl rfl) rfl <| O (r_move (v := Value.bool false) rfl) rfl <| OK rfl rfl rfl rfl rfl ?_
        refine OK rfl rfl rfl rfl rfl <| OK rfl rfl rfl rfl rfl <| OK rfl rfl rfl rfl rfl <| O (r_pickF (v := Value.bool false) rfl rfl rfl) rfl <| O (r_assign (v := Value.bool false) rfl) rfl <| OW_nil ?_
        obtain rfl := Option.some.inj hM
        exact ⟨gg17, rfl, hds, hagg6, (hs.sub (.cons _ (.cons _ (.cons _ .slnil))))⟩
      ·refine OK rfl rfl rfl (by rw [hg14]; rfl) rfl <| OK rfl rfl rfl (by rw [hg14]; rfl) rfl <| OK rfl rfl rfl (by rw [hg14]; rfl) rfl <| OK rfl rfl rfl (by rw [hg14]; rfl) rfl <| O (r_pickF (v := Value.bool false) rfl hg14 rfl) rfl <| O (r_move (v := Value.bool false) rfl) rfl <| OK rfl rfl rfl rfl rfl <| OK rfl rfl rfl rfl rfl <| OK rfl rfl rfl rfl rfl <| OK rfl rfl rfl rfl rfl <| O (r_pickF (v := Value.bool false) rfl rfl rfl) rfl <| O (r_move (v := Value.bool false) rfl) rfl <| OK rfl rfl rfl rfl rfl <| OK rfl rfl rfl rfl rfl <| OK rfl rfl rfl rfl rfl <| OK rfl rfl rfl rfl rfl <| O (r_pickF (v := Value.bool false) rfl rfl rfl) rfl <| O (r_move (v := Value.bool false) rfl) rfl <| OK rfl rfl rfl rfl rfl ?_
       refine OK rfl rfl rfl rfl rfl <| OK rfl rfl rfl rfl rfl <| OK rfl rfl rfl rfl rfl <| O (r_pickF (v := Value.bool false) rfl rfl rfl) rfl <| O (r_move (v := Value.bool false) rfl) rfl <| OK rfl rfl rfl rfl rfl <| OK rfl rfl rfl rfl rfl <| OK rfl rfl rfl rfl rfl <| OK rfl rfl rfl rfl rfl <| O (r_pickF (v := Value.bool false) rfl rfl rfl) rfl <| O (r_assign (v := Value.bool false) rfl) rfl <| OW_nil ?_
       obtain rfl := Option.some.inj hM
       exact ⟨gg17, rfl, hds, hagg6, (hs.sub (.cons _ (.cons _ (.cons _ .slnil))))⟩
     ·refine OK rfl rfl rfl (by rw [hg13]; rfl) rfl <| OK rfl rfl rfl (by rw [hg13]; rfl) rfl <| OK rfl rfl rfl (by rw [hg13]; rfl) rfl <| O (r_pickF (v := Value.bool false) rfl hg13 rfl) rfl <| O (r_move (v := Value.bool false) rfl) rfl <| OK rfl rfl rfl rfl rfl <| OK rfl rfl rfl rfl rfl <| OK rfl rfl rfl rfl rfl <| OK rfl rfl rfl rfl rfl <| O (r_pickF (v := Value.bool false) rfl rfl rfl) rfl <| O (r_move (v := Value.bool false) rfl) rfl <| OK rfl rfl rfl rfl rfl <| OK rfl rfl rfl rfl rfl <| OK rfl rfl rfl rfl rfl <| OK rfl rfl rfl rfl rfl <| O (r_pickF (v := Value.bool false) rfl rfl rfl) rfl <| O (r_move (v := Value.bool false) rfl) rfl <| OK rfl rfl rfl rfl rfl <| OK rfl rfl rfl rfl rfl <| OK rfl rfl rfl rfl rfl ?_
      refine OK rfl rfl rfl rfl rfl <| O (r_pickF (v := Value.bool false) rfl rfl rfl) rfl <| O (r_move (v := Value.bool false) rfl) rfl <| OK rfl rfl rfl rfl rfl <| OK rfl rfl rfl rfl rfl <| OK rfl rfl rfl rfl rfl <| OK rfl rfl rfl rfl rfl <| O (r_pickF (v := Value.bool false) rfl rfl rfl) rfl <| O (r_move (v := Value.bool false) rfl) rfl <| OK rfl rfl rfl rfl rfl <| OK rfl rfl rfl rfl rfl <| OK rfl rfl rfl rfl rfl <| OK rfl rfl rfl rfl rfl <| O (r_pickF (v := Value.bool false) rfl rfl rfl) rfl <| O (r_assign (v := Value.bool false) rfl) rfl <| OW_nil ?_
      obtain rfl := Option.some.inj hM
      exact ⟨gg17, rfl, hds, hagg6, (hs.sub (.cons _ (.cons _ (.cons _ .slnil))))⟩
    ·refine OK rfl rfl rfl (by rw [hg12]; rfl) rfl <| OK rfl rfl rfl (by rw [hg12]; rfl) rfl <| OK rfl rfl rfl (by rw [hg12]; rfl) rfl <| O (r_pickF (v := Value.bool false) rfl hg12 rfl) rfl <| O (r_move (v := Value.bool false) rfl) rfl <| OK rfl rfl rfl rfl rfl <| OK rfl rfl rfl rfl rfl <| OK rfl rfl rfl rfl rfl <| O (r_pickF (v := Value.bool false) rfl rfl rfl) rfl <| O (r_move (v := Value.bool false) rfl) rfl <| OK rfl rfl rfl rfl rfl <| OK rfl rfl rfl rfl rfl <| OK rfl rfl rfl rfl rfl <| OK rfl rfl rfl rfl rfl <| O (r_pickF (v := Value.bool false) rfl rfl rfl) rfl <| O (r_move (v := Value.bool false) rfl) rfl <| OK rfl rfl rfl rfl rfl <| OK rfl rfl rfl rfl rfl <| OK rfl rfl rfl rfl rfl <| OK rfl rfl rfl rfl rfl ?_
     refine O (r_pickF (v := Value.bool false) rfl rfl rfl) rfl <| O (r_move (v := Value.bool false) rfl) rfl <| OK rfl rfl rfl rfl rfl <| OK rfl rfl rfl rfl rfl <| OK rfl rfl rfl rfl rfl <| OK rfl rfl rfl rfl rfl <| O (r_pickF (v := Value.bool false) rfl rfl rfl) rfl <| O (r_move (v := Value.bool false) rfl) rfl <| OK rfl rfl rfl rfl rfl <| OK rfl rfl rfl rfl rfl <| OK rfl rfl rfl rfl rfl <| OK rfl rfl rfl rfl rfl <| O (r_pickF (v := Value.bool false) rfl rfl rfl) rfl <| O (r_move (v := Value.bool false) rfl) rfl <| OK rfl rfl rfl rfl rfl <| OK rfl rfl rfl rfl rfl <| OK rfl rfl rfl rfl rfl <| OK rfl rfl rfl rfl rfl <| O (r_pickF (v := Value.bool false) rfl rfl rfl) rfl <| O (r_assign (v := Value.bool false) rfl) rfl ?_
     refine OW_nil ?_
     obtain rfl := Option.some.inj hM
     exact ⟨gg15, rfl, hds, hagg6, (hs.sub (.cons _ (.cons _ (.cons _ .slnil))))⟩
   ·refine OK rfl rfl rfl (by rw [hg11]; rfl) rfl <| OK rfl rfl rfl (by rw [hg11]; rfl) rfl <| OK rfl rfl rfl (by rw [hg11]; rfl) rfl <| O (r_pickF (v := Value.bool false) rfl hg11 rfl) rfl <| O (r_move (v := Value.bool false) rfl) rfl <| OK rfl rfl rfl rfl rfl <| OK rfl rfl rfl rfl rfl <| OK rfl rfl rfl rfl rfl <| O (r_pickF (v := Value.bool false) rfl rfl rfl) rfl <| O (r_move (v := Value.bool false) rfl) rfl <| OK rfl rfl rfl rfl rfl <| OK rfl rfl rfl rfl rfl <| OK rfl rfl rfl rfl rfl <| O (r_pickF (v := Value.bool false) rfl rfl rfl) rfl <| O (r_move (v := Value.bool false) rfl) rfl <| OK rfl rfl rfl rfl rfl <| OK rfl rfl rfl rfl rfl <| OK rfl rfl rfl rfl rfl <| OK rfl rfl rfl rfl rfl <| O (r_pickF (v := Value.bool false) rfl rfl rfl) rfl ?_
    refine O (r_move (v := Value.bool false) rfl) rfl <| OK rfl rfl rfl rfl rfl <| OK rfl rfl rfl rfl rfl <| OK rfl rfl rfl rfl rfl <| OK rfl rfl rfl rfl rfl <| O (r_pickF (v := Value.bool false) rfl rfl rfl) rfl <| O (r_move (v := Value.bool false) rfl) rfl <| OK rfl rfl rfl rfl rfl <| OK rfl rfl rfl rfl rfl <| OK rfl rfl rfl rfl rfl <| OK rfl rfl rfl rfl rfl <| O (r_pickF (v := Value.bool false) rfl rfl rfl) rfl <| O (r_move (v := Value.bool false) rfl) rfl <| OK rfl rfl rfl rfl rfl <| OK rfl rfl rfl rfl rfl <| OK rfl rfl rfl rfl rfl <| OK rfl rfl rfl rfl rfl <| O (r_pickF (v := Value.bool false) rfl rfl rfl) rfl <| O (r_move (v := Value.bool false) rfl) rfl <| OK rfl rfl rfl rfl rfl <| OK rfl rfl rfl rfl rfl ?_
    refine OK rfl rfl rfl rfl rfl <| OK rfl rfl rfl rfl rfl <| O (r_pickF (v := Value.bool false) rfl rfl rfl) rfl <| O (r_assign (v := Value.bool false) rfl) rfl <| OW_nil ?_
    obtain rfl := Option.some.inj hM
    exact ⟨gg14, rfl, hds, hagg6, (hs.sub (.cons _ (.cons _ (.cons _ .slnil))))⟩
  ·refine OK rfl rfl rfl (by rw [hg10]; rfl) rfl <| OK rfl rfl rfl (by rw [hg10]; rfl) rfl <| O (r_pickF (v := Value.bool false) rfl hg10 rfl) rfl <| O (r_move (v := Value.bool false) rfl) rfl <| OK rfl rfl rfl rfl rfl <| OK rfl rfl rfl rfl rfl <| OK rfl rfl rfl rfl rfl <| O (r_pickF (v := Value.bool false) rfl rfl rfl) rfl <| O (r_move (v := Value.bool false) rfl) rfl <| OK rfl rfl rfl rfl rfl <| OK rfl rfl rfl rfl rfl <| OK rfl rfl rfl rfl rfl <| O (r_pickF (v := Value.bool false) rfl rfl rfl) rfl <| O (r_move (v := Value.bool false) rfl) rfl <| OK rfl rfl rfl rfl rfl <| OK rfl rfl rfl rfl rfl <| OK rfl rfl rfl rfl rfl <| O (r_pickF (v := Value.bool false) rfl rfl rfl) rfl <| O (r_move (v := Value.bool false) rfl) rfl ?_
   refine OK rfl rfl rfl rfl rfl <| OK rfl rfl rfl rfl rfl <| OK rfl rfl rfl rfl rfl <| OK rfl rfl rfl rfl rfl <| O (r_pickF (v := Value.bool false) rfl rfl rfl) rfl <| O (r_move (v := Value.bool false) rfl) rfl <| OK rfl rfl rfl rfl rfl <| OK rfl rfl rfl rfl rfl <| OK rfl rfl rfl rfl rfl <| OK rfl rfl rfl rfl rfl <| O (r_pickF (v := Value.bool false) rfl rfl rfl) rfl <| O (r_move (v := Value.bool false) rfl) rfl <| OK rfl rfl rfl rfl rfl <| OK rfl rfl rfl rfl rfl <| OK rfl rfl rfl rfl rfl <| OK rfl rfl rfl rfl rfl <| O (r_pickF (v := Value.bool false) rfl rfl rfl) rfl <| O (r_move (v := Value.bool false) rfl) rfl <| OK rfl rfl rfl rfl rfl <| OK rfl rfl rfl rfl rfl <| OK rfl rfl rfl rfl rfl <| OK rfl rfl rfl rfl rfl ?_
   refine O (r_pickF (v := Value.bool false) rfl rfl rfl) rfl <| O (r_move (v := Value.bool false) rfl) rfl <| OK rfl rfl rfl rfl rfl <| OK rfl rfl rfl rfl rfl <| OK rfl rfl rfl rfl rfl <| OK rfl rfl rfl rfl rfl <| O (r_pickF (v := Value.bool false) rfl rfl rfl) rfl <| O (r_assign (v := Value.bool false) rfl) rfl <| OW_nil ?_
   obtain rfl := Option.some.inj hM
   exact ⟨gg13, rfl, hds, hagg6, (hs.sub (.cons _ (.cons _ (.cons _ .slnil))))⟩
 ·clear hs
  rintro E w ⟨gg12, hE0, hds, hlegg12, hs⟩
  have hM := hKhx1
  obtain ⟨E, rfl⟩ := open1 (E := E) hE0
  refine WP_ret ?_
  obtain rfl := Option.some.inj hM
  refine FL_nil hds ?_
  exact ⟨_, res1 Tryd.results8 (rv_tmp (v := Value.bool xv1) rfl), gg12, ⟨[Value.bool xv1], rfl, rfl⟩, hs.ext⟩


end Go.Proofs.YtjjinpgjfabemaaDoor
