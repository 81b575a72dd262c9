/- The walks: what each function does is what its model says. Printed by a program of my own. -/
import Derived.Test.YtjdmfabmacdpgaaTyp
set_option linter.unusedVariables false
set_option linter.unusedSimpArgs false
namespace Go.Proofs.Ytjdmfabmacdpgaa
open Go.Lx Go.RowKit
set_option maxRecDepth 100000 in
theorem ref14_Distance_ok {p1 : Str} {p2 : Str} {r : Int} (hM : M.ref14_Distance p1 p2 = some r) {g0 : Hp} {w0 : World} (hi : Imm g0 w0) :
    CallsV Try.prog 8 #[encS p1, encS p2] w0 (fun v w' => ∃ g', (VRd (tInt .i64) false g' v r) ∧ Ext g0 w0 g' w') := by
 unfold M.ref14_Distance at hM
 have hs := Sep.start hi
 refine calls_of_WP (args := [encS p1, encS p2]) Try.func8 rfl Try.ntmps8 rfl ?_
 have hds : (argEnv [encS p1, encS p2]).ds = [] := rfl
 refine WP_seq <| WP_region <| O (r_assign (v := Value.int .i64 0) rfl) rfl <| OW_nil <| WP_seq <| WP_region <| O (r_move (v := encS p1) rfl) rfl <| O (r_lenStr Try.underlying9 rfl) rfl ?_
 obtain ⟨t1, ht1, hM⟩ := bindS hM
 refine O (r_addM rfl rfl ht1) rfl ?_
 obtain ⟨l1, hl1, hM⟩ := bindS hM
 refine OW_makeG (τ := (tInt .i64)) (eI := 3) (A := []) (B := []) Try.underlying42 ti41 rfl (by decide) hs rfl rfl hl1 rfl ?_
 intro v1 wv1 xs1 G1 hGG1 hs
 replace hs : Go.Lx.Sep g0 w0 g0 _ (.row v1 41 1 l1.length xs1 :: (G1 ++ [])) := hs
 refine O (r_assign (v := v1) rfl) rfl <| OW_nil ?_
 obtain ⟨l11, hx130, hKhx130⟩ := bindS hM
 refine WP_cut (fun E w => ∃ (v50 : Value) (xs344 : List Value) (G158 : List Res), E 0 = encS p1 ∧ E 1 = encS p2 ∧ E 5 = v50 ∧ E.ds = [] ∧ GRel (iRow (tInt .i64) 3) g0 xs344 l11 G158 ∧ Go.Lx.Sep g0 w0 g0 w (.row v50 41 1 l11.length xs344 :: (G158 ++ []))) ?_ ?_
 ·have hM := hx130
  have hag0 := Hle.refl g0
  refine WP_seq <| WP_region <| O (r_assign (v := Value.int .i64 0) rfl) rfl <| OW_nil <| WP_block <| WP_loop (fun (st9 : (List (List Int)) × Int) E w => match st9 with | (l15, xv173) => ∃ (v67 : Value) (xs459 : List Value) (G211 : List Res), E 0 = encS p1 ∧ E 1 = encS p2 ∧ E 5 = v67 ∧ E 6 = Value.int .i64 xv173 ∧ E.ds = [] ∧ GRel (iRow (tInt .i64) 3) g0 xs459 l15 G211 ∧ Go.Lx.Sep g0 w0 g0 w (.row v67 41 1 l15.length xs459 :: (G211 ++ []))) hM ⟨v1, xs1, G1, rfl, rfl, rfl, rfl, hds, hGG1, hs⟩ ?_
  clear hs hM
  rintro ⟨l15, xv173⟩ o12 E w hM ⟨v67, xs459, G211, hE0, hE1, hE5, hE6, hds, hGG211, hs⟩
  obtain ⟨E, rfl⟩ := open4 (E := E) hE0 hE1 hE5 hE6
  refine WP_seq <| WP_seq <| WP_region <| O (r_move (v := Value.int .i64 xv173) rfl) rfl <| O (r_move (v := encS p1) rfl) rfl <| O (r_lenStr Try.underlying9 rfl) rfl <| O (r_leq rfl rfl) rfl <| OW_nil ?_
  rcases condS hM with ⟨hc276, hM⟩ | ⟨hc276, hM⟩
  ·refine WP_true rfl hc276 <| WP_skip ?_
   obtain ⟨y479, hx238, hKhx238⟩ := bindS hM
   refine WP_cut (fun E w => ∃ (v91 : Value) (xs630 : List Value) (G289 : List Res), E 0 = encS p1 ∧ E 1 = encS p2 ∧ E 5 = v91 ∧ E 6 = Value.int .i64 xv173 ∧ E.ds = [] ∧ GRel (iRow (tInt .i64) 3) g0 xs630 y479 G289 ∧ Go.Lx.Sep g0 w0 g0 w (.row v91 41 1 y479.length xs630 :: (G289 ++ []))) ?_ ?_
   ·have hM := hx238
    refine WP_block <| WP_seq <| WP_region <| O (r_move (v := v67) rfl) rfl <| O (r_move (v := Value.int .i64 xv173) rfl) rfl <| O (r_move (v := encS p2) rfl) rfl <| O (r_lenStr Try.underlying9 rfl) rfl ?_
    obtain ⟨t1125, ht1125, hM⟩ := bindS hM
    refine O (r_addM rfl rfl ht1125) rfl ?_
    obtain ⟨l20, hl20, hM⟩ := bindS hM
    refine OW_make (τ := (tInt .i64)) (zc := [Value.int .i64 0]) (zx := 0) Try.underlying41 ti3 rfl rfl (by decide) hs rfl rfl hl20 rfl ?_
    intro v92 wv222 xs631 hrelxs631 hs
    obtain ⟨y480, hy480, hM⟩ := bindS hM
    have hob1068 := one_of_shape (hs.rowShape (i := 0) rfl)
    obtain ⟨b1068, cb1068, hvb1068, wv223, xs632, G290, hstb1068, hGG290, hsb1068⟩ := Sep.gridSet (A := [.row v92 3 (tInt .i64).sz l20.length xs631, .row v67 41 1 l15.length xs459]) (B := []) hs hGG211 (i := 1) (j := 0) rfl rfl (by decide) hrelxs631 hy480
    refine O (r_idxSl Try.underlying42 ti41 (v := v67) rfl hvb1068 rfl (setL_some hy480).1 (setL_some hy480).2.1) rfl <| O0 (r_storeS ti41 rfl (v := v92) rfl hob1068 hstb1068) ?_
    have hs := hsb1068
    replace hs : Go.Lx.Sep g0 w0 g0 _ (.row v67 41 1 y480.length xs632 :: (G290 ++ [])) := hs
    refine OW_nil <| WP_seq <| WP_region <| O (r_assign (v := Value.int .i64 0) rfl) rfl <| OW_nil <| WP_block <| WP_loop (fun (st9 : (List (List Int)) × Int) E w => match st9 with | (y495, xv245) => ∃ (v95 : Value) (xs651 : List Value) (G299 : List Res), E 0 = encS p1 ∧ E 1 = encS p2 ∧ E 5 = v95 ∧ E 6 = Value.int .i64 xv173 ∧ E 7 = Value.int .i64 xv245 ∧ E.ds = [] ∧ GRel (iRow (tInt .i64) 3) g0 xs651 y495 G299 ∧ Go.Lx.Sep g0 w0 g0 w (.row v95 41 1 y495.length xs651 :: (G299 ++ []))) hM ⟨v67, xs632, G290, rfl, rfl, rfl, rfl, rfl, hds, hGG290, hs⟩ ?_
    clear hs hM
    rintro ⟨y495, xv245⟩ o14 E w hM ⟨v95, xs651, G299, hE0, hE1, hE5, hE6, hE7, hds, hGG299, hs⟩
    obtain ⟨E, rfl⟩ := open5 (E := E) hE0 hE1 hE5 hE6 hE7
    refine WP_seq <| WP_seq <| WP_region <| O (r_move (v := Value.int .i64 xv245) rfl) rfl <| O (r_move (v := encS p2) rfl) rfl <| O (r_lenStr Try.underlying9 rfl) rfl <| O (r_leq rfl rfl) rfl <| OW_nil ?_
    rcases condS hM with ⟨hc322, hM⟩ | ⟨hc322, hM⟩
    ·refine WP_true rfl hc322 <| WP_skip ?_
     obtain ⟨y516, hx256, hKhx256⟩ := bindS hM
     refine WP_cut (fun E w => ∃ (v98 : Value) (xs678 : List Value) (G311 : List Res), E 0 = encS p1 ∧ E 1 = encS p2 ∧ E 5 = v98 ∧ E 6 = Value.int .i64 xv173 ∧ E 7 = Value.int .i64 xv245 ∧ E.ds = [] ∧ GRel (iRow (tInt .i64) 3) g0 xs678 y516 G311 ∧ Go.Lx.Sep g0 w0 g0 w (.row v98 41 1 y516.length xs678 :: (G311 ++ []))) ?_ ?_
     ·have hM := hx256
      refine WP_block <| WP_seq ?_
      obtain ⟨xv256, hx257, hKhx257⟩ := bindS hM
      refine WP_cut (fun E w => E 0 = encS p1 ∧ E 1 = encS p2 ∧ E 5 = v95 ∧ E 6 = Value.int .i64 xv173 ∧ E 7 = Value.int .i64 xv245 ∧ E 37 = Value.bool xv256 ∧ E.ds = [] ∧ Go.Lx.Sep g0 w0 g0 w (.row v95 41 1 y495.length xs651 :: (G299 ++ []))) ?_ ?_
      ·have hM := hx257
       refine WP_region <| O (r_move (v := Value.int .i64 xv173) rfl) rfl <| O (r_eql rfl rfl) rfl <| O (r_move (v := Value.bool (xv173 == 0)) rfl) rfl ?_
       rcases condS hM with ⟨hg554, hM⟩ | ⟨hg554, hM⟩
       ·refine OK rfl rfl rfl (by rw [hg554]; rfl) rfl <| OK rfl rfl rfl (by rw [hg554]; rfl) rfl <| O (r_pickT (v := Value.bool true) rfl hg554 rfl) rfl <| OW_nil ?_
        obtain rfl := Option.some.inj hM
        exact ⟨rfl, rfl, rfl, rfl, rfl, rfl, hds, hs⟩
       ·refine OG rfl rfl rfl (by rw [hg554]; rfl) (r_move (v := Value.int .i64 xv245) rfl) rfl <| OG rfl rfl rfl (by rw [hg554]; rfl) (r_eql rfl rfl) rfl <| O (r_pickF (v := Value.bool (xv245 == 0)) rfl hg554 rfl) rfl <| OW_nil ?_
        obtain rfl := Option.some.inj hM
        exact ⟨rfl, rfl, rfl, rfl, rfl, rfl, hds, hs⟩
      ·clear hs
       rintro E w ⟨hE0, hE1, hE5, hE6, hE7, hE37, hds, hs⟩
       have hM := hKhx257
       obtain ⟨E, rfl⟩ := open6 (E := E) hE0 hE1 hE5 hE6 hE7 hE37
       rcases condS hM with ⟨hc327, hM⟩ | ⟨hc327, hM⟩
       ·refine WP_true rfl hc327 <| WP_seq <| WP_region <| O (r_move (v := v95) rfl) rfl <| O (r_move (v := Value.int .i64 xv173) rfl) rfl ?_
        obtain ⟨e711, he711, hM⟩ := bindS hM
        obtain ⟨b1149, cb1149, hvb1149, u569, rv569, hxu569, hguu569, hinu569, hcb1149⟩ := hs.gridAt (i := 0) rfl hGG299 he711
        obtain ⟨hshu569, xs679, rfl, hrelxs679⟩ := hinu569
        refine O (r_idxSl Try.underlying42 ti41 (v := v95) rfl hvb1149 rfl (idxL_some he711).1 (idxL_some he711).2.1) rfl <| O (r_loadEl (cs := [u569]) ti41 rfl rfl (.inr rfl) (hcb1149 _ (hs.at (i := 0) rfl)) (v := u569) rfl) rfl <| O (r_move (v := Value.int .i64 xv245) rfl) rfl <| O (r_move (v := Value.int .i64 xv173) rfl) rfl <| O (r_move (v := Value.int .i64 xv245) rfl) rfl ?_
        obtain ⟨t1213, ht1213, hM⟩ := bindS hM
        refine O (r_addM rfl rfl ht1213) rfl ?_
        obtain ⟨y517, hy517, hM⟩ := bindS hM
        obtain ⟨y518, hy518, hM⟩ := bindS hM
        obtain ⟨b1150, cb1150, hvb1150, wv239, G312, hstb1150, hGG312, hlenb1150, hsb1150⟩ := Sep.gridPut (A := [.row v95 41 1 y495.length xs651]) (B := []) hs hGG299 hxu569 hguu569 hrelxs679 hy517 hy518 (cs := [Value.int .i64 t1213]) rfl
        refine O (r_idxSl Try.underlying41 ti3 (v := u569) rfl hvb1150 rfl (setL_some hy517).1 (setL_some hy517).2.1) rfl <| O0 (r_store ti3 rfl (v := Value.int .i64 t1213) rfl rfl hstb1150) ?_
        have hs := hsb1150
        replace hs : Go.Lx.Sep g0 w0 g0 wv239 (.row v95 41 1 y518.length xs651 :: (G312 ++ [])) := by rw [hlenb1150]; exact hs
        refine OW_nil <| WP_exit ?_
        obtain rfl := Option.some.inj hM
        exact ⟨v95, xs651, G312, rfl, rfl, rfl, rfl, rfl, hds, hGG312, hs⟩
       ·refine WP_false rfl hc327 <| WP_skip <| WP_seq <| WP_region <| O (r_assign (v := Value.int .i64 1) rfl) rfl <| OW_nil ?_
        obtain ⟨xv257, hx258, hKhx258⟩ := bindS hM
        refine WP_cut (fun E w => E 0 = encS p1 ∧ E 1 = encS p2 ∧ E 5 = v95 ∧ E 6 = Value.int .i64 xv173 ∧ E 7 = Value.int .i64 xv245 ∧ E 8 = Value.int .i64 xv257 ∧ E.ds = [] ∧ Go.Lx.Sep g0 w0 g0 w (.row v95 41 1 y495.length xs651 :: (G299 ++ []))) ?_ ?_
        ·have hM := hx258
         refine WP_seq <| WP_draw mo (by decide +kernel) ?_
         have hs := hs.drew
         refine S (r_move (v := encS p1) rfl) rfl <| S (r_move (v := Value.int .i64 xv173) rfl) rfl ?_
         obtain ⟨t1216, ht1216, hM⟩ := bindS hM
         refine S (r_subM rfl rfl ht1216) rfl ?_
         obtain ⟨c855, hc855, hM⟩ := bindS hM
         refine S (r_idxStr Try.underlying9 rfl rfl hc855) rfl <| S (r_move (v := encS p2) rfl) rfl <| S (r_move (v := Value.int .i64 xv245) rfl) rfl ?_
         obtain ⟨t1217, ht1217, hM⟩ := bindS hM
         refine S (r_subM rfl rfl ht1217) rfl ?_
         obtain ⟨c856, hc856, hM⟩ := bindS hM
         refine S (r_idxStr Try.underlying9 rfl rfl hc856) rfl <| S (r_eql rfl rfl) rfl <| SW_nil ?_
         rcases condS hM with ⟨hc329, hM⟩ | ⟨hc329, hM⟩
         ·refine WP_true rfl hc329 <| WP_region <| O (r_assign (v := Value.int .i64 0) rfl) rfl <| OW_nil ?_
          obtain rfl := Option.some.inj hM
          exact ⟨rfl, rfl, rfl, rfl, rfl, rfl, hds, hs⟩
         ·refine WP_false rfl hc329 <| WP_skip ?_
          obtain rfl := Option.some.inj hM
          exact ⟨rfl, rfl, rfl, rfl, rfl, rfl, hds, hs⟩
        ·clear hs
         rintro E w ⟨hE0, hE1, hE5, hE6, hE7, hE8, hds, hs⟩
         have hM := hKhx258
         obtain ⟨E, rfl⟩ := open6 (E := E) hE0 hE1 hE5 hE6 hE7 hE8
         refine WP_seq <| WP_drawTail 36 mo (by decide +kernel) ?_
         have hs := hs.drew
         refine S (r_move (v := v95) rfl) rfl <| S (r_move (v := Value.int .i64 xv173) rfl) rfl ?_
         obtain ⟨e712, he712, hM⟩ := bindS hM
         obtain ⟨b1151, cb1151, hvb1151, u570, rv570, hxu570, hguu570, hinu570, hcb1151⟩ := hs.gridAt (i := 0) rfl hGG299 he712
         obtain ⟨hshu570, xs680, rfl, hrelxs680⟩ := hinu570
         refine S (r_idxSl Try.underlying42 ti41 (v := v95) rfl hvb1151 rfl (idxL_some he712).1 (idxL_some he712).2.1) rfl <| S (r_loadEl (cs := [u570]) ti41 rfl rfl (.inr rfl) (hcb1151 _ (hs.at (i := 0) rfl)) (v := u570) rfl) rfl <| S (r_move (v := Value.int .i64 xv245) rfl) rfl <| S (r_move (v := v95) rfl) rfl <| S (r_move (v := Value.int .i64 xv173) rfl) rfl ?_
         obtain ⟨t1218, ht1218, hM⟩ := bindS hM
         refine S (r_subM rfl rfl ht1218) rfl ?_
         obtain ⟨e713, he713, hM⟩ := bindS hM
         obtain ⟨b1152, cb1152, hvb1152, u571, rv571, hxu571, hguu571, hinu571, hcb1152⟩ := hs.gridAt (i := 0) rfl hGG299 he713
         obtain ⟨hshu571, xs681, rfl, hrelxs681⟩ := hinu571
         refine S (r_idxSl Try.underlying42 ti41 (v := v95) rfl hvb1152 rfl (idxL_some he713).1 (idxL_some he713).2.1) rfl <| S (r_loadEl (cs := [u571]) ti41 rfl rfl (.inr rfl) (hcb1152 _ (hs.at (i := 0) rfl)) (v := u571) rfl) rfl <| S (r_move (v := Value.int .i64 xv245) rfl) rfl ?_
         obtain ⟨e714, he714, hM⟩ := bindS hM
         obtain ⟨b1153, cb1153, hvb1153, cs356, hcs356, hcb1153⟩ := hs.rowEl (gget (A := [.row v95 41 1 y495.length xs651]) (B := []) hguu571) hrelxs681 he714
         have hcs356 : cs356 = _ := hcs356; subst hcs356
         refine S (r_idxSl Try.underlying41 ti3 (v := u571) rfl hvb1153 rfl (idxL_some he714).1 (idxL_some he714).2.1) rfl <| S (r_loadEl (cs := [Value.int .i64 e714]) ti3 rfl rfl (.inr rfl) (hcb1153 _ (hs.at (gget (A := [.row v95 41 1 y495.length xs651]) (B := []) hguu571))) (v := Value.int .i64 e714) rfl) rfl ?_
         obtain ⟨t1219, ht1219, hM⟩ := bindS hM
         refine S (r_addM rfl rfl ht1219) rfl <| S (r_move (v := v95) rfl) rfl <| S (r_move (v := Value.int .i64 xv173) rfl) rfl ?_
         obtain ⟨b1154, cb1154, hvb1154, u572, rv572, hxu572, hguu572, hinu572, hcb1154⟩ := hs.gridAt (i := 0) rfl hGG299 he712
         obtain ⟨hshu572, xs682, rfl, hrelxs682⟩ := hinu572
         refine S (r_idxSl Try.underlying42 ti41 (v := v95) rfl hvb1154 rfl (idxL_some he712).1 (idxL_some he712).2.1) rfl <| S (r_loadEl (cs := [u572]) ti41 rfl rfl (.inr rfl) (hcb1154 _ (hs.at (i := 0) rfl)) (v := u572) rfl) rfl <| S (r_move (v := Value.int .i64 xv245) rfl) rfl ?_
         obtain ⟨t1220, ht1220, hM⟩ := bindS hM
         refine S (r_subM rfl rfl ht1220) rfl ?_
         obtain ⟨e715, he715, hM⟩ := bindS hM
         obtain ⟨b1155, cb1155, hvb1155, cs357, hcs357, hcb1155⟩ := hs.rowEl (gget (A := [.row v95 41 1 y495.length xs651]) (B := []) hguu572) hrelxs682 he715
         have hcs357 : cs357 = _ := hcs357; subst hcs357
         refine S (r_idxSl Try.underlying41 ti3 (v := u572) rfl hvb1155 rfl (idxL_some he715).1 (idxL_some he715).2.1) rfl <| S (r_loadEl (cs := [Value.int .i64 e715]) ti3 rfl rfl (.inr rfl) (hcb1155 _ (hs.at (gget (A := [.row v95 41 1 y495.length xs651]) (B := []) hguu572))) (v := Value.int .i64 e715) rfl) rfl ?_
         obtain ⟨t1221, ht1221, hM⟩ := bindS hM
         refine S (r_addM rfl rfl ht1221) rfl <| S (r_move (v := v95) rfl) rfl <| S (r_move (v := Value.int .i64 xv173) rfl) rfl <| S (r_subM rfl rfl ht1218) rfl ?_
         obtain ⟨b1156, cb1156, hvb1156, u573, rv573, hxu573, hguu573, hinu573, hcb1156⟩ := hs.gridAt (i := 0) rfl hGG299 he713
         obtain ⟨hshu573, xs683, rfl, hrelxs683⟩ := hinu573
         refine S (r_idxSl Try.underlying42 ti41 (v := v95) rfl hvb1156 rfl (idxL_some he713).1 (idxL_some he713).2.1) rfl <| S (r_loadEl (cs := [u573]) ti41 rfl rfl (.inr rfl) (hcb1156 _ (hs.at (i := 0) rfl)) (v := u573) rfl) rfl <| S (r_move (v := Value.int .i64 xv245) rfl) rfl <| S (r_subM rfl rfl ht1220) rfl ?_
         obtain ⟨e716, he716, hM⟩ := bindS hM
         obtain ⟨b1157, cb1157, hvb1157, cs358, hcs358, hcb1157⟩ := hs.rowEl (gget (A := [.row v95 41 1 y495.length xs651]) (B := []) hguu573) hrelxs683 he716
         have hcs358 : cs358 = _ := hcs358; subst hcs358
         refine S (r_idxSl Try.underlying41 ti3 (v := u573) rfl hvb1157 rfl (idxL_some he716).1 (idxL_some he716).2.1) rfl <| S (r_loadEl (cs := [Value.int .i64 e716]) ti3 rfl rfl (.inr rfl) (hcb1157 _ (hs.at (gget (A := [.row v95 41 1 y495.length xs651]) (B := []) hguu573))) (v := Value.int .i64 e716) rfl) rfl <| S (r_move (v := Value.int .i64 xv257) rfl) rfl ?_
         obtain ⟨t1222, ht1222, hM⟩ := bindS hM
         refine S (r_addM rfl rfl ht1222) rfl <| S (r_min3 rfl rfl rfl) rfl ?_
         obtain ⟨y519, hy519, hM⟩ := bindS hM
         obtain ⟨y520, hy520, hM⟩ := bindS hM
         obtain ⟨b1158, cb1158, hvb1158, wv240, G313, hstb1158, hGG313, hlenb1158, hsb1158⟩ := Sep.gridPut (A := [.row v95 41 1 y495.length xs651]) (B := []) hs hGG299 hxu570 hguu570 hrelxs680 hy519 hy520 (cs := [Value.int .i64 (min3 t1219 t1221 t1222)]) rfl
         refine S (r_idxSl Try.underlying41 ti3 (v := u570) rfl hvb1158 rfl (setL_some hy519).1 (setL_some hy519).2.1) rfl <| SW_nil <| O0 (r_store ti3 rfl (v := Value.int .i64 (min3 t1219 t1221 t1222)) rfl rfl hstb1158) ?_
         have hs := hsb1158
         replace hs : Go.Lx.Sep g0 w0 g0 wv240 (.row v95 41 1 y520.length xs651 :: (G313 ++ [])) := by rw [hlenb1158]; exact hs
         refine OW_nil ?_
         obtain ⟨xv258, hx259, hKhx259⟩ := bindS hM
         refine WP_cut (fun E w => E 0 = encS p1 ∧ E 1 = encS p2 ∧ E 5 = v95 ∧ E 6 = Value.int .i64 xv173 ∧ E 7 = Value.int .i64 xv245 ∧ E 119 = Value.bool xv258 ∧ E.ds = [] ∧ Go.Lx.Sep g0 w0 g0 w (.row v95 41 1 y520.length xs651 :: (G313 ++ []))) ?_ ?_
         ·have hM := hx259
          refine WP_draw mo (by decide +kernel) ?_
          have hs := hs.drew
          refine S (r_move (v := Value.int .i64 xv173) rfl) rfl <| S (r_gtr rfl rfl) rfl <| S (r_move (v := Value.bool (decide (1 < xv173))) rfl) rfl ?_
          rcases condS hM with ⟨hg558, hM⟩ | ⟨hg558, hM⟩
          ·refine SG rfl rfl rfl (by rw [hg558]; rfl) (r_move (v := Value.int .i64 xv245) rfl) rfl <| SG rfl rfl rfl (by rw [hg558]; rfl) (r_gtr rfl rfl) rfl <| S (r_pickT (v := Value.bool (decide (1 < xv245))) rfl hg558 rfl) rfl <| S (r_move (v := Value.bool (decide (1 < xv245))) rfl) rfl ?_
           rcases condS hM with ⟨hg559, hM⟩ | ⟨hg559, hM⟩
           ·refine SG rfl rfl rfl (by rw [hg559]; rfl) (r_move (v := encS p1) rfl) rfl <| SG rfl rfl rfl (by rw [hg559]; rfl) (r_move (v := Value.int .i64 xv173) rfl) rfl <| SG rfl rfl rfl (by rw [hg559]; rfl) (r_subM rfl rfl ht1218) rfl ?_
            obtain ⟨c861, hc861, hM⟩ := bindS hM
            refine SG rfl rfl rfl (by rw [hg559]; rfl) (r_idxStr Try.underlying9 rfl rfl hc861) rfl <| SG rfl rfl rfl (by rw [hg559]; rfl) (r_move (v := encS p2) rfl) rfl <| SG rfl rfl rfl (by rw [hg559]; rfl) (r_move (v := Value.int .i64 xv245) rfl) rfl ?_
            obtain ⟨t1225, ht1225, hM⟩ := bindS hM
            refine SG rfl rfl rfl (by rw [hg559]; rfl) (r_subM rfl rfl ht1225) rfl ?_
            obtain ⟨c862, hc862, hM⟩ := bindS hM
            refine SG rfl rfl rfl (by rw [hg559]; rfl) (r_idxStr Try.underlying9 rfl rfl hc862) rfl <| SG rfl rfl rfl (by rw [hg559]; rfl) (r_eql rfl rfl) rfl <| S (r_pickT (v := Value.bool (c861 == c862)) rfl hg559 rfl) rfl <| S (r_move (v := Value.bool (c861 == c862)) rfl) rfl ?_
            rcases condS hM with ⟨hg560, hM⟩ | ⟨hg560, hM⟩
            ·refine SG rfl rfl rfl (by rw [hg560]; rfl) (r_move (v := encS p1) rfl) rfl <| SG rfl rfl rfl (by rw [hg560]; rfl) (r_move (v := Value.int .i64 xv173) rfl) rfl ?_
             obtain ⟨t1226, ht1226, hM⟩ := bindS hM
             refine SG rfl rfl rfl (by rw [hg560]; rfl) (r_subM rfl rfl ht1226) rfl ?_
             obtain ⟨c863, hc863, hM⟩ := bindS hM
             refine SG rfl rfl rfl (by rw [hg560]; rfl) (r_idxStr Try.underlying9 rfl rfl hc863) rfl <| SG rfl rfl rfl (by rw [hg560]; rfl) (r_move (v := encS p2) rfl) rfl <| SG rfl rfl rfl (by rw [hg560]; rfl) (r_move (v := Value.int .i64 xv245) rfl) rfl <| SG rfl rfl rfl (by rw [hg560]; rfl) (r_subM rfl rfl ht1220) rfl ?_
             obtain ⟨c864, hc864, hM⟩ := bindS hM
             refine SG rfl rfl rfl (by rw [hg560]; rfl) (r_idxStr Try.underlying9 rfl rfl hc864) rfl <| SG rfl rfl rfl (by rw [hg560]; rfl) (r_eql rfl rfl) rfl <| S (r_pickT (v := Value.bool (c863 == c864)) rfl hg560 rfl) rfl <| SW_nil ?_
             obtain rfl := Option.some.inj hM
             exact ⟨rfl, rfl, rfl, rfl, rfl, rfl, hds, hs⟩
            ·refine SK rfl rfl rfl (by rw [hg560]; rfl) rfl <| SK rfl rfl rfl (by rw [hg560]; rfl) rfl <| SK rfl rfl rfl (by rw [hg560]; rfl) rfl <| SK rfl rfl rfl (by rw [hg560]; rfl) rfl <| SK rfl rfl rfl (by rw [hg560]; rfl) rfl <| SK rfl rfl rfl (by rw [hg560]; rfl) rfl <| SK rfl rfl rfl (by rw [hg560]; rfl) rfl <| SK rfl rfl rfl (by rw [hg560]; rfl) rfl <| SK rfl rfl rfl (by rw [hg560]; rfl) rfl <| S (r_pickF (v := Value.bool false) rfl hg560 rfl) rfl <| SW_nil ?_
             obtain rfl := Option.some.inj hM
             exact ⟨rfl, rfl, rfl, rfl, rfl, rfl, hds, hs⟩
           ·refine SK rfl rfl rfl (by rw [hg559]; rfl) rfl <| SK rfl rfl rfl (by rw [hg559]; rfl) rfl <| SK rfl rfl rfl (by rw [hg559]; rfl) rfl <| SK rfl rfl rfl (by rw [hg559]; rfl) rfl <| SK rfl rfl rfl (by rw [hg559]; rfl) rfl <| SK rfl rfl rfl (by rw [hg559]; rfl) rfl <| SK rfl rfl rfl (by rw [hg559]; rfl) rfl <| SK rfl rfl rfl (by rw [hg559]; rfl) rfl <| SK rfl rfl rfl (by rw [hg559]; rfl) rfl <| S (r_pickF (v := Value.bool false) rfl hg559 rfl) rfl <| S (r_move (v := Value.bool false) rfl) rfl <| SK rfl rfl rfl rfl rfl <| SK rfl rfl rfl rfl rfl <| SK rfl rfl rfl rfl rfl <| SK rfl rfl rfl rfl rfl <| SK rfl rfl rfl rfl rfl <| SK rfl rfl rfl rfl rfl <| SK rfl rfl rfl rfl rfl <| SK rfl rfl rfl rfl rfl ?_
            refine SK rfl rfl rfl rfl rfl <| S (r_pickF (v := Value.bool false) rfl rfl rfl) rfl <| SW_nil ?_
            obtain rfl := Option.some.inj hM
            exact ⟨rfl, rfl, rfl, rfl, rfl, rfl, hds, hs⟩
          ·refine SK rfl rfl rfl (by rw [hg558]; rfl) rfl <| SK rfl rfl rfl (by rw [hg558]; rfl) rfl <| S (r_pickF (v := Value.bool false) rfl hg558 rfl) rfl <| S (r_move (v := Value.bool false) rfl) rfl <| SK rfl rfl rfl rfl rfl <| SK rfl rfl rfl rfl rfl <| SK rfl rfl rfl rfl rfl <| SK rfl rfl rfl rfl rfl <| SK rfl rfl rfl rfl rfl <| SK rfl rfl rfl rfl rfl <| SK rfl rfl rfl rfl rfl <| SK rfl rfl rfl rfl rfl <| SK rfl rfl rfl rfl rfl <| S (r_pickF (v := Value.bool false) rfl rfl rfl) rfl <| S (r_move (v := Value.bool false) rfl) rfl <| SK rfl rfl rfl rfl rfl <| SK rfl rfl rfl rfl rfl <| SK rfl rfl rfl rfl rfl <| SK rfl rfl rfl rfl rfl <| SK rfl rfl rfl rfl rfl <| SK rfl rfl rfl rfl rfl <| SK rfl rfl rfl rfl rfl ?_
           refine SK rfl rfl rfl rfl rfl <| SK rfl rfl rfl rfl rfl <| S (r_pickF (v := Value.bool false) rfl rfl rfl) rfl <| SW_nil ?_
           obtain rfl := Option.some.inj hM
           exact ⟨rfl, rfl, rfl, rfl, rfl, rfl, hds, hs⟩
         ·clear hs
          rintro E w ⟨hE0, hE1, hE5, hE6, hE7, hE119, hds, hs⟩
          have hM := hKhx259
          obtain ⟨E, rfl⟩ := open6 (E := E) hE0 hE1 hE5 hE6 hE7 hE119
          rcases condS hM with ⟨hc330, hM⟩ | ⟨hc330, hM⟩
          ·refine WP_true rfl hc330 <| WP_drawTail 24 mo (by decide +kernel) ?_
           have hs := hs.drew
           refine S (r_move (v := v95) rfl) rfl <| S (r_move (v := Value.int .i64 xv173) rfl) rfl ?_
           obtain ⟨e717, he717, hM⟩ := bindS hM
           obtain ⟨b1159, cb1159, hvb1159, u574, rv574, hxu574, hguu574, hinu574, hcb1159⟩ := hs.gridAt (i := 0) rfl hGG313 he717
           obtain ⟨hshu574, xs684, rfl, hrelxs684⟩ := hinu574
           refine S (r_idxSl Try.underlying42 ti41 (v := v95) rfl hvb1159 rfl (idxL_some he717).1 (idxL_some he717).2.1) rfl <| S (r_loadEl (cs := [u574]) ti41 rfl rfl (.inr rfl) (hcb1159 _ (hs.at (i := 0) rfl)) (v := u574) rfl) rfl <| S (r_move (v := Value.int .i64 xv245) rfl) rfl <| S (r_move (v := v95) rfl) rfl <| S (r_move (v := Value.int .i64 xv173) rfl) rfl ?_
           obtain ⟨b1160, cb1160, hvb1160, u575, rv575, hxu575, hguu575, hinu575, hcb1160⟩ := hs.gridAt (i := 0) rfl hGG313 he717
           obtain ⟨hshu575, xs685, rfl, hrelxs685⟩ := hinu575
           refine S (r_idxSl Try.underlying42 ti41 (v := v95) rfl hvb1160 rfl (idxL_some he717).1 (idxL_some he717).2.1) rfl <| S (r_loadEl (cs := [u575]) ti41 rfl rfl (.inr rfl) (hcb1160 _ (hs.at (i := 0) rfl)) (v := u575) rfl) rfl <| S (r_move (v := Value.int .i64 xv245) rfl) rfl ?_
           obtain ⟨e718, he718, hM⟩ := bindS hM
           obtain ⟨b1161, cb1161, hvb1161, cs359, hcs359, hcb1161⟩ := hs.rowEl (gget (A := [.row v95 41 1 y520.length xs651]) (B := []) hguu575) hrelxs685 he718
           have hcs359 : cs359 = _ := hcs359; subst hcs359
           refine S (r_idxSl Try.underlying41 ti3 (v := u575) rfl hvb1161 rfl (idxL_some he718).1 (idxL_some he718).2.1) rfl <| S (r_loadEl (cs := [Value.int .i64 e718]) ti3 rfl rfl (.inr rfl) (hcb1161 _ (hs.at (gget (A := [.row v95 41 1 y520.length xs651]) (B := []) hguu575))) (v := Value.int .i64 e718) rfl) rfl <| S (r_move (v := v95) rfl) rfl <| S (r_move (v := Value.int .i64 xv173) rfl) rfl ?_
           obtain ⟨t1227, ht1227, hM⟩ := bindS hM
           refine S (r_subM rfl rfl ht1227) rfl ?_
           obtain ⟨e719, he719, hM⟩ := bindS hM
           obtain ⟨b1162, cb1162, hvb1162, u576, rv576, hxu576, hguu576, hinu576, hcb1162⟩ := hs.gridAt (i := 0) rfl hGG313 he719
           obtain ⟨hshu576, xs686, rfl, hrelxs686⟩ := hinu576
           refine S (r_idxSl Try.underlying42 ti41 (v := v95) rfl hvb1162 rfl (idxL_some he719).1 (idxL_some he719).2.1) rfl <| S (r_loadEl (cs := [u576]) ti41 rfl rfl (.inr rfl) (hcb1162 _ (hs.at (i := 0) rfl)) (v := u576) rfl) rfl <| S (r_move (v := Value.int .i64 xv245) rfl) rfl ?_
           obtain ⟨t1228, ht1228, hM⟩ := bindS hM
           refine S (r_subM rfl rfl ht1228) rfl ?_
           obtain ⟨e720, he720, hM⟩ := bindS hM
           obtain ⟨b1163, cb1163, hvb1163, cs360, hcs360, hcb1163⟩ := hs.rowEl (gget (A := [.row v95 41 1 y520.length xs651]) (B := []) hguu576) hrelxs686 he720
           have hcs360 : cs360 = _ := hcs360; subst hcs360
           refine S (r_idxSl Try.underlying41 ti3 (v := u576) rfl hvb1163 rfl (idxL_some he720).1 (idxL_some he720).2.1) rfl <| S (r_loadEl (cs := [Value.int .i64 e720]) ti3 rfl rfl (.inr rfl) (hcb1163 _ (hs.at (gget (A := [.row v95 41 1 y520.length xs651]) (B := []) hguu576))) (v := Value.int .i64 e720) rfl) rfl ?_
           obtain ⟨t1229, ht1229, hM⟩ := bindS hM
           refine S (r_addM rfl rfl ht1229) rfl <| S (r_min2 rfl rfl) rfl ?_
           obtain ⟨y521, hy521, hM⟩ := bindS hM
           obtain ⟨y522, hy522, hM⟩ := bindS hM
           obtain ⟨b1164, cb1164, hvb1164, wv241, G314, hstb1164, hGG314, hlenb1164, hsb1164⟩ := Sep.gridPut (A := [.row v95 41 1 y520.length xs651]) (B := []) hs hGG313 hxu574 hguu574 hrelxs684 hy521 hy522 (cs := [Value.int .i64 (min2 e718 t1229)]) rfl
           refine S (r_idxSl Try.underlying41 ti3 (v := u574) rfl hvb1164 rfl (setL_some hy521).1 (setL_some hy521).2.1) rfl <| SW_nil <| O0 (r_store ti3 rfl (v := Value.int .i64 (min2 e718 t1229)) rfl rfl hstb1164) ?_
           have hs := hsb1164
           replace hs : Go.Lx.Sep g0 w0 g0 wv241 (.row v95 41 1 y522.length xs651 :: (G314 ++ [])) := by rw [hlenb1164]; exact hs
           refine OW_nil ?_
           obtain rfl := Option.some.inj hM
           exact ⟨v95, xs651, G314, rfl, rfl, rfl, rfl, rfl, hds, hGG314, hs⟩
          ·refine WP_false rfl hc330 <| WP_skip ?_
           obtain rfl := Option.some.inj hM
           exact ⟨v95, xs651, G313, rfl, rfl, rfl, rfl, rfl, hds, hGG313, hs⟩
     ·clear hs
      rintro E w ⟨v98, xs678, G311, hE0, hE1, hE5, hE6, hE7, hds, hGG311, hs⟩
      have hM := hKhx256
      obtain ⟨E, rfl⟩ := open5 (E := E) hE0 hE1 hE5 hE6 hE7
      refine WP_region <| O (r_move (v := Value.int .i64 xv245) rfl) rfl ?_
      obtain ⟨t1230, ht1230, hM⟩ := bindS hM
      refine O (r_addM rfl rfl ht1230) rfl <| O (r_assign (v := Value.int .i64 t1230) rfl) rfl <| OW_nil ?_
      obtain rfl := Option.some.inj hM
      exact ⟨v98, xs678, G311, rfl, rfl, rfl, rfl, rfl, hds, hGG311, hs⟩
    ·refine WP_false rfl hc322 <| WP_exit ?_
     obtain rfl := Option.some.inj hM
     refine fun hr => ?_
     have hM := congrArg some hr
     obtain rfl := Option.some.inj hM
     exact ⟨v95, xs651, G299, rfl, rfl, rfl, rfl, hds, hGG299, hs⟩
   ·clear hs
    rintro E w ⟨v91, xs630, G289, hE0, hE1, hE5, hE6, hds, hGG289, hs⟩
    have hM := hKhx238
    obtain ⟨E, rfl⟩ := open4 (E := E) hE0 hE1 hE5 hE6
    refine WP_region <| O (r_move (v := Value.int .i64 xv173) rfl) rfl ?_
    obtain ⟨t1231, ht1231, hM⟩ := bindS hM
    refine O (r_addM rfl rfl ht1231) rfl <| O (r_assign (v := Value.int .i64 t1231) rfl) rfl <| OW_nil ?_
    obtain rfl := Option.some.inj hM
    exact ⟨v91, xs630, G289, rfl, rfl, rfl, rfl, hds, hGG289, hs⟩
  ·refine WP_false rfl hc276 <| WP_exit ?_
   obtain rfl := Option.some.inj hM
   refine fun hr => ?_
   have hM := congrArg some hr
   obtain rfl := Option.some.inj hM
   exact ⟨v67, xs459, G211, rfl, rfl, rfl, hds, hGG211, hs⟩
 ·clear hs
  rintro E w ⟨v50, xs344, G158, hE0, hE1, hE5, hds, hGG158, hs⟩
  have hM := hKhx130
  obtain ⟨E, rfl⟩ := open3 (E := E) hE0 hE1 hE5
  refine WP_seq <| WP_region <| O (r_move (v := v50) rfl) rfl <| O (r_move (v := encS p1) rfl) rfl <| O (r_lenStr Try.underlying9 rfl) rfl ?_
  obtain ⟨e721, he721, hM⟩ := bindS hM
  obtain ⟨b1165, cb1165, hvb1165, u577, rv577, hxu577, hguu577, hinu577, hcb1165⟩ := hs.gridAt (i := 0) rfl hGG158 he721
  obtain ⟨hshu577, xs687, rfl, hrelxs687⟩ := hinu577
  refine O (r_idxSl Try.underlying42 ti41 (v := v50) rfl hvb1165 rfl (idxL_some he721).1 (idxL_some he721).2.1) rfl <| O (r_loadEl (cs := [u577]) ti41 rfl rfl (.inr rfl) (hcb1165 _ (hs.at (i := 0) rfl)) (v := u577) rfl) rfl <| O (r_move (v := encS p2) rfl) rfl <| O (r_lenStr Try.underlying9 rfl) rfl ?_
  obtain ⟨e722, he722, hM⟩ := bindS hM
  obtain ⟨b1166, cb1166, hvb1166, cs361, hcs361, hcb1166⟩ := hs.rowEl (gget (A := [.row v50 41 1 l11.length xs344]) (B := []) hguu577) hrelxs687 he722
  have hcs361 : cs361 = _ := hcs361; subst hcs361
  refine O (r_idxSl Try.underlying41 ti3 (v := u577) rfl hvb1166 rfl (idxL_some he722).1 (idxL_some he722).2.1) rfl <| O (r_loadEl (cs := [Value.int .i64 e722]) ti3 rfl rfl (.inr rfl) (hcb1166 _ (hs.at (gget (A := [.row v50 41 1 l11.length xs344]) (B := []) hguu577))) (v := Value.int .i64 e722) rfl) rfl <| O (r_assign (v := Value.int .i64 e722) rfl) rfl <| OW_nil <| WP_ret ?_
  obtain rfl := Option.some.inj hM
  refine FL_nil hds ?_
  exact ⟨_, res1 Try.results8 (rv_tmp (v := Value.int .i64 e722) rfl), g0, ⟨[Value.int .i64 e722], rfl, rfl⟩, hs.ext⟩


end Go.Proofs.Ytjdmfabmacdpgaa
