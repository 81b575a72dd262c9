/- The walks: what each function does is what its model says. Printed by a program of my own. -/
import Derived.Test.YtffienmbeifioaaDoorTyp
import Derived.Test.YtffienmbeifioaaDoorWalk8
set_option linter.unusedVariables false
set_option linter.unusedSimpArgs false
namespace Go.Proofs.YtffienmbeifioaaDoor
open Go.Lx Go.RowKit
def C.ref08_ends (fl : Nat) : Prop := ∀ {p1 : T_Regex} {p2 : Str} {p3 : (List Bool)} {r : (List Bool)} (_ : M.ref08_ends fl p1 p2 p3 = some r) {g0 : Hp} {w0 : World} (hi : Imm g0 w0) {cs1 : List Value} (hcs1 : tT_Regex.rel g0 cs1 p1) {v1 : Value} (hRv1 : RdS tBool g0 v1 p3),
    CallsV Tryd.prog 43 #[Value.agg cs1.toArray, encS p2, v1] w0 (fun v w' => ∃ g' y0, (RowRel tBool g' y0 r) ∧ Sep g0 w0 g' w' [.row v 4 tBool.sz r.length y0])
set_option maxRecDepth 100000 in
theorem ref08_ends_step {fl : Nat} (ih_ref08_ends : C.ref08_ends fl) : C.ref08_ends (fl + 1) := by
  intro p1 p2 p3 r hM g0 w0 hi cs1 hcs1 v1 hRv1
  unfold M.ref08_ends at hM
  obtain ⟨cs2, cs3, cs4, rfl, hcs2, hcs3, hcs4⟩ := tT_Regex_iff.1 hcs1
  have hcs2 : cs2 = _ := hcs2; subst hcs2
  have hcs3 : cs3 = _ := hcs3; subst hcs3
  obtain ⟨v2, rfl, hRv2⟩ := hcs4
  have hs := Sep.start hi
  refine calls_of_WP (args := [Value.agg (List.toArray (α := Value) (([Value.int .i64 p1.Kind]) ++ ((p1.Set.1.map (Value.int .u64)) ++ ([v2])))), encS p2, v1]) Tryd.func43 rfl Tryd.ntmps43 rfl ?_
  have hds : (argEnv [Value.agg (List.toArray (α := Value) (([Value.int .i64 p1.Kind]) ++ ((p1.Set.1.map (Value.int .u64)) ++ ([v2])))), encS p2, v1]).ds = [] := rfl
  refine WP_seq ?_
  refine WP_region ?_
  refine OW_box (v := Value.agg (List.toArray (α := Value) (([Value.int .i64 p1.Kind]) ++ ((p1.Set.1.map (Value.int .u64)) ++ ([v2]))))) rfl hs (zs := ([Value.int .i64 p1.Kind]) ++ ((p1.Set.1.map (Value.int .u64)) ++ ([v2]))) rfl rfl ?_
  intro b1 wv1 hs
  refine O (r_assign (v := Value.slice none 0 0) rfl) rfl ?_
  refine OW_nil ?_
  refine WP_seq ?_
  refine WP_region ?_
  refine O (r_move (v := encS p2) rfl) rfl ?_
  refine O (r_lenStr Tryd.underlying9 rfl) rfl ?_
  obtain ⟨t1, ht1, hM⟩ := bindS hM
  refine O (r_addM rfl rfl ht1) rfl ?_
  obtain ⟨l1, hl1, hM⟩ := bindS hM
  refine OW_make (τ := tBool) (zc := [Value.bool false]) (zx := false) Tryd.underlying62 ti4 rfl rfl (by decide) hs rfl rfl hl1 rfl ?_
  intro v3 wv2 xs1 hrelxs1 hs
  refine O (r_assign (v := v3) rfl) rfl ?_
  refine OW_nil ?_
  obtain ⟨xv73, hx13, hKhx13⟩ := bindS hM
  refine WP_cut (fun E w => ∃ (gg43 : Hp) (v73 : Value) (xs122 : List Value), E 7 = v73 ∧ E.ds = [] ∧ Hle g0 gg43 ∧ RowRel tBool gg43 xs122 xv73 ∧ Go.Lx.Sep g0 w0 gg43 w [.row v73 4 tBool.sz xv73.length xs122]) ?_ ?_
  · have hM := hx13
    have hag0 := Hle.refl g0
    refine WP_seq ?_
    refine WP_region ?_
    refine O (r_fieldAddr Tryd.underlying27 ti3 rfl rfl (by decide) rfl rfl) rfl ?_
    refine O (r_load (v := Value.int .i64 p1.Kind) ti3 rfl (hs.cell (i := 1) (o := 0) rfl (by simp [p1.Set.2]))) rfl ?_
    refine OW_nil ?_
    refine WP_block ?_
    refine WP_seq ?_
    refine WP_region ?_
    refine O (r_eql rfl rfl) rfl ?_
    refine O (r_assign (v := Value.bool (p1.Kind == 2)) rfl) rfl ?_
    refine OW_nil ?_
    rcases condS hM with ⟨hc44, hM⟩ | ⟨hc44, hM⟩
    · refine WP_true rfl hc44 ?_
      refine WP_region ?_
      refine O (r_move (v := v3) rfl) rfl ?_
      refine O (r_move (v := v1) rfl) rfl ?_
      obtain ⟨xs123, hrxs123, hlxs123⟩ := (id hRv1)
      refine OW_copy Tryd.underlying62 ti4 rfl hs (i := 0) rfl hrelxs1 (v := v3) rfl (u := v1) rfl (hlxs123.src hs.imm) hrxs123 rfl ?_
      intro wv81 xs124 hrelxs124 hs
      refine OW_nil ?_
      obtain rfl := Option.some.inj hM
      exact ⟨g0, v3, xs124, rfl, hds, (Hle.refl _), hrelxs124, (hs.sub (.cons_cons _ (.cons _ .slnil)))⟩
    · refine WP_false rfl hc44 ?_
      refine WP_seq ?_
      refine WP_region ?_
      refine O (r_eql rfl rfl) rfl ?_
      refine O (r_assign (v := Value.bool (p1.Kind == 3)) rfl) rfl ?_
      refine OW_nil ?_
      rcases condS hM with ⟨hc45, hM⟩ | ⟨hc45, hM⟩
      · refine WP_true rfl hc45 ?_
        refine WP_seq ?_
        refine WP_region ?_
        refine O (r_assign (v := Value.int .i64 0) rfl) rfl ?_
        refine OW_nil ?_
        refine WP_block ?_
        refine WP_loop (fun (st9 : (List Bool) × Int) E w => match st9 with | (l30, xv75) => ∃ (gg46 : Hp) (v76 : Value) (xs128 : List Value), E 1 = encS p2 ∧ E 2 = v1 ∧ E 3 = Value.pointer (some ⟨b1, 0, none⟩) ∧ E 7 = v76 ∧ E 8 = Value.int .i64 xv75 ∧ E.ds = [] ∧ Hle g0 gg46 ∧ RowRel tBool gg46 xs128 l30 ∧ Go.Lx.Sep g0 w0 gg46 w [.row v76 4 tBool.sz l30.length xs128, Go.Lx.box b1 27 (([Value.int .i64 p1.Kind]) ++ ((p1.Set.1.map (Value.int .u64)) ++ ([v2])))]) hM ⟨g0, v3, xs1, rfl, rfl, rfl, rfl, rfl, hds, (Hle.refl _), hrelxs1, hs⟩ ?_
        clear hs hM
        rintro ⟨l30, xv75⟩ o14 E w hM ⟨gg46, v76, xs128, hE1, hE2, hE3, hE7, hE8, hds, hlegg46, hrelxs128, hs⟩
        obtain ⟨E, rfl⟩ := open1 (E := E) hE1
        obtain ⟨E, rfl⟩ := open1 (E := E) hE2
        obtain ⟨E, rfl⟩ := open1 (E := E) hE3
        obtain ⟨E, rfl⟩ := open1 (E := E) hE7
        obtain ⟨E, rfl⟩ := open1 (E := E) hE8
        replace hRv1 := hRv1.mono hlegg46
        replace hRv2 := hRv2.mono hlegg46
        replace hag0 := hag0.trans hlegg46
        have hagg46 := Hle.refl gg46
        refine WP_seq ?_
        refine WP_seq ?_
        refine WP_region ?_
        refine O (r_move (v := Value.int .i64 xv75) rfl) rfl ?_
        refine O (r_move (v := encS p2) rfl) rfl ?_
        refine O (r_lenStr Tryd.underlying9 rfl) rfl ?_
        refine O (r_lss rfl rfl) rfl ?_
        refine OW_nil ?_
        rcases condS hM with ⟨hc48, hM⟩ | ⟨hc48, hM⟩
        · refine WP_true rfl hc48 ?_
          refine WP_skip ?_
          refine WP_seq ?_
          refine WP_block ?_
          refine WP_any (.q 0 (.q 1 (.q 2 (.q 3 (.q 4 (.q 5 (.q 6 (.q 7 (.q 8 (.q 9 (.q 10 (.q 11 (.q 12 (.q 13 (.s 14 (.q 15 (.q 16 (.s 17 (.leaf))))))))))))))))))) (SS g0 w0 gg46 [.row v76 4 tBool.sz l30.length xs128, Go.Lx.box b1 27 (([Value.int .i64 p1.Kind]) ++ ((p1.Set.1.map (Value.int .u64)) ++ ([v2])))]) mo (by decide +kernel) ?_
          have hs := hs.drew
          have hRv1b := hRv1
          have hRv2b := hRv2
          have hrelxs128b := hrelxs128
          have hS : SS g0 w0 gg46 [.row v76 4 tBool.sz l30.length xs128, Go.Lx.box b1 27 (([Value.int .i64 p1.Kind]) ++ ((p1.Set.1.map (Value.int .u64)) ++ ([v2])))] _ := ⟨gg46, Hle.refl _, hs⟩
          refine A rfl hS (fun w9 h9 => by obtain ⟨g9, hle9, hs⟩ := h9; exact r_move (v := v76) rfl) rfl ?_
          refine A rfl hS (fun w9 h9 => by obtain ⟨g9, hle9, hs⟩ := h9; exact r_move (v := Value.int .i64 xv75) rfl) rfl ?_
          obtain ⟨t67, ht67, hM⟩ := bindS hM
          refine A rfl hS (fun w9 h9 => by obtain ⟨g9, hle9, hs⟩ := h9; exact r_addM rfl rfl ht67) rfl ?_
          refine A rfl hS (fun w9 h9 => by obtain ⟨g9, hle9, hs⟩ := h9; exact r_move (v := v1) rfl) rfl ?_
          refine A rfl hS (fun w9 h9 => by obtain ⟨g9, hle9, hs⟩ := h9; exact r_move (v := Value.int .i64 xv75) rfl) rfl ?_
          obtain ⟨e111, he111, hM⟩ := bindS hM
          obtain ⟨b173, ob173, cb173, hvb173, cs153, hcs153, hcb173⟩ := hRv1b.at he111
          have hcs153 : cs153 = _ := hcs153; subst hcs153
          refine A rfl hS (fun w9 h9 => by obtain ⟨g9, hle9, hs⟩ := h9; exact r_idxSl Tryd.underlying62 ti4 (v := v1) rfl hvb173 rfl (idxL_some he111).1 (idxL_some he111).2.1) rfl ?_
          refine A rfl hS (fun w9 h9 => by obtain ⟨g9, hle9, hs⟩ := h9; exact r_loadEl (cs := [Value.bool e111]) ti4 rfl rfl (.inr rfl) (hcb173 _ (hs.imm.of_le hle9)) (v := Value.bool e111) rfl) rfl ?_
          refine A rfl hS (fun w9 h9 => by obtain ⟨g9, hle9, hs⟩ := h9; exact r_move (v := Value.bool e111) rfl) rfl ?_
          rcases condS hM with ⟨hg63, hM⟩ | ⟨hg63, hM⟩
          · refine AG rfl rfl rfl rfl (by rw [hg63]; rfl) hS (fun w9 h9 => by obtain ⟨g9, hle9, hs⟩ := h9; exact r_fieldAddr Tryd.underlying27 ti24 rfl rfl (by decide) rfl rfl) rfl ?_
            refine AG rfl rfl rfl rfl (by rw [hg63]; rfl) hS (fun w9 h9 => by obtain ⟨g9, hle9, hs⟩ := h9; exact r_loadN (cs := p1.Set.1.map (Value.int .u64)) ti24 rfl (by simp [p1.Set.2]) (hs.cellsAt (i := 1) (o := 1) rfl (by intro j u hj; exact sub_at (pre := [Value.int .i64 p1.Kind]) (ds := p1.Set.1.map (Value.int .u64)) (post := [v2]) rfl ((by simp)) hj))) rfl ?_
            refine AG rfl rfl rfl rfl (by rw [hg63]; rfl) hS (fun w9 h9 => by obtain ⟨g9, hle9, hs⟩ := h9; exact r_move (v := encS p2) rfl) rfl ?_
            refine AG rfl rfl rfl rfl (by rw [hg63]; rfl) hS (fun w9 h9 => by obtain ⟨g9, hle9, hs⟩ := h9; exact r_move (v := Value.int .i64 xv75) rfl) rfl ?_
            obtain ⟨c6, hc6, hM⟩ := bindS hM
            refine AG rfl rfl rfl rfl (by rw [hg63]; rfl) hS (fun w9 h9 => by obtain ⟨g9, hle9, hs⟩ := h9; exact r_idxStr Tryd.underlying9 rfl rfl hc6) rfl ?_
            refine AG rfl rfl rfl rfl (by rw [hg63]; rfl) hS (fun w9 h9 => by obtain ⟨g9, hle9, hs⟩ := h9; exact r_conv Tryd.underlying5 Tryd.underlying3 rfl) rfl ?_
            refine A1 rfl ?_
            obtain ⟨rv18, hrv18, hM⟩ := bindS hM
            refine CG rfl rfl rfl (by rw [hg63]; rfl) [encV .u64 p1.Set, Value.int .i64 (IntKind.i64.wrap c6)] cf52 rfl (ref08_Has_ok hrv18 hs.imm) rfl ?_
            rintro v79 wv88 ⟨gg49, hvv79, hegg49⟩
            have hlegg49 := hegg49.le hs.imm
            replace hs := hs.call hegg49
            replace hRv1 := hRv1.mono hlegg49
            replace hRv2 := hRv2.mono hlegg49
            replace hrelxs128 := hrelxs128.mono hlegg49
            replace hlegg46 := hlegg46.trans hlegg49
            replace hagg46 := hagg46.trans hlegg49
            obtain ⟨cs154, rfl, hcs154⟩ := hvv79
            have hcs154 : cs154 = _ := hcs154; subst hcs154
            refine OW_nil ?_
            have hS : SS g0 w0 gg46 [.row v76 4 tBool.sz l30.length xs128, Go.Lx.box b1 27 (([Value.int .i64 p1.Kind]) ++ ((p1.Set.1.map (Value.int .u64)) ++ ([v2])))] _ := ⟨gg49, hagg46, hs⟩
            refine ⟨fun _ => hS, ?_⟩
            refine A rfl hS (fun w9 h9 => by obtain ⟨g9, hle9, hs⟩ := h9; exact r_pickT (v := Value.bool rv18) rfl hg63 rfl) rfl ?_
            obtain ⟨y65, hy65, hM⟩ := bindS hM
            obtain ⟨b174, cb174, hvb174, wv89, xs132, hstb174, hrelb174, hsb174⟩ := hs.rowPut (i := 0) rfl hrelxs128 hy65 (cs := [Value.bool rv18]) rfl
            refine A rfl hS (fun w9 h9 => by obtain ⟨g9, hle9, hs⟩ := h9; exact r_idxSl Tryd.underlying62 ti4 (v := v76) rfl hvb174 rfl (setL_some hy65).1 (setL_some hy65).2.1) rfl ?_
            refine A1 rfl ?_
            refine O0 (r_store ti4 rfl (v := Value.bool rv18) rfl rfl hstb174) ?_
            have hs := hsb174
            refine OW_nil ?_
            refine ⟨fun h => absurd h (by decide +kernel), ?_⟩
            refine AN ?_
            refine WP_region ?_
            refine O (r_move (v := Value.int .i64 xv75) rfl) rfl ?_
            refine O (r_addM rfl rfl ht67) rfl ?_
            refine O (r_assign (v := Value.int .i64 t67) rfl) rfl ?_
            refine OW_nil ?_
            obtain rfl := Option.some.inj hM
            exact ⟨gg49, v76, xs132, rfl, rfl, rfl, rfl, rfl, hds, hlegg46, hrelb174, hs⟩
          · refine AK rfl rfl rfl rfl (by rw [hg63]; rfl) hS rfl ?_
            refine AK rfl rfl rfl rfl (by rw [hg63]; rfl) hS rfl ?_
            refine AK rfl rfl rfl rfl (by rw [hg63]; rfl) hS rfl ?_
            refine AK rfl rfl rfl rfl (by rw [hg63]; rfl) hS rfl ?_
            refine AK rfl rfl rfl rfl (by rw [hg63]; rfl) hS rfl ?_
            refine AK rfl rfl rfl rfl (by rw [hg63]; rfl) hS rfl ?_
            refine A1 rfl ?_
            refine OK rfl rfl rfl (by rw [hg63]; rfl) rfl ?_
            refine OW_nil ⟨fun _ => hS, ?_⟩
            refine A rfl hS (fun w9 h9 => by obtain ⟨g9, hle9, hs⟩ := h9; exact r_pickF (v := Value.bool false) rfl hg63 rfl) rfl ?_
            obtain ⟨y66, hy66, hM⟩ := bindS hM
            obtain ⟨b175, cb175, hvb175, wv90, xs133, hstb175, hrelb175, hsb175⟩ := hs.rowPut (i := 0) rfl hrelxs128 hy66 (cs := [Value.bool false]) rfl
            refine A rfl hS (fun w9 h9 => by obtain ⟨g9, hle9, hs⟩ := h9; exact r_idxSl Tryd.underlying62 ti4 (v := v76) rfl hvb175 rfl (setL_some hy66).1 (setL_some hy66).2.1) rfl ?_
            refine A1 rfl ?_
            refine O0 (r_store ti4 rfl (v := Value.bool false) rfl rfl hstb175) ?_
            have hs := hsb175
            refine OW_nil ?_
            refine ⟨fun h => absurd h (by decide +kernel), ?_⟩
            refine AN ?_
            refine WP_region ?_
            refine O (r_move (v := Value.int .i64 xv75) rfl) rfl ?_
            refine O (r_addM rfl rfl ht67) rfl ?_
            refine O (r_assign (v := Value.int .i64 t67) rfl) rfl ?_
            refine OW_nil ?_
            obtain rfl := Option.some.inj hM
            exact ⟨gg46, v76, xs133, rfl, rfl, rfl, rfl, rfl, hds, hlegg46, hrelb175, hs⟩
        · refine WP_false rfl hc48 ?_
          refine WP_exit ?_
          obtain rfl := Option.some.inj hM
          refine fun hr => ?_
          have hM := congrArg some hr
          obtain rfl := Option.some.inj hM
          exact ⟨gg46, v76, xs128, rfl, hds, hlegg46, hrelxs128, (hs.sub (.cons_cons _ (.cons _ .slnil)))⟩
      · refine WP_false rfl hc45 ?_
        refine WP_seq ?_
        refine WP_region ?_
        refine O (r_eql rfl rfl) rfl ?_
        refine O (r_assign (v := Value.bool (p1.Kind == 4)) rfl) rfl ?_
        refine OW_nil ?_
        rcases condS hM with ⟨hc49, hM⟩ | ⟨hc49, hM⟩
        · refine WP_true rfl hc49 ?_
          refine WP_seq ?_
          refine WP_region ?_
          refine O (r_move (v := v3) rfl) rfl ?_
          refine O (r_move (v := v1) rfl) rfl ?_
          obtain ⟨xs134, hrxs134, hlxs134⟩ := (id hRv1)
          refine OW_copy Tryd.underlying62 ti4 rfl hs (i := 0) rfl hrelxs1 (v := v3) rfl (u := v1) rfl (hlxs134.src hs.imm) hrxs134 rfl ?_
          intro wv91 xs135 hrelxs135 hs
          refine OW_nil ?_
          refine WP_seq ?_
          refine WP_region ?_
          refine O (r_assign (v := Value.int .i64 0) rfl) rfl ?_
          refine OW_nil ?_
          refine WP_block ?_
          refine WP_loop (fun (st9 : (List Bool) × Int) E w => match st9 with | (xv79, xv80) => ∃ (gg54 : Hp) (v83 : Value) (xs138 : List Value), E 1 = encS p2 ∧ E 3 = Value.pointer (some ⟨b1, 0, none⟩) ∧ E 7 = v83 ∧ E 9 = Value.int .i64 xv80 ∧ E.ds = [] ∧ Hle g0 gg54 ∧ RowRel tBool gg54 xs138 xv79 ∧ Go.Lx.Sep g0 w0 gg54 w [.row v83 4 tBool.sz xv79.length xs138, Go.Lx.box b1 27 (([Value.int .i64 p1.Kind]) ++ ((p1.Set.1.map (Value.int .u64)) ++ ([v2])))]) hM ⟨g0, v3, xs135, rfl, rfl, rfl, rfl, hds, (Hle.refl _), hrelxs135, hs⟩ ?_
          clear hs hM
          rintro ⟨xv79, xv80⟩ o15 E w hM ⟨gg54, v83, xs138, hE1, hE3, hE7, hE9, hds, hlegg54, hrelxs138, hs⟩
          obtain ⟨E, rfl⟩ := open1 (E := E) hE1
          obtain ⟨E, rfl⟩ := open1 (E := E) hE3
          obtain ⟨E, rfl⟩ := open1 (E := E) hE7
          obtain ⟨E, rfl⟩ := open1 (E := E) hE9
          replace hRv2 := hRv2.mono hlegg54
          replace hag0 := hag0.trans hlegg54
          have hagg54 := Hle.refl gg54
          refine WP_seq ?_
          refine WP_seq ?_
          refine WP_region ?_
          refine O (r_move (v := Value.int .i64 xv80) rfl) rfl ?_
          refine O (r_fieldAddr Tryd.underlying27 ti25 rfl rfl (by decide) rfl rfl) rfl ?_
          refine O (r_load (v := v2) ti25 rfl (hs.cell (i := 1) (o := 5) rfl (by simp [p1.Set.2]))) rfl ?_
          obtain ⟨a36, ca36, hva36⟩ := hRv2.shape
          refine O (r_lenSl (v := v2) Tryd.underlying25 rfl hva36) rfl ?_
          refine O (r_lss rfl rfl) rfl ?_
          refine OW_nil ?_
          rcases condS hM with ⟨hc52, hM⟩ | ⟨hc52, hM⟩
          · refine WP_true rfl hc52 ?_
            refine WP_skip ?_
            refine WP_seq ?_
            refine WP_block ?_
            refine WP_region ?_
            refine O (r_fieldAddr Tryd.underlying27 ti25 rfl rfl (by decide) rfl rfl) rfl ?_
            refine O (r_load (v := v2) ti25 rfl (hs.cell (i := 1) (o := 5) rfl (by simp [p1.Set.2]))) rfl ?_
            refine O (r_move (v := Value.int .i64 xv80) rfl) rfl ?_
            obtain ⟨e114, he114, hM⟩ := bindS hM
            obtain ⟨b178, ob178, cb178, hvb178, cs163, hcs163, hcb178⟩ := hRv2.at he114
            obtain ⟨cs164, cs165, cs166, rfl, hcs164, hcs165, hcs166⟩ := tT_Regex_iff.1 hcs163
            have hcs164 : cs164 = _ := hcs164; subst hcs164
            have hcs165 : cs165 = _ := hcs165; subst hcs165
            obtain ⟨v87, rfl, hRv87⟩ := hcs166
            refine O (r_idxSl Tryd.underlying25 ti27 (v := v2) rfl hvb178 rfl (idxL_some he114).1 (idxL_some he114).2.1) rfl ?_
            refine O (r_loadEl (cs := ([Value.int .i64 e114.Kind]) ++ ((e114.Set.1.map (Value.int .u64)) ++ ([v87]))) ti27 rfl (by simp [e114.Set.2]) (.inl rfl) (hcb178 _ hs.imm) (v := Value.agg (List.toArray (α := Value) (([Value.int .i64 e114.Kind]) ++ ((e114.Set.1.map (Value.int .u64)) ++ ([v87]))))) rfl) rfl ?_
            refine O (r_move (v := encS p2) rfl) rfl ?_
            refine O (r_move (v := v83) rfl) rfl ?_
            have hsL9 := hs
            have hRv2L9 := hRv2
            have hrelxs138L9 := hrelxs138
            have hRv87L9 := hRv87
            have hlegg54L9 := hlegg54
            have hagg54L9 := hagg54
            obtain ⟨gg59, hlegg59, hRgg59, hs⟩ := hs.relRow (i := 0) rfl hrelxs138
            replace hRv2 := hRv2.mono hlegg59
            replace hRv87 := hRv87.mono hlegg59
            replace hlegg54 := hlegg54.trans hlegg59
            replace hagg54 := hagg54.trans hlegg59
            obtain ⟨rv21, hrv21, hM⟩ := bindS hM
            refine C [Value.agg (List.toArray (α := Value) (([Value.int .i64 e114.Kind]) ++ ((e114.Set.1.map (Value.int .u64)) ++ ([v87])))), encS p2, v83] cf43 rfl (ih_ref08_ends hrv21 hs.imm (tT_Regex_iff.2 ⟨[Value.int .i64 e114.Kind], e114.Set.1.map (Value.int .u64), [v87], rfl, rfl, rfl, ⟨_, rfl, hRv87⟩⟩) hRgg59) rfl ?_
            rintro v88 wv94 ⟨gg60, xs141, hvv88, hegg60⟩
            obtain ⟨gg61, hlegg61, hs⟩ := hsL9.lentOwn hegg60
            simp only [List.cons_append, List.nil_append] at hs
            have hvv88 : RowRel tBool gg61 xs141 rv21 := RowRel.flat (fun _ _ _ _ h => h) hvv88
            replace hRv2 := hRv2L9.mono hlegg61
            replace hrelxs138 := hrelxs138L9.mono hlegg61
            replace hRv87 := hRv87L9.mono hlegg61
            replace hlegg54 := hlegg54L9.trans hlegg61
            replace hagg54 := hagg54L9.trans hlegg61
            refine O (r_assign (v := v88) rfl) rfl ?_
            refine OW_nil ?_
            refine WP_region ?_
            refine O (r_move (v := Value.int .i64 xv80) rfl) rfl ?_
            obtain ⟨t70, ht70, hM⟩ := bindS hM
            refine O (r_addM rfl rfl ht70) rfl ?_
            refine O (r_assign (v := Value.int .i64 t70) rfl) rfl ?_
            refine OW_nil ?_
            obtain rfl := Option.some.inj hM
            exact ⟨gg61, v88, xs141, rfl, rfl, rfl, rfl, hds, hlegg54, hvv88, (hs.sub (.cons_cons _ (.cons _ (.cons_cons _ .slnil))))⟩
          · refine WP_false rfl hc52 ?_
            refine WP_exit ?_
            obtain rfl := Option.some.inj hM
            refine fun hr => ?_
            have hM := congrArg some hr
            obtain rfl := Option.some.inj hM
            exact ⟨gg54, v83, xs138, rfl, hds, hlegg54, hrelxs138, (hs.sub (.cons_cons _ (.cons _ .slnil)))⟩
        · refine WP_false rfl hc49 ?_
          refine WP_seq ?_
          refine WP_region ?_
          refine O (r_eql rfl rfl) rfl ?_
          refine O (r_assign (v := Value.bool (p1.Kind == 5)) rfl) rfl ?_
          refine OW_nil ?_
          rcases condS hM with ⟨hc53, hM⟩ | ⟨hc53, hM⟩
          · refine WP_true rfl hc53 ?_
            refine WP_seq ?_
            refine WP_region ?_
            refine O (r_assign (v := Value.int .i64 0) rfl) rfl ?_
            refine OW_nil ?_
            refine WP_block ?_
            refine WP_loop (fun (st9 : (List Bool) × Int) E w => match st9 with | (l40, xv90) => ∃ (gg66 : Hp) (v101 : Value) (xs164 : List Value), E 1 = encS p2 ∧ E 2 = v1 ∧ E 3 = Value.pointer (some ⟨b1, 0, none⟩) ∧ E 7 = v101 ∧ E 10 = Value.int .i64 xv90 ∧ E.ds = [] ∧ Hle g0 gg66 ∧ RowRel tBool gg66 xs164 l40 ∧ Go.Lx.Sep g0 w0 gg66 w [.row v101 4 tBool.sz l40.length xs164, Go.Lx.box b1 27 (([Value.int .i64 p1.Kind]) ++ ((p1.Set.1.map (Value.int .u64)) ++ ([v2])))]) hM ⟨g0, v3, xs1, rfl, rfl, rfl, rfl, rfl, hds, (Hle.refl _), hrelxs1, hs⟩ ?_
            clear hs hM
            rintro ⟨l40, xv90⟩ o20 E w hM ⟨gg66, v101, xs164, hE1, hE2, hE3, hE7, hE10, hds, hlegg66, hrelxs164, hs⟩
            obtain ⟨E, rfl⟩ := open1 (E := E) hE1
            obtain ⟨E, rfl⟩ := open1 (E := E) hE2
            obtain ⟨E, rfl⟩ := open1 (E := E) hE3
            obtain ⟨E, rfl⟩ := open1 (E := E) hE7
            obtain ⟨E, rfl⟩ := open1 (E := E) hE10
            replace hRv1 := hRv1.mono hlegg66
            replace hRv2 := hRv2.mono hlegg66
            replace hag0 := hag0.trans hlegg66
            have hagg66 := Hle.refl gg66
            refine WP_seq ?_
            refine WP_seq ?_
            refine WP_region ?_
            refine O (r_move (v := Value.int .i64 xv90) rfl) rfl ?_
            refine O (r_fieldAddr Tryd.underlying27 ti25 rfl rfl (by decide) rfl rfl) rfl ?_
            refine O (r_load (v := v2) ti25 rfl (hs.cell (i := 1) (o := 5) rfl (by simp [p1.Set.2]))) rfl ?_
            obtain ⟨a51, ca51, hva51⟩ := hRv2.shape
            refine O (r_lenSl (v := v2) Tryd.underlying25 rfl hva51) rfl ?_
            refine O (r_lss rfl rfl) rfl ?_
            refine OW_nil ?_
            rcases condS hM with ⟨hc68, hM⟩ | ⟨hc68, hM⟩
            · refine WP_true rfl hc68 ?_
              refine WP_skip ?_
              obtain ⟨l52, hx16, hKhx16⟩ := bindS hM
              refine WP_cut (fun E w => ∃ (gg72 : Hp) (v119 : Value) (xs197 : List Value), E 1 = encS p2 ∧ E 2 = v1 ∧ E 3 = Value.pointer (some ⟨b1, 0, none⟩) ∧ E 7 = v119 ∧ E 10 = Value.int .i64 xv90 ∧ E.ds = [] ∧ Hle gg66 gg72 ∧ RowRel tBool gg72 xs197 l52 ∧ Go.Lx.Sep g0 w0 gg72 w [.row v119 4 tBool.sz l52.length xs197, Go.Lx.box b1 27 (([Value.int .i64 p1.Kind]) ++ ((p1.Set.1.map (Value.int .u64)) ++ ([v2])))]) ?_ ?_
              · have hM := hx16
                refine WP_block ?_
                refine WP_seq ?_
                refine WP_region ?_
                refine O (r_fieldAddr Tryd.underlying27 ti25 rfl rfl (by decide) rfl rfl) rfl ?_
                refine O (r_load (v := v2) ti25 rfl (hs.cell (i := 1) (o := 5) rfl (by simp [p1.Set.2]))) rfl ?_
                refine O (r_move (v := Value.int .i64 xv90) rfl) rfl ?_
                obtain ⟨e150, he150, hM⟩ := bindS hM
                obtain ⟨b244, ob244, cb244, hvb244, cs217, hcs217, hcb244⟩ := hRv2.at he150
                obtain ⟨cs218, cs219, cs220, rfl, hcs218, hcs219, hcs220⟩ := tT_Regex_iff.1 hcs217
                have hcs218 : cs218 = _ := hcs218; subst hcs218
                have hcs219 : cs219 = _ := hcs219; subst hcs219
                obtain ⟨v120, rfl, hRv120⟩ := hcs220
                refine O (r_idxSl Tryd.underlying25 ti27 (v := v2) rfl hvb244 rfl (idxL_some he150).1 (idxL_some he150).2.1) rfl ?_
                refine O (r_loadEl (cs := ([Value.int .i64 e150.Kind]) ++ ((e150.Set.1.map (Value.int .u64)) ++ ([v120]))) ti27 rfl (by simp [e150.Set.2]) (.inl rfl) (hcb244 _ hs.imm) (v := Value.agg (List.toArray (α := Value) (([Value.int .i64 e150.Kind]) ++ ((e150.Set.1.map (Value.int .u64)) ++ ([v120]))))) rfl) rfl ?_
                refine O (r_move (v := encS p2) rfl) rfl ?_
                refine O (r_move (v := v1) rfl) rfl ?_
                obtain ⟨rv27, hrv27, hM⟩ := bindS hM
                refine C [Value.agg (List.toArray (α := Value) (([Value.int .i64 e150.Kind]) ++ ((e150.Set.1.map (Value.int .u64)) ++ ([v120])))), encS p2, v1] cf43 rfl (ih_ref08_ends hrv27 hs.imm (tT_Regex_iff.2 ⟨[Value.int .i64 e150.Kind], e150.Set.1.map (Value.int .u64), [v120], rfl, rfl, rfl, ⟨_, rfl, hRv120⟩⟩) hRv1) rfl ?_
                rintro v121 wv130 ⟨gg73, xs198, hvv121, hegg73⟩
                have hlegg73 := hegg73.ext.le hs.imm
                replace hs := hs.callOwn hegg73
                simp only [List.cons_append, List.nil_append] at hs
                replace hRv1 := hRv1.mono hlegg73
                replace hRv2 := hRv2.mono hlegg73
                replace hrelxs164 := hrelxs164.mono hlegg73
                replace hRv120 := hRv120.mono hlegg73
                replace hlegg66 := hlegg66.trans hlegg73
                replace hagg66 := hagg66.trans hlegg73
                refine O (r_assign (v := v121) rfl) rfl ?_
                refine OW_nil ?_
                refine WP_seq ?_
                refine WP_region ?_
                refine O (r_assign (v := Value.int .i64 0) rfl) rfl ?_
                refine OW_nil ?_
                refine WP_block ?_
                refine WP_loop (fun (st9 : (List Bool) × Int) E w => match st9 with | (l54, xv102) => ∃ (v123 : Value) (xs202 : List Value), E 1 = encS p2 ∧ E 2 = v1 ∧ E 3 = Value.pointer (some ⟨b1, 0, none⟩) ∧ E 7 = v123 ∧ E 10 = Value.int .i64 xv90 ∧ E 11 = v121 ∧ E 12 = Value.int .i64 xv102 ∧ E.ds = [] ∧ RowRel tBool gg73 xs202 l54 ∧ Go.Lx.Sep g0 w0 gg73 w [.row v121 4 tBool.sz rv27.length xs198, .row v123 4 tBool.sz l54.length xs202, Go.Lx.box b1 27 (([Value.int .i64 p1.Kind]) ++ ((p1.Set.1.map (Value.int .u64)) ++ ([v2])))]) hM ⟨v101, xs164, rfl, rfl, rfl, rfl, rfl, rfl, rfl, hds, hrelxs164, hs⟩ ?_
                clear hs hM
                rintro ⟨l54, xv102⟩ o22 E w hM ⟨v123, xs202, hE1, hE2, hE3, hE7, hE10, hE11, hE12, hds, hrelxs202, hs⟩
                obtain ⟨E, rfl⟩ := open1 (E := E) hE1
                obtain ⟨E, rfl⟩ := open1 (E := E) hE2
                obtain ⟨E, rfl⟩ := open1 (E := E) hE3
                obtain ⟨E, rfl⟩ := open1 (E := E) hE7
                obtain ⟨E, rfl⟩ := open1 (E := E) hE10
                obtain ⟨E, rfl⟩ := open1 (E := E) hE11
                obtain ⟨E, rfl⟩ := open1 (E := E) hE12
                refine WP_seq ?_
                refine WP_seq ?_
                refine WP_region ?_
                refine O (r_move (v := Value.int .i64 xv102) rfl) rfl ?_
                refine O (r_move (v := v121) rfl) rfl ?_
                obtain ⟨a57, ca57, hva57⟩ := hs.rowShape (i := 0) rfl
                refine O (r_lenSl (v := v121) Tryd.underlying62 rfl hva57) rfl ?_
                refine O (r_lss rfl rfl) rfl ?_
                refine OW_nil ?_
                rcases condS hM with ⟨hc74, hM⟩ | ⟨hc74, hM⟩
                · refine WP_true rfl hc74 ?_
                  refine WP_skip ?_
                  refine WP_seq ?_
                  refine WP_block ?_
                  refine WP_region ?_
                  refine O (r_move (v := v123) rfl) rfl ?_
                  refine O (r_move (v := Value.int .i64 xv102) rfl) rfl ?_
                  refine O (r_move (v := v123) rfl) rfl ?_
                  refine O (r_move (v := Value.int .i64 xv102) rfl) rfl ?_
                  obtain ⟨e155, he155, hM⟩ := bindS hM
                  obtain ⟨b253, cb253, hvb253, cs225, hcs225, hcb253⟩ := hs.rowEl (i := 1) rfl hrelxs202 he155
                  have hcs225 : cs225 = _ := hcs225; subst hcs225
                  refine O (r_idxSl Tryd.underlying62 ti4 (v := v123) rfl hvb253 rfl (idxL_some he155).1 (idxL_some he155).2.1) rfl ?_
                  refine O (r_loadEl (cs := [Value.bool e155]) ti4 rfl rfl (.inr rfl) (hcb253 _ (hs.at (i := 1) rfl)) (v := Value.bool e155) rfl) rfl ?_
                  refine O (r_move (v := Value.bool e155) rfl) rfl ?_
                  rcases condS hM with ⟨hg81, hM⟩ | ⟨hg81, hM⟩
                  · refine OK rfl rfl rfl (by rw [hg81]; rfl) rfl ?_
                    refine OK rfl rfl rfl (by rw [hg81]; rfl) rfl ?_
                    refine OK rfl rfl rfl (by rw [hg81]; rfl) rfl ?_
                    refine OK rfl rfl rfl (by rw [hg81]; rfl) rfl ?_
                    refine O (r_pickT (v := Value.bool true) rfl hg81 rfl) rfl ?_
                    obtain ⟨y101, hy101, hM⟩ := bindS hM
                    obtain ⟨b254, cb254, hvb254, wv135, xs206, hstb254, hrelb254, hsb254⟩ := hs.rowPut (i := 1) rfl hrelxs202 hy101 (cs := [Value.bool true]) rfl
                    refine O (r_idxSl Tryd.underlying62 ti4 (v := v123) rfl hvb254 rfl (setL_some hy101).1 (setL_some hy101).2.1) rfl ?_
                    refine O0 (r_store ti4 rfl (v := Value.bool true) rfl rfl hstb254) ?_
                    have hs := hsb254
                    refine OW_nil ?_
                    refine WP_region ?_
                    refine O (r_move (v := Value.int .i64 xv102) rfl) rfl ?_
                    obtain ⟨t107, ht107, hM⟩ := bindS hM
                    refine O (r_addM rfl rfl ht107) rfl ?_
                    refine O (r_assign (v := Value.int .i64 t107) rfl) rfl ?_
                    refine OW_nil ?_
                    obtain rfl := Option.some.inj hM
                    exact ⟨v123, xs206, rfl, rfl, rfl, rfl, rfl, rfl, rfl, hds, hrelb254, hs⟩
                  · refine OG rfl rfl rfl (by rw [hg81]; rfl) (r_move (v := v121) rfl) rfl ?_
                    refine OG rfl rfl rfl (by rw [hg81]; rfl) (r_move (v := Value.int .i64 xv102) rfl) rfl ?_
                    obtain ⟨e156, he156, hM⟩ := bindS hM
                    obtain ⟨b255, cb255, hvb255, cs226, hcs226, hcb255⟩ := hs.rowEl (i := 0) rfl hvv121 he156
                    have hcs226 : cs226 = _ := hcs226; subst hcs226
                    refine OG rfl rfl rfl (by rw [hg81]; rfl) (r_idxSl Tryd.underlying62 ti4 (v := v121) rfl hvb255 rfl (idxL_some he156).1 (idxL_some he156).2.1) rfl ?_
                    refine OG rfl rfl rfl (by rw [hg81]; rfl) (r_loadEl (cs := [Value.bool e156]) ti4 rfl rfl (.inr rfl) (hcb255 _ (hs.at (i := 0) rfl)) (v := Value.bool e156) rfl) rfl ?_
                    refine O (r_pickF (v := Value.bool e156) rfl hg81 rfl) rfl ?_
                    obtain ⟨y102, hy102, hM⟩ := bindS hM
                    obtain ⟨b256, cb256, hvb256, wv136, xs207, hstb256, hrelb256, hsb256⟩ := hs.rowPut (i := 1) rfl hrelxs202 hy102 (cs := [Value.bool e156]) rfl
                    refine O (r_idxSl Tryd.underlying62 ti4 (v := v123) rfl hvb256 rfl (setL_some hy102).1 (setL_some hy102).2.1) rfl ?_
                    refine O0 (r_store ti4 rfl (v := Value.bool e156) rfl rfl hstb256) ?_
                    have hs := hsb256
                    refine OW_nil ?_
                    refine WP_region ?_
                    refine O (r_move (v := Value.int .i64 xv102) rfl) rfl ?_
                    obtain ⟨t108, ht108, hM⟩ := bindS hM
                    refine O (r_addM rfl rfl ht108) rfl ?_
                    refine O (r_assign (v := Value.int .i64 t108) rfl) rfl ?_
                    refine OW_nil ?_
                    obtain rfl := Option.some.inj hM
                    exact ⟨v123, xs207, rfl, rfl, rfl, rfl, rfl, rfl, rfl, hds, hrelb256, hs⟩
                · refine WP_false rfl hc74 ?_
                  refine WP_exit ?_
                  obtain rfl := Option.some.inj hM
                  refine fun hr => ?_
                  have hM := congrArg some hr
                  obtain rfl := Option.some.inj hM
                  exact ⟨gg73, v123, xs202, rfl, rfl, rfl, rfl, rfl, hds, hagg66, hrelxs202, (hs.sub (.cons _ (.cons_cons _ (.cons_cons _ .slnil))))⟩
              · clear hs
                rintro E w ⟨gg72, v119, xs197, hE1, hE2, hE3, hE7, hE10, hds, hlegg72, hrelxs197, hs⟩
                have hM := hKhx16
                obtain ⟨E, rfl⟩ := open1 (E := E) hE1
                obtain ⟨E, rfl⟩ := open1 (E := E) hE2
                obtain ⟨E, rfl⟩ := open1 (E := E) hE3
                obtain ⟨E, rfl⟩ := open1 (E := E) hE7
                obtain ⟨E, rfl⟩ := open1 (E := E) hE10
                replace hRv1 := hRv1.mono hlegg72
                replace hRv2 := hRv2.mono hlegg72
                replace hlegg66 := hlegg66.trans hlegg72
                replace hagg66 := hagg66.trans hlegg72
                refine WP_region ?_
                refine O (r_move (v := Value.int .i64 xv90) rfl) rfl ?_
                obtain ⟨t109, ht109, hM⟩ := bindS hM
                refine O (r_addM rfl rfl ht109) rfl ?_
                refine O (r_assign (v := Value.int .i64 t109) rfl) rfl ?_
                refine OW_nil ?_
                obtain rfl := Option.some.inj hM
                exact ⟨gg72, v119, xs197, rfl, rfl, rfl, rfl, rfl, hds, hlegg66, hrelxs197, hs⟩
            · refine WP_false rfl hc68 ?_
              refine WP_exit ?_
              obtain rfl := Option.some.inj hM
              refine fun hr => ?_
              have hM := congrArg some hr
              obtain rfl := Option.some.inj hM
              exact ⟨gg66, v101, xs164, rfl, hds, hlegg66, hrelxs164, (hs.sub (.cons_cons _ (.cons _ .slnil)))⟩
          · refine WP_false rfl hc53 ?_
            refine WP_seq ?_
            refine WP_region ?_
            refine O (r_eql rfl rfl) rfl ?_
            refine O (r_assign (v := Value.bool (p1.Kind == 6)) rfl) rfl ?_
            refine OW_nil ?_
            rcases condS hM with ⟨hc75, hM⟩ | ⟨hc75, hM⟩
            · refine WP_true rfl hc75 ?_
              refine WP_seq ?_
              refine WP_region ?_
              refine O (r_move (v := v3) rfl) rfl ?_
              refine O (r_move (v := v1) rfl) rfl ?_
              obtain ⟨xs208, hrxs208, hlxs208⟩ := (id hRv1)
              refine OW_copy Tryd.underlying62 ti4 rfl hs (i := 0) rfl hrelxs1 (v := v3) rfl (u := v1) rfl (hlxs208.src hs.imm) hrxs208 rfl ?_
              intro wv137 xs209 hrelxs209 hs
              refine OW_nil ?_
              refine WP_seq ?_
              refine WP_region ?_
              refine O (r_assign (v := Value.bool true) rfl) rfl ?_
              refine OW_nil ?_
              refine WP_block ?_
              refine WP_loop (fun (st9 : (List Bool) × Bool) E w => match st9 with | (xv118, xv119) => ∃ (gg78 : Hp) (v131 : Value) (xs221 : List Value), E 1 = encS p2 ∧ E 3 = Value.pointer (some ⟨b1, 0, none⟩) ∧ E 7 = v131 ∧ E 13 = Value.bool xv119 ∧ E.ds = [] ∧ Hle g0 gg78 ∧ RowRel tBool gg78 xs221 xv118 ∧ Go.Lx.Sep g0 w0 gg78 w [.row v131 4 tBool.sz xv118.length xs221, Go.Lx.box b1 27 (([Value.int .i64 p1.Kind]) ++ ((p1.Set.1.map (Value.int .u64)) ++ ([v2])))]) hM ⟨g0, v3, xs209, rfl, rfl, rfl, rfl, hds, (Hle.refl _), hrelxs209, hs⟩ ?_
              clear hs hM
              rintro ⟨xv118, xv119⟩ o25 E w hM ⟨gg78, v131, xs221, hE1, hE3, hE7, hE13, hds, hlegg78, hrelxs221, hs⟩
              obtain ⟨E, rfl⟩ := open1 (E := E) hE1
              obtain ⟨E, rfl⟩ := open1 (E := E) hE3
              obtain ⟨E, rfl⟩ := open1 (E := E) hE7
              obtain ⟨E, rfl⟩ := open1 (E := E) hE13
              replace hRv2 := hRv2.mono hlegg78
              replace hag0 := hag0.trans hlegg78
              have hagg78 := Hle.refl gg78
              refine WP_seq ?_
              refine WP_seq ?_
              refine WP_region ?_
              refine O (r_move (v := Value.bool xv119) rfl) rfl ?_
              refine OW_nil ?_
              rcases condS hM with ⟨hc83, hM⟩ | ⟨hc83, hM⟩
              · refine WP_true rfl hc83 ?_
                refine WP_skip ?_
                refine WP_block ?_
                refine WP_seq ?_
                refine WP_region ?_
                refine O (r_assign (v := Value.bool false) rfl) rfl ?_
                refine OW_nil ?_
                refine WP_seq ?_
                refine WP_region ?_
                refine O (r_fieldAddr Tryd.underlying27 ti25 rfl rfl (by decide) rfl rfl) rfl ?_
                refine O (r_load (v := v2) ti25 rfl (hs.cell (i := 1) (o := 5) rfl (by simp [p1.Set.2]))) rfl ?_
                obtain ⟨e197, he197, hM⟩ := bindS hM
                obtain ⟨b307, ob307, cb307, hvb307, cs271, hcs271, hcb307⟩ := hRv2.at he197
                obtain ⟨cs272, cs273, cs274, rfl, hcs272, hcs273, hcs274⟩ := tT_Regex_iff.1 hcs271
                have hcs272 : cs272 = _ := hcs272; subst hcs272
                have hcs273 : cs273 = _ := hcs273; subst hcs273
                obtain ⟨v138, rfl, hRv138⟩ := hcs274
                refine O (r_idxSl Tryd.underlying25 ti27 (v := v2) rfl hvb307 rfl (idxL_some he197).1 (idxL_some he197).2.1) rfl ?_
                refine O (r_loadEl (cs := ([Value.int .i64 e197.Kind]) ++ ((e197.Set.1.map (Value.int .u64)) ++ ([v138]))) ti27 rfl (by simp [e197.Set.2]) (.inl rfl) (hcb307 _ hs.imm) (v := Value.agg (List.toArray (α := Value) (([Value.int .i64 e197.Kind]) ++ ((e197.Set.1.map (Value.int .u64)) ++ ([v138]))))) rfl) rfl ?_
                refine O (r_move (v := encS p2) rfl) rfl ?_
                refine O (r_move (v := v131) rfl) rfl ?_
                have hsL12 := hs
                have hRv2L12 := hRv2
                have hrelxs221L12 := hrelxs221
                have hRv138L12 := hRv138
                have hlegg78L12 := hlegg78
                have hagg78L12 := hagg78
                obtain ⟨gg83, hlegg83, hRgg83, hs⟩ := hs.relRow (i := 0) rfl hrelxs221
                replace hRv2 := hRv2.mono hlegg83
                replace hRv138 := hRv138.mono hlegg83
                replace hlegg78 := hlegg78.trans hlegg83
                replace hagg78 := hagg78.trans hlegg83
                obtain ⟨rv30, hrv30, hM⟩ := bindS hM
                refine C [Value.agg (List.toArray (α := Value) (([Value.int .i64 e197.Kind]) ++ ((e197.Set.1.map (Value.int .u64)) ++ ([v138])))), encS p2, v131] cf43 rfl (ih_ref08_ends hrv30 hs.imm (tT_Regex_iff.2 ⟨[Value.int .i64 e197.Kind], e197.Set.1.map (Value.int .u64), [v138], rfl, rfl, rfl, ⟨_, rfl, hRv138⟩⟩) hRgg83) rfl ?_
                rintro v139 wv152 ⟨gg84, xs233, hvv139, hegg84⟩
                obtain ⟨gg85, hlegg85, hs⟩ := hsL12.lentOwn hegg84
                simp only [List.cons_append, List.nil_append] at hs
                have hvv139 : RowRel tBool gg85 xs233 rv30 := RowRel.flat (fun _ _ _ _ h => h) hvv139
                replace hRv2 := hRv2L12.mono hlegg85
                replace hrelxs221 := hrelxs221L12.mono hlegg85
                replace hRv138 := hRv138L12.mono hlegg85
                replace hlegg78 := hlegg78L12.trans hlegg85
                replace hagg78 := hagg78L12.trans hlegg85
                refine O (r_assign (v := v139) rfl) rfl ?_
                refine OW_nil ?_
                refine WP_seq ?_
                refine WP_region ?_
                refine O (r_assign (v := Value.int .i64 0) rfl) rfl ?_
                refine OW_nil ?_
                refine WP_block ?_
                refine WP_loop (fun (st9 : (List Bool) × Bool × Int) E w => match st9 with | (xv138, xv139, xv140) => ∃ (v141 : Value) (xs237 : List Value), E 1 = encS p2 ∧ E 3 = Value.pointer (some ⟨b1, 0, none⟩) ∧ E 7 = v141 ∧ E 13 = Value.bool xv139 ∧ E 14 = v139 ∧ E 15 = Value.int .i64 xv140 ∧ E.ds = [] ∧ RowRel tBool gg85 xs237 xv138 ∧ Go.Lx.Sep g0 w0 gg85 w [.row v139 4 tBool.sz rv30.length xs233, .row v141 4 tBool.sz xv138.length xs237, Go.Lx.box b1 27 (([Value.int .i64 p1.Kind]) ++ ((p1.Set.1.map (Value.int .u64)) ++ ([v2])))]) hM ⟨v131, xs221, rfl, rfl, rfl, rfl, rfl, rfl, hds, hrelxs221, hs⟩ ?_
                clear hs hM
                rintro ⟨xv138, xv139, xv140⟩ o26 E w hM ⟨v141, xs237, hE1, hE3, hE7, hE13, hE14, hE15, hds, hrelxs237, hs⟩
                obtain ⟨E, rfl⟩ := open1 (E := E) hE1
                obtain ⟨E, rfl⟩ := open1 (E := E) hE3
                obtain ⟨E, rfl⟩ := open1 (E := E) hE7
                obtain ⟨E, rfl⟩ := open1 (E := E) hE13
                obtain ⟨E, rfl⟩ := open1 (E := E) hE14
                obtain ⟨E, rfl⟩ := open1 (E := E) hE15
                refine WP_seq ?_
                refine WP_seq ?_
                refine WP_region ?_
                refine O (r_move (v := Value.int .i64 xv140) rfl) rfl ?_
                refine O (r_move (v := v139) rfl) rfl ?_
                obtain ⟨a66, ca66, hva66⟩ := hs.rowShape (i := 0) rfl
                refine O (r_lenSl (v := v139) Tryd.underlying62 rfl hva66) rfl ?_
                refine O (r_lss rfl rfl) rfl ?_
                refine OW_nil ?_
                rcases condS hM with ⟨hc86, hM⟩ | ⟨hc86, hM⟩
                · refine WP_true rfl hc86 ?_
                  refine WP_skip ?_
                  refine WP_seq ?_
                  refine WP_block ?_
                  obtain ⟨xv145, hx25, hKhx25⟩ := bindS hM
                  refine WP_cut (fun E w => E 1 = encS p2 ∧ E 3 = Value.pointer (some ⟨b1, 0, none⟩) ∧ E 7 = v141 ∧ E 13 = Value.bool xv145 ∧ E 14 = v139 ∧ E 15 = Value.int .i64 xv140 ∧ E.ds = [] ∧ Go.Lx.Sep g0 w0 gg85 w [.row v139 4 tBool.sz rv30.length xs233, .row v141 4 tBool.sz xv138.length xs237, Go.Lx.box b1 27 (([Value.int .i64 p1.Kind]) ++ ((p1.Set.1.map (Value.int .u64)) ++ ([v2])))]) ?_ ?_
                  · have hM := hx25
                    have hagg85 := Hle.refl gg85
                    refine WP_region ?_
                    refine O (r_move (v := Value.bool xv139) rfl) rfl ?_
                    refine O (r_move (v := Value.bool xv139) rfl) rfl ?_
                    rcases condS hM with ⟨hg118, hM⟩ | ⟨hg118, hM⟩
                    · refine OK rfl rfl rfl (by rw [hg118]; rfl) rfl ?_
                      refine OK rfl rfl rfl (by rw [hg118]; rfl) rfl ?_
                      refine OK rfl rfl rfl (by rw [hg118]; rfl) rfl ?_
                      refine OK rfl rfl rfl (by rw [hg118]; rfl) rfl ?_
                      refine OK rfl rfl rfl (by rw [hg118]; rfl) rfl ?_
                      refine OKU rfl rfl rfl rfl ?_
                      refine OKU rfl rfl rfl rfl ?_
                      refine OKU rfl rfl rfl rfl ?_
                      refine OKU rfl rfl rfl rfl ?_
                      refine OKU rfl rfl rfl rfl ?_
                      refine OK rfl rfl rfl (by rw [hg118]; rfl) rfl ?_
                      refine O (r_pickT (v := Value.bool true) rfl hg118 rfl) rfl ?_
                      refine O (r_assign (v := Value.bool true) rfl) rfl ?_
                      refine OW_nil ?_
                      obtain rfl := Option.some.inj hM
                      exact ⟨rfl, rfl, rfl, rfl, rfl, rfl, hds, hs⟩
                    · refine OG rfl rfl rfl (by rw [hg118]; rfl) (r_move (v := v139) rfl) rfl ?_
                      refine OG rfl rfl rfl (by rw [hg118]; rfl) (r_move (v := Value.int .i64 xv140) rfl) rfl ?_
                      obtain ⟨e213, he213, hM⟩ := bindS hM
                      obtain ⟨b326, cb326, hvb326, cs289, hcs289, hcb326⟩ := hs.rowEl (i := 0) rfl hvv139 he213
                      have hcs289 : cs289 = _ := hcs289; subst hcs289
                      refine OG rfl rfl rfl (by rw [hg118]; rfl) (r_idxSl Tryd.underlying62 ti4 (v := v139) rfl hvb326 rfl (idxL_some he213).1 (idxL_some he213).2.1) rfl ?_
                      refine OG rfl rfl rfl (by rw [hg118]; rfl) (r_loadEl (cs := [Value.bool e213]) ti4 rfl rfl (.inr rfl) (hcb326 _ (hs.at (i := 0) rfl)) (v := Value.bool e213) rfl) rfl ?_
                      refine OG rfl rfl rfl (by rw [hg118]; rfl) (r_move (v := Value.bool e213) rfl) rfl ?_
                      rcases condS hM with ⟨hg119, hM⟩ | ⟨hg119, hM⟩
                      · refine OG rfl rfl rfl (by rw [hg119]; rfl) (r_move (v := v141) rfl) rfl ?_
                        refine OG rfl rfl rfl (by rw [hg119]; rfl) (r_move (v := Value.int .i64 xv140) rfl) rfl ?_
                        obtain ⟨e214, he214, hM⟩ := bindS hM
                        obtain ⟨b327, cb327, hvb327, cs290, hcs290, hcb327⟩ := hs.rowEl (i := 1) rfl hrelxs237 he214
                        have hcs290 : cs290 = _ := hcs290; subst hcs290
                        refine OG rfl rfl rfl (by rw [hg119]; rfl) (r_idxSl Tryd.underlying62 ti4 (v := v141) rfl hvb327 rfl (idxL_some he214).1 (idxL_some he214).2.1) rfl ?_
                        refine OG rfl rfl rfl (by rw [hg119]; rfl) (r_loadEl (cs := [Value.bool e214]) ti4 rfl rfl (.inr rfl) (hcb327 _ (hs.at (i := 1) rfl)) (v := Value.bool e214) rfl) rfl ?_
                        refine OG rfl rfl rfl (by rw [hg119]; rfl) (r_not rfl) rfl ?_
                        refine OG rfl rfl rfl (by rw [hg118]; rfl) (r_pickT (v := Value.bool (!e214)) rfl hg119 rfl) rfl ?_
                        refine O (r_pickF (v := Value.bool (!e214)) rfl hg118 rfl) rfl ?_
                        refine O (r_assign (v := Value.bool (!e214)) rfl) rfl ?_
                        refine OW_nil ?_
                        obtain rfl := Option.some.inj hM
                        exact ⟨rfl, rfl, rfl, rfl, rfl, rfl, hds, hs⟩
                      · refine OK rfl rfl rfl (by rw [hg119]; rfl) rfl ?_
                        refine OK rfl rfl rfl (by rw [hg119]; rfl) rfl ?_
                        refine OK rfl rfl rfl (by rw [hg119]; rfl) rfl ?_
                        refine OK rfl rfl rfl (by rw [hg119]; rfl) rfl ?_
                        refine OK rfl rfl rfl (by rw [hg119]; rfl) rfl ?_
                        refine OG rfl rfl rfl (by rw [hg118]; rfl) (r_pickF (v := Value.bool false) rfl hg119 rfl) rfl ?_
                        refine O (r_pickF (v := Value.bool false) rfl hg118 rfl) rfl ?_
                        refine O (r_assign (v := Value.bool false) rfl) rfl ?_
                        refine OW_nil ?_
                        obtain rfl := Option.some.inj hM
                        exact ⟨rfl, rfl, rfl, rfl, rfl, rfl, hds, hs⟩
                  · clear hs
                    rintro E w ⟨hE1, hE3, hE7, hE13, hE14, hE15, hds, hs⟩
                    have hM := hKhx25
                    obtain ⟨E, rfl⟩ := open1 (E := E) hE1
                    obtain ⟨E, rfl⟩ := open1 (E := E) hE3
                    obtain ⟨E, rfl⟩ := open1 (E := E) hE7
                    obtain ⟨E, rfl⟩ := open1 (E := E) hE13
                    obtain ⟨E, rfl⟩ := open1 (E := E) hE14
                    obtain ⟨E, rfl⟩ := open1 (E := E) hE15
                    refine WP_region ?_
                    refine O (r_move (v := v141) rfl) rfl ?_
                    refine O (r_move (v := Value.int .i64 xv140) rfl) rfl ?_
                    refine O (r_move (v := v141) rfl) rfl ?_
                    refine O (r_move (v := Value.int .i64 xv140) rfl) rfl ?_
                    obtain ⟨e215, he215, hM⟩ := bindS hM
                    obtain ⟨b328, cb328, hvb328, cs291, hcs291, hcb328⟩ := hs.rowEl (i := 1) rfl hrelxs237 he215
                    have hcs291 : cs291 = _ := hcs291; subst hcs291
                    refine O (r_idxSl Tryd.underlying62 ti4 (v := v141) rfl hvb328 rfl (idxL_some he215).1 (idxL_some he215).2.1) rfl ?_
                    refine O (r_loadEl (cs := [Value.bool e215]) ti4 rfl rfl (.inr rfl) (hcb328 _ (hs.at (i := 1) rfl)) (v := Value.bool e215) rfl) rfl ?_
                    refine O (r_move (v := Value.bool e215) rfl) rfl ?_
                    rcases condS hM with ⟨hg120, hM⟩ | ⟨hg120, hM⟩
                    · refine OK rfl rfl rfl (by rw [hg120]; rfl) rfl ?_
                      refine OK rfl rfl rfl (by rw [hg120]; rfl) rfl ?_
                      refine OK rfl rfl rfl (by rw [hg120]; rfl) rfl ?_
                      refine OK rfl rfl rfl (by rw [hg120]; rfl) rfl ?_
                      refine O (r_pickT (v := Value.bool true) rfl hg120 rfl) rfl ?_
                      obtain ⟨y119, hy119, hM⟩ := bindS hM
                      obtain ⟨b329, cb329, hvb329, wv157, xs241, hstb329, hrelb329, hsb329⟩ := hs.rowPut (i := 1) rfl hrelxs237 hy119 (cs := [Value.bool true]) rfl
                      refine O (r_idxSl Tryd.underlying62 ti4 (v := v141) rfl hvb329 rfl (setL_some hy119).1 (setL_some hy119).2.1) rfl ?_
                      refine O0 (r_store ti4 rfl (v := Value.bool true) rfl rfl hstb329) ?_
                      have hs := hsb329
                      refine OW_nil ?_
                      refine WP_region ?_
                      refine O (r_move (v := Value.int .i64 xv140) rfl) rfl ?_
                      obtain ⟨t126, ht126, hM⟩ := bindS hM
                      refine O (r_addM rfl rfl ht126) rfl ?_
                      refine O (r_assign (v := Value.int .i64 t126) rfl) rfl ?_
                      refine OW_nil ?_
                      obtain rfl := Option.some.inj hM
                      exact ⟨v141, xs241, rfl, rfl, rfl, rfl, rfl, rfl, hds, hrelb329, hs⟩
                    · refine OG rfl rfl rfl (by rw [hg120]; rfl) (r_move (v := v139) rfl) rfl ?_
                      refine OG rfl rfl rfl (by rw [hg120]; rfl) (r_move (v := Value.int .i64 xv140) rfl) rfl ?_
                      obtain ⟨e216, he216, hM⟩ := bindS hM
                      obtain ⟨b330, cb330, hvb330, cs292, hcs292, hcb330⟩ := hs.rowEl (i := 0) rfl hvv139 he216
                      have hcs292 : cs292 = _ := hcs292; subst hcs292
                      refine OG rfl rfl rfl (by rw [hg120]; rfl) (r_idxSl Tryd.underlying62 ti4 (v := v139) rfl hvb330 rfl (idxL_some he216).1 (idxL_some he216).2.1) rfl ?_
                      refine OG rfl rfl rfl (by rw [hg120]; rfl) (r_loadEl (cs := [Value.bool e216]) ti4 rfl rfl (.inr rfl) (hcb330 _ (hs.at (i := 0) rfl)) (v := Value.bool e216) rfl) rfl ?_
                      refine O (r_pickF (v := Value.bool e216) rfl hg120 rfl) rfl ?_
                      obtain ⟨y120, hy120, hM⟩ := bindS hM
                      obtain ⟨b331, cb331, hvb331, wv158, xs242, hstb331, hrelb331, hsb331⟩ := hs.rowPut (i := 1) rfl hrelxs237 hy120 (cs := [Value.bool e216]) rfl
                      refine O (r_idxSl Tryd.underlying62 ti4 (v := v141) rfl hvb331 rfl (setL_some hy120).1 (setL_some hy120).2.1) rfl ?_
                      refine O0 (r_store ti4 rfl (v := Value.bool e216) rfl rfl hstb331) ?_
                      have hs := hsb331
                      refine OW_nil ?_
                      refine WP_region ?_
                      refine O (r_move (v := Value.int .i64 xv140) rfl) rfl ?_
                      obtain ⟨t127, ht127, hM⟩ := bindS hM
                      refine O (r_addM rfl rfl ht127) rfl ?_
                      refine O (r_assign (v := Value.int .i64 t127) rfl) rfl ?_
                      refine OW_nil ?_
                      obtain rfl := Option.some.inj hM
                      exact ⟨v141, xs242, rfl, rfl, rfl, rfl, rfl, rfl, hds, hrelb331, hs⟩
                · refine WP_false rfl hc86 ?_
                  refine WP_exit ?_
                  obtain rfl := Option.some.inj hM
                  refine fun hr => ?_
                  have hM := congrArg some hr
                  obtain rfl := Option.some.inj hM
                  exact ⟨gg85, v141, xs237, rfl, rfl, rfl, rfl, hds, hlegg78, hrelxs237, (hs.sub (.cons _ (.cons_cons _ (.cons_cons _ .slnil))))⟩
              · refine WP_false rfl hc83 ?_
                refine WP_exit ?_
                obtain rfl := Option.some.inj hM
                refine fun hr => ?_
                have hM := congrArg some hr
                obtain rfl := Option.some.inj hM
                exact ⟨gg78, v131, xs221, rfl, hds, hlegg78, hrelxs221, (hs.sub (.cons_cons _ (.cons _ .slnil)))⟩
            · refine WP_false rfl hc75 ?_
              refine WP_skip ?_
              obtain rfl := Option.some.inj hM
              exact ⟨g0, v3, xs1, rfl, hds, (Hle.refl _), hrelxs1, (hs.sub (.cons_cons _ (.cons _ .slnil)))⟩
  · clear hs
    rintro E w ⟨gg43, v73, xs122, hE7, hds, hlegg43, hrelxs122, hs⟩
    have hM := hKhx13
    obtain ⟨E, rfl⟩ := open1 (E := E) hE7
    refine WP_seq ?_
    refine WP_region ?_
    refine O (r_move (v := v73) rfl) rfl ?_
    refine O (r_assign (v := v73) rfl) rfl ?_
    refine OW_nil ?_
    refine WP_ret ?_
    obtain rfl := Option.some.inj hM
    refine FL_nil hds ?_
    exact ⟨_, res1 Tryd.results43 (rv_tmp (v := v73) rfl), gg43, xs122, hrelxs122, hs⟩
theorem ref08_ends_zero : C.ref08_ends 0 := by
  unfold C.ref08_ends
  intros
  simp_all only [M.ref08_ends, reduceCtorEq]
theorem ref08_ends_all : ∀ fl, C.ref08_ends fl := by
  intro fl
  induction fl with
  | zero => exact ref08_ends_zero
  | succ fl ih =>
    exact ref08_ends_step ih
theorem ref08_ends_ok {fl : Nat} : C.ref08_ends fl := (ref08_ends_all fl)

set_option maxRecDepth 100000 in
theorem ref08_Match_ok {rv1 : T_Regex} {s1 : Str} {r : Bool} (hM : M.ref08_Match rv1 s1 = some r) {g0 : Hp} {w0 : World} (hi : Imm g0 w0) {cs1 : List Value} (hcs1 : tT_Regex.rel g0 cs1 rv1) :
    CallsV Tryd.prog 24 #[Value.agg cs1.toArray, encS s1] w0 (fun v w' => ∃ g', (VRd tBool false g' v r) ∧ Ext g0 w0 g' w') := by
  unfold M.ref08_Match at hM
  obtain ⟨cs2, cs3, cs4, rfl, hcs2, hcs3, hcs4⟩ := tT_Regex_iff.1 hcs1
  have hcs2 : cs2 = _ := hcs2; subst hcs2
  have hcs3 : cs3 = _ := hcs3; subst hcs3
  obtain ⟨v1, rfl, hRv1⟩ := hcs4
  have hs := Sep.start hi
  refine calls_of_WP (args := [Value.agg (List.toArray (α := Value) (([Value.int .i64 rv1.Kind]) ++ ((rv1.Set.1.map (Value.int .u64)) ++ ([v1])))), encS s1]) Tryd.func24 rfl Tryd.ntmps24 rfl ?_
  have hds : (argEnv [Value.agg (List.toArray (α := Value) (([Value.int .i64 rv1.Kind]) ++ ((rv1.Set.1.map (Value.int .u64)) ++ ([v1])))), encS s1]).ds = [] := rfl
  refine WP_seq ?_
  refine WP_region ?_
  refine OW_box (v := Value.agg (List.toArray (α := Value) (([Value.int .i64 rv1.Kind]) ++ ((rv1.Set.1.map (Value.int .u64)) ++ ([v1]))))) rfl hs (zs := ([Value.int .i64 rv1.Kind]) ++ ((rv1.Set.1.map (Value.int .u64)) ++ ([v1]))) rfl rfl ?_
  intro b1 wv1 hs
  refine O (r_assign (v := Value.bool false) rfl) rfl ?_
  refine OW_nil ?_
  refine WP_seq ?_
  refine WP_region ?_
  refine O (r_move (v := encS s1) rfl) rfl ?_
  refine O (r_lenStr Tryd.underlying9 rfl) rfl ?_
  obtain ⟨t1, ht1, hM⟩ := bindS hM
  refine O (r_addM rfl rfl ht1) rfl ?_
  obtain ⟨fromv1, hfromv1, hM⟩ := bindS hM
  refine OW_make (τ := tBool) (zc := [Value.bool false]) (zx := false) Tryd.underlying62 ti4 rfl rfl (by decide) hs rfl rfl hfromv1 rfl ?_
  intro v2 wv2 xs1 hrelxs1 hs
  refine O (r_assign (v := v2) rfl) rfl ?_
  refine OW_nil ?_
  refine WP_seq ?_
  refine WP_region ?_
  refine O (r_move (v := v2) rfl) rfl ?_
  obtain ⟨fromv2, hfromv2, hM⟩ := bindS hM
  obtain ⟨b2, cb2, hvb2, wv3, xs2, hstb2, hrelb2, hsb2⟩ := hs.rowPut (i := 0) rfl hrelxs1 hfromv2 (cs := [Value.bool true]) rfl
  refine O (r_idxSl Tryd.underlying62 ti4 (v := v2) rfl hvb2 rfl (setL_some hfromv2).1 (setL_some hfromv2).2.1) rfl ?_
  refine O0 (r_store ti4 rfl (v := Value.bool true) rfl rfl hstb2) ?_
  have hs := hsb2
  refine OW_nil ?_
  refine WP_seq ?_
  refine WP_region ?_
  refine O (r_loadN (cs := ([Value.int .i64 rv1.Kind]) ++ ((rv1.Set.1.map (Value.int .u64)) ++ ([v1]))) ti27 rfl (by simp [rv1.Set.2]) (hs.cells (i := 1) rfl)) rfl ?_
  refine O (r_move (v := encS s1) rfl) rfl ?_
  refine O (r_move (v := v2) rfl) rfl ?_
  have hsL1 := hs
  have hRv1L1 := hRv1
  have hrelb2L1 := hrelb2
  obtain ⟨gg1, hlegg1, hRgg1, hs⟩ := hs.relRow (i := 0) rfl hrelb2
  replace hRv1 := hRv1.mono hlegg1
  obtain ⟨l1, hl1, hM⟩ := bindS hM
  refine C [Value.agg (List.toArray (α := Value) (([Value.int .i64 rv1.Kind]) ++ ((rv1.Set.1.map (Value.int .u64)) ++ ([v1])))), encS s1, v2] cf43 rfl (ref08_ends_ok hl1 hs.imm (tT_Regex_iff.2 ⟨[Value.int .i64 rv1.Kind], rv1.Set.1.map (Value.int .u64), [v1], rfl, rfl, rfl, ⟨_, rfl, hRv1⟩⟩) hRgg1) rfl ?_
  rintro v3 wv4 ⟨gg2, xs3, hvv3, hegg2⟩
  obtain ⟨gg3, hlegg3, hs⟩ := hsL1.lentOwn hegg2
  simp only [List.cons_append, List.nil_append] at hs
  have hvv3 : RowRel tBool gg3 xs3 l1 := RowRel.flat (fun _ _ _ _ h => h) hvv3
  replace hRv1 := hRv1L1.mono hlegg3
  replace hrelb2 := hrelb2L1.mono hlegg3
  refine O (r_assign (v := v3) rfl) rfl ?_
  refine OW_nil ?_
  refine WP_seq ?_
  refine WP_region ?_
  refine O (r_move (v := v3) rfl) rfl ?_
  refine O (r_move (v := encS s1) rfl) rfl ?_
  refine O (r_lenStr Tryd.underlying9 rfl) rfl ?_
  obtain ⟨e1, he1, hM⟩ := bindS hM
  obtain ⟨b3, cb3, hvb3, cs5, hcs5, hcb3⟩ := hs.rowEl (i := 0) rfl hvv3 he1
  have hcs5 : cs5 = _ := hcs5; subst hcs5
  refine O (r_idxSl Tryd.underlying62 ti4 (v := v3) rfl hvb3 rfl (idxL_some he1).1 (idxL_some he1).2.1) rfl ?_
  refine O (r_loadEl (cs := [Value.bool e1]) ti4 rfl rfl (.inr rfl) (hcb3 _ (hs.at (i := 0) rfl)) (v := Value.bool e1) rfl) rfl ?_
  refine O (r_assign (v := Value.bool e1) rfl) rfl ?_
  refine OW_nil ?_
  refine WP_ret ?_
  obtain rfl := Option.some.inj hM
  refine FL_nil hds ?_
  exact ⟨_, res1 Tryd.results24 (rv_tmp (v := Value.bool e1) rfl), gg3, ⟨[Value.bool e1], rfl, rfl⟩, hs.ext⟩


end Go.Proofs.YtffienmbeifioaaDoor
