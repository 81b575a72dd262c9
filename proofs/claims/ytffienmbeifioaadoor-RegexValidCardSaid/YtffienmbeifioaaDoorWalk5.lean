/- The walks: what each function does is what its model says. Printed by a program of my own. -/
import Derived.Test.YtffienmbeifioaaDoorWalk4
set_option linter.unusedVariables false
set_option linter.unusedSimpArgs false
namespace Go.Proofs.YtffienmbeifioaaDoor
open Go.Lx Go.RowKit
def C.ref08_ends (fl : Nat) : Prop := ∀ {p1 : T_Regex} {p2 : Str} {p3 : (List Bool)} {r : (List Bool)} (_ : M.ref08_ends fl p1 p2 p3 = some r) {g0 : Hp} {w0 : World} (hi : Imm g0 w0) {cs1 : List Value} (hcs1 : tT_Regex.rel g0 cs1 p1) {v1 : Value} (hRv1 : RdS tBool g0 v1 p3),
    CallsV Tryd.prog 43 #[Value.agg cs1.toArray, encS p2, v1] w0 (fun v w' => ∃ g' y0, (RowRel tBool g' y0 r) ∧ Sep g0 w0 g' w' [.row v 4 tBool.sz r.length y0])
set_option maxRecDepth 100000 in
theorem ref08_ends_step {fl : Nat} (ih_ref08_ends : C.ref08_ends fl) : C.ref08_ends (fl + 1) := by
  intro p1 p2 p3 r hM g0 w0 hi cs1 hcs1 v1 hRv1
  unfold M.ref08_ends at hM
  obtain ⟨cs2, cs3, cs4, rfl, hcs2, hcs3, hcs4⟩ := tT_Regex_iff.1 hcs1
  have hcs2 : cs2 = _ := hcs2; subst hcs2
  have hcs3 : cs3 = _ := hcs3; subst hcs3
  obtain ⟨v2, rfl, hRv2⟩ := hcs4
  have hs := Sep.start hi
  refine calls_of_WP (args := [Value.agg (List.toArray (α := Value) (([Value.int .i64 p1.Kind]) ++ ((p1.Set.1.map (Value.int .u64)) ++ ([v2])))), encS p2, v1]) Tryd.func43 rfl Tryd.ntmps43 rfl ?_
  have hds : (argEnv [Value.agg (List.toArray (α := Value) (([Value.int .i64 p1.Kind]) ++ ((p1.Set.1.map (Value.int .u64)) ++ ([v2])))), encS p2, v1]).ds = [] := rfl
  refine WP_seq ?_
  refine WP_region ?_
  refine OW_box (v := Value.agg (List.toArray (α := Value) (([Value.int .i64 p1.Kind]) ++ ((p1.Set.1.map (Value.int .u64)) ++ ([v2]))))) rfl hs (zs := ([Value.int .i64 p1.Kind]) ++ ((p1.Set.1.map (Value.int .u64)) ++ ([v2]))) rfl rfl ?_
  intro b1 wv1 hs
  refine O (r_assign (v := Value.slice none 0 0) rfl) rfl ?_
  refine OW_nil ?_
  refine WP_seq ?_
  refine WP_region ?_
  refine O (r_move (v := encS p2) rfl) rfl ?_
  refine O (r_lenStr Tryd.underlying9 rfl) rfl ?_
  obtain ⟨t1, ht1, hM⟩ := bindS hM
  refine O (r_addM rfl rfl ht1) rfl ?_
  obtain ⟨l1, hl1, hM⟩ := bindS hM
  refine OW_make (τ := tBool) (zc := [Value.bool false]) (zx := false) Tryd.underlying62 ti4 rfl rfl (by decide) hs rfl rfl hl1 rfl ?_
  intro v3 wv2 xs1 hrelxs1 hs
  refine O (r_assign (v := v3) rfl) rfl ?_
  refine OW_nil ?_
  obtain ⟨xv73, hx13, hKhx13⟩ := bindS hM
  refine WP_cut (fun E w => ∃ (gg43 : Hp) (v73 : Value) (xs122 : List Value), E 7 = v73 ∧ E.ds = [] ∧ Hle g0 gg43 ∧ RowRel tBool gg43 xs122 xv73 ∧ Go.Lx.Sep g0 w0 gg43 w [.row v73 4 tBool.sz xv73.length xs122]) ?_ ?_
  · have hM := hx13
    have hag0 := Hle.refl g0
    refine WP_seq ?_
    refine WP_region ?_
    refine O (r_fieldAddr Tryd.underlying27 ti3 rfl rfl (by decide) rfl rfl) rfl ?_
    refine O (r_load (v := Value.int .i64 p1.Kind) ti3 rfl (hs.cell (i := 1) (o := 0) rfl (by simp [p1.Set.2]))) rfl ?_
    refine OW_nil ?_
    refine WP_block ?_
    refine WP_seq ?_
    refine WP_region ?_
    refine O (r_eql rfl rfl) rfl ?_
    refine O (r_assign (v := Value.bool (p1.Kind == 2)) rfl) rfl ?_
    refine OW_nil ?_
    rcases condS hM with ⟨hc44, hM⟩ | ⟨hc44, hM⟩
    · refine WP_true rfl hc44 ?_
      refine WP_region ?_
      refine O (r_move (v := v3) rfl) rfl ?_
      refine O (r_move (v := v1) rfl) rfl ?_
      obtain ⟨xs123, hrxs123, hlxs123⟩ := (id hRv1)
      refine OW_copy Tryd.underlying62 ti4 rfl hs (i := 0) rfl hrelxs1 (v := v3) rfl (u := v1) rfl (hlxs123.src hs.imm) hrxs123 rfl ?_
      intro wv81 xs124 hrelxs124 hs
      refine OW_nil ?_
      obtain rfl := Option.some.inj hM
      exact ⟨g0, v3, xs124, rfl, hds, (Hle.refl _), hrelxs124, (hs.sub (.cons_cons _ (.cons _ .slnil)))⟩
    · refine WP_false rfl hc44 ?_
      refine WP_seq ?_
      refine WP_region ?_
      refine O (r_eql rfl rfl) rfl ?_
      refine O (r_assign (v := Value.bool (p1.Kind == 3)) rfl) rfl ?_
      refine OW_nil ?_
      rcases condS hM with ⟨hc45, hM⟩ | ⟨hc45, hM⟩
      · refine WP_true rfl hc45 ?_
        refine WP_seq ?_
        refine WP_region ?_
        refine O (r_assign (v := Value.int .i64 0) rfl) rfl ?_
        refine OW_nil ?_
        refine WP_block ?_
        refine WP_loop (fun (st9 : (List Bool) × Int) E w => match st9 with | (l30, xv75) => ∃ (gg46 : Hp) (v76 : Value) (xs128 : List Value), E 1 = encS p2 ∧ E 2 = v1 ∧ E 3 = Value.pointer (some ⟨b1, 0, none⟩) ∧ E 7 = v76 ∧ E 8 = Value.int .i64 xv75 ∧ E.ds = [] ∧ Hle g0 gg46 ∧ RowRel tBool gg46 xs128 l30 ∧ Go.Lx.Sep g0 w0 gg46 w [.row v76 4 tBool.sz l30.length xs128, Go.Lx.box b1 27 (([Value.int .i64 p1.Kind]) ++ ((p1.Set.1.map (Value.int .u64)) ++ ([v2])))]) hM ⟨g0, v3, xs1, rfl, rfl, rfl, rfl, rfl, hds, (Hle.refl _), hrelxs1, hs⟩ ?_
        clear hs hM
        rintro ⟨l30, xv75⟩ o14 E w hM ⟨gg46, v76, xs128, hE1, hE2, hE3, hE7, hE8, hds, hlegg46, hrelxs128, hs⟩
        obtain ⟨E, rfl⟩ := open1 (E := E) hE1
        obtain ⟨E, rfl⟩ := open1 (E := E) hE2
        obtain ⟨E, rfl⟩ := open1 (E := E) hE3
        obtain ⟨E, rfl⟩ := open1 (E := E) hE7
        obtain ⟨E, rfl⟩ := open1 (E := E) hE8
        replace hRv1 := hRv1.mono hlegg46
        replace hRv2 := hRv2.mono hlegg46
        replace hag0 := hag0.trans hlegg46
        have hagg46 := Hle.refl gg46
        refine WP_seq ?_
        refine WP_seq ?_
        refine WP_region ?_
        refine O (r_move (v := Value.int .i64 xv75) rfl) rfl ?_
        refine O (r_move (v := encS p2) rfl) rfl ?_
        refine O (r_lenStr Tryd.underlying9 rfl) rfl ?_
        refine O (r_lss rfl rfl) rfl ?_
        refine OW_nil ?_
        rcases condS hM with ⟨hc48, hM⟩ | ⟨hc48, hM⟩
        · refine WP_true rfl hc48 ?_
          refine WP_skip ?_
          refine WP_seq ?_
          refine WP_block ?_
          refine WP_any (.q 0 (.q 1 (.q 2 (.q 3 (.q 4 (.q 5 (.q 6 (.q 7 (.q 8 (.q 9 (.q 10 (.q 11 (.q 12 (.q 13 (.s 14 (.q 15 (.q 16 (.s 17 (.leaf))))))))))))))))))) (SS g0 w0 gg46 [.row v76 4 tBool.sz l30.length xs128, Go.Lx.box b1 27 (([Value.int .i64 p1.Kind]) ++ ((p1.Set.1.map (Value.int .u64)) ++ ([v2])))]) mo (by decide +kernel) ?_
          have hs := hs.drew
          have hRv1b := hRv1
          have hRv2b := hRv2
          have hrelxs128b := hrelxs128
          have hS : SS g0 w0 gg46 [.row v76 4 tBool.sz l30.length xs128, Go.Lx.box b1 27 (([Value.int .i64 p1.Kind]) ++ ((p1.Set.1.map (Value.int .u64)) ++ ([v2])))] _ := ⟨gg46, Hle.refl _, hs⟩
          refine A rfl hS (fun w9 h9 => by obtain ⟨g9, hle9, hs⟩ := h9; exact r_move (v := v76) rfl) rfl ?_
          refine A rfl hS (fun w9 h9 => by obtain ⟨g9, hle9, hs⟩ := h9; exact r_move (v := Value.int .i64 xv75) rfl) rfl ?_
          obtain ⟨t67, ht67, hM⟩ := bindS hM
          refine A rfl hS (fun w9 h9 => by obtain ⟨g9, hle9, hs⟩ := h9; exact r_addM rfl rfl ht67) rfl ?_
          refine A rfl hS (fun w9 h9 => by obtain ⟨g9, hle9, hs⟩ := h9; exact r_move (v := v1) rfl) rfl ?_
          refine A rfl hS (fun w9 h9 => by obtain ⟨g9, hle9, hs⟩ := h9; exact r_move (v := Value.int .i64 xv75) rfl) rfl ?_
          obtain ⟨e111, he111, hM⟩ := bindS hM
          obtain ⟨b173, ob173, cb173, hvb173, cs153, hcs153, hcb173⟩ := hRv1b.at he111
          have hcs153 : cs153 = _ := hcs153; subst hcs153
          refine A rfl hS (fun w9 h9 => by obtain ⟨g9, hle9, hs⟩ := h9; exact r_idxSl Tryd.underlying62 ti4 (v := v1) rfl hvb173 rfl (idxL_some he111).1 (idxL_some he111).2.1) rfl ?_
          refine A rfl hS (fun w9 h9 => by obtain ⟨g9, hle9, hs⟩ := h9; exact r_loadEl (cs := [Value.bool e111]) ti4 rfl rfl (.inr rfl) (hcb173 _ (hs.imm.of_le hle9)) (v := Value.bool e111) rfl) rfl ?_
          refine A rfl hS (fun w9 h9 => by obtain ⟨g9, hle9, hs⟩ := h9; exact r_move (v := Value.bool e111) rfl) rfl ?_
          rcases condS hM with ⟨hg63, hM⟩ | ⟨hg63, hM⟩
          · refine AG rfl rfl rfl rfl (by rw [hg63]; rfl) hS (fun w9 h9 => by obtain ⟨g9, hle9, hs⟩ := h9; exact r_fieldAddr Tryd.underlying27 ti24 rfl rfl (by decide) rfl rfl) rfl ?_
            refine AG rfl rfl rfl rfl (by rw [hg63]; rfl) hS (fun w9 h9 => by obtain ⟨g9, hle9, hs⟩ := h9; exact r_loadN (cs := p1.Set.1.map (Value.int .u64)) ti24 rfl (by simp [p1.Set.2]) (hs.cellsAt (i := 1) (o := 1) rfl (by intro j u hj; exact sub_at (pre := [Value.int .i64 p1.Kind]) (ds := p1.Set.1.map (Value.int .u64)) (post := [v2]) rfl ((by simp)) hj))) rfl ?_
            refine AG rfl rfl rfl rfl (by rw [hg63]; rfl) hS (fun w9 h9 => by obtain ⟨g9, hle9, hs⟩ := h9; exact r_move (v := encS p2) rfl) rfl ?_
            refine AG rfl rfl rfl rfl (by rw [hg63]; rfl) hS (fun w9 h9 => by obtain ⟨g9, hle9, hs⟩ := h9; exact r_move (v := Value.int .i64 xv75) rfl) rfl ?_
            obtain ⟨c6, hc6, hM⟩ := bindS hM
            refine AG rfl rfl rfl rfl (by rw [hg63]; rfl) hS (fun w9 h9 => by obtain ⟨g9, hle9, hs⟩ := h9; exact r_idxStr Tryd.underlying9 rfl rfl hc6) rfl ?_
            refine AG rfl rfl rfl rfl (by rw [hg63]; rfl) hS (fun w9 h9 => by obtain ⟨g9, hle9, hs⟩ := h9; exact r_conv Tryd.underlying5 Tryd.underlying3 rfl) rfl ?_
            refine A1 rfl ?_
            obtain ⟨rv18, hrv18, hM⟩ := bindS hM
            refine CG rfl rfl rfl (by rw [hg63]; rfl) [encV .u64 p1.Set, Value.int .i64 (IntKind.i64.wrap c6)] cf52 rfl (ref08_Has_ok hrv18 hs.imm) rfl ?_
            rintro v79 wv88 ⟨gg49, hvv79, hegg49⟩
            have hlegg49 := hegg49.le hs.imm
            replace hs := hs.call hegg49
            replace hRv1 := hRv1.mono hlegg49
            replace hRv2 := hRv2.mono hlegg49
            replace hrelxs128 := hrelxs128.mono hlegg49
            replace hlegg46 := hlegg46.trans hlegg49
            replace hagg46 := hagg46.trans hlegg49
            obtain ⟨cs154, rfl, hcs154⟩ := hvv79
            have hcs154 : cs154 = _ := hcs154; subst hcs154
            refine OW_nil ?_
            have hS : SS g0 w0 gg46 [.row v76 4 tBool.sz l30.length xs128, Go.Lx.box b1 27 (([Value.int .i64 p1.Kind]) ++ ((p1.Set.1.map (Value.int .u64)) ++ ([v2])))] _ := ⟨gg49, hagg46, hs⟩
            refine ⟨fun _ => hS, ?_⟩
            refine A rfl hS (fun w9 h9 => by obtain ⟨g9, hle9, hs⟩ := h9; exact r_pickT (v := Value.bool rv18) rfl hg63 rfl) rfl ?_
            obtain ⟨y65, hy65, hM⟩ := bindS hM
            obtain ⟨b174, cb174, hvb174, wv89, xs132, hstb174, hrelb174, hsb174⟩ := hs.rowPut (i := 0) rfl hrelxs128 hy65 (cs := [Value.bool rv18]) rfl
            refine A rfl hS (fun w9 h9 => by obtain ⟨g9, hle9, hs⟩ := h9; exact r_idxSl Tryd.underlying62 ti4 (v := v76) rfl hvb174 rfl (setL_some hy65).1 (setL_some hy65).2.1) rfl ?_
            refine A1 rfl ?_
            refine O0 (r_store ti4 rfl (v := Value.bool rv18) rfl rfl hstb174) ?_
            have hs := hsb174
            refine OW_nil ?_
            refine ⟨fun h => absurd h (by decide +kernel), ?_⟩
            refine AN ?_
            refine WP_region ?_
            refine O (r_move (v := Value.int .i64 xv75) rfl) rfl ?_
            refine O (r_addM rfl rfl ht67) rfl ?_
            refine O (r_assign (v := Value.int .i64 t67) rfl) rfl ?_
            refine OW_nil ?_
            obtain rfl := Option.some.inj hM
            exact ⟨gg49, v76, xs132, rfl, rfl, rfl, rfl, rfl, hds, hlegg46, hrelb174, hs⟩
          · refine AK rfl rfl rfl rfl (by rw [hg63]; rfl) hS rfl ?_
            refine AK rfl rfl rfl rfl (by rw [hg63]; rfl) hS rfl ?_
            refine AK rfl rfl rfl rfl (by rw [hg63]; rfl) hS rfl ?_
            refine AK rfl rfl rfl rfl (by rw [hg63]; rfl) hS rfl ?_
            refine AK rfl rfl rfl rfl (by rw [hg63]; rfl) hS rfl ?_
            refine AK rfl rfl rfl rfl (by rw [hg63]; rfl) hS rfl ?_
            refine A1 rfl ?_
            refine OK rfl rfl rfl (by rw [hg63]; rfl) rfl ?_
            refine OW_nil ⟨fun _ => hS, ?_⟩
            refine A rfl hS (fun w9 h9 => by obtain ⟨g9, hle9, hs⟩ := h9; exact r_pickF (v := Value.bool false) rfl hg63 rfl) rfl ?_
            obtain ⟨y66, hy66, hM⟩ := bindS hM
            obtain ⟨b175, cb175, hvb175, wv90, xs133, hstb175, hrelb175, hsb175⟩ := hs.rowPut (i := 0) rfl hrelxs128 hy66 (cs := [Value.bool false]) rfl
            refine A rfl hS (fun w9 h9 => by obtain ⟨g9, hle9, hs⟩ := h9; exact r_idxSl Tryd.underlying62 ti4 (v := v76) rfl hvb175 rfl (setL_some hy66).1 (setL_some hy66).2.1) rfl ?_
            refine A1 rfl ?_
            refine O0 (r_store ti4 rfl (v := Value.bool false) rfl rfl hstb175) ?_
            have hs := hsb175
            refine OW_nil ?_
            refine ⟨fun h => absurd h (by decide +kernel), ?_⟩
            refine AN ?_
            refine WP_region ?_
            refine O (r_move (v := Value.int .i64 xv75) rfl) rfl ?_
            refine O (r_addM rfl rfl ht67) rfl ?_
            refine O (r_assign (v := Value.int .i64 t67) rfl) rfl ?_
            refine OW_nil ?_
            obtain rfl := Option.some.inj hM
            exact ⟨gg46, v76, xs133, rfl, rfl, rfl, rfl, rfl, hds, hlegg46, hrelb175, hs⟩
        · refine WP_false rfl hc48 ?_
          refine WP_exit ?_
          obtain rfl := Option.some.inj hM
          refine fun hr => ?_
          have hM := congrArg some hr
          obtain rfl := Option.some.inj hM
          exact ⟨gg46, v76, xs128, rfl, hds, hlegg46, hrelxs128, (hs.sub (.cons_cons _ (.cons _ .slnil)))⟩
      · refine WP_false rfl hc45 ?_
        refine WP_seq ?_
        refine WP_region ?_
        refine O (r_eql rfl rfl) rfl ?_
        refine O (r_assign (v := Value.bool (p1.Kind == 4)) rfl) rfl ?_
        refine OW_nil ?_
        rcases condS hM with ⟨hc49, hM⟩ | ⟨hc49, hM⟩
        · refine WP_true rfl hc49 ?_
          refine WP_seq ?_
          refine WP_region ?_
          refine O (r_move (v := v3) rfl) rfl ?_
          refine O (r_move (v := v1) rfl) rfl ?_
          obtain ⟨xs134, hrxs134, hlxs134⟩ := (id hRv1)
          refine OW_copy Tryd.underlying62 ti4 rfl hs (i := 0) rfl hrelxs1 (v := v3) rfl (u := v1) rfl (hlxs134.src hs.imm) hrxs134 rfl ?_
          intro wv91 xs135 hrelxs135 hs
          refine OW_nil ?_
          refine WP_seq ?_
          refine WP_region ?_
          refine O (r_assign (v := Value.int .i64 0) rfl) rfl ?_
          refine OW_nil ?_
          refine WP_block ?_
          refine WP_loop (fun (st9 : (List Bool) × Int) E w => match st9 with | (xv79, xv80) => ∃ (gg54 : Hp) (v83 : Value) (xs138 : List Value), E 1 = encS p2 ∧ E 3 = Value.pointer (some ⟨b1, 0, none⟩) ∧ E 7 = v83 ∧ E 9 = Value.int .i64 xv80 ∧ E.ds = [] ∧ Hle g0 gg54 ∧ RowRel tBool gg54 xs138 xv79 ∧ Go.Lx.Sep g0 w0 gg54 w [.row v83 4 tBool.sz xv79.length xs138, Go.Lx.box b1 27 (([Value.int .i64 p1.Kind]) ++ ((p1.Set.1.map (Value.int .u64)) ++ ([v2])))]) hM ⟨g0, v3, xs135, rfl, rfl, rfl, rfl, hds, (Hle.refl _), hrelxs135, hs⟩ ?_
          clear hs hM
          rintro ⟨xv79, xv80⟩ o15 E w hM ⟨gg54, v83, xs138, hE1, hE3, hE7, hE9, hds, hlegg54, hrelxs138, hs⟩
          obtain ⟨E, rfl⟩ := open1 (E := E) hE1
          obtain ⟨E, rfl⟩ := open1 (E := E) hE3
          obtain ⟨E, rfl⟩ := open1 (E := E) hE7
          obtain ⟨E, rfl⟩ := open1 (E := E) hE9
          replace hRv2 := hRv2.mono hlegg54
          replace hag0 := hag0.trans hlegg54
          have hagg54 := Hle.refl gg54
          refine WP_seq ?_
          refine WP_seq ?_
          refine WP_region ?_
          refine O (r_move (v := Value.int .i64 xv80) rfl) rfl ?_
          refine O (r_fieldAddr Tryd.underlying27 ti25 rfl rfl (by decide) rfl rfl) rfl ?_
          refine O (r_load (v := v2) ti25 rfl (hs.cell (i := 1) (o := 5) rfl (by simp [p1.Set.2]))) rfl ?_
          obtain ⟨a36, ca36, hva36⟩ := hRv2.shape
          refine O (r_lenSl (v := v2) Tryd.underlying25 rfl hva36) rfl ?_
          refine O (r_lss rfl rfl) rfl ?_
          refine OW_nil ?_
          rcases condS hM with ⟨hc52, hM⟩ | ⟨hc52, hM⟩
          · refine WP_true rfl hc52 ?_
            refine WP_skip ?_
            refine WP_seq ?_
            refine WP_block ?_
            refine WP_region ?_
            refine O (r_fieldAddr Tryd.underlying27 ti25 rfl rfl (by decide) rfl rfl) rfl ?_
            refine O (r_load (v := v2) ti25 rfl (hs.cell (i := 1) (o := 5) rfl (by simp [p1.Set.2]))) rfl ?_
            refine O (r_move (v := Value.int .i64 xv80) rfl) rfl ?_
            obtain ⟨e114, he114, hM⟩ := bindS hM
            obtain ⟨b178, ob178, cb178, hvb178, cs163, hcs163, hcb178⟩ := hRv2.at he114
            obtain ⟨cs164, cs165, cs166, rfl, hcs164, hcs165, hcs166⟩ := tT_Regex_iff.1 hcs163
            have hcs164 : cs164 = _ := hcs164; subst hcs164
            have hcs165 : cs165 = _ := hcs165; subst hcs165
            obtain ⟨v87, rfl, hRv87⟩ := hcs166
            refine O (r_idxSl Tryd.underlying25 ti27 (v := v2) rfl hvb178 rfl (idxL_some he114).1 (idxL_some he114).2.1) rfl ?_
            refine O (r_loadEl (cs := ([Value.int .i64 e114.Kind]) ++ ((e114.Set.1.map (Value.int .u64)) ++ ([v87]))) ti27 rfl (by simp [e114.Set.2]) (.inl rfl) (hcb178 _ hs.imm) (v := Value.agg (List.toArray (α := Value) (([Value.int .i64 e114.Kind]) ++ ((e114.Set.1.map (Value.int .u64)) ++ ([v87]))))) rfl) rfl ?_
            refine O (r_move (v := encS p2) rfl) rfl ?_
            refine O (r_move (v := v83) rfl) rfl ?_
            have hsL9 := hs
            have hRv2L9 := hRv2
            have hrelxs138L9 := hrelxs138
            have hRv87L9 := hRv87
            have hlegg54L9 := hlegg54
            have hagg54L9 := hagg54
            obtain ⟨gg59, hlegg59, hRgg59, hs⟩ := hs.relRow (i := 0) rfl hrelxs138
            replace hRv2 := hRv2.mono hlegg59
            replace hRv87 := hRv87.mono hlegg59
            replace hlegg54 := hlegg54.trans hlegg59
            replace hagg54 := hagg54.trans hlegg59
            obtain ⟨rv21, hrv21, hM⟩ := bindS hM
            refine C [Value.agg (List.toArray (α := Value) (([Value.int .i64 e114.Kind]) ++ ((e114.Set.1.map (Value.int .u64)) ++ ([v87])))), encS p2, v83] cf43 rfl (ih_ref08_ends hrv21 hs.imm (tT_Regex_iff.2 ⟨[Value.int .i64 e114.Kind], e114.Set.1.map (Value.int .u64), [v87], rfl, rfl, rfl, ⟨_, rfl, hRv87⟩⟩) hRgg59) rfl ?_
            rintro v88 wv94 ⟨gg60, xs141, hvv88, hegg60⟩
            obtain ⟨gg61, hlegg61, hs⟩ := hsL9.lentOwn hegg60
            simp only [List.cons_append, List.nil_append] at hs
            have hvv88 : RowRel tBool gg61 xs141 rv21 := RowRel.flat (fun _ _ _ _ h => h) hvv88
            replace hRv2 := hRv2L9.mono hlegg61
            replace hrelxs138 := hrelxs138L9.mono hlegg61
            replace hRv87 := hRv87L9.mono hlegg61
            replace hlegg54 := hlegg54L9.trans hlegg61
            replace hagg54 := hagg54L9.trans hlegg61
            refine O (r_assign (v := v88) rfl) rfl ?_
            refine OW_nil ?_
            refine WP_region ?_
            refine O (r_move (v := Value.int .i64 xv80) rfl) rfl ?_
            obtain ⟨t70, ht70, hM⟩ := bindS hM
            refine O (r_addM rfl rfl ht70) rfl ?_
            refine O (r_assign (v := Value.int .i64 t70) rfl) rfl ?_
            refine OW_nil ?_
            obtain rfl := Option.some.inj hM
            exact ⟨gg61, v88, xs141, rfl, rfl, rfl, rfl, hds, hlegg54, hvv88, (hs.sub (.cons_cons _ (.cons _ (.cons_cons _ .slnil))))⟩
          · refine WP_false rfl hc52 ?_
            refine WP_exit ?_
            obtain rfl := Option.some.inj hM
            refine fun hr => ?_
            have hM := congrArg some hr
            obtain rfl := Option.some.inj hM
            exact ⟨gg54, v83, xs138, rfl, hds, hlegg54, hrelxs138, (hs.sub (.cons_cons _ (.cons _ .slnil)))⟩
        · refine WP_false rfl hc49 ?_
          refine WP_seq ?_
          refine WP_region ?_
          refine O (r_eql rfl rfl) rfl ?_
          refine O (r_assign (v := Value.bool (p1.Kind == 5)) rfl) rfl ?_
          refine OW_nil ?_
          rcases condS hM with ⟨hc53, hM⟩ | ⟨hc53, hM⟩
          · refine WP_true rfl hc53 ?_
            refine WP_seq ?_
            refine WP_region ?_
            refine O (r_assign (v := Value.int .i64 0) rfl) rfl ?_
            refine OW_nil ?_
            refine WP_block ?_
            refine WP_loop (fun (st9 : (List Bool) × Int) E w => match st9 with | (l40, xv90) => ∃ (gg66 : Hp) (v101 : Value) (xs164 : List Value), E 1 = encS p2 ∧ E 2 = v1 ∧ E 3 = Value.pointer (some ⟨b1, 0, none⟩) ∧ E 7 = v101 ∧ E 10 = Value.int .i64 xv90 ∧ E.ds = [] ∧ Hle g0 gg66 ∧ RowRel tBool gg66 xs164 l40 ∧ Go.Lx.Sep g0 w0 gg66 w [.row v101 4 tBool.sz l40.length xs164, Go.Lx.box b1 27 (([Value.int .i64 p1.Kind]) ++ ((p1.Set.1.map (Value.int .u64)) ++ ([v2])))]) hM ⟨g0, v3, xs1, rfl, rfl, rfl, rfl, rfl, hds, (Hle.refl _), hrelxs1, hs⟩ ?_
            clear hs hM
            rintro ⟨l40, xv90⟩ o20 E w hM ⟨gg66, v101, xs164, hE1, hE2, hE3, hE7, hE10, hds, hlegg66, hrelxs164, hs⟩
            obtain ⟨E, rfl⟩ := open1 (E := E) hE1
            obtain ⟨E, rfl⟩ := open1 (E := E) hE2
            obtain ⟨E, rfl⟩ := open1 (E := E) hE3
            obtain ⟨E, rfl⟩ := open1 (E := E) hE7
            obtain ⟨E, rfl⟩ := open1 (E := E) hE10
            replace hRv1 := hRv1.mono hlegg66
            replace hRv2 := hRv2.mono hlegg66
            replace hag0 := hag0.trans hlegg66
            have hagg66 := Hle.refl gg66
            refine WP_seq ?_
            refine WP_seq ?_
            refine WP_region ?_
            refine O (r_move (v := Value.int .i64 xv90) rfl) rfl ?_
            refine O (r_fieldAddr Tryd.underlying27 ti25 rfl rfl (by decide) rfl rfl) rfl ?_
            refine O (r_load (v := v2) ti25 rfl (hs.cell (i := 1) (o := 5) rfl (by simp [p1.Set.2]))) rfl ?_
            obtain ⟨a51, ca51, hva51⟩ := hRv2.shape
            refine O (r_lenSl (v := v2) Tryd.underlying25 rfl hva51) rfl ?_
            refine O (r_lss rfl rfl) rfl ?_
            refine OW_nil ?_
            rcases condS hM with ⟨hc68, hM⟩ | ⟨hc68, hM⟩
            · refine WP_true rfl hc68 ?_
              refine WP_skip ?_
              obtain ⟨l52, hx16, hKhx16⟩ := bindS hM
              refine WP_cut (fun E w => ∃ (gg72 : Hp) (v119 : Value) (xs197 : List Value), E 1 = encS p2 ∧ E 2 = v1 ∧ E 3 = Value.pointer (some ⟨b1, 0, none⟩) ∧ E 7 = v119 ∧ E 10 = Value.int .i64 xv90 ∧ E.ds = [] ∧ Hle gg66 gg72 ∧ RowRel tBool gg72 xs197 l52 ∧ Go.Lx.Sep g0 w0 gg72 w [.row v119 4 tBool.sz l52.length xs197, Go.Lx.box b1 27 (([Value.int .i64 p1.Kind]) ++ ((p1.Set.1.map (Value.int .u64)) ++ ([v2])))]) ?_ ?_
              · have hM := hx16
                refine WP_block ?_
                refine WP_seq ?_
                refine WP_region ?_
                refine O (r_fieldAddr Tryd.underlying27 ti25 rfl rfl (by decide) rfl rfl) rfl ?_
                refine O (r_load (v := v2) ti25 rfl (hs.cell (i := 1) (o := 5) rfl (by simp [p1.Set.2]))) rfl ?_
                refine O (r_move (v := Value.int .i64 xv90) rfl) rfl ?_
                obtain ⟨e150, he150, hM⟩ := bindS hM
                obtain ⟨b244, ob244, cb244, hvb244, cs217, hcs217, hcb244⟩ := hRv2.at he150
                obtain ⟨cs218, cs219, cs220, rfl, hcs218, hcs219, hcs220⟩ := tT_Regex_iff.1 hcs217
                have hcs218 : cs218 = _ := hcs218; subst hcs218
                have hcs219 : cs219 = _ := hcs219; subst hcs219
                obtain ⟨v120, rfl, hRv120⟩ := hcs220
                refine O (r_idxSl Tryd.underlying25 ti27 (v := v2) rfl hvb244 rfl (idxL_some he150).1 (idxL_some he150).2.1) rfl ?_
                refine O (r_loadEl (cs := ([Value.int .i64 e150.Kind]) ++ ((e150.Set.1.map (Value.int .u64)) ++ ([v120]))) ti27 rfl (by simp [e150.Set.2]) (.inl rfl) (hcb244 _ hs.imm) (v := Value.agg (List.toArray (α := Value) (([Value.int .i64 e150.Kind]) ++ ((e150.Set.1.map (Value.int .u64)) ++ ([v120]))))) rfl) rfl ?_
                refine O (r_move (v := encS p2) rfl) rfl ?_
                refine O (r_move (v := v1) rfl) rfl ?_
                obtain ⟨rv27, hrv27, hM⟩ := bindS hM
                refine C [Value.agg (List.toArray (α := Value) (([Value.int .i64 e150.Kind]) ++ ((e150.Set.1.map (Value.int .u64)) ++ ([v120])))), encS p2, v1] cf43 rfl (ih_ref08_ends hrv27 hs.imm (tT_Regex_iff.2 ⟨[Value.int .i64 e150.Kind], e150.Set.1.map (Value.int .u64), [v120], rfl, rfl, rfl, ⟨_, rfl, hRv120⟩⟩) hRv1) rfl ?_
                rintro v121 wv130 ⟨gg73, xs198, hvv121, hegg73⟩
                have hlegg73 := hegg73.ext.le hs.imm
                replace hs := hs.callOwn hegg73
                simp only [List.cons_append, List.nil_append] at hs
                replace hRv1 := hRv1.mono hlegg73
                replace hRv2 := hRv2.mono hlegg73
                replace hrelxs164 := hrelxs164.mono hlegg73
                replace hRv120 := hRv120.mono hlegg73
                replace hlegg66 := hlegg66.trans hlegg73
                replace hagg66 := hagg66.trans hlegg73
                refine O (r_assign (v := v121) rfl) rfl ?_
                refine OW_nil ?_
                refine WP_seq ?_
                refine WP_region ?_
                refine O (r_assign (v := Value.int .i64 0) rfl) rfl ?_
                refine OW_nil ?_
                refine WP_block ?_
                refine WP_loop (fun (st9 : (List Bool) × Int) E w => match st9 with | (l54, xv102) => ∃ (v123 : Value) (xs202 : List Value), E 1 = encS p2 ∧ E 2 = v1 ∧ E 3 = Value.pointer (some ⟨b1, 0, none⟩) ∧ E 7 = v123 ∧ E 10 = Value.int .i64 xv90 ∧ E 11 = v121 ∧ E 12 = Value.int .i64 xv102 ∧ E.ds = [] ∧ RowRel tBool gg73 xs202 l54 ∧ Go.Lx.Sep g0 w0 gg73 w [.row v121 4 tBool.sz rv27.length xs198, .row v123 4 tBool.sz l54.length xs202, Go.Lx.box b1 27 (([Value.int .i64 p1.Kind]) ++ ((p1.Set.1.map (Value.int .u64)) ++ ([v2])))]) hM ⟨v101, xs164, rfl, rfl, rfl, rfl, rfl, rfl, rfl, hds, hrelxs164, hs⟩ ?_
                clear hs hM
                rintro ⟨l54, xv102⟩ o22 E w hM ⟨v123, xs202, hE1, hE2, hE3, hE7, hE10, hE11, hE12, hds, hrelxs202, hs⟩
                obtain ⟨E, rfl⟩ := open1 (E := E) hE1
                obtain ⟨E, rfl⟩ := open1 (E := E) hE2
                obtain ⟨E, rfl⟩ := open1 (E := E) hE3
                obtain ⟨E, rfl⟩ := open1 (E := E) hE7
                obtain ⟨E, rfl⟩ := open1 (E := E) hE10
                obtain ⟨E, rfl⟩ := open1 (E := E) hE11
                obtain ⟨E, rfl⟩ := open1 (E := E) hE12
                refine WP_seq ?_
                refine WP_seq ?_
                refine WP_region ?_
                refine O (r_move (v := Value.int .i64 xv102) rfl) rfl ?_
                refine O (r_move (v := v121) rfl) rfl ?_
                obtain ⟨a57, ca57, hva57⟩ := hs.rowShape (i := 0) rfl
                refine O (r_lenSl (v := v121) Tryd.underlying62 rfl hva57) rfl ?_
                refine O (r_lss rfl rfl) rfl ?_
                refine OW_nil ?_
                rcases condS hM with ⟨hc74, hM⟩ | ⟨hc74, hM⟩
                · refine WP_true rfl hc74 ?_
                  refine WP_skip ?_
                  refine WP_seq ?_
                  refine WP_block ?_
                  refine WP_region ?_
                  refine O (r_move (v := v123) rfl) rfl ?_
                  refine O (r_move (v := Value.int .i64 xv102) rfl) rfl ?_
                  refine O (r_move (v := v123) rfl) rfl ?_
                  refine O (r_move (v := Value.int .i64 xv102) rfl) rfl ?_
                  obtain ⟨e155, he155, hM⟩ := bindS hM
                  obtain ⟨b253, cb253, hvb253, cs225, hcs225, hcb253⟩ := hs.rowEl (i := 1) rfl hrelxs202 he155
                  have hcs225 : cs225 = _ := hcs225; subst hcs225
                  refine O (r_idxSl Tryd.underlying62 ti4 (v := v123) rfl hvb253 rfl (idxL_some he155).1 (idxL_some he155).2.1) rfl ?_
                  refine O (r_loadEl (cs := [Value.bool e155]) ti4 rfl rfl (.inr rfl) (hcb253 _ (hs.at (i := 1) rfl)) (v := Value.bool e155) rfl) rfl ?_
                  refine O (r_move (v := Value.bool e155) rfl) rfl ?_
                  rcases condS hM with ⟨hg81, hM⟩ | ⟨hg81, hM⟩
                  · refine OK rfl rfl rfl (by rw [hg81]; rfl) rfl ?_
                    refine OK rfl rfl rfl (by rw [hg81]; rfl) rfl ?_
                    refine OK rfl rfl rfl (by rw [hg81]; rfl) rfl ?_
                    refine OK rfl rfl rfl (by rw [hg81]; rfl) rfl ?_
                    refine O (r_pickT (v := Value.bool true) rfl hg81 rfl) rfl ?_
                    obtain ⟨y101, hy101, hM⟩ := bindS hM
                    obtain ⟨b254, cb254, hvb254, wv135, xs206, hstb254, hrelb254, hsb254⟩ := hs.rowPut (i := 1) rfl hrelxs202 hy101 (cs := [Value.bool true]) rfl
                    refine O (r_idxSl Tryd.underlying62 ti4 (v := v123) rfl hvb254 rfl (setL_some hy101).1 (setL_some hy101).2.1) rfl ?_
                    refine O0 (r_store ti4 rfl (v := Value.bool true) rfl rfl hstb254) ?_
                    have hs := hsb254
                    refine OW_nil ?_
                    refine WP_region ?_
                    refine O (r_move (v := Value.int .i64 xv102) rfl) rfl ?_
                    obtain ⟨t107, ht107, hM⟩ := bindS hM
                    refine O (r_addM rfl rfl ht107) rfl ?_
                    refine O (r_assign (v := Value.int .i64 t107) rfl) rfl ?_
                    refine OW_nil ?_
                    obtain rfl := Option.some.inj hM
                    exact ⟨v123, xs206, rfl, rfl, rfl, rfl, rfl, rfl, rfl, hds, hrelb254, hs⟩
                  · refine OG rfl rfl rfl (by rw [hg81]; rfl) (r_move (v := v121) rfl) rfl ?_
                    refine OG rfl rfl rfl (by rw [hg81]; rfl) (r_move (v := Value.int .i64 xv102) rfl) rfl ?_
                    obtain ⟨e156, he156, hM⟩ := bindS hM
                    obtain ⟨b255, cb255, hvb255, cs226, hcs226, hcb255⟩ := hs.rowEl (i := 0) rfl hvv121 he156
                    have hcs226 : cs226 = _ := hcs226; subst hcs226
                    refine OG rfl rfl rfl (by rw [hg81]; rfl) (r_idxSl Tryd.underlying62 ti4 (v := v121) rfl hvb255 rfl (idxL_some he156).1 (idxL_some he156).2.1) rfl ?_
                    refine OG rfl rfl rfl (by rw [hg81]; rfl) (r_loadEl (cs := [Value.bool e156]) ti4 rfl rfl (.inr rfl) (hcb255 _ (hs.at (i := 0) rfl)) (v := Value.bool e156) rfl) rfl ?_
                    refine O (r_pickF (v := Value.bool e156) rfl hg81 rfl) rfl ?_
                    obtain ⟨y102, hy102, hM⟩ := bindS hM
                    obtain ⟨b256, cb256, hvb256, wv136, xs207, hstb256, hrelb256, hsb256⟩ := hs.rowPut (i := 1) rfl hrelxs202 hy102 (cs := [Value.bool e156]) rfl
                    refine O (r_idxSl Tryd.underlying62 ti4 (v := v123) rfl hvb256 rfl (setL_some hy102).1 (setL_some hy102).2.1) rfl ?_
                    refine O0 (r_store ti4 rfl (v := Value.bool e156) rfl rfl hstb256) ?_
                    have hs := hsb256
                    refine OW_nil ?_
                    refine WP_region ?_
                    refine O (r_move (v := Value.int .i64 xv102) rfl) rfl ?_
                    obtain ⟨t108, ht108, hM⟩ := bindS hM
                    refine O (r_addM rfl rfl ht108) rfl ?_
                    refine O (r_assign (v := Value.int .i64 t108) rfl) rfl ?_
                    refine OW_nil ?_
                    obtain rfl := Option.some.inj hM
                    exact ⟨v123, xs207, rfl, rfl, rfl, rfl, rfl, rfl, rfl, hds, hrelb256, hs⟩
                · refine WP_false rfl hc74 ?_
                  refine WP_exit ?_
                  obtain rfl := Option.some.inj hM
                  refine fun hr => ?_
                  have hM := congrArg some hr
                  obtain rfl := Option.some.inj hM
                  exact ⟨gg73, v123, xs202, rfl, rfl, rfl, rfl, rfl, hds, hagg66, hrelxs202, (hs.sub (.cons _ (.cons_cons _ (.cons_cons _ .slnil))))⟩
              · clear hs
                rintro E w ⟨gg72, v119, xs197, hE1, hE2, hE3, hE7, hE10, hds, hlegg72, hrelxs197, hs⟩
                have hM := hKhx16
                obtain ⟨E, rfl⟩ := open1 (E := E) hE1
                obtain ⟨E, rfl⟩ := open1 (E := E) hE2
                obtain ⟨E, rfl⟩ := open1 (E := E) hE3
                obtain ⟨E, rfl⟩ := open1 (E := E) hE7
                obtain ⟨E, rfl⟩ := open1 (E := E) hE10
                replace hRv1 := hRv1.mono hlegg72
                replace hRv2 := hRv2.mono hlegg72
                replace hlegg66 := hlegg66.trans hlegg72
                replace hagg66 := hagg66.trans hlegg72
                refine WP_region ?_
                refine O (r_move (v := Value.int .i64 xv90) rfl) rfl ?_
                obtain ⟨t109, ht109, hM⟩ := bindS hM
                refine O (r_addM rfl rfl ht109) rfl ?_
                refine O (r_assign (v := Value.int .i64 t109) rfl) rfl ?_
                refine OW_nil ?_
                obtain rfl := Option.some.inj hM
                exact ⟨gg72, v119, xs197, rfl, rfl, rfl, rfl, rfl, hds, hlegg66, hrelxs197, hs⟩
            · refine WP_false rfl hc68 ?_
              refine WP_exit ?_
              obtain rfl := Option.some.inj hM
              refine fun hr => ?_
              have hM := congrArg some hr
              obtain rfl := Option.some.inj hM
              exact ⟨gg66, v101, xs164, rfl, hds, hlegg66, hrelxs164, (hs.sub (.cons_cons _ (.cons _ .slnil)))⟩
          · refine WP_false rfl hc53 ?_
            refine WP_seq ?_
            refine WP_region ?_
            refine O (r_eql rfl rfl) rfl ?_
            refine O (r_assign (v := Value.bool (p1.Kind == 6)) rfl) rfl ?_
            refine OW_nil ?_
            rcases condS hM with ⟨hc75, hM⟩ | ⟨hc75, hM⟩
            · refine WP_true rfl hc75 ?_
              refine WP_seq ?_
              refine WP_region ?_
              refine O (r_move (v := v3) rfl) rfl ?_
              refine O (r_move (v := v1) rfl) rfl ?_
              obtain ⟨xs208, hrxs208, hlxs208⟩ := (id hRv1)
              refine OW_copy Tryd.underlying62 ti4 rfl hs (i := 0) rfl hrelxs1 (v := v3) rfl (u := v1) rfl (hlxs208.src hs.imm) hrxs208 rfl ?_
              intro wv137 xs209 hrelxs209 hs
              refine OW_nil ?_
              refine WP_seq ?_
              refine WP_region ?_
              refine O (r_assign (v := Value.bool true) rfl) rfl ?_
              refine OW_nil ?_
              refine WP_block ?_
              refine WP_loop (fun (st9 : (List Bool) × Bool) E w => match st9 with | (xv118, xv119) => ∃ (gg78 : Hp) (v131 : Value) (xs221 : List Value), E 1 = encS p2 ∧ E 3 = Value.pointer (some ⟨b1, 0, none⟩) ∧ E 7 = v131 ∧ E 13 = Value.bool xv119 ∧ E.ds = [] ∧ Hle g0 gg78 ∧ RowRel tBool gg78 xs221 xv118 ∧ Go.Lx.Sep g0 w0 gg78 w [.row v131 4 tBool.sz xv118.length xs221, Go.Lx.box b1 27 (([Value.int .i64 p1.Kind]) ++ ((p1.Set.1.map (Value.int .u64)) ++ ([v2])))]) hM ⟨g0, v3, xs209, rfl, rfl, rfl, rfl, hds, (Hle.refl _), hrelxs209, hs⟩ ?_
              clear hs hM
              rintro ⟨xv118, xv119⟩ o25 E w hM ⟨gg78, v131, xs221, hE1, hE3, hE7, hE13, hds, hlegg78, hrelxs221, hs⟩
              obtain ⟨E, rfl⟩ := open1 (E := E) hE1
              obtain ⟨E, rfl⟩ := open1 (E := E) hE3
              obtain ⟨E, rfl⟩ := open1 (E := E) hE7
              obtain ⟨E, rfl⟩ := open1 (E := E) hE13
              replace hRv2 := hRv2.mono hlegg78
              replace hag0 := hag0.trans hlegg78
              have hagg78 := Hle.refl gg78
              refine WP_seq ?_
              refine WP_seq ?_
              refine WP_region ?_
              refine O (r_move (v := Value.bool xv119) rfl) rfl ?_
              refine OW_nil ?_
              rcases condS hM with ⟨hc83, hM⟩ | ⟨hc83, hM⟩
              · refine WP_true rfl hc83 ?_
                refine WP_skip ?_
                refine WP_block ?_
                refine WP_seq ?_
                refine WP_region ?_
                refine O (r_assign (v := Value.bool false) rfl) rfl ?_
                refine OW_nil ?_
                refine WP_seq ?_
                refine WP_region ?_
                refine O (r_fieldAddr Tryd.underlying27 ti25 rfl rfl (by decide) rfl rfl) rfl ?_
                refine O (r_load (v := v2) ti25 rfl (hs.cell (i := 1) (o := 5) rfl (by simp [p1.Set.2]))) rfl ?_
                obtain ⟨e197, he197, hM⟩ := bindS hM
                obtain ⟨b307, ob307, cb307, hvb307, cs271, hcs271, hcb307⟩ := hRv2.at he197
                obtain ⟨cs272, cs273, cs274, rfl, hcs272, hcs273, hcs274⟩ := tT_Regex_iff.1 hcs271
                have hcs272 : cs272 = _ := hcs272; subst hcs272
                have hcs273 : cs273 = _ := hcs273; subst hcs273
                obtain ⟨v138, rfl, hRv138⟩ := hcs274
                refine O (r_idxSl Tryd.underlying25 ti27 (v := v2) rfl hvb307 rfl (idxL_some he197).1 (idxL_some he197).2.1) rfl ?_
                refine O (r_loadEl (cs := ([Value.int .i64 e197.Kind]) ++ ((e197.Set.1.map (Value.int .u64)) ++ ([v138]))) ti27 rfl (by simp [e197.Set.2]) (.inl rfl) (hcb307 _ hs.imm) (v := Value.agg (List.toArray (α := Value) (([Value.int .i64 e197.Kind]) ++ ((e197.Set.1.map (Value.int .u64)) ++ ([v138]))))) rfl) rfl ?_
                refine O (r_move (v := encS p2) rfl) rfl ?_
                refine O (r_move (v := v131) rfl) rfl ?_
                have hsL12 := hs
                have hRv2L12 := hRv2
                have hrelxs221L12 := hrelxs221
                have hRv138L12 := hRv138
                have hlegg78L12 := hlegg78
                have hagg78L12 := hagg78
                obtain ⟨gg83, hlegg83, hRgg83, hs⟩ := hs.relRow (i := 0) rfl hrelxs221
                replace hRv2 := hRv2.mono hlegg83
                replace hRv138 := hRv138.mono hlegg83
                replace hlegg78 := hlegg78.trans hlegg83
                replace hagg78 := hagg78.trans hlegg83
                obtain ⟨rv30, hrv30, hM⟩ := bindS hM
                refine C [Value.agg (List.toArray (α := Value) (([Value.int .i64 e197.Kind]) ++ ((e197.Set.1.map (Value.int .u64)) ++ ([v138])))), encS p2, v131] cf43 rfl (ih_ref08_ends hrv30 hs.imm (tT_Regex_iff.2 ⟨[Value.int .i64 e197.Kind], e197.Set.1.map (Value.int .u64), [v138], rfl, rfl, rfl, ⟨_, rfl, hRv138⟩⟩) hRgg83) rfl ?_
                rintro v139 wv152 ⟨gg84, xs233, hvv139, hegg84⟩
                obtain ⟨gg85, hlegg85, hs⟩ := hsL12.lentOwn hegg84
                simp only [List.cons_append, List.nil_append] at hs
                have hvv139 : RowRel tBool gg85 xs233 rv30 := RowRel.flat (fun _ _ _ _ h => h) hvv139
                replace hRv2 := hRv2L12.mono hlegg85
                replace hrelxs221 := hrelxs221L12.mono hlegg85
                replace hRv138 := hRv138L12.mono hlegg85
                replace hlegg78 := hlegg78L12.trans hlegg85
                replace hagg78 := hagg78L12.trans hlegg85
                refine O (r_assign (v := v139) rfl) rfl ?_
                refine OW_nil ?_
                refine WP_seq ?_
                refine WP_region ?_
                refine O (r_assign (v := Value.int .i64 0) rfl) rfl ?_
                refine OW_nil ?_
                refine WP_block ?_
                refine WP_loop (fun (st9 : (List Bool) × Bool × Int) E w => match st9 with | (xv138, xv139, xv140) => ∃ (v141 : Value) (xs237 : List Value), E 1 = encS p2 ∧ E 3 = Value.pointer (some ⟨b1, 0, none⟩) ∧ E 7 = v141 ∧ E 13 = Value.bool xv139 ∧ E 14 = v139 ∧ E 15 = Value.int .i64 xv140 ∧ E.ds = [] ∧ RowRel tBool gg85 xs237 xv138 ∧ Go.Lx.Sep g0 w0 gg85 w [.row v139 4 tBool.sz rv30.length xs233, .row v141 4 tBool.sz xv138.length xs237, Go.Lx.box b1 27 (([Value.int .i64 p1.Kind]) ++ ((p1.Set.1.map (Value.int .u64)) ++ ([v2])))]) hM ⟨v131, xs221, rfl, rfl, rfl, rfl, rfl, rfl, hds, hrelxs221, hs⟩ ?_
                clear hs hM
                rintro ⟨xv138, xv139, xv140⟩ o26 E w hM ⟨v141, xs237, hE1, hE3, hE7, hE13, hE14, hE15, hds, hrelxs237, hs⟩
                obtain ⟨E, rfl⟩ := open1 (E := E) hE1
                obtain ⟨E, rfl⟩ := open1 (E := E) hE3
                obtain ⟨E, rfl⟩ := open1 (E := E) hE7
                obtain ⟨E, rfl⟩ := open1 (E := E) hE13
                obtain ⟨E, rfl⟩ := open1 (E := E) hE14
                obtain ⟨E, rfl⟩ := open1 (E := E) hE15
                refine WP_seq ?_
                refine WP_seq ?_
                refine WP_region ?_
                refine O (r_move (v := Value.int .i64 xv140) rfl) rfl ?_
                refine O (r_move (v := v139) rfl) rfl ?_
                obtain ⟨a66, ca66, hva66⟩ := hs.rowShape (i := 0) rfl
                refine O (r_lenSl (v := v139) Tryd.underlying62 rfl hva66) rfl ?_
                refine O (r_lss rfl rfl) rfl ?_
                refine OW_nil ?_
                rcases condS hM with ⟨hc86, hM⟩ | ⟨hc86, hM⟩
                · refine WP_true rfl hc86 ?_
                  refine WP_skip ?_
                  refine WP_seq ?_
                  refine WP_block ?_
                  obtain ⟨xv145, hx25, hKhx25⟩ := bindS hM
                  refine WP_cut (fun E w => E 1 = encS p2 ∧ E 3 = Value.pointer (some ⟨b1, 0, none⟩) ∧ E 7 = v141 ∧ E 13 = Value.bool xv145 ∧ E 14 = v139 ∧ E 15 = Value.int .i64 xv140 ∧ E.ds = [] ∧ Go.Lx.Sep g0 w0 gg85 w [.row v139 4 tBool.sz rv30.length xs233, .row v141 4 tBool.sz xv138.length xs237, Go.Lx.box b1 27 (([Value.int .i64 p1.Kind]) ++ ((p1.Set.1.map (Value.int .u64)) ++ ([v2])))]) ?_ ?_
                  · have hM := hx25
                    have hagg85 := Hle.refl gg85
                    refine WP_region ?_
                    refine O (r_move (v := Value.bool xv139) rfl) rfl ?_
                    refine O (r_move (v := Value.bool xv139) rfl) rfl ?_
                    rcases condS hM with ⟨hg118, hM⟩ | ⟨hg118, hM⟩
                    · refine OK rfl rfl rfl (by rw [hg118]; rfl) rfl ?_
                      refine OK rfl rfl rfl (by rw [hg118]; rfl) rfl ?_
                      refine OK rfl rfl rfl (by rw [hg118]; rfl) rfl ?_
                      refine OK rfl rfl rfl (by rw [hg118]; rfl) rfl ?_
                      refine OK rfl rfl rfl (by rw [hg118]; rfl) rfl ?_
                      refine OKU rfl rfl rfl rfl ?_
                      refine OKU rfl rfl rfl rfl ?_
                      refine OKU rfl rfl rfl rfl ?_
                      refine OKU rfl rfl rfl rfl ?_
                      refine OKU rfl rfl rfl rfl ?_
                      refine OK rfl rfl rfl (by rw [hg118]; rfl) rfl ?_
                      refine O (r_pickT (v := Value.bool true) rfl hg118 rfl) rfl ?_
                      refine O (r_assign (v := Value.bool true) rfl) rfl ?_
                      refine OW_nil ?_
                      obtain rfl := Option.some.inj hM
                      exact ⟨rfl, rfl, rfl, rfl, rfl, rfl, hds, hs⟩
                    · refine OG rfl rfl rfl (by rw [hg118]; rfl) (r_move (v := v139) rfl) rfl ?_
                      refine OG rfl rfl rfl (by rw [hg118]; rfl) (r_move (v := Value.int .i64 xv140) rfl) rfl ?_
                      obtain ⟨e213, he213, hM⟩ := bindS hM
                      obtain ⟨b326, cb326, hvb326, cs289, hcs289, hcb326⟩ := hs.rowEl (i := 0) rfl hvv139 he213
                      have hcs289 : cs289 = _ := hcs289; subst hcs289
                      refine OG rfl rfl rfl (by rw [hg118]; rfl) (r_idxSl Tryd.underlying62 ti4 (v := v139) rfl hvb326 rfl (idxL_some he213).1 (idxL_some he213).2.1) rfl ?_
                      refine OG rfl rfl rfl (by rw [hg118]; rfl) (r_loadEl (cs := [Value.bool e213]) ti4 rfl rfl (.inr rfl) (hcb326 _ (hs.at (i := 0) rfl)) (v := Value.bool e213) rfl) rfl ?_
                      refine OG rfl rfl rfl (by rw [hg118]; rfl) (r_move (v := Value.bool e213) rfl) rfl ?_
                      rcases condS hM with ⟨hg119, hM⟩ | ⟨hg119, hM⟩
                      · refine OG rfl rfl rfl (by rw [hg119]; rfl) (r_move (v := v141) rfl) rfl ?_
                        refine OG rfl rfl rfl (by rw [hg119]; rfl) (r_move (v := Value.int .i64 xv140) rfl) rfl ?_
                        obtain ⟨e214, he214, hM⟩ := bindS hM
                        obtain ⟨b327, cb327, hvb327, cs290, hcs290, hcb327⟩ := hs.rowEl (i := 1) rfl hrelxs237 he214
                        have hcs290 : cs290 = _ := hcs290; subst hcs290
                        refine OG rfl rfl rfl (by rw [hg119]; rfl) (r_idxSl Tryd.underlying62 ti4 (v := v141) rfl hvb327 rfl (idxL_some he214).1 (idxL_some he214).2.1) rfl ?_
                        refine OG rfl rfl rfl (by rw [hg119]; rfl) (r_loadEl (cs := [Value.bool e214]) ti4 rfl rfl (.inr rfl) (hcb327 _ (hs.at (i := 1) rfl)) (v := Value.bool e214) rfl) rfl ?_
                        refine OG rfl rfl rfl (by rw [hg119]; rfl) (r_not rfl) rfl ?_
                        refine OG rfl rfl rfl (by rw [hg118]; rfl) (r_pickT (v := Value.bool (!e214)) rfl hg119 rfl) rfl ?_
                        refine O (r_pickF (v := Value.bool (!e214)) rfl hg118 rfl) rfl ?_
                        refine O (r_assign (v := Value.bool (!e214)) rfl) rfl ?_
                        refine OW_nil ?_
                        obtain rfl := Option.some.inj hM
                        exact ⟨rfl, rfl, rfl, rfl, rfl, rfl, hds, hs⟩
                      · refine OK rfl rfl rfl (by rw [hg119]; rfl) rfl ?_
                        refine OK rfl rfl rfl (by rw [hg119]; rfl) rfl ?_
                        refine OK rfl rfl rfl (by rw [hg119]; rfl) rfl ?_
                        refine OK rfl rfl rfl (by rw [hg119]; rfl) rfl ?_
                        refine OK rfl rfl rfl (by rw [hg119]; rfl) rfl ?_
                        refine OG rfl rfl rfl (by rw [hg118]; rfl) (r_pickF (v := Value.bool false) rfl hg119 rfl) rfl ?_
                        refine O (r_pickF (v := Value.bool false) rfl hg118 rfl) rfl ?_
                        refine O (r_assign (v := Value.bool false) rfl) rfl ?_
                        refine OW_nil ?_
                        obtain rfl := Option.some.inj hM
                        exact ⟨rfl, rfl, rfl, rfl, rfl, rfl, hds, hs⟩
                  · clear hs
                    rintro E w ⟨hE1, hE3, hE7, hE13, hE14, hE15, hds, hs⟩
                    have hM := hKhx25
                    obtain ⟨E, rfl⟩ := open1 (E := E) hE1
                    obtain ⟨E, rfl⟩ := open1 (E := E) hE3
                    obtain ⟨E, rfl⟩ := open1 (E := E) hE7
                    obtain ⟨E, rfl⟩ := open1 (E := E) hE13
                    obtain ⟨E, rfl⟩ := open1 (E := E) hE14
                    obtain ⟨E, rfl⟩ := open1 (E := E) hE15
                    refine WP_region ?_
                    refine O (r_move (v := v141) rfl) rfl ?_
                    refine O (r_move (v := Value.int .i64 xv140) rfl) rfl ?_
                    refine O (r_move (v := v141) rfl) rfl ?_
                    refine O (r_move (v := Value.int .i64 xv140) rfl) rfl ?_
                    obtain ⟨e215, he215, hM⟩ := bindS hM
                    obtain ⟨b328, cb328, hvb328, cs291, hcs291, hcb328⟩ := hs.rowEl (i := 1) rfl hrelxs237 he215
                    have hcs291 : cs291 = _ := hcs291; subst hcs291
                    refine O (r_idxSl Tryd.underlying62 ti4 (v := v141) rfl hvb328 rfl (idxL_some he215).1 (idxL_some he215).2.1) rfl ?_
                    refine O (r_loadEl (cs := [Value.bool e215]) ti4 rfl rfl (.inr rfl) (hcb328 _ (hs.at (i := 1) rfl)) (v := Value.bool e215) rfl) rfl ?_
                    refine O (r_move (v := Value.bool e215) rfl) rfl ?_
                    rcases condS hM with ⟨hg120, hM⟩ | ⟨hg120, hM⟩
                    · refine OK rfl rfl rfl (by rw [hg120]; rfl) rfl ?_
                      refine OK rfl rfl rfl (by rw [hg120]; rfl) rfl ?_
                      refine OK rfl rfl rfl (by rw [hg120]; rfl) rfl ?_
                      refine OK rfl rfl rfl (by rw [hg120]; rfl) rfl ?_
                      refine O (r_pickT (v := Value.bool true) rfl hg120 rfl) rfl ?_
                      obtain ⟨y119, hy119, hM⟩ := bindS hM
                      obtain ⟨b329, cb329, hvb329, wv157, xs241, hstb329, hrelb329, hsb329⟩ := hs.rowPut (i := 1) rfl hrelxs237 hy119 (cs := [Value.bool true]) rfl
                      refine O (r_idxSl Tryd.underlying62 ti4 (v := v141) rfl hvb329 rfl (setL_some hy119).1 (setL_some hy119).2.1) rfl ?_
                      refine O0 (r_store ti4 rfl (v := Value.bool true) rfl rfl hstb329) ?_
                      have hs := hsb329
                      refine OW_nil ?_
                      refine WP_region ?_
                      refine O (r_move (v := Value.int .i64 xv140) rfl) rfl ?_
                      obtain ⟨t126, ht126, hM⟩ := bindS hM
                      refine O (r_addM rfl rfl ht126) rfl ?_
                      refine O (r_assign (v := Value.int .i64 t126) rfl) rfl ?_
                      refine OW_nil ?_
                      obtain rfl := Option.some.inj hM
                      exact ⟨v141, xs241, rfl, rfl, rfl, rfl, rfl, rfl, hds, hrelb329, hs⟩
                    · refine OG rfl rfl rfl (by rw [hg120]; rfl) (r_move (v := v139) rfl) rfl ?_
                      refine OG rfl rfl rfl (by rw [hg120]; rfl) (r_move (v := Value.int .i64 xv140) rfl) rfl ?_
                      obtain ⟨e216, he216, hM⟩ := bindS hM
                      obtain ⟨b330, cb330, hvb330, cs292, hcs292, hcb330⟩ := hs.rowEl (i := 0) rfl hvv139 he216
                      have hcs292 : cs292 = _ := hcs292; subst hcs292
                      refine OG rfl rfl rfl (by rw [hg120]; rfl) (r_idxSl Tryd.underlying62 ti4 (v := v139) rfl hvb330 rfl (idxL_some he216).1 (idxL_some he216).2.1) rfl ?_
                      refine OG rfl rfl rfl (by rw [hg120]; rfl) (r_loadEl (cs := [Value.bool e216]) ti4 rfl rfl (.inr rfl) (hcb330 _ (hs.at (i := 0) rfl)) (v := Value.bool e216) rfl) rfl ?_
                      refine O (r_pickF (v := Value.bool e216) rfl hg120 rfl) rfl ?_
                      obtain ⟨y120, hy120, hM⟩ := bindS hM
                      obtain ⟨b331, cb331, hvb331, wv158, xs242, hstb331, hrelb331, hsb331⟩ := hs.rowPut (i := 1) rfl hrelxs237 hy120 (cs := [Value.bool e216]) rfl
                      refine O (r_idxSl Tryd.underlying62 ti4 (v := v141) rfl hvb331 rfl (setL_some hy120).1 (setL_some hy120).2.1) rfl ?_
                      refine O0 (r_store ti4 rfl (v := Value.bool e216) rfl rfl hstb331) ?_
                      have hs := hsb331
                      refine OW_nil ?_
                      refine WP_region ?_
                      refine O (r_move (v := Value.int .i64 xv140) rfl) rfl ?_
                      obtain ⟨t127, ht127, hM⟩ := bindS hM
                      refine O (r_addM rfl rfl ht127) rfl ?_
                      refine O (r_assign (v := Value.int .i64 t127) rfl) rfl ?_
                      refine OW_nil ?_
                      obtain rfl := Option.some.inj hM
                      exact ⟨v141, xs242, rfl, rfl, rfl, rfl, rfl, rfl, hds, hrelb331, hs⟩
                · refine WP_false rfl hc86 ?_
                  refine WP_exit ?_
                  obtain rfl := Option.some.inj hM
                  refine fun hr => ?_
                  have hM := congrArg some hr
                  obtain rfl := Option.some.inj hM
                  exact ⟨gg85, v141, xs237, rfl, rfl, rfl, rfl, hds, hlegg78, hrelxs237, (hs.sub (.cons _ (.cons_cons _ (.cons_cons _ .slnil))))⟩
              · refine WP_false rfl hc83 ?_
                refine WP_exit ?_
                obtain rfl := Option.some.inj hM
                refine fun hr => ?_
                have hM := congrArg some hr
                obtain rfl := Option.some.inj hM
                exact ⟨gg78, v131, xs221, rfl, hds, hlegg78, hrelxs221, (hs.sub (.cons_cons _ (.cons _ .slnil)))⟩
            · refine WP_false rfl hc75 ?_
              refine WP_skip ?_
              obtain rfl := Option.some.inj hM
              exact ⟨g0, v3, xs1, rfl, hds, (Hle.refl _), hrelxs1, (hs.sub (.cons_cons _ (.cons _ .slnil)))⟩
  · clear hs
    rintro E w ⟨gg43, v73, xs122, hE7, hds, hlegg43, hrelxs122, hs⟩
    have hM := hKhx13
    obtain ⟨E, rfl⟩ := open1 (E := E) hE7
    refine WP_seq ?_
    refine WP_region ?_
    refine O (r_move (v := v73) rfl) rfl ?_
    refine O (r_assign (v := v73) rfl) rfl ?_
    refine OW_nil ?_
    refine WP_ret ?_
    obtain rfl := Option.some.inj hM
    refine FL_nil hds ?_
    exact ⟨_, res1 Tryd.results43 (rv_tmp (v := v73) rfl), gg43, xs122, hrelxs122, hs⟩
theorem ref08_ends_zero : C.ref08_ends 0 := by
  unfold C.ref08_ends
  intros
  simp_all only [M.ref08_ends, reduceCtorEq]
theorem ref08_ends_all : ∀ fl, C.ref08_ends fl := by
  intro fl
  induction fl with
  | zero => exact ref08_ends_zero
  | succ fl ih =>
    exact ref08_ends_step ih
theorem ref08_ends_ok {fl : Nat} : C.ref08_ends fl := (ref08_ends_all fl)

set_option maxRecDepth 100000 in
theorem ref08_Match_ok {rv1 : T_Regex} {s1 : Str} {r : Bool} (hM : M.ref08_Match rv1 s1 = some r) {g0 : Hp} {w0 : World} (hi : Imm g0 w0) {cs1 : List Value} (hcs1 : tT_Regex.rel g0 cs1 rv1) :
    CallsV Tryd.prog 24 #[Value.agg cs1.toArray, encS s1] w0 (fun v w' => ∃ g', (VRd tBool false g' v r) ∧ Ext g0 w0 g' w') := by
  unfold M.ref08_Match at hM
  obtain ⟨cs2, cs3, cs4, rfl, hcs2, hcs3, hcs4⟩ := tT_Regex_iff.1 hcs1
  have hcs2 : cs2 = _ := hcs2; subst hcs2
  have hcs3 : cs3 = _ := hcs3; subst hcs3
  obtain ⟨v1, rfl, hRv1⟩ := hcs4
  have hs := Sep.start hi
  refine calls_of_WP (args := [Value.agg (List.toArray (α := Value) (([Value.int .i64 rv1.Kind]) ++ ((rv1.Set.1.map (Value.int .u64)) ++ ([v1])))), encS s1]) Tryd.func24 rfl Tryd.ntmps24 rfl ?_
  have hds : (argEnv [Value.agg (List.toArray (α := Value) (([Value.int .i64 rv1.Kind]) ++ ((rv1.Set.1.map (Value.int .u64)) ++ ([v1])))), encS s1]).ds = [] := rfl
  refine WP_seq ?_
  refine WP_region ?_
  refine OW_box (v := Value.agg (List.toArray (α := Value) (([Value.int .i64 rv1.Kind]) ++ ((rv1.Set.1.map (Value.int .u64)) ++ ([v1]))))) rfl hs (zs := ([Value.int .i64 rv1.Kind]) ++ ((rv1.Set.1.map (Value.int .u64)) ++ ([v1]))) rfl rfl ?_
  intro b1 wv1 hs
  refine O (r_assign (v := Value.bool false) rfl) rfl ?_
  refine OW_nil ?_
  refine WP_seq ?_
  refine WP_region ?_
  refine O (r_move (v := encS s1) rfl) rfl ?_
  refine O (r_lenStr Tryd.underlying9 rfl) rfl ?_
  obtain ⟨t1, ht1, hM⟩ := bindS hM
  refine O (r_addM rfl rfl ht1) rfl ?_
  obtain ⟨fromv1, hfromv1, hM⟩ := bindS hM
  refine OW_make (τ := tBool) (zc := [Value.bool false]) (zx := false) Tryd.underlying62 ti4 rfl rfl (by decide) hs rfl rfl hfromv1 rfl ?_
  intro v2 wv2 xs1 hrelxs1 hs
  refine O (r_assign (v := v2) rfl) rfl ?_
  refine OW_nil ?_
  refine WP_seq ?_
  refine WP_region ?_
  refine O (r_move (v := v2) rfl) rfl ?_
  obtain ⟨fromv2, hfromv2, hM⟩ := bindS hM
  obtain ⟨b2, cb2, hvb2, wv3, xs2, hstb2, hrelb2, hsb2⟩ := hs.rowPut (i := 0) rfl hrelxs1 hfromv2 (cs := [Value.bool true]) rfl
  refine O (r_idxSl Tryd.underlying62 ti4 (v := v2) rfl hvb2 rfl (setL_some hfromv2).1 (setL_some hfromv2).2.1) rfl ?_
  refine O0 (r_store ti4 rfl (v := Value.bool true) rfl rfl hstb2) ?_
  have hs := hsb2
  refine OW_nil ?_
  refine WP_seq ?_
  refine WP_region ?_
  refine O (r_loadN (cs := ([Value.int .i64 rv1.Kind]) ++ ((rv1.Set.1.map (Value.int .u64)) ++ ([v1]))) ti27 rfl (by simp [rv1.Set.2]) (hs.cells (i := 1) rfl)) rfl ?_
  refine O (r_move (v := encS s1) rfl) rfl ?_
  refine O (r_move (v := v2) rfl) rfl ?_
  have hsL1 := hs
  have hRv1L1 := hRv1
  have hrelb2L1 := hrelb2
  obtain ⟨gg1, hlegg1, hRgg1, hs⟩ := hs.relRow (i := 0) rfl hrelb2
  replace hRv1 := hRv1.mono hlegg1
  obtain ⟨l1, hl1, hM⟩ := bindS hM
  refine C [Value.agg (List.toArray (α := Value) (([Value.int .i64 rv1.Kind]) ++ ((rv1.Set.1.map (Value.int .u64)) ++ ([v1])))), encS s1, v2] cf43 rfl (ref08_ends_ok hl1 hs.imm (tT_Regex_iff.2 ⟨[Value.int .i64 rv1.Kind], rv1.Set.1.map (Value.int .u64), [v1], rfl, rfl, rfl, ⟨_, rfl, hRv1⟩⟩) hRgg1) rfl ?_
  rintro v3 wv4 ⟨gg2, xs3, hvv3, hegg2⟩
  obtain ⟨gg3, hlegg3, hs⟩ := hsL1.lentOwn hegg2
  simp only [List.cons_append, List.nil_append] at hs
  have hvv3 : RowRel tBool gg3 xs3 l1 := RowRel.flat (fun _ _ _ _ h => h) hvv3
  replace hRv1 := hRv1L1.mono hlegg3
  replace hrelb2 := hrelb2L1.mono hlegg3
  refine O (r_assign (v := v3) rfl) rfl ?_
  refine OW_nil ?_
  refine WP_seq ?_
  refine WP_region ?_
  refine O (r_move (v := v3) rfl) rfl ?_
  refine O (r_move (v := encS s1) rfl) rfl ?_
  refine O (r_lenStr Tryd.underlying9 rfl) rfl ?_
  obtain ⟨e1, he1, hM⟩ := bindS hM
  obtain ⟨b3, cb3, hvb3, cs5, hcs5, hcb3⟩ := hs.rowEl (i := 0) rfl hvv3 he1
  have hcs5 : cs5 = _ := hcs5; subst hcs5
  refine O (r_idxSl Tryd.underlying62 ti4 (v := v3) rfl hvb3 rfl (idxL_some he1).1 (idxL_some he1).2.1) rfl ?_
  refine O (r_loadEl (cs := [Value.bool e1]) ti4 rfl rfl (.inr rfl) (hcb3 _ (hs.at (i := 0) rfl)) (v := Value.bool e1) rfl) rfl ?_
  refine O (r_assign (v := Value.bool e1) rfl) rfl ?_
  refine OW_nil ?_
  refine WP_ret ?_
  obtain rfl := Option.some.inj hM
  refine FL_nil hds ?_
  exact ⟨_, res1 Tryd.results24 (rv_tmp (v := Value.bool e1) rfl), gg3, ⟨[Value.bool e1], rfl, rfl⟩, hs.ext⟩

set_option maxRecDepth 100000 in
theorem ref08_parser_next_ok {p1 : T_ref08_parser} {r : Int} (hM : M.ref08_parser_next p1 = some r) {g0 : Hp} {w0 : World} {gi : Hp} {wi : World} {Lt : List Res} {b1 : Nat} (hs : Sep g0 w0 gi wi (Go.Lx.box b1 52 ([encS p1.s, Value.int .i64 p1.atv, Value.bool p1.bad]) :: Lt)) :
    CallsV Tryd.prog 51 #[Value.pointer (some ⟨b1, 0, none⟩)] wi (fun v w' => ∃ g', (VRd (tInt .i64) false g' v r) ∧ Hle gi g' ∧ Sep g0 w0 g' w' (Go.Lx.box b1 52 ([encS p1.s, Value.int .i64 p1.atv, Value.bool p1.bad]) :: Lt)) := by
  unfold M.ref08_parser_next at hM
  have hagi := Hle.refl gi
  refine calls_of_WP (args := [Value.pointer (some ⟨b1, 0, none⟩)]) Tryd.func51 rfl Tryd.ntmps51 rfl ?_
  have hds : (argEnv [Value.pointer (some ⟨b1, 0, none⟩)]).ds = [] := rfl
  refine WP_seq ?_
  refine WP_region ?_
  refine O (r_assign (v := Value.int .i64 0) rfl) rfl ?_
  refine OW_nil ?_
  refine WP_seq ?_
  refine WP_seq ?_
  refine WP_draw mo (by decide +kernel) ?_
  have hs := hs.drew
  refine S (r_move (v := Value.pointer (some ⟨b1, 0, none⟩)) rfl) rfl ?_
  refine S (r_nilCheck rfl) rfl ?_
  refine S (r_fieldAddr Tryd.underlying52 ti3 rfl rfl (by decide) rfl rfl) rfl ?_
  refine S (r_load (v := Value.int .i64 p1.atv) ti3 rfl (hs.cell (i := 0) (o := 1) rfl rfl)) rfl ?_
  refine S (r_move (v := Value.pointer (some ⟨b1, 0, none⟩)) rfl) rfl ?_
  refine S (r_nilCheck rfl) rfl ?_
  refine S (r_fieldAddr Tryd.underlying52 ti9 rfl rfl (by decide) rfl rfl) rfl ?_
  refine S (r_load (v := encS p1.s) ti9 rfl (hs.cell (i := 0) (o := 0) rfl rfl)) rfl ?_
  refine S (r_lenStr Tryd.underlying9 rfl) rfl ?_
  refine S (r_geq rfl rfl) rfl ?_
  refine SW_nil ?_
  rcases condS hM with ⟨hc1, hM⟩ | ⟨hc1, hM⟩
  · refine WP_true rfl hc1 ?_
    refine WP_seq ?_
    refine WP_region ?_
    refine O (r_assign (v := Value.int .i64 (-1)) rfl) rfl ?_
    refine OW_nil ?_
    refine WP_ret ?_
    obtain rfl := Option.some.inj hM
    refine FL_nil hds ?_
    exact ⟨_, res1 Tryd.results51 (rv_tmp (v := Value.int .i64 (-1)) rfl), gi, ⟨[Value.int .i64 (-1)], rfl, rfl⟩, (Hle.refl _), hs⟩
  · refine WP_false rfl hc1 ?_
    refine WP_skip ?_
    refine WP_seq ?_
    refine WP_draw mo (by decide +kernel) ?_
    have hs := hs.drew
    refine S (r_move (v := Value.pointer (some ⟨b1, 0, none⟩)) rfl) rfl ?_
    refine S (r_nilCheck rfl) rfl ?_
    refine S (r_fieldAddr Tryd.underlying52 ti9 rfl rfl (by decide) rfl rfl) rfl ?_
    refine S (r_load (v := encS p1.s) ti9 rfl (hs.cell (i := 0) (o := 0) rfl rfl)) rfl ?_
    refine S (r_move (v := Value.pointer (some ⟨b1, 0, none⟩)) rfl) rfl ?_
    refine S (r_nilCheck rfl) rfl ?_
    refine S (r_fieldAddr Tryd.underlying52 ti3 rfl rfl (by decide) rfl rfl) rfl ?_
    refine S (r_load (v := Value.int .i64 p1.atv) ti3 rfl (hs.cell (i := 0) (o := 1) rfl rfl)) rfl ?_
    obtain ⟨c1, hc1, hM⟩ := bindS hM
    refine S (r_idxStr Tryd.underlying9 rfl rfl hc1) rfl ?_
    refine S (r_conv Tryd.underlying5 Tryd.underlying3 rfl) rfl ?_
    refine S (r_assign (v := Value.int .i64 (IntKind.i64.wrap c1)) rfl) rfl ?_
    refine SW_nil ?_
    refine WP_ret ?_
    obtain rfl := Option.some.inj hM
    refine FL_nil hds ?_
    exact ⟨_, res1 Tryd.results51 (rv_tmp (v := Value.int .i64 (IntKind.i64.wrap c1)) rfl), gi, ⟨[Value.int .i64 (IntKind.i64.wrap c1)], rfl, rfl⟩, (Hle.refl _), hs⟩

set_option maxRecDepth 100000 in
theorem ref08_plain_ok {b1 : Int} {brackets1 : Bool} {r : Bool} (hM : M.ref08_plain b1 brackets1 = some r) {g0 : Hp} {w0 : World} (hi : Imm g0 w0) :
    CallsV Tryd.prog 73 #[Value.int .i64 b1, Value.bool brackets1] w0 (fun v w' => ∃ g', (VRd tBool false g' v r) ∧ Ext g0 w0 g' w') := by
  unfold M.ref08_plain at hM
  have hs := Sep.start hi
  refine calls_of_WP (args := [Value.int .i64 b1, Value.bool brackets1]) Tryd.func73 rfl Tryd.ntmps73 rfl ?_
  have hds : (argEnv [Value.int .i64 b1, Value.bool brackets1]).ds = [] := rfl
  refine WP_seq ?_
  refine WP_region ?_
  refine O (r_assign (v := Value.bool false) rfl) rfl ?_
  refine OW_nil ?_
  refine WP_seq ?_
  obtain ⟨xv1, hx1, hKhx1⟩ := bindS hM
  refine WP_cut (fun E w => E 0 = Value.int .i64 b1 ∧ E 1 = Value.bool brackets1 ∧ E 12 = Value.bool xv1 ∧ E.ds = [] ∧ Go.Lx.Sep g0 w0 g0 w []) ?_ ?_
  · have hM := hx1
    have hag0 := Hle.refl g0
    refine WP_region ?_
    refine O (r_move (v := Value.int .i64 b1) rfl) rfl ?_
    refine O (r_lss rfl rfl) rfl ?_
    refine O (r_move (v := Value.bool (decide (b1 < 32))) rfl) rfl ?_
    rcases condS hM with ⟨hg2, hM⟩ | ⟨hg2, hM⟩
    · refine OK rfl rfl rfl (by rw [hg2]; rfl) rfl ?_
      refine OK rfl rfl rfl (by rw [hg2]; rfl) rfl ?_
      refine O (r_pickT (v := Value.bool true) rfl hg2 rfl) rfl ?_
      refine OW_nil ?_
      obtain rfl := Option.some.inj hM
      exact ⟨rfl, rfl, rfl, hds, hs⟩
    · refine OG rfl rfl rfl (by rw [hg2]; rfl) (r_move (v := Value.int .i64 b1) rfl) rfl ?_
      refine OG rfl rfl rfl (by rw [hg2]; rfl) (r_gtr rfl rfl) rfl ?_
      refine O (r_pickF (v := Value.bool (decide (126 < b1))) rfl hg2 rfl) rfl ?_
      refine OW_nil ?_
      obtain rfl := Option.some.inj hM
      exact ⟨rfl, rfl, rfl, hds, hs⟩
  · clear hs
    rintro E w ⟨hE0, hE1, hE12, hds, hs⟩
    have hM := hKhx1
    obtain ⟨E, rfl⟩ := open1 (E := E) hE0
    obtain ⟨E, rfl⟩ := open1 (E := E) hE1
    obtain ⟨E, rfl⟩ := open1 (E := E) hE12
    rcases condS hM with ⟨hc1, hM⟩ | ⟨hc1, hM⟩
    · refine WP_true rfl hc1 ?_
      refine WP_seq ?_
      refine WP_region ?_
      refine O (r_assign (v := Value.bool false) rfl) rfl ?_
      refine OW_nil ?_
      refine WP_ret ?_
      obtain rfl := Option.some.inj hM
      refine FL_nil hds ?_
      exact ⟨_, res1 Tryd.results73 (rv_tmp (v := Value.bool false) rfl), g0, ⟨[Value.bool false], rfl, rfl⟩, hs.ext⟩
    · refine WP_false rfl hc1 ?_
      refine WP_skip ?_
      refine WP_seq ?_
      refine WP_region ?_
      refine O (r_assign (v := encS [40, 41, 91, 93, 124, 42, 43, 63, 46, 92]) rfl) rfl ?_
      refine OW_nil ?_
      obtain ⟨special1, hx2, hKhx2⟩ := bindS hM
      refine WP_cut (fun E w => E 0 = Value.int .i64 b1 ∧ E 5 = encS special1 ∧ E.ds = [] ∧ Go.Lx.Sep g0 w0 g0 w []) ?_ ?_
      · have hM := hx2
        have hag0 := Hle.refl g0
        refine WP_seq ?_
        refine WP_region ?_
        refine O (r_move (v := Value.bool brackets1) rfl) rfl ?_
        refine OW_nil ?_
        rcases condS hM with ⟨hc3, hM⟩ | ⟨hc3, hM⟩
        · refine WP_true rfl hc3 ?_
          refine WP_region ?_
          refine O (r_assign (v := encS [93, 92, 45]) rfl) rfl ?_
          refine OW_nil ?_
          obtain rfl := Option.some.inj hM
          exact ⟨rfl, rfl, hds, hs⟩
        · refine WP_false rfl hc3 ?_
          refine WP_skip ?_
          obtain rfl := Option.some.inj hM
          exact ⟨rfl, rfl, hds, hs⟩
      · clear hs
        rintro E w ⟨hE0, hE5, hds, hs⟩
        have hM := hKhx2
        obtain ⟨E, rfl⟩ := open1 (E := E) hE0
        obtain ⟨E, rfl⟩ := open1 (E := E) hE5
        obtain ⟨o3, hx3, hKhx3⟩ := stepS hM
        refine WP_cut (fun E w => ∃ u9 : Unit, o3 = .next u9 ∧ E.ds = [] ∧ Go.Lx.Sep g0 w0 g0 w []) ?_ ?_
        · have hM := hx3
          have hag0 := Hle.refl g0
          refine WP_seq ?_
          refine WP_region ?_
          refine O (r_assign (v := Value.int .i64 0) rfl) rfl ?_
          refine OW_nil ?_
          refine WP_block ?_
          refine WP_loop (fun (i5 : Int) E w => E 0 = Value.int .i64 b1 ∧ E 5 = encS special1 ∧ E 6 = Value.int .i64 i5 ∧ E.ds = [] ∧ Go.Lx.Sep g0 w0 g0 w []) hM ⟨rfl, rfl, rfl, hds, hs⟩ ?_
          clear hs hM
          rintro i5 o2 E w hM ⟨hE0, hE5, hE6, hds, hs⟩
          obtain ⟨E, rfl⟩ := open1 (E := E) hE0
          obtain ⟨E, rfl⟩ := open1 (E := E) hE5
          obtain ⟨E, rfl⟩ := open1 (E := E) hE6
          refine WP_seq ?_
          refine WP_seq ?_
          refine WP_region ?_
          refine O (r_move (v := Value.int .i64 i5) rfl) rfl ?_
          refine O (r_move (v := encS special1) rfl) rfl ?_
          refine O (r_lenStr Tryd.underlying9 rfl) rfl ?_
          refine O (r_lss rfl rfl) rfl ?_
          refine OW_nil ?_
          rcases condS hM with ⟨hc14, hM⟩ | ⟨hc14, hM⟩
          · refine WP_true rfl hc14 ?_
            refine WP_skip ?_
            refine WP_seq ?_
            refine WP_block ?_
            refine WP_seq ?_
            refine WP_region ?_
            refine O (r_move (v := encS special1) rfl) rfl ?_
            refine O (r_move (v := Value.int .i64 i5) rfl) rfl ?_
            obtain ⟨c6, hc6, hM⟩ := bindS hM
            refine O (r_idxStr Tryd.underlying9 rfl rfl hc6) rfl ?_
            refine O (r_conv Tryd.underlying5 Tryd.underlying3 rfl) rfl ?_
            refine O (r_move (v := Value.int .i64 b1) rfl) rfl ?_
            refine O (r_eql rfl rfl) rfl ?_
            refine OW_nil ?_
            rcases condS hM with ⟨hc15, hM⟩ | ⟨hc15, hM⟩
            · refine WP_true rfl hc15 ?_
              refine WP_seq ?_
              refine WP_region ?_
              refine O (r_assign (v := Value.bool false) rfl) rfl ?_
              refine OW_nil ?_
              refine WP_ret ?_
              obtain rfl := Option.some.inj hM
              refine fun hr => ?_
              have hM := congrArg some hr
              obtain rfl := Option.some.inj hM
              have hM := hKhx3
              obtain rfl := Option.some.inj hM
              refine FL_nil hds ?_
              exact ⟨_, res1 Tryd.results73 (rv_tmp (v := Value.bool false) rfl), g0, ⟨[Value.bool false], rfl, rfl⟩, hs.ext⟩
            · refine WP_false rfl hc15 ?_
              refine WP_skip ?_
              refine WP_region ?_
              refine O (r_move (v := Value.int .i64 i5) rfl) rfl ?_
              obtain ⟨t6, ht6, hM⟩ := bindS hM
              refine O (r_addM rfl rfl ht6) rfl ?_
              refine O (r_assign (v := Value.int .i64 t6) rfl) rfl ?_
              refine OW_nil ?_
              obtain rfl := Option.some.inj hM
              exact ⟨rfl, rfl, rfl, hds, hs⟩
          · refine WP_false rfl hc14 ?_
            refine WP_exit ?_
            obtain rfl := Option.some.inj hM
            refine fun hr => ?_
            have hM := congrArg some hr
            obtain rfl := Option.some.inj hM
            exact ⟨(), rfl, hds, hs⟩
        · clear hs
          rintro E w ⟨_, rfl, hds, hs⟩
          have hM := hKhx3
          dsimp only [onStep] at hM
          refine WP_seq ?_
          refine WP_region ?_
          refine O (r_assign (v := Value.bool true) rfl) rfl ?_
          refine OW_nil ?_
          refine WP_ret ?_
          obtain rfl := Option.some.inj hM
          refine FL_nil hds ?_
          exact ⟨_, res1 Tryd.results73 (rv_tmp (v := Value.bool true) rfl), g0, ⟨[Value.bool true], rfl, rfl⟩, hs.ext⟩

set_option maxRecDepth 100000 in
theorem ref08_letter_ok {b1 : Int} {r : Bool} (hM : M.ref08_letter b1 = some r) {g0 : Hp} {w0 : World} (hi : Imm g0 w0) :
    CallsV Tryd.prog 93 #[Value.int .i64 b1] w0 (fun v w' => ∃ g', (VRd tBool false g' v r) ∧ Ext g0 w0 g' w') := by
  unfold M.ref08_letter at hM
  have hs := Sep.start hi
  refine calls_of_WP (args := [Value.int .i64 b1]) Tryd.func93 rfl Tryd.ntmps93 rfl ?_
  have hds : (argEnv [Value.int .i64 b1]).ds = [] := rfl
  refine WP_seq ?_
  refine WP_region ?_
  refine O (r_assign (v := Value.bool false) rfl) rfl ?_
  refine OW_nil ?_
  obtain ⟨xv1, hx1, hKhx1⟩ := bindS hM
  refine WP_cut (fun E w => E 2 = Value.bool xv1 ∧ E.ds = [] ∧ Go.Lx.Sep g0 w0 g0 w []) ?_ ?_
  · have hM := hx1
    have hag0 := Hle.refl g0
    refine WP_region ?_
    refine O (r_move (v := Value.int .i64 b1) rfl) rfl ?_
    refine O (r_geq rfl rfl) rfl ?_
    refine O (r_move (v := Value.bool (decide (48 ≤ b1))) rfl) rfl ?_
    rcases condS hM with ⟨hg11, hM⟩ | ⟨hg11, hM⟩
    · refine OG rfl rfl rfl (by rw [hg11]; rfl) (r_move (v := Value.int .i64 b1) rfl) rfl ?_
      refine OG rfl rfl rfl (by rw [hg11]; rfl) (r_leq rfl rfl) rfl ?_
      refine O (r_pickT (v := Value.bool (decide (b1 ≤ 57))) rfl hg11 rfl) rfl ?_
      refine O (r_move (v := Value.bool (decide (b1 ≤ 57))) rfl) rfl ?_
      rcases condS hM with ⟨hg12, hM⟩ | ⟨hg12, hM⟩
      · refine OK rfl rfl rfl (by rw [hg12]; rfl) rfl ?_
        refine OK rfl rfl rfl (by rw [hg12]; rfl) rfl ?_
        refine OK rfl rfl rfl (by rw [hg12]; rfl) rfl ?_
        refine OKU rfl rfl rfl rfl ?_
        refine OKU rfl rfl rfl rfl ?_
        refine OK rfl rfl rfl (by rw [hg12]; rfl) rfl ?_
        refine O (r_pickT (v := Value.bool true) rfl hg12 rfl) rfl ?_
        refine O (r_move (v := Value.bool true) rfl) rfl ?_
        refine OK rfl rfl rfl rfl rfl ?_
        refine OK rfl rfl rfl rfl rfl ?_
        refine OK rfl rfl rfl rfl rfl ?_
        refine OKU rfl rfl rfl rfl ?_
        refine OKU rfl rfl rfl rfl ?_
        refine OK rfl rfl rfl rfl rfl ?_
        refine O (r_pickT (v := Value.bool true) rfl rfl rfl) rfl ?_
        refine O (r_assign (v := Value.bool true) rfl) rfl ?_
        refine OW_nil ?_
        obtain rfl := Option.some.inj hM
        exact ⟨rfl, hds, hs⟩
      · refine OG rfl rfl rfl (by rw [hg12]; rfl) (r_move (v := Value.int .i64 b1) rfl) rfl ?_
        refine OG rfl rfl rfl (by rw [hg12]; rfl) (r_geq rfl rfl) rfl ?_
        refine OG rfl rfl rfl (by rw [hg12]; rfl) (r_move (v := Value.bool (decide (97 ≤ b1))) rfl) rfl ?_
        rcases condS hM with ⟨hg13, hM⟩ | ⟨hg13, hM⟩
        · refine OG rfl rfl rfl (by rw [hg13]; rfl) (r_move (v := Value.int .i64 b1) rfl) rfl ?_
          refine OG rfl rfl rfl (by rw [hg13]; rfl) (r_leq rfl rfl) rfl ?_
          refine OG rfl rfl rfl (by rw [hg12]; rfl) (r_pickT (v := Value.bool (decide (b1 ≤ 122))) rfl hg13 rfl) rfl ?_
          refine O (r_pickF (v := Value.bool (decide (b1 ≤ 122))) rfl hg12 rfl) rfl ?_
          refine O (r_move (v := Value.bool (decide (b1 ≤ 122))) rfl) rfl ?_
          rcases condS hM with ⟨hg14, hM⟩ | ⟨hg14, hM⟩
          · refine OK rfl rfl rfl (by rw [hg14]; rfl) rfl ?_
            refine OK rfl rfl rfl (by rw [hg14]; rfl) rfl ?_
            refine OK rfl rfl rfl (by rw [hg14]; rfl) rfl ?_
            refine OKU rfl rfl rfl rfl ?_
            refine OKU rfl rfl rfl rfl ?_
            refine OK rfl rfl rfl (by rw [hg14]; rfl) rfl ?_
            refine O (r_pickT (v := Value.bool true) rfl hg14 rfl) rfl ?_
            refine O (r_assign (v := Value.bool true) rfl) rfl ?_
            refine OW_nil ?_
            obtain rfl := Option.some.inj hM
            exact ⟨rfl, hds, hs⟩
          · refine OG rfl rfl rfl (by rw [hg14]; rfl) (r_move (v := Value.int .i64 b1) rfl) rfl ?_
            refine OG rfl rfl rfl (by rw [hg14]; rfl) (r_geq rfl rfl) rfl ?_
            refine OG rfl rfl rfl (by rw [hg14]; rfl) (r_move (v := Value.bool (decide (65 ≤ b1))) rfl) rfl ?_
            rcases condS hM with ⟨hg15, hM⟩ | ⟨hg15, hM⟩
            · refine OG rfl rfl rfl (by rw [hg15]; rfl) (r_move (v := Value.int .i64 b1) rfl) rfl ?_
              refine OG rfl rfl rfl (by rw [hg15]; rfl) (r_leq rfl rfl) rfl ?_
              refine OG rfl rfl rfl (by rw [hg14]; rfl) (r_pickT (v := Value.bool (decide (b1 ≤ 90))) rfl hg15 rfl) rfl ?_
              refine O (r_pickF (v := Value.bool (decide (b1 ≤ 90))) rfl hg14 rfl) rfl ?_
              refine O (r_assign (v := Value.bool (decide (b1 ≤ 90))) rfl) rfl ?_
              refine OW_nil ?_
              obtain rfl := Option.some.inj hM
              exact ⟨rfl, hds, hs⟩
            · refine OK rfl rfl rfl (by rw [hg15]; rfl) rfl ?_
              refine OK rfl rfl rfl (by rw [hg15]; rfl) rfl ?_
              refine OG rfl rfl rfl (by rw [hg14]; rfl) (r_pickF (v := Value.bool false) rfl hg15 rfl) rfl ?_
              refine O (r_pickF (v := Value.bool false) rfl hg14 rfl) rfl ?_
              refine O (r_assign (v := Value.bool false) rfl) rfl ?_
              refine OW_nil ?_
              obtain rfl := Option.some.inj hM
              exact ⟨rfl, hds, hs⟩
        · refine OK rfl rfl rfl (by rw [hg13]; rfl) rfl ?_
          refine OK rfl rfl rfl (by rw [hg13]; rfl) rfl ?_
          refine OG rfl rfl rfl (by rw [hg12]; rfl) (r_pickF (v := Value.bool false) rfl hg13 rfl) rfl ?_
          refine O (r_pickF (v := Value.bool false) rfl hg12 rfl) rfl ?_
          refine O (r_move (v := Value.bool false) rfl) rfl ?_
          refine OG rfl rfl rfl rfl (r_move (v := Value.int .i64 b1) rfl) rfl ?_
          refine OG rfl rfl rfl rfl (r_geq rfl rfl) rfl ?_
          refine OG rfl rfl rfl rfl (r_move (v := Value.bool (decide (65 ≤ b1))) rfl) rfl ?_
          rcases condS hM with ⟨hg16, hM⟩ | ⟨hg16, hM⟩
          · refine OG rfl rfl rfl (by rw [hg16]; rfl) (r_move (v := Value.int .i64 b1) rfl) rfl ?_
            refine OG rfl rfl rfl (by rw [hg16]; rfl) (r_leq rfl rfl) rfl ?_
            refine OG rfl rfl rfl rfl (r_pickT (v := Value.bool (decide (b1 ≤ 90))) rfl hg16 rfl) rfl ?_
            refine O (r_pickF (v := Value.bool (decide (b1 ≤ 90))) rfl rfl rfl) rfl ?_
            refine O (r_assign (v := Value.bool (decide (b1 ≤ 90))) rfl) rfl ?_
            refine OW_nil ?_
            obtain rfl := Option.some.inj hM
            exact ⟨rfl, hds, hs⟩
          · refine OK rfl rfl rfl (by rw [hg16]; rfl) rfl ?_
            refine OK rfl rfl rfl (by rw [hg16]; rfl) rfl ?_
            refine OG rfl rfl rfl rfl (r_pickF (v := Value.bool false) rfl hg16 rfl) rfl ?_
            refine O (r_pickF (v := Value.bool false) rfl rfl rfl) rfl ?_
            refine O (r_assign (v := Value.bool false) rfl) rfl ?_
            refine OW_nil ?_
            obtain rfl := Option.some.inj hM
            exact ⟨rfl, hds, hs⟩
    · refine OK rfl rfl rfl (by rw [hg11]; rfl) rfl ?_
      refine OK rfl rfl rfl (by rw [hg11]; rfl) rfl ?_
      refine O (r_pickF (v := Value.bool false) rfl hg11 rfl) rfl ?_
      refine O (r_move (v := Value.bool false) rfl) rfl ?_
      refine OG rfl rfl rfl rfl (r_move (v := Value.int .i64 b1) rfl) rfl ?_
      refine OG rfl rfl rfl rfl (r_geq rfl rfl) rfl ?_
      refine OG rfl rfl rfl rfl (r_move (v := Value.bool (decide (97 ≤ b1))) rfl) rfl ?_
      rcases condS hM with ⟨hg17, hM⟩ | ⟨hg17, hM⟩
      · refine OG rfl rfl rfl (by rw [hg17]; rfl) (r_move (v := Value.int .i64 b1) rfl) rfl ?_
        refine OG rfl rfl rfl (by rw [hg17]; rfl) (r_leq rfl rfl) rfl ?_
        refine OG rfl rfl rfl rfl (r_pickT (v := Value.bool (decide (b1 ≤ 122))) rfl hg17 rfl) rfl ?_
        refine O (r_pickF (v := Value.bool (decide (b1 ≤ 122))) rfl rfl rfl) rfl ?_
        refine O (r_move (v := Value.bool (decide (b1 ≤ 122))) rfl) rfl ?_
        rcases condS hM with ⟨hg18, hM⟩ | ⟨hg18, hM⟩
        · refine OK rfl rfl rfl (by rw [hg18]; rfl) rfl ?_
          refine OK rfl rfl rfl (by rw [hg18]; rfl) rfl ?_
          refine OK rfl rfl rfl (by rw [hg18]; rfl) rfl ?_
          refine OKU rfl rfl rfl rfl ?_
          refine OKU rfl rfl rfl rfl ?_
          refine OK rfl rfl rfl (by rw [hg18]; rfl) rfl ?_
          refine O (r_pickT (v := Value.bool true) rfl hg18 rfl) rfl ?_
          refine O (r_assign (v := Value.bool true) rfl) rfl ?_
          refine OW_nil ?_
          obtain rfl := Option.some.inj hM
          exact ⟨rfl, hds, hs⟩
        · refine OG rfl rfl rfl (by rw [hg18]; rfl) (r_move (v := Value.int .i64 b1) rfl) rfl ?_
          refine OG rfl rfl rfl (by rw [hg18]; rfl) (r_geq rfl rfl) rfl ?_
          refine OG rfl rfl rfl (by rw [hg18]; rfl) (r_move (v := Value.bool (decide (65 ≤ b1))) rfl) rfl ?_
          rcases condS hM with ⟨hg19, hM⟩ | ⟨hg19, hM⟩
          · refine OG rfl rfl rfl (by rw [hg19]; rfl) (r_move (v := Value.int .i64 b1) rfl) rfl ?_
            refine OG rfl rfl rfl (by rw [hg19]; rfl) (r_leq rfl rfl) rfl ?_
            refine OG rfl rfl rfl (by rw [hg18]; rfl) (r_pickT (v := Value.bool (decide (b1 ≤ 90))) rfl hg19 rfl) rfl ?_
            refine O (r_pickF (v := Value.bool (decide (b1 ≤ 90))) rfl hg18 rfl) rfl ?_
            refine O (r_assign (v := Value.bool (decide (b1 ≤ 90))) rfl) rfl ?_
            refine OW_nil ?_
            obtain rfl := Option.some.inj hM
            exact ⟨rfl, hds, hs⟩
          · refine OK rfl rfl rfl (by rw [hg19]; rfl) rfl ?_
            refine OK rfl rfl rfl (by rw [hg19]; rfl) rfl ?_
            refine OG rfl rfl rfl (by rw [hg18]; rfl) (r_pickF (v := Value.bool false) rfl hg19 rfl) rfl ?_
            refine O (r_pickF (v := Value.bool false) rfl hg18 rfl) rfl ?_
            refine O (r_assign (v := Value.bool false) rfl) rfl ?_
            refine OW_nil ?_
            obtain rfl := Option.some.inj hM
            exact ⟨rfl, hds, hs⟩
      · refine OK rfl rfl rfl (by rw [hg17]; rfl) rfl ?_
        refine OK rfl rfl rfl (by rw [hg17]; rfl) rfl ?_
        refine OG rfl rfl rfl rfl (r_pickF (v := Value.bool false) rfl hg17 rfl) rfl ?_
        refine O (r_pickF (v := Value.bool false) rfl rfl rfl) rfl ?_
        refine O (r_move (v := Value.bool false) rfl) rfl ?_
        refine OG rfl rfl rfl rfl (r_move (v := Value.int .i64 b1) rfl) rfl ?_
        refine OG rfl rfl rfl rfl (r_geq rfl rfl) rfl ?_
        refine OG rfl rfl rfl rfl (r_move (v := Value.bool (decide (65 ≤ b1))) rfl) rfl ?_
        rcases condS hM with ⟨hg20, hM⟩ | ⟨hg20, hM⟩
        · refine OG rfl rfl rfl (by rw [hg20]; rfl) (r_move (v := Value.int .i64 b1) rfl) rfl ?_
          refine OG rfl rfl rfl (by rw [hg20]; rfl) (r_leq rfl rfl) rfl ?_
          refine OG rfl rfl rfl rfl (r_pickT (v := Value.bool (decide (b1 ≤ 90))) rfl hg20 rfl) rfl ?_
          refine O (r_pickF (v := Value.bool (decide (b1 ≤ 90))) rfl rfl rfl) rfl ?_
          refine O (r_assign (v := Value.bool (decide (b1 ≤ 90))) rfl) rfl ?_
          refine OW_nil ?_
          obtain rfl := Option.some.inj hM
          exact ⟨rfl, hds, hs⟩
        · refine OK rfl rfl rfl (by rw [hg20]; rfl) rfl ?_
          refine OK rfl rfl rfl (by rw [hg20]; rfl) rfl ?_
          refine OG rfl rfl rfl rfl (r_pickF (v := Value.bool false) rfl hg20 rfl) rfl ?_
          refine O (r_pickF (v := Value.bool false) rfl rfl rfl) rfl ?_
          refine O (r_assign (v := Value.bool false) rfl) rfl ?_
          refine OW_nil ?_
          obtain rfl := Option.some.inj hM
          exact ⟨rfl, hds, hs⟩
  · clear hs
    rintro E w ⟨hE2, hds, hs⟩
    have hM := hKhx1
    obtain ⟨E, rfl⟩ := open1 (E := E) hE2
    refine WP_ret ?_
    obtain rfl := Option.some.inj hM
    refine FL_nil hds ?_
    exact ⟨_, res1 Tryd.results93 (rv_tmp (v := Value.bool xv1) rfl), g0, ⟨[Value.bool xv1], rfl, rfl⟩, hs.ext⟩

set_option maxRecDepth 100000 in
theorem ref08_parser_char_ok {p1 : T_ref08_parser} {p2 : Bool} {r : Int × T_ref08_parser} (hM : M.ref08_parser_char p1 p2 = some r) {g0 : Hp} {w0 : World} {gi : Hp} {wi : World} {Lt : List Res} {b1 : Nat} (hs : Sep g0 w0 gi wi (Go.Lx.box b1 52 ([encS p1.s, Value.int .i64 p1.atv, Value.bool p1.bad]) :: Lt)) :
    CallsV Tryd.prog 88 #[Value.pointer (some ⟨b1, 0, none⟩), Value.bool p2] wi (fun v w' => ∃ g', (VRd (tInt .i64) false g' v r.1) ∧ Hle gi g' ∧ Sep g0 w0 g' w' (Go.Lx.box b1 52 ([encS r.2.s, Value.int .i64 r.2.atv, Value.bool r.2.bad]) :: Lt)) := by
  unfold M.ref08_parser_char at hM
  have hagi := Hle.refl gi
  refine calls_of_WP (args := [Value.pointer (some ⟨b1, 0, none⟩), Value.bool p2]) Tryd.func88 rfl Tryd.ntmps88 rfl ?_
  have hds : (argEnv [Value.pointer (some ⟨b1, 0, none⟩), Value.bool p2]).ds = [] := rfl
  refine WP_seq ?_
  refine WP_region ?_
  refine O (r_assign (v := Value.int .i64 0) rfl) rfl ?_
  refine OW_nil ?_
  refine WP_seq ?_
  refine WP_region ?_
  refine O (r_move (v := Value.pointer (some ⟨b1, 0, none⟩)) rfl) rfl ?_
  obtain ⟨rv1, hrv1, hM⟩ := bindS hM
  refine C [Value.pointer (some ⟨b1, 0, none⟩)] cf51 rfl (ref08_parser_next_ok hrv1 hs) rfl ?_
  rintro v1 wv1 ⟨gg1, hvv1, hlegg1, hs⟩
  replace hagi := hagi.trans hlegg1
  obtain ⟨cs1, rfl, hcs1⟩ := hvv1
  have hcs1 : cs1 = _ := hcs1; subst hcs1
  refine O (r_assign (v := Value.int .i64 rv1) rfl) rfl ?_
  refine OW_nil ?_
  refine WP_seq ?_
  refine WP_seq ?_
  refine WP_region ?_
  refine O (r_move (v := Value.int .i64 rv1) rfl) rfl ?_
  refine O (r_eql rfl rfl) rfl ?_
  refine OW_nil ?_
  rcases condS hM with ⟨hc1, hM⟩ | ⟨hc1, hM⟩
  · refine WP_true rfl hc1 ?_
    refine WP_seq ?_
    refine WP_region ?_
    refine O (r_move (v := Value.pointer (some ⟨b1, 0, none⟩)) rfl) rfl ?_
    refine O (r_nilCheck rfl) rfl ?_
    refine O (r_fieldAddr Tryd.underlying52 ti3 rfl rfl (by decide) rfl rfl) rfl ?_
    refine O (r_load (v := Value.int .i64 p1.atv) ti3 rfl (hs.cell (i := 0) (o := 1) rfl rfl)) rfl ?_
    obtain ⟨t1, ht1, hM⟩ := bindS hM
    refine O (r_addM rfl rfl ht1) rfl ?_
    refine O (r_nilCheck rfl) rfl ?_
    refine O (r_fieldAddr Tryd.underlying52 ti3 rfl rfl (by decide) rfl rfl) rfl ?_
    refine OW_store1 ti3 hs (i := 0) rfl rfl (v := Value.int .i64 t1) rfl rfl (o := 1) (by simp) ?_
    intro wv2 hs
    refine OW_nil ?_
    refine WP_seq ?_
    refine WP_region ?_
    refine O (r_move (v := Value.pointer (some ⟨b1, 0, none⟩)) rfl) rfl ?_
    obtain ⟨rv2, hrv2, hM⟩ := bindS hM
    refine C [Value.pointer (some ⟨b1, 0, none⟩)] cf51 rfl (ref08_parser_next_ok hrv2 hs) rfl ?_
    rintro v2 wv3 ⟨gg2, hvv2, hlegg2, hs⟩
    replace hagi := hagi.trans hlegg2
    obtain ⟨cs2, rfl, hcs2⟩ := hvv2
    have hcs2 : cs2 = _ := hcs2; subst hcs2
    refine O (r_assign (v := Value.int .i64 rv2) rfl) rfl ?_
    refine OW_nil ?_
    refine WP_seq ?_
    refine WP_block ?_
    refine WP_seq ?_
    refine WP_region ?_
    refine O (r_move (v := Value.int .i64 rv2) rfl) rfl ?_
    refine O (r_eql rfl rfl) rfl ?_
    refine O (r_assign (v := Value.bool (rv2 == 110)) rfl) rfl ?_
    refine OW_nil ?_
    rcases condS hM with ⟨hc2, hM⟩ | ⟨hc2, hM⟩
    · refine WP_true rfl hc2 ?_
      refine WP_seq ?_
      refine WP_region ?_
      refine O (r_move (v := Value.pointer (some ⟨b1, 0, none⟩)) rfl) rfl ?_
      refine O (r_nilCheck rfl) rfl ?_
      refine O (r_fieldAddr Tryd.underlying52 ti3 rfl rfl (by decide) rfl rfl) rfl ?_
      refine O (r_load (v := Value.int .i64 t1) ti3 rfl (hs.cell (i := 0) (o := 1) rfl rfl)) rfl ?_
      obtain ⟨t2, ht2, hM⟩ := bindS hM
      refine O (r_addM rfl rfl ht2) rfl ?_
      refine O (r_nilCheck rfl) rfl ?_
      refine O (r_fieldAddr Tryd.underlying52 ti3 rfl rfl (by decide) rfl rfl) rfl ?_
      refine OW_store1 ti3 hs (i := 0) rfl rfl (v := Value.int .i64 t2) rfl rfl (o := 1) (by simp) ?_
      intro wv4 hs
      refine OW_nil ?_
      refine WP_seq ?_
      refine WP_region ?_
      refine O (r_assign (v := Value.int .i64 10) rfl) rfl ?_
      refine OW_nil ?_
      refine WP_ret ?_
      obtain rfl := Option.some.inj hM
      refine FL_nil hds ?_
      exact ⟨_, res1 Tryd.results88 (rv_tmp (v := Value.int .i64 10) rfl), gg2, ⟨[Value.int .i64 10], rfl, rfl⟩, hagi, hs⟩
    · refine WP_false rfl hc2 ?_
      refine WP_seq ?_
      refine WP_region ?_
      refine O (r_move (v := Value.int .i64 rv2) rfl) rfl ?_
      refine O (r_eql rfl rfl) rfl ?_
      refine O (r_assign (v := Value.bool (rv2 == 116)) rfl) rfl ?_
      refine OW_nil ?_
      rcases condS hM with ⟨hc3, hM⟩ | ⟨hc3, hM⟩
      · refine WP_true rfl hc3 ?_
        refine WP_seq ?_
        refine WP_region ?_
        refine O (r_move (v := Value.pointer (some ⟨b1, 0, none⟩)) rfl) rfl ?_
        refine O (r_nilCheck rfl) rfl ?_
        refine O (r_fieldAddr Tryd.underlying52 ti3 rfl rfl (by decide) rfl rfl) rfl ?_
        refine O (r_load (v := Value.int .i64 t1) ti3 rfl (hs.cell (i := 0) (o := 1) rfl rfl)) rfl ?_
        obtain ⟨t3, ht3, hM⟩ := bindS hM
        refine O (r_addM rfl rfl ht3) rfl ?_
        refine O (r_nilCheck rfl) rfl ?_
        refine O (r_fieldAddr Tryd.underlying52 ti3 rfl rfl (by decide) rfl rfl) rfl ?_
        refine OW_store1 ti3 hs (i := 0) rfl rfl (v := Value.int .i64 t3) rfl rfl (o := 1) (by simp) ?_
        intro wv5 hs
        refine OW_nil ?_
        refine WP_seq ?_
        refine WP_region ?_
        refine O (r_assign (v := Value.int .i64 9) rfl) rfl ?_
        refine OW_nil ?_
        refine WP_ret ?_
        obtain rfl := Option.some.inj hM
        refine FL_nil hds ?_
        exact ⟨_, res1 Tryd.results88 (rv_tmp (v := Value.int .i64 9) rfl), gg2, ⟨[Value.int .i64 9], rfl, rfl⟩, hagi, hs⟩
      · refine WP_false rfl hc3 ?_
        obtain ⟨xv1, hx1, hKhx1⟩ := bindS hM
        refine WP_cut (fun E w => ∃ (gg4 : Hp), E 0 = Value.pointer (some ⟨b1, 0, none⟩) ∧ E 5 = Value.int .i64 rv2 ∧ E 39 = Value.bool xv1 ∧ E.ds = [] ∧ Hle gg2 gg4 ∧ Go.Lx.Sep g0 w0 gg4 w (Go.Lx.box b1 52 ([encS p1.s, Value.int .i64 t1, Value.bool p1.bad]) :: Lt)) ?_ ?_
        · have hM := hx1
          have hagg2 := Hle.refl gg2
          refine WP_region ?_
          refine O (r_move (v := Value.int .i64 rv2) rfl) rfl ?_
          refine O (r_geq rfl rfl) rfl ?_
          refine O (r_move (v := Value.bool (decide (32 ≤ rv2))) rfl) rfl ?_
          rcases condS hM with ⟨hg3, hM⟩ | ⟨hg3, hM⟩
          · refine OG rfl rfl rfl (by rw [hg3]; rfl) (r_move (v := Value.int .i64 rv2) rfl) rfl ?_
            refine OG rfl rfl rfl (by rw [hg3]; rfl) (r_leq rfl rfl) rfl ?_
            refine O (r_pickT (v := Value.bool (decide (rv2 ≤ 126))) rfl hg3 rfl) rfl ?_
            refine O (r_move (v := Value.bool (decide (rv2 ≤ 126))) rfl) rfl ?_
            rcases condS hM with ⟨hg4, hM⟩ | ⟨hg4, hM⟩
            · refine OG rfl rfl rfl (by rw [hg4]; rfl) (r_move (v := Value.int .i64 rv2) rfl) rfl ?_
              obtain ⟨rv4, hrv4, hM⟩ := bindS hM
              refine CG rfl rfl rfl (by rw [hg4]; rfl) [Value.int .i64 rv2] cf93 rfl (ref08_letter_ok hrv4 hs.imm) rfl ?_
              rintro v4 wv7 ⟨gg5, hvv4, hegg5⟩
              have hlegg5 := hegg5.le hs.imm
              replace hs := hs.call hegg5
              replace hagi := hagi.trans hlegg5
              replace hagg2 := hagg2.trans hlegg5
              obtain ⟨cs4, rfl, hcs4⟩ := hvv4
              have hcs4 : cs4 = _ := hcs4; subst hcs4
              refine OG rfl rfl rfl (by rw [hg4]; rfl) (r_not rfl) rfl ?_
              refine O (r_pickT (v := Value.bool (!rv4)) rfl hg4 rfl) rfl ?_
              refine O (r_assign (v := Value.bool (!rv4)) rfl) rfl ?_
              refine OW_nil ?_
              obtain rfl := Option.some.inj hM
              exact ⟨gg5, rfl, rfl, rfl, hds, hagg2, hs⟩
            · refine OK rfl rfl rfl (by rw [hg4]; rfl) rfl ?_
              refine OK rfl rfl rfl (by rw [hg4]; rfl) rfl ?_
              refine OK rfl rfl rfl (by rw [hg4]; rfl) rfl ?_
              refine O (r_pickF (v := Value.bool false) rfl hg4 rfl) rfl ?_
              refine O (r_assign (v := Value.bool false) rfl) rfl ?_
              refine OW_nil ?_
              obtain rfl := Option.some.inj hM
              exact ⟨gg2, rfl, rfl, rfl, hds, (Hle.refl _), hs⟩
          · refine OK rfl rfl rfl (by rw [hg3]; rfl) rfl ?_
            refine OK rfl rfl rfl (by rw [hg3]; rfl) rfl ?_
            refine O (r_pickF (v := Value.bool false) rfl hg3 rfl) rfl ?_
            refine O (r_move (v := Value.bool false) rfl) rfl ?_
            refine OK rfl rfl rfl rfl rfl ?_
            refine OK rfl rfl rfl rfl rfl ?_
            refine OK rfl rfl rfl rfl rfl ?_
            refine O (r_pickF (v := Value.bool false) rfl rfl rfl) rfl ?_
            refine O (r_assign (v := Value.bool false) rfl) rfl ?_
            refine OW_nil ?_
            obtain rfl := Option.some.inj hM
            exact ⟨gg2, rfl, rfl, rfl, hds, (Hle.refl _), hs⟩
        · clear hs
          rintro E w ⟨gg4, hE0, hE5, hE39, hds, hlegg4, hs⟩
          have hM := hKhx1
          obtain ⟨E, rfl⟩ := open1 (E := E) hE0
          obtain ⟨E, rfl⟩ := open1 (E := E) hE5
          obtain ⟨E, rfl⟩ := open1 (E := E) hE39
          replace hagi := hagi.trans hlegg4
          rcases condS hM with ⟨hc4, hM⟩ | ⟨hc4, hM⟩
          · refine WP_true rfl hc4 ?_
            refine WP_seq ?_
            refine WP_region ?_
            refine O (r_move (v := Value.pointer (some ⟨b1, 0, none⟩)) rfl) rfl ?_
            refine O (r_nilCheck rfl) rfl ?_
            refine O (r_fieldAddr Tryd.underlying52 ti3 rfl rfl (by decide) rfl rfl) rfl ?_
            refine O (r_load (v := Value.int .i64 t1) ti3 rfl (hs.cell (i := 0) (o := 1) rfl rfl)) rfl ?_
            obtain ⟨t4, ht4, hM⟩ := bindS hM
            refine O (r_addM rfl rfl ht4) rfl ?_
            refine O (r_nilCheck rfl) rfl ?_
            refine O (r_fieldAddr Tryd.underlying52 ti3 rfl rfl (by decide) rfl rfl) rfl ?_
            refine OW_store1 ti3 hs (i := 0) rfl rfl (v := Value.int .i64 t4) rfl rfl (o := 1) (by simp) ?_
            intro wv8 hs
            refine OW_nil ?_
            refine WP_seq ?_
            refine WP_region ?_
            refine O (r_move (v := Value.int .i64 rv2) rfl) rfl ?_
            refine O (r_assign (v := Value.int .i64 rv2) rfl) rfl ?_
            refine OW_nil ?_
            refine WP_ret ?_
            obtain rfl := Option.some.inj hM
            refine FL_nil hds ?_
            exact ⟨_, res1 Tryd.results88 (rv_tmp (v := Value.int .i64 rv2) rfl), gg4, ⟨[Value.int .i64 rv2], rfl, rfl⟩, hagi, hs⟩
          · refine WP_false rfl hc4 ?_
            refine WP_skip ?_
            refine WP_seq ?_
            refine WP_region ?_
            refine O (r_move (v := Value.pointer (some ⟨b1, 0, none⟩)) rfl) rfl ?_
            refine O (r_nilCheck rfl) rfl ?_
            refine O (r_fieldAddr Tryd.underlying52 ti4 rfl rfl (by decide) rfl rfl) rfl ?_
            refine OW_store1 ti4 hs (i := 0) rfl rfl (v := Value.bool true) rfl rfl (o := 2) (by simp) ?_
            intro wv9 hs
            refine OW_nil ?_
            refine WP_seq ?_
            refine WP_region ?_
            refine O (r_assign (v := Value.int .i64 0) rfl) rfl ?_
            refine OW_nil ?_
            refine WP_ret ?_
            obtain rfl := Option.some.inj hM
            refine FL_nil hds ?_
            exact ⟨_, res1 Tryd.results88 (rv_tmp (v := Value.int .i64 0) rfl), gg4, ⟨[Value.int .i64 0], rfl, rfl⟩, hagi, hs⟩
  · refine WP_false rfl hc1 ?_
    refine WP_skip ?_
    refine WP_seq ?_
    refine WP_seq ?_
    refine WP_region ?_
    refine O (r_move (v := Value.int .i64 rv1) rfl) rfl ?_
    refine O (r_move (v := Value.bool p2) rfl) rfl ?_
    obtain ⟨rv5, hrv5, hM⟩ := bindS hM
    refine C [Value.int .i64 rv1, Value.bool p2] cf73 rfl (ref08_plain_ok hrv5 hs.imm) rfl ?_
    rintro v5 wv10 ⟨gg6, hvv5, hegg6⟩
    have hlegg6 := hegg6.le hs.imm
    replace hs := hs.call hegg6
    replace hagi := hagi.trans hlegg6
    obtain ⟨cs5, rfl, hcs5⟩ := hvv5
    have hcs5 : cs5 = _ := hcs5; subst hcs5
    refine O (r_not rfl) rfl ?_
    refine OW_nil ?_
    rcases condS hM with ⟨hc5, hM⟩ | ⟨hc5, hM⟩
    · refine WP_true rfl hc5 ?_
      refine WP_seq ?_
      refine WP_region ?_
      refine O (r_move (v := Value.pointer (some ⟨b1, 0, none⟩)) rfl) rfl ?_
      refine O (r_nilCheck rfl) rfl ?_
      refine O (r_fieldAddr Tryd.underlying52 ti4 rfl rfl (by decide) rfl rfl) rfl ?_
      refine OW_store1 ti4 hs (i := 0) rfl rfl (v := Value.bool true) rfl rfl (o := 2) (by simp) ?_
      intro wv11 hs
      refine OW_nil ?_
      refine WP_seq ?_
      refine WP_region ?_
      refine O (r_assign (v := Value.int .i64 0) rfl) rfl ?_
      refine OW_nil ?_
      refine WP_ret ?_
      obtain rfl := Option.some.inj hM
      refine FL_nil hds ?_
      exact ⟨_, res1 Tryd.results88 (rv_tmp (v := Value.int .i64 0) rfl), gg6, ⟨[Value.int .i64 0], rfl, rfl⟩, hagi, hs⟩
    · refine WP_false rfl hc5 ?_
      refine WP_skip ?_
      refine WP_seq ?_
      refine WP_region ?_
      refine O (r_move (v := Value.pointer (some ⟨b1, 0, none⟩)) rfl) rfl ?_
      refine O (r_nilCheck rfl) rfl ?_
      refine O (r_fieldAddr Tryd.underlying52 ti3 rfl rfl (by decide) rfl rfl) rfl ?_
      refine O (r_load (v := Value.int .i64 p1.atv) ti3 rfl (hs.cell (i := 0) (o := 1) rfl rfl)) rfl ?_
      obtain ⟨t5, ht5, hM⟩ := bindS hM
      refine O (r_addM rfl rfl ht5) rfl ?_
      refine O (r_nilCheck rfl) rfl ?_
      refine O (r_fieldAddr Tryd.underlying52 ti3 rfl rfl (by decide) rfl rfl) rfl ?_
      refine OW_store1 ti3 hs (i := 0) rfl rfl (v := Value.int .i64 t5) rfl rfl (o := 1) (by simp) ?_
      intro wv12 hs
      refine OW_nil ?_
      refine WP_seq ?_
      refine WP_region ?_
      refine O (r_move (v := Value.int .i64 rv1) rfl) rfl ?_
      refine O (r_assign (v := Value.int .i64 rv1) rfl) rfl ?_
      refine OW_nil ?_
      refine WP_ret ?_
      obtain rfl := Option.some.inj hM
      refine FL_nil hds ?_
      exact ⟨_, res1 Tryd.results88 (rv_tmp (v := Value.int .i64 rv1) rfl), gg6, ⟨[Value.int .i64 rv1], rfl, rfl⟩, hagi, hs⟩

set_option maxRecDepth 100000 in
theorem ref08_parser_brackets_ok {p1 : T_ref08_parser} {r : T_Regex × T_ref08_parser} (hM : M.ref08_parser_brackets p1 = some r) {g0 : Hp} {w0 : World} {gi : Hp} {wi : World} {Lt : List Res} {b1 : Nat} (hs : Sep g0 w0 gi wi (Go.Lx.box b1 52 ([encS p1.s, Value.int .i64 p1.atv, Value.bool p1.bad]) :: Lt)) :
    CallsV Tryd.prog 86 #[Value.pointer (some ⟨b1, 0, none⟩)] wi (fun v w' => ∃ g', (VRd tT_Regex true g' v r.1) ∧ Hle gi g' ∧ Sep g0 w0 g' w' (Go.Lx.box b1 52 ([encS r.2.s, Value.int .i64 r.2.atv, Value.bool r.2.bad]) :: Lt)) := by
  unfold M.ref08_parser_brackets at hM
  have hagi := Hle.refl gi
  refine calls_of_WP (args := [Value.pointer (some ⟨b1, 0, none⟩)]) Tryd.func86 rfl Tryd.ntmps86 rfl ?_
  have hds : (argEnv [Value.pointer (some ⟨b1, 0, none⟩)]).ds = [] := rfl
  refine WP_seq ?_
  refine WP_region ?_
  refine OW_alloc ti27 hs (zs := ([Value.int .i64 0]) ++ (((Vec.zero 4).1.map (Value.int .u64)) ++ ([Value.slice none 0 0]))) rfl rfl ?_
  intro b2 wv1 hs
  refine OW_nil ?_
  refine WP_seq ?_
  refine WP_region ?_
  refine O (r_move (v := Value.pointer (some ⟨b1, 0, none⟩)) rfl) rfl ?_
  have hs : Go.Lx.Sep g0 w0 gi _ (Go.Lx.box b1 52 ([encS p1.s, Value.int .i64 p1.atv, Value.bool p1.bad]) :: Go.Lx.box b2 27 (([Value.int .i64 0]) ++ (((Vec.zero 4).1.map (Value.int .u64)) ++ ([Value.slice none 0 0]))) :: Lt) := (Sep.selT (A := [Go.Lx.box b2 27 (([Value.int .i64 0]) ++ (((Vec.zero 4).1.map (Value.int .u64)) ++ ([Value.slice none 0 0]))), Go.Lx.box b1 52 ([encS p1.s, Value.int .i64 p1.atv, Value.bool p1.bad])]) (A' := [Go.Lx.box b1 52 ([encS p1.s, Value.int .i64 p1.atv, Value.bool p1.bad]), Go.Lx.box b2 27 (([Value.int .i64 0]) ++ (((Vec.zero 4).1.map (Value.int .u64)) ++ ([Value.slice none 0 0])))]) (L := Lt) hs [1, 0] (by decide) rfl)
  obtain ⟨rv1, hrv1, hM⟩ := bindS hM
  refine C [Value.pointer (some ⟨b1, 0, none⟩)] cf51 rfl (ref08_parser_next_ok hrv1 hs) rfl ?_
  rintro v1 wv2 ⟨gg1, hvv1, hlegg1, hs⟩
  replace hagi := hagi.trans hlegg1
  obtain ⟨cs1, rfl, hcs1⟩ := hvv1
  have hcs1 : cs1 = _ := hcs1; subst hcs1
  refine O (r_eql rfl rfl) rfl ?_
  refine O (r_assign (v := Value.bool (rv1 == 94)) rfl) rfl ?_
  refine OW_nil ?_
  obtain ⟨t2, hx1, hKhx1⟩ := bindS hM
  refine WP_cut (fun E w => E 0 = Value.pointer (some ⟨b1, 0, none⟩) ∧ E 2 = Value.pointer (some ⟨b2, 0, none⟩) ∧ E 3 = Value.bool (rv1 == 94) ∧ E.ds = [] ∧ Go.Lx.Sep g0 w0 gg1 w (Go.Lx.box b1 52 ([encS p1.s, Value.int .i64 t2, Value.bool p1.bad]) :: Go.Lx.box b2 27 (([Value.int .i64 0]) ++ (((Vec.zero 4).1.map (Value.int .u64)) ++ ([Value.slice none 0 0]))) :: Lt)) ?_ ?_
  · have hM := hx1
    have hagg1 := Hle.refl gg1
    refine WP_seq ?_
    refine WP_region ?_
    refine O (r_move (v := Value.bool (rv1 == 94)) rfl) rfl ?_
    refine OW_nil ?_
    rcases condS hM with ⟨hc2, hM⟩ | ⟨hc2, hM⟩
    · refine WP_true rfl hc2 ?_
      refine WP_region ?_
      refine O (r_move (v := Value.pointer (some ⟨b1, 0, none⟩)) rfl) rfl ?_
      refine O (r_nilCheck rfl) rfl ?_
      refine O (r_fieldAddr Tryd.underlying52 ti3 rfl rfl (by decide) rfl rfl) rfl ?_
      refine O (r_load (v := Value.int .i64 p1.atv) ti3 rfl (hs.cell (i := 0) (o := 1) rfl rfl)) rfl ?_
      obtain ⟨t3, ht3, hM⟩ := bindS hM
      refine O (r_addM rfl rfl ht3) rfl ?_
      refine O (r_nilCheck rfl) rfl ?_
      refine O (r_fieldAddr Tryd.underlying52 ti3 rfl rfl (by decide) rfl rfl) rfl ?_
      refine OW_store1 ti3 hs (i := 0) rfl rfl (v := Value.int .i64 t3) rfl rfl (o := 1) (by simp) ?_
      intro wv4 hs
      refine OW_nil ?_
      obtain rfl := Option.some.inj hM
      exact ⟨rfl, rfl, rfl, hds, hs⟩
    · refine WP_false rfl hc2 ?_
      refine WP_skip ?_
      obtain rfl := Option.some.inj hM
      exact ⟨rfl, rfl, rfl, hds, hs⟩
  · clear hs
    rintro E w ⟨hE0, hE2, hE3, hds, hs⟩
    have hM := hKhx1
    obtain ⟨E, rfl⟩ := open1 (E := E) hE0
    obtain ⟨E, rfl⟩ := open1 (E := E) hE2
    obtain ⟨E, rfl⟩ := open1 (E := E) hE3
    refine WP_seq ?_
    refine WP_region ?_
    refine OW_alloc ti24 hs (zs := (Vec.zero 4).1.map (Value.int .u64)) rfl rfl ?_
    intro b3 wv5 hs
    refine OW_nil ?_
    refine WP_seq ?_
    refine WP_region ?_
    refine O (r_assign (v := Value.bool true) rfl) rfl ?_
    refine OW_nil ?_
    obtain ⟨⟨xv64, t25, xv65, xv66⟩, hx29, hKhx29⟩ := bindS hM
    refine WP_cut (fun E w => ∃ (gg59 : Hp), E 0 = Value.pointer (some ⟨b1, 0, none⟩) ∧ E 2 = Value.pointer (some ⟨b2, 0, none⟩) ∧ E 3 = Value.bool (rv1 == 94) ∧ E 4 = Value.pointer (some ⟨b3, 0, none⟩) ∧ E.ds = [] ∧ Hle gg1 gg59 ∧ Go.Lx.Sep g0 w0 gg59 w (Go.Lx.box b3 24 (xv66.1.map (Value.int .u64)) :: Go.Lx.box b1 52 ([encS xv64, Value.int .i64 t25, Value.bool xv65]) :: Go.Lx.box b2 27 (([Value.int .i64 0]) ++ (((Vec.zero 4).1.map (Value.int .u64)) ++ ([Value.slice none 0 0]))) :: Lt)) ?_ ?_
    · have hM := hx29
      have hagg1 := Hle.refl gg1
      refine WP_block ?_
      refine WP_loop (fun (st9 : Str × Int × Bool × (Vec 4) × Bool) E w => match st9 with | (xv88, t33, xv89, xv90, xv91) => ∃ (gg77 : Hp), E 0 = Value.pointer (some ⟨b1, 0, none⟩) ∧ E 2 = Value.pointer (some ⟨b2, 0, none⟩) ∧ E 3 = Value.bool (rv1 == 94) ∧ E 4 = Value.pointer (some ⟨b3, 0, none⟩) ∧ E 5 = Value.bool xv91 ∧ E.ds = [] ∧ Hle gg1 gg77 ∧ Go.Lx.Sep g0 w0 gg77 w (Go.Lx.box b3 24 (xv90.1.map (Value.int .u64)) :: Go.Lx.box b1 52 ([encS xv88, Value.int .i64 t33, Value.bool xv89]) :: Go.Lx.box b2 27 (([Value.int .i64 0]) ++ (((Vec.zero 4).1.map (Value.int .u64)) ++ ([Value.slice none 0 0]))) :: Lt)) hM ⟨gg1, rfl, rfl, rfl, rfl, rfl, hds, (Hle.refl _), hs⟩ ?_
      clear hs hM
      rintro ⟨xv88, t33, xv89, xv90, xv91⟩ o7 E w hM ⟨gg77, hE0, hE2, hE3, hE4, hE5, hds, hlegg77, hs⟩
      obtain ⟨E, rfl⟩ := open1 (E := E) hE0
      obtain ⟨E, rfl⟩ := open1 (E := E) hE2
      obtain ⟨E, rfl⟩ := open1 (E := E) hE3
      obtain ⟨E, rfl⟩ := open1 (E := E) hE4
      obtain ⟨E, rfl⟩ := open1 (E := E) hE5
      replace hagi := hagi.trans hlegg77
      replace hagg1 := hagg1.trans hlegg77
      have hagg77 := Hle.refl gg77
      refine WP_seq ?_
      obtain ⟨xv113, hx48, hKhx48⟩ := bindS hM
      refine WP_cut (fun E w => ∃ (gg99 : Hp), E 0 = Value.pointer (some ⟨b1, 0, none⟩) ∧ E 2 = Value.pointer (some ⟨b2, 0, none⟩) ∧ E 3 = Value.bool (rv1 == 94) ∧ E 4 = Value.pointer (some ⟨b3, 0, none⟩) ∧ E 33 = Value.bool xv113 ∧ E.ds = [] ∧ Hle gg77 gg99 ∧ Go.Lx.Sep g0 w0 gg99 w (Go.Lx.box b3 24 (xv90.1.map (Value.int .u64)) :: Go.Lx.box b1 52 ([encS xv88, Value.int .i64 t33, Value.bool xv89]) :: Go.Lx.box b2 27 (([Value.int .i64 0]) ++ (((Vec.zero 4).1.map (Value.int .u64)) ++ ([Value.slice none 0 0]))) :: Lt)) ?_ ?_
      · have hM := hx48
        refine WP_region ?_
        refine O (r_move (v := Value.pointer (some ⟨b1, 0, none⟩)) rfl) rfl ?_
        refine O (r_nilCheck rfl) rfl ?_
        refine O (r_fieldAddr Tryd.underlying52 ti4 rfl rfl (by decide) rfl rfl) rfl ?_
        refine O (r_load (v := Value.bool xv89) ti4 rfl (hs.cell (i := 1) (o := 2) rfl rfl)) rfl ?_
        refine O (r_not rfl) rfl ?_
        refine O (r_move (v := Value.bool (!xv89)) rfl) rfl ?_
        rcases condS hM with ⟨hg89, hM⟩ | ⟨hg89, hM⟩
        · refine OG rfl rfl rfl (by rw [hg89]; rfl) (r_move (v := Value.bool xv91) rfl) rfl ?_
          refine OG rfl rfl rfl (by rw [hg89]; rfl) (r_move (v := Value.bool xv91) rfl) rfl ?_
          rcases condS hM with ⟨hg90, hM⟩ | ⟨hg90, hM⟩
          · refine OK rfl rfl rfl (by rw [hg90]; rfl) rfl ?_
            refine OK rfl rfl rfl (by rw [hg90]; rfl) rfl ?_
            refine OK rfl rfl rfl (by rw [hg90]; rfl) rfl ?_
            refine OG rfl rfl rfl (by rw [hg89]; rfl) (r_pickT (v := Value.bool true) rfl hg90 rfl) rfl ?_
            refine O (r_pickT (v := Value.bool true) rfl hg89 rfl) rfl ?_
            refine OW_nil ?_
            obtain rfl := Option.some.inj hM
            exact ⟨gg77, rfl, rfl, rfl, rfl, rfl, hds, (Hle.refl _), hs⟩
          · refine OG rfl rfl rfl (by rw [hg90]; rfl) (r_move (v := Value.pointer (some ⟨b1, 0, none⟩)) rfl) rfl ?_
            have hs : Go.Lx.Sep g0 w0 gg77 _ (Go.Lx.box b1 52 ([encS xv88, Value.int .i64 t33, Value.bool xv89]) :: Go.Lx.box b3 24 (xv90.1.map (Value.int .u64)) :: Go.Lx.box b2 27 (([Value.int .i64 0]) ++ (((Vec.zero 4).1.map (Value.int .u64)) ++ ([Value.slice none 0 0]))) :: Lt) := (Sep.selT (A := [Go.Lx.box b3 24 (xv90.1.map (Value.int .u64)), Go.Lx.box b1 52 ([encS xv88, Value.int .i64 t33, Value.bool xv89]), Go.Lx.box b2 27 (([Value.int .i64 0]) ++ (((Vec.zero 4).1.map (Value.int .u64)) ++ ([Value.slice none 0 0])))]) (A' := [Go.Lx.box b1 52 ([encS xv88, Value.int .i64 t33, Value.bool xv89]), Go.Lx.box b3 24 (xv90.1.map (Value.int .u64)), Go.Lx.box b2 27 (([Value.int .i64 0]) ++ (((Vec.zero 4).1.map (Value.int .u64)) ++ ([Value.slice none 0 0])))]) (L := Lt) hs [1, 0, 2] (by decide) rfl)
            obtain ⟨rv59, hrv59, hM⟩ := bindS hM
            refine CG rfl rfl rfl (by rw [hg90]; rfl) [Value.pointer (some ⟨b1, 0, none⟩)] cf51 rfl (ref08_parser_next_ok hrv59 hs) rfl ?_
            rintro v59 wv108 ⟨gg100, hvv59, hlegg100, hs⟩
            replace hagi := hagi.trans hlegg100
            replace hlegg77 := hlegg77.trans hlegg100
            replace hagg77 := hagg77.trans hlegg100
            obtain ⟨cs59, rfl, hcs59⟩ := hvv59
            have hcs59 : cs59 = _ := hcs59; subst hcs59
            refine OG rfl rfl rfl (by rw [hg90]; rfl) (r_neq rfl rfl) rfl ?_
            refine OG rfl rfl rfl (by rw [hg89]; rfl) (r_pickF (v := Value.bool (rv59 != 93)) rfl hg90 rfl) rfl ?_
            refine O (r_pickT (v := Value.bool (rv59 != 93)) rfl hg89 rfl) rfl ?_
            refine OW_nil ?_
            obtain rfl := Option.some.inj hM
            exact ⟨gg100, rfl, rfl, rfl, rfl, rfl, hds, hagg77, (Sep.selT (A := [Go.Lx.box b1 52 ([encS xv88, Value.int .i64 t33, Value.bool xv89]), Go.Lx.box b3 24 (xv90.1.map (Value.int .u64)), Go.Lx.box b2 27 (([Value.int .i64 0]) ++ (((Vec.zero 4).1.map (Value.int .u64)) ++ ([Value.slice none 0 0])))]) (A' := [Go.Lx.box b3 24 (xv90.1.map (Value.int .u64)), Go.Lx.box b1 52 ([encS xv88, Value.int .i64 t33, Value.bool xv89]), Go.Lx.box b2 27 (([Value.int .i64 0]) ++ (((Vec.zero 4).1.map (Value.int .u64)) ++ ([Value.slice none 0 0])))]) (L := Lt) hs [1, 0, 2] (by decide) rfl)⟩
        · refine OK rfl rfl rfl (by rw [hg89]; rfl) rfl ?_
          refine OK rfl rfl rfl (by rw [hg89]; rfl) rfl ?_
          refine OKU rfl rfl rfl rfl ?_
          refine OKU rfl rfl rfl rfl ?_
          refine OKU rfl rfl rfl rfl ?_
          refine OK rfl rfl rfl (by rw [hg89]; rfl) rfl ?_
          refine O (r_pickF (v := Value.bool false) rfl hg89 rfl) rfl ?_
          refine OW_nil ?_
          obtain rfl := Option.some.inj hM
          exact ⟨gg77, rfl, rfl, rfl, rfl, rfl, hds, (Hle.refl _), hs⟩
      · clear hs
        rintro E w ⟨gg99, hE0, hE2, hE3, hE4, hE33, hds, hlegg99, hs⟩
        have hM := hKhx48
        obtain ⟨E, rfl⟩ := open1 (E := E) hE0
        obtain ⟨E, rfl⟩ := open1 (E := E) hE2
        obtain ⟨E, rfl⟩ := open1 (E := E) hE3
        obtain ⟨E, rfl⟩ := open1 (E := E) hE4
        obtain ⟨E, rfl⟩ := open1 (E := E) hE33
        replace hagi := hagi.trans hlegg99
        replace hlegg77 := hlegg77.trans hlegg99
        replace hagg77 := hagg77.trans hlegg99
        rcases condS hM with ⟨hc43, hM⟩ | ⟨hc43, hM⟩
        · refine WP_true rfl hc43 ?_
          refine WP_skip ?_
          refine WP_block ?_
          refine WP_seq ?_
          refine WP_region ?_
          refine O (r_assign (v := Value.bool false) rfl) rfl ?_
          refine OW_nil ?_
          refine WP_seq ?_
          refine WP_region ?_
          refine O (r_move (v := Value.pointer (some ⟨b1, 0, none⟩)) rfl) rfl ?_
          have hs : Go.Lx.Sep g0 w0 gg99 _ (Go.Lx.box b1 52 ([encS xv88, Value.int .i64 t33, Value.bool xv89]) :: Go.Lx.box b3 24 (xv90.1.map (Value.int .u64)) :: Go.Lx.box b2 27 (([Value.int .i64 0]) ++ (((Vec.zero 4).1.map (Value.int .u64)) ++ ([Value.slice none 0 0]))) :: Lt) := (Sep.selT (A := [Go.Lx.box b3 24 (xv90.1.map (Value.int .u64)), Go.Lx.box b1 52 ([encS xv88, Value.int .i64 t33, Value.bool xv89]), Go.Lx.box b2 27 (([Value.int .i64 0]) ++ (((Vec.zero 4).1.map (Value.int .u64)) ++ ([Value.slice none 0 0])))]) (A' := [Go.Lx.box b1 52 ([encS xv88, Value.int .i64 t33, Value.bool xv89]), Go.Lx.box b3 24 (xv90.1.map (Value.int .u64)), Go.Lx.box b2 27 (([Value.int .i64 0]) ++ (((Vec.zero 4).1.map (Value.int .u64)) ++ ([Value.slice none 0 0])))]) (L := Lt) hs [1, 0, 2] (by decide) rfl)
          obtain ⟨rv60, hrv60, hM⟩ := bindS hM
          refine C [Value.pointer (some ⟨b1, 0, none⟩), Value.bool true] cf88 rfl (ref08_parser_char_ok hrv60 hs) rfl ?_
          rintro v60 wv109 ⟨gg101, hvv60, hlegg101, hs⟩
          replace hagi := hagi.trans hlegg101
          replace hlegg77 := hlegg77.trans hlegg101
          replace hagg77 := hagg77.trans hlegg101
          obtain ⟨cs60, rfl, hcs60⟩ := hvv60
          have hcs60 : cs60 = _ := hcs60; subst hcs60
          refine O (r_assign (v := Value.int .i64 rv60.1) rfl) rfl ?_
          refine OW_nil ?_
          refine WP_seq ?_
          refine WP_region ?_
          refine O (r_move (v := Value.int .i64 rv60.1) rfl) rfl ?_
          refine O (r_assign (v := Value.int .i64 rv60.1) rfl) rfl ?_
          refine OW_nil ?_
          obtain ⟨⟨xv116, t42, xv117, xv118⟩, hx51, hKhx51⟩ := bindS hM
          refine WP_cut (fun E w => ∃ (gg106 : Hp), E 0 = Value.pointer (some ⟨b1, 0, none⟩) ∧ E 2 = Value.pointer (some ⟨b2, 0, none⟩) ∧ E 3 = Value.bool (rv1 == 94) ∧ E 4 = Value.pointer (some ⟨b3, 0, none⟩) ∧ E 5 = Value.bool false ∧ E 6 = Value.int .i64 rv60.1 ∧ E 7 = Value.int .i64 xv118 ∧ E.ds = [] ∧ Hle gg101 gg106 ∧ Go.Lx.Sep g0 w0 gg106 w (Go.Lx.box b1 52 ([encS xv116, Value.int .i64 t42, Value.bool xv117]) :: Go.Lx.box b3 24 (xv90.1.map (Value.int .u64)) :: Go.Lx.box b2 27 (([Value.int .i64 0]) ++ (((Vec.zero 4).1.map (Value.int .u64)) ++ ([Value.slice none 0 0]))) :: Lt)) ?_ ?_
          · have hM := hx51
            have hagg101 := Hle.refl gg101
            obtain ⟨xv119, hx52, hKhx52⟩ := bindS hM
            refine WP_cut (fun E w => ∃ (gg108 : Hp), E 0 = Value.pointer (some ⟨b1, 0, none⟩) ∧ E 2 = Value.pointer (some ⟨b2, 0, none⟩) ∧ E 3 = Value.bool (rv1 == 94) ∧ E 4 = Value.pointer (some ⟨b3, 0, none⟩) ∧ E 5 = Value.bool false ∧ E 6 = Value.int .i64 rv60.1 ∧ E 7 = Value.int .i64 rv60.1 ∧ E 46 = Value.bool xv119 ∧ E.ds = [] ∧ Hle gg101 gg108 ∧ Go.Lx.Sep g0 w0 gg108 w (Go.Lx.box b1 52 ([encS rv60.2.s, Value.int .i64 rv60.2.atv, Value.bool rv60.2.bad]) :: Go.Lx.box b3 24 (xv90.1.map (Value.int .u64)) :: Go.Lx.box b2 27 (([Value.int .i64 0]) ++ (((Vec.zero 4).1.map (Value.int .u64)) ++ ([Value.slice none 0 0]))) :: Lt)) ?_ ?_
            · have hM := hx52
              refine WP_region ?_
              refine O (r_move (v := Value.pointer (some ⟨b1, 0, none⟩)) rfl) rfl ?_
              refine O (r_nilCheck rfl) rfl ?_
              refine O (r_fieldAddr Tryd.underlying52 ti4 rfl rfl (by decide) rfl rfl) rfl ?_
              refine O (r_load (v := Value.bool rv60.2.bad) ti4 rfl (hs.cell (i := 0) (o := 2) rfl rfl)) rfl ?_
              refine O (r_not rfl) rfl ?_
              refine O (r_move (v := Value.bool (!rv60.2.bad)) rfl) rfl ?_
              rcases condS hM with ⟨hg96, hM⟩ | ⟨hg96, hM⟩
              · refine OG rfl rfl rfl (by rw [hg96]; rfl) (r_move (v := Value.pointer (some ⟨b1, 0, none⟩)) rfl) rfl ?_
                obtain ⟨rv65, hrv65, hM⟩ := bindS hM
                refine CG rfl rfl rfl (by rw [hg96]; rfl) [Value.pointer (some ⟨b1, 0, none⟩)] cf51 rfl (ref08_parser_next_ok hrv65 hs) rfl ?_
                rintro v65 wv117 ⟨gg109, hvv65, hlegg109, hs⟩
                replace hagi := hagi.trans hlegg109
                replace hlegg77 := hlegg77.trans hlegg109
                replace hagg77 := hagg77.trans hlegg109
                replace hagg101 := hagg101.trans hlegg109
                obtain ⟨cs65, rfl, hcs65⟩ := hvv65
                have hcs65 : cs65 = _ := hcs65; subst hcs65
                refine OG rfl rfl rfl (by rw [hg96]; rfl) (r_eql rfl rfl) rfl ?_
                refine O (r_pickT (v := Value.bool (rv65 == 45)) rfl hg96 rfl) rfl ?_
                refine OW_nil ?_
                obtain rfl := Option.some.inj hM
                exact ⟨gg109, rfl, rfl, rfl, rfl, rfl, rfl, rfl, rfl, hds, hagg101, hs⟩
              · refine OK rfl rfl rfl (by rw [hg96]; rfl) rfl ?_
                refine OK rfl rfl rfl (by rw [hg96]; rfl) rfl ?_
                refine OK rfl rfl rfl (by rw [hg96]; rfl) rfl ?_
                refine O (r_pickF (v := Value.bool false) rfl hg96 rfl) rfl ?_
                refine OW_nil ?_
                obtain rfl := Option.some.inj hM
                exact ⟨gg101, rfl, rfl, rfl, rfl, rfl, rfl, rfl, rfl, hds, (Hle.refl _), hs⟩
            · clear hs
              rintro E w ⟨gg108, hE0, hE2, hE3, hE4, hE5, hE6, hE7, hE46, hds, hlegg108, hs⟩
              have hM := hKhx52
              obtain ⟨E, rfl⟩ := open1 (E := E) hE0
              obtain ⟨E, rfl⟩ := open1 (E := E) hE2
              obtain ⟨E, rfl⟩ := open1 (E := E) hE3
              obtain ⟨E, rfl⟩ := open1 (E := E) hE4
              obtain ⟨E, rfl⟩ := open1 (E := E) hE5
              obtain ⟨E, rfl⟩ := open1 (E := E) hE6
              obtain ⟨E, rfl⟩ := open1 (E := E) hE7
              obtain ⟨E, rfl⟩ := open1 (E := E) hE46
              replace hagi := hagi.trans hlegg108
              replace hlegg77 := hlegg77.trans hlegg108
              replace hagg77 := hagg77.trans hlegg108
              replace hagg101 := hagg101.trans hlegg108
              rcases condS hM with ⟨hc46, hM⟩ | ⟨hc46, hM⟩
              · refine WP_true rfl hc46 ?_
                refine WP_seq ?_
                refine WP_region ?_
                refine O (r_move (v := Value.pointer (some ⟨b1, 0, none⟩)) rfl) rfl ?_
                refine O (r_nilCheck rfl) rfl ?_
                refine O (r_fieldAddr Tryd.underlying52 ti3 rfl rfl (by decide) rfl rfl) rfl ?_
                refine O (r_load (v := Value.int .i64 rv60.2.atv) ti3 rfl (hs.cell (i := 0) (o := 1) rfl rfl)) rfl ?_
                obtain ⟨t43, ht43, hM⟩ := bindS hM
                refine O (r_addM rfl rfl ht43) rfl ?_
                refine O (r_nilCheck rfl) rfl ?_
                refine O (r_fieldAddr Tryd.underlying52 ti3 rfl rfl (by decide) rfl rfl) rfl ?_
                refine OW_store1 ti3 hs (i := 0) rfl rfl (v := Value.int .i64 t43) rfl rfl (o := 1) (by simp) ?_
                intro wv118 hs
                refine OW_nil ?_
                refine WP_seq ?_
                refine WP_region ?_
                refine O (r_move (v := Value.pointer (some ⟨b1, 0, none⟩)) rfl) rfl ?_
                refine O (r_nilCheck rfl) rfl ?_
                refine O (r_fieldAddr Tryd.underlying52 ti3 rfl rfl (by decide) rfl rfl) rfl ?_
                refine O (r_load (v := Value.int .i64 t43) ti3 rfl (hs.cell (i := 0) (o := 1) rfl rfl)) rfl ?_
                refine O (r_assign (v := Value.int .i64 t43) rfl) rfl ?_
                refine OW_nil ?_
                refine WP_seq ?_
                refine WP_region ?_
                refine O (r_move (v := Value.pointer (some ⟨b1, 0, none⟩)) rfl) rfl ?_
                obtain ⟨rv66, hrv66, hM⟩ := bindS hM
                refine C [Value.pointer (some ⟨b1, 0, none⟩), Value.bool true] cf88 rfl (ref08_parser_char_ok hrv66 hs) rfl ?_
                rintro v66 wv119 ⟨gg110, hvv66, hlegg110, hs⟩
                replace hagi := hagi.trans hlegg110
                replace hlegg77 := hlegg77.trans hlegg110
                replace hagg77 := hagg77.trans hlegg110
                replace hagg101 := hagg101.trans hlegg110
                obtain ⟨cs66, rfl, hcs66⟩ := hvv66
                have hcs66 : cs66 = _ := hcs66; subst hcs66
                refine O (r_assign (v := Value.int .i64 rv66.1) rfl) rfl ?_
                refine OW_nil ?_
                obtain ⟨xv120, hx53, hKhx53⟩ := bindS hM
                refine WP_cut (fun E w => E 0 = Value.pointer (some ⟨b1, 0, none⟩) ∧ E 2 = Value.pointer (some ⟨b2, 0, none⟩) ∧ E 3 = Value.bool (rv1 == 94) ∧ E 4 = Value.pointer (some ⟨b3, 0, none⟩) ∧ E 5 = Value.bool false ∧ E 6 = Value.int .i64 rv60.1 ∧ E 7 = Value.int .i64 rv66.1 ∧ E 8 = Value.int .i64 t43 ∧ E 69 = Value.bool xv120 ∧ E.ds = [] ∧ Go.Lx.Sep g0 w0 gg110 w (Go.Lx.box b1 52 ([encS rv66.2.s, Value.int .i64 rv66.2.atv, Value.bool rv66.2.bad]) :: Go.Lx.box b3 24 (xv90.1.map (Value.int .u64)) :: Go.Lx.box b2 27 (([Value.int .i64 0]) ++ (((Vec.zero 4).1.map (Value.int .u64)) ++ ([Value.slice none 0 0]))) :: Lt)) ?_ ?_
                · have hM := hx53
                  have hagg110 := Hle.refl gg110
                  refine WP_region ?_
                  refine O (r_move (v := Value.pointer (some ⟨b1, 0, none⟩)) rfl) rfl ?_
                  refine O (r_nilCheck rfl) rfl ?_
                  refine O (r_fieldAddr Tryd.underlying52 ti4 rfl rfl (by decide) rfl rfl) rfl ?_
                  refine O (r_load (v := Value.bool rv66.2.bad) ti4 rfl (hs.cell (i := 0) (o := 2) rfl rfl)) rfl ?_
                  refine O (r_not rfl) rfl ?_
                  refine O (r_move (v := Value.bool (!rv66.2.bad)) rfl) rfl ?_
                  rcases condS hM with ⟨hg98, hM⟩ | ⟨hg98, hM⟩
                  · refine OG rfl rfl rfl (by rw [hg98]; rfl) (r_move (v := Value.int .i64 rv66.1) rfl) rfl ?_
                    refine OG rfl rfl rfl (by rw [hg98]; rfl) (r_move (v := Value.int .i64 rv60.1) rfl) rfl ?_
                    refine OG rfl rfl rfl (by rw [hg98]; rfl) (r_lss rfl rfl) rfl ?_
                    refine O (r_pickT (v := Value.bool (decide (rv66.1 < rv60.1))) rfl hg98 rfl) rfl ?_
                    refine OW_nil ?_
                    obtain rfl := Option.some.inj hM
                    exact ⟨rfl, rfl, rfl, rfl, rfl, rfl, rfl, rfl, rfl, hds, hs⟩
                  · refine OK rfl rfl rfl (by rw [hg98]; rfl) rfl ?_
                    refine OK rfl rfl rfl (by rw [hg98]; rfl) rfl ?_
                    refine OK rfl rfl rfl (by rw [hg98]; rfl) rfl ?_
                    refine O (r_pickF (v := Value.bool false) rfl hg98 rfl) rfl ?_
                    refine OW_nil ?_
                    obtain rfl := Option.some.inj hM
                    exact ⟨rfl, rfl, rfl, rfl, rfl, rfl, rfl, rfl, rfl, hds, hs⟩
                · clear hs
                  rintro E w ⟨hE0, hE2, hE3, hE4, hE5, hE6, hE7, hE8, hE69, hds, hs⟩
                  have hM := hKhx53
                  obtain ⟨E, rfl⟩ := open1 (E := E) hE0
                  obtain ⟨E, rfl⟩ := open1 (E := E) hE2
                  obtain ⟨E, rfl⟩ := open1 (E := E) hE3
                  obtain ⟨E, rfl⟩ := open1 (E := E) hE4
                  obtain ⟨E, rfl⟩ := open1 (E := E) hE5
                  obtain ⟨E, rfl⟩ := open1 (E := E) hE6
                  obtain ⟨E, rfl⟩ := open1 (E := E) hE7
                  obtain ⟨E, rfl⟩ := open1 (E := E) hE8
                  obtain ⟨E, rfl⟩ := open1 (E := E) hE69
                  rcases condS hM with ⟨hc47, hM⟩ | ⟨hc47, hM⟩
                  · refine WP_true rfl hc47 ?_
                    refine WP_seq ?_
                    refine WP_region ?_
                    refine O (r_move (v := Value.pointer (some ⟨b1, 0, none⟩)) rfl) rfl ?_
                    refine O (r_nilCheck rfl) rfl ?_
                    refine O (r_fieldAddr Tryd.underlying52 ti4 rfl rfl (by decide) rfl rfl) rfl ?_
                    refine OW_store1 ti4 hs (i := 0) rfl rfl (v := Value.bool true) rfl rfl (o := 2) (by simp) ?_
                    intro wv120 hs
                    refine OW_nil ?_
                    refine WP_region ?_
                    refine O (r_move (v := Value.pointer (some ⟨b1, 0, none⟩)) rfl) rfl ?_
                    refine O (r_move (v := Value.int .i64 t43) rfl) rfl ?_
                    refine O (r_nilCheck rfl) rfl ?_
                    refine O (r_fieldAddr Tryd.underlying52 ti3 rfl rfl (by decide) rfl rfl) rfl ?_
                    refine OW_store1 ti3 hs (i := 0) rfl rfl (v := Value.int .i64 t43) rfl rfl (o := 1) (by simp) ?_
                    intro wv121 hs
                    refine OW_nil ?_
                    simp only [Option.some.injEq, Prod.mk.injEq] at hM
                    obtain ⟨rfl, rfl, rfl, rfl⟩ := hM
                    exact ⟨gg110, rfl, rfl, rfl, rfl, rfl, rfl, rfl, hds, hagg101, hs⟩
                  · refine WP_false rfl hc47 ?_
                    refine WP_skip ?_
                    simp only [Option.some.injEq, Prod.mk.injEq] at hM
                    obtain ⟨rfl, rfl, rfl, rfl⟩ := hM
                    exact ⟨gg110, rfl, rfl, rfl, rfl, rfl, rfl, rfl, hds, hagg101, hs⟩
              · refine WP_false rfl hc46 ?_
                refine WP_skip ?_
                simp only [Option.some.injEq, Prod.mk.injEq] at hM
                obtain ⟨rfl, rfl, rfl, rfl⟩ := hM
                exact ⟨gg108, rfl, rfl, rfl, rfl, rfl, rfl, rfl, hds, hagg101, hs⟩
          · clear hs
            rintro E w ⟨gg106, hE0, hE2, hE3, hE4, hE5, hE6, hE7, hds, hlegg106, hs⟩
            have hM := hKhx51
            obtain ⟨E, rfl⟩ := open1 (E := E) hE0
            obtain ⟨E, rfl⟩ := open1 (E := E) hE2
            obtain ⟨E, rfl⟩ := open1 (E := E) hE3
            obtain ⟨E, rfl⟩ := open1 (E := E) hE4
            obtain ⟨E, rfl⟩ := open1 (E := E) hE5
            obtain ⟨E, rfl⟩ := open1 (E := E) hE6
            obtain ⟨E, rfl⟩ := open1 (E := E) hE7
            replace hagi := hagi.trans hlegg106
            replace hlegg77 := hlegg77.trans hlegg106
            replace hagg77 := hagg77.trans hlegg106
            refine WP_seq ?_
            refine WP_region ?_
            refine O (r_move (v := Value.int .i64 rv60.1) rfl) rfl ?_
            refine O (r_assign (v := Value.int .i64 rv60.1) rfl) rfl ?_
            refine OW_nil ?_
            refine WP_block ?_
            have hagg106 := Hle.refl gg106
            refine WP_loop (fun (st9 : (Vec 4) × Int) E w => match st9 with | (xv124, xv125) => ∃ (gg113 : Hp), E 0 = Value.pointer (some ⟨b1, 0, none⟩) ∧ E 2 = Value.pointer (some ⟨b2, 0, none⟩) ∧ E 3 = Value.bool (rv1 == 94) ∧ E 4 = Value.pointer (some ⟨b3, 0, none⟩) ∧ E 5 = Value.bool false ∧ E 7 = Value.int .i64 xv118 ∧ E 9 = Value.int .i64 xv125 ∧ E.ds = [] ∧ Hle gg106 gg113 ∧ Go.Lx.Sep g0 w0 gg113 w (Go.Lx.box b1 52 ([encS xv116, Value.int .i64 t42, Value.bool xv117]) :: Go.Lx.box b3 24 (xv124.1.map (Value.int .u64)) :: Go.Lx.box b2 27 (([Value.int .i64 0]) ++ (((Vec.zero 4).1.map (Value.int .u64)) ++ ([Value.slice none 0 0]))) :: Lt)) hM ⟨gg106, rfl, rfl, rfl, rfl, rfl, rfl, rfl, hds, (Hle.refl _), hs⟩ ?_
            clear hs hM
            rintro ⟨xv124, xv125⟩ o8 E w hM ⟨gg113, hE0, hE2, hE3, hE4, hE5, hE7, hE9, hds, hlegg113, hs⟩
            obtain ⟨E, rfl⟩ := open1 (E := E) hE0
            obtain ⟨E, rfl⟩ := open1 (E := E) hE2
            obtain ⟨E, rfl⟩ := open1 (E := E) hE3
            obtain ⟨E, rfl⟩ := open1 (E := E) hE4
            obtain ⟨E, rfl⟩ := open1 (E := E) hE5
            obtain ⟨E, rfl⟩ := open1 (E := E) hE7
            obtain ⟨E, rfl⟩ := open1 (E := E) hE9
            replace hagi := hagi.trans hlegg113
            replace hlegg77 := hlegg77.trans hlegg113
            replace hagg77 := hagg77.trans hlegg113
            have hagg113 := Hle.refl gg113
            refine WP_seq ?_
            obtain ⟨xv129, hx56, hKhx56⟩ := bindS hM
            refine WP_cut (fun E w => E 0 = Value.pointer (some ⟨b1, 0, none⟩) ∧ E 2 = Value.pointer (some ⟨b2, 0, none⟩) ∧ E 3 = Value.bool (rv1 == 94) ∧ E 4 = Value.pointer (some ⟨b3, 0, none⟩) ∧ E 5 = Value.bool false ∧ E 7 = Value.int .i64 xv118 ∧ E 9 = Value.int .i64 xv125 ∧ E 87 = Value.bool xv129 ∧ E.ds = [] ∧ Go.Lx.Sep g0 w0 gg113 w (Go.Lx.box b1 52 ([encS xv116, Value.int .i64 t42, Value.bool xv117]) :: Go.Lx.box b3 24 (xv124.1.map (Value.int .u64)) :: Go.Lx.box b2 27 (([Value.int .i64 0]) ++ (((Vec.zero 4).1.map (Value.int .u64)) ++ ([Value.slice none 0 0]))) :: Lt)) ?_ ?_
            · have hM := hx56
              refine WP_region ?_
              refine O (r_move (v := Value.pointer (some ⟨b1, 0, none⟩)) rfl) rfl ?_
              refine O (r_nilCheck rfl) rfl ?_
              refine O (r_fieldAddr Tryd.underlying52 ti4 rfl rfl (by decide) rfl rfl) rfl ?_
              refine O (r_load (v := Value.bool xv117) ti4 rfl (hs.cell (i := 0) (o := 2) rfl rfl)) rfl ?_
              refine O (r_not rfl) rfl ?_
              refine O (r_move (v := Value.bool (!xv117)) rfl) rfl ?_
              rcases condS hM with ⟨hg104, hM⟩ | ⟨hg104, hM⟩
              · refine OG rfl rfl rfl (by rw [hg104]; rfl) (r_move (v := Value.int .i64 xv125) rfl) rfl ?_
                refine OG rfl rfl rfl (by rw [hg104]; rfl) (r_move (v := Value.int .i64 xv118) rfl) rfl ?_
                refine OG rfl rfl rfl (by rw [hg104]; rfl) (r_leq rfl rfl) rfl ?_
                refine O (r_pickT (v := Value.bool (decide (xv125 ≤ xv118))) rfl hg104 rfl) rfl ?_
                refine OW_nil ?_
                obtain rfl := Option.some.inj hM
                exact ⟨rfl, rfl, rfl, rfl, rfl, rfl, rfl, rfl, hds, hs⟩
              · refine OK rfl rfl rfl (by rw [hg104]; rfl) rfl ?_
                refine OK rfl rfl rfl (by rw [hg104]; rfl) rfl ?_
                refine OK rfl rfl rfl (by rw [hg104]; rfl) rfl ?_
                refine O (r_pickF (v := Value.bool false) rfl hg104 rfl) rfl ?_
                refine OW_nil ?_
                obtain rfl := Option.some.inj hM
                exact ⟨rfl, rfl, rfl, rfl, rfl, rfl, rfl, rfl, hds, hs⟩
            · clear hs
              rintro E w ⟨hE0, hE2, hE3, hE4, hE5, hE7, hE9, hE87, hds, hs⟩
              have hM := hKhx56
              obtain ⟨E, rfl⟩ := open1 (E := E) hE0
              obtain ⟨E, rfl⟩ := open1 (E := E) hE2
              obtain ⟨E, rfl⟩ := open1 (E := E) hE3
              obtain ⟨E, rfl⟩ := open1 (E := E) hE4
              obtain ⟨E, rfl⟩ := open1 (E := E) hE5
              obtain ⟨E, rfl⟩ := open1 (E := E) hE7
              obtain ⟨E, rfl⟩ := open1 (E := E) hE9
              obtain ⟨E, rfl⟩ := open1 (E := E) hE87
              rcases condS hM with ⟨hc50, hM⟩ | ⟨hc50, hM⟩
              · refine WP_true rfl hc50 ?_
                refine WP_skip ?_
                refine WP_seq ?_
                refine WP_block ?_
                refine WP_region ?_
                refine O (r_loadN (cs := xv124.1.map (Value.int .u64)) ti24 rfl (by simp [xv124.2]) (hs.cells (i := 1) rfl)) rfl ?_
                refine O (r_move (v := Value.int .i64 xv125) rfl) rfl ?_
                obtain ⟨rv69, hrv69, hM⟩ := bindS hM
                refine C [encV .u64 xv124, Value.int .i64 xv125] cf72 rfl (ref08_With_ok hrv69 hs.imm) rfl ?_
                rintro v69 wv126 ⟨gg116, hvv69, hegg116⟩
                have hlegg116 := hegg116.le hs.imm
                replace hs := hs.call hegg116
                replace hagi := hagi.trans hlegg116
                replace hlegg77 := hlegg77.trans hlegg116
                replace hagg77 := hagg77.trans hlegg116
                replace hlegg113 := hlegg113.trans hlegg116
                replace hagg113 := hagg113.trans hlegg116
                obtain ⟨cs69, rfl, hcs69⟩ := hvv69
                have hcs69 : cs69 = _ := hcs69; subst hcs69
                refine OW_storeAll ti24 hs (i := 1) rfl rfl (v := encV .u64 rv69) rfl (vs := rv69.1.map (Value.int .u64)) rfl vec_one (by simp [rv69.2]) (by simp [rv69.2, xv124.2]) ?_
                intro wv127 hs
                refine OW_nil ?_
                refine WP_region ?_
                refine O (r_move (v := Value.int .i64 xv125) rfl) rfl ?_
                obtain ⟨t46, ht46, hM⟩ := bindS hM
                refine O (r_addM rfl rfl ht46) rfl ?_
                refine O (r_assign (v := Value.int .i64 t46) rfl) rfl ?_
                refine OW_nil ?_
                obtain rfl := Option.some.inj hM
                exact ⟨gg116, rfl, rfl, rfl, rfl, rfl, rfl, rfl, hds, hlegg113, hs⟩
              · refine WP_false rfl hc50 ?_
                refine WP_exit ?_
                obtain rfl := Option.some.inj hM
                refine fun hr => ?_
                have hM := congrArg some hr
                obtain rfl := Option.some.inj hM
                exact ⟨gg113, rfl, rfl, rfl, rfl, rfl, hds, hlegg77, (Sep.selT (A := [Go.Lx.box b1 52 ([encS xv116, Value.int .i64 t42, Value.bool xv117]), Go.Lx.box b3 24 (xv124.1.map (Value.int .u64)), Go.Lx.box b2 27 (([Value.int .i64 0]) ++ (((Vec.zero 4).1.map (Value.int .u64)) ++ ([Value.slice none 0 0])))]) (A' := [Go.Lx.box b3 24 (xv124.1.map (Value.int .u64)), Go.Lx.box b1 52 ([encS xv116, Value.int .i64 t42, Value.bool xv117]), Go.Lx.box b2 27 (([Value.int .i64 0]) ++ (((Vec.zero 4).1.map (Value.int .u64)) ++ ([Value.slice none 0 0])))]) (L := Lt) hs [1, 0, 2] (by decide) rfl)⟩
        · refine WP_false rfl hc43 ?_
          refine WP_exit ?_
          obtain rfl := Option.some.inj hM
          refine fun hr => ?_
          have hM := congrArg some hr
          simp only [Option.some.injEq, Prod.mk.injEq] at hM
          obtain ⟨rfl, rfl, rfl, rfl⟩ := hM
          exact ⟨gg99, rfl, rfl, rfl, rfl, hds, hlegg77, hs⟩
    · clear hs
      rintro E w ⟨gg59, hE0, hE2, hE3, hE4, hds, hlegg59, hs⟩
      have hM := hKhx29
      obtain ⟨E, rfl⟩ := open1 (E := E) hE0
      obtain ⟨E, rfl⟩ := open1 (E := E) hE2
      obtain ⟨E, rfl⟩ := open1 (E := E) hE3
      obtain ⟨E, rfl⟩ := open1 (E := E) hE4
      replace hagi := hagi.trans hlegg59
      refine WP_seq ?_
      refine WP_seq ?_
      refine WP_region ?_
      refine O (r_move (v := Value.pointer (some ⟨b1, 0, none⟩)) rfl) rfl ?_
      refine O (r_nilCheck rfl) rfl ?_
      refine O (r_fieldAddr Tryd.underlying52 ti4 rfl rfl (by decide) rfl rfl) rfl ?_
      refine O (r_load (v := Value.bool xv65) ti4 rfl (hs.cell (i := 1) (o := 2) rfl rfl)) rfl ?_
      refine OW_nil ?_
      rcases condS hM with ⟨hc51, hM⟩ | ⟨hc51, hM⟩
      · refine WP_true rfl hc51 ?_
        refine WP_seq ?_
        refine WP_region ?_
        refine O (r_build (vs := []) (cs := ([Value.int .i64 0]) ++ (((Vec.zero 4).1.map (Value.int .u64)) ++ ([Value.slice none 0 0]))) rfl (built_fill [(0, 1), (1, 4), (5, 1)] (([Value.int .i64 0]) ++ (((Vec.zero 4).1.map (Value.int .u64)) ++ ([Value.slice none 0 0]))) (fun _ => by kernel_rfl) (fill_done))) rfl ?_
        refine OW_storeAll ti27 hs (i := 2) rfl rfl (v := Value.agg (List.toArray (α := Value) (([Value.int .i64 0]) ++ (((Vec.zero 4).1.map (Value.int .u64)) ++ ([Value.slice none 0 0]))))) rfl (vs := ([Value.int .i64 0]) ++ (((Vec.zero 4).1.map (Value.int .u64)) ++ ([Value.slice none 0 0]))) rfl (one_append (one_cons rfl one_nil) (one_append vec_one (one_cons rfl one_nil))) (by simp [(Vec.zero 4).2]) (by simp [(Vec.zero 4).2, (Vec.zero 4).2]) ?_
        intro wv128 hs
        refine OW_nil ?_
        refine WP_ret ?_
        obtain rfl := Option.some.inj hM
        refine FL_nil hds ?_
        exact ⟨_, res1 Tryd.results86 (rv_cells (vs := ([Value.int .i64 0]) ++ (((Vec.zero 4).1.map (Value.int .u64)) ++ ([Value.slice none 0 0]))) ti27 rfl (by simp [(Vec.zero 4).2]) (hs.cells (i := 2) rfl)), gg59, ⟨([Value.int .i64 0]) ++ (((Vec.zero 4).1.map (Value.int .u64)) ++ ([Value.slice none 0 0])), rfl, (tT_Regex_iff.2 ⟨[Value.int .i64 0], (Vec.zero 4).1.map (Value.int .u64), [Value.slice none 0 0], rfl, rfl, rfl, ⟨_, rfl, RdS.nil⟩⟩)⟩, hagi, (Sep.selT (A := [Go.Lx.box b3 24 (xv66.1.map (Value.int .u64)), Go.Lx.box b1 52 ([encS xv64, Value.int .i64 t25, Value.bool xv65]), Go.Lx.box b2 27 (([Value.int .i64 0]) ++ (((Vec.zero 4).1.map (Value.int .u64)) ++ ([Value.slice none 0 0])))]) (A' := [Go.Lx.box b1 52 ([encS xv64, Value.int .i64 t25, Value.bool xv65])]) (L := Lt) hs [1] (by decide) rfl)⟩
      · refine WP_false rfl hc51 ?_
        refine WP_skip ?_
        refine WP_seq ?_
        refine WP_region ?_
        refine O (r_move (v := Value.pointer (some ⟨b1, 0, none⟩)) rfl) rfl ?_
        refine O (r_nilCheck rfl) rfl ?_
        refine O (r_fieldAddr Tryd.underlying52 ti3 rfl rfl (by decide) rfl rfl) rfl ?_
        refine O (r_load (v := Value.int .i64 t25) ti3 rfl (hs.cell (i := 1) (o := 1) rfl rfl)) rfl ?_
        obtain ⟨t47, ht47, hM⟩ := bindS hM
        refine O (r_addM rfl rfl ht47) rfl ?_
        refine O (r_nilCheck rfl) rfl ?_
        refine O (r_fieldAddr Tryd.underlying52 ti3 rfl rfl (by decide) rfl rfl) rfl ?_
        refine OW_store1 ti3 hs (i := 1) rfl rfl (v := Value.int .i64 t47) rfl rfl (o := 1) (by simp) ?_
        intro wv129 hs
        refine OW_nil ?_
        obtain ⟨xv130, hx57, hKhx57⟩ := bindS hM
        refine WP_cut (fun E w => ∃ (gg118 : Hp), E 2 = Value.pointer (some ⟨b2, 0, none⟩) ∧ E 4 = Value.pointer (some ⟨b3, 0, none⟩) ∧ E.ds = [] ∧ Hle gg59 gg118 ∧ Go.Lx.Sep g0 w0 gg118 w (Go.Lx.box b3 24 (xv130.1.map (Value.int .u64)) :: Go.Lx.box b1 52 ([encS xv64, Value.int .i64 t47, Value.bool xv65]) :: Go.Lx.box b2 27 (([Value.int .i64 0]) ++ (((Vec.zero 4).1.map (Value.int .u64)) ++ ([Value.slice none 0 0]))) :: Lt)) ?_ ?_
        · have hM := hx57
          have hagg59 := Hle.refl gg59
          refine WP_seq ?_
          refine WP_region ?_
          refine O (r_move (v := Value.bool (rv1 == 94)) rfl) rfl ?_
          refine OW_nil ?_
          rcases condS hM with ⟨hc53, hM⟩ | ⟨hc53, hM⟩
          · refine WP_true rfl hc53 ?_
            refine WP_region ?_
            refine O (r_loadN (cs := xv66.1.map (Value.int .u64)) ti24 rfl (by simp [xv66.2]) (hs.cells (i := 0) rfl)) rfl ?_
            obtain ⟨rv71, hrv71, hM⟩ := bindS hM
            refine C [encV .u64 xv66] cf37 rfl (ref08_Not_ok hrv71 hs.imm) rfl ?_
            rintro v71 wv132 ⟨gg119, hvv71, hegg119⟩
            have hlegg119 := hegg119.le hs.imm
            replace hs := hs.call hegg119
            replace hagi := hagi.trans hlegg119
            replace hagg59 := hagg59.trans hlegg119
            obtain ⟨cs71, rfl, hcs71⟩ := hvv71
            have hcs71 : cs71 = _ := hcs71; subst hcs71
            refine OW_storeAll ti24 hs (i := 0) rfl rfl (v := encV .u64 rv71) rfl (vs := rv71.1.map (Value.int .u64)) rfl vec_one (by simp [rv71.2]) (by simp [rv71.2, xv66.2]) ?_
            intro wv133 hs
            refine OW_nil ?_
            obtain rfl := Option.some.inj hM
            exact ⟨gg119, rfl, rfl, hds, hagg59, hs⟩
          · refine WP_false rfl hc53 ?_
            refine WP_skip ?_
            obtain rfl := Option.some.inj hM
            exact ⟨gg59, rfl, rfl, hds, (Hle.refl _), hs⟩
        · clear hs
          rintro E w ⟨gg118, hE2, hE4, hds, hlegg118, hs⟩
          have hM := hKhx57
          obtain ⟨E, rfl⟩ := open1 (E := E) hE2
          obtain ⟨E, rfl⟩ := open1 (E := E) hE4
          replace hagi := hagi.trans hlegg118
          refine WP_seq ?_
          refine WP_region ?_
          refine O (r_loadN (cs := xv130.1.map (Value.int .u64)) ti24 rfl (by simp [xv130.2]) (hs.cells (i := 0) rfl)) rfl ?_
          refine O (r_build (vs := [(0, Value.int .i64 3), (1, encV .u64 xv130)]) (cs := ([Value.int .i64 3]) ++ ((xv130.1.map (Value.int .u64)) ++ ([Value.slice none 0 0]))) rfl (built_fill [(0, 1), (1, 4), (5, 1)] (([Value.int .i64 0]) ++ (((Vec.zero 4).1.map (Value.int .u64)) ++ ([Value.slice none 0 0]))) (fun _ => by kernel_rfl) (fill_step ([]) ([Value.int .i64 0]) (((Vec.zero 4).1.map (Value.int .u64)) ++ ([Value.slice none 0 0])) ([Value.int .i64 3]) rfl (by simp) rfl rfl rfl rfl <| fill_step ([Value.int .i64 3]) ((Vec.zero 4).1.map (Value.int .u64)) ([Value.slice none 0 0]) (xv130.1.map (Value.int .u64)) rfl (by simp) rfl rfl (by simp [(Vec.zero 4).2]) (by simp [xv130.2]) <| fill_done))) rfl ?_
          refine OW_storeAll ti27 hs (i := 2) rfl rfl (v := Value.agg (List.toArray (α := Value) (([Value.int .i64 3]) ++ ((xv130.1.map (Value.int .u64)) ++ ([Value.slice none 0 0]))))) rfl (vs := ([Value.int .i64 3]) ++ ((xv130.1.map (Value.int .u64)) ++ ([Value.slice none 0 0]))) rfl (one_append (one_cons rfl one_nil) (one_append vec_one (one_cons rfl one_nil))) (by simp [xv130.2]) (by simp [xv130.2, (Vec.zero 4).2]) ?_
          intro wv134 hs
          refine OW_nil ?_
          refine WP_ret ?_
          obtain rfl := Option.some.inj hM
          refine FL_nil hds ?_
          exact ⟨_, res1 Tryd.results86 (rv_cells (vs := ([Value.int .i64 3]) ++ ((xv130.1.map (Value.int .u64)) ++ ([Value.slice none 0 0]))) ti27 rfl (by simp [xv130.2]) (hs.cells (i := 2) rfl)), gg118, ⟨([Value.int .i64 3]) ++ ((xv130.1.map (Value.int .u64)) ++ ([Value.slice none 0 0])), rfl, (tT_Regex_iff.2 ⟨[Value.int .i64 3], xv130.1.map (Value.int .u64), [Value.slice none 0 0], rfl, rfl, rfl, ⟨_, rfl, RdS.nil⟩⟩)⟩, hagi, (Sep.selT (A := [Go.Lx.box b3 24 (xv130.1.map (Value.int .u64)), Go.Lx.box b1 52 ([encS xv64, Value.int .i64 t47, Value.bool xv65]), Go.Lx.box b2 27 (([Value.int .i64 3]) ++ ((xv130.1.map (Value.int .u64)) ++ ([Value.slice none 0 0])))]) (A' := [Go.Lx.box b1 52 ([encS xv64, Value.int .i64 t47, Value.bool xv65])]) (L := Lt) hs [1] (by decide) rfl)⟩

set_option maxRecDepth 100000 in
theorem ref08_star_ok {rv1 : T_Regex} {r : T_Regex} (hM : M.ref08_star rv1 = some r) {g0 : Hp} {w0 : World} (hi : Imm g0 w0) {cs1 : List Value} (hcs1 : tT_Regex.rel g0 cs1 rv1) :
    CallsV Tryd.prog 76 #[Value.agg cs1.toArray] w0 (fun v w' => ∃ g', (VRd tT_Regex true g' v r) ∧ Ext g0 w0 g' w') := by
  unfold M.ref08_star at hM
  obtain ⟨cs2, cs3, cs4, rfl, hcs2, hcs3, hcs4⟩ := tT_Regex_iff.1 hcs1
  have hcs2 : cs2 = _ := hcs2; subst hcs2
  have hcs3 : cs3 = _ := hcs3; subst hcs3
  obtain ⟨v1, rfl, hRv1⟩ := hcs4
  have hs := Sep.start hi
  refine calls_of_WP (args := [Value.agg (List.toArray (α := Value) (([Value.int .i64 rv1.Kind]) ++ ((rv1.Set.1.map (Value.int .u64)) ++ ([v1]))))]) Tryd.func76 rfl Tryd.ntmps76 rfl ?_
  have hds : (argEnv [Value.agg (List.toArray (α := Value) (([Value.int .i64 rv1.Kind]) ++ ((rv1.Set.1.map (Value.int .u64)) ++ ([v1]))))]).ds = [] := rfl
  refine WP_seq ?_
  refine WP_region ?_
  refine OW_box (v := Value.agg (List.toArray (α := Value) (([Value.int .i64 rv1.Kind]) ++ ((rv1.Set.1.map (Value.int .u64)) ++ ([v1]))))) rfl hs (zs := ([Value.int .i64 rv1.Kind]) ++ ((rv1.Set.1.map (Value.int .u64)) ++ ([v1]))) rfl rfl ?_
  intro b1 wv1 hs
  refine OW_alloc ti27 hs (zs := ([Value.int .i64 0]) ++ (((Vec.zero 4).1.map (Value.int .u64)) ++ ([Value.slice none 0 0]))) rfl rfl ?_
  intro b2 wv2 hs
  refine OW_nil ?_
  refine WP_seq ?_
  refine WP_region ?_
  refine O (r_loadN (cs := ([Value.int .i64 rv1.Kind]) ++ ((rv1.Set.1.map (Value.int .u64)) ++ ([v1]))) ti27 rfl (by simp [rv1.Set.2]) (hs.cells (i := 1) rfl)) rfl ?_
  refine OW_lit (τ := tT_Regex) [Value.agg (List.toArray (α := Value) (([Value.int .i64 rv1.Kind]) ++ ((rv1.Set.1.map (Value.int .u64)) ++ ([v1]))))] [rv1] Tryd.underlying25 ti27 (by decide) hs rfl rfl rfl ⟨(tT_Regex_iff.2 ⟨[Value.int .i64 rv1.Kind], rv1.Set.1.map (Value.int .u64), [v1], rfl, rfl, rfl, ⟨_, rfl, hRv1⟩⟩), trivial⟩ rfl ?_
  intro v2 wv3 xs1 hrelxs1 hs
  have ho1 := one_of_shape (hs.rowShape (i := 0) rfl)
  refine O (r_build (vs := [(0, Value.int .i64 6), (2, v2)]) (cs := ([Value.int .i64 6]) ++ (((Vec.zero 4).1.map (Value.int .u64)) ++ ([v2]))) rfl (built_fill [(0, 1), (1, 4), (5, 1)] (([Value.int .i64 0]) ++ (((Vec.zero 4).1.map (Value.int .u64)) ++ ([Value.slice none 0 0]))) (fun _ => by kernel_rfl) (fill_step ([]) ([Value.int .i64 0]) (((Vec.zero 4).1.map (Value.int .u64)) ++ ([Value.slice none 0 0])) ([Value.int .i64 6]) rfl (by simp) rfl rfl rfl rfl <| fill_step (([Value.int .i64 6]) ++ ((Vec.zero 4).1.map (Value.int .u64))) ([Value.slice none 0 0]) ([]) ([v2]) rfl (by simp) (cells_one ho1) (by simp [(Vec.zero 4).2]) rfl rfl <| fill_done))) rfl ?_
  refine OW_storeAll ti27 hs (i := 1) rfl rfl (v := Value.agg (List.toArray (α := Value) (([Value.int .i64 6]) ++ (((Vec.zero 4).1.map (Value.int .u64)) ++ ([v2]))))) rfl (vs := ([Value.int .i64 6]) ++ (((Vec.zero 4).1.map (Value.int .u64)) ++ ([v2]))) rfl (one_append (one_cons rfl one_nil) (one_append vec_one (one_cons (by obtain ⟨_, _, h9⟩ := hs.rowShape (i := 0) rfl; rw [h9]; rfl) one_nil))) (by simp [(Vec.zero 4).2]) (by simp [(Vec.zero 4).2, (Vec.zero 4).2]) ?_
  intro wv4 hs
  refine OW_nil ?_
  refine WP_ret ?_
  obtain rfl := Option.some.inj hM
  obtain ⟨gg1, hlegg1, hRgg1, hs⟩ := hs.relRow (i := 0) rfl hrelxs1
  replace hRv1 := hRv1.mono hlegg1
  refine FL_nil hds ?_
  exact ⟨_, res1 Tryd.results76 (rv_cells (vs := ([Value.int .i64 6]) ++ (((Vec.zero 4).1.map (Value.int .u64)) ++ ([v2]))) ti27 rfl (by simp [(Vec.zero 4).2]) (hs.cells (i := 0) rfl)), gg1, ⟨([Value.int .i64 6]) ++ (((Vec.zero 4).1.map (Value.int .u64)) ++ ([v2])), rfl, (tT_Regex_iff.2 ⟨[Value.int .i64 6], (Vec.zero 4).1.map (Value.int .u64), [v2], rfl, rfl, rfl, ⟨_, rfl, hRgg1⟩⟩)⟩, hs.ext⟩


end Go.Proofs.YtffienmbeifioaaDoor
