/- The walks: what each function does is what its model says. Printed by a program of my own. -/
import Derived.Test.YtffienmbeifioaaDoorTyp
set_option linter.unusedVariables false
set_option linter.unusedSimpArgs false
namespace Go.Proofs.YtffienmbeifioaaDoor
open Go.Lx Go.RowKit
def C.ref08_shallow (fl : Nat) : Prop := ∀ {rv1 : T_Regex} {level1 : Int} {left1 : Int} {r : Int} (_ : M.ref08_shallow fl rv1 level1 left1 = some r) {g0 : Hp} {w0 : World} (hi : Imm g0 w0) {cs1 : List Value} (hcs1 : tT_Regex.rel g0 cs1 rv1),
    CallsV Tryd.prog 28 #[Value.agg cs1.toArray, Value.int .i64 level1, Value.int .i64 left1] w0 (fun v w' => ∃ g', (VRd (tInt .i64) false g' v r) ∧ Ext g0 w0 g' w')
set_option maxRecDepth 100000 in
theorem ref08_shallow_step {fl : Nat} (ih_ref08_shallow : C.ref08_shallow fl) : C.ref08_shallow (fl + 1) := by
  intro rv1 level1 left1 r hM g0 w0 hi cs1 hcs1
  unfold M.ref08_shallow at hM
  obtain ⟨cs2, cs3, cs4, rfl, hcs2, hcs3, hcs4⟩ := tT_Regex_iff.1 hcs1
  have hcs2 : cs2 = _ := hcs2; subst hcs2
  have hcs3 : cs3 = _ := hcs3; subst hcs3
  obtain ⟨v1, rfl, hRv1⟩ := hcs4
  have hs := Sep.start hi
  refine calls_of_WP (args := [Value.agg (List.toArray (α := Value) (([Value.int .i64 rv1.Kind]) ++ ((rv1.Set.1.map (Value.int .u64)) ++ ([v1])))), Value.int .i64 level1, Value.int .i64 left1]) Tryd.func28 rfl Tryd.ntmps28 rfl ?_
  have hds : (argEnv [Value.agg (List.toArray (α := Value) (([Value.int .i64 rv1.Kind]) ++ ((rv1.Set.1.map (Value.int .u64)) ++ ([v1])))), Value.int .i64 level1, Value.int .i64 left1]).ds = [] := rfl
  refine WP_seq ?_
  refine WP_region ?_
  refine OW_box (v := Value.agg (List.toArray (α := Value) (([Value.int .i64 rv1.Kind]) ++ ((rv1.Set.1.map (Value.int .u64)) ++ ([v1]))))) rfl hs (zs := ([Value.int .i64 rv1.Kind]) ++ ((rv1.Set.1.map (Value.int .u64)) ++ ([v1]))) rfl rfl ?_
  intro b1 wv1 hs
  refine O (r_assign (v := Value.int .i64 0) rfl) rfl ?_
  refine OW_nil ?_
  refine WP_seq ?_
  obtain ⟨xv1, hx1, hKhx1⟩ := bindS hM
  refine WP_cut (fun E w => E 1 = Value.int .i64 level1 ∧ E 2 = Value.int .i64 left1 ∧ E 3 = Value.pointer (some ⟨b1, 0, none⟩) ∧ E 13 = Value.bool xv1 ∧ E.ds = [] ∧ Go.Lx.Sep g0 w0 g0 w [Go.Lx.box b1 27 (([Value.int .i64 rv1.Kind]) ++ ((rv1.Set.1.map (Value.int .u64)) ++ ([v1])))]) ?_ ?_
  · have hM := hx1
    have hag0 := Hle.refl g0
    refine WP_region ?_
    refine O (r_move (v := Value.int .i64 level1) rfl) rfl ?_
    refine O (r_gtr rfl rfl) rfl ?_
    refine O (r_move (v := Value.bool (decide (50 < level1))) rfl) rfl ?_
    rcases condS hM with ⟨hg2, hM⟩ | ⟨hg2, hM⟩
    · refine OK rfl rfl rfl (by rw [hg2]; rfl) rfl ?_
      refine OK rfl rfl rfl (by rw [hg2]; rfl) rfl ?_
      refine O (r_pickT (v := Value.bool true) rfl hg2 rfl) rfl ?_
      refine OW_nil ?_
      obtain rfl := Option.some.inj hM
      exact ⟨rfl, rfl, rfl, rfl, hds, hs⟩
    · refine OG rfl rfl rfl (by rw [hg2]; rfl) (r_move (v := Value.int .i64 left1) rfl) rfl ?_
      refine OG rfl rfl rfl (by rw [hg2]; rfl) (r_leq rfl rfl) rfl ?_
      refine O (r_pickF (v := Value.bool (decide (left1 ≤ 0))) rfl hg2 rfl) rfl ?_
      refine OW_nil ?_
      obtain rfl := Option.some.inj hM
      exact ⟨rfl, rfl, rfl, rfl, hds, hs⟩
  · clear hs
    rintro E w ⟨hE1, hE2, hE3, hE13, hds, hs⟩
    have hM := hKhx1
    obtain ⟨E, rfl⟩ := open1 (E := E) hE1
    obtain ⟨E, rfl⟩ := open1 (E := E) hE2
    obtain ⟨E, rfl⟩ := open1 (E := E) hE3
    obtain ⟨E, rfl⟩ := open1 (E := E) hE13
    rcases condS hM with ⟨hc1, hM⟩ | ⟨hc1, hM⟩
    · refine WP_true rfl hc1 ?_
      refine WP_seq ?_
      refine WP_region ?_
      refine O (r_assign (v := Value.int .i64 (-1)) rfl) rfl ?_
      refine OW_nil ?_
      refine WP_ret ?_
      obtain rfl := Option.some.inj hM
      refine FL_nil hds ?_
      exact ⟨_, res1 Tryd.results28 (rv_tmp (v := Value.int .i64 (-1)) rfl), g0, ⟨[Value.int .i64 (-1)], rfl, rfl⟩, hs.ext⟩
    · refine WP_false rfl hc1 ?_
      refine WP_skip ?_
      refine WP_seq ?_
      refine WP_region ?_
      refine O (r_move (v := Value.int .i64 left1) rfl) rfl ?_
      obtain ⟨t1, ht1, hM⟩ := bindS hM
      refine O (r_subM rfl rfl ht1) rfl ?_
      refine O (r_assign (v := Value.int .i64 t1) rfl) rfl ?_
      refine OW_nil ?_
      obtain ⟨left8, hx5, hKhx5⟩ := bindS hM
      refine WP_cut (fun E w => ∃ (gg7 : Hp), E 2 = Value.int .i64 left8 ∧ E.ds = [] ∧ Hle g0 gg7 ∧ Go.Lx.Sep g0 w0 gg7 w []) ?_ ?_
      · have hM := hx5
        have hag0 := Hle.refl g0
        refine WP_seq ?_
        refine WP_region ?_
        refine O (r_assign (v := Value.int .i64 0) rfl) rfl ?_
        refine OW_nil ?_
        refine WP_block ?_
        refine WP_loop (fun (st9 : Int × Int) E w => match st9 with | (left11, i5) => ∃ (gg10 : Hp), E 1 = Value.int .i64 level1 ∧ E 2 = Value.int .i64 left11 ∧ E 3 = Value.pointer (some ⟨b1, 0, none⟩) ∧ E 7 = Value.int .i64 i5 ∧ E.ds = [] ∧ Hle g0 gg10 ∧ Go.Lx.Sep g0 w0 gg10 w [Go.Lx.box b1 27 (([Value.int .i64 rv1.Kind]) ++ ((rv1.Set.1.map (Value.int .u64)) ++ ([v1])))]) hM ⟨g0, rfl, rfl, rfl, rfl, hds, (Hle.refl _), hs⟩ ?_
        clear hs hM
        rintro ⟨left11, i5⟩ o2 E w hM ⟨gg10, hE1, hE2, hE3, hE7, hds, hlegg10, hs⟩
        obtain ⟨E, rfl⟩ := open1 (E := E) hE1
        obtain ⟨E, rfl⟩ := open1 (E := E) hE2
        obtain ⟨E, rfl⟩ := open1 (E := E) hE3
        obtain ⟨E, rfl⟩ := open1 (E := E) hE7
        replace hRv1 := hRv1.mono hlegg10
        replace hag0 := hag0.trans hlegg10
        have hagg10 := Hle.refl gg10
        refine WP_seq ?_
        obtain ⟨xv7, hx8, hKhx8⟩ := bindS hM
        refine WP_cut (fun E w => E 1 = Value.int .i64 level1 ∧ E 2 = Value.int .i64 left11 ∧ E 3 = Value.pointer (some ⟨b1, 0, none⟩) ∧ E 7 = Value.int .i64 i5 ∧ E 24 = Value.bool xv7 ∧ E.ds = [] ∧ Go.Lx.Sep g0 w0 gg10 w [Go.Lx.box b1 27 (([Value.int .i64 rv1.Kind]) ++ ((rv1.Set.1.map (Value.int .u64)) ++ ([v1])))]) ?_ ?_
        · have hM := hx8
          refine WP_region ?_
          refine O (r_move (v := Value.int .i64 i5) rfl) rfl ?_
          refine O (r_fieldAddr Tryd.underlying27 ti25 rfl rfl (by decide) rfl rfl) rfl ?_
          refine O (r_load (v := v1) ti25 rfl (hs.cell (i := 0) (o := 5) rfl (by simp [rv1.Set.2]))) rfl ?_
          obtain ⟨a12, ca12, hva12⟩ := hRv1.shape
          refine O (r_lenSl (v := v1) Tryd.underlying25 rfl hva12) rfl ?_
          refine O (r_lss rfl rfl) rfl ?_
          refine O (r_move (v := Value.bool (decide (i5 < (rv1.Kids.length : Int)))) rfl) rfl ?_
          rcases condS hM with ⟨hg14, hM⟩ | ⟨hg14, hM⟩
          · refine OG rfl rfl rfl (by rw [hg14]; rfl) (r_move (v := Value.int .i64 left11) rfl) rfl ?_
            refine OG rfl rfl rfl (by rw [hg14]; rfl) (r_geq rfl rfl) rfl ?_
            refine O (r_pickT (v := Value.bool (decide (0 ≤ left11))) rfl hg14 rfl) rfl ?_
            refine OW_nil ?_
            obtain rfl := Option.some.inj hM
            exact ⟨rfl, rfl, rfl, rfl, rfl, hds, hs⟩
          · refine OK rfl rfl rfl (by rw [hg14]; rfl) rfl ?_
            refine OK rfl rfl rfl (by rw [hg14]; rfl) rfl ?_
            refine O (r_pickF (v := Value.bool false) rfl hg14 rfl) rfl ?_
            refine OW_nil ?_
            obtain rfl := Option.some.inj hM
            exact ⟨rfl, rfl, rfl, rfl, rfl, hds, hs⟩
        · clear hs
          rintro E w ⟨hE1, hE2, hE3, hE7, hE24, hds, hs⟩
          have hM := hKhx8
          obtain ⟨E, rfl⟩ := open1 (E := E) hE1
          obtain ⟨E, rfl⟩ := open1 (E := E) hE2
          obtain ⟨E, rfl⟩ := open1 (E := E) hE3
          obtain ⟨E, rfl⟩ := open1 (E := E) hE7
          obtain ⟨E, rfl⟩ := open1 (E := E) hE24
          rcases condS hM with ⟨hc7, hM⟩ | ⟨hc7, hM⟩
          · refine WP_true rfl hc7 ?_
            refine WP_skip ?_
            refine WP_seq ?_
            refine WP_block ?_
            refine WP_region ?_
            refine O (r_fieldAddr Tryd.underlying27 ti25 rfl rfl (by decide) rfl rfl) rfl ?_
            refine O (r_load (v := v1) ti25 rfl (hs.cell (i := 0) (o := 5) rfl (by simp [rv1.Set.2]))) rfl ?_
            refine O (r_move (v := Value.int .i64 i5) rfl) rfl ?_
            obtain ⟨e6, he6, hM⟩ := bindS hM
            obtain ⟨b7, ob7, cb7, hvb7, cs30, hcs30, hcb7⟩ := hRv1.at he6
            obtain ⟨cs31, cs32, cs33, rfl, hcs31, hcs32, hcs33⟩ := tT_Regex_iff.1 hcs30
            have hcs31 : cs31 = _ := hcs31; subst hcs31
            have hcs32 : cs32 = _ := hcs32; subst hcs32
            obtain ⟨v12, rfl, hRv12⟩ := hcs33
            refine O (r_idxSl Tryd.underlying25 ti27 (v := v1) rfl hvb7 rfl (idxL_some he6).1 (idxL_some he6).2.1) rfl ?_
            refine O (r_loadEl (cs := ([Value.int .i64 e6.Kind]) ++ ((e6.Set.1.map (Value.int .u64)) ++ ([v12]))) ti27 rfl (by simp [e6.Set.2]) (.inl rfl) (hcb7 _ hs.imm) (v := Value.agg (List.toArray (α := Value) (([Value.int .i64 e6.Kind]) ++ ((e6.Set.1.map (Value.int .u64)) ++ ([v12]))))) rfl) rfl ?_
            refine O (r_move (v := Value.int .i64 level1) rfl) rfl ?_
            obtain ⟨t12, ht12, hM⟩ := bindS hM
            refine O (r_addM rfl rfl ht12) rfl ?_
            refine O (r_move (v := Value.int .i64 left11) rfl) rfl ?_
            obtain ⟨left14, hleft14, hM⟩ := bindS hM
            refine C [Value.agg (List.toArray (α := Value) (([Value.int .i64 e6.Kind]) ++ ((e6.Set.1.map (Value.int .u64)) ++ ([v12])))), Value.int .i64 t12, Value.int .i64 left11] cf28 rfl (ih_ref08_shallow hleft14 hs.imm (tT_Regex_iff.2 ⟨[Value.int .i64 e6.Kind], e6.Set.1.map (Value.int .u64), [v12], rfl, rfl, rfl, ⟨_, rfl, hRv12⟩⟩)) rfl ?_
            rintro v13 wv7 ⟨gg13, hvv13, hegg13⟩
            have hlegg13 := hegg13.le hs.imm
            replace hs := hs.call hegg13
            replace hRv1 := hRv1.mono hlegg13
            replace hRv12 := hRv12.mono hlegg13
            replace hlegg10 := hlegg10.trans hlegg13
            replace hagg10 := hagg10.trans hlegg13
            obtain ⟨cs34, rfl, hcs34⟩ := hvv13
            have hcs34 : cs34 = _ := hcs34; subst hcs34
            refine O (r_assign (v := Value.int .i64 left14) rfl) rfl ?_
            refine OW_nil ?_
            refine WP_region ?_
            refine O (r_move (v := Value.int .i64 i5) rfl) rfl ?_
            obtain ⟨t13, ht13, hM⟩ := bindS hM
            refine O (r_addM rfl rfl ht13) rfl ?_
            refine O (r_assign (v := Value.int .i64 t13) rfl) rfl ?_
            refine OW_nil ?_
            obtain rfl := Option.some.inj hM
            exact ⟨gg13, rfl, rfl, rfl, rfl, hds, hlegg10, hs⟩
          · refine WP_false rfl hc7 ?_
            refine WP_exit ?_
            obtain rfl := Option.some.inj hM
            refine fun hr => ?_
            have hM := congrArg some hr
            obtain rfl := Option.some.inj hM
            exact ⟨gg10, rfl, hds, hlegg10, (hs.sub (.cons _ .slnil))⟩
      · clear hs
        rintro E w ⟨gg7, hE2, hds, hlegg7, hs⟩
        have hM := hKhx5
        obtain ⟨E, rfl⟩ := open1 (E := E) hE2
        refine WP_seq ?_
        refine WP_region ?_
        refine O (r_move (v := Value.int .i64 left8) rfl) rfl ?_
        refine O (r_assign (v := Value.int .i64 left8) rfl) rfl ?_
        refine OW_nil ?_
        refine WP_ret ?_
        obtain rfl := Option.some.inj hM
        refine FL_nil hds ?_
        exact ⟨_, res1 Tryd.results28 (rv_tmp (v := Value.int .i64 left8) rfl), gg7, ⟨[Value.int .i64 left8], rfl, rfl⟩, hs.ext⟩
theorem ref08_shallow_zero : C.ref08_shallow 0 := by
  unfold C.ref08_shallow
  intros
  simp_all only [M.ref08_shallow, reduceCtorEq]
theorem ref08_shallow_all : ∀ fl, C.ref08_shallow fl := by
  intro fl
  induction fl with
  | zero => exact ref08_shallow_zero
  | succ fl ih =>
    exact ref08_shallow_step ih
theorem ref08_shallow_ok {fl : Nat} : C.ref08_shallow fl := (ref08_shallow_all fl)

set_option maxRecDepth 100000 in
theorem ref08_Few_ok {rv1 : T_Regex} {most1 : Int} {r : Bool} (hM : M.ref08_Few rv1 most1 = some r) {g0 : Hp} {w0 : World} (hi : Imm g0 w0) {cs1 : List Value} (hcs1 : tT_Regex.rel g0 cs1 rv1) :
    CallsV Tryd.prog 12 #[Value.agg cs1.toArray, Value.int .i64 most1] w0 (fun v w' => ∃ g', (VRd tBool false g' v r) ∧ Ext g0 w0 g' w') := by
  unfold M.ref08_Few at hM
  obtain ⟨cs2, cs3, cs4, rfl, hcs2, hcs3, hcs4⟩ := tT_Regex_iff.1 hcs1
  have hcs2 : cs2 = _ := hcs2; subst hcs2
  have hcs3 : cs3 = _ := hcs3; subst hcs3
  obtain ⟨v1, rfl, hRv1⟩ := hcs4
  have hs := Sep.start hi
  refine calls_of_WP (args := [Value.agg (List.toArray (α := Value) (([Value.int .i64 rv1.Kind]) ++ ((rv1.Set.1.map (Value.int .u64)) ++ ([v1])))), Value.int .i64 most1]) Tryd.func12 rfl Tryd.ntmps12 rfl ?_
  have hds : (argEnv [Value.agg (List.toArray (α := Value) (([Value.int .i64 rv1.Kind]) ++ ((rv1.Set.1.map (Value.int .u64)) ++ ([v1])))), Value.int .i64 most1]).ds = [] := rfl
  refine WP_seq ?_
  refine WP_region ?_
  refine OW_box (v := Value.agg (List.toArray (α := Value) (([Value.int .i64 rv1.Kind]) ++ ((rv1.Set.1.map (Value.int .u64)) ++ ([v1]))))) rfl hs (zs := ([Value.int .i64 rv1.Kind]) ++ ((rv1.Set.1.map (Value.int .u64)) ++ ([v1]))) rfl rfl ?_
  intro b1 wv1 hs
  refine O (r_assign (v := Value.bool false) rfl) rfl ?_
  refine OW_nil ?_
  refine WP_seq ?_
  refine WP_region ?_
  refine O (r_loadN (cs := ([Value.int .i64 rv1.Kind]) ++ ((rv1.Set.1.map (Value.int .u64)) ++ ([v1]))) ti27 rfl (by simp [rv1.Set.2]) (hs.cells (i := 0) rfl)) rfl ?_
  refine O (r_move (v := Value.int .i64 most1) rfl) rfl ?_
  obtain ⟨t1, ht1, hM⟩ := bindS hM
  refine O (r_addM rfl rfl ht1) rfl ?_
  obtain ⟨rv2, hrv2, hM⟩ := bindS hM
  refine C [Value.agg (List.toArray (α := Value) (([Value.int .i64 rv1.Kind]) ++ ((rv1.Set.1.map (Value.int .u64)) ++ ([v1])))), Value.int .i64 0, Value.int .i64 t1] cf28 rfl (ref08_shallow_ok hrv2 hs.imm (tT_Regex_iff.2 ⟨[Value.int .i64 rv1.Kind], rv1.Set.1.map (Value.int .u64), [v1], rfl, rfl, rfl, ⟨_, rfl, hRv1⟩⟩)) rfl ?_
  rintro v2 wv2 ⟨gg1, hvv2, hegg1⟩
  have hlegg1 := hegg1.le hs.imm
  replace hs := hs.call hegg1
  replace hRv1 := hRv1.mono hlegg1
  obtain ⟨cs5, rfl, hcs5⟩ := hvv2
  have hcs5 : cs5 = _ := hcs5; subst hcs5
  refine O (r_geq rfl rfl) rfl ?_
  refine O (r_assign (v := Value.bool (decide (0 ≤ rv2))) rfl) rfl ?_
  refine OW_nil ?_
  refine WP_ret ?_
  obtain rfl := Option.some.inj hM
  refine FL_nil hds ?_
  exact ⟨_, res1 Tryd.results12 (rv_tmp (v := Value.bool (decide (0 ≤ rv2))) rfl), gg1, ⟨[Value.bool (decide (0 ≤ rv2))], rfl, rfl⟩, hs.ext⟩


end Go.Proofs.YtffienmbeifioaaDoor
