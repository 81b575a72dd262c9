/- The walks: what each function does is what its model says. Printed by a program of my own. -/
import Derived.Test.YtffienmbeifioaaDoorTyp
import Derived.Test.YtffienmbeifioaaDoorWalk5
import Derived.Test.YtffienmbeifioaaDoorWalk6
set_option linter.unusedVariables false
set_option linter.unusedSimpArgs false
namespace Go.Proofs.YtffienmbeifioaaDoor
open Go.Lx Go.RowKit
def C.ref08_Depth (fl : Nat) : Prop := ∀ {rv1 : T_Regex} {r : Int} (_ : M.ref08_Depth fl rv1 = some r) {g0 : Hp} {w0 : World} (hi : Imm g0 w0) {cs1 : List Value} (hcs1 : tT_Regex.rel g0 cs1 rv1),
    CallsV Tryd.prog 35 #[Value.agg cs1.toArray] w0 (fun v w' => ∃ g', (VRd (tInt .i64) false g' v r) ∧ Ext g0 w0 g' w')
set_option maxRecDepth 100000 in
theorem ref08_Depth_step {fl : Nat} (ih_ref08_Depth : C.ref08_Depth fl) : C.ref08_Depth (fl + 1) := by
  intro rv1 r hM g0 w0 hi cs1 hcs1
  unfold M.ref08_Depth at hM
  obtain ⟨cs2, cs3, cs4, rfl, hcs2, hcs3, hcs4⟩ := tT_Regex_iff.1 hcs1
  have hcs2 : cs2 = _ := hcs2; subst hcs2
  have hcs3 : cs3 = _ := hcs3; subst hcs3
  obtain ⟨v1, rfl, hRv1⟩ := hcs4
  have hs := Sep.start hi
  refine calls_of_WP (args := [Value.agg (List.toArray (α := Value) (([Value.int .i64 rv1.Kind]) ++ ((rv1.Set.1.map (Value.int .u64)) ++ ([v1]))))]) Tryd.func35 rfl Tryd.ntmps35 rfl ?_
  have hds : (argEnv [Value.agg (List.toArray (α := Value) (([Value.int .i64 rv1.Kind]) ++ ((rv1.Set.1.map (Value.int .u64)) ++ ([v1]))))]).ds = [] := rfl
  refine WP_seq ?_
  refine WP_region ?_
  refine OW_box (v := Value.agg (List.toArray (α := Value) (([Value.int .i64 rv1.Kind]) ++ ((rv1.Set.1.map (Value.int .u64)) ++ ([v1]))))) rfl hs (zs := ([Value.int .i64 rv1.Kind]) ++ ((rv1.Set.1.map (Value.int .u64)) ++ ([v1]))) rfl rfl ?_
  intro b1 wv1 hs
  refine O (r_assign (v := Value.int .i64 0) rfl) rfl ?_
  refine OW_nil ?_
  refine WP_seq ?_
  refine WP_region ?_
  refine O (r_assign (v := Value.int .i64 0) rfl) rfl ?_
  refine OW_nil ?_
  obtain ⟨nv4, hx1, hKhx1⟩ := bindS hM
  refine WP_cut (fun E w => ∃ (gg7 : Hp), E 3 = Value.int .i64 nv4 ∧ E.ds = [] ∧ Hle g0 gg7 ∧ Go.Lx.Sep g0 w0 gg7 w []) ?_ ?_
  · have hM := hx1
    have hag0 := Hle.refl g0
    refine WP_seq ?_
    refine WP_region ?_
    refine O (r_assign (v := Value.int .i64 0) rfl) rfl ?_
    refine OW_nil ?_
    refine WP_block ?_
    refine WP_loop (fun (st9 : Int × Int) E w => match st9 with | (nv6, i5) => ∃ (gg10 : Hp), E 1 = Value.pointer (some ⟨b1, 0, none⟩) ∧ E 3 = Value.int .i64 nv6 ∧ E 4 = Value.int .i64 i5 ∧ E.ds = [] ∧ Hle g0 gg10 ∧ Go.Lx.Sep g0 w0 gg10 w [Go.Lx.box b1 27 (([Value.int .i64 rv1.Kind]) ++ ((rv1.Set.1.map (Value.int .u64)) ++ ([v1])))]) hM ⟨g0, rfl, rfl, rfl, hds, (Hle.refl _), hs⟩ ?_
    clear hs hM
    rintro ⟨nv6, i5⟩ o2 E w hM ⟨gg10, hE1, hE3, hE4, hds, hlegg10, hs⟩
    obtain ⟨E, rfl⟩ := open1 (E := E) hE1
    obtain ⟨E, rfl⟩ := open1 (E := E) hE3
    obtain ⟨E, rfl⟩ := open1 (E := E) hE4
    replace hRv1 := hRv1.mono hlegg10
    replace hag0 := hag0.trans hlegg10
    have hagg10 := Hle.refl gg10
    refine WP_seq ?_
    refine WP_seq ?_
    refine WP_region ?_
    refine O (r_move (v := Value.int .i64 i5) rfl) rfl ?_
    refine O (r_fieldAddr Tryd.underlying27 ti25 rfl rfl (by decide) rfl rfl) rfl ?_
    refine O (r_load (v := v1) ti25 rfl (hs.cell (i := 0) (o := 5) rfl (by simp [rv1.Set.2]))) rfl ?_
    obtain ⟨a6, ca6, hva6⟩ := hRv1.shape
    refine O (r_lenSl (v := v1) Tryd.underlying25 rfl hva6) rfl ?_
    refine O (r_lss rfl rfl) rfl ?_
    refine OW_nil ?_
    rcases condS hM with ⟨hc6, hM⟩ | ⟨hc6, hM⟩
    · refine WP_true rfl hc6 ?_
      refine WP_skip ?_
      refine WP_seq ?_
      refine WP_block ?_
      refine WP_region ?_
      refine O (r_move (v := Value.int .i64 nv6) rfl) rfl ?_
      refine O (r_fieldAddr Tryd.underlying27 ti25 rfl rfl (by decide) rfl rfl) rfl ?_
      refine O (r_load (v := v1) ti25 rfl (hs.cell (i := 0) (o := 5) rfl (by simp [rv1.Set.2]))) rfl ?_
      refine O (r_move (v := Value.int .i64 i5) rfl) rfl ?_
      obtain ⟨e6, he6, hM⟩ := bindS hM
      obtain ⟨b7, ob7, cb7, hvb7, cs30, hcs30, hcb7⟩ := hRv1.at he6
      obtain ⟨cs31, cs32, cs33, rfl, hcs31, hcs32, hcs33⟩ := tT_Regex_iff.1 hcs30
      have hcs31 : cs31 = _ := hcs31; subst hcs31
      have hcs32 : cs32 = _ := hcs32; subst hcs32
      obtain ⟨v12, rfl, hRv12⟩ := hcs33
      refine O (r_idxSl Tryd.underlying25 ti27 (v := v1) rfl hvb7 rfl (idxL_some he6).1 (idxL_some he6).2.1) rfl ?_
      refine O (r_loadEl (cs := ([Value.int .i64 e6.Kind]) ++ ((e6.Set.1.map (Value.int .u64)) ++ ([v12]))) ti27 rfl (by simp [e6.Set.2]) (.inl rfl) (hcb7 _ hs.imm) (v := Value.agg (List.toArray (α := Value) (([Value.int .i64 e6.Kind]) ++ ((e6.Set.1.map (Value.int .u64)) ++ ([v12]))))) rfl) rfl ?_
      obtain ⟨rv7, hrv7, hM⟩ := bindS hM
      refine C [Value.agg (List.toArray (α := Value) (([Value.int .i64 e6.Kind]) ++ ((e6.Set.1.map (Value.int .u64)) ++ ([v12]))))] cf35 rfl (ih_ref08_Depth hrv7 hs.imm (tT_Regex_iff.2 ⟨[Value.int .i64 e6.Kind], e6.Set.1.map (Value.int .u64), [v12], rfl, rfl, rfl, ⟨_, rfl, hRv12⟩⟩)) rfl ?_
      rintro v13 wv7 ⟨gg13, hvv13, hegg13⟩
      have hlegg13 := hegg13.le hs.imm
      replace hs := hs.call hegg13
      replace hRv1 := hRv1.mono hlegg13
      replace hRv12 := hRv12.mono hlegg13
      replace hlegg10 := hlegg10.trans hlegg13
      replace hagg10 := hagg10.trans hlegg13
      obtain ⟨cs34, rfl, hcs34⟩ := hvv13
      have hcs34 : cs34 = _ := hcs34; subst hcs34
      refine O (r_max2 rfl rfl) rfl ?_
      refine O (r_assign (v := Value.int .i64 (max2 nv6 rv7)) rfl) rfl ?_
      refine OW_nil ?_
      refine WP_region ?_
      refine O (r_move (v := Value.int .i64 i5) rfl) rfl ?_
      obtain ⟨t6, ht6, hM⟩ := bindS hM
      refine O (r_addM rfl rfl ht6) rfl ?_
      refine O (r_assign (v := Value.int .i64 t6) rfl) rfl ?_
      refine OW_nil ?_
      obtain rfl := Option.some.inj hM
      exact ⟨gg13, rfl, rfl, rfl, hds, hlegg10, hs⟩
    · refine WP_false rfl hc6 ?_
      refine WP_exit ?_
      obtain rfl := Option.some.inj hM
      refine fun hr => ?_
      have hM := congrArg some hr
      obtain rfl := Option.some.inj hM
      exact ⟨gg10, rfl, hds, hlegg10, (hs.sub (.cons _ .slnil))⟩
  · clear hs
    rintro E w ⟨gg7, hE3, hds, hlegg7, hs⟩
    have hM := hKhx1
    obtain ⟨E, rfl⟩ := open1 (E := E) hE3
    refine WP_seq ?_
    refine WP_region ?_
    refine O (r_move (v := Value.int .i64 nv4) rfl) rfl ?_
    obtain ⟨t7, ht7, hM⟩ := bindS hM
    refine O (r_addM rfl rfl ht7) rfl ?_
    refine O (r_assign (v := Value.int .i64 t7) rfl) rfl ?_
    refine OW_nil ?_
    refine WP_ret ?_
    obtain rfl := Option.some.inj hM
    refine FL_nil hds ?_
    exact ⟨_, res1 Tryd.results35 (rv_tmp (v := Value.int .i64 t7) rfl), gg7, ⟨[Value.int .i64 t7], rfl, rfl⟩, hs.ext⟩
theorem ref08_Depth_zero : C.ref08_Depth 0 := by
  unfold C.ref08_Depth
  intros
  simp_all only [M.ref08_Depth, reduceCtorEq]
theorem ref08_Depth_all : ∀ fl, C.ref08_Depth fl := by
  intro fl
  induction fl with
  | zero => exact ref08_Depth_zero
  | succ fl ih =>
    exact ref08_Depth_step ih
theorem ref08_Depth_ok {fl : Nat} : C.ref08_Depth fl := (ref08_Depth_all fl)

set_option maxRecDepth 100000 in
theorem law08_small_ok {rv1 : T_Regex} {most1 : Int} {r : Bool} (hM : M.law08_small rv1 most1 = some r) {g0 : Hp} {w0 : World} (hi : Imm g0 w0) {cs1 : List Value} (hcs1 : tT_Regex.rel g0 cs1 rv1) :
    CallsV Tryd.prog 19 #[Value.agg cs1.toArray, Value.int .i64 most1] w0 (fun v w' => ∃ g', (VRd tBool false g' v r) ∧ Ext g0 w0 g' w') := by
  unfold M.law08_small at hM
  obtain ⟨cs2, cs3, cs4, rfl, hcs2, hcs3, hcs4⟩ := tT_Regex_iff.1 hcs1
  have hcs2 : cs2 = _ := hcs2; subst hcs2
  have hcs3 : cs3 = _ := hcs3; subst hcs3
  obtain ⟨v1, rfl, hRv1⟩ := hcs4
  have hs := Sep.start hi
  refine calls_of_WP (args := [Value.agg (List.toArray (α := Value) (([Value.int .i64 rv1.Kind]) ++ ((rv1.Set.1.map (Value.int .u64)) ++ ([v1])))), Value.int .i64 most1]) Tryd.func19 rfl Tryd.ntmps19 rfl ?_
  have hds : (argEnv [Value.agg (List.toArray (α := Value) (([Value.int .i64 rv1.Kind]) ++ ((rv1.Set.1.map (Value.int .u64)) ++ ([v1])))), Value.int .i64 most1]).ds = [] := rfl
  refine WP_seq ?_
  refine WP_region ?_
  refine OW_box (v := Value.agg (List.toArray (α := Value) (([Value.int .i64 rv1.Kind]) ++ ((rv1.Set.1.map (Value.int .u64)) ++ ([v1]))))) rfl hs (zs := ([Value.int .i64 rv1.Kind]) ++ ((rv1.Set.1.map (Value.int .u64)) ++ ([v1]))) rfl rfl ?_
  intro b1 wv1 hs
  refine O (r_assign (v := Value.bool false) rfl) rfl ?_
  refine OW_nil ?_
  obtain ⟨xv1, hx1, hKhx1⟩ := bindS hM
  refine WP_cut (fun E w => ∃ (gg4 : Hp), E 4 = Value.bool xv1 ∧ E.ds = [] ∧ Hle g0 gg4 ∧ Go.Lx.Sep g0 w0 gg4 w []) ?_ ?_
  · have hM := hx1
    have hag0 := Hle.refl g0
    refine WP_region ?_
    refine O (r_loadN (cs := ([Value.int .i64 rv1.Kind]) ++ ((rv1.Set.1.map (Value.int .u64)) ++ ([v1]))) ti27 rfl (by simp [rv1.Set.2]) (hs.cells (i := 0) rfl)) rfl ?_
    refine O (r_move (v := Value.int .i64 most1) rfl) rfl ?_
    obtain ⟨rv5, hrv5, hM⟩ := bindS hM
    refine C [Value.agg (List.toArray (α := Value) (([Value.int .i64 rv1.Kind]) ++ ((rv1.Set.1.map (Value.int .u64)) ++ ([v1])))), Value.int .i64 most1] cf12 rfl (ref08_Few_ok hrv5 hs.imm (tT_Regex_iff.2 ⟨[Value.int .i64 rv1.Kind], rv1.Set.1.map (Value.int .u64), [v1], rfl, rfl, rfl, ⟨_, rfl, hRv1⟩⟩)) rfl ?_
    rintro v5 wv5 ⟨gg5, hvv5, hegg5⟩
    have hlegg5 := hegg5.le hs.imm
    replace hs := hs.call hegg5
    replace hRv1 := hRv1.mono hlegg5
    replace hag0 := hag0.trans hlegg5
    obtain ⟨cs8, rfl, hcs8⟩ := hvv5
    have hcs8 : cs8 = _ := hcs8; subst hcs8
    refine O (r_move (v := Value.bool rv5) rfl) rfl ?_
    rcases condS hM with ⟨hg3, hM⟩ | ⟨hg3, hM⟩
    · refine OG rfl rfl rfl (by rw [hg3]; rfl) (r_loadN (cs := ([Value.int .i64 rv1.Kind]) ++ ((rv1.Set.1.map (Value.int .u64)) ++ ([v1]))) ti27 rfl (by simp [rv1.Set.2]) (hs.cells (i := 0) rfl)) rfl ?_
      obtain ⟨rv6, hrv6, hM⟩ := bindS hM
      refine CG rfl rfl rfl (by rw [hg3]; rfl) [Value.agg (List.toArray (α := Value) (([Value.int .i64 rv1.Kind]) ++ ((rv1.Set.1.map (Value.int .u64)) ++ ([v1]))))] cf15 rfl (ref08_Valid_ok hrv6 hs.imm (tT_Regex_iff.2 ⟨[Value.int .i64 rv1.Kind], rv1.Set.1.map (Value.int .u64), [v1], rfl, rfl, rfl, ⟨_, rfl, hRv1⟩⟩)) rfl ?_
      rintro v6 wv6 ⟨gg6, hvv6, hegg6⟩
      have hlegg6 := hegg6.le hs.imm
      replace hs := hs.call hegg6
      replace hRv1 := hRv1.mono hlegg6
      replace hag0 := hag0.trans hlegg6
      obtain ⟨cs9, rfl, hcs9⟩ := hvv6
      have hcs9 : cs9 = _ := hcs9; subst hcs9
      refine O (r_pickT (v := Value.bool rv6) rfl hg3 rfl) rfl ?_
      refine O (r_move (v := Value.bool rv6) rfl) rfl ?_
      rcases condS hM with ⟨hg4, hM⟩ | ⟨hg4, hM⟩
      · refine OG rfl rfl rfl (by rw [hg4]; rfl) (r_loadN (cs := ([Value.int .i64 rv1.Kind]) ++ ((rv1.Set.1.map (Value.int .u64)) ++ ([v1]))) ti27 rfl (by simp [rv1.Set.2]) (hs.cells (i := 0) rfl)) rfl ?_
        obtain ⟨rv7, hrv7, hM⟩ := bindS hM
        refine CG rfl rfl rfl (by rw [hg4]; rfl) [Value.agg (List.toArray (α := Value) (([Value.int .i64 rv1.Kind]) ++ ((rv1.Set.1.map (Value.int .u64)) ++ ([v1]))))] cf35 rfl (ref08_Depth_ok hrv7 hs.imm (tT_Regex_iff.2 ⟨[Value.int .i64 rv1.Kind], rv1.Set.1.map (Value.int .u64), [v1], rfl, rfl, rfl, ⟨_, rfl, hRv1⟩⟩)) rfl ?_
        rintro v7 wv7 ⟨gg7, hvv7, hegg7⟩
        have hlegg7 := hegg7.le hs.imm
        replace hs := hs.call hegg7
        replace hRv1 := hRv1.mono hlegg7
        replace hag0 := hag0.trans hlegg7
        obtain ⟨cs10, rfl, hcs10⟩ := hvv7
        have hcs10 : cs10 = _ := hcs10; subst hcs10
        refine OG rfl rfl rfl (by rw [hg4]; rfl) (r_leq rfl rfl) rfl ?_
        refine O (r_pickT (v := Value.bool (decide (rv7 ≤ 8))) rfl hg4 rfl) rfl ?_
        refine O (r_assign (v := Value.bool (decide (rv7 ≤ 8))) rfl) rfl ?_
        refine OW_nil ?_
        obtain rfl := Option.some.inj hM
        exact ⟨gg7, rfl, hds, hag0, (hs.sub (.cons _ .slnil))⟩
      · refine OK rfl rfl rfl (by rw [hg4]; rfl) rfl ?_
        refine OK rfl rfl rfl (by rw [hg4]; rfl) rfl ?_
        refine OK rfl rfl rfl (by rw [hg4]; rfl) rfl ?_
        refine O (r_pickF (v := Value.bool false) rfl hg4 rfl) rfl ?_
        refine O (r_assign (v := Value.bool false) rfl) rfl ?_
        refine OW_nil ?_
        obtain rfl := Option.some.inj hM
        exact ⟨gg6, rfl, hds, hag0, (hs.sub (.cons _ .slnil))⟩
    · refine OK rfl rfl rfl (by rw [hg3]; rfl) rfl ?_
      refine OK rfl rfl rfl (by rw [hg3]; rfl) rfl ?_
      refine O (r_pickF (v := Value.bool false) rfl hg3 rfl) rfl ?_
      refine O (r_move (v := Value.bool false) rfl) rfl ?_
      refine OK rfl rfl rfl rfl rfl ?_
      refine OK rfl rfl rfl rfl rfl ?_
      refine OK rfl rfl rfl rfl rfl ?_
      refine O (r_pickF (v := Value.bool false) rfl rfl rfl) rfl ?_
      refine O (r_assign (v := Value.bool false) rfl) rfl ?_
      refine OW_nil ?_
      obtain rfl := Option.some.inj hM
      exact ⟨gg5, rfl, hds, hag0, (hs.sub (.cons _ .slnil))⟩
  · clear hs
    rintro E w ⟨gg4, hE4, hds, hlegg4, hs⟩
    have hM := hKhx1
    obtain ⟨E, rfl⟩ := open1 (E := E) hE4
    refine WP_ret ?_
    obtain rfl := Option.some.inj hM
    refine FL_nil hds ?_
    exact ⟨_, res1 Tryd.results19 (rv_tmp (v := Value.bool xv1) rfl), gg4, ⟨[Value.bool xv1], rfl, rfl⟩, hs.ext⟩


end Go.Proofs.YtffienmbeifioaaDoor
