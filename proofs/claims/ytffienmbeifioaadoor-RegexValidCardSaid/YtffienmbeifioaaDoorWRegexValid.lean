/- The walk of the law. Printed by a program of my own. -/
import Derived.Test.YtffienmbeifioaaDoorWalk7
set_option linter.unusedVariables false
set_option linter.unusedSimpArgs false
namespace Go.Proofs.YtffienmbeifioaaDoor
open Go.Lx Go.RowKit
set_option maxRecDepth 100000 in
theorem law08_RegexValid_ok {rv1 : T_Regex} {r : Bool} (hM : M.law08_RegexValid rv1 = some r) {g0 : Hp} {w0 : World} (hi : Imm g0 w0) {cs1 : List Value} (hcs1 : tT_Regex.rel g0 cs1 rv1) (hG0 : GBox 0 (M.deBruijn.1.map (Value.int .u8)) g0) :
    CallsV Tryd.prog 3 #[Value.agg cs1.toArray] w0 (fun v w' => ∃ g', (VRd tBool false g' v r) ∧ Ext g0 w0 g' w') := by
  unfold M.law08_RegexValid at hM
  obtain ⟨cs2, cs3, cs4, rfl, hcs2, hcs3, hcs4⟩ := tT_Regex_iff.1 hcs1
  have hcs2 : cs2 = _ := hcs2; subst hcs2
  have hcs3 : cs3 = _ := hcs3; subst hcs3
  obtain ⟨v1, rfl, hRv1⟩ := hcs4
  have hs := Sep.start hi
  refine calls_of_WP (args := [Value.agg (List.toArray (α := Value) (([Value.int .i64 rv1.Kind]) ++ ((rv1.Set.1.map (Value.int .u64)) ++ ([v1]))))]) Tryd.func3 rfl Tryd.ntmps3 rfl ?_
  have hds : (argEnv [Value.agg (List.toArray (α := Value) (([Value.int .i64 rv1.Kind]) ++ ((rv1.Set.1.map (Value.int .u64)) ++ ([v1]))))]).ds = [] := rfl
  refine WP_seq ?_
  refine WP_region ?_
  refine OW_box (v := Value.agg (List.toArray (α := Value) (([Value.int .i64 rv1.Kind]) ++ ((rv1.Set.1.map (Value.int .u64)) ++ ([v1]))))) rfl hs (zs := ([Value.int .i64 rv1.Kind]) ++ ((rv1.Set.1.map (Value.int .u64)) ++ ([v1]))) rfl rfl ?_
  intro b1 wv1 hs
  refine O (r_assign (v := Value.bool false) rfl) rfl ?_
  refine OW_nil ?_
  refine WP_seq ?_
  refine WP_seq ?_
  refine WP_region ?_
  refine O (r_loadN (cs := ([Value.int .i64 rv1.Kind]) ++ ((rv1.Set.1.map (Value.int .u64)) ++ ([v1]))) ti27 rfl (by simp [rv1.Set.2]) (hs.cells (i := 0) rfl)) rfl ?_
  obtain ⟨rv2, hrv2, hM⟩ := bindS hM
  refine C [Value.agg (List.toArray (α := Value) (([Value.int .i64 rv1.Kind]) ++ ((rv1.Set.1.map (Value.int .u64)) ++ ([v1])))), Value.int .i64 100] cf12 rfl (ref08_Few_ok hrv2 hs.imm (tT_Regex_iff.2 ⟨[Value.int .i64 rv1.Kind], rv1.Set.1.map (Value.int .u64), [v1], rfl, rfl, rfl, ⟨_, rfl, hRv1⟩⟩)) rfl ?_
  rintro v2 wv2 ⟨gg1, hvv2, hegg1⟩
  have hlegg1 := hegg1.le hs.imm
  replace hs := hs.call hegg1
  replace hG0 := hG0.mono hlegg1
  replace hRv1 := hRv1.mono hlegg1
  obtain ⟨cs5, rfl, hcs5⟩ := hvv2
  have hcs5 : cs5 = _ := hcs5; subst hcs5
  refine O (r_not rfl) rfl ?_
  refine OW_nil ?_
  rcases condS hM with ⟨hc1, hM⟩ | ⟨hc1, hM⟩
  · refine WP_true rfl hc1 ?_
    refine WP_seq ?_
    refine WP_region ?_
    obtain ⟨rv3, hrv3, hM⟩ := bindS hM
    refine C [] cf13 rfl (law08_awake_ok hrv3 hs.imm hG0) rfl ?_
    rintro v3 wv3 ⟨gg2, hvv3, hegg2⟩
    have hlegg2 := hegg2.le hs.imm
    replace hs := hs.call hegg2
    replace hG0 := hG0.mono hlegg2
    replace hRv1 := hRv1.mono hlegg2
    obtain ⟨cs6, rfl, hcs6⟩ := hvv3
    have hcs6 : cs6 = _ := hcs6; subst hcs6
    refine O (r_assign (v := Value.bool rv3) rfl) rfl ?_
    refine OW_nil ?_
    refine WP_ret ?_
    obtain rfl := Option.some.inj hM
    refine FL_nil hds ?_
    exact ⟨_, res1 Tryd.results3 (rv_tmp (v := Value.bool rv3) rfl), gg2, ⟨[Value.bool rv3], rfl, rfl⟩, hs.ext⟩
  · refine WP_false rfl hc1 ?_
    refine WP_skip ?_
    obtain ⟨xv1, hx1, hKhx1⟩ := bindS hM
    refine WP_cut (fun E w => ∃ (gg6 : Hp), E 2 = Value.bool xv1 ∧ E.ds = [] ∧ Hle gg1 gg6 ∧ Go.Lx.Sep g0 w0 gg6 w []) ?_ ?_
    · have hM := hx1
      have hagg1 := Hle.refl gg1
      refine WP_any (.s 0 (.q 1 (.q 2 (.q 4 (.s 3 (.s 5 (.q 6 (.q 7 (.q 8 (.leaf)))))))))) (SS g0 w0 gg1 [Go.Lx.box b1 27 (([Value.int .i64 rv1.Kind]) ++ ((rv1.Set.1.map (Value.int .u64)) ++ ([v1])))]) mo (by decide +kernel) ?_
      have hs := hs.drew
      have hG0b := hG0
      have hRv1b := hRv1
      have hS : SS g0 w0 gg1 [Go.Lx.box b1 27 (([Value.int .i64 rv1.Kind]) ++ ((rv1.Set.1.map (Value.int .u64)) ++ ([v1])))] _ := ⟨gg1, Hle.refl _, hs⟩
      refine A1 rfl ?_
      obtain ⟨rv7, hrv7, hM⟩ := bindS hM
      refine C [] cf13 rfl (law08_awake_ok hrv7 hs.imm hG0) rfl ?_
      rintro v7 wv7 ⟨gg7, hvv7, hegg7⟩
      have hlegg7 := hegg7.le hs.imm
      replace hs := hs.call hegg7
      replace hG0 := hG0.mono hlegg7
      replace hRv1 := hRv1.mono hlegg7
      replace hagg1 := hagg1.trans hlegg7
      obtain ⟨cs10, rfl, hcs10⟩ := hvv7
      have hcs10 : cs10 = _ := hcs10; subst hcs10
      refine OW_nil ?_
      have hS : SS g0 w0 gg1 [Go.Lx.box b1 27 (([Value.int .i64 rv1.Kind]) ++ ((rv1.Set.1.map (Value.int .u64)) ++ ([v1])))] _ := ⟨gg7, hagg1, hs⟩
      refine ⟨fun _ => hS, ?_⟩
      refine A rfl hS (fun w9 h9 => by obtain ⟨g9, hle9, hs⟩ := h9; exact r_move (v := Value.bool rv7) rfl) rfl ?_
      rcases condS hM with ⟨hg2, hM⟩ | ⟨hg2, hM⟩
      · refine AG rfl rfl rfl rfl (by rw [hg2]; rfl) hS (fun w9 h9 => by obtain ⟨g9, hle9, hs⟩ := h9; exact r_loadN (cs := ([Value.int .i64 rv1.Kind]) ++ ((rv1.Set.1.map (Value.int .u64)) ++ ([v1]))) ti27 rfl (by simp [rv1.Set.2]) (hs.cells (i := 0) rfl)) rfl ?_
        refine AG rfl rfl rfl rfl (by rw [hg2]; rfl) hS (fun w9 h9 => by obtain ⟨g9, hle9, hs⟩ := h9; exact r_loadN (cs := ([Value.int .i64 rv1.Kind]) ++ ((rv1.Set.1.map (Value.int .u64)) ++ ([v1]))) ti27 rfl (by simp [rv1.Set.2]) (hs.cells (i := 0) rfl)) rfl ?_
        refine A1 rfl ?_
        obtain ⟨rv8, hrv8, hM⟩ := bindS hM
        refine CG rfl rfl rfl (by rw [hg2]; rfl) [Value.agg (List.toArray (α := Value) (([Value.int .i64 rv1.Kind]) ++ ((rv1.Set.1.map (Value.int .u64)) ++ ([v1]))))] cf14 rfl (regex_Valid_ok hrv8 hs.imm (tT_Regex_iff.2 ⟨[Value.int .i64 rv1.Kind], rv1.Set.1.map (Value.int .u64), [v1], rfl, rfl, rfl, ⟨_, rfl, hRv1⟩⟩)) rfl ?_
        rintro v8 wv8 ⟨gg8, hvv8, hegg8⟩
        have hlegg8 := hegg8.le hs.imm
        replace hs := hs.call hegg8
        replace hG0 := hG0.mono hlegg8
        replace hRv1 := hRv1.mono hlegg8
        replace hagg1 := hagg1.trans hlegg8
        obtain ⟨cs11, rfl, hcs11⟩ := hvv8
        have hcs11 : cs11 = _ := hcs11; subst hcs11
        refine OW_nil ?_
        have hS : SS g0 w0 gg1 [Go.Lx.box b1 27 (([Value.int .i64 rv1.Kind]) ++ ((rv1.Set.1.map (Value.int .u64)) ++ ([v1])))] _ := ⟨gg8, hagg1, hs⟩
        refine ⟨fun _ => hS, ?_⟩
        refine A1 rfl ?_
        obtain ⟨rv9, hrv9, hM⟩ := bindS hM
        refine CG rfl rfl rfl (by rw [hg2]; rfl) [Value.agg (List.toArray (α := Value) (([Value.int .i64 rv1.Kind]) ++ ((rv1.Set.1.map (Value.int .u64)) ++ ([v1]))))] cf15 rfl (ref08_Valid_ok hrv9 hs.imm (tT_Regex_iff.2 ⟨[Value.int .i64 rv1.Kind], rv1.Set.1.map (Value.int .u64), [v1], rfl, rfl, rfl, ⟨_, rfl, hRv1⟩⟩)) rfl ?_
        rintro v9 wv9 ⟨gg9, hvv9, hegg9⟩
        have hlegg9 := hegg9.le hs.imm
        replace hs := hs.call hegg9
        replace hG0 := hG0.mono hlegg9
        replace hRv1 := hRv1.mono hlegg9
        replace hagg1 := hagg1.trans hlegg9
        obtain ⟨cs12, rfl, hcs12⟩ := hvv9
        have hcs12 : cs12 = _ := hcs12; subst hcs12
        refine OW_nil ?_
        have hS : SS g0 w0 gg1 [Go.Lx.box b1 27 (([Value.int .i64 rv1.Kind]) ++ ((rv1.Set.1.map (Value.int .u64)) ++ ([v1])))] _ := ⟨gg9, hagg1, hs⟩
        refine ⟨fun _ => hS, ?_⟩
        refine AG rfl rfl rfl rfl (by rw [hg2]; rfl) hS (fun w9 h9 => by obtain ⟨g9, hle9, hs⟩ := h9; exact r_eqlB Tryd.underlying4 rfl rfl) rfl ?_
        refine A rfl hS (fun w9 h9 => by obtain ⟨g9, hle9, hs⟩ := h9; exact r_pickT (v := Value.bool (rv8 == rv9)) rfl hg2 rfl) rfl ?_
        refine A rfl hS (fun w9 h9 => by obtain ⟨g9, hle9, hs⟩ := h9; exact r_assign (v := Value.bool (rv8 == rv9)) rfl) rfl ?_
        refine AN ?_
        obtain rfl := Option.some.inj hM
        exact ⟨gg9, rfl, hds, hagg1, (hs.sub (.cons _ .slnil))⟩
      · refine AK rfl rfl rfl rfl (by rw [hg2]; rfl) hS rfl ?_
        refine AK rfl rfl rfl rfl (by rw [hg2]; rfl) hS rfl ?_
        refine A1 rfl ?_
        refine OK rfl rfl rfl (by rw [hg2]; rfl) rfl ?_
        refine OW_nil ⟨fun _ => hS, ?_⟩
        refine A1 rfl ?_
        refine OK rfl rfl rfl (by rw [hg2]; rfl) rfl ?_
        refine OW_nil ⟨fun _ => hS, ?_⟩
        refine AK rfl rfl rfl rfl (by rw [hg2]; rfl) hS rfl ?_
        refine A rfl hS (fun w9 h9 => by obtain ⟨g9, hle9, hs⟩ := h9; exact r_pickF (v := Value.bool false) rfl hg2 rfl) rfl ?_
        refine A rfl hS (fun w9 h9 => by obtain ⟨g9, hle9, hs⟩ := h9; exact r_assign (v := Value.bool false) rfl) rfl ?_
        refine AN ?_
        obtain rfl := Option.some.inj hM
        exact ⟨gg7, rfl, hds, hagg1, (hs.sub (.cons _ .slnil))⟩
    · clear hs
      rintro E w ⟨gg6, hE2, hds, hlegg6, hs⟩
      have hM := hKhx1
      obtain ⟨E, rfl⟩ := open1 (E := E) hE2
      replace hG0 := hG0.mono hlegg6
      refine WP_ret ?_
      obtain rfl := Option.some.inj hM
      refine FL_nil hds ?_
      exact ⟨_, res1 Tryd.results3 (rv_tmp (v := Value.bool xv1) rfl), gg6, ⟨[Value.bool xv1], rfl, rfl⟩, hs.ext⟩

end Go.Proofs.YtffienmbeifioaaDoor
