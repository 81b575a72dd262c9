/- The walk of the law. Printed by a program of my own. -/
import Derived.Test.YtffienmbeifioaaDoorTyp
import Derived.Test.YtffienmbeifioaaDoorWalk4
import Derived.Test.YtffienmbeifioaaDoorWalk7
import Derived.Test.YtffienmbeifioaaDoorWalk12
import Derived.Test.YtffienmbeifioaaDoorWalk15
set_option linter.unusedVariables false
set_option linter.unusedSimpArgs false
namespace Go.Proofs.YtffienmbeifioaaDoor
open Go.Lx Go.RowKit
set_option maxRecDepth 100000 in
theorem law08_RegexFormat_ok {rv1 : T_Regex} {r : Bool} (hM : M.law08_RegexFormat rv1 = some r) {g0 : Hp} {w0 : World} (hi : Imm g0 w0) {cs1 : List Value} (hcs1 : tT_Regex.rel g0 cs1 rv1) (hG0 : GBox 0 (M.deBruijn.1.map (Value.int .u8)) g0) :
    CallsV Tryd.prog 5 #[Value.agg cs1.toArray] w0 (fun v w' => ∃ g', (VRd tBool false g' v r) ∧ Ext g0 w0 g' w') := by
  unfold M.law08_RegexFormat at hM
  obtain ⟨cs2, cs3, cs4, rfl, hcs2, hcs3, hcs4⟩ := tT_Regex_iff.1 hcs1
  have hcs2 : cs2 = _ := hcs2; subst hcs2
  have hcs3 : cs3 = _ := hcs3; subst hcs3
  obtain ⟨v1, rfl, hRv1⟩ := hcs4
  have hs := Sep.start hi
  refine calls_of_WP (args := [Value.agg (List.toArray (α := Value) (([Value.int .i64 rv1.Kind]) ++ ((rv1.Set.1.map (Value.int .u64)) ++ ([v1]))))]) Tryd.func5 rfl Tryd.ntmps5 rfl ?_
  have hds : (argEnv [Value.agg (List.toArray (α := Value) (([Value.int .i64 rv1.Kind]) ++ ((rv1.Set.1.map (Value.int .u64)) ++ ([v1]))))]).ds = [] := rfl
  refine WP_seq ?_
  refine WP_region ?_
  refine OW_box (v := Value.agg (List.toArray (α := Value) (([Value.int .i64 rv1.Kind]) ++ ((rv1.Set.1.map (Value.int .u64)) ++ ([v1]))))) rfl hs (zs := ([Value.int .i64 rv1.Kind]) ++ ((rv1.Set.1.map (Value.int .u64)) ++ ([v1]))) rfl rfl ?_
  intro b1 wv1 hs
  refine O (r_assign (v := Value.bool false) rfl) rfl ?_
  refine OW_nil ?_
  refine WP_seq ?_
  obtain ⟨xv1, hx1, hKhx1⟩ := bindS hM
  refine WP_cut (fun E w => ∃ (gg3 : Hp), E 1 = Value.pointer (some ⟨b1, 0, none⟩) ∧ E 10 = Value.bool xv1 ∧ E.ds = [] ∧ Hle g0 gg3 ∧ Go.Lx.Sep g0 w0 gg3 w [Go.Lx.box b1 27 (([Value.int .i64 rv1.Kind]) ++ ((rv1.Set.1.map (Value.int .u64)) ++ ([v1])))]) ?_ ?_
  · have hM := hx1
    have hag0 := Hle.refl g0
    refine WP_region ?_
    refine O (r_loadN (cs := ([Value.int .i64 rv1.Kind]) ++ ((rv1.Set.1.map (Value.int .u64)) ++ ([v1]))) ti27 rfl (by simp [rv1.Set.2]) (hs.cells (i := 0) rfl)) rfl ?_
    obtain ⟨rv4, hrv4, hM⟩ := bindS hM
    refine C [Value.agg (List.toArray (α := Value) (([Value.int .i64 rv1.Kind]) ++ ((rv1.Set.1.map (Value.int .u64)) ++ ([v1])))), Value.int .i64 60] cf19 rfl (law08_small_ok hrv4 hs.imm (tT_Regex_iff.2 ⟨[Value.int .i64 rv1.Kind], rv1.Set.1.map (Value.int .u64), [v1], rfl, rfl, rfl, ⟨_, rfl, hRv1⟩⟩)) rfl ?_
    rintro v4 wv4 ⟨gg4, hvv4, hegg4⟩
    have hlegg4 := hegg4.le hs.imm
    replace hs := hs.call hegg4
    replace hG0 := hG0.mono hlegg4
    replace hRv1 := hRv1.mono hlegg4
    replace hag0 := hag0.trans hlegg4
    obtain ⟨cs7, rfl, hcs7⟩ := hvv4
    have hcs7 : cs7 = _ := hcs7; subst hcs7
    refine O (r_not rfl) rfl ?_
    refine O (r_move (v := Value.bool (!rv4)) rfl) rfl ?_
    rcases condS hM with ⟨hg2, hM⟩ | ⟨hg2, hM⟩
    · refine OK rfl rfl rfl (by rw [hg2]; rfl) rfl ?_
      refine OK rfl rfl rfl (by rw [hg2]; rfl) rfl ?_
      refine OK rfl rfl rfl (by rw [hg2]; rfl) rfl ?_
      refine O (r_pickT (v := Value.bool true) rfl hg2 rfl) rfl ?_
      refine OW_nil ?_
      obtain rfl := Option.some.inj hM
      exact ⟨gg4, rfl, rfl, hds, hag0, hs⟩
    · refine OG rfl rfl rfl (by rw [hg2]; rfl) (r_loadN (cs := ([Value.int .i64 rv1.Kind]) ++ ((rv1.Set.1.map (Value.int .u64)) ++ ([v1]))) ti27 rfl (by simp [rv1.Set.2]) (hs.cells (i := 0) rfl)) rfl ?_
      obtain ⟨rv5, hrv5, hM⟩ := bindS hM
      refine CG rfl rfl rfl (by rw [hg2]; rfl) [Value.agg (List.toArray (α := Value) (([Value.int .i64 rv1.Kind]) ++ ((rv1.Set.1.map (Value.int .u64)) ++ ([v1]))))] cf20 rfl (ref08_Printable_ok hrv5 hs.imm (tT_Regex_iff.2 ⟨[Value.int .i64 rv1.Kind], rv1.Set.1.map (Value.int .u64), [v1], rfl, rfl, rfl, ⟨_, rfl, hRv1⟩⟩)) rfl ?_
      rintro v5 wv5 ⟨gg5, hvv5, hegg5⟩
      have hlegg5 := hegg5.le hs.imm
      replace hs := hs.call hegg5
      replace hG0 := hG0.mono hlegg5
      replace hRv1 := hRv1.mono hlegg5
      replace hag0 := hag0.trans hlegg5
      obtain ⟨cs8, rfl, hcs8⟩ := hvv5
      have hcs8 : cs8 = _ := hcs8; subst hcs8
      refine OG rfl rfl rfl (by rw [hg2]; rfl) (r_not rfl) rfl ?_
      refine O (r_pickF (v := Value.bool (!rv5)) rfl hg2 rfl) rfl ?_
      refine OW_nil ?_
      obtain rfl := Option.some.inj hM
      exact ⟨gg5, rfl, rfl, hds, hag0, hs⟩
  · clear hs
    rintro E w ⟨gg3, hE1, hE10, hds, hlegg3, hs⟩
    have hM := hKhx1
    obtain ⟨E, rfl⟩ := open1 (E := E) hE1
    obtain ⟨E, rfl⟩ := open1 (E := E) hE10
    replace hRv1 := hRv1.mono hlegg3
    replace hG0 := hG0.mono hlegg3
    rcases condS hM with ⟨hc1, hM⟩ | ⟨hc1, hM⟩
    · refine WP_true rfl hc1 ?_
      refine WP_seq ?_
      refine WP_region ?_
      obtain ⟨rv6, hrv6, hM⟩ := bindS hM
      refine C [] cf13 rfl (law08_awake_ok hrv6 hs.imm hG0) rfl ?_
      rintro v6 wv6 ⟨gg6, hvv6, hegg6⟩
      have hlegg6 := hegg6.le hs.imm
      replace hs := hs.call hegg6
      replace hRv1 := hRv1.mono hlegg6
      replace hG0 := hG0.mono hlegg6
      obtain ⟨cs9, rfl, hcs9⟩ := hvv6
      have hcs9 : cs9 = _ := hcs9; subst hcs9
      refine O (r_assign (v := Value.bool rv6) rfl) rfl ?_
      refine OW_nil ?_
      refine WP_ret ?_
      obtain rfl := Option.some.inj hM
      refine FL_nil hds ?_
      exact ⟨_, res1 Tryd.results5 (rv_tmp (v := Value.bool rv6) rfl), gg6, ⟨[Value.bool rv6], rfl, rfl⟩, hs.ext⟩
    · refine WP_false rfl hc1 ?_
      refine WP_skip ?_
      obtain ⟨xv2, hx2, hKhx2⟩ := bindS hM
      refine WP_cut (fun E w => ∃ (gg10 : Hp), E 2 = Value.bool xv2 ∧ E.ds = [] ∧ Hle gg3 gg10 ∧ Go.Lx.Sep g0 w0 gg10 w []) ?_ ?_
      · have hM := hx2
        have hagg3 := Hle.refl gg3
        refine WP_any (.s 0 (.q 1 (.q 2 (.q 4 (.s 3 (.s 5 (.q 6 (.q 7 (.q 8 (.leaf)))))))))) (SS g0 w0 gg3 [Go.Lx.box b1 27 (([Value.int .i64 rv1.Kind]) ++ ((rv1.Set.1.map (Value.int .u64)) ++ ([v1])))]) mo (by decide +kernel) ?_
        have hs := hs.drew
        have hRv1b := hRv1
        have hG0b := hG0
        have hS : SS g0 w0 gg3 [Go.Lx.box b1 27 (([Value.int .i64 rv1.Kind]) ++ ((rv1.Set.1.map (Value.int .u64)) ++ ([v1])))] _ := ⟨gg3, Hle.refl _, hs⟩
        refine A1 rfl ?_
        obtain ⟨rv10, hrv10, hM⟩ := bindS hM
        refine C [] cf13 rfl (law08_awake_ok hrv10 hs.imm hG0) rfl ?_
        rintro v10 wv10 ⟨gg11, hvv10, hegg11⟩
        have hlegg11 := hegg11.le hs.imm
        replace hs := hs.call hegg11
        replace hRv1 := hRv1.mono hlegg11
        replace hG0 := hG0.mono hlegg11
        replace hagg3 := hagg3.trans hlegg11
        obtain ⟨cs13, rfl, hcs13⟩ := hvv10
        have hcs13 : cs13 = _ := hcs13; subst hcs13
        refine OW_nil ?_
        have hS : SS g0 w0 gg3 [Go.Lx.box b1 27 (([Value.int .i64 rv1.Kind]) ++ ((rv1.Set.1.map (Value.int .u64)) ++ ([v1])))] _ := ⟨gg11, hagg3, hs⟩
        refine ⟨fun _ => hS, ?_⟩
        refine A rfl hS (fun w9 h9 => by obtain ⟨g9, hle9, hs⟩ := h9; exact r_move (v := Value.bool rv10) rfl) rfl ?_
        rcases condS hM with ⟨hg4, hM⟩ | ⟨hg4, hM⟩
        · refine AG rfl rfl rfl rfl (by rw [hg4]; rfl) hS (fun w9 h9 => by obtain ⟨g9, hle9, hs⟩ := h9; exact r_loadN (cs := ([Value.int .i64 rv1.Kind]) ++ ((rv1.Set.1.map (Value.int .u64)) ++ ([v1]))) ti27 rfl (by simp [rv1.Set.2]) (hs.cells (i := 0) rfl)) rfl ?_
          refine AG rfl rfl rfl rfl (by rw [hg4]; rfl) hS (fun w9 h9 => by obtain ⟨g9, hle9, hs⟩ := h9; exact r_loadN (cs := ([Value.int .i64 rv1.Kind]) ++ ((rv1.Set.1.map (Value.int .u64)) ++ ([v1]))) ti27 rfl (by simp [rv1.Set.2]) (hs.cells (i := 0) rfl)) rfl ?_
          refine A1 rfl ?_
          obtain ⟨rv11, hrv11, hM⟩ := bindS hM
          refine CG rfl rfl rfl (by rw [hg4]; rfl) [Value.agg (List.toArray (α := Value) (([Value.int .i64 rv1.Kind]) ++ ((rv1.Set.1.map (Value.int .u64)) ++ ([v1]))))] cf21 rfl (regex_Format_ok hrv11 hs.imm (tT_Regex_iff.2 ⟨[Value.int .i64 rv1.Kind], rv1.Set.1.map (Value.int .u64), [v1], rfl, rfl, rfl, ⟨_, rfl, hRv1⟩⟩) hG0) rfl ?_
          rintro v11 wv11 ⟨gg12, hvv11, hegg12⟩
          have hlegg12 := hegg12.le hs.imm
          replace hs := hs.call hegg12
          replace hRv1 := hRv1.mono hlegg12
          replace hG0 := hG0.mono hlegg12
          replace hagg3 := hagg3.trans hlegg12
          obtain ⟨cs14, rfl, hcs14⟩ := hvv11
          have hcs14 : cs14 = _ := hcs14; subst hcs14
          refine OW_nil ?_
          have hS : SS g0 w0 gg3 [Go.Lx.box b1 27 (([Value.int .i64 rv1.Kind]) ++ ((rv1.Set.1.map (Value.int .u64)) ++ ([v1])))] _ := ⟨gg12, hagg3, hs⟩
          refine ⟨fun _ => hS, ?_⟩
          refine A1 rfl ?_
          obtain ⟨rv12, hrv12, hM⟩ := bindS hM
          refine CG rfl rfl rfl (by rw [hg4]; rfl) [Value.agg (List.toArray (α := Value) (([Value.int .i64 rv1.Kind]) ++ ((rv1.Set.1.map (Value.int .u64)) ++ ([v1]))))] cf22 rfl (ref08_Format_ok hrv12 hs.imm (tT_Regex_iff.2 ⟨[Value.int .i64 rv1.Kind], rv1.Set.1.map (Value.int .u64), [v1], rfl, rfl, rfl, ⟨_, rfl, hRv1⟩⟩)) rfl ?_
          rintro v12 wv12 ⟨gg13, hvv12, hegg13⟩
          have hlegg13 := hegg13.le hs.imm
          replace hs := hs.call hegg13
          replace hRv1 := hRv1.mono hlegg13
          replace hG0 := hG0.mono hlegg13
          replace hagg3 := hagg3.trans hlegg13
          obtain ⟨cs15, rfl, hcs15⟩ := hvv12
          have hcs15 : cs15 = _ := hcs15; subst hcs15
          refine OW_nil ?_
          have hS : SS g0 w0 gg3 [Go.Lx.box b1 27 (([Value.int .i64 rv1.Kind]) ++ ((rv1.Set.1.map (Value.int .u64)) ++ ([v1])))] _ := ⟨gg13, hagg3, hs⟩
          refine ⟨fun _ => hS, ?_⟩
          refine AG rfl rfl rfl rfl (by rw [hg4]; rfl) hS (fun w9 h9 => by obtain ⟨g9, hle9, hs⟩ := h9; exact r_eqlS rfl rfl) rfl ?_
          refine A rfl hS (fun w9 h9 => by obtain ⟨g9, hle9, hs⟩ := h9; exact r_pickT (v := Value.bool (rv11 == rv12)) rfl hg4 rfl) rfl ?_
          refine A rfl hS (fun w9 h9 => by obtain ⟨g9, hle9, hs⟩ := h9; exact r_assign (v := Value.bool (rv11 == rv12)) rfl) rfl ?_
          refine AN ?_
          obtain rfl := Option.some.inj hM
          exact ⟨gg13, rfl, hds, hagg3, (hs.sub (.cons _ .slnil))⟩
        · refine AK rfl rfl rfl rfl (by rw [hg4]; rfl) hS rfl ?_
          refine AK rfl rfl rfl rfl (by rw [hg4]; rfl) hS rfl ?_
          refine A1 rfl ?_
          refine OK rfl rfl rfl (by rw [hg4]; rfl) rfl ?_
          refine OW_nil ⟨fun _ => hS, ?_⟩
          refine A1 rfl ?_
          refine OK rfl rfl rfl (by rw [hg4]; rfl) rfl ?_
          refine OW_nil ⟨fun _ => hS, ?_⟩
          refine AK rfl rfl rfl rfl (by rw [hg4]; rfl) hS rfl ?_
          refine A rfl hS (fun w9 h9 => by obtain ⟨g9, hle9, hs⟩ := h9; exact r_pickF (v := Value.bool false) rfl hg4 rfl) rfl ?_
          refine A rfl hS (fun w9 h9 => by obtain ⟨g9, hle9, hs⟩ := h9; exact r_assign (v := Value.bool false) rfl) rfl ?_
          refine AN ?_
          obtain rfl := Option.some.inj hM
          exact ⟨gg11, rfl, hds, hagg3, (hs.sub (.cons _ .slnil))⟩
      · clear hs
        rintro E w ⟨gg10, hE2, hds, hlegg10, hs⟩
        have hM := hKhx2
        obtain ⟨E, rfl⟩ := open1 (E := E) hE2
        replace hG0 := hG0.mono hlegg10
        refine WP_ret ?_
        obtain rfl := Option.some.inj hM
        refine FL_nil hds ?_
        exact ⟨_, res1 Tryd.results5 (rv_tmp (v := Value.bool xv2) rfl), gg10, ⟨[Value.bool xv2], rfl, rfl⟩, hs.ext⟩

end Go.Proofs.YtffienmbeifioaaDoor
