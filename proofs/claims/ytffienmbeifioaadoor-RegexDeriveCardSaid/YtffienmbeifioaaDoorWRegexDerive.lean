/- The walk of the law. Printed by a program of my own. -/
import Derived.Test.YtffienmbeifioaaDoorTyp
import Derived.Test.YtffienmbeifioaaDoorWalk1
import Derived.Test.YtffienmbeifioaaDoorWalk2
import Derived.Test.YtffienmbeifioaaDoorWalk4
import Derived.Test.YtffienmbeifioaaDoorWalk7
import Derived.Test.YtffienmbeifioaaDoorWalk10
set_option linter.unusedVariables false
set_option linter.unusedSimpArgs false
namespace Go.Proofs.YtffienmbeifioaaDoor
open Go.Lx Go.RowKit
set_option maxRecDepth 100000 in
theorem law08_RegexDerive_ok {rv1 : T_Regex} {b1 : Int} {s1 : Str} {r : Bool} (hM : M.law08_RegexDerive rv1 b1 s1 = some r) {g0 : Hp} {w0 : World} (hi : Imm g0 w0) {cs1 : List Value} (hcs1 : tT_Regex.rel g0 cs1 rv1) (hG0 : GBox 0 (M.deBruijn.1.map (Value.int .u8)) g0) :
    CallsV Tryd.prog 8 #[Value.agg cs1.toArray, Value.int .u8 b1, encS s1] w0 (fun v w' => ∃ g', (VRd tBool false g' v r) ∧ Ext g0 w0 g' w') := by
  unfold M.law08_RegexDerive at hM
  obtain ⟨cs2, cs3, cs4, rfl, hcs2, hcs3, hcs4⟩ := tT_Regex_iff.1 hcs1
  have hcs2 : cs2 = _ := hcs2; subst hcs2
  have hcs3 : cs3 = _ := hcs3; subst hcs3
  obtain ⟨v1, rfl, hRv1⟩ := hcs4
  have hs := Sep.start hi
  refine calls_of_WP (args := [Value.agg (List.toArray (α := Value) (([Value.int .i64 rv1.Kind]) ++ ((rv1.Set.1.map (Value.int .u64)) ++ ([v1])))), Value.int .u8 b1, encS s1]) Tryd.func8 rfl Tryd.ntmps8 rfl ?_
  have hds : (argEnv [Value.agg (List.toArray (α := Value) (([Value.int .i64 rv1.Kind]) ++ ((rv1.Set.1.map (Value.int .u64)) ++ ([v1])))), Value.int .u8 b1, encS s1]).ds = [] := rfl
  refine WP_seq ?_
  refine WP_region ?_
  refine OW_box (v := Value.agg (List.toArray (α := Value) (([Value.int .i64 rv1.Kind]) ++ ((rv1.Set.1.map (Value.int .u64)) ++ ([v1]))))) rfl hs (zs := ([Value.int .i64 rv1.Kind]) ++ ((rv1.Set.1.map (Value.int .u64)) ++ ([v1]))) rfl rfl ?_
  intro b2 wv1 hs
  refine O (r_assign (v := Value.bool false) rfl) rfl ?_
  refine OW_nil ?_
  refine WP_seq ?_
  obtain ⟨xv1, hx1, hKhx1⟩ := bindS hM
  refine WP_cut (fun E w => ∃ (gg2 : Hp), E 1 = Value.int .u8 b1 ∧ E 2 = encS s1 ∧ E 3 = Value.pointer (some ⟨b2, 0, none⟩) ∧ E 15 = Value.bool xv1 ∧ E.ds = [] ∧ Hle g0 gg2 ∧ Go.Lx.Sep g0 w0 gg2 w [Go.Lx.box b2 27 (([Value.int .i64 rv1.Kind]) ++ ((rv1.Set.1.map (Value.int .u64)) ++ ([v1])))]) ?_ ?_
  · have hM := hx1
    have hag0 := Hle.refl g0
    refine WP_region ?_
    refine O (r_loadN (cs := ([Value.int .i64 rv1.Kind]) ++ ((rv1.Set.1.map (Value.int .u64)) ++ ([v1]))) ti27 rfl (by simp [rv1.Set.2]) (hs.cells (i := 0) rfl)) rfl ?_
    obtain ⟨rv3, hrv3, hM⟩ := bindS hM
    refine C [Value.agg (List.toArray (α := Value) (([Value.int .i64 rv1.Kind]) ++ ((rv1.Set.1.map (Value.int .u64)) ++ ([v1])))), Value.int .i64 25] cf19 rfl (law08_small_ok hrv3 hs.imm (tT_Regex_iff.2 ⟨[Value.int .i64 rv1.Kind], rv1.Set.1.map (Value.int .u64), [v1], rfl, rfl, rfl, ⟨_, rfl, hRv1⟩⟩)) rfl ?_
    rintro v3 wv3 ⟨gg3, hvv3, hegg3⟩
    have hlegg3 := hegg3.le hs.imm
    replace hs := hs.call hegg3
    replace hG0 := hG0.mono hlegg3
    replace hRv1 := hRv1.mono hlegg3
    replace hag0 := hag0.trans hlegg3
    obtain ⟨cs6, rfl, hcs6⟩ := hvv3
    have hcs6 : cs6 = _ := hcs6; subst hcs6
    refine O (r_not rfl) rfl ?_
    refine O (r_move (v := Value.bool (!rv3)) rfl) rfl ?_
    rcases condS hM with ⟨hg2, hM⟩ | ⟨hg2, hM⟩
    · refine OK rfl rfl rfl (by rw [hg2]; rfl) rfl ?_
      refine OK rfl rfl rfl (by rw [hg2]; rfl) rfl ?_
      refine OK rfl rfl rfl (by rw [hg2]; rfl) rfl ?_
      refine O (r_pickT (v := Value.bool true) rfl hg2 rfl) rfl ?_
      refine OW_nil ?_
      obtain rfl := Option.some.inj hM
      exact ⟨gg3, rfl, rfl, rfl, rfl, hds, hag0, hs⟩
    · refine OG rfl rfl rfl (by rw [hg2]; rfl) (r_move (v := encS s1) rfl) rfl ?_
      refine OG rfl rfl rfl (by rw [hg2]; rfl) (r_lenStr Tryd.underlying9 rfl) rfl ?_
      refine OG rfl rfl rfl (by rw [hg2]; rfl) (r_gtr rfl rfl) rfl ?_
      refine O (r_pickF (v := Value.bool (decide (8 < (s1.length : Int)))) rfl hg2 rfl) rfl ?_
      refine OW_nil ?_
      obtain rfl := Option.some.inj hM
      exact ⟨gg3, rfl, rfl, rfl, rfl, hds, hag0, hs⟩
  · clear hs
    rintro E w ⟨gg2, hE1, hE2, hE3, hE15, hds, hlegg2, hs⟩
    have hM := hKhx1
    obtain ⟨E, rfl⟩ := open1 (E := E) hE1
    obtain ⟨E, rfl⟩ := open1 (E := E) hE2
    obtain ⟨E, rfl⟩ := open1 (E := E) hE3
    obtain ⟨E, rfl⟩ := open1 (E := E) hE15
    replace hRv1 := hRv1.mono hlegg2
    replace hG0 := hG0.mono hlegg2
    rcases condS hM with ⟨hc1, hM⟩ | ⟨hc1, hM⟩
    · refine WP_true rfl hc1 ?_
      refine WP_seq ?_
      refine WP_region ?_
      obtain ⟨rv4, hrv4, hM⟩ := bindS hM
      refine C [] cf13 rfl (law08_awake_ok hrv4 hs.imm hG0) rfl ?_
      rintro v4 wv4 ⟨gg4, hvv4, hegg4⟩
      have hlegg4 := hegg4.le hs.imm
      replace hs := hs.call hegg4
      replace hRv1 := hRv1.mono hlegg4
      replace hG0 := hG0.mono hlegg4
      obtain ⟨cs7, rfl, hcs7⟩ := hvv4
      have hcs7 : cs7 = _ := hcs7; subst hcs7
      refine O (r_assign (v := Value.bool rv4) rfl) rfl ?_
      refine OW_nil ?_
      refine WP_ret ?_
      obtain rfl := Option.some.inj hM
      refine FL_nil hds ?_
      exact ⟨_, res1 Tryd.results8 (rv_tmp (v := Value.bool rv4) rfl), gg4, ⟨[Value.bool rv4], rfl, rfl⟩, hs.ext⟩
    · refine WP_false rfl hc1 ?_
      refine WP_skip ?_
      refine WP_seq ?_
      refine WP_region ?_
      refine O (r_loadN (cs := ([Value.int .i64 rv1.Kind]) ++ ((rv1.Set.1.map (Value.int .u64)) ++ ([v1]))) ti27 rfl (by simp [rv1.Set.2]) (hs.cells (i := 0) rfl)) rfl ?_
      refine O (r_move (v := Value.int .u8 b1) rfl) rfl ?_
      obtain ⟨rv5, hrv5, hM⟩ := bindS hM
      refine C [Value.agg (List.toArray (α := Value) (([Value.int .i64 rv1.Kind]) ++ ((rv1.Set.1.map (Value.int .u64)) ++ ([v1])))), Value.int .u8 b1] cf26 rfl (regex_Derive_ok hrv5 hs.imm (tT_Regex_iff.2 ⟨[Value.int .i64 rv1.Kind], rv1.Set.1.map (Value.int .u64), [v1], rfl, rfl, rfl, ⟨_, rfl, hRv1⟩⟩)) rfl ?_
      rintro v5 wv5 ⟨gg5, hvv5, hegg5⟩
      have hlegg5 := hegg5.le hs.imm
      replace hs := hs.call hegg5
      replace hRv1 := hRv1.mono hlegg5
      replace hG0 := hG0.mono hlegg5
      obtain ⟨cs8, rfl, hcs8⟩ := hvv5
      obtain ⟨cs9, cs10, cs11, rfl, hcs9, hcs10, hcs11⟩ := tT_Regex_iff.1 hcs8
      have hcs9 : cs9 = _ := hcs9; subst hcs9
      have hcs10 : cs10 = _ := hcs10; subst hcs10
      obtain ⟨v6, rfl, hRv6⟩ := hcs11
      refine OW_alloc ti27 hs (zs := ([Value.int .i64 0]) ++ (((Vec.zero 4).1.map (Value.int .u64)) ++ ([Value.slice none 0 0]))) rfl rfl ?_
      intro b3 wv6 hs
      refine OW_storeAll ti27 hs (i := 0) rfl rfl (v := Value.agg (List.toArray (α := Value) (([Value.int .i64 rv5.Kind]) ++ ((rv5.Set.1.map (Value.int .u64)) ++ ([v6]))))) rfl (vs := ([Value.int .i64 rv5.Kind]) ++ ((rv5.Set.1.map (Value.int .u64)) ++ ([v6]))) rfl (one_append (one_cons rfl one_nil) (one_append vec_one (one_cons (by obtain ⟨_, _, h9⟩ := hRv6.shape; rw [h9]; rfl) one_nil))) (by simp [rv5.Set.2]) (by simp [rv5.Set.2, (Vec.zero 4).2]) ?_
      intro wv7 hs
      refine OW_nil ?_
      obtain ⟨xv2, hx2, hKhx2⟩ := bindS hM
      refine WP_cut (fun E w => ∃ (gg44 : Hp), E 6 = Value.bool xv2 ∧ E.ds = [] ∧ Hle gg5 gg44 ∧ Go.Lx.Sep g0 w0 gg44 w []) ?_ ?_
      · have hM := hx2
        have hagg5 := Hle.refl gg5
        obtain ⟨rv11, hrv11, hM⟩ := bindS hM
        rcases condS hM with ⟨hg5, hM⟩ | ⟨hg5, hM⟩
        · obtain ⟨rv12, hrv12, hM⟩ := bindS hM
          obtain ⟨s3, hs3, hM⟩ := bindS hM
          obtain ⟨rv13, hrv13, hM⟩ := bindS hM
          rcases condS hM with ⟨hg6, hM⟩ | ⟨hg6, hM⟩
          · obtain ⟨rv14, hrv14, hM⟩ := bindS hM
            obtain ⟨rv15, hrv15, hM⟩ := bindS hM
            refine WP_any (.s 0 (.q 1 (.q 2 (.q 3 (.q 5 (.q 6 (.q 9 (.c 4 (.s 7 (.s 8 (.q 10 (.s 11 (.q 12 (.q 13 (.q 14 (.q 15 (.q 17 (.q 18 (.c 16 (.s 19 (.s 20 (.s 21 (.q 22 (.q 23 (.q 24 (.leaf))))))) (.c 19 (.c 16 (.s 20 (.s 21 (.q 22 (.q 23 (.q 24 (.leaf)))))) (.c 20 (.s 16 (.s 21 (.q 22 (.q 23 (.q 24 (.leaf)))))) (.n))) (.n))))))))))))) (.c 7 (.c 4 (.s 8 (.q 10 (.s 11 (.q 12 (.q 13 (.q 14 (.q 15 (.q 17 (.q 18 (.c 16 (.s 19 (.s 20 (.s 21 (.q 22 (.q 23 (.q 24 (.leaf))))))) (.c 19 (.c 16 (.s 20 (.s 21 (.q 22 (.q 23 (.q 24 (.leaf)))))) (.c 20 (.s 16 (.s 21 (.q 22 (.q 23 (.q 24 (.leaf)))))) (.n))) (.n)))))))))))) (.c 8 (.q 10 (.s 4 (.s 11 (.q 12 (.q 13 (.q 14 (.q 15 (.q 17 (.q 18 (.c 16 (.s 19 (.s 20 (.s 21 (.q 22 (.q 23 (.q 24 (.leaf))))))) (.c 19 (.c 16 (.s 20 (.s 21 (.q 22 (.q 23 (.q 24 (.leaf)))))) (.c 20 (.s 16 (.s 21 (.q 22 (.q 23 (.q 24 (.leaf)))))) (.n))) (.n)))))))))))) (.n))) (.n)))))))))) (SS g0 w0 gg5 [Go.Lx.box b3 27 (([Value.int .i64 rv5.Kind]) ++ ((rv5.Set.1.map (Value.int .u64)) ++ ([v6]))), Go.Lx.box b2 27 (([Value.int .i64 rv1.Kind]) ++ ((rv1.Set.1.map (Value.int .u64)) ++ ([v1])))]) mo (by decide +kernel) ?_
            have hs := hs.drew
            have hRv1b := hRv1
            have hG0b := hG0
            have hRv6b := hRv6
            have hS : SS g0 w0 gg5 [Go.Lx.box b3 27 (([Value.int .i64 rv5.Kind]) ++ ((rv5.Set.1.map (Value.int .u64)) ++ ([v6]))), Go.Lx.box b2 27 (([Value.int .i64 rv1.Kind]) ++ ((rv1.Set.1.map (Value.int .u64)) ++ ([v1])))] _ := ⟨gg5, Hle.refl _, hs⟩
            refine A1 rfl ?_
            refine C [] cf13 rfl (law08_awake_ok hrv11 hs.imm hG0) rfl ?_
            rintro v64 wv65 ⟨gg50, hvv64, hegg50⟩
            have hlegg50 := hegg50.le hs.imm
            replace hs := hs.call hegg50
            replace hRv1 := hRv1.mono hlegg50
            replace hG0 := hG0.mono hlegg50
            replace hRv6 := hRv6.mono hlegg50
            replace hagg5 := hagg5.trans hlegg50
            obtain ⟨cs55, rfl, hcs55⟩ := hvv64
            have hcs55 : cs55 = _ := hcs55; subst hcs55
            refine OW_nil ?_
            have hS : SS g0 w0 gg5 [Go.Lx.box b3 27 (([Value.int .i64 rv5.Kind]) ++ ((rv5.Set.1.map (Value.int .u64)) ++ ([v6]))), Go.Lx.box b2 27 (([Value.int .i64 rv1.Kind]) ++ ((rv1.Set.1.map (Value.int .u64)) ++ ([v1])))] _ := ⟨gg50, hagg5, hs⟩
            refine ⟨fun _ => hS, ?_⟩
            refine A rfl hS (fun w9 h9 => by obtain ⟨g9, hle9, hs⟩ := h9; exact r_move (v := Value.bool rv11) rfl) rfl ?_
            refine AG rfl rfl rfl rfl (by rw [hg5]; rfl) hS (fun w9 h9 => by obtain ⟨g9, hle9, hs⟩ := h9; exact r_loadN (cs := ([Value.int .i64 rv5.Kind]) ++ ((rv5.Set.1.map (Value.int .u64)) ++ ([v6]))) ti27 rfl (by simp [rv5.Set.2]) (hs.cells (i := 0) rfl)) rfl ?_
            refine AG rfl rfl rfl rfl (by rw [hg5]; rfl) hS (fun w9 h9 => by obtain ⟨g9, hle9, hs⟩ := h9; exact r_move (v := encS s1) rfl) rfl ?_
            refine AG rfl rfl rfl rfl (by rw [hg5]; rfl) hS (fun w9 h9 => by obtain ⟨g9, hle9, hs⟩ := h9; exact r_loadN (cs := ([Value.int .i64 rv1.Kind]) ++ ((rv1.Set.1.map (Value.int .u64)) ++ ([v1]))) ti27 rfl (by simp [rv1.Set.2]) (hs.cells (i := 1) rfl)) rfl ?_
            refine AG rfl rfl rfl rfl (by rw [hg5]; rfl) hS (fun w9 h9 => by obtain ⟨g9, hle9, hs⟩ := h9; exact r_move (v := Value.int .u8 b1) rfl) rfl ?_
            refine AG rfl rfl rfl rfl (by rw [hg5]; rfl) hS (fun w9 h9 => by obtain ⟨g9, hle9, hs⟩ := h9; exact r_move (v := encS s1) rfl) rfl ?_
            refine A2 rfl ?_ ?_
            · refine CG rfl rfl rfl (by rw [hg5]; rfl) [Value.agg (List.toArray (α := Value) (([Value.int .i64 rv5.Kind]) ++ ((rv5.Set.1.map (Value.int .u64)) ++ ([v6])))), encS s1] cf23 rfl (regex_Match_ok hrv12 hs.imm (tT_Regex_iff.2 ⟨[Value.int .i64 rv5.Kind], rv5.Set.1.map (Value.int .u64), [v6], rfl, rfl, rfl, ⟨_, rfl, hRv6⟩⟩)) rfl ?_
              rintro v65 wv66 ⟨gg51, hvv65, hegg51⟩
              have hlegg51 := hegg51.le hs.imm
              replace hs := hs.call hegg51
              replace hRv1 := hRv1.mono hlegg51
              replace hG0 := hG0.mono hlegg51
              replace hRv6 := hRv6.mono hlegg51
              replace hagg5 := hagg5.trans hlegg51
              obtain ⟨cs56, rfl, hcs56⟩ := hvv65
              have hcs56 : cs56 = _ := hcs56; subst hcs56
              refine OW_nil ?_
              have hS : SS g0 w0 gg5 [Go.Lx.box b3 27 (([Value.int .i64 rv5.Kind]) ++ ((rv5.Set.1.map (Value.int .u64)) ++ ([v6]))), Go.Lx.box b2 27 (([Value.int .i64 rv1.Kind]) ++ ((rv1.Set.1.map (Value.int .u64)) ++ ([v1])))] _ := ⟨gg51, hagg5, hs⟩
              refine ⟨fun _ => hS, ?_⟩
              refine A1 rfl ?_
              refine OW_g rfl rfl rfl (by rw [hg5]; rfl) ?_
              refine OW_lit (τ := (tInt .u8)) [Value.int .u8 b1] [b1] Tryd.underlying39 ti5 (by decide) hs rfl rfl rfl ⟨rfl, trivial⟩ rfl ?_
              intro v66 wv67 xs15 hrelxs15 hs
              refine OW_nil ?_
              have hS : SS g0 w0 gg5 [Go.Lx.box b3 27 (([Value.int .i64 rv5.Kind]) ++ ((rv5.Set.1.map (Value.int .u64)) ++ ([v6]))), Go.Lx.box b2 27 (([Value.int .i64 rv1.Kind]) ++ ((rv1.Set.1.map (Value.int .u64)) ++ ([v1])))] _ := ⟨gg51, hagg5, (hs.sub (.cons _ (.cons_cons _ (.cons_cons _ .slnil))))⟩
              refine ⟨fun _ => hS, ?_⟩
              refine A1 rfl ?_
              refine OG rfl rfl rfl (by rw [hg5]; rfl) (r_toStr (l := [b1]) Tryd.underlying39 Tryd.underlying5 Tryd.underlying9 (v := v66) rfl (hs.rowSrc (i := 0) rfl) hrelxs15) rfl ?_
              refine OW_nil ?_
              have hS : SS g0 w0 gg5 [Go.Lx.box b3 27 (([Value.int .i64 rv5.Kind]) ++ ((rv5.Set.1.map (Value.int .u64)) ++ ([v6]))), Go.Lx.box b2 27 (([Value.int .i64 rv1.Kind]) ++ ((rv1.Set.1.map (Value.int .u64)) ++ ([v1])))] _ := ⟨gg51, hagg5, (hs.sub (.cons _ (.cons_cons _ (.cons_cons _ .slnil))))⟩
              refine ⟨fun _ => hS, ?_⟩
              refine AG rfl rfl rfl rfl (by rw [hg5]; rfl) hS (fun w9 h9 => by obtain ⟨g9, hle9, hs⟩ := h9; exact r_catS rfl rfl hs3) rfl ?_
              refine A1 rfl ?_
              refine CG rfl rfl rfl (by rw [hg5]; rfl) [Value.agg (List.toArray (α := Value) (([Value.int .i64 rv1.Kind]) ++ ((rv1.Set.1.map (Value.int .u64)) ++ ([v1])))), encS s3] cf24 rfl (ref08_Match_ok hrv13 hs.imm (tT_Regex_iff.2 ⟨[Value.int .i64 rv1.Kind], rv1.Set.1.map (Value.int .u64), [v1], rfl, rfl, rfl, ⟨_, rfl, hRv1⟩⟩)) rfl ?_
              rintro v67 wv68 ⟨gg52, hvv67, hegg52⟩
              have hlegg52 := hegg52.le hs.imm
              replace hs := hs.call hegg52
              replace hRv1 := hRv1.mono hlegg52
              replace hG0 := hG0.mono hlegg52
              replace hRv6 := hRv6.mono hlegg52
              replace hrelxs15 := hrelxs15.mono hlegg52
              replace hagg5 := hagg5.trans hlegg52
              obtain ⟨cs57, rfl, hcs57⟩ := hvv67
              have hcs57 : cs57 = _ := hcs57; subst hcs57
              refine OW_nil ?_
              have hS : SS g0 w0 gg5 [Go.Lx.box b3 27 (([Value.int .i64 rv5.Kind]) ++ ((rv5.Set.1.map (Value.int .u64)) ++ ([v6]))), Go.Lx.box b2 27 (([Value.int .i64 rv1.Kind]) ++ ((rv1.Set.1.map (Value.int .u64)) ++ ([v1])))] _ := ⟨gg52, hagg5, (hs.sub (.cons _ (.cons_cons _ (.cons_cons _ .slnil))))⟩
              refine ⟨fun _ => hS, ?_⟩
              refine AG rfl rfl rfl rfl (by rw [hg5]; rfl) hS (fun w9 h9 => by obtain ⟨g9, hle9, hs⟩ := h9; exact r_eqlB Tryd.underlying4 rfl rfl) rfl ?_
              refine A rfl hS (fun w9 h9 => by obtain ⟨g9, hle9, hs⟩ := h9; exact r_pickT (v := Value.bool (rv12 == rv13)) rfl hg5 rfl) rfl ?_
              refine A rfl hS (fun w9 h9 => by obtain ⟨g9, hle9, hs⟩ := h9; exact r_move (v := Value.bool (rv12 == rv13)) rfl) rfl ?_
              refine AG rfl rfl rfl rfl (by rw [hg6]; rfl) hS (fun w9 h9 => by obtain ⟨g9, hle9, hs⟩ := h9; exact r_loadN (cs := ([Value.int .i64 rv5.Kind]) ++ ((rv5.Set.1.map (Value.int .u64)) ++ ([v6]))) ti27 rfl (by simp [rv5.Set.2]) (hs.cells (i := 0) rfl)) rfl ?_
              refine AG rfl rfl rfl rfl (by rw [hg6]; rfl) hS (fun w9 h9 => by obtain ⟨g9, hle9, hs⟩ := h9; exact r_loadN (cs := ([Value.int .i64 rv1.Kind]) ++ ((rv1.Set.1.map (Value.int .u64)) ++ ([v1]))) ti27 rfl (by simp [rv1.Set.2]) (hs.cells (i := 1) rfl)) rfl ?_
              refine AG rfl rfl rfl rfl (by rw [hg6]; rfl) hS (fun w9 h9 => by obtain ⟨g9, hle9, hs⟩ := h9; exact r_move (v := Value.int .u8 b1) rfl) rfl ?_
              refine A2 rfl ?_ ?_
              · refine CG rfl rfl rfl (by rw [hg6]; rfl) [Value.agg (List.toArray (α := Value) (([Value.int .i64 rv5.Kind]) ++ ((rv5.Set.1.map (Value.int .u64)) ++ ([v6]))))] cf25 rfl (regex_Nullable_ok hrv14 hs.imm (tT_Regex_iff.2 ⟨[Value.int .i64 rv5.Kind], rv5.Set.1.map (Value.int .u64), [v6], rfl, rfl, rfl, ⟨_, rfl, hRv6⟩⟩)) rfl ?_
                rintro v68 wv69 ⟨gg53, hvv68, hegg53⟩
                have hlegg53 := hegg53.le hs.imm
                replace hs := hs.call hegg53
                replace hRv1 := hRv1.mono hlegg53
                replace hG0 := hG0.mono hlegg53
                replace hRv6 := hRv6.mono hlegg53
                replace hrelxs15 := hrelxs15.mono hlegg53
                replace hagg5 := hagg5.trans hlegg53
                obtain ⟨cs58, rfl, hcs58⟩ := hvv68
                have hcs58 : cs58 = _ := hcs58; subst hcs58
                refine OW_nil ?_
                have hS : SS g0 w0 gg5 [Go.Lx.box b3 27 (([Value.int .i64 rv5.Kind]) ++ ((rv5.Set.1.map (Value.int .u64)) ++ ([v6]))), Go.Lx.box b2 27 (([Value.int .i64 rv1.Kind]) ++ ((rv1.Set.1.map (Value.int .u64)) ++ ([v1])))] _ := ⟨gg53, hagg5, (hs.sub (.cons _ (.cons_cons _ (.cons_cons _ .slnil))))⟩
                refine ⟨fun _ => hS, ?_⟩
                refine A1 rfl ?_
                refine OW_g rfl rfl rfl (by rw [hg6]; rfl) ?_
                refine OW_lit (τ := (tInt .u8)) [Value.int .u8 b1] [b1] Tryd.underlying39 ti5 (by decide) hs rfl rfl rfl ⟨rfl, trivial⟩ rfl ?_
                intro v69 wv70 xs16 hrelxs16 hs
                refine OW_nil ?_
                have hS : SS g0 w0 gg5 [Go.Lx.box b3 27 (([Value.int .i64 rv5.Kind]) ++ ((rv5.Set.1.map (Value.int .u64)) ++ ([v6]))), Go.Lx.box b2 27 (([Value.int .i64 rv1.Kind]) ++ ((rv1.Set.1.map (Value.int .u64)) ++ ([v1])))] _ := ⟨gg53, hagg5, (hs.sub (.cons _ (.cons _ (.cons_cons _ (.cons_cons _ .slnil)))))⟩
                refine ⟨fun _ => hS, ?_⟩
                refine A1 rfl ?_
                refine OG rfl rfl rfl (by rw [hg6]; rfl) (r_toStr (l := [b1]) Tryd.underlying39 Tryd.underlying5 Tryd.underlying9 (v := v69) rfl (hs.rowSrc (i := 0) rfl) hrelxs16) rfl ?_
                refine OW_nil ?_
                have hS : SS g0 w0 gg5 [Go.Lx.box b3 27 (([Value.int .i64 rv5.Kind]) ++ ((rv5.Set.1.map (Value.int .u64)) ++ ([v6]))), Go.Lx.box b2 27 (([Value.int .i64 rv1.Kind]) ++ ((rv1.Set.1.map (Value.int .u64)) ++ ([v1])))] _ := ⟨gg53, hagg5, (hs.sub (.cons _ (.cons _ (.cons_cons _ (.cons_cons _ .slnil)))))⟩
                refine ⟨fun _ => hS, ?_⟩
                refine A1 rfl ?_
                refine CG rfl rfl rfl (by rw [hg6]; rfl) [Value.agg (List.toArray (α := Value) (([Value.int .i64 rv1.Kind]) ++ ((rv1.Set.1.map (Value.int .u64)) ++ ([v1])))), encS (toStr [b1])] cf24 rfl (ref08_Match_ok hrv15 hs.imm (tT_Regex_iff.2 ⟨[Value.int .i64 rv1.Kind], rv1.Set.1.map (Value.int .u64), [v1], rfl, rfl, rfl, ⟨_, rfl, hRv1⟩⟩)) rfl ?_
                rintro v70 wv71 ⟨gg54, hvv70, hegg54⟩
                have hlegg54 := hegg54.le hs.imm
                replace hs := hs.call hegg54
                replace hRv1 := hRv1.mono hlegg54
                replace hG0 := hG0.mono hlegg54
                replace hRv6 := hRv6.mono hlegg54
                replace hrelxs15 := hrelxs15.mono hlegg54
                replace hrelxs16 := hrelxs16.mono hlegg54
                replace hagg5 := hagg5.trans hlegg54
                obtain ⟨cs59, rfl, hcs59⟩ := hvv70
                have hcs59 : cs59 = _ := hcs59; subst hcs59
                refine OW_nil ?_
                have hS : SS g0 w0 gg5 [Go.Lx.box b3 27 (([Value.int .i64 rv5.Kind]) ++ ((rv5.Set.1.map (Value.int .u64)) ++ ([v6]))), Go.Lx.box b2 27 (([Value.int .i64 rv1.Kind]) ++ ((rv1.Set.1.map (Value.int .u64)) ++ ([v1])))] _ := ⟨gg54, hagg5, (hs.sub (.cons _ (.cons _ (.cons_cons _ (.cons_cons _ .slnil)))))⟩
                refine ⟨fun _ => hS, ?_⟩
                refine AG rfl rfl rfl rfl (by rw [hg6]; rfl) hS (fun w9 h9 => by obtain ⟨g9, hle9, hs⟩ := h9; exact r_eqlB Tryd.underlying4 rfl rfl) rfl ?_
                refine A rfl hS (fun w9 h9 => by obtain ⟨g9, hle9, hs⟩ := h9; exact r_pickT (v := Value.bool (rv14 == rv15)) rfl hg6 rfl) rfl ?_
                refine A rfl hS (fun w9 h9 => by obtain ⟨g9, hle9, hs⟩ := h9; exact r_assign (v := Value.bool (rv14 == rv15)) rfl) rfl ?_
                refine AN ?_
                obtain rfl := Option.some.inj hM
                exact ⟨gg54, rfl, hds, hagg5, (hs.sub (.cons _ (.cons _ (.cons _ (.cons _ .slnil)))))⟩
              refine A2 rfl ?_ ?_
              · refine OW_g rfl rfl rfl (by rw [hg6]; rfl) ?_
                refine OW_lit (τ := (tInt .u8)) [Value.int .u8 b1] [b1] Tryd.underlying39 ti5 (by decide) hs rfl rfl rfl ⟨rfl, trivial⟩ rfl ?_
                intro v71 wv72 xs17 hrelxs17 hs
                refine OW_nil ?_
                have hS : SS g0 w0 gg5 [Go.Lx.box b3 27 (([Value.int .i64 rv5.Kind]) ++ ((rv5.Set.1.map (Value.int .u64)) ++ ([v6]))), Go.Lx.box b2 27 (([Value.int .i64 rv1.Kind]) ++ ((rv1.Set.1.map (Value.int .u64)) ++ ([v1])))] _ := ⟨gg52, hagg5, (hs.sub (.cons _ (.cons _ (.cons_cons _ (.cons_cons _ .slnil)))))⟩
                refine ⟨fun _ => hS, ?_⟩
                refine A2 rfl ?_ ?_
                · refine CG rfl rfl rfl (by rw [hg6]; rfl) [Value.agg (List.toArray (α := Value) (([Value.int .i64 rv5.Kind]) ++ ((rv5.Set.1.map (Value.int .u64)) ++ ([v6]))))] cf25 rfl (regex_Nullable_ok hrv14 hs.imm (tT_Regex_iff.2 ⟨[Value.int .i64 rv5.Kind], rv5.Set.1.map (Value.int .u64), [v6], rfl, rfl, rfl, ⟨_, rfl, hRv6⟩⟩)) rfl ?_
                  rintro v72 wv73 ⟨gg55, hvv72, hegg55⟩
                  have hlegg55 := hegg55.le hs.imm
                  replace hs := hs.call hegg55
                  replace hRv1 := hRv1.mono hlegg55
                  replace hG0 := hG0.mono hlegg55
                  replace hRv6 := hRv6.mono hlegg55
                  replace hrelxs15 := hrelxs15.mono hlegg55
                  replace hrelxs17 := hrelxs17.mono hlegg55
                  replace hagg5 := hagg5.trans hlegg55
                  obtain ⟨cs60, rfl, hcs60⟩ := hvv72
                  have hcs60 : cs60 = _ := hcs60; subst hcs60
                  refine OW_nil ?_
                  have hS : SS g0 w0 gg5 [Go.Lx.box b3 27 (([Value.int .i64 rv5.Kind]) ++ ((rv5.Set.1.map (Value.int .u64)) ++ ([v6]))), Go.Lx.box b2 27 (([Value.int .i64 rv1.Kind]) ++ ((rv1.Set.1.map (Value.int .u64)) ++ ([v1])))] _ := ⟨gg55, hagg5, (hs.sub (.cons _ (.cons _ (.cons_cons _ (.cons_cons _ .slnil)))))⟩
                  refine ⟨fun _ => hS, ?_⟩
                  refine A1 rfl ?_
                  refine OG rfl rfl rfl (by rw [hg6]; rfl) (r_toStr (l := [b1]) Tryd.underlying39 Tryd.underlying5 Tryd.underlying9 (v := v71) rfl (hs.rowSrc (i := 0) rfl) hrelxs17) rfl ?_
                  refine OW_nil ?_
                  have hS : SS g0 w0 gg5 [Go.Lx.box b3 27 (([Value.int .i64 rv5.Kind]) ++ ((rv5.Set.1.map (Value.int .u64)) ++ ([v6]))), Go.Lx.box b2 27 (([Value.int .i64 rv1.Kind]) ++ ((rv1.Set.1.map (Value.int .u64)) ++ ([v1])))] _ := ⟨gg55, hagg5, (hs.sub (.cons _ (.cons _ (.cons_cons _ (.cons_cons _ .slnil)))))⟩
                  refine ⟨fun _ => hS, ?_⟩
                  refine A1 rfl ?_
                  refine CG rfl rfl rfl (by rw [hg6]; rfl) [Value.agg (List.toArray (α := Value) (([Value.int .i64 rv1.Kind]) ++ ((rv1.Set.1.map (Value.int .u64)) ++ ([v1])))), encS (toStr [b1])] cf24 rfl (ref08_Match_ok hrv15 hs.imm (tT_Regex_iff.2 ⟨[Value.int .i64 rv1.Kind], rv1.Set.1.map (Value.int .u64), [v1], rfl, rfl, rfl, ⟨_, rfl, hRv1⟩⟩)) rfl ?_
                  rintro v73 wv74 ⟨gg56, hvv73, hegg56⟩
                  have hlegg56 := hegg56.le hs.imm
                  replace hs := hs.call hegg56
                  replace hRv1 := hRv1.mono hlegg56
                  replace hG0 := hG0.mono hlegg56
                  replace hRv6 := hRv6.mono hlegg56
                  replace hrelxs15 := hrelxs15.mono hlegg56
                  replace hrelxs17 := hrelxs17.mono hlegg56
                  replace hagg5 := hagg5.trans hlegg56
                  obtain ⟨cs61, rfl, hcs61⟩ := hvv73
                  have hcs61 : cs61 = _ := hcs61; subst hcs61
                  refine OW_nil ?_
                  have hS : SS g0 w0 gg5 [Go.Lx.box b3 27 (([Value.int .i64 rv5.Kind]) ++ ((rv5.Set.1.map (Value.int .u64)) ++ ([v6]))), Go.Lx.box b2 27 (([Value.int .i64 rv1.Kind]) ++ ((rv1.Set.1.map (Value.int .u64)) ++ ([v1])))] _ := ⟨gg56, hagg5, (hs.sub (.cons _ (.cons _ (.cons_cons _ (.cons_cons _ .slnil)))))⟩
                  refine ⟨fun _ => hS, ?_⟩
                  refine AG rfl rfl rfl rfl (by rw [hg6]; rfl) hS (fun w9 h9 => by obtain ⟨g9, hle9, hs⟩ := h9; exact r_eqlB Tryd.underlying4 rfl rfl) rfl ?_
                  refine A rfl hS (fun w9 h9 => by obtain ⟨g9, hle9, hs⟩ := h9; exact r_pickT (v := Value.bool (rv14 == rv15)) rfl hg6 rfl) rfl ?_
                  refine A rfl hS (fun w9 h9 => by obtain ⟨g9, hle9, hs⟩ := h9; exact r_assign (v := Value.bool (rv14 == rv15)) rfl) rfl ?_
                  refine AN ?_
                  obtain rfl := Option.some.inj hM
                  exact ⟨gg56, rfl, hds, hagg5, (hs.sub (.cons _ (.cons _ (.cons _ (.cons _ .slnil)))))⟩
                refine A2 rfl ?_ ?_
                · refine OG rfl rfl rfl (by rw [hg6]; rfl) (r_toStr (l := [b1]) Tryd.underlying39 Tryd.underlying5 Tryd.underlying9 (v := v71) rfl (hs.rowSrc (i := 0) rfl) hrelxs17) rfl ?_
                  refine OW_nil ?_
                  have hS : SS g0 w0 gg5 [Go.Lx.box b3 27 (([Value.int .i64 rv5.Kind]) ++ ((rv5.Set.1.map (Value.int .u64)) ++ ([v6]))), Go.Lx.box b2 27 (([Value.int .i64 rv1.Kind]) ++ ((rv1.Set.1.map (Value.int .u64)) ++ ([v1])))] _ := ⟨gg52, hagg5, (hs.sub (.cons _ (.cons _ (.cons_cons _ (.cons_cons _ .slnil)))))⟩
                  refine ⟨fun _ => hS, ?_⟩
                  refine A1 rfl ?_
                  refine CG rfl rfl rfl (by rw [hg6]; rfl) [Value.agg (List.toArray (α := Value) (([Value.int .i64 rv5.Kind]) ++ ((rv5.Set.1.map (Value.int .u64)) ++ ([v6]))))] cf25 rfl (regex_Nullable_ok hrv14 hs.imm (tT_Regex_iff.2 ⟨[Value.int .i64 rv5.Kind], rv5.Set.1.map (Value.int .u64), [v6], rfl, rfl, rfl, ⟨_, rfl, hRv6⟩⟩)) rfl ?_
                  rintro v74 wv75 ⟨gg57, hvv74, hegg57⟩
                  have hlegg57 := hegg57.le hs.imm
                  replace hs := hs.call hegg57
                  replace hRv1 := hRv1.mono hlegg57
                  replace hG0 := hG0.mono hlegg57
                  replace hRv6 := hRv6.mono hlegg57
                  replace hrelxs15 := hrelxs15.mono hlegg57
                  replace hrelxs17 := hrelxs17.mono hlegg57
                  replace hagg5 := hagg5.trans hlegg57
                  obtain ⟨cs62, rfl, hcs62⟩ := hvv74
                  have hcs62 : cs62 = _ := hcs62; subst hcs62
                  refine OW_nil ?_
                  have hS : SS g0 w0 gg5 [Go.Lx.box b3 27 (([Value.int .i64 rv5.Kind]) ++ ((rv5.Set.1.map (Value.int .u64)) ++ ([v6]))), Go.Lx.box b2 27 (([Value.int .i64 rv1.Kind]) ++ ((rv1.Set.1.map (Value.int .u64)) ++ ([v1])))] _ := ⟨gg57, hagg5, (hs.sub (.cons _ (.cons _ (.cons_cons _ (.cons_cons _ .slnil)))))⟩
                  refine ⟨fun _ => hS, ?_⟩
                  refine A1 rfl ?_
                  refine CG rfl rfl rfl (by rw [hg6]; rfl) [Value.agg (List.toArray (α := Value) (([Value.int .i64 rv1.Kind]) ++ ((rv1.Set.1.map (Value.int .u64)) ++ ([v1])))), encS (toStr [b1])] cf24 rfl (ref08_Match_ok hrv15 hs.imm (tT_Regex_iff.2 ⟨[Value.int .i64 rv1.Kind], rv1.Set.1.map (Value.int .u64), [v1], rfl, rfl, rfl, ⟨_, rfl, hRv1⟩⟩)) rfl ?_
                  rintro v75 wv76 ⟨gg58, hvv75, hegg58⟩
                  have hlegg58 := hegg58.le hs.imm
                  replace hs := hs.call hegg58
                  replace hRv1 := hRv1.mono hlegg58
                  replace hG0 := hG0.mono hlegg58
                  replace hRv6 := hRv6.mono hlegg58
                  replace hrelxs15 := hrelxs15.mono hlegg58
                  replace hrelxs17 := hrelxs17.mono hlegg58
                  replace hagg5 := hagg5.trans hlegg58
                  obtain ⟨cs63, rfl, hcs63⟩ := hvv75
                  have hcs63 : cs63 = _ := hcs63; subst hcs63
                  refine OW_nil ?_
                  have hS : SS g0 w0 gg5 [Go.Lx.box b3 27 (([Value.int .i64 rv5.Kind]) ++ ((rv5.Set.1.map (Value.int .u64)) ++ ([v6]))), Go.Lx.box b2 27 (([Value.int .i64 rv1.Kind]) ++ ((rv1.Set.1.map (Value.int .u64)) ++ ([v1])))] _ := ⟨gg58, hagg5, (hs.sub (.cons _ (.cons _ (.cons_cons _ (.cons_cons _ .slnil)))))⟩
                  refine ⟨fun _ => hS, ?_⟩
                  refine AG rfl rfl rfl rfl (by rw [hg6]; rfl) hS (fun w9 h9 => by obtain ⟨g9, hle9, hs⟩ := h9; exact r_eqlB Tryd.underlying4 rfl rfl) rfl ?_
                  refine A rfl hS (fun w9 h9 => by obtain ⟨g9, hle9, hs⟩ := h9; exact r_pickT (v := Value.bool (rv14 == rv15)) rfl hg6 rfl) rfl ?_
                  refine A rfl hS (fun w9 h9 => by obtain ⟨g9, hle9, hs⟩ := h9; exact r_assign (v := Value.bool (rv14 == rv15)) rfl) rfl ?_
                  refine AN ?_
                  obtain rfl := Option.some.inj hM
                  exact ⟨gg58, rfl, hds, hagg5, (hs.sub (.cons _ (.cons _ (.cons _ (.cons _ .slnil)))))⟩
                trivial
              trivial
            refine A2 rfl ?_ ?_
            · refine OW_g rfl rfl rfl (by rw [hg5]; rfl) ?_
              refine OW_lit (τ := (tInt .u8)) [Value.int .u8 b1] [b1] Tryd.underlying39 ti5 (by decide) hs rfl rfl rfl ⟨rfl, trivial⟩ rfl ?_
              intro v76 wv77 xs18 hrelxs18 hs
              refine OW_nil ?_
              have hS : SS g0 w0 gg5 [Go.Lx.box b3 27 (([Value.int .i64 rv5.Kind]) ++ ((rv5.Set.1.map (Value.int .u64)) ++ ([v6]))), Go.Lx.box b2 27 (([Value.int .i64 rv1.Kind]) ++ ((rv1.Set.1.map (Value.int .u64)) ++ ([v1])))] _ := ⟨gg50, hagg5, (hs.sub (.cons _ (.cons_cons _ (.cons_cons _ .slnil))))⟩
              refine ⟨fun _ => hS, ?_⟩
              refine A2 rfl ?_ ?_
              · refine CG rfl rfl rfl (by rw [hg5]; rfl) [Value.agg (List.toArray (α := Value) (([Value.int .i64 rv5.Kind]) ++ ((rv5.Set.1.map (Value.int .u64)) ++ ([v6])))), encS s1] cf23 rfl (regex_Match_ok hrv12 hs.imm (tT_Regex_iff.2 ⟨[Value.int .i64 rv5.Kind], rv5.Set.1.map (Value.int .u64), [v6], rfl, rfl, rfl, ⟨_, rfl, hRv6⟩⟩)) rfl ?_
                rintro v77 wv78 ⟨gg59, hvv77, hegg59⟩
                have hlegg59 := hegg59.le hs.imm
                replace hs := hs.call hegg59
                replace hRv1 := hRv1.mono hlegg59
                replace hG0 := hG0.mono hlegg59
                replace hRv6 := hRv6.mono hlegg59
                replace hrelxs18 := hrelxs18.mono hlegg59
                replace hagg5 := hagg5.trans hlegg59
                obtain ⟨cs64, rfl, hcs64⟩ := hvv77
                have hcs64 : cs64 = _ := hcs64; subst hcs64
                refine OW_nil ?_
                have hS : SS g0 w0 gg5 [Go.Lx.box b3 27 (([Value.int .i64 rv5.Kind]) ++ ((rv5.Set.1.map (Value.int .u64)) ++ ([v6]))), Go.Lx.box b2 27 (([Value.int .i64 rv1.Kind]) ++ ((rv1.Set.1.map (Value.int .u64)) ++ ([v1])))] _ := ⟨gg59, hagg5, (hs.sub (.cons _ (.cons_cons _ (.cons_cons _ .slnil))))⟩
                refine ⟨fun _ => hS, ?_⟩
                refine A1 rfl ?_
                refine OG rfl rfl rfl (by rw [hg5]; rfl) (r_toStr (l := [b1]) Tryd.underlying39 Tryd.underlying5 Tryd.underlying9 (v := v76) rfl (hs.rowSrc (i := 0) rfl) hrelxs18) rfl ?_
                refine OW_nil ?_
                have hS : SS g0 w0 gg5 [Go.Lx.box b3 27 (([Value.int .i64 rv5.Kind]) ++ ((rv5.Set.1.map (Value.int .u64)) ++ ([v6]))), Go.Lx.box b2 27 (([Value.int .i64 rv1.Kind]) ++ ((rv1.Set.1.map (Value.int .u64)) ++ ([v1])))] _ := ⟨gg59, hagg5, (hs.sub (.cons _ (.cons_cons _ (.cons_cons _ .slnil))))⟩
                refine ⟨fun _ => hS, ?_⟩
                refine AG rfl rfl rfl rfl (by rw [hg5]; rfl) hS (fun w9 h9 => by obtain ⟨g9, hle9, hs⟩ := h9; exact r_catS rfl rfl hs3) rfl ?_
                refine A1 rfl ?_
                refine CG rfl rfl rfl (by rw [hg5]; rfl) [Value.agg (List.toArray (α := Value) (([Value.int .i64 rv1.Kind]) ++ ((rv1.Set.1.map (Value.int .u64)) ++ ([v1])))), encS s3] cf24 rfl (ref08_Match_ok hrv13 hs.imm (tT_Regex_iff.2 ⟨[Value.int .i64 rv1.Kind], rv1.Set.1.map (Value.int .u64), [v1], rfl, rfl, rfl, ⟨_, rfl, hRv1⟩⟩)) rfl ?_
                rintro v78 wv79 ⟨gg60, hvv78, hegg60⟩
                have hlegg60 := hegg60.le hs.imm
                replace hs := hs.call hegg60
                replace hRv1 := hRv1.mono hlegg60
                replace hG0 := hG0.mono hlegg60
                replace hRv6 := hRv6.mono hlegg60
                replace hrelxs18 := hrelxs18.mono hlegg60
                replace hagg5 := hagg5.trans hlegg60
                obtain ⟨cs65, rfl, hcs65⟩ := hvv78
                have hcs65 : cs65 = _ := hcs65; subst hcs65
                refine OW_nil ?_
                have hS : SS g0 w0 gg5 [Go.Lx.box b3 27 (([Value.int .i64 rv5.Kind]) ++ ((rv5.Set.1.map (Value.int .u64)) ++ ([v6]))), Go.Lx.box b2 27 (([Value.int .i64 rv1.Kind]) ++ ((rv1.Set.1.map (Value.int .u64)) ++ ([v1])))] _ := ⟨gg60, hagg5, (hs.sub (.cons _ (.cons_cons _ (.cons_cons _ .slnil))))⟩
                refine ⟨fun _ => hS, ?_⟩
                refine AG rfl rfl rfl rfl (by rw [hg5]; rfl) hS (fun w9 h9 => by obtain ⟨g9, hle9, hs⟩ := h9; exact r_eqlB Tryd.underlying4 rfl rfl) rfl ?_
                refine A rfl hS (fun w9 h9 => by obtain ⟨g9, hle9, hs⟩ := h9; exact r_pickT (v := Value.bool (rv12 == rv13)) rfl hg5 rfl) rfl ?_
                refine A rfl hS (fun w9 h9 => by obtain ⟨g9, hle9, hs⟩ := h9; exact r_move (v := Value.bool (rv12 == rv13)) rfl) rfl ?_
                refine AG rfl rfl rfl rfl (by rw [hg6]; rfl) hS (fun w9 h9 => by obtain ⟨g9, hle9, hs⟩ := h9; exact r_loadN (cs := ([Value.int .i64 rv5.Kind]) ++ ((rv5.Set.1.map (Value.int .u64)) ++ ([v6]))) ti27 rfl (by simp [rv5.Set.2]) (hs.cells (i := 0) rfl)) rfl ?_
                refine AG rfl rfl rfl rfl (by rw [hg6]; rfl) hS (fun w9 h9 => by obtain ⟨g9, hle9, hs⟩ := h9; exact r_loadN (cs := ([Value.int .i64 rv1.Kind]) ++ ((rv1.Set.1.map (Value.int .u64)) ++ ([v1]))) ti27 rfl (by simp [rv1.Set.2]) (hs.cells (i := 1) rfl)) rfl ?_
                refine AG rfl rfl rfl rfl (by rw [hg6]; rfl) hS (fun w9 h9 => by obtain ⟨g9, hle9, hs⟩ := h9; exact r_move (v := Value.int .u8 b1) rfl) rfl ?_
                refine A2 rfl ?_ ?_
                · refine CG rfl rfl rfl (by rw [hg6]; rfl) [Value.agg (List.toArray (α := Value) (([Value.int .i64 rv5.Kind]) ++ ((rv5.Set.1.map (Value.int .u64)) ++ ([v6]))))] cf25 rfl (regex_Nullable_ok hrv14 hs.imm (tT_Regex_iff.2 ⟨[Value.int .i64 rv5.Kind], rv5.Set.1.map (Value.int .u64), [v6], rfl, rfl, rfl, ⟨_, rfl, hRv6⟩⟩)) rfl ?_
                  rintro v79 wv80 ⟨gg61, hvv79, hegg61⟩
                  have hlegg61 := hegg61.le hs.imm
                  replace hs := hs.call hegg61
                  replace hRv1 := hRv1.mono hlegg61
                  replace hG0 := hG0.mono hlegg61
                  replace hRv6 := hRv6.mono hlegg61
                  replace hrelxs18 := hrelxs18.mono hlegg61
                  replace hagg5 := hagg5.trans hlegg61
                  obtain ⟨cs66, rfl, hcs66⟩ := hvv79
                  have hcs66 : cs66 = _ := hcs66; subst hcs66
                  refine OW_nil ?_
                  have hS : SS g0 w0 gg5 [Go.Lx.box b3 27 (([Value.int .i64 rv5.Kind]) ++ ((rv5.Set.1.map (Value.int .u64)) ++ ([v6]))), Go.Lx.box b2 27 (([Value.int .i64 rv1.Kind]) ++ ((rv1.Set.1.map (Value.int .u64)) ++ ([v1])))] _ := ⟨gg61, hagg5, (hs.sub (.cons _ (.cons_cons _ (.cons_cons _ .slnil))))⟩
                  refine ⟨fun _ => hS, ?_⟩
                  refine A1 rfl ?_
                  refine OW_g rfl rfl rfl (by rw [hg6]; rfl) ?_
                  refine OW_lit (τ := (tInt .u8)) [Value.int .u8 b1] [b1] Tryd.underlying39 ti5 (by decide) hs rfl rfl rfl ⟨rfl, trivial⟩ rfl ?_
                  intro v80 wv81 xs19 hrelxs19 hs
                  refine OW_nil ?_
                  have hS : SS g0 w0 gg5 [Go.Lx.box b3 27 (([Value.int .i64 rv5.Kind]) ++ ((rv5.Set.1.map (Value.int .u64)) ++ ([v6]))), Go.Lx.box b2 27 (([Value.int .i64 rv1.Kind]) ++ ((rv1.Set.1.map (Value.int .u64)) ++ ([v1])))] _ := ⟨gg61, hagg5, (hs.sub (.cons _ (.cons _ (.cons_cons _ (.cons_cons _ .slnil)))))⟩
                  refine ⟨fun _ => hS, ?_⟩
                  refine A1 rfl ?_
                  refine OG rfl rfl rfl (by rw [hg6]; rfl) (r_toStr (l := [b1]) Tryd.underlying39 Tryd.underlying5 Tryd.underlying9 (v := v80) rfl (hs.rowSrc (i := 0) rfl) hrelxs19) rfl ?_
                  refine OW_nil ?_
                  have hS : SS g0 w0 gg5 [Go.Lx.box b3 27 (([Value.int .i64 rv5.Kind]) ++ ((rv5.Set.1.map (Value.int .u64)) ++ ([v6]))), Go.Lx.box b2 27 (([Value.int .i64 rv1.Kind]) ++ ((rv1.Set.1.map (Value.int .u64)) ++ ([v1])))] _ := ⟨gg61, hagg5, (hs.sub (.cons _ (.cons _ (.cons_cons _ (.cons_cons _ .slnil)))))⟩
                  refine ⟨fun _ => hS, ?_⟩
                  refine A1 rfl ?_
                  refine CG rfl rfl rfl (by rw [hg6]; rfl) [Value.agg (List.toArray (α := Value) (([Value.int .i64 rv1.Kind]) ++ ((rv1.Set.1.map (Value.int .u64)) ++ ([v1])))), encS (toStr [b1])] cf24 rfl (ref08_Match_ok hrv15 hs.imm (tT_Regex_iff.2 ⟨[Value.int .i64 rv1.Kind], rv1.Set.1.map (Value.int .u64), [v1], rfl, rfl, rfl, ⟨_, rfl, hRv1⟩⟩)) rfl ?_
                  rintro v81 wv82 ⟨gg62, hvv81, hegg62⟩
                  have hlegg62 := hegg62.le hs.imm
                  replace hs := hs.call hegg62
                  replace hRv1 := hRv1.mono hlegg62
                  replace hG0 := hG0.mono hlegg62
                  replace hRv6 := hRv6.mono hlegg62
                  replace hrelxs18 := hrelxs18.mono hlegg62
                  replace hrelxs19 := hrelxs19.mono hlegg62
                  replace hagg5 := hagg5.trans hlegg62
                  obtain ⟨cs67, rfl, hcs67⟩ := hvv81
                  have hcs67 : cs67 = _ := hcs67; subst hcs67
                  refine OW_nil ?_
                  have hS : SS g0 w0 gg5 [Go.Lx.box b3 27 (([Value.int .i64 rv5.Kind]) ++ ((rv5.Set.1.map (Value.int .u64)) ++ ([v6]))), Go.Lx.box b2 27 (([Value.int .i64 rv1.Kind]) ++ ((rv1.Set.1.map (Value.int .u64)) ++ ([v1])))] _ := ⟨gg62, hagg5, (hs.sub (.cons _ (.cons _ (.cons_cons _ (.cons_cons _ .slnil)))))⟩
                  refine ⟨fun _ => hS, ?_⟩
                  refine AG rfl rfl rfl rfl (by rw [hg6]; rfl) hS (fun w9 h9 => by obtain ⟨g9, hle9, hs⟩ := h9; exact r_eqlB Tryd.underlying4 rfl rfl) rfl ?_
                  refine A rfl hS (fun w9 h9 => by obtain ⟨g9, hle9, hs⟩ := h9; exact r_pickT (v := Value.bool (rv14 == rv15)) rfl hg6 rfl) rfl ?_
                  refine A rfl hS (fun w9 h9 => by obtain ⟨g9, hle9, hs⟩ := h9; exact r_assign (v := Value.bool (rv14 == rv15)) rfl) rfl ?_
                  refine AN ?_
                  obtain rfl := Option.some.inj hM
                  exact ⟨gg62, rfl, hds, hagg5, (hs.sub (.cons _ (.cons _ (.cons _ (.cons _ .slnil)))))⟩
                refine A2 rfl ?_ ?_
                · refine OW_g rfl rfl rfl (by rw [hg6]; rfl) ?_
                  refine OW_lit (τ := (tInt .u8)) [Value.int .u8 b1] [b1] Tryd.underlying39 ti5 (by decide) hs rfl rfl rfl ⟨rfl, trivial⟩ rfl ?_
                  intro v82 wv83 xs20 hrelxs20 hs
                  refine OW_nil ?_
                  have hS : SS g0 w0 gg5 [Go.Lx.box b3 27 (([Value.int .i64 rv5.Kind]) ++ ((rv5.Set.1.map (Value.int .u64)) ++ ([v6]))), Go.Lx.box b2 27 (([Value.int .i64 rv1.Kind]) ++ ((rv1.Set.1.map (Value.int .u64)) ++ ([v1])))] _ := ⟨gg60, hagg5, (hs.sub (.cons _ (.cons _ (.cons_cons _ (.cons_cons _ .slnil)))))⟩
                  refine ⟨fun _ => hS, ?_⟩
                  refine A2 rfl ?_ ?_
                  · refine CG rfl rfl rfl (by rw [hg6]; rfl) [Value.agg (List.toArray (α := Value) (([Value.int .i64 rv5.Kind]) ++ ((rv5.Set.1.map (Value.int .u64)) ++ ([v6]))))] cf25 rfl (regex_Nullable_ok hrv14 hs.imm (tT_Regex_iff.2 ⟨[Value.int .i64 rv5.Kind], rv5.Set.1.map (Value.int .u64), [v6], rfl, rfl, rfl, ⟨_, rfl, hRv6⟩⟩)) rfl ?_
                    rintro v83 wv84 ⟨gg63, hvv83, hegg63⟩
                    have hlegg63 := hegg63.le hs.imm
                    replace hs := hs.call hegg63
                    replace hRv1 := hRv1.mono hlegg63
                    replace hG0 := hG0.mono hlegg63
                    replace hRv6 := hRv6.mono hlegg63
                    replace hrelxs18 := hrelxs18.mono hlegg63
                    replace hrelxs20 := hrelxs20.mono hlegg63
                    replace hagg5 := hagg5.trans hlegg63
                    obtain ⟨cs68, rfl, hcs68⟩ := hvv83
                    have hcs68 : cs68 = _ := hcs68; subst hcs68
                    refine OW_nil ?_
                    have hS : SS g0 w0 gg5 [Go.Lx.box b3 27 (([Value.int .i64 rv5.Kind]) ++ ((rv5.Set.1.map (Value.int .u64)) ++ ([v6]))), Go.Lx.box b2 27 (([Value.int .i64 rv1.Kind]) ++ ((rv1.Set.1.map (Value.int .u64)) ++ ([v1])))] _ := ⟨gg63, hagg5, (hs.sub (.cons _ (.cons _ (.cons_cons _ (.cons_cons _ .slnil)))))⟩
                    refine ⟨fun _ => hS, ?_⟩
                    refine A1 rfl ?_
                    refine OG rfl rfl rfl (by rw [hg6]; rfl) (r_toStr (l := [b1]) Tryd.underlying39 Tryd.underlying5 Tryd.underlying9 (v := v82) rfl (hs.rowSrc (i := 0) rfl) hrelxs20) rfl ?_
                    refine OW_nil ?_
                    have hS : SS g0 w0 gg5 [Go.Lx.box b3 27 (([Value.int .i64 rv5.Kind]) ++ ((rv5.Set.1.map (Value.int .u64)) ++ ([v6]))), Go.Lx.box b2 27 (([Value.int .i64 rv1.Kind]) ++ ((rv1.Set.1.map (Value.int .u64)) ++ ([v1])))] _ := ⟨gg63, hagg5, (hs.sub (.cons _ (.cons _ (.cons_cons _ (.cons_cons _ .slnil)))))⟩
                    refine ⟨fun _ => hS, ?_⟩
                    refine A1 rfl ?_
                    refine CG rfl rfl rfl (by rw [hg6]; rfl) [Value.agg (List.toArray (α := Value) (([Value.int .i64 rv1.Kind]) ++ ((rv1.Set.1.map (Value.int .u64)) ++ ([v1])))), encS (toStr [b1])] cf24 rfl (ref08_Match_ok hrv15 hs.imm (tT_Regex_iff.2 ⟨[Value.int .i64 rv1.Kind], rv1.Set.1.map (Value.int .u64), [v1], rfl, rfl, rfl, ⟨_, rfl, hRv1⟩⟩)) rfl ?_
                    rintro v84 wv85 ⟨gg64, hvv84, hegg64⟩
                    have hlegg64 := hegg64.le hs.imm
                    replace hs := hs.call hegg64
                    replace hRv1 := hRv1.mono hlegg64
                    replace hG0 := hG0.mono hlegg64
                    replace hRv6 := hRv6.mono hlegg64
                    replace hrelxs18 := hrelxs18.mono hlegg64
                    replace hrelxs20 := hrelxs20.mono hlegg64
                    replace hagg5 := hagg5.trans hlegg64
                    obtain ⟨cs69, rfl, hcs69⟩ := hvv84
                    have hcs69 : cs69 = _ := hcs69; subst hcs69
                    refine OW_nil ?_
                    have hS : SS g0 w0 gg5 [Go.Lx.box b3 27 (([Value.int .i64 rv5.Kind]) ++ ((rv5.Set.1.map (Value.int .u64)) ++ ([v6]))), Go.Lx.box b2 27 (([Value.int .i64 rv1.Kind]) ++ ((rv1.Set.1.map (Value.int .u64)) ++ ([v1])))] _ := ⟨gg64, hagg5, (hs.sub (.cons _ (.cons _ (.cons_cons _ (.cons_cons _ .slnil)))))⟩
                    refine ⟨fun _ => hS, ?_⟩
                    refine AG rfl rfl rfl rfl (by rw [hg6]; rfl) hS (fun w9 h9 => by obtain ⟨g9, hle9, hs⟩ := h9; exact r_eqlB Tryd.underlying4 rfl rfl) rfl ?_
                    refine A rfl hS (fun w9 h9 => by obtain ⟨g9, hle9, hs⟩ := h9; exact r_pickT (v := Value.bool (rv14 == rv15)) rfl hg6 rfl) rfl ?_
                    refine A rfl hS (fun w9 h9 => by obtain ⟨g9, hle9, hs⟩ := h9; exact r_assign (v := Value.bool (rv14 == rv15)) rfl) rfl ?_
                    refine AN ?_
                    obtain rfl := Option.some.inj hM
                    exact ⟨gg64, rfl, hds, hagg5, (hs.sub (.cons _ (.cons _ (.cons _ (.cons _ .slnil)))))⟩
                  refine A2 rfl ?_ ?_
                  · refine OG rfl rfl rfl (by rw [hg6]; rfl) (r_toStr (l := [b1]) Tryd.underlying39 Tryd.underlying5 Tryd.underlying9 (v := v82) rfl (hs.rowSrc (i := 0) rfl) hrelxs20) rfl ?_
                    refine OW_nil ?_
                    have hS : SS g0 w0 gg5 [Go.Lx.box b3 27 (([Value.int .i64 rv5.Kind]) ++ ((rv5.Set.1.map (Value.int .u64)) ++ ([v6]))), Go.Lx.box b2 27 (([Value.int .i64 rv1.Kind]) ++ ((rv1.Set.1.map (Value.int .u64)) ++ ([v1])))] _ := ⟨gg60, hagg5, (hs.sub (.cons _ (.cons _ (.cons_cons _ (.cons_cons _ .slnil)))))⟩
                    refine ⟨fun _ => hS, ?_⟩
                    refine A1 rfl ?_
                    refine CG rfl rfl rfl (by rw [hg6]; rfl) [Value.agg (List.toArray (α := Value) (([Value.int .i64 rv5.Kind]) ++ ((rv5.Set.1.map (Value.int .u64)) ++ ([v6]))))] cf25 rfl (regex_Nullable_ok hrv14 hs.imm (tT_Regex_iff.2 ⟨[Value.int .i64 rv5.Kind], rv5.Set.1.map (Value.int .u64), [v6], rfl, rfl, rfl, ⟨_, rfl, hRv6⟩⟩)) rfl ?_
                    rintro v85 wv86 ⟨gg65, hvv85, hegg65⟩
                    have hlegg65 := hegg65.le hs.imm
                    replace hs := hs.call hegg65
                    replace hRv1 := hRv1.mono hlegg65
                    replace hG0 := hG0.mono hlegg65
                    replace hRv6 := hRv6.mono hlegg65
                    replace hrelxs18 := hrelxs18.mono hlegg65
                    replace hrelxs20 := hrelxs20.mono hlegg65
                    replace hagg5 := hagg5.trans hlegg65
                    obtain ⟨cs70, rfl, hcs70⟩ := hvv85
                    have hcs70 : cs70 = _ := hcs70; subst hcs70
                    refine OW_nil ?_
                    have hS : SS g0 w0 gg5 [Go.Lx.box b3 27 (([Value.int .i64 rv5.Kind]) ++ ((rv5.Set.1.map (Value.int .u64)) ++ ([v6]))), Go.Lx.box b2 27 (([Value.int .i64 rv1.Kind]) ++ ((rv1.Set.1.map (Value.int .u64)) ++ ([v1])))] _ := ⟨gg65, hagg5, (hs.sub (.cons _ (.cons _ (.cons_cons _ (.cons_cons _ .slnil)))))⟩
                    refine ⟨fun _ => hS, ?_⟩
                    refine A1 rfl ?_
                    refine CG rfl rfl rfl (by rw [hg6]; rfl) [Value.agg (List.toArray (α := Value) (([Value.int .i64 rv1.Kind]) ++ ((rv1.Set.1.map (Value.int .u64)) ++ ([v1])))), encS (toStr [b1])] cf24 rfl (ref08_Match_ok hrv15 hs.imm (tT_Regex_iff.2 ⟨[Value.int .i64 rv1.Kind], rv1.Set.1.map (Value.int .u64), [v1], rfl, rfl, rfl, ⟨_, rfl, hRv1⟩⟩)) rfl ?_
                    rintro v86 wv87 ⟨gg66, hvv86, hegg66⟩
                    have hlegg66 := hegg66.le hs.imm
                    replace hs := hs.call hegg66
                    replace hRv1 := hRv1.mono hlegg66
                    replace hG0 := hG0.mono hlegg66
                    replace hRv6 := hRv6.mono hlegg66
                    replace hrelxs18 := hrelxs18.mono hlegg66
                    replace hrelxs20 := hrelxs20.mono hlegg66
                    replace hagg5 := hagg5.trans hlegg66
                    obtain ⟨cs71, rfl, hcs71⟩ := hvv86
                    have hcs71 : cs71 = _ := hcs71; subst hcs71
                    refine OW_nil ?_
                    have hS : SS g0 w0 gg5 [Go.Lx.box b3 27 (([Value.int .i64 rv5.Kind]) ++ ((rv5.Set.1.map (Value.int .u64)) ++ ([v6]))), Go.Lx.box b2 27 (([Value.int .i64 rv1.Kind]) ++ ((rv1.Set.1.map (Value.int .u64)) ++ ([v1])))] _ := ⟨gg66, hagg5, (hs.sub (.cons _ (.cons _ (.cons_cons _ (.cons_cons _ .slnil)))))⟩
                    refine ⟨fun _ => hS, ?_⟩
                    refine AG rfl rfl rfl rfl (by rw [hg6]; rfl) hS (fun w9 h9 => by obtain ⟨g9, hle9, hs⟩ := h9; exact r_eqlB Tryd.underlying4 rfl rfl) rfl ?_
                    refine A rfl hS (fun w9 h9 => by obtain ⟨g9, hle9, hs⟩ := h9; exact r_pickT (v := Value.bool (rv14 == rv15)) rfl hg6 rfl) rfl ?_
                    refine A rfl hS (fun w9 h9 => by obtain ⟨g9, hle9, hs⟩ := h9; exact r_assign (v := Value.bool (rv14 == rv15)) rfl) rfl ?_
                    refine AN ?_
                    obtain rfl := Option.some.inj hM
                    exact ⟨gg66, rfl, hds, hagg5, (hs.sub (.cons _ (.cons _ (.cons _ (.cons _ .slnil)))))⟩
                  trivial
                trivial
              refine A2 rfl ?_ ?_
              · refine OG rfl rfl rfl (by rw [hg5]; rfl) (r_toStr (l := [b1]) Tryd.underlying39 Tryd.underlying5 Tryd.underlying9 (v := v76) rfl (hs.rowSrc (i := 0) rfl) hrelxs18) rfl ?_
                refine OW_nil ?_
                have hS : SS g0 w0 gg5 [Go.Lx.box b3 27 (([Value.int .i64 rv5.Kind]) ++ ((rv5.Set.1.map (Value.int .u64)) ++ ([v6]))), Go.Lx.box b2 27 (([Value.int .i64 rv1.Kind]) ++ ((rv1.Set.1.map (Value.int .u64)) ++ ([v1])))] _ := ⟨gg50, hagg5, (hs.sub (.cons _ (.cons_cons _ (.cons_cons _ .slnil))))⟩
                refine ⟨fun _ => hS, ?_⟩
                refine AG rfl rfl rfl rfl (by rw [hg5]; rfl) hS (fun w9 h9 => by obtain ⟨g9, hle9, hs⟩ := h9; exact r_catS rfl rfl hs3) rfl ?_
                refine A1 rfl ?_
                refine CG rfl rfl rfl (by rw [hg5]; rfl) [Value.agg (List.toArray (α := Value) (([Value.int .i64 rv5.Kind]) ++ ((rv5.Set.1.map (Value.int .u64)) ++ ([v6])))), encS s1] cf23 rfl (regex_Match_ok hrv12 hs.imm (tT_Regex_iff.2 ⟨[Value.int .i64 rv5.Kind], rv5.Set.1.map (Value.int .u64), [v6], rfl, rfl, rfl, ⟨_, rfl, hRv6⟩⟩)) rfl ?_
                rintro v87 wv88 ⟨gg67, hvv87, hegg67⟩
                have hlegg67 := hegg67.le hs.imm
                replace hs := hs.call hegg67
                replace hRv1 := hRv1.mono hlegg67
                replace hG0 := hG0.mono hlegg67
                replace hRv6 := hRv6.mono hlegg67
                replace hrelxs18 := hrelxs18.mono hlegg67
                replace hagg5 := hagg5.trans hlegg67
                obtain ⟨cs72, rfl, hcs72⟩ := hvv87
                have hcs72 : cs72 = _ := hcs72; subst hcs72
                refine OW_nil ?_
                have hS : SS g0 w0 gg5 [Go.Lx.box b3 27 (([Value.int .i64 rv5.Kind]) ++ ((rv5.Set.1.map (Value.int .u64)) ++ ([v6]))), Go.Lx.box b2 27 (([Value.int .i64 rv1.Kind]) ++ ((rv1.Set.1.map (Value.int .u64)) ++ ([v1])))] _ := ⟨gg67, hagg5, (hs.sub (.cons _ (.cons_cons _ (.cons_cons _ .slnil))))⟩
                refine ⟨fun _ => hS, ?_⟩
                refine A1 rfl ?_
                refine CG rfl rfl rfl (by rw [hg5]; rfl) [Value.agg (List.toArray (α := Value) (([Value.int .i64 rv1.Kind]) ++ ((rv1.Set.1.map (Value.int .u64)) ++ ([v1])))), encS s3] cf24 rfl (ref08_Match_ok hrv13 hs.imm (tT_Regex_iff.2 ⟨[Value.int .i64 rv1.Kind], rv1.Set.1.map (Value.int .u64), [v1], rfl, rfl, rfl, ⟨_, rfl, hRv1⟩⟩)) rfl ?_
                rintro v88 wv89 ⟨gg68, hvv88, hegg68⟩
                have hlegg68 := hegg68.le hs.imm
                replace hs := hs.call hegg68
                replace hRv1 := hRv1.mono hlegg68
                replace hG0 := hG0.mono hlegg68
                replace hRv6 := hRv6.mono hlegg68
                replace hrelxs18 := hrelxs18.mono hlegg68
                replace hagg5 := hagg5.trans hlegg68
                obtain ⟨cs73, rfl, hcs73⟩ := hvv88
                have hcs73 : cs73 = _ := hcs73; subst hcs73
                refine OW_nil ?_
                have hS : SS g0 w0 gg5 [Go.Lx.box b3 27 (([Value.int .i64 rv5.Kind]) ++ ((rv5.Set.1.map (Value.int .u64)) ++ ([v6]))), Go.Lx.box b2 27 (([Value.int .i64 rv1.Kind]) ++ ((rv1.Set.1.map (Value.int .u64)) ++ ([v1])))] _ := ⟨gg68, hagg5, (hs.sub (.cons _ (.cons_cons _ (.cons_cons _ .slnil))))⟩
                refine ⟨fun _ => hS, ?_⟩
                refine AG rfl rfl rfl rfl (by rw [hg5]; rfl) hS (fun w9 h9 => by obtain ⟨g9, hle9, hs⟩ := h9; exact r_eqlB Tryd.underlying4 rfl rfl) rfl ?_
                refine A rfl hS (fun w9 h9 => by obtain ⟨g9, hle9, hs⟩ := h9; exact r_pickT (v := Value.bool (rv12 == rv13)) rfl hg5 rfl) rfl ?_
                refine A rfl hS (fun w9 h9 => by obtain ⟨g9, hle9, hs⟩ := h9; exact r_move (v := Value.bool (rv12 == rv13)) rfl) rfl ?_
                refine AG rfl rfl rfl rfl (by rw [hg6]; rfl) hS (fun w9 h9 => by obtain ⟨g9, hle9, hs⟩ := h9; exact r_loadN (cs := ([Value.int .i64 rv5.Kind]) ++ ((rv5.Set.1.map (Value.int .u64)) ++ ([v6]))) ti27 rfl (by simp [rv5.Set.2]) (hs.cells (i := 0) rfl)) rfl ?_
                refine AG rfl rfl rfl rfl (by rw [hg6]; rfl) hS (fun w9 h9 => by obtain ⟨g9, hle9, hs⟩ := h9; exact r_loadN (cs := ([Value.int .i64 rv1.Kind]) ++ ((rv1.Set.1.map (Value.int .u64)) ++ ([v1]))) ti27 rfl (by simp [rv1.Set.2]) (hs.cells (i := 1) rfl)) rfl ?_
                refine AG rfl rfl rfl rfl (by rw [hg6]; rfl) hS (fun w9 h9 => by obtain ⟨g9, hle9, hs⟩ := h9; exact r_move (v := Value.int .u8 b1) rfl) rfl ?_
                refine A2 rfl ?_ ?_
                · refine CG rfl rfl rfl (by rw [hg6]; rfl) [Value.agg (List.toArray (α := Value) (([Value.int .i64 rv5.Kind]) ++ ((rv5.Set.1.map (Value.int .u64)) ++ ([v6]))))] cf25 rfl (regex_Nullable_ok hrv14 hs.imm (tT_Regex_iff.2 ⟨[Value.int .i64 rv5.Kind], rv5.Set.1.map (Value.int .u64), [v6], rfl, rfl, rfl, ⟨_, rfl, hRv6⟩⟩)) rfl ?_
                  rintro v89 wv90 ⟨gg69, hvv89, hegg69⟩
                  have hlegg69 := hegg69.le hs.imm
                  replace hs := hs.call hegg69
                  replace hRv1 := hRv1.mono hlegg69
                  replace hG0 := hG0.mono hlegg69
                  replace hRv6 := hRv6.mono hlegg69
                  replace hrelxs18 := hrelxs18.mono hlegg69
                  replace hagg5 := hagg5.trans hlegg69
                  obtain ⟨cs74, rfl, hcs74⟩ := hvv89
                  have hcs74 : cs74 = _ := hcs74; subst hcs74
                  refine OW_nil ?_
                  have hS : SS g0 w0 gg5 [Go.Lx.box b3 27 (([Value.int .i64 rv5.Kind]) ++ ((rv5.Set.1.map (Value.int .u64)) ++ ([v6]))), Go.Lx.box b2 27 (([Value.int .i64 rv1.Kind]) ++ ((rv1.Set.1.map (Value.int .u64)) ++ ([v1])))] _ := ⟨gg69, hagg5, (hs.sub (.cons _ (.cons_cons _ (.cons_cons _ .slnil))))⟩
                  refine ⟨fun _ => hS, ?_⟩
                  refine A1 rfl ?_
                  refine OW_g rfl rfl rfl (by rw [hg6]; rfl) ?_
                  refine OW_lit (τ := (tInt .u8)) [Value.int .u8 b1] [b1] Tryd.underlying39 ti5 (by decide) hs rfl rfl rfl ⟨rfl, trivial⟩ rfl ?_
                  intro v90 wv91 xs21 hrelxs21 hs
                  refine OW_nil ?_
                  have hS : SS g0 w0 gg5 [Go.Lx.box b3 27 (([Value.int .i64 rv5.Kind]) ++ ((rv5.Set.1.map (Value.int .u64)) ++ ([v6]))), Go.Lx.box b2 27 (([Value.int .i64 rv1.Kind]) ++ ((rv1.Set.1.map (Value.int .u64)) ++ ([v1])))] _ := ⟨gg69, hagg5, (hs.sub (.cons _ (.cons _ (.cons_cons _ (.cons_cons _ .slnil)))))⟩
                  refine ⟨fun _ => hS, ?_⟩
                  refine A1 rfl ?_
                  refine OG rfl rfl rfl (by rw [hg6]; rfl) (r_toStr (l := [b1]) Tryd.underlying39 Tryd.underlying5 Tryd.underlying9 (v := v90) rfl (hs.rowSrc (i := 0) rfl) hrelxs21) rfl ?_
                  refine OW_nil ?_
                  have hS : SS g0 w0 gg5 [Go.Lx.box b3 27 (([Value.int .i64 rv5.Kind]) ++ ((rv5.Set.1.map (Value.int .u64)) ++ ([v6]))), Go.Lx.box b2 27 (([Value.int .i64 rv1.Kind]) ++ ((rv1.Set.1.map (Value.int .u64)) ++ ([v1])))] _ := ⟨gg69, hagg5, (hs.sub (.cons _ (.cons _ (.cons_cons _ (.cons_cons _ .slnil)))))⟩
                  refine ⟨fun _ => hS, ?_⟩
                  refine A1 rfl ?_
                  refine CG rfl rfl rfl (by rw [hg6]; rfl) [Value.agg (List.toArray (α := Value) (([Value.int .i64 rv1.Kind]) ++ ((rv1.Set.1.map (Value.int .u64)) ++ ([v1])))), encS (toStr [b1])] cf24 rfl (ref08_Match_ok hrv15 hs.imm (tT_Regex_iff.2 ⟨[Value.int .i64 rv1.Kind], rv1.Set.1.map (Value.int .u64), [v1], rfl, rfl, rfl, ⟨_, rfl, hRv1⟩⟩)) rfl ?_
                  rintro v91 wv92 ⟨gg70, hvv91, hegg70⟩
                  have hlegg70 := hegg70.le hs.imm
                  replace hs := hs.call hegg70
                  replace hRv1 := hRv1.mono hlegg70
                  replace hG0 := hG0.mono hlegg70
                  replace hRv6 := hRv6.mono hlegg70
                  replace hrelxs18 := hrelxs18.mono hlegg70
                  replace hrelxs21 := hrelxs21.mono hlegg70
                  replace hagg5 := hagg5.trans hlegg70
                  obtain ⟨cs75, rfl, hcs75⟩ := hvv91
                  have hcs75 : cs75 = _ := hcs75; subst hcs75
                  refine OW_nil ?_
                  have hS : SS g0 w0 gg5 [Go.Lx.box b3 27 (([Value.int .i64 rv5.Kind]) ++ ((rv5.Set.1.map (Value.int .u64)) ++ ([v6]))), Go.Lx.box b2 27 (([Value.int .i64 rv1.Kind]) ++ ((rv1.Set.1.map (Value.int .u64)) ++ ([v1])))] _ := ⟨gg70, hagg5, (hs.sub (.cons _ (.cons _ (.cons_cons _ (.cons_cons _ .slnil)))))⟩
                  refine ⟨fun _ => hS, ?_⟩
                  refine AG rfl rfl rfl rfl (by rw [hg6]; rfl) hS (fun w9 h9 => by obtain ⟨g9, hle9, hs⟩ := h9; exact r_eqlB Tryd.underlying4 rfl rfl) rfl ?_
                  refine A rfl hS (fun w9 h9 => by obtain ⟨g9, hle9, hs⟩ := h9; exact r_pickT (v := Value.bool (rv14 == rv15)) rfl hg6 rfl) rfl ?_
                  refine A rfl hS (fun w9 h9 => by obtain ⟨g9, hle9, hs⟩ := h9; exact r_assign (v := Value.bool (rv14 == rv15)) rfl) rfl ?_
                  refine AN ?_
                  obtain rfl := Option.some.inj hM
                  exact ⟨gg70, rfl, hds, hagg5, (hs.sub (.cons _ (.cons _ (.cons _ (.cons _ .slnil)))))⟩
                refine A2 rfl ?_ ?_
                · refine OW_g rfl rfl rfl (by rw [hg6]; rfl) ?_
                  refine OW_lit (τ := (tInt .u8)) [Value.int .u8 b1] [b1] Tryd.underlying39 ti5 (by decide) hs rfl rfl rfl ⟨rfl, trivial⟩ rfl ?_
                  intro v92 wv93 xs22 hrelxs22 hs
                  refine OW_nil ?_
                  have hS : SS g0 w0 gg5 [Go.Lx.box b3 27 (([Value.int .i64 rv5.Kind]) ++ ((rv5.Set.1.map (Value.int .u64)) ++ ([v6]))), Go.Lx.box b2 27 (([Value.int .i64 rv1.Kind]) ++ ((rv1.Set.1.map (Value.int .u64)) ++ ([v1])))] _ := ⟨gg68, hagg5, (hs.sub (.cons _ (.cons _ (.cons_cons _ (.cons_cons _ .slnil)))))⟩
                  refine ⟨fun _ => hS, ?_⟩
                  refine A2 rfl ?_ ?_
                  · refine CG rfl rfl rfl (by rw [hg6]; rfl) [Value.agg (List.toArray (α := Value) (([Value.int .i64 rv5.Kind]) ++ ((rv5.Set.1.map (Value.int .u64)) ++ ([v6]))))] cf25 rfl (regex_Nullable_ok hrv14 hs.imm (tT_Regex_iff.2 ⟨[Value.int .i64 rv5.Kind], rv5.Set.1.map (Value.int .u64), [v6], rfl, rfl, rfl, ⟨_, rfl, hRv6⟩⟩)) rfl ?_
                    rintro v93 wv94 ⟨gg71, hvv93, hegg71⟩
                    have hlegg71 := hegg71.le hs.imm
                    replace hs := hs.call hegg71
                    replace hRv1 := hRv1.mono hlegg71
                    replace hG0 := hG0.mono hlegg71
                    replace hRv6 := hRv6.mono hlegg71
                    replace hrelxs18 := hrelxs18.mono hlegg71
                    replace hrelxs22 := hrelxs22.mono hlegg71
                    replace hagg5 := hagg5.trans hlegg71
                    obtain ⟨cs76, rfl, hcs76⟩ := hvv93
                    have hcs76 : cs76 = _ := hcs76; subst hcs76
                    refine OW_nil ?_
                    have hS : SS g0 w0 gg5 [Go.Lx.box b3 27 (([Value.int .i64 rv5.Kind]) ++ ((rv5.Set.1.map (Value.int .u64)) ++ ([v6]))), Go.Lx.box b2 27 (([Value.int .i64 rv1.Kind]) ++ ((rv1.Set.1.map (Value.int .u64)) ++ ([v1])))] _ := ⟨gg71, hagg5, (hs.sub (.cons _ (.cons _ (.cons_cons _ (.cons_cons _ .slnil)))))⟩
                    refine ⟨fun _ => hS, ?_⟩
                    refine A1 rfl ?_
                    refine OG rfl rfl rfl (by rw [hg6]; rfl) (r_toStr (l := [b1]) Tryd.underlying39 Tryd.underlying5 Tryd.underlying9 (v := v92) rfl (hs.rowSrc (i := 0) rfl) hrelxs22) rfl ?_
                    refine OW_nil ?_
                    have hS : SS g0 w0 gg5 [Go.Lx.box b3 27 (([Value.int .i64 rv5.Kind]) ++ ((rv5.Set.1.map (Value.int .u64)) ++ ([v6]))), Go.Lx.box b2 27 (([Value.int .i64 rv1.Kind]) ++ ((rv1.Set.1.map (Value.int .u64)) ++ ([v1])))] _ := ⟨gg71, hagg5, (hs.sub (.cons _ (.cons _ (.cons_cons _ (.cons_cons _ .slnil)))))⟩
                    refine ⟨fun _ => hS, ?_⟩
                    refine A1 rfl ?_
                    refine CG rfl rfl rfl (by rw [hg6]; rfl) [Value.agg (List.toArray (α := Value) (([Value.int .i64 rv1.Kind]) ++ ((rv1.Set.1.map (Value.int .u64)) ++ ([v1])))), encS (toStr [b1])] cf24 rfl (ref08_Match_ok hrv15 hs.imm (tT_Regex_iff.2 ⟨[Value.int .i64 rv1.Kind], rv1.Set.1.map (Value.int .u64), [v1], rfl, rfl, rfl, ⟨_, rfl, hRv1⟩⟩)) rfl ?_
                    rintro v94 wv95 ⟨gg72, hvv94, hegg72⟩
                    have hlegg72 := hegg72.le hs.imm
                    replace hs := hs.call hegg72
                    replace hRv1 := hRv1.mono hlegg72
                    replace hG0 := hG0.mono hlegg72
                    replace hRv6 := hRv6.mono hlegg72
                    replace hrelxs18 := hrelxs18.mono hlegg72
                    replace hrelxs22 := hrelxs22.mono hlegg72
                    replace hagg5 := hagg5.trans hlegg72
                    obtain ⟨cs77, rfl, hcs77⟩ := hvv94
                    have hcs77 : cs77 = _ := hcs77; subst hcs77
                    refine OW_nil ?_
                    have hS : SS g0 w0 gg5 [Go.Lx.box b3 27 (([Value.int .i64 rv5.Kind]) ++ ((rv5.Set.1.map (Value.int .u64)) ++ ([v6]))), Go.Lx.box b2 27 (([Value.int .i64 rv1.Kind]) ++ ((rv1.Set.1.map (Value.int .u64)) ++ ([v1])))] _ := ⟨gg72, hagg5, (hs.sub (.cons _ (.cons _ (.cons_cons _ (.cons_cons _ .slnil)))))⟩
                    refine ⟨fun _ => hS, ?_⟩
                    refine AG rfl rfl rfl rfl (by rw [hg6]; rfl) hS (fun w9 h9 => by obtain ⟨g9, hle9, hs⟩ := h9; exact r_eqlB Tryd.underlying4 rfl rfl) rfl ?_
                    refine A rfl hS (fun w9 h9 => by obtain ⟨g9, hle9, hs⟩ := h9; exact r_pickT (v := Value.bool (rv14 == rv15)) rfl hg6 rfl) rfl ?_
                    refine A rfl hS (fun w9 h9 => by obtain ⟨g9, hle9, hs⟩ := h9; exact r_assign (v := Value.bool (rv14 == rv15)) rfl) rfl ?_
                    refine AN ?_
                    obtain rfl := Option.some.inj hM
                    exact ⟨gg72, rfl, hds, hagg5, (hs.sub (.cons _ (.cons _ (.cons _ (.cons _ .slnil)))))⟩
                  refine A2 rfl ?_ ?_
                  · refine OG rfl rfl rfl (by rw [hg6]; rfl) (r_toStr (l := [b1]) Tryd.underlying39 Tryd.underlying5 Tryd.underlying9 (v := v92) rfl (hs.rowSrc (i := 0) rfl) hrelxs22) rfl ?_
                    refine OW_nil ?_
                    have hS : SS g0 w0 gg5 [Go.Lx.box b3 27 (([Value.int .i64 rv5.Kind]) ++ ((rv5.Set.1.map (Value.int .u64)) ++ ([v6]))), Go.Lx.box b2 27 (([Value.int .i64 rv1.Kind]) ++ ((rv1.Set.1.map (Value.int .u64)) ++ ([v1])))] _ := ⟨gg68, hagg5, (hs.sub (.cons _ (.cons _ (.cons_cons _ (.cons_cons _ .slnil)))))⟩
                    refine ⟨fun _ => hS, ?_⟩
                    refine A1 rfl ?_
                    refine CG rfl rfl rfl (by rw [hg6]; rfl) [Value.agg (List.toArray (α := Value) (([Value.int .i64 rv5.Kind]) ++ ((rv5.Set.1.map (Value.int .u64)) ++ ([v6]))))] cf25 rfl (regex_Nullable_ok hrv14 hs.imm (tT_Regex_iff.2 ⟨[Value.int .i64 rv5.Kind], rv5.Set.1.map (Value.int .u64), [v6], rfl, rfl, rfl, ⟨_, rfl, hRv6⟩⟩)) rfl ?_
                    rintro v95 wv96 ⟨gg73, hvv95, hegg73⟩
                    have hlegg73 := hegg73.le hs.imm
                    replace hs := hs.call hegg73
                    replace hRv1 := hRv1.mono hlegg73
                    replace hG0 := hG0.mono hlegg73
                    replace hRv6 := hRv6.mono hlegg73
                    replace hrelxs18 := hrelxs18.mono hlegg73
                    replace hrelxs22 := hrelxs22.mono hlegg73
                    replace hagg5 := hagg5.trans hlegg73
                    obtain ⟨cs78, rfl, hcs78⟩ := hvv95
                    have hcs78 : cs78 = _ := hcs78; subst hcs78
                    refine OW_nil ?_
                    have hS : SS g0 w0 gg5 [Go.Lx.box b3 27 (([Value.int .i64 rv5.Kind]) ++ ((rv5.Set.1.map (Value.int .u64)) ++ ([v6]))), Go.Lx.box b2 27 (([Value.int .i64 rv1.Kind]) ++ ((rv1.Set.1.map (Value.int .u64)) ++ ([v1])))] _ := ⟨gg73, hagg5, (hs.sub (.cons _ (.cons _ (.cons_cons _ (.cons_cons _ .slnil)))))⟩
                    refine ⟨fun _ => hS, ?_⟩
                    refine A1 rfl ?_
                    refine CG rfl rfl rfl (by rw [hg6]; rfl) [Value.agg (List.toArray (α := Value) (([Value.int .i64 rv1.Kind]) ++ ((rv1.Set.1.map (Value.int .u64)) ++ ([v1])))), encS (toStr [b1])] cf24 rfl (ref08_Match_ok hrv15 hs.imm (tT_Regex_iff.2 ⟨[Value.int .i64 rv1.Kind], rv1.Set.1.map (Value.int .u64), [v1], rfl, rfl, rfl, ⟨_, rfl, hRv1⟩⟩)) rfl ?_
                    rintro v96 wv97 ⟨gg74, hvv96, hegg74⟩
                    have hlegg74 := hegg74.le hs.imm
                    replace hs := hs.call hegg74
                    replace hRv1 := hRv1.mono hlegg74
                    replace hG0 := hG0.mono hlegg74
                    replace hRv6 := hRv6.mono hlegg74
                    replace hrelxs18 := hrelxs18.mono hlegg74
                    replace hrelxs22 := hrelxs22.mono hlegg74
                    replace hagg5 := hagg5.trans hlegg74
                    obtain ⟨cs79, rfl, hcs79⟩ := hvv96
                    have hcs79 : cs79 = _ := hcs79; subst hcs79
                    refine OW_nil ?_
                    have hS : SS g0 w0 gg5 [Go.Lx.box b3 27 (([Value.int .i64 rv5.Kind]) ++ ((rv5.Set.1.map (Value.int .u64)) ++ ([v6]))), Go.Lx.box b2 27 (([Value.int .i64 rv1.Kind]) ++ ((rv1.Set.1.map (Value.int .u64)) ++ ([v1])))] _ := ⟨gg74, hagg5, (hs.sub (.cons _ (.cons _ (.cons_cons _ (.cons_cons _ .slnil)))))⟩
                    refine ⟨fun _ => hS, ?_⟩
                    refine AG rfl rfl rfl rfl (by rw [hg6]; rfl) hS (fun w9 h9 => by obtain ⟨g9, hle9, hs⟩ := h9; exact r_eqlB Tryd.underlying4 rfl rfl) rfl ?_
                    refine A rfl hS (fun w9 h9 => by obtain ⟨g9, hle9, hs⟩ := h9; exact r_pickT (v := Value.bool (rv14 == rv15)) rfl hg6 rfl) rfl ?_
                    refine A rfl hS (fun w9 h9 => by obtain ⟨g9, hle9, hs⟩ := h9; exact r_assign (v := Value.bool (rv14 == rv15)) rfl) rfl ?_
                    refine AN ?_
                    obtain rfl := Option.some.inj hM
                    exact ⟨gg74, rfl, hds, hagg5, (hs.sub (.cons _ (.cons _ (.cons _ (.cons _ .slnil)))))⟩
                  trivial
                trivial
              trivial
            trivial
          · refine WP_any (.s 0 (.q 1 (.q 2 (.q 3 (.q 5 (.q 6 (.q 9 (.c 4 (.s 7 (.s 8 (.q 10 (.s 11 (.q 12 (.q 13 (.q 14 (.q 15 (.q 17 (.q 18 (.c 16 (.s 19 (.s 20 (.s 21 (.q 22 (.q 23 (.q 24 (.leaf))))))) (.c 19 (.c 16 (.s 20 (.s 21 (.q 22 (.q 23 (.q 24 (.leaf)))))) (.c 20 (.s 16 (.s 21 (.q 22 (.q 23 (.q 24 (.leaf)))))) (.n))) (.n))))))))))))) (.c 7 (.c 4 (.s 8 (.q 10 (.s 11 (.q 12 (.q 13 (.q 14 (.q 15 (.q 17 (.q 18 (.c 16 (.s 19 (.s 20 (.s 21 (.q 22 (.q 23 (.q 24 (.leaf))))))) (.c 19 (.c 16 (.s 20 (.s 21 (.q 22 (.q 23 (.q 24 (.leaf)))))) (.c 20 (.s 16 (.s 21 (.q 22 (.q 23 (.q 24 (.leaf)))))) (.n))) (.n)))))))))))) (.c 8 (.q 10 (.s 4 (.s 11 (.q 12 (.q 13 (.q 14 (.q 15 (.q 17 (.q 18 (.c 16 (.s 19 (.s 20 (.s 21 (.q 22 (.q 23 (.q 24 (.leaf))))))) (.c 19 (.c 16 (.s 20 (.s 21 (.q 22 (.q 23 (.q 24 (.leaf)))))) (.c 20 (.s 16 (.s 21 (.q 22 (.q 23 (.q 24 (.leaf)))))) (.n))) (.n)))))))))))) (.n))) (.n)))))))))) (SS g0 w0 gg5 [Go.Lx.box b3 27 (([Value.int .i64 rv5.Kind]) ++ ((rv5.Set.1.map (Value.int .u64)) ++ ([v6]))), Go.Lx.box b2 27 (([Value.int .i64 rv1.Kind]) ++ ((rv1.Set.1.map (Value.int .u64)) ++ ([v1])))]) mo (by decide +kernel) ?_
            have hs := hs.drew
            have hRv1b := hRv1
            have hG0b := hG0
            have hRv6b := hRv6
            have hS : SS g0 w0 gg5 [Go.Lx.box b3 27 (([Value.int .i64 rv5.Kind]) ++ ((rv5.Set.1.map (Value.int .u64)) ++ ([v6]))), Go.Lx.box b2 27 (([Value.int .i64 rv1.Kind]) ++ ((rv1.Set.1.map (Value.int .u64)) ++ ([v1])))] _ := ⟨gg5, Hle.refl _, hs⟩
            refine A1 rfl ?_
            refine C [] cf13 rfl (law08_awake_ok hrv11 hs.imm hG0) rfl ?_
            rintro v97 wv98 ⟨gg75, hvv97, hegg75⟩
            have hlegg75 := hegg75.le hs.imm
            replace hs := hs.call hegg75
            replace hRv1 := hRv1.mono hlegg75
            replace hG0 := hG0.mono hlegg75
            replace hRv6 := hRv6.mono hlegg75
            replace hagg5 := hagg5.trans hlegg75
            obtain ⟨cs80, rfl, hcs80⟩ := hvv97
            have hcs80 : cs80 = _ := hcs80; subst hcs80
            refine OW_nil ?_
            have hS : SS g0 w0 gg5 [Go.Lx.box b3 27 (([Value.int .i64 rv5.Kind]) ++ ((rv5.Set.1.map (Value.int .u64)) ++ ([v6]))), Go.Lx.box b2 27 (([Value.int .i64 rv1.Kind]) ++ ((rv1.Set.1.map (Value.int .u64)) ++ ([v1])))] _ := ⟨gg75, hagg5, hs⟩
            refine ⟨fun _ => hS, ?_⟩
            refine A rfl hS (fun w9 h9 => by obtain ⟨g9, hle9, hs⟩ := h9; exact r_move (v := Value.bool rv11) rfl) rfl ?_
            refine AG rfl rfl rfl rfl (by rw [hg5]; rfl) hS (fun w9 h9 => by obtain ⟨g9, hle9, hs⟩ := h9; exact r_loadN (cs := ([Value.int .i64 rv5.Kind]) ++ ((rv5.Set.1.map (Value.int .u64)) ++ ([v6]))) ti27 rfl (by simp [rv5.Set.2]) (hs.cells (i := 0) rfl)) rfl ?_
            refine AG rfl rfl rfl rfl (by rw [hg5]; rfl) hS (fun w9 h9 => by obtain ⟨g9, hle9, hs⟩ := h9; exact r_move (v := encS s1) rfl) rfl ?_
            refine AG rfl rfl rfl rfl (by rw [hg5]; rfl) hS (fun w9 h9 => by obtain ⟨g9, hle9, hs⟩ := h9; exact r_loadN (cs := ([Value.int .i64 rv1.Kind]) ++ ((rv1.Set.1.map (Value.int .u64)) ++ ([v1]))) ti27 rfl (by simp [rv1.Set.2]) (hs.cells (i := 1) rfl)) rfl ?_
            refine AG rfl rfl rfl rfl (by rw [hg5]; rfl) hS (fun w9 h9 => by obtain ⟨g9, hle9, hs⟩ := h9; exact r_move (v := Value.int .u8 b1) rfl) rfl ?_
            refine AG rfl rfl rfl rfl (by rw [hg5]; rfl) hS (fun w9 h9 => by obtain ⟨g9, hle9, hs⟩ := h9; exact r_move (v := encS s1) rfl) rfl ?_
            refine A2 rfl ?_ ?_
            · refine CG rfl rfl rfl (by rw [hg5]; rfl) [Value.agg (List.toArray (α := Value) (([Value.int .i64 rv5.Kind]) ++ ((rv5.Set.1.map (Value.int .u64)) ++ ([v6])))), encS s1] cf23 rfl (regex_Match_ok hrv12 hs.imm (tT_Regex_iff.2 ⟨[Value.int .i64 rv5.Kind], rv5.Set.1.map (Value.int .u64), [v6], rfl, rfl, rfl, ⟨_, rfl, hRv6⟩⟩)) rfl ?_
              rintro v98 wv99 ⟨gg76, hvv98, hegg76⟩
              have hlegg76 := hegg76.le hs.imm
              replace hs := hs.call hegg76
              replace hRv1 := hRv1.mono hlegg76
              replace hG0 := hG0.mono hlegg76
              replace hRv6 := hRv6.mono hlegg76
              replace hagg5 := hagg5.trans hlegg76
              obtain ⟨cs81, rfl, hcs81⟩ := hvv98
              have hcs81 : cs81 = _ := hcs81; subst hcs81
              refine OW_nil ?_
              have hS : SS g0 w0 gg5 [Go.Lx.box b3 27 (([Value.int .i64 rv5.Kind]) ++ ((rv5.Set.1.map (Value.int .u64)) ++ ([v6]))), Go.Lx.box b2 27 (([Value.int .i64 rv1.Kind]) ++ ((rv1.Set.1.map (Value.int .u64)) ++ ([v1])))] _ := ⟨gg76, hagg5, hs⟩
              refine ⟨fun _ => hS, ?_⟩
              refine A1 rfl ?_
              refine OW_g rfl rfl rfl (by rw [hg5]; rfl) ?_
              refine OW_lit (τ := (tInt .u8)) [Value.int .u8 b1] [b1] Tryd.underlying39 ti5 (by decide) hs rfl rfl rfl ⟨rfl, trivial⟩ rfl ?_
              intro v99 wv100 xs23 hrelxs23 hs
              refine OW_nil ?_
              have hS : SS g0 w0 gg5 [Go.Lx.box b3 27 (([Value.int .i64 rv5.Kind]) ++ ((rv5.Set.1.map (Value.int .u64)) ++ ([v6]))), Go.Lx.box b2 27 (([Value.int .i64 rv1.Kind]) ++ ((rv1.Set.1.map (Value.int .u64)) ++ ([v1])))] _ := ⟨gg76, hagg5, (hs.sub (.cons _ (.cons_cons _ (.cons_cons _ .slnil))))⟩
              refine ⟨fun _ => hS, ?_⟩
              refine A1 rfl ?_
              refine OG rfl rfl rfl (by rw [hg5]; rfl) (r_toStr (l := [b1]) Tryd.underlying39 Tryd.underlying5 Tryd.underlying9 (v := v99) rfl (hs.rowSrc (i := 0) rfl) hrelxs23) rfl ?_
              refine OW_nil ?_
              have hS : SS g0 w0 gg5 [Go.Lx.box b3 27 (([Value.int .i64 rv5.Kind]) ++ ((rv5.Set.1.map (Value.int .u64)) ++ ([v6]))), Go.Lx.box b2 27 (([Value.int .i64 rv1.Kind]) ++ ((rv1.Set.1.map (Value.int .u64)) ++ ([v1])))] _ := ⟨gg76, hagg5, (hs.sub (.cons _ (.cons_cons _ (.cons_cons _ .slnil))))⟩
              refine ⟨fun _ => hS, ?_⟩
              refine AG rfl rfl rfl rfl (by rw [hg5]; rfl) hS (fun w9 h9 => by obtain ⟨g9, hle9, hs⟩ := h9; exact r_catS rfl rfl hs3) rfl ?_
              refine A1 rfl ?_
              refine CG rfl rfl rfl (by rw [hg5]; rfl) [Value.agg (List.toArray (α := Value) (([Value.int .i64 rv1.Kind]) ++ ((rv1.Set.1.map (Value.int .u64)) ++ ([v1])))), encS s3] cf24 rfl (ref08_Match_ok hrv13 hs.imm (tT_Regex_iff.2 ⟨[Value.int .i64 rv1.Kind], rv1.Set.1.map (Value.int .u64), [v1], rfl, rfl, rfl, ⟨_, rfl, hRv1⟩⟩)) rfl ?_
              rintro v100 wv101 ⟨gg77, hvv100, hegg77⟩
              have hlegg77 := hegg77.le hs.imm
              replace hs := hs.call hegg77
              replace hRv1 := hRv1.mono hlegg77
              replace hG0 := hG0.mono hlegg77
              replace hRv6 := hRv6.mono hlegg77
              replace hrelxs23 := hrelxs23.mono hlegg77
              replace hagg5 := hagg5.trans hlegg77
              obtain ⟨cs82, rfl, hcs82⟩ := hvv100
              have hcs82 : cs82 = _ := hcs82; subst hcs82
              refine OW_nil ?_
              have hS : SS g0 w0 gg5 [Go.Lx.box b3 27 (([Value.int .i64 rv5.Kind]) ++ ((rv5.Set.1.map (Value.int .u64)) ++ ([v6]))), Go.Lx.box b2 27 (([Value.int .i64 rv1.Kind]) ++ ((rv1.Set.1.map (Value.int .u64)) ++ ([v1])))] _ := ⟨gg77, hagg5, (hs.sub (.cons _ (.cons_cons _ (.cons_cons _ .slnil))))⟩
              refine ⟨fun _ => hS, ?_⟩
              refine AG rfl rfl rfl rfl (by rw [hg5]; rfl) hS (fun w9 h9 => by obtain ⟨g9, hle9, hs⟩ := h9; exact r_eqlB Tryd.underlying4 rfl rfl) rfl ?_
              refine A rfl hS (fun w9 h9 => by obtain ⟨g9, hle9, hs⟩ := h9; exact r_pickT (v := Value.bool (rv12 == rv13)) rfl hg5 rfl) rfl ?_
              refine A rfl hS (fun w9 h9 => by obtain ⟨g9, hle9, hs⟩ := h9; exact r_move (v := Value.bool (rv12 == rv13)) rfl) rfl ?_
              refine AK rfl rfl rfl rfl (by rw [hg6]; rfl) hS rfl ?_
              refine AK rfl rfl rfl rfl (by rw [hg6]; rfl) hS rfl ?_
              refine AK rfl rfl rfl rfl (by rw [hg6]; rfl) hS rfl ?_
              refine A2 rfl ?_ ?_
              · refine OK rfl rfl rfl (by rw [hg6]; rfl) rfl ?_
                refine OW_nil ⟨fun _ => hS, ?_⟩
                refine A1 rfl ?_
                refine OK rfl rfl rfl (by rw [hg6]; rfl) rfl ?_
                refine OW_nil ⟨fun _ => hS, ?_⟩
                refine A1 rfl ?_
                refine OK rfl rfl rfl (by rw [hg6]; rfl) rfl ?_
                refine OW_nil ⟨fun _ => hS, ?_⟩
                refine A1 rfl ?_
                refine OK rfl rfl rfl (by rw [hg6]; rfl) rfl ?_
                refine OW_nil ⟨fun _ => hS, ?_⟩
                refine AK rfl rfl rfl rfl (by rw [hg6]; rfl) hS rfl ?_
                refine A rfl hS (fun w9 h9 => by obtain ⟨g9, hle9, hs⟩ := h9; exact r_pickF (v := Value.bool false) rfl hg6 rfl) rfl ?_
                refine A rfl hS (fun w9 h9 => by obtain ⟨g9, hle9, hs⟩ := h9; exact r_assign (v := Value.bool false) rfl) rfl ?_
                refine AN ?_
                obtain rfl := Option.some.inj hM
                exact ⟨gg77, rfl, hds, hagg5, (hs.sub (.cons _ (.cons _ (.cons _ .slnil))))⟩
              refine A2 rfl ?_ ?_
              · refine OK rfl rfl rfl (by rw [hg6]; rfl) rfl ?_
                refine OW_nil ⟨fun _ => hS, ?_⟩
                refine A2 rfl ?_ ?_
                · refine OK rfl rfl rfl (by rw [hg6]; rfl) rfl ?_
                  refine OW_nil ⟨fun _ => hS, ?_⟩
                  refine A1 rfl ?_
                  refine OK rfl rfl rfl (by rw [hg6]; rfl) rfl ?_
                  refine OW_nil ⟨fun _ => hS, ?_⟩
                  refine A1 rfl ?_
                  refine OK rfl rfl rfl (by rw [hg6]; rfl) rfl ?_
                  refine OW_nil ⟨fun _ => hS, ?_⟩
                  refine AK rfl rfl rfl rfl (by rw [hg6]; rfl) hS rfl ?_
                  refine A rfl hS (fun w9 h9 => by obtain ⟨g9, hle9, hs⟩ := h9; exact r_pickF (v := Value.bool false) rfl hg6 rfl) rfl ?_
                  refine A rfl hS (fun w9 h9 => by obtain ⟨g9, hle9, hs⟩ := h9; exact r_assign (v := Value.bool false) rfl) rfl ?_
                  refine AN ?_
                  obtain rfl := Option.some.inj hM
                  exact ⟨gg77, rfl, hds, hagg5, (hs.sub (.cons _ (.cons _ (.cons _ .slnil))))⟩
                refine A2 rfl ?_ ?_
                · refine OK rfl rfl rfl (by rw [hg6]; rfl) rfl ?_
                  refine OW_nil ⟨fun _ => hS, ?_⟩
                  refine A1 rfl ?_
                  refine OK rfl rfl rfl (by rw [hg6]; rfl) rfl ?_
                  refine OW_nil ⟨fun _ => hS, ?_⟩
                  refine A1 rfl ?_
                  refine OK rfl rfl rfl (by rw [hg6]; rfl) rfl ?_
                  refine OW_nil ⟨fun _ => hS, ?_⟩
                  refine AK rfl rfl rfl rfl (by rw [hg6]; rfl) hS rfl ?_
                  refine A rfl hS (fun w9 h9 => by obtain ⟨g9, hle9, hs⟩ := h9; exact r_pickF (v := Value.bool false) rfl hg6 rfl) rfl ?_
                  refine A rfl hS (fun w9 h9 => by obtain ⟨g9, hle9, hs⟩ := h9; exact r_assign (v := Value.bool false) rfl) rfl ?_
                  refine AN ?_
                  obtain rfl := Option.some.inj hM
                  exact ⟨gg77, rfl, hds, hagg5, (hs.sub (.cons _ (.cons _ (.cons _ .slnil))))⟩
                trivial
              trivial
            refine A2 rfl ?_ ?_
            · refine OW_g rfl rfl rfl (by rw [hg5]; rfl) ?_
              refine OW_lit (τ := (tInt .u8)) [Value.int .u8 b1] [b1] Tryd.underlying39 ti5 (by decide) hs rfl rfl rfl ⟨rfl, trivial⟩ rfl ?_
              intro v101 wv102 xs24 hrelxs24 hs
              refine OW_nil ?_
              have hS : SS g0 w0 gg5 [Go.Lx.box b3 27 (([Value.int .i64 rv5.Kind]) ++ ((rv5.Set.1.map (Value.int .u64)) ++ ([v6]))), Go.Lx.box b2 27 (([Value.int .i64 rv1.Kind]) ++ ((rv1.Set.1.map (Value.int .u64)) ++ ([v1])))] _ := ⟨gg75, hagg5, (hs.sub (.cons _ (.cons_cons _ (.cons_cons _ .slnil))))⟩
              refine ⟨fun _ => hS, ?_⟩
              refine A2 rfl ?_ ?_
              · refine CG rfl rfl rfl (by rw [hg5]; rfl) [Value.agg (List.toArray (α := Value) (([Value.int .i64 rv5.Kind]) ++ ((rv5.Set.1.map (Value.int .u64)) ++ ([v6])))), encS s1] cf23 rfl (regex_Match_ok hrv12 hs.imm (tT_Regex_iff.2 ⟨[Value.int .i64 rv5.Kind], rv5.Set.1.map (Value.int .u64), [v6], rfl, rfl, rfl, ⟨_, rfl, hRv6⟩⟩)) rfl ?_
                rintro v102 wv103 ⟨gg78, hvv102, hegg78⟩
                have hlegg78 := hegg78.le hs.imm
                replace hs := hs.call hegg78
                replace hRv1 := hRv1.mono hlegg78
                replace hG0 := hG0.mono hlegg78
                replace hRv6 := hRv6.mono hlegg78
                replace hrelxs24 := hrelxs24.mono hlegg78
                replace hagg5 := hagg5.trans hlegg78
                obtain ⟨cs83, rfl, hcs83⟩ := hvv102
                have hcs83 : cs83 = _ := hcs83; subst hcs83
                refine OW_nil ?_
                have hS : SS g0 w0 gg5 [Go.Lx.box b3 27 (([Value.int .i64 rv5.Kind]) ++ ((rv5.Set.1.map (Value.int .u64)) ++ ([v6]))), Go.Lx.box b2 27 (([Value.int .i64 rv1.Kind]) ++ ((rv1.Set.1.map (Value.int .u64)) ++ ([v1])))] _ := ⟨gg78, hagg5, (hs.sub (.cons _ (.cons_cons _ (.cons_cons _ .slnil))))⟩
                refine ⟨fun _ => hS, ?_⟩
                refine A1 rfl ?_
                refine OG rfl rfl rfl (by rw [hg5]; rfl) (r_toStr (l := [b1]) Tryd.underlying39 Tryd.underlying5 Tryd.underlying9 (v := v101) rfl (hs.rowSrc (i := 0) rfl) hrelxs24) rfl ?_
                refine OW_nil ?_
                have hS : SS g0 w0 gg5 [Go.Lx.box b3 27 (([Value.int .i64 rv5.Kind]) ++ ((rv5.Set.1.map (Value.int .u64)) ++ ([v6]))), Go.Lx.box b2 27 (([Value.int .i64 rv1.Kind]) ++ ((rv1.Set.1.map (Value.int .u64)) ++ ([v1])))] _ := ⟨gg78, hagg5, (hs.sub (.cons _ (.cons_cons _ (.cons_cons _ .slnil))))⟩
                refine ⟨fun _ => hS, ?_⟩
                refine AG rfl rfl rfl rfl (by rw [hg5]; rfl) hS (fun w9 h9 => by obtain ⟨g9, hle9, hs⟩ := h9; exact r_catS rfl rfl hs3) rfl ?_
                refine A1 rfl ?_
                refine CG rfl rfl rfl (by rw [hg5]; rfl) [Value.agg (List.toArray (α := Value) (([Value.int .i64 rv1.Kind]) ++ ((rv1.Set.1.map (Value.int .u64)) ++ ([v1])))), encS s3] cf24 rfl (ref08_Match_ok hrv13 hs.imm (tT_Regex_iff.2 ⟨[Value.int .i64 rv1.Kind], rv1.Set.1.map (Value.int .u64), [v1], rfl, rfl, rfl, ⟨_, rfl, hRv1⟩⟩)) rfl ?_
                rintro v103 wv104 ⟨gg79, hvv103, hegg79⟩
                have hlegg79 := hegg79.le hs.imm
                replace hs := hs.call hegg79
                replace hRv1 := hRv1.mono hlegg79
                replace hG0 := hG0.mono hlegg79
                replace hRv6 := hRv6.mono hlegg79
                replace hrelxs24 := hrelxs24.mono hlegg79
                replace hagg5 := hagg5.trans hlegg79
                obtain ⟨cs84, rfl, hcs84⟩ := hvv103
                have hcs84 : cs84 = _ := hcs84; subst hcs84
                refine OW_nil ?_
                have hS : SS g0 w0 gg5 [Go.Lx.box b3 27 (([Value.int .i64 rv5.Kind]) ++ ((rv5.Set.1.map (Value.int .u64)) ++ ([v6]))), Go.Lx.box b2 27 (([Value.int .i64 rv1.Kind]) ++ ((rv1.Set.1.map (Value.int .u64)) ++ ([v1])))] _ := ⟨gg79, hagg5, (hs.sub (.cons _ (.cons_cons _ (.cons_cons _ .slnil))))⟩
                refine ⟨fun _ => hS, ?_⟩
                refine AG rfl rfl rfl rfl (by rw [hg5]; rfl) hS (fun w9 h9 => by obtain ⟨g9, hle9, hs⟩ := h9; exact r_eqlB Tryd.underlying4 rfl rfl) rfl ?_
                refine A rfl hS (fun w9 h9 => by obtain ⟨g9, hle9, hs⟩ := h9; exact r_pickT (v := Value.bool (rv12 == rv13)) rfl hg5 rfl) rfl ?_
                refine A rfl hS (fun w9 h9 => by obtain ⟨g9, hle9, hs⟩ := h9; exact r_move (v := Value.bool (rv12 == rv13)) rfl) rfl ?_
                refine AK rfl rfl rfl rfl (by rw [hg6]; rfl) hS rfl ?_
                refine AK rfl rfl rfl rfl (by rw [hg6]; rfl) hS rfl ?_
                refine AK rfl rfl rfl rfl (by rw [hg6]; rfl) hS rfl ?_
                refine A2 rfl ?_ ?_
                · refine OK rfl rfl rfl (by rw [hg6]; rfl) rfl ?_
                  refine OW_nil ⟨fun _ => hS, ?_⟩
                  refine A1 rfl ?_
                  refine OK rfl rfl rfl (by rw [hg6]; rfl) rfl ?_
                  refine OW_nil ⟨fun _ => hS, ?_⟩
                  refine A1 rfl ?_
                  refine OK rfl rfl rfl (by rw [hg6]; rfl) rfl ?_
                  refine OW_nil ⟨fun _ => hS, ?_⟩
                  refine A1 rfl ?_
                  refine OK rfl rfl rfl (by rw [hg6]; rfl) rfl ?_
                  refine OW_nil ⟨fun _ => hS, ?_⟩
                  refine AK rfl rfl rfl rfl (by rw [hg6]; rfl) hS rfl ?_
                  refine A rfl hS (fun w9 h9 => by obtain ⟨g9, hle9, hs⟩ := h9; exact r_pickF (v := Value.bool false) rfl hg6 rfl) rfl ?_
                  refine A rfl hS (fun w9 h9 => by obtain ⟨g9, hle9, hs⟩ := h9; exact r_assign (v := Value.bool false) rfl) rfl ?_
                  refine AN ?_
                  obtain rfl := Option.some.inj hM
                  exact ⟨gg79, rfl, hds, hagg5, (hs.sub (.cons _ (.cons _ (.cons _ .slnil))))⟩
                refine A2 rfl ?_ ?_
                · refine OK rfl rfl rfl (by rw [hg6]; rfl) rfl ?_
                  refine OW_nil ⟨fun _ => hS, ?_⟩
                  refine A2 rfl ?_ ?_
                  · refine OK rfl rfl rfl (by rw [hg6]; rfl) rfl ?_
                    refine OW_nil ⟨fun _ => hS, ?_⟩
                    refine A1 rfl ?_
                    refine OK rfl rfl rfl (by rw [hg6]; rfl) rfl ?_
                    refine OW_nil ⟨fun _ => hS, ?_⟩
                    refine A1 rfl ?_
                    refine OK rfl rfl rfl (by rw [hg6]; rfl) rfl ?_
                    refine OW_nil ⟨fun _ => hS, ?_⟩
                    refine AK rfl rfl rfl rfl (by rw [hg6]; rfl) hS rfl ?_
                    refine A rfl hS (fun w9 h9 => by obtain ⟨g9, hle9, hs⟩ := h9; exact r_pickF (v := Value.bool false) rfl hg6 rfl) rfl ?_
                    refine A rfl hS (fun w9 h9 => by obtain ⟨g9, hle9, hs⟩ := h9; exact r_assign (v := Value.bool false) rfl) rfl ?_
                    refine AN ?_
                    obtain rfl := Option.some.inj hM
                    exact ⟨gg79, rfl, hds, hagg5, (hs.sub (.cons _ (.cons _ (.cons _ .slnil))))⟩
                  refine A2 rfl ?_ ?_
                  · refine OK rfl rfl rfl (by rw [hg6]; rfl) rfl ?_
                    refine OW_nil ⟨fun _ => hS, ?_⟩
                    refine A1 rfl ?_
                    refine OK rfl rfl rfl (by rw [hg6]; rfl) rfl ?_
                    refine OW_nil ⟨fun _ => hS, ?_⟩
                    refine A1 rfl ?_
                    refine OK rfl rfl rfl (by rw [hg6]; rfl) rfl ?_
                    refine OW_nil ⟨fun _ => hS, ?_⟩
                    refine AK rfl rfl rfl rfl (by rw [hg6]; rfl) hS rfl ?_
                    refine A rfl hS (fun w9 h9 => by obtain ⟨g9, hle9, hs⟩ := h9; exact r_pickF (v := Value.bool false) rfl hg6 rfl) rfl ?_
                    refine A rfl hS (fun w9 h9 => by obtain ⟨g9, hle9, hs⟩ := h9; exact r_assign (v := Value.bool false) rfl) rfl ?_
                    refine AN ?_
                    obtain rfl := Option.some.inj hM
                    exact ⟨gg79, rfl, hds, hagg5, (hs.sub (.cons _ (.cons _ (.cons _ .slnil))))⟩
                  trivial
                trivial
              refine A2 rfl ?_ ?_
              · refine OG rfl rfl rfl (by rw [hg5]; rfl) (r_toStr (l := [b1]) Tryd.underlying39 Tryd.underlying5 Tryd.underlying9 (v := v101) rfl (hs.rowSrc (i := 0) rfl) hrelxs24) rfl ?_
                refine OW_nil ?_
                have hS : SS g0 w0 gg5 [Go.Lx.box b3 27 (([Value.int .i64 rv5.Kind]) ++ ((rv5.Set.1.map (Value.int .u64)) ++ ([v6]))), Go.Lx.box b2 27 (([Value.int .i64 rv1.Kind]) ++ ((rv1.Set.1.map (Value.int .u64)) ++ ([v1])))] _ := ⟨gg75, hagg5, (hs.sub (.cons _ (.cons_cons _ (.cons_cons _ .slnil))))⟩
                refine ⟨fun _ => hS, ?_⟩
                refine AG rfl rfl rfl rfl (by rw [hg5]; rfl) hS (fun w9 h9 => by obtain ⟨g9, hle9, hs⟩ := h9; exact r_catS rfl rfl hs3) rfl ?_
                refine A1 rfl ?_
                refine CG rfl rfl rfl (by rw [hg5]; rfl) [Value.agg (List.toArray (α := Value) (([Value.int .i64 rv5.Kind]) ++ ((rv5.Set.1.map (Value.int .u64)) ++ ([v6])))), encS s1] cf23 rfl (regex_Match_ok hrv12 hs.imm (tT_Regex_iff.2 ⟨[Value.int .i64 rv5.Kind], rv5.Set.1.map (Value.int .u64), [v6], rfl, rfl, rfl, ⟨_, rfl, hRv6⟩⟩)) rfl ?_
                rintro v104 wv105 ⟨gg80, hvv104, hegg80⟩
                have hlegg80 := hegg80.le hs.imm
                replace hs := hs.call hegg80
                replace hRv1 := hRv1.mono hlegg80
                replace hG0 := hG0.mono hlegg80
                replace hRv6 := hRv6.mono hlegg80
                replace hrelxs24 := hrelxs24.mono hlegg80
                replace hagg5 := hagg5.trans hlegg80
                obtain ⟨cs85, rfl, hcs85⟩ := hvv104
                have hcs85 : cs85 = _ := hcs85; subst hcs85
                refine OW_nil ?_
                have hS : SS g0 w0 gg5 [Go.Lx.box b3 27 (([Value.int .i64 rv5.Kind]) ++ ((rv5.Set.1.map (Value.int .u64)) ++ ([v6]))), Go.Lx.box b2 27 (([Value.int .i64 rv1.Kind]) ++ ((rv1.Set.1.map (Value.int .u64)) ++ ([v1])))] _ := ⟨gg80, hagg5, (hs.sub (.cons _ (.cons_cons _ (.cons_cons _ .slnil))))⟩
                refine ⟨fun _ => hS, ?_⟩
                refine A1 rfl ?_
                refine CG rfl rfl rfl (by rw [hg5]; rfl) [Value.agg (List.toArray (α := Value) (([Value.int .i64 rv1.Kind]) ++ ((rv1.Set.1.map (Value.int .u64)) ++ ([v1])))), encS s3] cf24 rfl (ref08_Match_ok hrv13 hs.imm (tT_Regex_iff.2 ⟨[Value.int .i64 rv1.Kind], rv1.Set.1.map (Value.int .u64), [v1], rfl, rfl, rfl, ⟨_, rfl, hRv1⟩⟩)) rfl ?_
                rintro v105 wv106 ⟨gg81, hvv105, hegg81⟩
                have hlegg81 := hegg81.le hs.imm
                replace hs := hs.call hegg81
                replace hRv1 := hRv1.mono hlegg81
                replace hG0 := hG0.mono hlegg81
                replace hRv6 := hRv6.mono hlegg81
                replace hrelxs24 := hrelxs24.mono hlegg81
                replace hagg5 := hagg5.trans hlegg81
                obtain ⟨cs86, rfl, hcs86⟩ := hvv105
                have hcs86 : cs86 = _ := hcs86; subst hcs86
                refine OW_nil ?_
                have hS : SS g0 w0 gg5 [Go.Lx.box b3 27 (([Value.int .i64 rv5.Kind]) ++ ((rv5.Set.1.map (Value.int .u64)) ++ ([v6]))), Go.Lx.box b2 27 (([Value.int .i64 rv1.Kind]) ++ ((rv1.Set.1.map (Value.int .u64)) ++ ([v1])))] _ := ⟨gg81, hagg5, (hs.sub (.cons _ (.cons_cons _ (.cons_cons _ .slnil))))⟩
                refine ⟨fun _ => hS, ?_⟩
                refine AG rfl rfl rfl rfl (by rw [hg5]; rfl) hS (fun w9 h9 => by obtain ⟨g9, hle9, hs⟩ := h9; exact r_eqlB Tryd.underlying4 rfl rfl) rfl ?_
                refine A rfl hS (fun w9 h9 => by obtain ⟨g9, hle9, hs⟩ := h9; exact r_pickT (v := Value.bool (rv12 == rv13)) rfl hg5 rfl) rfl ?_
                refine A rfl hS (fun w9 h9 => by obtain ⟨g9, hle9, hs⟩ := h9; exact r_move (v := Value.bool (rv12 == rv13)) rfl) rfl ?_
                refine AK rfl rfl rfl rfl (by rw [hg6]; rfl) hS rfl ?_
                refine AK rfl rfl rfl rfl (by rw [hg6]; rfl) hS rfl ?_
                refine AK rfl rfl rfl rfl (by rw [hg6]; rfl) hS rfl ?_
                refine A2 rfl ?_ ?_
                · refine OK rfl rfl rfl (by rw [hg6]; rfl) rfl ?_
                  refine OW_nil ⟨fun _ => hS, ?_⟩
                  refine A1 rfl ?_
                  refine OK rfl rfl rfl (by rw [hg6]; rfl) rfl ?_
                  refine OW_nil ⟨fun _ => hS, ?_⟩
                  refine A1 rfl ?_
                  refine OK rfl rfl rfl (by rw [hg6]; rfl) rfl ?_
                  refine OW_nil ⟨fun _ => hS, ?_⟩
                  refine A1 rfl ?_
                  refine OK rfl rfl rfl (by rw [hg6]; rfl) rfl ?_
                  refine OW_nil ⟨fun _ => hS, ?_⟩
                  refine AK rfl rfl rfl rfl (by rw [hg6]; rfl) hS rfl ?_
                  refine A rfl hS (fun w9 h9 => by obtain ⟨g9, hle9, hs⟩ := h9; exact r_pickF (v := Value.bool false) rfl hg6 rfl) rfl ?_
                  refine A rfl hS (fun w9 h9 => by obtain ⟨g9, hle9, hs⟩ := h9; exact r_assign (v := Value.bool false) rfl) rfl ?_
                  refine AN ?_
                  obtain rfl := Option.some.inj hM
                  exact ⟨gg81, rfl, hds, hagg5, (hs.sub (.cons _ (.cons _ (.cons _ .slnil))))⟩
                refine A2 rfl ?_ ?_
                · refine OK rfl rfl rfl (by rw [hg6]; rfl) rfl ?_
                  refine OW_nil ⟨fun _ => hS, ?_⟩
                  refine A2 rfl ?_ ?_
                  · refine OK rfl rfl rfl (by rw [hg6]; rfl) rfl ?_
                    refine OW_nil ⟨fun _ => hS, ?_⟩
                    refine A1 rfl ?_
                    refine OK rfl rfl rfl (by rw [hg6]; rfl) rfl ?_
                    refine OW_nil ⟨fun _ => hS, ?_⟩
                    refine A1 rfl ?_
                    refine OK rfl rfl rfl (by rw [hg6]; rfl) rfl ?_
                    refine OW_nil ⟨fun _ => hS, ?_⟩
                    refine AK rfl rfl rfl rfl (by rw [hg6]; rfl) hS rfl ?_
                    refine A rfl hS (fun w9 h9 => by obtain ⟨g9, hle9, hs⟩ := h9; exact r_pickF (v := Value.bool false) rfl hg6 rfl) rfl ?_
                    refine A rfl hS (fun w9 h9 => by obtain ⟨g9, hle9, hs⟩ := h9; exact r_assign (v := Value.bool false) rfl) rfl ?_
                    refine AN ?_
                    obtain rfl := Option.some.inj hM
                    exact ⟨gg81, rfl, hds, hagg5, (hs.sub (.cons _ (.cons _ (.cons _ .slnil))))⟩
                  refine A2 rfl ?_ ?_
                  · refine OK rfl rfl rfl (by rw [hg6]; rfl) rfl ?_
                    refine OW_nil ⟨fun _ => hS, ?_⟩
                    refine A1 rfl ?_
                    refine OK rfl rfl rfl (by rw [hg6]; rfl) rfl ?_
                    refine OW_nil ⟨fun _ => hS, ?_⟩
                    refine A1 rfl ?_
                    refine OK rfl rfl rfl (by rw [hg6]; rfl) rfl ?_
                    refine OW_nil ⟨fun _ => hS, ?_⟩
                    refine AK rfl rfl rfl rfl (by rw [hg6]; rfl) hS rfl ?_
                    refine A rfl hS (fun w9 h9 => by obtain ⟨g9, hle9, hs⟩ := h9; exact r_pickF (v := Value.bool false) rfl hg6 rfl) rfl ?_
                    refine A rfl hS (fun w9 h9 => by obtain ⟨g9, hle9, hs⟩ := h9; exact r_assign (v := Value.bool false) rfl) rfl ?_
                    refine AN ?_
                    obtain rfl := Option.some.inj hM
                    exact ⟨gg81, rfl, hds, hagg5, (hs.sub (.cons _ (.cons _ (.cons _ .slnil))))⟩
                  trivial
                trivial
              trivial
            trivial
        · refine WP_any (.s 0 (.q 1 (.q 2 (.q 3 (.q 5 (.q 6 (.q 9 (.c 4 (.s 7 (.s 8 (.q 10 (.s 11 (.q 12 (.q 13 (.q 14 (.q 15 (.q 17 (.q 18 (.c 16 (.s 19 (.s 20 (.s 21 (.q 22 (.q 23 (.q 24 (.leaf))))))) (.c 19 (.c 16 (.s 20 (.s 21 (.q 22 (.q 23 (.q 24 (.leaf)))))) (.c 20 (.s 16 (.s 21 (.q 22 (.q 23 (.q 24 (.leaf)))))) (.n))) (.n))))))))))))) (.c 7 (.c 4 (.s 8 (.q 10 (.s 11 (.q 12 (.q 13 (.q 14 (.q 15 (.q 17 (.q 18 (.c 16 (.s 19 (.s 20 (.s 21 (.q 22 (.q 23 (.q 24 (.leaf))))))) (.c 19 (.c 16 (.s 20 (.s 21 (.q 22 (.q 23 (.q 24 (.leaf)))))) (.c 20 (.s 16 (.s 21 (.q 22 (.q 23 (.q 24 (.leaf)))))) (.n))) (.n)))))))))))) (.c 8 (.q 10 (.s 4 (.s 11 (.q 12 (.q 13 (.q 14 (.q 15 (.q 17 (.q 18 (.c 16 (.s 19 (.s 20 (.s 21 (.q 22 (.q 23 (.q 24 (.leaf))))))) (.c 19 (.c 16 (.s 20 (.s 21 (.q 22 (.q 23 (.q 24 (.leaf)))))) (.c 20 (.s 16 (.s 21 (.q 22 (.q 23 (.q 24 (.leaf)))))) (.n))) (.n)))))))))))) (.n))) (.n)))))))))) (SS g0 w0 gg5 [Go.Lx.box b3 27 (([Value.int .i64 rv5.Kind]) ++ ((rv5.Set.1.map (Value.int .u64)) ++ ([v6]))), Go.Lx.box b2 27 (([Value.int .i64 rv1.Kind]) ++ ((rv1.Set.1.map (Value.int .u64)) ++ ([v1])))]) mo (by decide +kernel) ?_
          have hs := hs.drew
          have hRv1b := hRv1
          have hG0b := hG0
          have hRv6b := hRv6
          have hS : SS g0 w0 gg5 [Go.Lx.box b3 27 (([Value.int .i64 rv5.Kind]) ++ ((rv5.Set.1.map (Value.int .u64)) ++ ([v6]))), Go.Lx.box b2 27 (([Value.int .i64 rv1.Kind]) ++ ((rv1.Set.1.map (Value.int .u64)) ++ ([v1])))] _ := ⟨gg5, Hle.refl _, hs⟩
          refine A1 rfl ?_
          refine C [] cf13 rfl (law08_awake_ok hrv11 hs.imm hG0) rfl ?_
          rintro v106 wv107 ⟨gg82, hvv106, hegg82⟩
          have hlegg82 := hegg82.le hs.imm
          replace hs := hs.call hegg82
          replace hRv1 := hRv1.mono hlegg82
          replace hG0 := hG0.mono hlegg82
          replace hRv6 := hRv6.mono hlegg82
          replace hagg5 := hagg5.trans hlegg82
          obtain ⟨cs87, rfl, hcs87⟩ := hvv106
          have hcs87 : cs87 = _ := hcs87; subst hcs87
          refine OW_nil ?_
          have hS : SS g0 w0 gg5 [Go.Lx.box b3 27 (([Value.int .i64 rv5.Kind]) ++ ((rv5.Set.1.map (Value.int .u64)) ++ ([v6]))), Go.Lx.box b2 27 (([Value.int .i64 rv1.Kind]) ++ ((rv1.Set.1.map (Value.int .u64)) ++ ([v1])))] _ := ⟨gg82, hagg5, hs⟩
          refine ⟨fun _ => hS, ?_⟩
          refine A rfl hS (fun w9 h9 => by obtain ⟨g9, hle9, hs⟩ := h9; exact r_move (v := Value.bool rv11) rfl) rfl ?_
          refine AK rfl rfl rfl rfl (by rw [hg5]; rfl) hS rfl ?_
          refine AK rfl rfl rfl rfl (by rw [hg5]; rfl) hS rfl ?_
          refine AK rfl rfl rfl rfl (by rw [hg5]; rfl) hS rfl ?_
          refine AK rfl rfl rfl rfl (by rw [hg5]; rfl) hS rfl ?_
          refine AK rfl rfl rfl rfl (by rw [hg5]; rfl) hS rfl ?_
          refine A2 rfl ?_ ?_
          · refine OK rfl rfl rfl (by rw [hg5]; rfl) rfl ?_
            refine OW_nil ⟨fun _ => hS, ?_⟩
            refine A1 rfl ?_
            refine OK rfl rfl rfl (by rw [hg5]; rfl) rfl ?_
            refine OW_nil ⟨fun _ => hS, ?_⟩
            refine A1 rfl ?_
            refine OK rfl rfl rfl (by rw [hg5]; rfl) rfl ?_
            refine OW_nil ⟨fun _ => hS, ?_⟩
            refine AK rfl rfl rfl rfl (by rw [hg5]; rfl) hS rfl ?_
            refine A1 rfl ?_
            refine OK rfl rfl rfl (by rw [hg5]; rfl) rfl ?_
            refine OW_nil ⟨fun _ => hS, ?_⟩
            refine AK rfl rfl rfl rfl (by rw [hg5]; rfl) hS rfl ?_
            refine A rfl hS (fun w9 h9 => by obtain ⟨g9, hle9, hs⟩ := h9; exact r_pickF (v := Value.bool false) rfl hg5 rfl) rfl ?_
            refine A rfl hS (fun w9 h9 => by obtain ⟨g9, hle9, hs⟩ := h9; exact r_move (v := Value.bool false) rfl) rfl ?_
            refine AK rfl rfl rfl rfl rfl hS rfl ?_
            refine AK rfl rfl rfl rfl rfl hS rfl ?_
            refine AK rfl rfl rfl rfl rfl hS rfl ?_
            refine A2 rfl ?_ ?_
            · refine OK rfl rfl rfl rfl rfl ?_
              refine OW_nil ⟨fun _ => hS, ?_⟩
              refine A1 rfl ?_
              refine OK rfl rfl rfl rfl rfl ?_
              refine OW_nil ⟨fun _ => hS, ?_⟩
              refine A1 rfl ?_
              refine OK rfl rfl rfl rfl rfl ?_
              refine OW_nil ⟨fun _ => hS, ?_⟩
              refine A1 rfl ?_
              refine OK rfl rfl rfl rfl rfl ?_
              refine OW_nil ⟨fun _ => hS, ?_⟩
              refine AK rfl rfl rfl rfl rfl hS rfl ?_
              refine A rfl hS (fun w9 h9 => by obtain ⟨g9, hle9, hs⟩ := h9; exact r_pickF (v := Value.bool false) rfl rfl rfl) rfl ?_
              refine A rfl hS (fun w9 h9 => by obtain ⟨g9, hle9, hs⟩ := h9; exact r_assign (v := Value.bool false) rfl) rfl ?_
              refine AN ?_
              obtain rfl := Option.some.inj hM
              exact ⟨gg82, rfl, hds, hagg5, (hs.sub (.cons _ (.cons _ .slnil)))⟩
            refine A2 rfl ?_ ?_
            · refine OK rfl rfl rfl rfl rfl ?_
              refine OW_nil ⟨fun _ => hS, ?_⟩
              refine A2 rfl ?_ ?_
              · refine OK rfl rfl rfl rfl rfl ?_
                refine OW_nil ⟨fun _ => hS, ?_⟩
                refine A1 rfl ?_
                refine OK rfl rfl rfl rfl rfl ?_
                refine OW_nil ⟨fun _ => hS, ?_⟩
                refine A1 rfl ?_
                refine OK rfl rfl rfl rfl rfl ?_
                refine OW_nil ⟨fun _ => hS, ?_⟩
                refine AK rfl rfl rfl rfl rfl hS rfl ?_
                refine A rfl hS (fun w9 h9 => by obtain ⟨g9, hle9, hs⟩ := h9; exact r_pickF (v := Value.bool false) rfl rfl rfl) rfl ?_
                refine A rfl hS (fun w9 h9 => by obtain ⟨g9, hle9, hs⟩ := h9; exact r_assign (v := Value.bool false) rfl) rfl ?_
                refine AN ?_
                obtain rfl := Option.some.inj hM
                exact ⟨gg82, rfl, hds, hagg5, (hs.sub (.cons _ (.cons _ .slnil)))⟩
              refine A2 rfl ?_ ?_
              · refine OK rfl rfl rfl rfl rfl ?_
                refine OW_nil ⟨fun _ => hS, ?_⟩
                refine A1 rfl ?_
                refine OK rfl rfl rfl rfl rfl ?_
                refine OW_nil ⟨fun _ => hS, ?_⟩
                refine A1 rfl ?_
                refine OK rfl rfl rfl rfl rfl ?_
                refine OW_nil ⟨fun _ => hS, ?_⟩
                refine AK rfl rfl rfl rfl rfl hS rfl ?_
                refine A rfl hS (fun w9 h9 => by obtain ⟨g9, hle9, hs⟩ := h9; exact r_pickF (v := Value.bool false) rfl rfl rfl) rfl ?_
                refine A rfl hS (fun w9 h9 => by obtain ⟨g9, hle9, hs⟩ := h9; exact r_assign (v := Value.bool false) rfl) rfl ?_
                refine AN ?_
                obtain rfl := Option.some.inj hM
                exact ⟨gg82, rfl, hds, hagg5, (hs.sub (.cons _ (.cons _ .slnil)))⟩
              trivial
            trivial
          refine A2 rfl ?_ ?_
          · refine OK rfl rfl rfl (by rw [hg5]; rfl) rfl ?_
            refine OW_nil ⟨fun _ => hS, ?_⟩
            refine A2 rfl ?_ ?_
            · refine OK rfl rfl rfl (by rw [hg5]; rfl) rfl ?_
              refine OW_nil ⟨fun _ => hS, ?_⟩
              refine A1 rfl ?_
              refine OK rfl rfl rfl (by rw [hg5]; rfl) rfl ?_
              refine OW_nil ⟨fun _ => hS, ?_⟩
              refine AK rfl rfl rfl rfl (by rw [hg5]; rfl) hS rfl ?_
              refine A1 rfl ?_
              refine OK rfl rfl rfl (by rw [hg5]; rfl) rfl ?_
              refine OW_nil ⟨fun _ => hS, ?_⟩
              refine AK rfl rfl rfl rfl (by rw [hg5]; rfl) hS rfl ?_
              refine A rfl hS (fun w9 h9 => by obtain ⟨g9, hle9, hs⟩ := h9; exact r_pickF (v := Value.bool false) rfl hg5 rfl) rfl ?_
              refine A rfl hS (fun w9 h9 => by obtain ⟨g9, hle9, hs⟩ := h9; exact r_move (v := Value.bool false) rfl) rfl ?_
              refine AK rfl rfl rfl rfl rfl hS rfl ?_
              refine AK rfl rfl rfl rfl rfl hS rfl ?_
              refine AK rfl rfl rfl rfl rfl hS rfl ?_
              refine A2 rfl ?_ ?_
              · refine OK rfl rfl rfl rfl rfl ?_
                refine OW_nil ⟨fun _ => hS, ?_⟩
                refine A1 rfl ?_
                refine OK rfl rfl rfl rfl rfl ?_
                refine OW_nil ⟨fun _ => hS, ?_⟩
                refine A1 rfl ?_
                refine OK rfl rfl rfl rfl rfl ?_
                refine OW_nil ⟨fun _ => hS, ?_⟩
                refine A1 rfl ?_
                refine OK rfl rfl rfl rfl rfl ?_
                refine OW_nil ⟨fun _ => hS, ?_⟩
                refine AK rfl rfl rfl rfl rfl hS rfl ?_
                refine A rfl hS (fun w9 h9 => by obtain ⟨g9, hle9, hs⟩ := h9; exact r_pickF (v := Value.bool false) rfl rfl rfl) rfl ?_
                refine A rfl hS (fun w9 h9 => by obtain ⟨g9, hle9, hs⟩ := h9; exact r_assign (v := Value.bool false) rfl) rfl ?_
                refine AN ?_
                obtain rfl := Option.some.inj hM
                exact ⟨gg82, rfl, hds, hagg5, (hs.sub (.cons _ (.cons _ .slnil)))⟩
              refine A2 rfl ?_ ?_
              · refine OK rfl rfl rfl rfl rfl ?_
                refine OW_nil ⟨fun _ => hS, ?_⟩
                refine A2 rfl ?_ ?_
                · refine OK rfl rfl rfl rfl rfl ?_
                  refine OW_nil ⟨fun _ => hS, ?_⟩
                  refine A1 rfl ?_
                  refine OK rfl rfl rfl rfl rfl ?_
                  refine OW_nil ⟨fun _ => hS, ?_⟩
                  refine A1 rfl ?_
                  refine OK rfl rfl rfl rfl rfl ?_
                  refine OW_nil ⟨fun _ => hS, ?_⟩
                  refine AK rfl rfl rfl rfl rfl hS rfl ?_
                  refine A rfl hS (fun w9 h9 => by obtain ⟨g9, hle9, hs⟩ := h9; exact r_pickF (v := Value.bool false) rfl rfl rfl) rfl ?_
                  refine A rfl hS (fun w9 h9 => by obtain ⟨g9, hle9, hs⟩ := h9; exact r_assign (v := Value.bool false) rfl) rfl ?_
                  refine AN ?_
                  obtain rfl := Option.some.inj hM
                  exact ⟨gg82, rfl, hds, hagg5, (hs.sub (.cons _ (.cons _ .slnil)))⟩
                refine A2 rfl ?_ ?_
                · refine OK rfl rfl rfl rfl rfl ?_
                  refine OW_nil ⟨fun _ => hS, ?_⟩
                  refine A1 rfl ?_
                  refine OK rfl rfl rfl rfl rfl ?_
                  refine OW_nil ⟨fun _ => hS, ?_⟩
                  refine A1 rfl ?_
                  refine OK rfl rfl rfl rfl rfl ?_
                  refine OW_nil ⟨fun _ => hS, ?_⟩
                  refine AK rfl rfl rfl rfl rfl hS rfl ?_
                  refine A rfl hS (fun w9 h9 => by obtain ⟨g9, hle9, hs⟩ := h9; exact r_pickF (v := Value.bool false) rfl rfl rfl) rfl ?_
                  refine A rfl hS (fun w9 h9 => by obtain ⟨g9, hle9, hs⟩ := h9; exact r_assign (v := Value.bool false) rfl) rfl ?_
                  refine AN ?_
                  obtain rfl := Option.some.inj hM
                  exact ⟨gg82, rfl, hds, hagg5, (hs.sub (.cons _ (.cons _ .slnil)))⟩
                trivial
              trivial
            refine A2 rfl ?_ ?_
            · refine OK rfl rfl rfl (by rw [hg5]; rfl) rfl ?_
              refine OW_nil ⟨fun _ => hS, ?_⟩
              refine AK rfl rfl rfl rfl (by rw [hg5]; rfl) hS rfl ?_
              refine A1 rfl ?_
              refine OK rfl rfl rfl (by rw [hg5]; rfl) rfl ?_
              refine OW_nil ⟨fun _ => hS, ?_⟩
              refine A1 rfl ?_
              refine OK rfl rfl rfl (by rw [hg5]; rfl) rfl ?_
              refine OW_nil ⟨fun _ => hS, ?_⟩
              refine AK rfl rfl rfl rfl (by rw [hg5]; rfl) hS rfl ?_
              refine A rfl hS (fun w9 h9 => by obtain ⟨g9, hle9, hs⟩ := h9; exact r_pickF (v := Value.bool false) rfl hg5 rfl) rfl ?_
              refine A rfl hS (fun w9 h9 => by obtain ⟨g9, hle9, hs⟩ := h9; exact r_move (v := Value.bool false) rfl) rfl ?_
              refine AK rfl rfl rfl rfl rfl hS rfl ?_
              refine AK rfl rfl rfl rfl rfl hS rfl ?_
              refine AK rfl rfl rfl rfl rfl hS rfl ?_
              refine A2 rfl ?_ ?_
              · refine OK rfl rfl rfl rfl rfl ?_
                refine OW_nil ⟨fun _ => hS, ?_⟩
                refine A1 rfl ?_
                refine OK rfl rfl rfl rfl rfl ?_
                refine OW_nil ⟨fun _ => hS, ?_⟩
                refine A1 rfl ?_
                refine OK rfl rfl rfl rfl rfl ?_
                refine OW_nil ⟨fun _ => hS, ?_⟩
                refine A1 rfl ?_
                refine OK rfl rfl rfl rfl rfl ?_
                refine OW_nil ⟨fun _ => hS, ?_⟩
                refine AK rfl rfl rfl rfl rfl hS rfl ?_
                refine A rfl hS (fun w9 h9 => by obtain ⟨g9, hle9, hs⟩ := h9; exact r_pickF (v := Value.bool false) rfl rfl rfl) rfl ?_
                refine A rfl hS (fun w9 h9 => by obtain ⟨g9, hle9, hs⟩ := h9; exact r_assign (v := Value.bool false) rfl) rfl ?_
                refine AN ?_
                obtain rfl := Option.some.inj hM
                exact ⟨gg82, rfl, hds, hagg5, (hs.sub (.cons _ (.cons _ .slnil)))⟩
              refine A2 rfl ?_ ?_
              · refine OK rfl rfl rfl rfl rfl ?_
                refine OW_nil ⟨fun _ => hS, ?_⟩
                refine A2 rfl ?_ ?_
                · refine OK rfl rfl rfl rfl rfl ?_
                  refine OW_nil ⟨fun _ => hS, ?_⟩
                  refine A1 rfl ?_
                  refine OK rfl rfl rfl rfl rfl ?_
                  refine OW_nil ⟨fun _ => hS, ?_⟩
                  refine A1 rfl ?_
                  refine OK rfl rfl rfl rfl rfl ?_
                  refine OW_nil ⟨fun _ => hS, ?_⟩
                  refine AK rfl rfl rfl rfl rfl hS rfl ?_
                  refine A rfl hS (fun w9 h9 => by obtain ⟨g9, hle9, hs⟩ := h9; exact r_pickF (v := Value.bool false) rfl rfl rfl) rfl ?_
                  refine A rfl hS (fun w9 h9 => by obtain ⟨g9, hle9, hs⟩ := h9; exact r_assign (v := Value.bool false) rfl) rfl ?_
                  refine AN ?_
                  obtain rfl := Option.some.inj hM
                  exact ⟨gg82, rfl, hds, hagg5, (hs.sub (.cons _ (.cons _ .slnil)))⟩
                refine A2 rfl ?_ ?_
                · refine OK rfl rfl rfl rfl rfl ?_
                  refine OW_nil ⟨fun _ => hS, ?_⟩
                  refine A1 rfl ?_
                  refine OK rfl rfl rfl rfl rfl ?_
                  refine OW_nil ⟨fun _ => hS, ?_⟩
                  refine A1 rfl ?_
                  refine OK rfl rfl rfl rfl rfl ?_
                  refine OW_nil ⟨fun _ => hS, ?_⟩
                  refine AK rfl rfl rfl rfl rfl hS rfl ?_
                  refine A rfl hS (fun w9 h9 => by obtain ⟨g9, hle9, hs⟩ := h9; exact r_pickF (v := Value.bool false) rfl rfl rfl) rfl ?_
                  refine A rfl hS (fun w9 h9 => by obtain ⟨g9, hle9, hs⟩ := h9; exact r_assign (v := Value.bool false) rfl) rfl ?_
                  refine AN ?_
                  obtain rfl := Option.some.inj hM
                  exact ⟨gg82, rfl, hds, hagg5, (hs.sub (.cons _ (.cons _ .slnil)))⟩
                trivial
              trivial
            trivial
          trivial
      · clear hs
        rintro E w ⟨gg44, hE6, hds, hlegg44, hs⟩
        have hM := hKhx2
        obtain ⟨E, rfl⟩ := open1 (E := E) hE6
        replace hG0 := hG0.mono hlegg44
        refine WP_ret ?_
        obtain rfl := Option.some.inj hM
        refine FL_nil hds ?_
        exact ⟨_, res1 Tryd.results8 (rv_tmp (v := Value.bool xv2) rfl), gg44, ⟨[Value.bool xv2], rfl, rfl⟩, hs.ext⟩

end Go.Proofs.YtffienmbeifioaaDoor
