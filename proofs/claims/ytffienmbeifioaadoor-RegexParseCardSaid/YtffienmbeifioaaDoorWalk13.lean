/- The walks: what each function does is what its model says. Printed by a program of my own. -/
import Derived.Test.YtffienmbeifioaaDoorTyp
import Derived.Test.YtffienmbeifioaaDoorWalk9
import Derived.Test.YtffienmbeifioaaDoorWalk11
set_option linter.unusedVariables false
set_option linter.unusedSimpArgs false
namespace Go.Proofs.YtffienmbeifioaaDoor
open Go.Lx Go.RowKit
set_option maxRecDepth 100000 in
theorem ref08_One_ok {b1 : Int} {r : T_Regex} (hM : M.ref08_One b1 = some r) {g0 : Hp} {w0 : World} (hi : Imm g0 w0) :
    CallsV Tryd.prog 87 #[Value.int .i64 b1] w0 (fun v w' => ∃ g', (VRd tT_Regex true g' v r) ∧ Ext g0 w0 g' w') := by
  unfold M.ref08_One at hM
  have hs := Sep.start hi
  refine calls_of_WP (args := [Value.int .i64 b1]) Tryd.func87 rfl Tryd.ntmps87 rfl ?_
  have hds : (argEnv [Value.int .i64 b1]).ds = [] := rfl
  refine WP_seq ?_
  refine WP_region ?_
  refine OW_alloc ti27 hs (zs := ([Value.int .i64 0]) ++ (((Vec.zero 4).1.map (Value.int .u64)) ++ ([Value.slice none 0 0]))) rfl rfl ?_
  intro b2 wv1 hs
  refine OW_nil ?_
  refine WP_seq ?_
  refine WP_region ?_
  refine O (r_build (vs := []) (cs := (Vec.zero 4).1.map (Value.int .u64)) rfl (by kernel_rfl)) rfl ?_
  refine O (r_move (v := Value.int .i64 b1) rfl) rfl ?_
  obtain ⟨rv1, hrv1, hM⟩ := bindS hM
  refine C [encV .u64 (Vec.zero 4), Value.int .i64 b1] cf72 rfl (ref08_With_ok hrv1 hs.imm) rfl ?_
  rintro v1 wv2 ⟨gg1, hvv1, hegg1⟩
  have hlegg1 := hegg1.le hs.imm
  replace hs := hs.call hegg1
  obtain ⟨cs1, rfl, hcs1⟩ := hvv1
  have hcs1 : cs1 = _ := hcs1; subst hcs1
  refine O (r_build (vs := [(0, Value.int .i64 3), (1, encV .u64 rv1)]) (cs := ([Value.int .i64 3]) ++ ((rv1.1.map (Value.int .u64)) ++ ([Value.slice none 0 0]))) rfl (built_fill [(0, 1), (1, 4), (5, 1)] (([Value.int .i64 0]) ++ (((Vec.zero 4).1.map (Value.int .u64)) ++ ([Value.slice none 0 0]))) (fun _ => by kernel_rfl) (fill_step ([]) ([Value.int .i64 0]) (((Vec.zero 4).1.map (Value.int .u64)) ++ ([Value.slice none 0 0])) ([Value.int .i64 3]) rfl (by simp) rfl rfl rfl rfl <| fill_step ([Value.int .i64 3]) ((Vec.zero 4).1.map (Value.int .u64)) ([Value.slice none 0 0]) (rv1.1.map (Value.int .u64)) rfl (by simp) rfl rfl (by simp [(Vec.zero 4).2]) (by simp [rv1.2]) <| fill_done))) rfl ?_
  refine OW_storeAll ti27 hs (i := 0) rfl rfl (v := Value.agg (List.toArray (α := Value) (([Value.int .i64 3]) ++ ((rv1.1.map (Value.int .u64)) ++ ([Value.slice none 0 0]))))) rfl (vs := ([Value.int .i64 3]) ++ ((rv1.1.map (Value.int .u64)) ++ ([Value.slice none 0 0]))) rfl (one_append (one_cons rfl one_nil) (one_append vec_one (one_cons rfl one_nil))) (by simp [rv1.2]) (by simp [rv1.2, (Vec.zero 4).2]) ?_
  intro wv3 hs
  refine OW_nil ?_
  refine WP_ret ?_
  obtain rfl := Option.some.inj hM
  refine FL_nil hds ?_
  exact ⟨_, res1 Tryd.results87 (rv_cells (vs := ([Value.int .i64 3]) ++ ((rv1.1.map (Value.int .u64)) ++ ([Value.slice none 0 0]))) ti27 rfl (by simp [rv1.2]) (hs.cells (i := 0) rfl)), gg1, ⟨([Value.int .i64 3]) ++ ((rv1.1.map (Value.int .u64)) ++ ([Value.slice none 0 0])), rfl, (tT_Regex_iff.2 ⟨[Value.int .i64 3], rv1.1.map (Value.int .u64), [Value.slice none 0 0], rfl, rfl, rfl, ⟨_, rfl, RdS.nil⟩⟩)⟩, hs.ext⟩

def C.ref08_Equal (fl : Nat) : Prop := ∀ {a1 : T_Regex} {b1 : T_Regex} {r : Bool} (_ : M.ref08_Equal fl a1 b1 = some r) {g0 : Hp} {w0 : World} (hi : Imm g0 w0) {cs1 : List Value} (hcs1 : tT_Regex.rel g0 cs1 a1) {cs2 : List Value} (hcs2 : tT_Regex.rel g0 cs2 b1),
    CallsV Tryd.prog 18 #[Value.agg cs1.toArray, Value.agg cs2.toArray] w0 (fun v w' => ∃ g', (VRd tBool false g' v r) ∧ Ext g0 w0 g' w')
set_option maxRecDepth 100000 in
theorem ref08_Equal_step {fl : Nat} (ih_ref08_Equal : C.ref08_Equal fl) : C.ref08_Equal (fl + 1) := by
  intro a1 b1 r hM g0 w0 hi cs1 hcs1 cs2 hcs2
  unfold M.ref08_Equal at hM
  obtain ⟨cs3, cs4, cs5, rfl, hcs3, hcs4, hcs5⟩ := tT_Regex_iff.1 hcs1
  have hcs3 : cs3 = _ := hcs3; subst hcs3
  have hcs4 : cs4 = _ := hcs4; subst hcs4
  obtain ⟨v1, rfl, hRv1⟩ := hcs5
  obtain ⟨cs6, cs7, cs8, rfl, hcs6, hcs7, hcs8⟩ := tT_Regex_iff.1 hcs2
  have hcs6 : cs6 = _ := hcs6; subst hcs6
  have hcs7 : cs7 = _ := hcs7; subst hcs7
  obtain ⟨v2, rfl, hRv2⟩ := hcs8
  have hs := Sep.start hi
  refine calls_of_WP (args := [Value.agg (List.toArray (α := Value) (([Value.int .i64 a1.Kind]) ++ ((a1.Set.1.map (Value.int .u64)) ++ ([v1])))), Value.agg (List.toArray (α := Value) (([Value.int .i64 b1.Kind]) ++ ((b1.Set.1.map (Value.int .u64)) ++ ([v2]))))]) Tryd.func18 rfl Tryd.ntmps18 rfl ?_
  have hds : (argEnv [Value.agg (List.toArray (α := Value) (([Value.int .i64 a1.Kind]) ++ ((a1.Set.1.map (Value.int .u64)) ++ ([v1])))), Value.agg (List.toArray (α := Value) (([Value.int .i64 b1.Kind]) ++ ((b1.Set.1.map (Value.int .u64)) ++ ([v2]))))]).ds = [] := rfl
  refine WP_seq ?_
  refine WP_region ?_
  refine OW_box (v := Value.agg (List.toArray (α := Value) (([Value.int .i64 a1.Kind]) ++ ((a1.Set.1.map (Value.int .u64)) ++ ([v1]))))) rfl hs (zs := ([Value.int .i64 a1.Kind]) ++ ((a1.Set.1.map (Value.int .u64)) ++ ([v1]))) rfl rfl ?_
  intro b2 wv1 hs
  refine OW_box (v := Value.agg (List.toArray (α := Value) (([Value.int .i64 b1.Kind]) ++ ((b1.Set.1.map (Value.int .u64)) ++ ([v2]))))) rfl hs (zs := ([Value.int .i64 b1.Kind]) ++ ((b1.Set.1.map (Value.int .u64)) ++ ([v2]))) rfl rfl ?_
  intro b3 wv2 hs
  refine O (r_assign (v := Value.bool false) rfl) rfl ?_
  refine OW_nil ?_
  refine WP_seq ?_
  obtain ⟨xv1, hx1, hKhx1⟩ := bindS hM
  refine WP_cut (fun E w => E 2 = Value.pointer (some ⟨b2, 0, none⟩) ∧ E 3 = Value.pointer (some ⟨b3, 0, none⟩) ∧ E 26 = Value.bool xv1 ∧ E.ds = [] ∧ Go.Lx.Sep g0 w0 g0 w [Go.Lx.box b3 27 (([Value.int .i64 b1.Kind]) ++ ((b1.Set.1.map (Value.int .u64)) ++ ([v2]))), Go.Lx.box b2 27 (([Value.int .i64 a1.Kind]) ++ ((a1.Set.1.map (Value.int .u64)) ++ ([v1])))]) ?_ ?_
  · have hM := hx1
    have hag0 := Hle.refl g0
    refine WP_region ?_
    refine O (r_fieldAddr Tryd.underlying27 ti3 rfl rfl (by decide) rfl rfl) rfl ?_
    refine O (r_load (v := Value.int .i64 a1.Kind) ti3 rfl (hs.cell (i := 1) (o := 0) rfl (by simp [a1.Set.2]))) rfl ?_
    refine O (r_fieldAddr Tryd.underlying27 ti3 rfl rfl (by decide) rfl rfl) rfl ?_
    refine O (r_load (v := Value.int .i64 b1.Kind) ti3 rfl (hs.cell (i := 0) (o := 0) rfl (by simp [b1.Set.2]))) rfl ?_
    refine O (r_neq rfl rfl) rfl ?_
    refine O (r_move (v := Value.bool (a1.Kind != b1.Kind)) rfl) rfl ?_
    rcases condS hM with ⟨hg3, hM⟩ | ⟨hg3, hM⟩
    · refine OK rfl rfl rfl (by rw [hg3]; rfl) rfl ?_
      refine OK rfl rfl rfl (by rw [hg3]; rfl) rfl ?_
      refine OK rfl rfl rfl (by rw [hg3]; rfl) rfl ?_
      refine OK rfl rfl rfl (by rw [hg3]; rfl) rfl ?_
      refine OK rfl rfl rfl (by rw [hg3]; rfl) rfl ?_
      refine O (r_pickT (v := Value.bool true) rfl hg3 rfl) rfl ?_
      refine O (r_move (v := Value.bool true) rfl) rfl ?_
      refine OK rfl rfl rfl rfl rfl ?_
      refine OK rfl rfl rfl rfl rfl ?_
      refine OK rfl rfl rfl rfl rfl ?_
      refine OK rfl rfl rfl rfl rfl ?_
      refine OK rfl rfl rfl rfl rfl ?_
      refine OK rfl rfl rfl rfl rfl ?_
      refine OK rfl rfl rfl rfl rfl ?_
      refine O (r_pickT (v := Value.bool true) rfl rfl rfl) rfl ?_
      refine OW_nil ?_
      obtain rfl := Option.some.inj hM
      exact ⟨rfl, rfl, rfl, hds, hs⟩
    · refine OG rfl rfl rfl (by rw [hg3]; rfl) (r_fieldAddr Tryd.underlying27 ti24 rfl rfl (by decide) rfl rfl) rfl ?_
      refine OG rfl rfl rfl (by rw [hg3]; rfl) (r_loadN (cs := a1.Set.1.map (Value.int .u64)) ti24 rfl (by simp [a1.Set.2]) (hs.cellsAt (i := 1) (o := 1) rfl (by intro j u hj; exact sub_at (pre := [Value.int .i64 a1.Kind]) (ds := a1.Set.1.map (Value.int .u64)) (post := [v1]) rfl ((by simp)) hj))) rfl ?_
      refine OG rfl rfl rfl (by rw [hg3]; rfl) (r_fieldAddr Tryd.underlying27 ti24 rfl rfl (by decide) rfl rfl) rfl ?_
      refine OG rfl rfl rfl (by rw [hg3]; rfl) (r_loadN (cs := b1.Set.1.map (Value.int .u64)) ti24 rfl (by simp [b1.Set.2]) (hs.cellsAt (i := 0) (o := 1) rfl (by intro j u hj; exact sub_at (pre := [Value.int .i64 b1.Kind]) (ds := b1.Set.1.map (Value.int .u64)) (post := [v2]) rfl ((by simp)) hj))) rfl ?_
      refine OG rfl rfl rfl (by rw [hg3]; rfl) (r_neqV Tryd.underlying24 Tryd.underlying22 ti22 rfl rfl eg24) rfl ?_
      refine O (r_pickF (v := Value.bool (a1.Set != b1.Set)) rfl hg3 rfl) rfl ?_
      refine O (r_move (v := Value.bool (a1.Set != b1.Set)) rfl) rfl ?_
      rcases condS hM with ⟨hg4, hM⟩ | ⟨hg4, hM⟩
      · refine OK rfl rfl rfl (by rw [hg4]; rfl) rfl ?_
        refine OK rfl rfl rfl (by rw [hg4]; rfl) rfl ?_
        refine OK rfl rfl rfl (by rw [hg4]; rfl) rfl ?_
        refine OK rfl rfl rfl (by rw [hg4]; rfl) rfl ?_
        refine OK rfl rfl rfl (by rw [hg4]; rfl) rfl ?_
        refine OK rfl rfl rfl (by rw [hg4]; rfl) rfl ?_
        refine OK rfl rfl rfl (by rw [hg4]; rfl) rfl ?_
        refine O (r_pickT (v := Value.bool true) rfl hg4 rfl) rfl ?_
        refine OW_nil ?_
        obtain rfl := Option.some.inj hM
        exact ⟨rfl, rfl, rfl, hds, hs⟩
      · refine OG rfl rfl rfl (by rw [hg4]; rfl) (r_fieldAddr Tryd.underlying27 ti25 rfl rfl (by decide) rfl rfl) rfl ?_
        refine OG rfl rfl rfl (by rw [hg4]; rfl) (r_load (v := v1) ti25 rfl (hs.cell (i := 1) (o := 5) rfl (by simp [a1.Set.2]))) rfl ?_
        obtain ⟨a4, ca4, hva4⟩ := hRv1.shape
        refine OG rfl rfl rfl (by rw [hg4]; rfl) (r_lenSl (v := v1) Tryd.underlying25 rfl hva4) rfl ?_
        refine OG rfl rfl rfl (by rw [hg4]; rfl) (r_fieldAddr Tryd.underlying27 ti25 rfl rfl (by decide) rfl rfl) rfl ?_
        refine OG rfl rfl rfl (by rw [hg4]; rfl) (r_load (v := v2) ti25 rfl (hs.cell (i := 0) (o := 5) rfl (by simp [b1.Set.2]))) rfl ?_
        obtain ⟨a5, ca5, hva5⟩ := hRv2.shape
        refine OG rfl rfl rfl (by rw [hg4]; rfl) (r_lenSl (v := v2) Tryd.underlying25 rfl hva5) rfl ?_
        refine OG rfl rfl rfl (by rw [hg4]; rfl) (r_neq rfl rfl) rfl ?_
        refine O (r_pickF (v := Value.bool ((a1.Kids.length : Int) != (b1.Kids.length : Int))) rfl hg4 rfl) rfl ?_
        refine OW_nil ?_
        obtain rfl := Option.some.inj hM
        exact ⟨rfl, rfl, rfl, hds, hs⟩
  · clear hs
    rintro E w ⟨hE2, hE3, hE26, hds, hs⟩
    have hM := hKhx1
    obtain ⟨E, rfl⟩ := open1 (E := E) hE2
    obtain ⟨E, rfl⟩ := open1 (E := E) hE3
    obtain ⟨E, rfl⟩ := open1 (E := E) hE26
    rcases condS hM with ⟨hc1, hM⟩ | ⟨hc1, hM⟩
    · refine WP_true rfl hc1 ?_
      refine WP_seq ?_
      refine WP_region ?_
      refine O (r_assign (v := Value.bool false) rfl) rfl ?_
      refine OW_nil ?_
      refine WP_ret ?_
      obtain rfl := Option.some.inj hM
      refine FL_nil hds ?_
      exact ⟨_, res1 Tryd.results18 (rv_tmp (v := Value.bool false) rfl), g0, ⟨[Value.bool false], rfl, rfl⟩, hs.ext⟩
    · refine WP_false rfl hc1 ?_
      refine WP_skip ?_
      obtain ⟨o3, hx2, hKhx2⟩ := stepS hM
      refine WP_cut (fun E w => ∃ u9 : Unit, o3 = .next u9 ∧ ∃ (gg7 : Hp), E.ds = [] ∧ Hle g0 gg7 ∧ Go.Lx.Sep g0 w0 gg7 w []) ?_ ?_
      · have hM := hx2
        have hag0 := Hle.refl g0
        refine WP_seq ?_
        refine WP_region ?_
        refine O (r_assign (v := Value.int .i64 0) rfl) rfl ?_
        refine OW_nil ?_
        refine WP_block ?_
        refine WP_loop (fun (i5 : Int) E w => ∃ (gg10 : Hp), E 2 = Value.pointer (some ⟨b2, 0, none⟩) ∧ E 3 = Value.pointer (some ⟨b3, 0, none⟩) ∧ E 5 = Value.int .i64 i5 ∧ E.ds = [] ∧ Hle g0 gg10 ∧ Go.Lx.Sep g0 w0 gg10 w [Go.Lx.box b3 27 (([Value.int .i64 b1.Kind]) ++ ((b1.Set.1.map (Value.int .u64)) ++ ([v2]))), Go.Lx.box b2 27 (([Value.int .i64 a1.Kind]) ++ ((a1.Set.1.map (Value.int .u64)) ++ ([v1])))]) hM ⟨g0, rfl, rfl, rfl, hds, (Hle.refl _), hs⟩ ?_
        clear hs hM
        rintro i5 o2 E w hM ⟨gg10, hE2, hE3, hE5, hds, hlegg10, hs⟩
        obtain ⟨E, rfl⟩ := open1 (E := E) hE2
        obtain ⟨E, rfl⟩ := open1 (E := E) hE3
        obtain ⟨E, rfl⟩ := open1 (E := E) hE5
        replace hRv1 := hRv1.mono hlegg10
        replace hRv2 := hRv2.mono hlegg10
        replace hag0 := hag0.trans hlegg10
        have hagg10 := Hle.refl gg10
        refine WP_seq ?_
        refine WP_seq ?_
        refine WP_region ?_
        refine O (r_move (v := Value.int .i64 i5) rfl) rfl ?_
        refine O (r_fieldAddr Tryd.underlying27 ti25 rfl rfl (by decide) rfl rfl) rfl ?_
        refine O (r_load (v := v1) ti25 rfl (hs.cell (i := 1) (o := 5) rfl (by simp [a1.Set.2]))) rfl ?_
        obtain ⟨a11, ca11, hva11⟩ := hRv1.shape
        refine O (r_lenSl (v := v1) Tryd.underlying25 rfl hva11) rfl ?_
        refine O (r_lss rfl rfl) rfl ?_
        refine OW_nil ?_
        rcases condS hM with ⟨hc12, hM⟩ | ⟨hc12, hM⟩
        · refine WP_true rfl hc12 ?_
          refine WP_skip ?_
          refine WP_seq ?_
          refine WP_block ?_
          refine WP_seq ?_
          refine WP_drawTail 10 mo (by decide +kernel) ?_
          have hs := hs.drew
          refine S (r_fieldAddr Tryd.underlying27 ti25 rfl rfl (by decide) rfl rfl) rfl ?_
          refine S (r_load (v := v1) ti25 rfl (hs.cell (i := 1) (o := 5) rfl (by simp [a1.Set.2]))) rfl ?_
          refine S (r_move (v := Value.int .i64 i5) rfl) rfl ?_
          obtain ⟨e11, he11, hM⟩ := bindS hM
          obtain ⟨b14, ob14, cb14, hvb14, cs54, hcs54, hcb14⟩ := hRv1.at he11
          obtain ⟨cs55, cs56, cs57, rfl, hcs55, hcs56, hcs57⟩ := tT_Regex_iff.1 hcs54
          have hcs55 : cs55 = _ := hcs55; subst hcs55
          have hcs56 : cs56 = _ := hcs56; subst hcs56
          obtain ⟨v18, rfl, hRv18⟩ := hcs57
          refine S (r_idxSl Tryd.underlying25 ti27 (v := v1) rfl hvb14 rfl (idxL_some he11).1 (idxL_some he11).2.1) rfl ?_
          refine S (r_loadEl (cs := ([Value.int .i64 e11.Kind]) ++ ((e11.Set.1.map (Value.int .u64)) ++ ([v18]))) ti27 rfl (by simp [e11.Set.2]) (.inl rfl) (hcb14 _ hs.imm) (v := Value.agg (List.toArray (α := Value) (([Value.int .i64 e11.Kind]) ++ ((e11.Set.1.map (Value.int .u64)) ++ ([v18]))))) rfl) rfl ?_
          refine S (r_fieldAddr Tryd.underlying27 ti25 rfl rfl (by decide) rfl rfl) rfl ?_
          refine S (r_load (v := v2) ti25 rfl (hs.cell (i := 0) (o := 5) rfl (by simp [b1.Set.2]))) rfl ?_
          refine S (r_move (v := Value.int .i64 i5) rfl) rfl ?_
          obtain ⟨e12, he12, hM⟩ := bindS hM
          obtain ⟨b15, ob15, cb15, hvb15, cs58, hcs58, hcb15⟩ := hRv2.at he12
          obtain ⟨cs59, cs60, cs61, rfl, hcs59, hcs60, hcs61⟩ := tT_Regex_iff.1 hcs58
          have hcs59 : cs59 = _ := hcs59; subst hcs59
          have hcs60 : cs60 = _ := hcs60; subst hcs60
          obtain ⟨v19, rfl, hRv19⟩ := hcs61
          refine S (r_idxSl Tryd.underlying25 ti27 (v := v2) rfl hvb15 rfl (idxL_some he12).1 (idxL_some he12).2.1) rfl ?_
          refine S (r_loadEl (cs := ([Value.int .i64 e12.Kind]) ++ ((e12.Set.1.map (Value.int .u64)) ++ ([v19]))) ti27 rfl (by simp [e12.Set.2]) (.inl rfl) (hcb15 _ hs.imm) (v := Value.agg (List.toArray (α := Value) (([Value.int .i64 e12.Kind]) ++ ((e12.Set.1.map (Value.int .u64)) ++ ([v19]))))) rfl) rfl ?_
          refine SW_nil ?_
          obtain ⟨rv6, hrv6, hM⟩ := bindS hM
          refine C [Value.agg (List.toArray (α := Value) (([Value.int .i64 e11.Kind]) ++ ((e11.Set.1.map (Value.int .u64)) ++ ([v18])))), Value.agg (List.toArray (α := Value) (([Value.int .i64 e12.Kind]) ++ ((e12.Set.1.map (Value.int .u64)) ++ ([v19]))))] cf18 rfl (ih_ref08_Equal hrv6 hs.imm (tT_Regex_iff.2 ⟨[Value.int .i64 e11.Kind], e11.Set.1.map (Value.int .u64), [v18], rfl, rfl, rfl, ⟨_, rfl, hRv18⟩⟩) (tT_Regex_iff.2 ⟨[Value.int .i64 e12.Kind], e12.Set.1.map (Value.int .u64), [v19], rfl, rfl, rfl, ⟨_, rfl, hRv19⟩⟩)) rfl ?_
          rintro v20 wv8 ⟨gg13, hvv20, hegg13⟩
          have hlegg13 := hegg13.le hs.imm
          replace hs := hs.call hegg13
          replace hRv1 := hRv1.mono hlegg13
          replace hRv2 := hRv2.mono hlegg13
          replace hRv18 := hRv18.mono hlegg13
          replace hRv19 := hRv19.mono hlegg13
          replace hlegg10 := hlegg10.trans hlegg13
          replace hagg10 := hagg10.trans hlegg13
          obtain ⟨cs62, rfl, hcs62⟩ := hvv20
          have hcs62 : cs62 = _ := hcs62; subst hcs62
          refine O (r_not rfl) rfl ?_
          refine OW_nil ?_
          rcases condS hM with ⟨hc13, hM⟩ | ⟨hc13, hM⟩
          · refine WP_true rfl hc13 ?_
            refine WP_seq ?_
            refine WP_region ?_
            refine O (r_assign (v := Value.bool false) rfl) rfl ?_
            refine OW_nil ?_
            refine WP_ret ?_
            obtain rfl := Option.some.inj hM
            refine fun hr => ?_
            have hM := congrArg some hr
            obtain rfl := Option.some.inj hM
            have hM := hKhx2
            obtain rfl := Option.some.inj hM
            refine FL_nil hds ?_
            exact ⟨_, res1 Tryd.results18 (rv_tmp (v := Value.bool false) rfl), gg13, ⟨[Value.bool false], rfl, rfl⟩, hs.ext⟩
          · refine WP_false rfl hc13 ?_
            refine WP_skip ?_
            refine WP_region ?_
            refine O (r_move (v := Value.int .i64 i5) rfl) rfl ?_
            obtain ⟨t6, ht6, hM⟩ := bindS hM
            refine O (r_addM rfl rfl ht6) rfl ?_
            refine O (r_assign (v := Value.int .i64 t6) rfl) rfl ?_
            refine OW_nil ?_
            obtain rfl := Option.some.inj hM
            exact ⟨gg13, rfl, rfl, rfl, hds, hlegg10, hs⟩
        · refine WP_false rfl hc12 ?_
          refine WP_exit ?_
          obtain rfl := Option.some.inj hM
          refine fun hr => ?_
          have hM := congrArg some hr
          obtain rfl := Option.some.inj hM
          exact ⟨(), rfl, gg10, hds, hlegg10, (hs.sub (.cons _ (.cons _ .slnil)))⟩
      · clear hs
        rintro E w ⟨_, rfl, gg7, hds, hlegg7, hs⟩
        have hM := hKhx2
        dsimp only [onStep] at hM
        refine WP_seq ?_
        refine WP_region ?_
        refine O (r_assign (v := Value.bool true) rfl) rfl ?_
        refine OW_nil ?_
        refine WP_ret ?_
        obtain rfl := Option.some.inj hM
        refine FL_nil hds ?_
        exact ⟨_, res1 Tryd.results18 (rv_tmp (v := Value.bool true) rfl), gg7, ⟨[Value.bool true], rfl, rfl⟩, hs.ext⟩
theorem ref08_Equal_zero : C.ref08_Equal 0 := by
  unfold C.ref08_Equal
  intros
  simp_all only [M.ref08_Equal, reduceCtorEq]
theorem ref08_Equal_all : ∀ fl, C.ref08_Equal fl := by
  intro fl
  induction fl with
  | zero => exact ref08_Equal_zero
  | succ fl ih =>
    exact ref08_Equal_step ih
theorem ref08_Equal_ok {fl : Nat} : C.ref08_Equal fl := (ref08_Equal_all fl)

set_option maxRecDepth 100000 in
theorem ref08_parser_next_ok {p1 : T_ref08_parser} {r : Int} (hM : M.ref08_parser_next p1 = some r) {g0 : Hp} {w0 : World} {gi : Hp} {wi : World} {Lt : List Res} {b1 : Nat} (hs : Sep g0 w0 gi wi (Go.Lx.box b1 52 ([encS p1.s, Value.int .i64 p1.atv, Value.bool p1.bad]) :: Lt)) :
    CallsV Tryd.prog 51 #[Value.pointer (some ⟨b1, 0, none⟩)] wi (fun v w' => ∃ g', (VRd (tInt .i64) false g' v r) ∧ Hle gi g' ∧ Sep g0 w0 g' w' (Go.Lx.box b1 52 ([encS p1.s, Value.int .i64 p1.atv, Value.bool p1.bad]) :: Lt)) := by
  unfold M.ref08_parser_next at hM
  have hagi := Hle.refl gi
  refine calls_of_WP (args := [Value.pointer (some ⟨b1, 0, none⟩)]) Tryd.func51 rfl Tryd.ntmps51 rfl ?_
  have hds : (argEnv [Value.pointer (some ⟨b1, 0, none⟩)]).ds = [] := rfl
  refine WP_seq ?_
  refine WP_region ?_
  refine O (r_assign (v := Value.int .i64 0) rfl) rfl ?_
  refine OW_nil ?_
  refine WP_seq ?_
  refine WP_seq ?_
  refine WP_draw mo (by decide +kernel) ?_
  have hs := hs.drew
  refine S (r_move (v := Value.pointer (some ⟨b1, 0, none⟩)) rfl) rfl ?_
  refine S (r_nilCheck rfl) rfl ?_
  refine S (r_fieldAddr Tryd.underlying52 ti3 rfl rfl (by decide) rfl rfl) rfl ?_
  refine S (r_load (v := Value.int .i64 p1.atv) ti3 rfl (hs.cell (i := 0) (o := 1) rfl rfl)) rfl ?_
  refine S (r_move (v := Value.pointer (some ⟨b1, 0, none⟩)) rfl) rfl ?_
  refine S (r_nilCheck rfl) rfl ?_
  refine S (r_fieldAddr Tryd.underlying52 ti9 rfl rfl (by decide) rfl rfl) rfl ?_
  refine S (r_load (v := encS p1.s) ti9 rfl (hs.cell (i := 0) (o := 0) rfl rfl)) rfl ?_
  refine S (r_lenStr Tryd.underlying9 rfl) rfl ?_
  refine S (r_geq rfl rfl) rfl ?_
  refine SW_nil ?_
  rcases condS hM with ⟨hc1, hM⟩ | ⟨hc1, hM⟩
  · refine WP_true rfl hc1 ?_
    refine WP_seq ?_
    refine WP_region ?_
    refine O (r_assign (v := Value.int .i64 (-1)) rfl) rfl ?_
    refine OW_nil ?_
    refine WP_ret ?_
    obtain rfl := Option.some.inj hM
    refine FL_nil hds ?_
    exact ⟨_, res1 Tryd.results51 (rv_tmp (v := Value.int .i64 (-1)) rfl), gi, ⟨[Value.int .i64 (-1)], rfl, rfl⟩, (Hle.refl _), hs⟩
  · refine WP_false rfl hc1 ?_
    refine WP_skip ?_
    refine WP_seq ?_
    refine WP_draw mo (by decide +kernel) ?_
    have hs := hs.drew
    refine S (r_move (v := Value.pointer (some ⟨b1, 0, none⟩)) rfl) rfl ?_
    refine S (r_nilCheck rfl) rfl ?_
    refine S (r_fieldAddr Tryd.underlying52 ti9 rfl rfl (by decide) rfl rfl) rfl ?_
    refine S (r_load (v := encS p1.s) ti9 rfl (hs.cell (i := 0) (o := 0) rfl rfl)) rfl ?_
    refine S (r_move (v := Value.pointer (some ⟨b1, 0, none⟩)) rfl) rfl ?_
    refine S (r_nilCheck rfl) rfl ?_
    refine S (r_fieldAddr Tryd.underlying52 ti3 rfl rfl (by decide) rfl rfl) rfl ?_
    refine S (r_load (v := Value.int .i64 p1.atv) ti3 rfl (hs.cell (i := 0) (o := 1) rfl rfl)) rfl ?_
    obtain ⟨c1, hc1, hM⟩ := bindS hM
    refine S (r_idxStr Tryd.underlying9 rfl rfl hc1) rfl ?_
    refine S (r_conv Tryd.underlying5 Tryd.underlying3 rfl) rfl ?_
    refine S (r_assign (v := Value.int .i64 (IntKind.i64.wrap c1)) rfl) rfl ?_
    refine SW_nil ?_
    refine WP_ret ?_
    obtain rfl := Option.some.inj hM
    refine FL_nil hds ?_
    exact ⟨_, res1 Tryd.results51 (rv_tmp (v := Value.int .i64 (IntKind.i64.wrap c1)) rfl), gi, ⟨[Value.int .i64 (IntKind.i64.wrap c1)], rfl, rfl⟩, (Hle.refl _), hs⟩

set_option maxRecDepth 100000 in
theorem ref08_letter_ok {b1 : Int} {r : Bool} (hM : M.ref08_letter b1 = some r) {g0 : Hp} {w0 : World} (hi : Imm g0 w0) :
    CallsV Tryd.prog 93 #[Value.int .i64 b1] w0 (fun v w' => ∃ g', (VRd tBool false g' v r) ∧ Ext g0 w0 g' w') := by
  unfold M.ref08_letter at hM
  have hs := Sep.start hi
  refine calls_of_WP (args := [Value.int .i64 b1]) Tryd.func93 rfl Tryd.ntmps93 rfl ?_
  have hds : (argEnv [Value.int .i64 b1]).ds = [] := rfl
  refine WP_seq ?_
  refine WP_region ?_
  refine O (r_assign (v := Value.bool false) rfl) rfl ?_
  refine OW_nil ?_
  obtain ⟨xv1, hx1, hKhx1⟩ := bindS hM
  refine WP_cut (fun E w => E 2 = Value.bool xv1 ∧ E.ds = [] ∧ Go.Lx.Sep g0 w0 g0 w []) ?_ ?_
  · have hM := hx1
    have hag0 := Hle.refl g0
    refine WP_region ?_
    refine O (r_move (v := Value.int .i64 b1) rfl) rfl ?_
    refine O (r_geq rfl rfl) rfl ?_
    refine O (r_move (v := Value.bool (decide (48 ≤ b1))) rfl) rfl ?_
    rcases condS hM with ⟨hg11, hM⟩ | ⟨hg11, hM⟩
    · refine OG rfl rfl rfl (by rw [hg11]; rfl) (r_move (v := Value.int .i64 b1) rfl) rfl ?_
      refine OG rfl rfl rfl (by rw [hg11]; rfl) (r_leq rfl rfl) rfl ?_
      refine O (r_pickT (v := Value.bool (decide (b1 ≤ 57))) rfl hg11 rfl) rfl ?_
      refine O (r_move (v := Value.bool (decide (b1 ≤ 57))) rfl) rfl ?_
      rcases condS hM with ⟨hg12, hM⟩ | ⟨hg12, hM⟩
      · refine OK rfl rfl rfl (by rw [hg12]; rfl) rfl ?_
        refine OK rfl rfl rfl (by rw [hg12]; rfl) rfl ?_
        refine OK rfl rfl rfl (by rw [hg12]; rfl) rfl ?_
        refine OKU rfl rfl rfl rfl ?_
        refine OKU rfl rfl rfl rfl ?_
        refine OK rfl rfl rfl (by rw [hg12]; rfl) rfl ?_
        refine O (r_pickT (v := Value.bool true) rfl hg12 rfl) rfl ?_
        refine O (r_move (v := Value.bool true) rfl) rfl ?_
        refine OK rfl rfl rfl rfl rfl ?_
        refine OK rfl rfl rfl rfl rfl ?_
        refine OK rfl rfl rfl rfl rfl ?_
        refine OKU rfl rfl rfl rfl ?_
        refine OKU rfl rfl rfl rfl ?_
        refine OK rfl rfl rfl rfl rfl ?_
        refine O (r_pickT (v := Value.bool true) rfl rfl rfl) rfl ?_
        refine O (r_assign (v := Value.bool true) rfl) rfl ?_
        refine OW_nil ?_
        obtain rfl := Option.some.inj hM
        exact ⟨rfl, hds, hs⟩
      · refine OG rfl rfl rfl (by rw [hg12]; rfl) (r_move (v := Value.int .i64 b1) rfl) rfl ?_
        refine OG rfl rfl rfl (by rw [hg12]; rfl) (r_geq rfl rfl) rfl ?_
        refine OG rfl rfl rfl (by rw [hg12]; rfl) (r_move (v := Value.bool (decide (97 ≤ b1))) rfl) rfl ?_
        rcases condS hM with ⟨hg13, hM⟩ | ⟨hg13, hM⟩
        · refine OG rfl rfl rfl (by rw [hg13]; rfl) (r_move (v := Value.int .i64 b1) rfl) rfl ?_
          refine OG rfl rfl rfl (by rw [hg13]; rfl) (r_leq rfl rfl) rfl ?_
          refine OG rfl rfl rfl (by rw [hg12]; rfl) (r_pickT (v := Value.bool (decide (b1 ≤ 122))) rfl hg13 rfl) rfl ?_
          refine O (r_pickF (v := Value.bool (decide (b1 ≤ 122))) rfl hg12 rfl) rfl ?_
          refine O (r_move (v := Value.bool (decide (b1 ≤ 122))) rfl) rfl ?_
          rcases condS hM with ⟨hg14, hM⟩ | ⟨hg14, hM⟩
          · refine OK rfl rfl rfl (by rw [hg14]; rfl) rfl ?_
            refine OK rfl rfl rfl (by rw [hg14]; rfl) rfl ?_
            refine OK rfl rfl rfl (by rw [hg14]; rfl) rfl ?_
            refine OKU rfl rfl rfl rfl ?_
            refine OKU rfl rfl rfl rfl ?_
            refine OK rfl rfl rfl (by rw [hg14]; rfl) rfl ?_
            refine O (r_pickT (v := Value.bool true) rfl hg14 rfl) rfl ?_
            refine O (r_assign (v := Value.bool true) rfl) rfl ?_
            refine OW_nil ?_
            obtain rfl := Option.some.inj hM
            exact ⟨rfl, hds, hs⟩
          · refine OG rfl rfl rfl (by rw [hg14]; rfl) (r_move (v := Value.int .i64 b1) rfl) rfl ?_
            refine OG rfl rfl rfl (by rw [hg14]; rfl) (r_geq rfl rfl) rfl ?_
            refine OG rfl rfl rfl (by rw [hg14]; rfl) (r_move (v := Value.bool (decide (65 ≤ b1))) rfl) rfl ?_
            rcases condS hM with ⟨hg15, hM⟩ | ⟨hg15, hM⟩
            · refine OG rfl rfl rfl (by rw [hg15]; rfl) (r_move (v := Value.int .i64 b1) rfl) rfl ?_
              refine OG rfl rfl rfl (by rw [hg15]; rfl) (r_leq rfl rfl) rfl ?_
              refine OG rfl rfl rfl (by rw [hg14]; rfl) (r_pickT (v := Value.bool (decide (b1 ≤ 90))) rfl hg15 rfl) rfl ?_
              refine O (r_pickF (v := Value.bool (decide (b1 ≤ 90))) rfl hg14 rfl) rfl ?_
              refine O (r_assign (v := Value.bool (decide (b1 ≤ 90))) rfl) rfl ?_
              refine OW_nil ?_
              obtain rfl := Option.some.inj hM
              exact ⟨rfl, hds, hs⟩
            · refine OK rfl rfl rfl (by rw [hg15]; rfl) rfl ?_
              refine OK rfl rfl rfl (by rw [hg15]; rfl) rfl ?_
              refine OG rfl rfl rfl (by rw [hg14]; rfl) (r_pickF (v := Value.bool false) rfl hg15 rfl) rfl ?_
              refine O (r_pickF (v := Value.bool false) rfl hg14 rfl) rfl ?_
              refine O (r_assign (v := Value.bool false) rfl) rfl ?_
              refine OW_nil ?_
              obtain rfl := Option.some.inj hM
              exact ⟨rfl, hds, hs⟩
        · refine OK rfl rfl rfl (by rw [hg13]; rfl) rfl ?_
          refine OK rfl rfl rfl (by rw [hg13]; rfl) rfl ?_
          refine OG rfl rfl rfl (by rw [hg12]; rfl) (r_pickF (v := Value.bool false) rfl hg13 rfl) rfl ?_
          refine O (r_pickF (v := Value.bool false) rfl hg12 rfl) rfl ?_
          refine O (r_move (v := Value.bool false) rfl) rfl ?_
          refine OG rfl rfl rfl rfl (r_move (v := Value.int .i64 b1) rfl) rfl ?_
          refine OG rfl rfl rfl rfl (r_geq rfl rfl) rfl ?_
          refine OG rfl rfl rfl rfl (r_move (v := Value.bool (decide (65 ≤ b1))) rfl) rfl ?_
          rcases condS hM with ⟨hg16, hM⟩ | ⟨hg16, hM⟩
          · refine OG rfl rfl rfl (by rw [hg16]; rfl) (r_move (v := Value.int .i64 b1) rfl) rfl ?_
            refine OG rfl rfl rfl (by rw [hg16]; rfl) (r_leq rfl rfl) rfl ?_
            refine OG rfl rfl rfl rfl (r_pickT (v := Value.bool (decide (b1 ≤ 90))) rfl hg16 rfl) rfl ?_
            refine O (r_pickF (v := Value.bool (decide (b1 ≤ 90))) rfl rfl rfl) rfl ?_
            refine O (r_assign (v := Value.bool (decide (b1 ≤ 90))) rfl) rfl ?_
            refine OW_nil ?_
            obtain rfl := Option.some.inj hM
            exact ⟨rfl, hds, hs⟩
          · refine OK rfl rfl rfl (by rw [hg16]; rfl) rfl ?_
            refine OK rfl rfl rfl (by rw [hg16]; rfl) rfl ?_
            refine OG rfl rfl rfl rfl (r_pickF (v := Value.bool false) rfl hg16 rfl) rfl ?_
            refine O (r_pickF (v := Value.bool false) rfl rfl rfl) rfl ?_
            refine O (r_assign (v := Value.bool false) rfl) rfl ?_
            refine OW_nil ?_
            obtain rfl := Option.some.inj hM
            exact ⟨rfl, hds, hs⟩
    · refine OK rfl rfl rfl (by rw [hg11]; rfl) rfl ?_
      refine OK rfl rfl rfl (by rw [hg11]; rfl) rfl ?_
      refine O (r_pickF (v := Value.bool false) rfl hg11 rfl) rfl ?_
      refine O (r_move (v := Value.bool false) rfl) rfl ?_
      refine OG rfl rfl rfl rfl (r_move (v := Value.int .i64 b1) rfl) rfl ?_
      refine OG rfl rfl rfl rfl (r_geq rfl rfl) rfl ?_
      refine OG rfl rfl rfl rfl (r_move (v := Value.bool (decide (97 ≤ b1))) rfl) rfl ?_
      rcases condS hM with ⟨hg17, hM⟩ | ⟨hg17, hM⟩
      · refine OG rfl rfl rfl (by rw [hg17]; rfl) (r_move (v := Value.int .i64 b1) rfl) rfl ?_
        refine OG rfl rfl rfl (by rw [hg17]; rfl) (r_leq rfl rfl) rfl ?_
        refine OG rfl rfl rfl rfl (r_pickT (v := Value.bool (decide (b1 ≤ 122))) rfl hg17 rfl) rfl ?_
        refine O (r_pickF (v := Value.bool (decide (b1 ≤ 122))) rfl rfl rfl) rfl ?_
        refine O (r_move (v := Value.bool (decide (b1 ≤ 122))) rfl) rfl ?_
        rcases condS hM with ⟨hg18, hM⟩ | ⟨hg18, hM⟩
        · refine OK rfl rfl rfl (by rw [hg18]; rfl) rfl ?_
          refine OK rfl rfl rfl (by rw [hg18]; rfl) rfl ?_
          refine OK rfl rfl rfl (by rw [hg18]; rfl) rfl ?_
          refine OKU rfl rfl rfl rfl ?_
          refine OKU rfl rfl rfl rfl ?_
          refine OK rfl rfl rfl (by rw [hg18]; rfl) rfl ?_
          refine O (r_pickT (v := Value.bool true) rfl hg18 rfl) rfl ?_
          refine O (r_assign (v := Value.bool true) rfl) rfl ?_
          refine OW_nil ?_
          obtain rfl := Option.some.inj hM
          exact ⟨rfl, hds, hs⟩
        · refine OG rfl rfl rfl (by rw [hg18]; rfl) (r_move (v := Value.int .i64 b1) rfl) rfl ?_
          refine OG rfl rfl rfl (by rw [hg18]; rfl) (r_geq rfl rfl) rfl ?_
          refine OG rfl rfl rfl (by rw [hg18]; rfl) (r_move (v := Value.bool (decide (65 ≤ b1))) rfl) rfl ?_
          rcases condS hM with ⟨hg19, hM⟩ | ⟨hg19, hM⟩
          · refine OG rfl rfl rfl (by rw [hg19]; rfl) (r_move (v := Value.int .i64 b1) rfl) rfl ?_
            refine OG rfl rfl rfl (by rw [hg19]; rfl) (r_leq rfl rfl) rfl ?_
            refine OG rfl rfl rfl (by rw [hg18]; rfl) (r_pickT (v := Value.bool (decide (b1 ≤ 90))) rfl hg19 rfl) rfl ?_
            refine O (r_pickF (v := Value.bool (decide (b1 ≤ 90))) rfl hg18 rfl) rfl ?_
            refine O (r_assign (v := Value.bool (decide (b1 ≤ 90))) rfl) rfl ?_
            refine OW_nil ?_
            obtain rfl := Option.some.inj hM
            exact ⟨rfl, hds, hs⟩
          · refine OK rfl rfl rfl (by rw [hg19]; rfl) rfl ?_
            refine OK rfl rfl rfl (by rw [hg19]; rfl) rfl ?_
            refine OG rfl rfl rfl (by rw [hg18]; rfl) (r_pickF (v := Value.bool false) rfl hg19 rfl) rfl ?_
            refine O (r_pickF (v := Value.bool false) rfl hg18 rfl) rfl ?_
            refine O (r_assign (v := Value.bool false) rfl) rfl ?_
            refine OW_nil ?_
            obtain rfl := Option.some.inj hM
            exact ⟨rfl, hds, hs⟩
      · refine OK rfl rfl rfl (by rw [hg17]; rfl) rfl ?_
        refine OK rfl rfl rfl (by rw [hg17]; rfl) rfl ?_
        refine OG rfl rfl rfl rfl (r_pickF (v := Value.bool false) rfl hg17 rfl) rfl ?_
        refine O (r_pickF (v := Value.bool false) rfl rfl rfl) rfl ?_
        refine O (r_move (v := Value.bool false) rfl) rfl ?_
        refine OG rfl rfl rfl rfl (r_move (v := Value.int .i64 b1) rfl) rfl ?_
        refine OG rfl rfl rfl rfl (r_geq rfl rfl) rfl ?_
        refine OG rfl rfl rfl rfl (r_move (v := Value.bool (decide (65 ≤ b1))) rfl) rfl ?_
        rcases condS hM with ⟨hg20, hM⟩ | ⟨hg20, hM⟩
        · refine OG rfl rfl rfl (by rw [hg20]; rfl) (r_move (v := Value.int .i64 b1) rfl) rfl ?_
          refine OG rfl rfl rfl (by rw [hg20]; rfl) (r_leq rfl rfl) rfl ?_
          refine OG rfl rfl rfl rfl (r_pickT (v := Value.bool (decide (b1 ≤ 90))) rfl hg20 rfl) rfl ?_
          refine O (r_pickF (v := Value.bool (decide (b1 ≤ 90))) rfl rfl rfl) rfl ?_
          refine O (r_assign (v := Value.bool (decide (b1 ≤ 90))) rfl) rfl ?_
          refine OW_nil ?_
          obtain rfl := Option.some.inj hM
          exact ⟨rfl, hds, hs⟩
        · refine OK rfl rfl rfl (by rw [hg20]; rfl) rfl ?_
          refine OK rfl rfl rfl (by rw [hg20]; rfl) rfl ?_
          refine OG rfl rfl rfl rfl (r_pickF (v := Value.bool false) rfl hg20 rfl) rfl ?_
          refine O (r_pickF (v := Value.bool false) rfl rfl rfl) rfl ?_
          refine O (r_assign (v := Value.bool false) rfl) rfl ?_
          refine OW_nil ?_
          obtain rfl := Option.some.inj hM
          exact ⟨rfl, hds, hs⟩
  · clear hs
    rintro E w ⟨hE2, hds, hs⟩
    have hM := hKhx1
    obtain ⟨E, rfl⟩ := open1 (E := E) hE2
    refine WP_ret ?_
    obtain rfl := Option.some.inj hM
    refine FL_nil hds ?_
    exact ⟨_, res1 Tryd.results93 (rv_tmp (v := Value.bool xv1) rfl), g0, ⟨[Value.bool xv1], rfl, rfl⟩, hs.ext⟩

set_option maxRecDepth 100000 in
theorem ref08_parser_char_ok {p1 : T_ref08_parser} {p2 : Bool} {r : Int × T_ref08_parser} (hM : M.ref08_parser_char p1 p2 = some r) {g0 : Hp} {w0 : World} {gi : Hp} {wi : World} {Lt : List Res} {b1 : Nat} (hs : Sep g0 w0 gi wi (Go.Lx.box b1 52 ([encS p1.s, Value.int .i64 p1.atv, Value.bool p1.bad]) :: Lt)) :
    CallsV Tryd.prog 88 #[Value.pointer (some ⟨b1, 0, none⟩), Value.bool p2] wi (fun v w' => ∃ g', (VRd (tInt .i64) false g' v r.1) ∧ Hle gi g' ∧ Sep g0 w0 g' w' (Go.Lx.box b1 52 ([encS r.2.s, Value.int .i64 r.2.atv, Value.bool r.2.bad]) :: Lt)) := by
  unfold M.ref08_parser_char at hM
  have hagi := Hle.refl gi
  refine calls_of_WP (args := [Value.pointer (some ⟨b1, 0, none⟩), Value.bool p2]) Tryd.func88 rfl Tryd.ntmps88 rfl ?_
  have hds : (argEnv [Value.pointer (some ⟨b1, 0, none⟩), Value.bool p2]).ds = [] := rfl
  refine WP_seq ?_
  refine WP_region ?_
  refine O (r_assign (v := Value.int .i64 0) rfl) rfl ?_
  refine OW_nil ?_
  refine WP_seq ?_
  refine WP_region ?_
  refine O (r_move (v := Value.pointer (some ⟨b1, 0, none⟩)) rfl) rfl ?_
  obtain ⟨rv1, hrv1, hM⟩ := bindS hM
  refine C [Value.pointer (some ⟨b1, 0, none⟩)] cf51 rfl (ref08_parser_next_ok hrv1 hs) rfl ?_
  rintro v1 wv1 ⟨gg1, hvv1, hlegg1, hs⟩
  replace hagi := hagi.trans hlegg1
  obtain ⟨cs1, rfl, hcs1⟩ := hvv1
  have hcs1 : cs1 = _ := hcs1; subst hcs1
  refine O (r_assign (v := Value.int .i64 rv1) rfl) rfl ?_
  refine OW_nil ?_
  refine WP_seq ?_
  refine WP_seq ?_
  refine WP_region ?_
  refine O (r_move (v := Value.int .i64 rv1) rfl) rfl ?_
  refine O (r_eql rfl rfl) rfl ?_
  refine OW_nil ?_
  rcases condS hM with ⟨hc1, hM⟩ | ⟨hc1, hM⟩
  · refine WP_true rfl hc1 ?_
    refine WP_seq ?_
    refine WP_region ?_
    refine O (r_move (v := Value.pointer (some ⟨b1, 0, none⟩)) rfl) rfl ?_
    refine O (r_nilCheck rfl) rfl ?_
    refine O (r_fieldAddr Tryd.underlying52 ti3 rfl rfl (by decide) rfl rfl) rfl ?_
    refine O (r_load (v := Value.int .i64 p1.atv) ti3 rfl (hs.cell (i := 0) (o := 1) rfl rfl)) rfl ?_
    obtain ⟨t1, ht1, hM⟩ := bindS hM
    refine O (r_addM rfl rfl ht1) rfl ?_
    refine O (r_nilCheck rfl) rfl ?_
    refine O (r_fieldAddr Tryd.underlying52 ti3 rfl rfl (by decide) rfl rfl) rfl ?_
    refine OW_store1 ti3 hs (i := 0) rfl rfl (v := Value.int .i64 t1) rfl rfl (o := 1) (by simp) ?_
    intro wv2 hs
    refine OW_nil ?_
    refine WP_seq ?_
    refine WP_region ?_
    refine O (r_move (v := Value.pointer (some ⟨b1, 0, none⟩)) rfl) rfl ?_
    obtain ⟨rv2, hrv2, hM⟩ := bindS hM
    refine C [Value.pointer (some ⟨b1, 0, none⟩)] cf51 rfl (ref08_parser_next_ok hrv2 hs) rfl ?_
    rintro v2 wv3 ⟨gg2, hvv2, hlegg2, hs⟩
    replace hagi := hagi.trans hlegg2
    obtain ⟨cs2, rfl, hcs2⟩ := hvv2
    have hcs2 : cs2 = _ := hcs2; subst hcs2
    refine O (r_assign (v := Value.int .i64 rv2) rfl) rfl ?_
    refine OW_nil ?_
    refine WP_seq ?_
    refine WP_block ?_
    refine WP_seq ?_
    refine WP_region ?_
    refine O (r_move (v := Value.int .i64 rv2) rfl) rfl ?_
    refine O (r_eql rfl rfl) rfl ?_
    refine O (r_assign (v := Value.bool (rv2 == 110)) rfl) rfl ?_
    refine OW_nil ?_
    rcases condS hM with ⟨hc2, hM⟩ | ⟨hc2, hM⟩
    · refine WP_true rfl hc2 ?_
      refine WP_seq ?_
      refine WP_region ?_
      refine O (r_move (v := Value.pointer (some ⟨b1, 0, none⟩)) rfl) rfl ?_
      refine O (r_nilCheck rfl) rfl ?_
      refine O (r_fieldAddr Tryd.underlying52 ti3 rfl rfl (by decide) rfl rfl) rfl ?_
      refine O (r_load (v := Value.int .i64 t1) ti3 rfl (hs.cell (i := 0) (o := 1) rfl rfl)) rfl ?_
      obtain ⟨t2, ht2, hM⟩ := bindS hM
      refine O (r_addM rfl rfl ht2) rfl ?_
      refine O (r_nilCheck rfl) rfl ?_
      refine O (r_fieldAddr Tryd.underlying52 ti3 rfl rfl (by decide) rfl rfl) rfl ?_
      refine OW_store1 ti3 hs (i := 0) rfl rfl (v := Value.int .i64 t2) rfl rfl (o := 1) (by simp) ?_
      intro wv4 hs
      refine OW_nil ?_
      refine WP_seq ?_
      refine WP_region ?_
      refine O (r_assign (v := Value.int .i64 10) rfl) rfl ?_
      refine OW_nil ?_
      refine WP_ret ?_
      obtain rfl := Option.some.inj hM
      refine FL_nil hds ?_
      exact ⟨_, res1 Tryd.results88 (rv_tmp (v := Value.int .i64 10) rfl), gg2, ⟨[Value.int .i64 10], rfl, rfl⟩, hagi, hs⟩
    · refine WP_false rfl hc2 ?_
      refine WP_seq ?_
      refine WP_region ?_
      refine O (r_move (v := Value.int .i64 rv2) rfl) rfl ?_
      refine O (r_eql rfl rfl) rfl ?_
      refine O (r_assign (v := Value.bool (rv2 == 116)) rfl) rfl ?_
      refine OW_nil ?_
      rcases condS hM with ⟨hc3, hM⟩ | ⟨hc3, hM⟩
      · refine WP_true rfl hc3 ?_
        refine WP_seq ?_
        refine WP_region ?_
        refine O (r_move (v := Value.pointer (some ⟨b1, 0, none⟩)) rfl) rfl ?_
        refine O (r_nilCheck rfl) rfl ?_
        refine O (r_fieldAddr Tryd.underlying52 ti3 rfl rfl (by decide) rfl rfl) rfl ?_
        refine O (r_load (v := Value.int .i64 t1) ti3 rfl (hs.cell (i := 0) (o := 1) rfl rfl)) rfl ?_
        obtain ⟨t3, ht3, hM⟩ := bindS hM
        refine O (r_addM rfl rfl ht3) rfl ?_
        refine O (r_nilCheck rfl) rfl ?_
        refine O (r_fieldAddr Tryd.underlying52 ti3 rfl rfl (by decide) rfl rfl) rfl ?_
        refine OW_store1 ti3 hs (i := 0) rfl rfl (v := Value.int .i64 t3) rfl rfl (o := 1) (by simp) ?_
        intro wv5 hs
        refine OW_nil ?_
        refine WP_seq ?_
        refine WP_region ?_
        refine O (r_assign (v := Value.int .i64 9) rfl) rfl ?_
        refine OW_nil ?_
        refine WP_ret ?_
        obtain rfl := Option.some.inj hM
        refine FL_nil hds ?_
        exact ⟨_, res1 Tryd.results88 (rv_tmp (v := Value.int .i64 9) rfl), gg2, ⟨[Value.int .i64 9], rfl, rfl⟩, hagi, hs⟩
      · refine WP_false rfl hc3 ?_
        obtain ⟨xv1, hx1, hKhx1⟩ := bindS hM
        refine WP_cut (fun E w => ∃ (gg4 : Hp), E 0 = Value.pointer (some ⟨b1, 0, none⟩) ∧ E 5 = Value.int .i64 rv2 ∧ E 39 = Value.bool xv1 ∧ E.ds = [] ∧ Hle gg2 gg4 ∧ Go.Lx.Sep g0 w0 gg4 w (Go.Lx.box b1 52 ([encS p1.s, Value.int .i64 t1, Value.bool p1.bad]) :: Lt)) ?_ ?_
        · have hM := hx1
          have hagg2 := Hle.refl gg2
          refine WP_region ?_
          refine O (r_move (v := Value.int .i64 rv2) rfl) rfl ?_
          refine O (r_geq rfl rfl) rfl ?_
          refine O (r_move (v := Value.bool (decide (32 ≤ rv2))) rfl) rfl ?_
          rcases condS hM with ⟨hg3, hM⟩ | ⟨hg3, hM⟩
          · refine OG rfl rfl rfl (by rw [hg3]; rfl) (r_move (v := Value.int .i64 rv2) rfl) rfl ?_
            refine OG rfl rfl rfl (by rw [hg3]; rfl) (r_leq rfl rfl) rfl ?_
            refine O (r_pickT (v := Value.bool (decide (rv2 ≤ 126))) rfl hg3 rfl) rfl ?_
            refine O (r_move (v := Value.bool (decide (rv2 ≤ 126))) rfl) rfl ?_
            rcases condS hM with ⟨hg4, hM⟩ | ⟨hg4, hM⟩
            · refine OG rfl rfl rfl (by rw [hg4]; rfl) (r_move (v := Value.int .i64 rv2) rfl) rfl ?_
              obtain ⟨rv4, hrv4, hM⟩ := bindS hM
              refine CG rfl rfl rfl (by rw [hg4]; rfl) [Value.int .i64 rv2] cf93 rfl (ref08_letter_ok hrv4 hs.imm) rfl ?_
              rintro v4 wv7 ⟨gg5, hvv4, hegg5⟩
              have hlegg5 := hegg5.le hs.imm
              replace hs := hs.call hegg5
              replace hagi := hagi.trans hlegg5
              replace hagg2 := hagg2.trans hlegg5
              obtain ⟨cs4, rfl, hcs4⟩ := hvv4
              have hcs4 : cs4 = _ := hcs4; subst hcs4
              refine OG rfl rfl rfl (by rw [hg4]; rfl) (r_not rfl) rfl ?_
              refine O (r_pickT (v := Value.bool (!rv4)) rfl hg4 rfl) rfl ?_
              refine O (r_assign (v := Value.bool (!rv4)) rfl) rfl ?_
              refine OW_nil ?_
              obtain rfl := Option.some.inj hM
              exact ⟨gg5, rfl, rfl, rfl, hds, hagg2, hs⟩
            · refine OK rfl rfl rfl (by rw [hg4]; rfl) rfl ?_
              refine OK rfl rfl rfl (by rw [hg4]; rfl) rfl ?_
              refine OK rfl rfl rfl (by rw [hg4]; rfl) rfl ?_
              refine O (r_pickF (v := Value.bool false) rfl hg4 rfl) rfl ?_
              refine O (r_assign (v := Value.bool false) rfl) rfl ?_
              refine OW_nil ?_
              obtain rfl := Option.some.inj hM
              exact ⟨gg2, rfl, rfl, rfl, hds, (Hle.refl _), hs⟩
          · refine OK rfl rfl rfl (by rw [hg3]; rfl) rfl ?_
            refine OK rfl rfl rfl (by rw [hg3]; rfl) rfl ?_
            refine O (r_pickF (v := Value.bool false) rfl hg3 rfl) rfl ?_
            refine O (r_move (v := Value.bool false) rfl) rfl ?_
            refine OK rfl rfl rfl rfl rfl ?_
            refine OK rfl rfl rfl rfl rfl ?_
            refine OK rfl rfl rfl rfl rfl ?_
            refine O (r_pickF (v := Value.bool false) rfl rfl rfl) rfl ?_
            refine O (r_assign (v := Value.bool false) rfl) rfl ?_
            refine OW_nil ?_
            obtain rfl := Option.some.inj hM
            exact ⟨gg2, rfl, rfl, rfl, hds, (Hle.refl _), hs⟩
        · clear hs
          rintro E w ⟨gg4, hE0, hE5, hE39, hds, hlegg4, hs⟩
          have hM := hKhx1
          obtain ⟨E, rfl⟩ := open1 (E := E) hE0
          obtain ⟨E, rfl⟩ := open1 (E := E) hE5
          obtain ⟨E, rfl⟩ := open1 (E := E) hE39
          replace hagi := hagi.trans hlegg4
          rcases condS hM with ⟨hc4, hM⟩ | ⟨hc4, hM⟩
          · refine WP_true rfl hc4 ?_
            refine WP_seq ?_
            refine WP_region ?_
            refine O (r_move (v := Value.pointer (some ⟨b1, 0, none⟩)) rfl) rfl ?_
            refine O (r_nilCheck rfl) rfl ?_
            refine O (r_fieldAddr Tryd.underlying52 ti3 rfl rfl (by decide) rfl rfl) rfl ?_
            refine O (r_load (v := Value.int .i64 t1) ti3 rfl (hs.cell (i := 0) (o := 1) rfl rfl)) rfl ?_
            obtain ⟨t4, ht4, hM⟩ := bindS hM
            refine O (r_addM rfl rfl ht4) rfl ?_
            refine O (r_nilCheck rfl) rfl ?_
            refine O (r_fieldAddr Tryd.underlying52 ti3 rfl rfl (by decide) rfl rfl) rfl ?_
            refine OW_store1 ti3 hs (i := 0) rfl rfl (v := Value.int .i64 t4) rfl rfl (o := 1) (by simp) ?_
            intro wv8 hs
            refine OW_nil ?_
            refine WP_seq ?_
            refine WP_region ?_
            refine O (r_move (v := Value.int .i64 rv2) rfl) rfl ?_
            refine O (r_assign (v := Value.int .i64 rv2) rfl) rfl ?_
            refine OW_nil ?_
            refine WP_ret ?_
            obtain rfl := Option.some.inj hM
            refine FL_nil hds ?_
            exact ⟨_, res1 Tryd.results88 (rv_tmp (v := Value.int .i64 rv2) rfl), gg4, ⟨[Value.int .i64 rv2], rfl, rfl⟩, hagi, hs⟩
          · refine WP_false rfl hc4 ?_
            refine WP_skip ?_
            refine WP_seq ?_
            refine WP_region ?_
            refine O (r_move (v := Value.pointer (some ⟨b1, 0, none⟩)) rfl) rfl ?_
            refine O (r_nilCheck rfl) rfl ?_
            refine O (r_fieldAddr Tryd.underlying52 ti4 rfl rfl (by decide) rfl rfl) rfl ?_
            refine OW_store1 ti4 hs (i := 0) rfl rfl (v := Value.bool true) rfl rfl (o := 2) (by simp) ?_
            intro wv9 hs
            refine OW_nil ?_
            refine WP_seq ?_
            refine WP_region ?_
            refine O (r_assign (v := Value.int .i64 0) rfl) rfl ?_
            refine OW_nil ?_
            refine WP_ret ?_
            obtain rfl := Option.some.inj hM
            refine FL_nil hds ?_
            exact ⟨_, res1 Tryd.results88 (rv_tmp (v := Value.int .i64 0) rfl), gg4, ⟨[Value.int .i64 0], rfl, rfl⟩, hagi, hs⟩
  · refine WP_false rfl hc1 ?_
    refine WP_skip ?_
    refine WP_seq ?_
    refine WP_seq ?_
    refine WP_region ?_
    refine O (r_move (v := Value.int .i64 rv1) rfl) rfl ?_
    refine O (r_move (v := Value.bool p2) rfl) rfl ?_
    obtain ⟨rv5, hrv5, hM⟩ := bindS hM
    refine C [Value.int .i64 rv1, Value.bool p2] cf73 rfl (ref08_plain_ok hrv5 hs.imm) rfl ?_
    rintro v5 wv10 ⟨gg6, hvv5, hegg6⟩
    have hlegg6 := hegg6.le hs.imm
    replace hs := hs.call hegg6
    replace hagi := hagi.trans hlegg6
    obtain ⟨cs5, rfl, hcs5⟩ := hvv5
    have hcs5 : cs5 = _ := hcs5; subst hcs5
    refine O (r_not rfl) rfl ?_
    refine OW_nil ?_
    rcases condS hM with ⟨hc5, hM⟩ | ⟨hc5, hM⟩
    · refine WP_true rfl hc5 ?_
      refine WP_seq ?_
      refine WP_region ?_
      refine O (r_move (v := Value.pointer (some ⟨b1, 0, none⟩)) rfl) rfl ?_
      refine O (r_nilCheck rfl) rfl ?_
      refine O (r_fieldAddr Tryd.underlying52 ti4 rfl rfl (by decide) rfl rfl) rfl ?_
      refine OW_store1 ti4 hs (i := 0) rfl rfl (v := Value.bool true) rfl rfl (o := 2) (by simp) ?_
      intro wv11 hs
      refine OW_nil ?_
      refine WP_seq ?_
      refine WP_region ?_
      refine O (r_assign (v := Value.int .i64 0) rfl) rfl ?_
      refine OW_nil ?_
      refine WP_ret ?_
      obtain rfl := Option.some.inj hM
      refine FL_nil hds ?_
      exact ⟨_, res1 Tryd.results88 (rv_tmp (v := Value.int .i64 0) rfl), gg6, ⟨[Value.int .i64 0], rfl, rfl⟩, hagi, hs⟩
    · refine WP_false rfl hc5 ?_
      refine WP_skip ?_
      refine WP_seq ?_
      refine WP_region ?_
      refine O (r_move (v := Value.pointer (some ⟨b1, 0, none⟩)) rfl) rfl ?_
      refine O (r_nilCheck rfl) rfl ?_
      refine O (r_fieldAddr Tryd.underlying52 ti3 rfl rfl (by decide) rfl rfl) rfl ?_
      refine O (r_load (v := Value.int .i64 p1.atv) ti3 rfl (hs.cell (i := 0) (o := 1) rfl rfl)) rfl ?_
      obtain ⟨t5, ht5, hM⟩ := bindS hM
      refine O (r_addM rfl rfl ht5) rfl ?_
      refine O (r_nilCheck rfl) rfl ?_
      refine O (r_fieldAddr Tryd.underlying52 ti3 rfl rfl (by decide) rfl rfl) rfl ?_
      refine OW_store1 ti3 hs (i := 0) rfl rfl (v := Value.int .i64 t5) rfl rfl (o := 1) (by simp) ?_
      intro wv12 hs
      refine OW_nil ?_
      refine WP_seq ?_
      refine WP_region ?_
      refine O (r_move (v := Value.int .i64 rv1) rfl) rfl ?_
      refine O (r_assign (v := Value.int .i64 rv1) rfl) rfl ?_
      refine OW_nil ?_
      refine WP_ret ?_
      obtain rfl := Option.some.inj hM
      refine FL_nil hds ?_
      exact ⟨_, res1 Tryd.results88 (rv_tmp (v := Value.int .i64 rv1) rfl), gg6, ⟨[Value.int .i64 rv1], rfl, rfl⟩, hagi, hs⟩

set_option maxRecDepth 100000 in
theorem ref08_parser_brackets_ok {p1 : T_ref08_parser} {r : T_Regex × T_ref08_parser} (hM : M.ref08_parser_brackets p1 = some r) {g0 : Hp} {w0 : World} {gi : Hp} {wi : World} {Lt : List Res} {b1 : Nat} (hs : Sep g0 w0 gi wi (Go.Lx.box b1 52 ([encS p1.s, Value.int .i64 p1.atv, Value.bool p1.bad]) :: Lt)) :
    CallsV Tryd.prog 86 #[Value.pointer (some ⟨b1, 0, none⟩)] wi (fun v w' => ∃ g', (VRd tT_Regex true g' v r.1) ∧ Hle gi g' ∧ Sep g0 w0 g' w' (Go.Lx.box b1 52 ([encS r.2.s, Value.int .i64 r.2.atv, Value.bool r.2.bad]) :: Lt)) := by
  unfold M.ref08_parser_brackets at hM
  have hagi := Hle.refl gi
  refine calls_of_WP (args := [Value.pointer (some ⟨b1, 0, none⟩)]) Tryd.func86 rfl Tryd.ntmps86 rfl ?_
  have hds : (argEnv [Value.pointer (some ⟨b1, 0, none⟩)]).ds = [] := rfl
  refine WP_seq ?_
  refine WP_region ?_
  refine OW_alloc ti27 hs (zs := ([Value.int .i64 0]) ++ (((Vec.zero 4).1.map (Value.int .u64)) ++ ([Value.slice none 0 0]))) rfl rfl ?_
  intro b2 wv1 hs
  refine OW_nil ?_
  refine WP_seq ?_
  refine WP_region ?_
  refine O (r_move (v := Value.pointer (some ⟨b1, 0, none⟩)) rfl) rfl ?_
  have hs : Go.Lx.Sep g0 w0 gi _ (Go.Lx.box b1 52 ([encS p1.s, Value.int .i64 p1.atv, Value.bool p1.bad]) :: Go.Lx.box b2 27 (([Value.int .i64 0]) ++ (((Vec.zero 4).1.map (Value.int .u64)) ++ ([Value.slice none 0 0]))) :: Lt) := (Sep.selT (A := [Go.Lx.box b2 27 (([Value.int .i64 0]) ++ (((Vec.zero 4).1.map (Value.int .u64)) ++ ([Value.slice none 0 0]))), Go.Lx.box b1 52 ([encS p1.s, Value.int .i64 p1.atv, Value.bool p1.bad])]) (A' := [Go.Lx.box b1 52 ([encS p1.s, Value.int .i64 p1.atv, Value.bool p1.bad]), Go.Lx.box b2 27 (([Value.int .i64 0]) ++ (((Vec.zero 4).1.map (Value.int .u64)) ++ ([Value.slice none 0 0])))]) (L := Lt) hs [1, 0] (by decide) rfl)
  obtain ⟨rv1, hrv1, hM⟩ := bindS hM
  refine C [Value.pointer (some ⟨b1, 0, none⟩)] cf51 rfl (ref08_parser_next_ok hrv1 hs) rfl ?_
  rintro v1 wv2 ⟨gg1, hvv1, hlegg1, hs⟩
  replace hagi := hagi.trans hlegg1
  obtain ⟨cs1, rfl, hcs1⟩ := hvv1
  have hcs1 : cs1 = _ := hcs1; subst hcs1
  refine O (r_eql rfl rfl) rfl ?_
  refine O (r_assign (v := Value.bool (rv1 == 94)) rfl) rfl ?_
  refine OW_nil ?_
  obtain ⟨t2, hx1, hKhx1⟩ := bindS hM
  refine WP_cut (fun E w => E 0 = Value.pointer (some ⟨b1, 0, none⟩) ∧ E 2 = Value.pointer (some ⟨b2, 0, none⟩) ∧ E 3 = Value.bool (rv1 == 94) ∧ E.ds = [] ∧ Go.Lx.Sep g0 w0 gg1 w (Go.Lx.box b1 52 ([encS p1.s, Value.int .i64 t2, Value.bool p1.bad]) :: Go.Lx.box b2 27 (([Value.int .i64 0]) ++ (((Vec.zero 4).1.map (Value.int .u64)) ++ ([Value.slice none 0 0]))) :: Lt)) ?_ ?_
  · have hM := hx1
    have hagg1 := Hle.refl gg1
    refine WP_seq ?_
    refine WP_region ?_
    refine O (r_move (v := Value.bool (rv1 == 94)) rfl) rfl ?_
    refine OW_nil ?_
    rcases condS hM with ⟨hc2, hM⟩ | ⟨hc2, hM⟩
    · refine WP_true rfl hc2 ?_
      refine WP_region ?_
      refine O (r_move (v := Value.pointer (some ⟨b1, 0, none⟩)) rfl) rfl ?_
      refine O (r_nilCheck rfl) rfl ?_
      refine O (r_fieldAddr Tryd.underlying52 ti3 rfl rfl (by decide) rfl rfl) rfl ?_
      refine O (r_load (v := Value.int .i64 p1.atv) ti3 rfl (hs.cell (i := 0) (o := 1) rfl rfl)) rfl ?_
      obtain ⟨t3, ht3, hM⟩ := bindS hM
      refine O (r_addM rfl rfl ht3) rfl ?_
      refine O (r_nilCheck rfl) rfl ?_
      refine O (r_fieldAddr Tryd.underlying52 ti3 rfl rfl (by decide) rfl rfl) rfl ?_
      refine OW_store1 ti3 hs (i := 0) rfl rfl (v := Value.int .i64 t3) rfl rfl (o := 1) (by simp) ?_
      intro wv4 hs
      refine OW_nil ?_
      obtain rfl := Option.some.inj hM
      exact ⟨rfl, rfl, rfl, hds, hs⟩
    · refine WP_false rfl hc2 ?_
      refine WP_skip ?_
      obtain rfl := Option.some.inj hM
      exact ⟨rfl, rfl, rfl, hds, hs⟩
  · clear hs
    rintro E w ⟨hE0, hE2, hE3, hds, hs⟩
    have hM := hKhx1
    obtain ⟨E, rfl⟩ := open1 (E := E) hE0
    obtain ⟨E, rfl⟩ := open1 (E := E) hE2
    obtain ⟨E, rfl⟩ := open1 (E := E) hE3
    refine WP_seq ?_
    refine WP_region ?_
    refine OW_alloc ti24 hs (zs := (Vec.zero 4).1.map (Value.int .u64)) rfl rfl ?_
    intro b3 wv5 hs
    refine OW_nil ?_
    refine WP_seq ?_
    refine WP_region ?_
    refine O (r_assign (v := Value.bool true) rfl) rfl ?_
    refine OW_nil ?_
    obtain ⟨⟨xv64, t25, xv65, xv66⟩, hx29, hKhx29⟩ := bindS hM
    refine WP_cut (fun E w => ∃ (gg59 : Hp), E 0 = Value.pointer (some ⟨b1, 0, none⟩) ∧ E 2 = Value.pointer (some ⟨b2, 0, none⟩) ∧ E 3 = Value.bool (rv1 == 94) ∧ E 4 = Value.pointer (some ⟨b3, 0, none⟩) ∧ E.ds = [] ∧ Hle gg1 gg59 ∧ Go.Lx.Sep g0 w0 gg59 w (Go.Lx.box b3 24 (xv66.1.map (Value.int .u64)) :: Go.Lx.box b1 52 ([encS xv64, Value.int .i64 t25, Value.bool xv65]) :: Go.Lx.box b2 27 (([Value.int .i64 0]) ++ (((Vec.zero 4).1.map (Value.int .u64)) ++ ([Value.slice none 0 0]))) :: Lt)) ?_ ?_
    · have hM := hx29
      have hagg1 := Hle.refl gg1
      refine WP_block ?_
      refine WP_loop (fun (st9 : Str × Int × Bool × (Vec 4) × Bool) E w => match st9 with | (xv88, t33, xv89, xv90, xv91) => ∃ (gg77 : Hp), E 0 = Value.pointer (some ⟨b1, 0, none⟩) ∧ E 2 = Value.pointer (some ⟨b2, 0, none⟩) ∧ E 3 = Value.bool (rv1 == 94) ∧ E 4 = Value.pointer (some ⟨b3, 0, none⟩) ∧ E 5 = Value.bool xv91 ∧ E.ds = [] ∧ Hle gg1 gg77 ∧ Go.Lx.Sep g0 w0 gg77 w (Go.Lx.box b3 24 (xv90.1.map (Value.int .u64)) :: Go.Lx.box b1 52 ([encS xv88, Value.int .i64 t33, Value.bool xv89]) :: Go.Lx.box b2 27 (([Value.int .i64 0]) ++ (((Vec.zero 4).1.map (Value.int .u64)) ++ ([Value.slice none 0 0]))) :: Lt)) hM ⟨gg1, rfl, rfl, rfl, rfl, rfl, hds, (Hle.refl _), hs⟩ ?_
      clear hs hM
      rintro ⟨xv88, t33, xv89, xv90, xv91⟩ o7 E w hM ⟨gg77, hE0, hE2, hE3, hE4, hE5, hds, hlegg77, hs⟩
      obtain ⟨E, rfl⟩ := open1 (E := E) hE0
      obtain ⟨E, rfl⟩ := open1 (E := E) hE2
      obtain ⟨E, rfl⟩ := open1 (E := E) hE3
      obtain ⟨E, rfl⟩ := open1 (E := E) hE4
      obtain ⟨E, rfl⟩ := open1 (E := E) hE5
      replace hagi := hagi.trans hlegg77
      replace hagg1 := hagg1.trans hlegg77
      have hagg77 := Hle.refl gg77
      refine WP_seq ?_
      obtain ⟨xv113, hx48, hKhx48⟩ := bindS hM
      refine WP_cut (fun E w => ∃ (gg99 : Hp), E 0 = Value.pointer (some ⟨b1, 0, none⟩) ∧ E 2 = Value.pointer (some ⟨b2, 0, none⟩) ∧ E 3 = Value.bool (rv1 == 94) ∧ E 4 = Value.pointer (some ⟨b3, 0, none⟩) ∧ E 33 = Value.bool xv113 ∧ E.ds = [] ∧ Hle gg77 gg99 ∧ Go.Lx.Sep g0 w0 gg99 w (Go.Lx.box b3 24 (xv90.1.map (Value.int .u64)) :: Go.Lx.box b1 52 ([encS xv88, Value.int .i64 t33, Value.bool xv89]) :: Go.Lx.box b2 27 (([Value.int .i64 0]) ++ (((Vec.zero 4).1.map (Value.int .u64)) ++ ([Value.slice none 0 0]))) :: Lt)) ?_ ?_
      · have hM := hx48
        refine WP_region ?_
        refine O (r_move (v := Value.pointer (some ⟨b1, 0, none⟩)) rfl) rfl ?_
        refine O (r_nilCheck rfl) rfl ?_
        refine O (r_fieldAddr Tryd.underlying52 ti4 rfl rfl (by decide) rfl rfl) rfl ?_
        refine O (r_load (v := Value.bool xv89) ti4 rfl (hs.cell (i := 1) (o := 2) rfl rfl)) rfl ?_
        refine O (r_not rfl) rfl ?_
        refine O (r_move (v := Value.bool (!xv89)) rfl) rfl ?_
        rcases condS hM with ⟨hg89, hM⟩ | ⟨hg89, hM⟩
        · refine OG rfl rfl rfl (by rw [hg89]; rfl) (r_move (v := Value.bool xv91) rfl) rfl ?_
          refine OG rfl rfl rfl (by rw [hg89]; rfl) (r_move (v := Value.bool xv91) rfl) rfl ?_
          rcases condS hM with ⟨hg90, hM⟩ | ⟨hg90, hM⟩
          · refine OK rfl rfl rfl (by rw [hg90]; rfl) rfl ?_
            refine OK rfl rfl rfl (by rw [hg90]; rfl) rfl ?_
            refine OK rfl rfl rfl (by rw [hg90]; rfl) rfl ?_
            refine OG rfl rfl rfl (by rw [hg89]; rfl) (r_pickT (v := Value.bool true) rfl hg90 rfl) rfl ?_
            refine O (r_pickT (v := Value.bool true) rfl hg89 rfl) rfl ?_
            refine OW_nil ?_
            obtain rfl := Option.some.inj hM
            exact ⟨gg77, rfl, rfl, rfl, rfl, rfl, hds, (Hle.refl _), hs⟩
          · refine OG rfl rfl rfl (by rw [hg90]; rfl) (r_move (v := Value.pointer (some ⟨b1, 0, none⟩)) rfl) rfl ?_
            have hs : Go.Lx.Sep g0 w0 gg77 _ (Go.Lx.box b1 52 ([encS xv88, Value.int .i64 t33, Value.bool xv89]) :: Go.Lx.box b3 24 (xv90.1.map (Value.int .u64)) :: Go.Lx.box b2 27 (([Value.int .i64 0]) ++ (((Vec.zero 4).1.map (Value.int .u64)) ++ ([Value.slice none 0 0]))) :: Lt) := (Sep.selT (A := [Go.Lx.box b3 24 (xv90.1.map (Value.int .u64)), Go.Lx.box b1 52 ([encS xv88, Value.int .i64 t33, Value.bool xv89]), Go.Lx.box b2 27 (([Value.int .i64 0]) ++ (((Vec.zero 4).1.map (Value.int .u64)) ++ ([Value.slice none 0 0])))]) (A' := [Go.Lx.box b1 52 ([encS xv88, Value.int .i64 t33, Value.bool xv89]), Go.Lx.box b3 24 (xv90.1.map (Value.int .u64)), Go.Lx.box b2 27 (([Value.int .i64 0]) ++ (((Vec.zero 4).1.map (Value.int .u64)) ++ ([Value.slice none 0 0])))]) (L := Lt) hs [1, 0, 2] (by decide) rfl)
            obtain ⟨rv59, hrv59, hM⟩ := bindS hM
            refine CG rfl rfl rfl (by rw [hg90]; rfl) [Value.pointer (some ⟨b1, 0, none⟩)] cf51 rfl (ref08_parser_next_ok hrv59 hs) rfl ?_
            rintro v59 wv108 ⟨gg100, hvv59, hlegg100, hs⟩
            replace hagi := hagi.trans hlegg100
            replace hlegg77 := hlegg77.trans hlegg100
            replace hagg77 := hagg77.trans hlegg100
            obtain ⟨cs59, rfl, hcs59⟩ := hvv59
            have hcs59 : cs59 = _ := hcs59; subst hcs59
            refine OG rfl rfl rfl (by rw [hg90]; rfl) (r_neq rfl rfl) rfl ?_
            refine OG rfl rfl rfl (by rw [hg89]; rfl) (r_pickF (v := Value.bool (rv59 != 93)) rfl hg90 rfl) rfl ?_
            refine O (r_pickT (v := Value.bool (rv59 != 93)) rfl hg89 rfl) rfl ?_
            refine OW_nil ?_
            obtain rfl := Option.some.inj hM
            exact ⟨gg100, rfl, rfl, rfl, rfl, rfl, hds, hagg77, (Sep.selT (A := [Go.Lx.box b1 52 ([encS xv88, Value.int .i64 t33, Value.bool xv89]), Go.Lx.box b3 24 (xv90.1.map (Value.int .u64)), Go.Lx.box b2 27 (([Value.int .i64 0]) ++ (((Vec.zero 4).1.map (Value.int .u64)) ++ ([Value.slice none 0 0])))]) (A' := [Go.Lx.box b3 24 (xv90.1.map (Value.int .u64)), Go.Lx.box b1 52 ([encS xv88, Value.int .i64 t33, Value.bool xv89]), Go.Lx.box b2 27 (([Value.int .i64 0]) ++ (((Vec.zero 4).1.map (Value.int .u64)) ++ ([Value.slice none 0 0])))]) (L := Lt) hs [1, 0, 2] (by decide) rfl)⟩
        · refine OK rfl rfl rfl (by rw [hg89]; rfl) rfl ?_
          refine OK rfl rfl rfl (by rw [hg89]; rfl) rfl ?_
          refine OKU rfl rfl rfl rfl ?_
          refine OKU rfl rfl rfl rfl ?_
          refine OKU rfl rfl rfl rfl ?_
          refine OK rfl rfl rfl (by rw [hg89]; rfl) rfl ?_
          refine O (r_pickF (v := Value.bool false) rfl hg89 rfl) rfl ?_
          refine OW_nil ?_
          obtain rfl := Option.some.inj hM
          exact ⟨gg77, rfl, rfl, rfl, rfl, rfl, hds, (Hle.refl _), hs⟩
      · clear hs
        rintro E w ⟨gg99, hE0, hE2, hE3, hE4, hE33, hds, hlegg99, hs⟩
        have hM := hKhx48
        obtain ⟨E, rfl⟩ := open1 (E := E) hE0
        obtain ⟨E, rfl⟩ := open1 (E := E) hE2
        obtain ⟨E, rfl⟩ := open1 (E := E) hE3
        obtain ⟨E, rfl⟩ := open1 (E := E) hE4
        obtain ⟨E, rfl⟩ := open1 (E := E) hE33
        replace hagi := hagi.trans hlegg99
        replace hlegg77 := hlegg77.trans hlegg99
        replace hagg77 := hagg77.trans hlegg99
        rcases condS hM with ⟨hc43, hM⟩ | ⟨hc43, hM⟩
        · refine WP_true rfl hc43 ?_
          refine WP_skip ?_
          refine WP_block ?_
          refine WP_seq ?_
          refine WP_region ?_
          refine O (r_assign (v := Value.bool false) rfl) rfl ?_
          refine OW_nil ?_
          refine WP_seq ?_
          refine WP_region ?_
          refine O (r_move (v := Value.pointer (some ⟨b1, 0, none⟩)) rfl) rfl ?_
          have hs : Go.Lx.Sep g0 w0 gg99 _ (Go.Lx.box b1 52 ([encS xv88, Value.int .i64 t33, Value.bool xv89]) :: Go.Lx.box b3 24 (xv90.1.map (Value.int .u64)) :: Go.Lx.box b2 27 (([Value.int .i64 0]) ++ (((Vec.zero 4).1.map (Value.int .u64)) ++ ([Value.slice none 0 0]))) :: Lt) := (Sep.selT (A := [Go.Lx.box b3 24 (xv90.1.map (Value.int .u64)), Go.Lx.box b1 52 ([encS xv88, Value.int .i64 t33, Value.bool xv89]), Go.Lx.box b2 27 (([Value.int .i64 0]) ++ (((Vec.zero 4).1.map (Value.int .u64)) ++ ([Value.slice none 0 0])))]) (A' := [Go.Lx.box b1 52 ([encS xv88, Value.int .i64 t33, Value.bool xv89]), Go.Lx.box b3 24 (xv90.1.map (Value.int .u64)), Go.Lx.box b2 27 (([Value.int .i64 0]) ++ (((Vec.zero 4).1.map (Value.int .u64)) ++ ([Value.slice none 0 0])))]) (L := Lt) hs [1, 0, 2] (by decide) rfl)
          obtain ⟨rv60, hrv60, hM⟩ := bindS hM
          refine C [Value.pointer (some ⟨b1, 0, none⟩), Value.bool true] cf88 rfl (ref08_parser_char_ok hrv60 hs) rfl ?_
          rintro v60 wv109 ⟨gg101, hvv60, hlegg101, hs⟩
          replace hagi := hagi.trans hlegg101
          replace hlegg77 := hlegg77.trans hlegg101
          replace hagg77 := hagg77.trans hlegg101
          obtain ⟨cs60, rfl, hcs60⟩ := hvv60
          have hcs60 : cs60 = _ := hcs60; subst hcs60
          refine O (r_assign (v := Value.int .i64 rv60.1) rfl) rfl ?_
          refine OW_nil ?_
          refine WP_seq ?_
          refine WP_region ?_
          refine O (r_move (v := Value.int .i64 rv60.1) rfl) rfl ?_
          refine O (r_assign (v := Value.int .i64 rv60.1) rfl) rfl ?_
          refine OW_nil ?_
          obtain ⟨⟨xv116, t42, xv117, xv118⟩, hx51, hKhx51⟩ := bindS hM
          refine WP_cut (fun E w => ∃ (gg106 : Hp), E 0 = Value.pointer (some ⟨b1, 0, none⟩) ∧ E 2 = Value.pointer (some ⟨b2, 0, none⟩) ∧ E 3 = Value.bool (rv1 == 94) ∧ E 4 = Value.pointer (some ⟨b3, 0, none⟩) ∧ E 5 = Value.bool false ∧ E 6 = Value.int .i64 rv60.1 ∧ E 7 = Value.int .i64 xv118 ∧ E.ds = [] ∧ Hle gg101 gg106 ∧ Go.Lx.Sep g0 w0 gg106 w (Go.Lx.box b1 52 ([encS xv116, Value.int .i64 t42, Value.bool xv117]) :: Go.Lx.box b3 24 (xv90.1.map (Value.int .u64)) :: Go.Lx.box b2 27 (([Value.int .i64 0]) ++ (((Vec.zero 4).1.map (Value.int .u64)) ++ ([Value.slice none 0 0]))) :: Lt)) ?_ ?_
          · have hM := hx51
            have hagg101 := Hle.refl gg101
            obtain ⟨xv119, hx52, hKhx52⟩ := bindS hM
            refine WP_cut (fun E w => ∃ (gg108 : Hp), E 0 = Value.pointer (some ⟨b1, 0, none⟩) ∧ E 2 = Value.pointer (some ⟨b2, 0, none⟩) ∧ E 3 = Value.bool (rv1 == 94) ∧ E 4 = Value.pointer (some ⟨b3, 0, none⟩) ∧ E 5 = Value.bool false ∧ E 6 = Value.int .i64 rv60.1 ∧ E 7 = Value.int .i64 rv60.1 ∧ E 46 = Value.bool xv119 ∧ E.ds = [] ∧ Hle gg101 gg108 ∧ Go.Lx.Sep g0 w0 gg108 w (Go.Lx.box b1 52 ([encS rv60.2.s, Value.int .i64 rv60.2.atv, Value.bool rv60.2.bad]) :: Go.Lx.box b3 24 (xv90.1.map (Value.int .u64)) :: Go.Lx.box b2 27 (([Value.int .i64 0]) ++ (((Vec.zero 4).1.map (Value.int .u64)) ++ ([Value.slice none 0 0]))) :: Lt)) ?_ ?_
            · have hM := hx52
              refine WP_region ?_
              refine O (r_move (v := Value.pointer (some ⟨b1, 0, none⟩)) rfl) rfl ?_
              refine O (r_nilCheck rfl) rfl ?_
              refine O (r_fieldAddr Tryd.underlying52 ti4 rfl rfl (by decide) rfl rfl) rfl ?_
              refine O (r_load (v := Value.bool rv60.2.bad) ti4 rfl (hs.cell (i := 0) (o := 2) rfl rfl)) rfl ?_
              refine O (r_not rfl) rfl ?_
              refine O (r_move (v := Value.bool (!rv60.2.bad)) rfl) rfl ?_
              rcases condS hM with ⟨hg96, hM⟩ | ⟨hg96, hM⟩
              · refine OG rfl rfl rfl (by rw [hg96]; rfl) (r_move (v := Value.pointer (some ⟨b1, 0, none⟩)) rfl) rfl ?_
                obtain ⟨rv65, hrv65, hM⟩ := bindS hM
                refine CG rfl rfl rfl (by rw [hg96]; rfl) [Value.pointer (some ⟨b1, 0, none⟩)] cf51 rfl (ref08_parser_next_ok hrv65 hs) rfl ?_
                rintro v65 wv117 ⟨gg109, hvv65, hlegg109, hs⟩
                replace hagi := hagi.trans hlegg109
                replace hlegg77 := hlegg77.trans hlegg109
                replace hagg77 := hagg77.trans hlegg109
                replace hagg101 := hagg101.trans hlegg109
                obtain ⟨cs65, rfl, hcs65⟩ := hvv65
                have hcs65 : cs65 = _ := hcs65; subst hcs65
                refine OG rfl rfl rfl (by rw [hg96]; rfl) (r_eql rfl rfl) rfl ?_
                refine O (r_pickT (v := Value.bool (rv65 == 45)) rfl hg96 rfl) rfl ?_
                refine OW_nil ?_
                obtain rfl := Option.some.inj hM
                exact ⟨gg109, rfl, rfl, rfl, rfl, rfl, rfl, rfl, rfl, hds, hagg101, hs⟩
              · refine OK rfl rfl rfl (by rw [hg96]; rfl) rfl ?_
                refine OK rfl rfl rfl (by rw [hg96]; rfl) rfl ?_
                refine OK rfl rfl rfl (by rw [hg96]; rfl) rfl ?_
                refine O (r_pickF (v := Value.bool false) rfl hg96 rfl) rfl ?_
                refine OW_nil ?_
                obtain rfl := Option.some.inj hM
                exact ⟨gg101, rfl, rfl, rfl, rfl, rfl, rfl, rfl, rfl, hds, (Hle.refl _), hs⟩
            · clear hs
              rintro E w ⟨gg108, hE0, hE2, hE3, hE4, hE5, hE6, hE7, hE46, hds, hlegg108, hs⟩
              have hM := hKhx52
              obtain ⟨E, rfl⟩ := open1 (E := E) hE0
              obtain ⟨E, rfl⟩ := open1 (E := E) hE2
              obtain ⟨E, rfl⟩ := open1 (E := E) hE3
              obtain ⟨E, rfl⟩ := open1 (E := E) hE4
              obtain ⟨E, rfl⟩ := open1 (E := E) hE5
              obtain ⟨E, rfl⟩ := open1 (E := E) hE6
              obtain ⟨E, rfl⟩ := open1 (E := E) hE7
              obtain ⟨E, rfl⟩ := open1 (E := E) hE46
              replace hagi := hagi.trans hlegg108
              replace hlegg77 := hlegg77.trans hlegg108
              replace hagg77 := hagg77.trans hlegg108
              replace hagg101 := hagg101.trans hlegg108
              rcases condS hM with ⟨hc46, hM⟩ | ⟨hc46, hM⟩
              · refine WP_true rfl hc46 ?_
                refine WP_seq ?_
                refine WP_region ?_
                refine O (r_move (v := Value.pointer (some ⟨b1, 0, none⟩)) rfl) rfl ?_
                refine O (r_nilCheck rfl) rfl ?_
                refine O (r_fieldAddr Tryd.underlying52 ti3 rfl rfl (by decide) rfl rfl) rfl ?_
                refine O (r_load (v := Value.int .i64 rv60.2.atv) ti3 rfl (hs.cell (i := 0) (o := 1) rfl rfl)) rfl ?_
                obtain ⟨t43, ht43, hM⟩ := bindS hM
                refine O (r_addM rfl rfl ht43) rfl ?_
                refine O (r_nilCheck rfl) rfl ?_
                refine O (r_fieldAddr Tryd.underlying52 ti3 rfl rfl (by decide) rfl rfl) rfl ?_
                refine OW_store1 ti3 hs (i := 0) rfl rfl (v := Value.int .i64 t43) rfl rfl (o := 1) (by simp) ?_
                intro wv118 hs
                refine OW_nil ?_
                refine WP_seq ?_
                refine WP_region ?_
                refine O (r_move (v := Value.pointer (some ⟨b1, 0, none⟩)) rfl) rfl ?_
                refine O (r_nilCheck rfl) rfl ?_
                refine O (r_fieldAddr Tryd.underlying52 ti3 rfl rfl (by decide) rfl rfl) rfl ?_
                refine O (r_load (v := Value.int .i64 t43) ti3 rfl (hs.cell (i := 0) (o := 1) rfl rfl)) rfl ?_
                refine O (r_assign (v := Value.int .i64 t43) rfl) rfl ?_
                refine OW_nil ?_
                refine WP_seq ?_
                refine WP_region ?_
                refine O (r_move (v := Value.pointer (some ⟨b1, 0, none⟩)) rfl) rfl ?_
                obtain ⟨rv66, hrv66, hM⟩ := bindS hM
                refine C [Value.pointer (some ⟨b1, 0, none⟩), Value.bool true] cf88 rfl (ref08_parser_char_ok hrv66 hs) rfl ?_
                rintro v66 wv119 ⟨gg110, hvv66, hlegg110, hs⟩
                replace hagi := hagi.trans hlegg110
                replace hlegg77 := hlegg77.trans hlegg110
                replace hagg77 := hagg77.trans hlegg110
                replace hagg101 := hagg101.trans hlegg110
                obtain ⟨cs66, rfl, hcs66⟩ := hvv66
                have hcs66 : cs66 = _ := hcs66; subst hcs66
                refine O (r_assign (v := Value.int .i64 rv66.1) rfl) rfl ?_
                refine OW_nil ?_
                obtain ⟨xv120, hx53, hKhx53⟩ := bindS hM
                refine WP_cut (fun E w => E 0 = Value.pointer (some ⟨b1, 0, none⟩) ∧ E 2 = Value.pointer (some ⟨b2, 0, none⟩) ∧ E 3 = Value.bool (rv1 == 94) ∧ E 4 = Value.pointer (some ⟨b3, 0, none⟩) ∧ E 5 = Value.bool false ∧ E 6 = Value.int .i64 rv60.1 ∧ E 7 = Value.int .i64 rv66.1 ∧ E 8 = Value.int .i64 t43 ∧ E 69 = Value.bool xv120 ∧ E.ds = [] ∧ Go.Lx.Sep g0 w0 gg110 w (Go.Lx.box b1 52 ([encS rv66.2.s, Value.int .i64 rv66.2.atv, Value.bool rv66.2.bad]) :: Go.Lx.box b3 24 (xv90.1.map (Value.int .u64)) :: Go.Lx.box b2 27 (([Value.int .i64 0]) ++ (((Vec.zero 4).1.map (Value.int .u64)) ++ ([Value.slice none 0 0]))) :: Lt)) ?_ ?_
                · have hM := hx53
                  have hagg110 := Hle.refl gg110
                  refine WP_region ?_
                  refine O (r_move (v := Value.pointer (some ⟨b1, 0, none⟩)) rfl) rfl ?_
                  refine O (r_nilCheck rfl) rfl ?_
                  refine O (r_fieldAddr Tryd.underlying52 ti4 rfl rfl (by decide) rfl rfl) rfl ?_
                  refine O (r_load (v := Value.bool rv66.2.bad) ti4 rfl (hs.cell (i := 0) (o := 2) rfl rfl)) rfl ?_
                  refine O (r_not rfl) rfl ?_
                  refine O (r_move (v := Value.bool (!rv66.2.bad)) rfl) rfl ?_
                  rcases condS hM with ⟨hg98, hM⟩ | ⟨hg98, hM⟩
                  · refine OG rfl rfl rfl (by rw [hg98]; rfl) (r_move (v := Value.int .i64 rv66.1) rfl) rfl ?_
                    refine OG rfl rfl rfl (by rw [hg98]; rfl) (r_move (v := Value.int .i64 rv60.1) rfl) rfl ?_
                    refine OG rfl rfl rfl (by rw [hg98]; rfl) (r_lss rfl rfl) rfl ?_
                    refine O (r_pickT (v := Value.bool (decide (rv66.1 < rv60.1))) rfl hg98 rfl) rfl ?_
                    refine OW_nil ?_
                    obtain rfl := Option.some.inj hM
                    exact ⟨rfl, rfl, rfl, rfl, rfl, rfl, rfl, rfl, rfl, hds, hs⟩
                  · refine OK rfl rfl rfl (by rw [hg98]; rfl) rfl ?_
                    refine OK rfl rfl rfl (by rw [hg98]; rfl) rfl ?_
                    refine OK rfl rfl rfl (by rw [hg98]; rfl) rfl ?_
                    refine O (r_pickF (v := Value.bool false) rfl hg98 rfl) rfl ?_
                    refine OW_nil ?_
                    obtain rfl := Option.some.inj hM
                    exact ⟨rfl, rfl, rfl, rfl, rfl, rfl, rfl, rfl, rfl, hds, hs⟩
                · clear hs
                  rintro E w ⟨hE0, hE2, hE3, hE4, hE5, hE6, hE7, hE8, hE69, hds, hs⟩
                  have hM := hKhx53
                  obtain ⟨E, rfl⟩ := open1 (E := E) hE0
                  obtain ⟨E, rfl⟩ := open1 (E := E) hE2
                  obtain ⟨E, rfl⟩ := open1 (E := E) hE3
                  obtain ⟨E, rfl⟩ := open1 (E := E) hE4
                  obtain ⟨E, rfl⟩ := open1 (E := E) hE5
                  obtain ⟨E, rfl⟩ := open1 (E := E) hE6
                  obtain ⟨E, rfl⟩ := open1 (E := E) hE7
                  obtain ⟨E, rfl⟩ := open1 (E := E) hE8
                  obtain ⟨E, rfl⟩ := open1 (E := E) hE69
                  rcases condS hM with ⟨hc47, hM⟩ | ⟨hc47, hM⟩
                  · refine WP_true rfl hc47 ?_
                    refine WP_seq ?_
                    refine WP_region ?_
                    refine O (r_move (v := Value.pointer (some ⟨b1, 0, none⟩)) rfl) rfl ?_
                    refine O (r_nilCheck rfl) rfl ?_
                    refine O (r_fieldAddr Tryd.underlying52 ti4 rfl rfl (by decide) rfl rfl) rfl ?_
                    refine OW_store1 ti4 hs (i := 0) rfl rfl (v := Value.bool true) rfl rfl (o := 2) (by simp) ?_
                    intro wv120 hs
                    refine OW_nil ?_
                    refine WP_region ?_
                    refine O (r_move (v := Value.pointer (some ⟨b1, 0, none⟩)) rfl) rfl ?_
                    refine O (r_move (v := Value.int .i64 t43) rfl) rfl ?_
                    refine O (r_nilCheck rfl) rfl ?_
                    refine O (r_fieldAddr Tryd.underlying52 ti3 rfl rfl (by decide) rfl rfl) rfl ?_
                    refine OW_store1 ti3 hs (i := 0) rfl rfl (v := Value.int .i64 t43) rfl rfl (o := 1) (by simp) ?_
                    intro wv121 hs
                    refine OW_nil ?_
                    simp only [Option.some.injEq, Prod.mk.injEq] at hM
                    obtain ⟨rfl, rfl, rfl, rfl⟩ := hM
                    exact ⟨gg110, rfl, rfl, rfl, rfl, rfl, rfl, rfl, hds, hagg101, hs⟩
                  · refine WP_false rfl hc47 ?_
                    refine WP_skip ?_
                    simp only [Option.some.injEq, Prod.mk.injEq] at hM
                    obtain ⟨rfl, rfl, rfl, rfl⟩ := hM
                    exact ⟨gg110, rfl, rfl, rfl, rfl, rfl, rfl, rfl, hds, hagg101, hs⟩
              · refine WP_false rfl hc46 ?_
                refine WP_skip ?_
                simp only [Option.some.injEq, Prod.mk.injEq] at hM
                obtain ⟨rfl, rfl, rfl, rfl⟩ := hM
                exact ⟨gg108, rfl, rfl, rfl, rfl, rfl, rfl, rfl, hds, hagg101, hs⟩
          · clear hs
            rintro E w ⟨gg106, hE0, hE2, hE3, hE4, hE5, hE6, hE7, hds, hlegg106, hs⟩
            have hM := hKhx51
            obtain ⟨E, rfl⟩ := open1 (E := E) hE0
            obtain ⟨E, rfl⟩ := open1 (E := E) hE2
            obtain ⟨E, rfl⟩ := open1 (E := E) hE3
            obtain ⟨E, rfl⟩ := open1 (E := E) hE4
            obtain ⟨E, rfl⟩ := open1 (E := E) hE5
            obtain ⟨E, rfl⟩ := open1 (E := E) hE6
            obtain ⟨E, rfl⟩ := open1 (E := E) hE7
            replace hagi := hagi.trans hlegg106
            replace hlegg77 := hlegg77.trans hlegg106
            replace hagg77 := hagg77.trans hlegg106
            refine WP_seq ?_
            refine WP_region ?_
            refine O (r_move (v := Value.int .i64 rv60.1) rfl) rfl ?_
            refine O (r_assign (v := Value.int .i64 rv60.1) rfl) rfl ?_
            refine OW_nil ?_
            refine WP_block ?_
            have hagg106 := Hle.refl gg106
            refine WP_loop (fun (st9 : (Vec 4) × Int) E w => match st9 with | (xv124, xv125) => ∃ (gg113 : Hp), E 0 = Value.pointer (some ⟨b1, 0, none⟩) ∧ E 2 = Value.pointer (some ⟨b2, 0, none⟩) ∧ E 3 = Value.bool (rv1 == 94) ∧ E 4 = Value.pointer (some ⟨b3, 0, none⟩) ∧ E 5 = Value.bool false ∧ E 7 = Value.int .i64 xv118 ∧ E 9 = Value.int .i64 xv125 ∧ E.ds = [] ∧ Hle gg106 gg113 ∧ Go.Lx.Sep g0 w0 gg113 w (Go.Lx.box b1 52 ([encS xv116, Value.int .i64 t42, Value.bool xv117]) :: Go.Lx.box b3 24 (xv124.1.map (Value.int .u64)) :: Go.Lx.box b2 27 (([Value.int .i64 0]) ++ (((Vec.zero 4).1.map (Value.int .u64)) ++ ([Value.slice none 0 0]))) :: Lt)) hM ⟨gg106, rfl, rfl, rfl, rfl, rfl, rfl, rfl, hds, (Hle.refl _), hs⟩ ?_
            clear hs hM
            rintro ⟨xv124, xv125⟩ o8 E w hM ⟨gg113, hE0, hE2, hE3, hE4, hE5, hE7, hE9, hds, hlegg113, hs⟩
            obtain ⟨E, rfl⟩ := open1 (E := E) hE0
            obtain ⟨E, rfl⟩ := open1 (E := E) hE2
            obtain ⟨E, rfl⟩ := open1 (E := E) hE3
            obtain ⟨E, rfl⟩ := open1 (E := E) hE4
            obtain ⟨E, rfl⟩ := open1 (E := E) hE5
            obtain ⟨E, rfl⟩ := open1 (E := E) hE7
            obtain ⟨E, rfl⟩ := open1 (E := E) hE9
            replace hagi := hagi.trans hlegg113
            replace hlegg77 := hlegg77.trans hlegg113
            replace hagg77 := hagg77.trans hlegg113
            have hagg113 := Hle.refl gg113
            refine WP_seq ?_
            obtain ⟨xv129, hx56, hKhx56⟩ := bindS hM
            refine WP_cut (fun E w => E 0 = Value.pointer (some ⟨b1, 0, none⟩) ∧ E 2 = Value.pointer (some ⟨b2, 0, none⟩) ∧ E 3 = Value.bool (rv1 == 94) ∧ E 4 = Value.pointer (some ⟨b3, 0, none⟩) ∧ E 5 = Value.bool false ∧ E 7 = Value.int .i64 xv118 ∧ E 9 = Value.int .i64 xv125 ∧ E 87 = Value.bool xv129 ∧ E.ds = [] ∧ Go.Lx.Sep g0 w0 gg113 w (Go.Lx.box b1 52 ([encS xv116, Value.int .i64 t42, Value.bool xv117]) :: Go.Lx.box b3 24 (xv124.1.map (Value.int .u64)) :: Go.Lx.box b2 27 (([Value.int .i64 0]) ++ (((Vec.zero 4).1.map (Value.int .u64)) ++ ([Value.slice none 0 0]))) :: Lt)) ?_ ?_
            · have hM := hx56
              refine WP_region ?_
              refine O (r_move (v := Value.pointer (some ⟨b1, 0, none⟩)) rfl) rfl ?_
              refine O (r_nilCheck rfl) rfl ?_
              refine O (r_fieldAddr Tryd.underlying52 ti4 rfl rfl (by decide) rfl rfl) rfl ?_
              refine O (r_load (v := Value.bool xv117) ti4 rfl (hs.cell (i := 0) (o := 2) rfl rfl)) rfl ?_
              refine O (r_not rfl) rfl ?_
              refine O (r_move (v := Value.bool (!xv117)) rfl) rfl ?_
              rcases condS hM with ⟨hg104, hM⟩ | ⟨hg104, hM⟩
              · refine OG rfl rfl rfl (by rw [hg104]; rfl) (r_move (v := Value.int .i64 xv125) rfl) rfl ?_
                refine OG rfl rfl rfl (by rw [hg104]; rfl) (r_move (v := Value.int .i64 xv118) rfl) rfl ?_
                refine OG rfl rfl rfl (by rw [hg104]; rfl) (r_leq rfl rfl) rfl ?_
                refine O (r_pickT (v := Value.bool (decide (xv125 ≤ xv118))) rfl hg104 rfl) rfl ?_
                refine OW_nil ?_
                obtain rfl := Option.some.inj hM
                exact ⟨rfl, rfl, rfl, rfl, rfl, rfl, rfl, rfl, hds, hs⟩
              · refine OK rfl rfl rfl (by rw [hg104]; rfl) rfl ?_
                refine OK rfl rfl rfl (by rw [hg104]; rfl) rfl ?_
                refine OK rfl rfl rfl (by rw [hg104]; rfl) rfl ?_
                refine O (r_pickF (v := Value.bool false) rfl hg104 rfl) rfl ?_
                refine OW_nil ?_
                obtain rfl := Option.some.inj hM
                exact ⟨rfl, rfl, rfl, rfl, rfl, rfl, rfl, rfl, hds, hs⟩
            · clear hs
              rintro E w ⟨hE0, hE2, hE3, hE4, hE5, hE7, hE9, hE87, hds, hs⟩
              have hM := hKhx56
              obtain ⟨E, rfl⟩ := open1 (E := E) hE0
              obtain ⟨E, rfl⟩ := open1 (E := E) hE2
              obtain ⟨E, rfl⟩ := open1 (E := E) hE3
              obtain ⟨E, rfl⟩ := open1 (E := E) hE4
              obtain ⟨E, rfl⟩ := open1 (E := E) hE5
              obtain ⟨E, rfl⟩ := open1 (E := E) hE7
              obtain ⟨E, rfl⟩ := open1 (E := E) hE9
              obtain ⟨E, rfl⟩ := open1 (E := E) hE87
              rcases condS hM with ⟨hc50, hM⟩ | ⟨hc50, hM⟩
              · refine WP_true rfl hc50 ?_
                refine WP_skip ?_
                refine WP_seq ?_
                refine WP_block ?_
                refine WP_region ?_
                refine O (r_loadN (cs := xv124.1.map (Value.int .u64)) ti24 rfl (by simp [xv124.2]) (hs.cells (i := 1) rfl)) rfl ?_
                refine O (r_move (v := Value.int .i64 xv125) rfl) rfl ?_
                obtain ⟨rv69, hrv69, hM⟩ := bindS hM
                refine C [encV .u64 xv124, Value.int .i64 xv125] cf72 rfl (ref08_With_ok hrv69 hs.imm) rfl ?_
                rintro v69 wv126 ⟨gg116, hvv69, hegg116⟩
                have hlegg116 := hegg116.le hs.imm
                replace hs := hs.call hegg116
                replace hagi := hagi.trans hlegg116
                replace hlegg77 := hlegg77.trans hlegg116
                replace hagg77 := hagg77.trans hlegg116
                replace hlegg113 := hlegg113.trans hlegg116
                replace hagg113 := hagg113.trans hlegg116
                obtain ⟨cs69, rfl, hcs69⟩ := hvv69
                have hcs69 : cs69 = _ := hcs69; subst hcs69
                refine OW_storeAll ti24 hs (i := 1) rfl rfl (v := encV .u64 rv69) rfl (vs := rv69.1.map (Value.int .u64)) rfl vec_one (by simp [rv69.2]) (by simp [rv69.2, xv124.2]) ?_
                intro wv127 hs
                refine OW_nil ?_
                refine WP_region ?_
                refine O (r_move (v := Value.int .i64 xv125) rfl) rfl ?_
                obtain ⟨t46, ht46, hM⟩ := bindS hM
                refine O (r_addM rfl rfl ht46) rfl ?_
                refine O (r_assign (v := Value.int .i64 t46) rfl) rfl ?_
                refine OW_nil ?_
                obtain rfl := Option.some.inj hM
                exact ⟨gg116, rfl, rfl, rfl, rfl, rfl, rfl, rfl, hds, hlegg113, hs⟩
              · refine WP_false rfl hc50 ?_
                refine WP_exit ?_
                obtain rfl := Option.some.inj hM
                refine fun hr => ?_
                have hM := congrArg some hr
                obtain rfl := Option.some.inj hM
                exact ⟨gg113, rfl, rfl, rfl, rfl, rfl, hds, hlegg77, (Sep.selT (A := [Go.Lx.box b1 52 ([encS xv116, Value.int .i64 t42, Value.bool xv117]), Go.Lx.box b3 24 (xv124.1.map (Value.int .u64)), Go.Lx.box b2 27 (([Value.int .i64 0]) ++ (((Vec.zero 4).1.map (Value.int .u64)) ++ ([Value.slice none 0 0])))]) (A' := [Go.Lx.box b3 24 (xv124.1.map (Value.int .u64)), Go.Lx.box b1 52 ([encS xv116, Value.int .i64 t42, Value.bool xv117]), Go.Lx.box b2 27 (([Value.int .i64 0]) ++ (((Vec.zero 4).1.map (Value.int .u64)) ++ ([Value.slice none 0 0])))]) (L := Lt) hs [1, 0, 2] (by decide) rfl)⟩
        · refine WP_false rfl hc43 ?_
          refine WP_exit ?_
          obtain rfl := Option.some.inj hM
          refine fun hr => ?_
          have hM := congrArg some hr
          simp only [Option.some.injEq, Prod.mk.injEq] at hM
          obtain ⟨rfl, rfl, rfl, rfl⟩ := hM
          exact ⟨gg99, rfl, rfl, rfl, rfl, hds, hlegg77, hs⟩
    · clear hs
      rintro E w ⟨gg59, hE0, hE2, hE3, hE4, hds, hlegg59, hs⟩
      have hM := hKhx29
      obtain ⟨E, rfl⟩ := open1 (E := E) hE0
      obtain ⟨E, rfl⟩ := open1 (E := E) hE2
      obtain ⟨E, rfl⟩ := open1 (E := E) hE3
      obtain ⟨E, rfl⟩ := open1 (E := E) hE4
      replace hagi := hagi.trans hlegg59
      refine WP_seq ?_
      refine WP_seq ?_
      refine WP_region ?_
      refine O (r_move (v := Value.pointer (some ⟨b1, 0, none⟩)) rfl) rfl ?_
      refine O (r_nilCheck rfl) rfl ?_
      refine O (r_fieldAddr Tryd.underlying52 ti4 rfl rfl (by decide) rfl rfl) rfl ?_
      refine O (r_load (v := Value.bool xv65) ti4 rfl (hs.cell (i := 1) (o := 2) rfl rfl)) rfl ?_
      refine OW_nil ?_
      rcases condS hM with ⟨hc51, hM⟩ | ⟨hc51, hM⟩
      · refine WP_true rfl hc51 ?_
        refine WP_seq ?_
        refine WP_region ?_
        refine O (r_build (vs := []) (cs := ([Value.int .i64 0]) ++ (((Vec.zero 4).1.map (Value.int .u64)) ++ ([Value.slice none 0 0]))) rfl (built_fill [(0, 1), (1, 4), (5, 1)] (([Value.int .i64 0]) ++ (((Vec.zero 4).1.map (Value.int .u64)) ++ ([Value.slice none 0 0]))) (fun _ => by kernel_rfl) (fill_done))) rfl ?_
        refine OW_storeAll ti27 hs (i := 2) rfl rfl (v := Value.agg (List.toArray (α := Value) (([Value.int .i64 0]) ++ (((Vec.zero 4).1.map (Value.int .u64)) ++ ([Value.slice none 0 0]))))) rfl (vs := ([Value.int .i64 0]) ++ (((Vec.zero 4).1.map (Value.int .u64)) ++ ([Value.slice none 0 0]))) rfl (one_append (one_cons rfl one_nil) (one_append vec_one (one_cons rfl one_nil))) (by simp [(Vec.zero 4).2]) (by simp [(Vec.zero 4).2, (Vec.zero 4).2]) ?_
        intro wv128 hs
        refine OW_nil ?_
        refine WP_ret ?_
        obtain rfl := Option.some.inj hM
        refine FL_nil hds ?_
        exact ⟨_, res1 Tryd.results86 (rv_cells (vs := ([Value.int .i64 0]) ++ (((Vec.zero 4).1.map (Value.int .u64)) ++ ([Value.slice none 0 0]))) ti27 rfl (by simp [(Vec.zero 4).2]) (hs.cells (i := 2) rfl)), gg59, ⟨([Value.int .i64 0]) ++ (((Vec.zero 4).1.map (Value.int .u64)) ++ ([Value.slice none 0 0])), rfl, (tT_Regex_iff.2 ⟨[Value.int .i64 0], (Vec.zero 4).1.map (Value.int .u64), [Value.slice none 0 0], rfl, rfl, rfl, ⟨_, rfl, RdS.nil⟩⟩)⟩, hagi, (Sep.selT (A := [Go.Lx.box b3 24 (xv66.1.map (Value.int .u64)), Go.Lx.box b1 52 ([encS xv64, Value.int .i64 t25, Value.bool xv65]), Go.Lx.box b2 27 (([Value.int .i64 0]) ++ (((Vec.zero 4).1.map (Value.int .u64)) ++ ([Value.slice none 0 0])))]) (A' := [Go.Lx.box b1 52 ([encS xv64, Value.int .i64 t25, Value.bool xv65])]) (L := Lt) hs [1] (by decide) rfl)⟩
      · refine WP_false rfl hc51 ?_
        refine WP_skip ?_
        refine WP_seq ?_
        refine WP_region ?_
        refine O (r_move (v := Value.pointer (some ⟨b1, 0, none⟩)) rfl) rfl ?_
        refine O (r_nilCheck rfl) rfl ?_
        refine O (r_fieldAddr Tryd.underlying52 ti3 rfl rfl (by decide) rfl rfl) rfl ?_
        refine O (r_load (v := Value.int .i64 t25) ti3 rfl (hs.cell (i := 1) (o := 1) rfl rfl)) rfl ?_
        obtain ⟨t47, ht47, hM⟩ := bindS hM
        refine O (r_addM rfl rfl ht47) rfl ?_
        refine O (r_nilCheck rfl) rfl ?_
        refine O (r_fieldAddr Tryd.underlying52 ti3 rfl rfl (by decide) rfl rfl) rfl ?_
        refine OW_store1 ti3 hs (i := 1) rfl rfl (v := Value.int .i64 t47) rfl rfl (o := 1) (by simp) ?_
        intro wv129 hs
        refine OW_nil ?_
        obtain ⟨xv130, hx57, hKhx57⟩ := bindS hM
        refine WP_cut (fun E w => ∃ (gg118 : Hp), E 2 = Value.pointer (some ⟨b2, 0, none⟩) ∧ E 4 = Value.pointer (some ⟨b3, 0, none⟩) ∧ E.ds = [] ∧ Hle gg59 gg118 ∧ Go.Lx.Sep g0 w0 gg118 w (Go.Lx.box b3 24 (xv130.1.map (Value.int .u64)) :: Go.Lx.box b1 52 ([encS xv64, Value.int .i64 t47, Value.bool xv65]) :: Go.Lx.box b2 27 (([Value.int .i64 0]) ++ (((Vec.zero 4).1.map (Value.int .u64)) ++ ([Value.slice none 0 0]))) :: Lt)) ?_ ?_
        · have hM := hx57
          have hagg59 := Hle.refl gg59
          refine WP_seq ?_
          refine WP_region ?_
          refine O (r_move (v := Value.bool (rv1 == 94)) rfl) rfl ?_
          refine OW_nil ?_
          rcases condS hM with ⟨hc53, hM⟩ | ⟨hc53, hM⟩
          · refine WP_true rfl hc53 ?_
            refine WP_region ?_
            refine O (r_loadN (cs := xv66.1.map (Value.int .u64)) ti24 rfl (by simp [xv66.2]) (hs.cells (i := 0) rfl)) rfl ?_
            obtain ⟨rv71, hrv71, hM⟩ := bindS hM
            refine C [encV .u64 xv66] cf37 rfl (ref08_Not_ok hrv71 hs.imm) rfl ?_
            rintro v71 wv132 ⟨gg119, hvv71, hegg119⟩
            have hlegg119 := hegg119.le hs.imm
            replace hs := hs.call hegg119
            replace hagi := hagi.trans hlegg119
            replace hagg59 := hagg59.trans hlegg119
            obtain ⟨cs71, rfl, hcs71⟩ := hvv71
            have hcs71 : cs71 = _ := hcs71; subst hcs71
            refine OW_storeAll ti24 hs (i := 0) rfl rfl (v := encV .u64 rv71) rfl (vs := rv71.1.map (Value.int .u64)) rfl vec_one (by simp [rv71.2]) (by simp [rv71.2, xv66.2]) ?_
            intro wv133 hs
            refine OW_nil ?_
            obtain rfl := Option.some.inj hM
            exact ⟨gg119, rfl, rfl, hds, hagg59, hs⟩
          · refine WP_false rfl hc53 ?_
            refine WP_skip ?_
            obtain rfl := Option.some.inj hM
            exact ⟨gg59, rfl, rfl, hds, (Hle.refl _), hs⟩
        · clear hs
          rintro E w ⟨gg118, hE2, hE4, hds, hlegg118, hs⟩
          have hM := hKhx57
          obtain ⟨E, rfl⟩ := open1 (E := E) hE2
          obtain ⟨E, rfl⟩ := open1 (E := E) hE4
          replace hagi := hagi.trans hlegg118
          refine WP_seq ?_
          refine WP_region ?_
          refine O (r_loadN (cs := xv130.1.map (Value.int .u64)) ti24 rfl (by simp [xv130.2]) (hs.cells (i := 0) rfl)) rfl ?_
          refine O (r_build (vs := [(0, Value.int .i64 3), (1, encV .u64 xv130)]) (cs := ([Value.int .i64 3]) ++ ((xv130.1.map (Value.int .u64)) ++ ([Value.slice none 0 0]))) rfl (built_fill [(0, 1), (1, 4), (5, 1)] (([Value.int .i64 0]) ++ (((Vec.zero 4).1.map (Value.int .u64)) ++ ([Value.slice none 0 0]))) (fun _ => by kernel_rfl) (fill_step ([]) ([Value.int .i64 0]) (((Vec.zero 4).1.map (Value.int .u64)) ++ ([Value.slice none 0 0])) ([Value.int .i64 3]) rfl (by simp) rfl rfl rfl rfl <| fill_step ([Value.int .i64 3]) ((Vec.zero 4).1.map (Value.int .u64)) ([Value.slice none 0 0]) (xv130.1.map (Value.int .u64)) rfl (by simp) rfl rfl (by simp [(Vec.zero 4).2]) (by simp [xv130.2]) <| fill_done))) rfl ?_
          refine OW_storeAll ti27 hs (i := 2) rfl rfl (v := Value.agg (List.toArray (α := Value) (([Value.int .i64 3]) ++ ((xv130.1.map (Value.int .u64)) ++ ([Value.slice none 0 0]))))) rfl (vs := ([Value.int .i64 3]) ++ ((xv130.1.map (Value.int .u64)) ++ ([Value.slice none 0 0]))) rfl (one_append (one_cons rfl one_nil) (one_append vec_one (one_cons rfl one_nil))) (by simp [xv130.2]) (by simp [xv130.2, (Vec.zero 4).2]) ?_
          intro wv134 hs
          refine OW_nil ?_
          refine WP_ret ?_
          obtain rfl := Option.some.inj hM
          refine FL_nil hds ?_
          exact ⟨_, res1 Tryd.results86 (rv_cells (vs := ([Value.int .i64 3]) ++ ((xv130.1.map (Value.int .u64)) ++ ([Value.slice none 0 0]))) ti27 rfl (by simp [xv130.2]) (hs.cells (i := 2) rfl)), gg118, ⟨([Value.int .i64 3]) ++ ((xv130.1.map (Value.int .u64)) ++ ([Value.slice none 0 0])), rfl, (tT_Regex_iff.2 ⟨[Value.int .i64 3], xv130.1.map (Value.int .u64), [Value.slice none 0 0], rfl, rfl, rfl, ⟨_, rfl, RdS.nil⟩⟩)⟩, hagi, (Sep.selT (A := [Go.Lx.box b3 24 (xv130.1.map (Value.int .u64)), Go.Lx.box b1 52 ([encS xv64, Value.int .i64 t47, Value.bool xv65]), Go.Lx.box b2 27 (([Value.int .i64 3]) ++ ((xv130.1.map (Value.int .u64)) ++ ([Value.slice none 0 0])))]) (A' := [Go.Lx.box b1 52 ([encS xv64, Value.int .i64 t47, Value.bool xv65])]) (L := Lt) hs [1] (by decide) rfl)⟩

set_option maxRecDepth 100000 in
theorem ref08_star_ok {rv1 : T_Regex} {r : T_Regex} (hM : M.ref08_star rv1 = some r) {g0 : Hp} {w0 : World} (hi : Imm g0 w0) {cs1 : List Value} (hcs1 : tT_Regex.rel g0 cs1 rv1) :
    CallsV Tryd.prog 76 #[Value.agg cs1.toArray] w0 (fun v w' => ∃ g', (VRd tT_Regex true g' v r) ∧ Ext g0 w0 g' w') := by
  unfold M.ref08_star at hM
  obtain ⟨cs2, cs3, cs4, rfl, hcs2, hcs3, hcs4⟩ := tT_Regex_iff.1 hcs1
  have hcs2 : cs2 = _ := hcs2; subst hcs2
  have hcs3 : cs3 = _ := hcs3; subst hcs3
  obtain ⟨v1, rfl, hRv1⟩ := hcs4
  have hs := Sep.start hi
  refine calls_of_WP (args := [Value.agg (List.toArray (α := Value) (([Value.int .i64 rv1.Kind]) ++ ((rv1.Set.1.map (Value.int .u64)) ++ ([v1]))))]) Tryd.func76 rfl Tryd.ntmps76 rfl ?_
  have hds : (argEnv [Value.agg (List.toArray (α := Value) (([Value.int .i64 rv1.Kind]) ++ ((rv1.Set.1.map (Value.int .u64)) ++ ([v1]))))]).ds = [] := rfl
  refine WP_seq ?_
  refine WP_region ?_
  refine OW_box (v := Value.agg (List.toArray (α := Value) (([Value.int .i64 rv1.Kind]) ++ ((rv1.Set.1.map (Value.int .u64)) ++ ([v1]))))) rfl hs (zs := ([Value.int .i64 rv1.Kind]) ++ ((rv1.Set.1.map (Value.int .u64)) ++ ([v1]))) rfl rfl ?_
  intro b1 wv1 hs
  refine OW_alloc ti27 hs (zs := ([Value.int .i64 0]) ++ (((Vec.zero 4).1.map (Value.int .u64)) ++ ([Value.slice none 0 0]))) rfl rfl ?_
  intro b2 wv2 hs
  refine OW_nil ?_
  refine WP_seq ?_
  refine WP_region ?_
  refine O (r_loadN (cs := ([Value.int .i64 rv1.Kind]) ++ ((rv1.Set.1.map (Value.int .u64)) ++ ([v1]))) ti27 rfl (by simp [rv1.Set.2]) (hs.cells (i := 1) rfl)) rfl ?_
  refine OW_lit (τ := tT_Regex) [Value.agg (List.toArray (α := Value) (([Value.int .i64 rv1.Kind]) ++ ((rv1.Set.1.map (Value.int .u64)) ++ ([v1]))))] [rv1] Tryd.underlying25 ti27 (by decide) hs rfl rfl rfl ⟨(tT_Regex_iff.2 ⟨[Value.int .i64 rv1.Kind], rv1.Set.1.map (Value.int .u64), [v1], rfl, rfl, rfl, ⟨_, rfl, hRv1⟩⟩), trivial⟩ rfl ?_
  intro v2 wv3 xs1 hrelxs1 hs
  have ho1 := one_of_shape (hs.rowShape (i := 0) rfl)
  refine O (r_build (vs := [(0, Value.int .i64 6), (2, v2)]) (cs := ([Value.int .i64 6]) ++ (((Vec.zero 4).1.map (Value.int .u64)) ++ ([v2]))) rfl (built_fill [(0, 1), (1, 4), (5, 1)] (([Value.int .i64 0]) ++ (((Vec.zero 4).1.map (Value.int .u64)) ++ ([Value.slice none 0 0]))) (fun _ => by kernel_rfl) (fill_step ([]) ([Value.int .i64 0]) (((Vec.zero 4).1.map (Value.int .u64)) ++ ([Value.slice none 0 0])) ([Value.int .i64 6]) rfl (by simp) rfl rfl rfl rfl <| fill_step (([Value.int .i64 6]) ++ ((Vec.zero 4).1.map (Value.int .u64))) ([Value.slice none 0 0]) ([]) ([v2]) rfl (by simp) (cells_one ho1) (by simp [(Vec.zero 4).2]) rfl rfl <| fill_done))) rfl ?_
  refine OW_storeAll ti27 hs (i := 1) rfl rfl (v := Value.agg (List.toArray (α := Value) (([Value.int .i64 6]) ++ (((Vec.zero 4).1.map (Value.int .u64)) ++ ([v2]))))) rfl (vs := ([Value.int .i64 6]) ++ (((Vec.zero 4).1.map (Value.int .u64)) ++ ([v2]))) rfl (one_append (one_cons rfl one_nil) (one_append vec_one (one_cons (by obtain ⟨_, _, h9⟩ := hs.rowShape (i := 0) rfl; rw [h9]; rfl) one_nil))) (by simp [(Vec.zero 4).2]) (by simp [(Vec.zero 4).2, (Vec.zero 4).2]) ?_
  intro wv4 hs
  refine OW_nil ?_
  refine WP_ret ?_
  obtain rfl := Option.some.inj hM
  obtain ⟨gg1, hlegg1, hRgg1, hs⟩ := hs.relRow (i := 0) rfl hrelxs1
  replace hRv1 := hRv1.mono hlegg1
  refine FL_nil hds ?_
  exact ⟨_, res1 Tryd.results76 (rv_cells (vs := ([Value.int .i64 6]) ++ (((Vec.zero 4).1.map (Value.int .u64)) ++ ([v2]))) ti27 rfl (by simp [(Vec.zero 4).2]) (hs.cells (i := 0) rfl)), gg1, ⟨([Value.int .i64 6]) ++ (((Vec.zero 4).1.map (Value.int .u64)) ++ ([v2])), rfl, (tT_Regex_iff.2 ⟨[Value.int .i64 6], (Vec.zero 4).1.map (Value.int .u64), [v2], rfl, rfl, rfl, ⟨_, rfl, hRgg1⟩⟩)⟩, hs.ext⟩


end Go.Proofs.YtffienmbeifioaaDoor
