/- The walks: what each function does is what its model says. Printed by a program of my own. -/
import Derived.Test.YtffienmbeifioaaDoorTyp
import Derived.Test.YtffienmbeifioaaDoorWalk8
import Derived.Test.YtffienmbeifioaaDoorWalk9
set_option linter.unusedVariables false
set_option linter.unusedSimpArgs false
namespace Go.Proofs.YtffienmbeifioaaDoor
open Go.Lx Go.RowKit
set_option maxRecDepth 100000 in
theorem ref08_writable_ok {s1 : (Vec 4)} {r : Bool} (hM : M.ref08_writable s1 = some r) {g0 : Hp} {w0 : World} (hi : Imm g0 w0) :
    CallsV Tryd.prog 36 #[encV .u64 s1] w0 (fun v w' => ∃ g', (VRd tBool false g' v r) ∧ Ext g0 w0 g' w') := by
  unfold M.ref08_writable at hM
  have hs := Sep.start hi
  refine calls_of_WP (args := [encV .u64 s1]) Tryd.func36 rfl Tryd.ntmps36 rfl ?_
  have hds : (argEnv [encV .u64 s1]).ds = [] := rfl
  refine WP_seq ?_
  refine WP_region ?_
  refine OW_box (v := encV .u64 s1) rfl hs (zs := s1.1.map (Value.int .u64)) rfl rfl ?_
  intro b1 wv1 hs
  refine O (r_assign (v := Value.bool false) rfl) rfl ?_
  refine OW_nil ?_
  obtain ⟨o3, hx4, hKhx4⟩ := stepS hM
  refine WP_cut (fun E w => ∃ u9 : Unit, o3 = .next u9 ∧ ∃ (gg13 : Hp), E 1 = Value.pointer (some ⟨b1, 0, none⟩) ∧ E.ds = [] ∧ Hle g0 gg13 ∧ Go.Lx.Sep g0 w0 gg13 w [Go.Lx.box b1 24 (s1.1.map (Value.int .u64))]) ?_ ?_
  · have hM := hx4
    have hag0 := Hle.refl g0
    refine WP_seq ?_
    refine WP_region ?_
    refine O (r_assign (v := Value.int .i64 0) rfl) rfl ?_
    refine OW_nil ?_
    refine WP_block ?_
    refine WP_loop (fun (b6 : Int) E w => ∃ (gg18 : Hp), E 1 = Value.pointer (some ⟨b1, 0, none⟩) ∧ E 3 = Value.int .i64 b6 ∧ E.ds = [] ∧ Hle g0 gg18 ∧ Go.Lx.Sep g0 w0 gg18 w [Go.Lx.box b1 24 (s1.1.map (Value.int .u64))]) hM ⟨g0, rfl, rfl, hds, (Hle.refl _), hs⟩ ?_
    clear hs hM
    rintro b6 o2 E w hM ⟨gg18, hE1, hE3, hds, hlegg18, hs⟩
    obtain ⟨E, rfl⟩ := open1 (E := E) hE1
    obtain ⟨E, rfl⟩ := open1 (E := E) hE3
    replace hag0 := hag0.trans hlegg18
    have hagg18 := Hle.refl gg18
    refine WP_seq ?_
    refine WP_seq ?_
    refine WP_region ?_
    refine O (r_move (v := Value.int .i64 b6) rfl) rfl ?_
    refine O (r_lss rfl rfl) rfl ?_
    refine OW_nil ?_
    rcases condS hM with ⟨hc11, hM⟩ | ⟨hc11, hM⟩
    · refine WP_true rfl hc11 ?_
      refine WP_skip ?_
      refine WP_seq ?_
      refine WP_block ?_
      obtain ⟨xv6, hx7, hKhx7⟩ := bindS hM
      refine WP_cut (fun E w => ∃ (gg24 : Hp), E 1 = Value.pointer (some ⟨b1, 0, none⟩) ∧ E 3 = Value.int .i64 b6 ∧ E 26 = Value.bool xv6 ∧ E.ds = [] ∧ Hle gg18 gg24 ∧ Go.Lx.Sep g0 w0 gg24 w [Go.Lx.box b1 24 (s1.1.map (Value.int .u64))]) ?_ ?_
      · have hM := hx7
        refine WP_region ?_
        refine O (r_loadN (cs := s1.1.map (Value.int .u64)) ti24 rfl (by simp [s1.2]) (hs.cells (i := 0) rfl)) rfl ?_
        refine O (r_move (v := Value.int .i64 b6) rfl) rfl ?_
        obtain ⟨rv12, hrv12, hM⟩ := bindS hM
        refine C [encV .u64 s1, Value.int .i64 b6] cf52 rfl (ref08_Has_ok hrv12 hs.imm) rfl ?_
        rintro v12 wv13 ⟨gg25, hvv12, hegg25⟩
        have hlegg25 := hegg25.le hs.imm
        replace hs := hs.call hegg25
        replace hlegg18 := hlegg18.trans hlegg25
        replace hagg18 := hagg18.trans hlegg25
        obtain ⟨cs12, rfl, hcs12⟩ := hvv12
        have hcs12 : cs12 = _ := hcs12; subst hcs12
        refine O (r_move (v := Value.bool rv12) rfl) rfl ?_
        rcases condS hM with ⟨hg56, hM⟩ | ⟨hg56, hM⟩
        · refine OG rfl rfl rfl (by rw [hg56]; rfl) (r_move (v := Value.int .i64 b6) rfl) rfl ?_
          refine OG rfl rfl rfl (by rw [hg56]; rfl) (r_lss rfl rfl) rfl ?_
          refine OG rfl rfl rfl (by rw [hg56]; rfl) (r_move (v := Value.bool (decide (b6 < 32))) rfl) rfl ?_
          rcases condS hM with ⟨hg57, hM⟩ | ⟨hg57, hM⟩
          · refine OK rfl rfl rfl (by rw [hg57]; rfl) rfl ?_
            refine OK rfl rfl rfl (by rw [hg57]; rfl) rfl ?_
            refine OG rfl rfl rfl (by rw [hg56]; rfl) (r_pickT (v := Value.bool true) rfl hg57 rfl) rfl ?_
            refine O (r_pickT (v := Value.bool true) rfl hg56 rfl) rfl ?_
            refine O (r_move (v := Value.bool true) rfl) rfl ?_
            refine OG rfl rfl rfl rfl (r_move (v := Value.int .i64 b6) rfl) rfl ?_
            refine OG rfl rfl rfl rfl (r_neq rfl rfl) rfl ?_
            refine O (r_pickT (v := Value.bool (b6 != 10)) rfl rfl rfl) rfl ?_
            refine O (r_move (v := Value.bool (b6 != 10)) rfl) rfl ?_
            rcases condS hM with ⟨hg58, hM⟩ | ⟨hg58, hM⟩
            · refine OG rfl rfl rfl (by rw [hg58]; rfl) (r_move (v := Value.int .i64 b6) rfl) rfl ?_
              refine OG rfl rfl rfl (by rw [hg58]; rfl) (r_neq rfl rfl) rfl ?_
              refine O (r_pickT (v := Value.bool (b6 != 9)) rfl hg58 rfl) rfl ?_
              refine OW_nil ?_
              obtain rfl := Option.some.inj hM
              exact ⟨gg25, rfl, rfl, rfl, hds, hagg18, hs⟩
            · refine OK rfl rfl rfl (by rw [hg58]; rfl) rfl ?_
              refine OK rfl rfl rfl (by rw [hg58]; rfl) rfl ?_
              refine O (r_pickF (v := Value.bool false) rfl hg58 rfl) rfl ?_
              refine OW_nil ?_
              obtain rfl := Option.some.inj hM
              exact ⟨gg25, rfl, rfl, rfl, hds, hagg18, hs⟩
          · refine OG rfl rfl rfl (by rw [hg57]; rfl) (r_move (v := Value.int .i64 b6) rfl) rfl ?_
            refine OG rfl rfl rfl (by rw [hg57]; rfl) (r_gtr rfl rfl) rfl ?_
            refine OG rfl rfl rfl (by rw [hg56]; rfl) (r_pickF (v := Value.bool (decide (126 < b6))) rfl hg57 rfl) rfl ?_
            refine O (r_pickT (v := Value.bool (decide (126 < b6))) rfl hg56 rfl) rfl ?_
            refine O (r_move (v := Value.bool (decide (126 < b6))) rfl) rfl ?_
            rcases condS hM with ⟨hg59, hM⟩ | ⟨hg59, hM⟩
            · refine OG rfl rfl rfl (by rw [hg59]; rfl) (r_move (v := Value.int .i64 b6) rfl) rfl ?_
              refine OG rfl rfl rfl (by rw [hg59]; rfl) (r_neq rfl rfl) rfl ?_
              refine O (r_pickT (v := Value.bool (b6 != 10)) rfl hg59 rfl) rfl ?_
              refine O (r_move (v := Value.bool (b6 != 10)) rfl) rfl ?_
              rcases condS hM with ⟨hg60, hM⟩ | ⟨hg60, hM⟩
              · refine OG rfl rfl rfl (by rw [hg60]; rfl) (r_move (v := Value.int .i64 b6) rfl) rfl ?_
                refine OG rfl rfl rfl (by rw [hg60]; rfl) (r_neq rfl rfl) rfl ?_
                refine O (r_pickT (v := Value.bool (b6 != 9)) rfl hg60 rfl) rfl ?_
                refine OW_nil ?_
                obtain rfl := Option.some.inj hM
                exact ⟨gg25, rfl, rfl, rfl, hds, hagg18, hs⟩
              · refine OK rfl rfl rfl (by rw [hg60]; rfl) rfl ?_
                refine OK rfl rfl rfl (by rw [hg60]; rfl) rfl ?_
                refine O (r_pickF (v := Value.bool false) rfl hg60 rfl) rfl ?_
                refine OW_nil ?_
                obtain rfl := Option.some.inj hM
                exact ⟨gg25, rfl, rfl, rfl, hds, hagg18, hs⟩
            · refine OK rfl rfl rfl (by rw [hg59]; rfl) rfl ?_
              refine OK rfl rfl rfl (by rw [hg59]; rfl) rfl ?_
              refine O (r_pickF (v := Value.bool false) rfl hg59 rfl) rfl ?_
              refine O (r_move (v := Value.bool false) rfl) rfl ?_
              refine OK rfl rfl rfl rfl rfl ?_
              refine OK rfl rfl rfl rfl rfl ?_
              refine O (r_pickF (v := Value.bool false) rfl rfl rfl) rfl ?_
              refine OW_nil ?_
              obtain rfl := Option.some.inj hM
              exact ⟨gg25, rfl, rfl, rfl, hds, hagg18, hs⟩
        · refine OK rfl rfl rfl (by rw [hg56]; rfl) rfl ?_
          refine OK rfl rfl rfl (by rw [hg56]; rfl) rfl ?_
          refine OK rfl rfl rfl (by rw [hg56]; rfl) rfl ?_
          refine OKU rfl rfl rfl rfl ?_
          refine OKU rfl rfl rfl rfl ?_
          refine OK rfl rfl rfl (by rw [hg56]; rfl) rfl ?_
          refine O (r_pickF (v := Value.bool false) rfl hg56 rfl) rfl ?_
          refine O (r_move (v := Value.bool false) rfl) rfl ?_
          refine OK rfl rfl rfl rfl rfl ?_
          refine OK rfl rfl rfl rfl rfl ?_
          refine O (r_pickF (v := Value.bool false) rfl rfl rfl) rfl ?_
          refine O (r_move (v := Value.bool false) rfl) rfl ?_
          refine OK rfl rfl rfl rfl rfl ?_
          refine OK rfl rfl rfl rfl rfl ?_
          refine O (r_pickF (v := Value.bool false) rfl rfl rfl) rfl ?_
          refine OW_nil ?_
          obtain rfl := Option.some.inj hM
          exact ⟨gg25, rfl, rfl, rfl, hds, hagg18, hs⟩
      · clear hs
        rintro E w ⟨gg24, hE1, hE3, hE26, hds, hlegg24, hs⟩
        have hM := hKhx7
        obtain ⟨E, rfl⟩ := open1 (E := E) hE1
        obtain ⟨E, rfl⟩ := open1 (E := E) hE3
        obtain ⟨E, rfl⟩ := open1 (E := E) hE26
        replace hlegg18 := hlegg18.trans hlegg24
        replace hagg18 := hagg18.trans hlegg24
        rcases condS hM with ⟨hc12, hM⟩ | ⟨hc12, hM⟩
        · refine WP_true rfl hc12 ?_
          refine WP_seq ?_
          refine WP_region ?_
          refine O (r_assign (v := Value.bool false) rfl) rfl ?_
          refine OW_nil ?_
          refine WP_ret ?_
          obtain rfl := Option.some.inj hM
          refine fun hr => ?_
          have hM := congrArg some hr
          obtain rfl := Option.some.inj hM
          have hM := hKhx4
          obtain rfl := Option.some.inj hM
          refine FL_nil hds ?_
          exact ⟨_, res1 Tryd.results36 (rv_tmp (v := Value.bool false) rfl), gg24, ⟨[Value.bool false], rfl, rfl⟩, hs.ext⟩
        · refine WP_false rfl hc12 ?_
          refine WP_skip ?_
          refine WP_region ?_
          refine O (r_move (v := Value.int .i64 b6) rfl) rfl ?_
          obtain ⟨t6, ht6, hM⟩ := bindS hM
          refine O (r_addM rfl rfl ht6) rfl ?_
          refine O (r_assign (v := Value.int .i64 t6) rfl) rfl ?_
          refine OW_nil ?_
          obtain rfl := Option.some.inj hM
          exact ⟨gg24, rfl, rfl, hds, hlegg18, hs⟩
    · refine WP_false rfl hc11 ?_
      refine WP_exit ?_
      obtain rfl := Option.some.inj hM
      refine fun hr => ?_
      have hM := congrArg some hr
      obtain rfl := Option.some.inj hM
      exact ⟨(), rfl, gg18, rfl, hds, hlegg18, hs⟩
  · clear hs
    rintro E w ⟨_, rfl, gg13, hE1, hds, hlegg13, hs⟩
    have hM := hKhx4
    dsimp only [onStep] at hM
    obtain ⟨E, rfl⟩ := open1 (E := E) hE1
    refine WP_seq ?_
    refine WP_region ?_
    refine O (r_loadN (cs := s1.1.map (Value.int .u64)) ti24 rfl (by simp [s1.2]) (hs.cells (i := 0) rfl)) rfl ?_
    refine O (r_build (vs := []) (cs := (Vec.zero 4).1.map (Value.int .u64)) rfl (by kernel_rfl)) rfl ?_
    refine O (r_neqV Tryd.underlying24 Tryd.underlying22 ti22 rfl rfl eg24) rfl ?_
    refine O (r_assign (v := Value.bool (s1 != (Vec.zero 4))) rfl) rfl ?_
    refine OW_nil ?_
    refine WP_ret ?_
    obtain rfl := Option.some.inj hM
    refine FL_nil hds ?_
    exact ⟨_, res1 Tryd.results36 (rv_tmp (v := Value.bool (s1 != (Vec.zero 4))) rfl), gg13, ⟨[Value.bool (s1 != (Vec.zero 4))], rfl, rfl⟩, hs.ext⟩

def C.ref08_Printable (fl : Nat) : Prop := ∀ {rv1 : T_Regex} {r : Bool} (_ : M.ref08_Printable fl rv1 = some r) {g0 : Hp} {w0 : World} (hi : Imm g0 w0) {cs1 : List Value} (hcs1 : tT_Regex.rel g0 cs1 rv1),
    CallsV Tryd.prog 20 #[Value.agg cs1.toArray] w0 (fun v w' => ∃ g', (VRd tBool false g' v r) ∧ Ext g0 w0 g' w')
set_option maxRecDepth 100000 in
theorem ref08_Printable_step {fl : Nat} (ih_ref08_Printable : C.ref08_Printable fl) : C.ref08_Printable (fl + 1) := by
  intro rv1 r hM g0 w0 hi cs1 hcs1
  unfold M.ref08_Printable at hM
  obtain ⟨cs2, cs3, cs4, rfl, hcs2, hcs3, hcs4⟩ := tT_Regex_iff.1 hcs1
  have hcs2 : cs2 = _ := hcs2; subst hcs2
  have hcs3 : cs3 = _ := hcs3; subst hcs3
  obtain ⟨v1, rfl, hRv1⟩ := hcs4
  have hs := Sep.start hi
  refine calls_of_WP (args := [Value.agg (List.toArray (α := Value) (([Value.int .i64 rv1.Kind]) ++ ((rv1.Set.1.map (Value.int .u64)) ++ ([v1]))))]) Tryd.func20 rfl Tryd.ntmps20 rfl ?_
  have hds : (argEnv [Value.agg (List.toArray (α := Value) (([Value.int .i64 rv1.Kind]) ++ ((rv1.Set.1.map (Value.int .u64)) ++ ([v1]))))]).ds = [] := rfl
  refine WP_seq ?_
  refine WP_region ?_
  refine OW_box (v := Value.agg (List.toArray (α := Value) (([Value.int .i64 rv1.Kind]) ++ ((rv1.Set.1.map (Value.int .u64)) ++ ([v1]))))) rfl hs (zs := ([Value.int .i64 rv1.Kind]) ++ ((rv1.Set.1.map (Value.int .u64)) ++ ([v1]))) rfl rfl ?_
  intro b1 wv1 hs
  refine O (r_assign (v := Value.bool false) rfl) rfl ?_
  refine OW_nil ?_
  refine WP_seq ?_
  obtain ⟨xv1, hx1, hKhx1⟩ := bindS hM
  refine WP_cut (fun E w => ∃ (gg4 : Hp), E 1 = Value.pointer (some ⟨b1, 0, none⟩) ∧ E 24 = Value.bool xv1 ∧ E.ds = [] ∧ Hle g0 gg4 ∧ Go.Lx.Sep g0 w0 gg4 w [Go.Lx.box b1 27 (([Value.int .i64 rv1.Kind]) ++ ((rv1.Set.1.map (Value.int .u64)) ++ ([v1])))]) ?_ ?_
  · have hM := hx1
    have hag0 := Hle.refl g0
    refine WP_region ?_
    refine O (r_fieldAddr Tryd.underlying27 ti3 rfl rfl (by decide) rfl rfl) rfl ?_
    refine O (r_load (v := Value.int .i64 rv1.Kind) ti3 rfl (hs.cell (i := 0) (o := 0) rfl (by simp [rv1.Set.2]))) rfl ?_
    refine O (r_eql rfl rfl) rfl ?_
    refine O (r_move (v := Value.bool (rv1.Kind == 1)) rfl) rfl ?_
    rcases condS hM with ⟨hg4, hM⟩ | ⟨hg4, hM⟩
    · refine OK rfl rfl rfl (by rw [hg4]; rfl) rfl ?_
      refine OK rfl rfl rfl (by rw [hg4]; rfl) rfl ?_
      refine OK rfl rfl rfl (by rw [hg4]; rfl) rfl ?_
      refine OK rfl rfl rfl (by rw [hg4]; rfl) rfl ?_
      refine OKU rfl rfl rfl rfl ?_
      refine OKU rfl rfl rfl rfl ?_
      refine OKU rfl rfl rfl rfl ?_
      refine OKU rfl rfl rfl rfl ?_
      refine OK rfl rfl rfl (by rw [hg4]; rfl) rfl ?_
      refine OK rfl rfl rfl (by rw [hg4]; rfl) rfl ?_
      refine OKU rfl rfl rfl rfl ?_
      refine OKU rfl rfl rfl rfl ?_
      refine OKU rfl rfl rfl rfl ?_
      refine OKU rfl rfl rfl rfl ?_
      refine OKU rfl rfl rfl rfl ?_
      refine OK rfl rfl rfl (by rw [hg4]; rfl) rfl ?_
      refine O (r_pickT (v := Value.bool true) rfl hg4 rfl) rfl ?_
      refine OW_nil ?_
      obtain rfl := Option.some.inj hM
      exact ⟨g0, rfl, rfl, hds, (Hle.refl _), hs⟩
    · refine OG rfl rfl rfl (by rw [hg4]; rfl) (r_fieldAddr Tryd.underlying27 ti3 rfl rfl (by decide) rfl rfl) rfl ?_
      refine OG rfl rfl rfl (by rw [hg4]; rfl) (r_load (v := Value.int .i64 rv1.Kind) ti3 rfl (hs.cell (i := 0) (o := 0) rfl (by simp [rv1.Set.2]))) rfl ?_
      refine OG rfl rfl rfl (by rw [hg4]; rfl) (r_eql rfl rfl) rfl ?_
      refine OG rfl rfl rfl (by rw [hg4]; rfl) (r_move (v := Value.bool (rv1.Kind == 3)) rfl) rfl ?_
      rcases condS hM with ⟨hg5, hM⟩ | ⟨hg5, hM⟩
      · refine OG rfl rfl rfl (by rw [hg5]; rfl) (r_fieldAddr Tryd.underlying27 ti24 rfl rfl (by decide) rfl rfl) rfl ?_
        refine OG rfl rfl rfl (by rw [hg5]; rfl) (r_loadN (cs := rv1.Set.1.map (Value.int .u64)) ti24 rfl (by simp [rv1.Set.2]) (hs.cellsAt (i := 0) (o := 1) rfl (by intro j u hj; exact sub_at (pre := [Value.int .i64 rv1.Kind]) (ds := rv1.Set.1.map (Value.int .u64)) (post := [v1]) rfl ((by simp)) hj))) rfl ?_
        obtain ⟨rv5, hrv5, hM⟩ := bindS hM
        refine CG rfl rfl rfl (by rw [hg5]; rfl) [encV .u64 rv1.Set] cf36 rfl (ref08_writable_ok hrv5 hs.imm) rfl ?_
        rintro v5 wv5 ⟨gg5, hvv5, hegg5⟩
        have hlegg5 := hegg5.le hs.imm
        replace hs := hs.call hegg5
        replace hRv1 := hRv1.mono hlegg5
        replace hag0 := hag0.trans hlegg5
        obtain ⟨cs8, rfl, hcs8⟩ := hvv5
        have hcs8 : cs8 = _ := hcs8; subst hcs8
        refine OG rfl rfl rfl (by rw [hg5]; rfl) (r_not rfl) rfl ?_
        refine OG rfl rfl rfl (by rw [hg4]; rfl) (r_pickT (v := Value.bool (!rv5)) rfl hg5 rfl) rfl ?_
        refine OG rfl rfl rfl (by rw [hg4]; rfl) (r_move (v := Value.bool (!rv5)) rfl) rfl ?_
        rcases condS hM with ⟨hg6, hM⟩ | ⟨hg6, hM⟩
        · refine OG rfl rfl rfl (by rw [hg6]; rfl) (r_fieldAddr Tryd.underlying27 ti24 rfl rfl (by decide) rfl rfl) rfl ?_
          refine OG rfl rfl rfl (by rw [hg6]; rfl) (r_loadN (cs := rv1.Set.1.map (Value.int .u64)) ti24 rfl (by simp [rv1.Set.2]) (hs.cellsAt (i := 0) (o := 1) rfl (by intro j u hj; exact sub_at (pre := [Value.int .i64 rv1.Kind]) (ds := rv1.Set.1.map (Value.int .u64)) (post := [v1]) rfl ((by simp)) hj))) rfl ?_
          obtain ⟨rv6, hrv6, hM⟩ := bindS hM
          refine CG rfl rfl rfl (by rw [hg6]; rfl) [encV .u64 rv1.Set] cf37 rfl (ref08_Not_ok hrv6 hs.imm) rfl ?_
          rintro v6 wv6 ⟨gg6, hvv6, hegg6⟩
          have hlegg6 := hegg6.le hs.imm
          replace hs := hs.call hegg6
          replace hRv1 := hRv1.mono hlegg6
          replace hag0 := hag0.trans hlegg6
          obtain ⟨cs9, rfl, hcs9⟩ := hvv6
          have hcs9 : cs9 = _ := hcs9; subst hcs9
          obtain ⟨rv7, hrv7, hM⟩ := bindS hM
          refine CG rfl rfl rfl (by rw [hg6]; rfl) [encV .u64 rv6] cf36 rfl (ref08_writable_ok hrv7 hs.imm) rfl ?_
          rintro v7 wv7 ⟨gg7, hvv7, hegg7⟩
          have hlegg7 := hegg7.le hs.imm
          replace hs := hs.call hegg7
          replace hRv1 := hRv1.mono hlegg7
          replace hag0 := hag0.trans hlegg7
          obtain ⟨cs10, rfl, hcs10⟩ := hvv7
          have hcs10 : cs10 = _ := hcs10; subst hcs10
          refine OG rfl rfl rfl (by rw [hg6]; rfl) (r_not rfl) rfl ?_
          refine OG rfl rfl rfl (by rw [hg4]; rfl) (r_pickT (v := Value.bool (!rv7)) rfl hg6 rfl) rfl ?_
          refine O (r_pickF (v := Value.bool (!rv7)) rfl hg4 rfl) rfl ?_
          refine OW_nil ?_
          obtain rfl := Option.some.inj hM
          exact ⟨gg7, rfl, rfl, hds, hag0, hs⟩
        · refine OK rfl rfl rfl (by rw [hg6]; rfl) rfl ?_
          refine OK rfl rfl rfl (by rw [hg6]; rfl) rfl ?_
          refine OK rfl rfl rfl (by rw [hg6]; rfl) rfl ?_
          refine OK rfl rfl rfl (by rw [hg6]; rfl) rfl ?_
          refine OK rfl rfl rfl (by rw [hg6]; rfl) rfl ?_
          refine OG rfl rfl rfl (by rw [hg4]; rfl) (r_pickF (v := Value.bool false) rfl hg6 rfl) rfl ?_
          refine O (r_pickF (v := Value.bool false) rfl hg4 rfl) rfl ?_
          refine OW_nil ?_
          obtain rfl := Option.some.inj hM
          exact ⟨gg5, rfl, rfl, hds, hag0, hs⟩
      · refine OK rfl rfl rfl (by rw [hg5]; rfl) rfl ?_
        refine OK rfl rfl rfl (by rw [hg5]; rfl) rfl ?_
        refine OK rfl rfl rfl (by rw [hg5]; rfl) rfl ?_
        refine OK rfl rfl rfl (by rw [hg5]; rfl) rfl ?_
        refine OG rfl rfl rfl (by rw [hg4]; rfl) (r_pickF (v := Value.bool false) rfl hg5 rfl) rfl ?_
        refine OG rfl rfl rfl (by rw [hg4]; rfl) (r_move (v := Value.bool false) rfl) rfl ?_
        refine OK rfl rfl rfl rfl rfl ?_
        refine OK rfl rfl rfl rfl rfl ?_
        refine OK rfl rfl rfl rfl rfl ?_
        refine OK rfl rfl rfl rfl rfl ?_
        refine OK rfl rfl rfl rfl rfl ?_
        refine OG rfl rfl rfl (by rw [hg4]; rfl) (r_pickF (v := Value.bool false) rfl rfl rfl) rfl ?_
        refine O (r_pickF (v := Value.bool false) rfl hg4 rfl) rfl ?_
        refine OW_nil ?_
        obtain rfl := Option.some.inj hM
        exact ⟨g0, rfl, rfl, hds, (Hle.refl _), hs⟩
  · clear hs
    rintro E w ⟨gg4, hE1, hE24, hds, hlegg4, hs⟩
    have hM := hKhx1
    obtain ⟨E, rfl⟩ := open1 (E := E) hE1
    obtain ⟨E, rfl⟩ := open1 (E := E) hE24
    replace hRv1 := hRv1.mono hlegg4
    rcases condS hM with ⟨hc1, hM⟩ | ⟨hc1, hM⟩
    · refine WP_true rfl hc1 ?_
      refine WP_seq ?_
      refine WP_region ?_
      refine O (r_assign (v := Value.bool false) rfl) rfl ?_
      refine OW_nil ?_
      refine WP_ret ?_
      obtain rfl := Option.some.inj hM
      refine FL_nil hds ?_
      exact ⟨_, res1 Tryd.results20 (rv_tmp (v := Value.bool false) rfl), gg4, ⟨[Value.bool false], rfl, rfl⟩, hs.ext⟩
    · refine WP_false rfl hc1 ?_
      refine WP_skip ?_
      obtain ⟨o3, hx2, hKhx2⟩ := stepS hM
      refine WP_cut (fun E w => ∃ u9 : Unit, o3 = .next u9 ∧ ∃ (gg14 : Hp), E.ds = [] ∧ Hle gg4 gg14 ∧ Go.Lx.Sep g0 w0 gg14 w []) ?_ ?_
      · have hM := hx2
        have hagg4 := Hle.refl gg4
        refine WP_seq ?_
        refine WP_region ?_
        refine O (r_assign (v := Value.int .i64 0) rfl) rfl ?_
        refine OW_nil ?_
        refine WP_block ?_
        refine WP_loop (fun (i5 : Int) E w => ∃ (gg17 : Hp), E 1 = Value.pointer (some ⟨b1, 0, none⟩) ∧ E 3 = Value.int .i64 i5 ∧ E.ds = [] ∧ Hle gg4 gg17 ∧ Go.Lx.Sep g0 w0 gg17 w [Go.Lx.box b1 27 (([Value.int .i64 rv1.Kind]) ++ ((rv1.Set.1.map (Value.int .u64)) ++ ([v1])))]) hM ⟨gg4, rfl, rfl, hds, (Hle.refl _), hs⟩ ?_
        clear hs hM
        rintro i5 o2 E w hM ⟨gg17, hE1, hE3, hds, hlegg17, hs⟩
        obtain ⟨E, rfl⟩ := open1 (E := E) hE1
        obtain ⟨E, rfl⟩ := open1 (E := E) hE3
        replace hRv1 := hRv1.mono hlegg17
        replace hagg4 := hagg4.trans hlegg17
        have hagg17 := Hle.refl gg17
        refine WP_seq ?_
        refine WP_seq ?_
        refine WP_region ?_
        refine O (r_move (v := Value.int .i64 i5) rfl) rfl ?_
        refine O (r_fieldAddr Tryd.underlying27 ti25 rfl rfl (by decide) rfl rfl) rfl ?_
        refine O (r_load (v := v1) ti25 rfl (hs.cell (i := 0) (o := 5) rfl (by simp [rv1.Set.2]))) rfl ?_
        obtain ⟨a6, ca6, hva6⟩ := hRv1.shape
        refine O (r_lenSl (v := v1) Tryd.underlying25 rfl hva6) rfl ?_
        refine O (r_lss rfl rfl) rfl ?_
        refine OW_nil ?_
        rcases condS hM with ⟨hc12, hM⟩ | ⟨hc12, hM⟩
        · refine WP_true rfl hc12 ?_
          refine WP_skip ?_
          refine WP_seq ?_
          refine WP_block ?_
          refine WP_seq ?_
          refine WP_region ?_
          refine O (r_fieldAddr Tryd.underlying27 ti25 rfl rfl (by decide) rfl rfl) rfl ?_
          refine O (r_load (v := v1) ti25 rfl (hs.cell (i := 0) (o := 5) rfl (by simp [rv1.Set.2]))) rfl ?_
          refine O (r_move (v := Value.int .i64 i5) rfl) rfl ?_
          obtain ⟨e6, he6, hM⟩ := bindS hM
          obtain ⟨b7, ob7, cb7, hvb7, cs36, hcs36, hcb7⟩ := hRv1.at he6
          obtain ⟨cs37, cs38, cs39, rfl, hcs37, hcs38, hcs39⟩ := tT_Regex_iff.1 hcs36
          have hcs37 : cs37 = _ := hcs37; subst hcs37
          have hcs38 : cs38 = _ := hcs38; subst hcs38
          obtain ⟨v18, rfl, hRv18⟩ := hcs39
          refine O (r_idxSl Tryd.underlying25 ti27 (v := v1) rfl hvb7 rfl (idxL_some he6).1 (idxL_some he6).2.1) rfl ?_
          refine O (r_loadEl (cs := ([Value.int .i64 e6.Kind]) ++ ((e6.Set.1.map (Value.int .u64)) ++ ([v18]))) ti27 rfl (by simp [e6.Set.2]) (.inl rfl) (hcb7 _ hs.imm) (v := Value.agg (List.toArray (α := Value) (([Value.int .i64 e6.Kind]) ++ ((e6.Set.1.map (Value.int .u64)) ++ ([v18]))))) rfl) rfl ?_
          obtain ⟨rv13, hrv13, hM⟩ := bindS hM
          refine C [Value.agg (List.toArray (α := Value) (([Value.int .i64 e6.Kind]) ++ ((e6.Set.1.map (Value.int .u64)) ++ ([v18]))))] cf20 rfl (ih_ref08_Printable hrv13 hs.imm (tT_Regex_iff.2 ⟨[Value.int .i64 e6.Kind], e6.Set.1.map (Value.int .u64), [v18], rfl, rfl, rfl, ⟨_, rfl, hRv18⟩⟩)) rfl ?_
          rintro v19 wv13 ⟨gg20, hvv19, hegg20⟩
          have hlegg20 := hegg20.le hs.imm
          replace hs := hs.call hegg20
          replace hRv1 := hRv1.mono hlegg20
          replace hRv18 := hRv18.mono hlegg20
          replace hlegg17 := hlegg17.trans hlegg20
          replace hagg17 := hagg17.trans hlegg20
          obtain ⟨cs40, rfl, hcs40⟩ := hvv19
          have hcs40 : cs40 = _ := hcs40; subst hcs40
          refine O (r_not rfl) rfl ?_
          refine OW_nil ?_
          rcases condS hM with ⟨hc13, hM⟩ | ⟨hc13, hM⟩
          · refine WP_true rfl hc13 ?_
            refine WP_seq ?_
            refine WP_region ?_
            refine O (r_assign (v := Value.bool false) rfl) rfl ?_
            refine OW_nil ?_
            refine WP_ret ?_
            obtain rfl := Option.some.inj hM
            refine fun hr => ?_
            have hM := congrArg some hr
            obtain rfl := Option.some.inj hM
            have hM := hKhx2
            obtain rfl := Option.some.inj hM
            refine FL_nil hds ?_
            exact ⟨_, res1 Tryd.results20 (rv_tmp (v := Value.bool false) rfl), gg20, ⟨[Value.bool false], rfl, rfl⟩, hs.ext⟩
          · refine WP_false rfl hc13 ?_
            refine WP_skip ?_
            refine WP_region ?_
            refine O (r_move (v := Value.int .i64 i5) rfl) rfl ?_
            obtain ⟨t6, ht6, hM⟩ := bindS hM
            refine O (r_addM rfl rfl ht6) rfl ?_
            refine O (r_assign (v := Value.int .i64 t6) rfl) rfl ?_
            refine OW_nil ?_
            obtain rfl := Option.some.inj hM
            exact ⟨gg20, rfl, rfl, hds, hlegg17, hs⟩
        · refine WP_false rfl hc12 ?_
          refine WP_exit ?_
          obtain rfl := Option.some.inj hM
          refine fun hr => ?_
          have hM := congrArg some hr
          obtain rfl := Option.some.inj hM
          exact ⟨(), rfl, gg17, hds, hlegg17, (hs.sub (.cons _ .slnil))⟩
      · clear hs
        rintro E w ⟨_, rfl, gg14, hds, hlegg14, hs⟩
        have hM := hKhx2
        dsimp only [onStep] at hM
        refine WP_seq ?_
        refine WP_region ?_
        refine O (r_assign (v := Value.bool true) rfl) rfl ?_
        refine OW_nil ?_
        refine WP_ret ?_
        obtain rfl := Option.some.inj hM
        refine FL_nil hds ?_
        exact ⟨_, res1 Tryd.results20 (rv_tmp (v := Value.bool true) rfl), gg14, ⟨[Value.bool true], rfl, rfl⟩, hs.ext⟩
theorem ref08_Printable_zero : C.ref08_Printable 0 := by
  unfold C.ref08_Printable
  intros
  simp_all only [M.ref08_Printable, reduceCtorEq]
theorem ref08_Printable_all : ∀ fl, C.ref08_Printable fl := by
  intro fl
  induction fl with
  | zero => exact ref08_Printable_zero
  | succ fl ih =>
    exact ref08_Printable_step ih
theorem ref08_Printable_ok {fl : Nat} : C.ref08_Printable fl := (ref08_Printable_all fl)


end Go.Proofs.YtffienmbeifioaaDoor
