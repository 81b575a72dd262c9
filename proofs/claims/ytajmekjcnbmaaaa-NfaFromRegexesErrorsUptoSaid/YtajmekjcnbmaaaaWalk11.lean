/- The walks: what each function does is what its model says. Printed by a program of my own. -/
import Derived.Test.YtajmekjcnbmaaaaTyp
set_option linter.unusedVariables false
set_option linter.unusedSimpArgs false
namespace Go.Proofs.Ytajmekjcnbmaaaa
open Go.Lx Go.RowKit
def C.ref08_valid (fl : Nat) : Prop := ∀ {rv1 : T_Regex} {above1 : Int} {r : Bool} (_ : M.ref08_valid fl rv1 above1 = some r) {g0 : Hp} {w0 : World} (hi : Imm g0 w0) {cs1 : List Value} (hcs1 : tT_Regex.rel g0 cs1 rv1),
    CallsV Try.prog 50 #[Value.agg cs1.toArray, Value.int .i64 above1] w0 (fun v w' => ∃ g', (VRd tBool false g' v r) ∧ Ext g0 w0 g' w')
set_option maxRecDepth 100000 in
theorem ref08_valid_step {fl : Nat} (ih_ref08_valid : C.ref08_valid fl) : C.ref08_valid (fl + 1) := by
 intro rv1 above1 r hM g0 w0 hi cs1 hcs1
 unfold M.ref08_valid at hM
 obtain ⟨cs2, cs3, cs4, rfl, hcs2, hcs3, hcs4⟩ := tT_Regex_iff.1 hcs1
 have hcs2 : cs2 = _ := hcs2; subst hcs2
 have hcs3 : cs3 = _ := hcs3; subst hcs3
 obtain ⟨v1, rfl, hRv1⟩ := hcs4
 have hs := Sep.start hi
 refine calls_of_WP (args := [Value.agg (List.toArray (α := Value) (([Value.int .i64 rv1.Kind]) ++ ((rv1.Set.1.map (Value.int .u64)) ++ ([v1])))), Value.int .i64 above1]) Try.func50 rfl Try.ntmps50 rfl ?_
 have hds : (argEnv [Value.agg (List.toArray (α := Value) (([Value.int .i64 rv1.Kind]) ++ ((rv1.Set.1.map (Value.int .u64)) ++ ([v1])))), Value.int .i64 above1]).ds = [] := rfl
 refine WP_seq <| WP_region <| OW_box (v := Value.agg (List.toArray (α := Value) (([Value.int .i64 rv1.Kind]) ++ ((rv1.Set.1.map (Value.int .u64)) ++ ([v1]))))) rfl hs (zs := ([Value.int .i64 rv1.Kind]) ++ ((rv1.Set.1.map (Value.int .u64)) ++ ([v1]))) rfl rfl ?_
 intro b1 wv1 hs
 refine O (r_assign (v := Value.bool false) rfl) rfl <| OW_nil <| WP_seq ?_
 obtain ⟨xv1, hx1, hKhx1⟩ := bindS hM
 refine WP_cut (fun E w => E 1 = Value.int .i64 above1 ∧ E 2 = Value.pointer (some ⟨b1, 0, none⟩) ∧ E 19 = Value.bool xv1 ∧ E.ds = [] ∧ Go.Lx.Sep g0 w0 g0 w [Go.Lx.box b1 50 (([Value.int .i64 rv1.Kind]) ++ ((rv1.Set.1.map (Value.int .u64)) ++ ([v1])))]) ?_ ?_
 ·have hM := hx1
  have hag0 := Hle.refl g0
  refine WP_region <| O (r_move (v := Value.int .i64 above1) rfl) rfl <| O (r_geq rfl rfl) rfl <| O (r_move (v := Value.bool (decide (30 ≤ above1))) rfl) rfl ?_
  rcases condS hM with ⟨hg3, hM⟩ | ⟨hg3, hM⟩
  ·refine OK rfl rfl rfl (by rw [hg3]; rfl) rfl <| OK rfl rfl rfl (by rw [hg3]; rfl) rfl <| OK rfl rfl rfl (by rw [hg3]; rfl) rfl <| OK rfl rfl rfl (by rw [hg3]; rfl) rfl <| OKU rfl rfl rfl rfl <| OKU rfl rfl rfl rfl <| OKU rfl rfl rfl rfl <| OKU rfl rfl rfl rfl <| OK rfl rfl rfl (by rw [hg3]; rfl) rfl <| O (r_pickT (v := Value.bool true) rfl hg3 rfl) rfl <| OW_nil ?_
   obtain rfl := Option.some.inj hM
   exact ⟨rfl, rfl, rfl, hds, hs⟩
  ·refine OG rfl rfl rfl (by rw [hg3]; rfl) (r_fieldAddr Try.underlying50 ti3 rfl rfl (by decide) rfl rfl) rfl <| OG rfl rfl rfl (by rw [hg3]; rfl) (r_load (v := Value.int .i64 rv1.Kind) ti3 rfl (hs.cell (i := 0) (o := 0) rfl (by simp [rv1.Set.2]))) rfl <| OG rfl rfl rfl (by rw [hg3]; rfl) (r_neq rfl rfl) rfl <| OG rfl rfl rfl (by rw [hg3]; rfl) (r_move (v := Value.bool (rv1.Kind != 3)) rfl) rfl ?_
   rcases condS hM with ⟨hg4, hM⟩ | ⟨hg4, hM⟩
   ·refine OG rfl rfl rfl (by rw [hg4]; rfl) (r_fieldAddr Try.underlying50 ti48 rfl rfl (by decide) rfl rfl) rfl <| OG rfl rfl rfl (by rw [hg4]; rfl) (r_loadN (cs := rv1.Set.1.map (Value.int .u64)) ti48 rfl (by simp [rv1.Set.2]) (hs.cellsAt (i := 0) (o := 1) rfl (by intro j u hj; exact sub_at (pre := [Value.int .i64 rv1.Kind]) (ds := rv1.Set.1.map (Value.int .u64)) (post := [v1]) rfl ((by simp)) hj))) rfl <| OG rfl rfl rfl (by rw [hg4]; rfl) (r_build (vs := []) (cs := (Vec.zero 4).1.map (Value.int .u64)) rfl (by kernel_rfl)) rfl <| OG rfl rfl rfl (by rw [hg4]; rfl) (r_neqV Try.underlying48 Try.underlying46 ti46 rfl rfl eg48) rfl <| OG rfl rfl rfl (by rw [hg3]; rfl) (r_pickT (v := Value.bool (rv1.Set != (Vec.zero 4))) rfl hg4 rfl) rfl ?_
    refine O (r_pickF (v := Value.bool (rv1.Set != (Vec.zero 4))) rfl hg3 rfl) rfl <| OW_nil ?_
    obtain rfl := Option.some.inj hM
    exact ⟨rfl, rfl, rfl, hds, hs⟩
   ·refine OK rfl rfl rfl (by rw [hg4]; rfl) rfl <| OK rfl rfl rfl (by rw [hg4]; rfl) rfl <| OK rfl rfl rfl (by rw [hg4]; rfl) rfl <| OK rfl rfl rfl (by rw [hg4]; rfl) rfl <| OG rfl rfl rfl (by rw [hg3]; rfl) (r_pickF (v := Value.bool false) rfl hg4 rfl) rfl <| O (r_pickF (v := Value.bool false) rfl hg3 rfl) rfl <| OW_nil ?_
    obtain rfl := Option.some.inj hM
    exact ⟨rfl, rfl, rfl, hds, hs⟩
 ·clear hs
  rintro E w ⟨hE1, hE2, hE19, hds, hs⟩
  have hM := hKhx1
  obtain ⟨E, rfl⟩ := open3 (E := E) hE1 hE2 hE19
  rcases condS hM with ⟨hc1, hM⟩ | ⟨hc1, hM⟩
  ·refine WP_true rfl hc1 <| WP_seq <| WP_region <| O (r_assign (v := Value.bool false) rfl) rfl <| OW_nil <| WP_ret ?_
   obtain rfl := Option.some.inj hM
   refine FL_nil hds ?_
   exact ⟨_, res1 Try.results50 (rv_tmp (v := Value.bool false) rfl), g0, ⟨[Value.bool false], rfl, rfl⟩, hs.ext⟩
  ·refine WP_false rfl hc1 <| WP_skip <| WP_seq <| WP_region <| O (r_fieldAddr Try.underlying50 ti37 rfl rfl (by decide) rfl rfl) rfl <| O (r_load (v := v1) ti37 rfl (hs.cell (i := 0) (o := 5) rfl (by simp [rv1.Set.2]))) rfl ?_
   obtain ⟨a1, ca1, hva1⟩ := hRv1.shape
   refine O (r_lenSl (v := v1) Try.underlying37 rfl hva1) rfl <| O (r_assign (v := Value.int .i64 (rv1.Kids.length : Int)) rfl) rfl <| OW_nil ?_
   obtain ⟨o1, hx5, hKhx5⟩ := stepS hM
   refine WP_cut (fun E w => ∃ u9 : Unit, o1 = .next u9 ∧ E 1 = Value.int .i64 above1 ∧ E 2 = Value.pointer (some ⟨b1, 0, none⟩) ∧ E 5 = Value.int .i64 (rv1.Kids.length : Int) ∧ E.ds = [] ∧ Go.Lx.Sep g0 w0 g0 w [Go.Lx.box b1 50 (([Value.int .i64 rv1.Kind]) ++ ((rv1.Set.1.map (Value.int .u64)) ++ ([v1])))]) ?_ ?_
   ·have hM := hx5
    have hag0 := Hle.refl g0
    refine WP_seq <| WP_region <| O (r_fieldAddr Try.underlying50 ti3 rfl rfl (by decide) rfl rfl) rfl <| O (r_load (v := Value.int .i64 rv1.Kind) ti3 rfl (hs.cell (i := 0) (o := 0) rfl (by simp [rv1.Set.2]))) rfl <| OW_nil <| WP_block ?_
    obtain ⟨xv5, hx6, hKhx6⟩ := bindS hM
    refine WP_cut (fun E w => E 1 = Value.int .i64 above1 ∧ E 2 = Value.pointer (some ⟨b1, 0, none⟩) ∧ E 5 = Value.int .i64 (rv1.Kids.length : Int) ∧ E 24 = Value.int .i64 rv1.Kind ∧ E 25 = Value.bool xv5 ∧ E.ds = [] ∧ Go.Lx.Sep g0 w0 g0 w [Go.Lx.box b1 50 (([Value.int .i64 rv1.Kind]) ++ ((rv1.Set.1.map (Value.int .u64)) ++ ([v1])))]) ?_ ?_
    ·have hM := hx6
     refine WP_seq <| WP_region <| O (r_eql rfl rfl) rfl <| O (r_assign (v := Value.bool (rv1.Kind == 1)) rfl) rfl <| OW_nil ?_
     rcases condS hM with ⟨hc13, hM⟩ | ⟨hc13, hM⟩
     ·refine WP_true rfl hc13 <| WP_skip ?_
      obtain rfl := Option.some.inj hM
      exact ⟨rfl, rfl, rfl, rfl, rfl, hds, hs⟩
     ·refine WP_false rfl hc13 <| WP_region <| O (r_eql rfl rfl) rfl <| O (r_assign (v := Value.bool (rv1.Kind == 2)) rfl) rfl <| OW_nil ?_
      obtain rfl := Option.some.inj hM
      exact ⟨rfl, rfl, rfl, rfl, rfl, hds, hs⟩
    ·clear hs
     rintro E w ⟨hE1, hE2, hE5, hE24, hE25, hds, hs⟩
     have hM := hKhx6
     obtain ⟨E, rfl⟩ := open5 (E := E) hE1 hE2 hE5 hE24 hE25
     rcases condS hM with ⟨hc14, hM⟩ | ⟨hc14, hM⟩
     ·refine WP_true rfl hc14 <| WP_seq <| WP_region <| O (r_move (v := Value.int .i64 (rv1.Kids.length : Int)) rfl) rfl <| O (r_eql rfl rfl) rfl <| O (r_assign (v := Value.bool ((rv1.Kids.length : Int) == 0)) rfl) rfl <| OW_nil <| WP_ret ?_
      obtain rfl := Option.some.inj hM
      have hM := hKhx5
      obtain rfl := Option.some.inj hM
      refine FL_nil hds ?_
      exact ⟨_, res1 Try.results50 (rv_tmp (v := Value.bool ((rv1.Kids.length : Int) == 0)) rfl), g0, ⟨[Value.bool ((rv1.Kids.length : Int) == 0)], rfl, rfl⟩, hs.ext⟩
     ·refine WP_false rfl hc14 <| WP_seq <| WP_region <| O (r_eql rfl rfl) rfl <| O (r_assign (v := Value.bool (rv1.Kind == 3)) rfl) rfl <| OW_nil ?_
      rcases condS hM with ⟨hc15, hM⟩ | ⟨hc15, hM⟩
      ·refine WP_true rfl hc15 ?_
       obtain ⟨xv6, hx7, hKhx7⟩ := bindS hM
       refine WP_cut (fun E w => E 4 = Value.bool xv6 ∧ E.ds = [] ∧ Go.Lx.Sep g0 w0 g0 w []) ?_ ?_
       ·have hM := hx7
        refine WP_region <| O (r_move (v := Value.int .i64 (rv1.Kids.length : Int)) rfl) rfl <| O (r_eql rfl rfl) rfl <| O (r_move (v := Value.bool ((rv1.Kids.length : Int) == 0)) rfl) rfl ?_
        rcases condS hM with ⟨hg8, hM⟩ | ⟨hg8, hM⟩
        ·refine OG rfl rfl rfl (by rw [hg8]; rfl) (r_fieldAddr Try.underlying50 ti48 rfl rfl (by decide) rfl rfl) rfl <| OG rfl rfl rfl (by rw [hg8]; rfl) (r_loadN (cs := rv1.Set.1.map (Value.int .u64)) ti48 rfl (by simp [rv1.Set.2]) (hs.cellsAt (i := 0) (o := 1) rfl (by intro j u hj; exact sub_at (pre := [Value.int .i64 rv1.Kind]) (ds := rv1.Set.1.map (Value.int .u64)) (post := [v1]) rfl ((by simp)) hj))) rfl <| OG rfl rfl rfl (by rw [hg8]; rfl) (r_build (vs := []) (cs := (Vec.zero 4).1.map (Value.int .u64)) rfl (by kernel_rfl)) rfl <| OG rfl rfl rfl (by rw [hg8]; rfl) (r_neqV Try.underlying48 Try.underlying46 ti46 rfl rfl eg48) rfl <| O (r_pickT (v := Value.bool (rv1.Set != (Vec.zero 4))) rfl hg8 rfl) rfl ?_
         refine O (r_assign (v := Value.bool (rv1.Set != (Vec.zero 4))) rfl) rfl <| OW_nil ?_
         obtain rfl := Option.some.inj hM
         exact ⟨rfl, hds, (hs.sub (.cons _ .slnil))⟩
        ·refine OK rfl rfl rfl (by rw [hg8]; rfl) rfl <| OK rfl rfl rfl (by rw [hg8]; rfl) rfl <| OK rfl rfl rfl (by rw [hg8]; rfl) rfl <| OK rfl rfl rfl (by rw [hg8]; rfl) rfl <| O (r_pickF (v := Value.bool false) rfl hg8 rfl) rfl <| O (r_assign (v := Value.bool false) rfl) rfl <| OW_nil ?_
         obtain rfl := Option.some.inj hM
         exact ⟨rfl, hds, (hs.sub (.cons _ .slnil))⟩
       ·clear hs
        rintro E w ⟨hE4, hds, hs⟩
        have hM := hKhx7
        obtain ⟨E, rfl⟩ := open1 (E := E) hE4
        refine WP_ret ?_
        obtain rfl := Option.some.inj hM
        have hM := hKhx5
        obtain rfl := Option.some.inj hM
        refine FL_nil hds ?_
        exact ⟨_, res1 Try.results50 (rv_tmp (v := Value.bool xv6) rfl), g0, ⟨[Value.bool xv6], rfl, rfl⟩, hs.ext⟩
      ·refine WP_false rfl hc15 ?_
       obtain ⟨xv7, hx8, hKhx8⟩ := bindS hM
       refine WP_cut (fun E w => E 1 = Value.int .i64 above1 ∧ E 2 = Value.pointer (some ⟨b1, 0, none⟩) ∧ E 5 = Value.int .i64 (rv1.Kids.length : Int) ∧ E 24 = Value.int .i64 rv1.Kind ∧ E 40 = Value.bool xv7 ∧ E.ds = [] ∧ Go.Lx.Sep g0 w0 g0 w [Go.Lx.box b1 50 (([Value.int .i64 rv1.Kind]) ++ ((rv1.Set.1.map (Value.int .u64)) ++ ([v1])))]) ?_ ?_
       ·have hM := hx8
        refine WP_seq <| WP_region <| O (r_eql rfl rfl) rfl <| O (r_assign (v := Value.bool (rv1.Kind == 4)) rfl) rfl <| OW_nil ?_
        rcases condS hM with ⟨hc17, hM⟩ | ⟨hc17, hM⟩
        ·refine WP_true rfl hc17 <| WP_skip ?_
         obtain rfl := Option.some.inj hM
         exact ⟨rfl, rfl, rfl, rfl, rfl, hds, hs⟩
        ·refine WP_false rfl hc17 <| WP_region <| O (r_eql rfl rfl) rfl <| O (r_assign (v := Value.bool (rv1.Kind == 5)) rfl) rfl <| OW_nil ?_
         obtain rfl := Option.some.inj hM
         exact ⟨rfl, rfl, rfl, rfl, rfl, hds, hs⟩
       ·clear hs
        rintro E w ⟨hE1, hE2, hE5, hE24, hE40, hds, hs⟩
        have hM := hKhx8
        obtain ⟨E, rfl⟩ := open5 (E := E) hE1 hE2 hE5 hE24 hE40
        rcases condS hM with ⟨hc18, hM⟩ | ⟨hc18, hM⟩
        ·refine WP_true rfl hc18 <| WP_seq <| WP_region <| O (r_move (v := Value.int .i64 (rv1.Kids.length : Int)) rfl) rfl <| O (r_lss rfl rfl) rfl <| OW_nil ?_
         rcases condS hM with ⟨hc19, hM⟩ | ⟨hc19, hM⟩
         ·refine WP_true rfl hc19 <| WP_seq <| WP_region <| O (r_assign (v := Value.bool false) rfl) rfl <| OW_nil <| WP_ret ?_
          obtain rfl := Option.some.inj hM
          have hM := hKhx5
          obtain rfl := Option.some.inj hM
          refine FL_nil hds ?_
          exact ⟨_, res1 Try.results50 (rv_tmp (v := Value.bool false) rfl), g0, ⟨[Value.bool false], rfl, rfl⟩, hs.ext⟩
         ·refine WP_false rfl hc19 <| WP_skip ?_
          obtain rfl := Option.some.inj hM
          exact ⟨(), rfl, rfl, rfl, rfl, hds, hs⟩
        ·refine WP_false rfl hc18 <| WP_seq <| WP_region <| O (r_eql rfl rfl) rfl <| O (r_assign (v := Value.bool (rv1.Kind == 6)) rfl) rfl <| OW_nil ?_
         rcases condS hM with ⟨hc20, hM⟩ | ⟨hc20, hM⟩
         ·refine WP_true rfl hc20 <| WP_seq <| WP_region <| O (r_move (v := Value.int .i64 (rv1.Kids.length : Int)) rfl) rfl <| O (r_neq rfl rfl) rfl <| OW_nil ?_
          rcases condS hM with ⟨hc21, hM⟩ | ⟨hc21, hM⟩
          ·refine WP_true rfl hc21 <| WP_seq <| WP_region <| O (r_assign (v := Value.bool false) rfl) rfl <| OW_nil <| WP_ret ?_
           obtain rfl := Option.some.inj hM
           have hM := hKhx5
           obtain rfl := Option.some.inj hM
           refine FL_nil hds ?_
           exact ⟨_, res1 Try.results50 (rv_tmp (v := Value.bool false) rfl), g0, ⟨[Value.bool false], rfl, rfl⟩, hs.ext⟩
          ·refine WP_false rfl hc21 <| WP_skip ?_
           obtain rfl := Option.some.inj hM
           exact ⟨(), rfl, rfl, rfl, rfl, hds, hs⟩
         ·refine WP_false rfl hc20 <| WP_seq <| WP_region <| O (r_assign (v := Value.bool false) rfl) rfl <| OW_nil <| WP_ret ?_
          obtain rfl := Option.some.inj hM
          have hM := hKhx5
          obtain rfl := Option.some.inj hM
          refine FL_nil hds ?_
          exact ⟨_, res1 Try.results50 (rv_tmp (v := Value.bool false) rfl), g0, ⟨[Value.bool false], rfl, rfl⟩, hs.ext⟩
   ·clear hs
    rintro E w ⟨_, rfl, hE1, hE2, hE5, hds, hs⟩
    have hM := hKhx5
    dsimp only [onStep] at hM
    obtain ⟨E, rfl⟩ := open3 (E := E) hE1 hE2 hE5
    obtain ⟨o4, hx9, hKhx9⟩ := stepS hM
    refine WP_cut (fun E w => ∃ u9 : Unit, o4 = .next u9 ∧ ∃ (gg7 : Hp), E.ds = [] ∧ Hle g0 gg7 ∧ Go.Lx.Sep g0 w0 gg7 w []) ?_ ?_
    ·have hM := hx9
     have hag0 := Hle.refl g0
     refine WP_seq <| WP_region <| O (r_assign (v := Value.int .i64 0) rfl) rfl <| OW_nil <| WP_block <| WP_loop (fun (i5 : Int) E w => ∃ (gg10 : Hp), E 1 = Value.int .i64 above1 ∧ E 2 = Value.pointer (some ⟨b1, 0, none⟩) ∧ E 5 = Value.int .i64 (rv1.Kids.length : Int) ∧ E 6 = Value.int .i64 i5 ∧ E.ds = [] ∧ Hle g0 gg10 ∧ Go.Lx.Sep g0 w0 gg10 w [Go.Lx.box b1 50 (([Value.int .i64 rv1.Kind]) ++ ((rv1.Set.1.map (Value.int .u64)) ++ ([v1])))]) hM ⟨g0, rfl, rfl, rfl, rfl, hds, (Hle.refl _), hs⟩ ?_
     clear hs hM
     rintro i5 o3 E w hM ⟨gg10, hE1, hE2, hE5, hE6, hds, hlegg10, hs⟩
     obtain ⟨E, rfl⟩ := open4 (E := E) hE1 hE2 hE5 hE6
     replace hRv1 := hRv1.mono hlegg10
     have hagg10 := Hle.refl gg10
     refine WP_seq <| WP_seq <| WP_region <| O (r_move (v := Value.int .i64 i5) rfl) rfl <| O (r_move (v := Value.int .i64 (rv1.Kids.length : Int)) rfl) rfl <| O (r_lss rfl rfl) rfl <| OW_nil ?_
     rcases condS hM with ⟨hc32, hM⟩ | ⟨hc32, hM⟩
     ·refine WP_true rfl hc32 <| WP_skip <| WP_seq <| WP_block <| WP_seq <| WP_region <| O (r_fieldAddr Try.underlying50 ti37 rfl rfl (by decide) rfl rfl) rfl <| O (r_load (v := v1) ti37 rfl (hs.cell (i := 0) (o := 5) rfl (by simp [rv1.Set.2]))) rfl <| O (r_move (v := Value.int .i64 i5) rfl) rfl ?_
      obtain ⟨e6, he6, hM⟩ := bindS hM
      obtain ⟨b7, ob7, cb7, hvb7, cs30, hcs30, hcb7⟩ := hRv1.at he6
      obtain ⟨cs31, cs32, cs33, rfl, hcs31, hcs32, hcs33⟩ := tT_Regex_iff.1 hcs30
      have hcs31 : cs31 = _ := hcs31; subst hcs31
      have hcs32 : cs32 = _ := hcs32; subst hcs32
      obtain ⟨v12, rfl, hRv12⟩ := hcs33
      refine O (r_idxSl Try.underlying37 ti50 (v := v1) rfl hvb7 rfl (idxL_some he6).1 (idxL_some he6).2.1) rfl <| O (r_loadEl (cs := ([Value.int .i64 e6.Kind]) ++ ((e6.Set.1.map (Value.int .u64)) ++ ([v12]))) ti50 rfl (by simp [e6.Set.2]) (.inl rfl) (hcb7 _ hs.imm) (v := Value.agg (List.toArray (α := Value) (([Value.int .i64 e6.Kind]) ++ ((e6.Set.1.map (Value.int .u64)) ++ ([v12]))))) rfl) rfl <| O (r_move (v := Value.int .i64 above1) rfl) rfl ?_
      obtain ⟨t11, ht11, hM⟩ := bindS hM
      refine O (r_addM rfl rfl ht11) rfl ?_
      obtain ⟨rv7, hrv7, hM⟩ := bindS hM
      refine C [Value.agg (List.toArray (α := Value) (([Value.int .i64 e6.Kind]) ++ ((e6.Set.1.map (Value.int .u64)) ++ ([v12])))), Value.int .i64 t11] cf50 rfl (ih_ref08_valid hrv7 hs.imm (tT_Regex_iff.2 ⟨[Value.int .i64 e6.Kind], e6.Set.1.map (Value.int .u64), [v12], rfl, rfl, rfl, ⟨_, rfl, hRv12⟩⟩)) rfl ?_
      rintro v13 wv7 ⟨gg13, hvv13, hegg13⟩
      have hlegg13 := hegg13.le hs.imm
      replace hs := hs.call hegg13
      replace hlegg10 := hlegg10.trans hlegg13
      obtain ⟨cs34, rfl, hcs34⟩ := hvv13
      have hcs34 : cs34 = _ := hcs34; subst hcs34
      refine O (r_not rfl) rfl <| OW_nil ?_
      rcases condS hM with ⟨hc33, hM⟩ | ⟨hc33, hM⟩
      ·refine WP_true rfl hc33 <| WP_seq <| WP_region <| O (r_assign (v := Value.bool false) rfl) rfl <| OW_nil <| WP_ret ?_
       obtain rfl := Option.some.inj hM
       refine fun hr => ?_
       have hM := congrArg some hr
       obtain rfl := Option.some.inj hM
       have hM := hKhx9
       obtain rfl := Option.some.inj hM
       refine FL_nil hds ?_
       exact ⟨_, res1 Try.results50 (rv_tmp (v := Value.bool false) rfl), gg13, ⟨[Value.bool false], rfl, rfl⟩, hs.ext⟩
      ·refine WP_false rfl hc33 <| WP_skip <| WP_region <| O (r_move (v := Value.int .i64 i5) rfl) rfl ?_
       obtain ⟨t12, ht12, hM⟩ := bindS hM
       refine O (r_addM rfl rfl ht12) rfl <| O (r_assign (v := Value.int .i64 t12) rfl) rfl <| OW_nil ?_
       obtain rfl := Option.some.inj hM
       exact ⟨gg13, rfl, rfl, rfl, rfl, hds, hlegg10, hs⟩
     ·refine WP_false rfl hc32 <| WP_exit ?_
      obtain rfl := Option.some.inj hM
      refine fun hr => ?_
      have hM := congrArg some hr
      obtain rfl := Option.some.inj hM
      exact ⟨(), rfl, gg10, hds, hlegg10, (hs.sub (.cons _ .slnil))⟩
    ·clear hs
     rintro E w ⟨_, rfl, gg7, hds, hlegg7, hs⟩
     have hM := hKhx9
     dsimp only [onStep] at hM
     refine WP_seq <| WP_region <| O (r_assign (v := Value.bool true) rfl) rfl <| OW_nil <| WP_ret ?_
     obtain rfl := Option.some.inj hM
     refine FL_nil hds ?_
     exact ⟨_, res1 Try.results50 (rv_tmp (v := Value.bool true) rfl), gg7, ⟨[Value.bool true], rfl, rfl⟩, hs.ext⟩
theorem ref08_valid_zero : C.ref08_valid 0 := by
  unfold C.ref08_valid
  intros
  simp_all only [M.ref08_valid, reduceCtorEq]
theorem ref08_valid_all : ∀ fl, C.ref08_valid fl := by
  intro fl
  induction fl with
  | zero => exact ref08_valid_zero
  | succ fl ih =>
    exact ref08_valid_step ih
theorem ref08_valid_ok {fl : Nat} : C.ref08_valid fl := (ref08_valid_all fl)

set_option maxRecDepth 100000 in
theorem ref08_Valid_ok {rv1 : T_Regex} {r : Bool} (hM : M.ref08_Valid rv1 = some r) {g0 : Hp} {w0 : World} (hi : Imm g0 w0) {cs1 : List Value} (hcs1 : tT_Regex.rel g0 cs1 rv1) :
    CallsV Try.prog 38 #[Value.agg cs1.toArray] w0 (fun v w' => ∃ g', (VRd tBool false g' v r) ∧ Ext g0 w0 g' w') := by
 unfold M.ref08_Valid at hM
 obtain ⟨cs2, cs3, cs4, rfl, hcs2, hcs3, hcs4⟩ := tT_Regex_iff.1 hcs1
 have hcs2 : cs2 = _ := hcs2; subst hcs2
 have hcs3 : cs3 = _ := hcs3; subst hcs3
 obtain ⟨v1, rfl, hRv1⟩ := hcs4
 have hs := Sep.start hi
 refine calls_of_WP (args := [Value.agg (List.toArray (α := Value) (([Value.int .i64 rv1.Kind]) ++ ((rv1.Set.1.map (Value.int .u64)) ++ ([v1]))))]) Try.func38 rfl Try.ntmps38 rfl ?_
 have hds : (argEnv [Value.agg (List.toArray (α := Value) (([Value.int .i64 rv1.Kind]) ++ ((rv1.Set.1.map (Value.int .u64)) ++ ([v1]))))]).ds = [] := rfl
 refine WP_seq <| WP_region <| OW_box (v := Value.agg (List.toArray (α := Value) (([Value.int .i64 rv1.Kind]) ++ ((rv1.Set.1.map (Value.int .u64)) ++ ([v1]))))) rfl hs (zs := ([Value.int .i64 rv1.Kind]) ++ ((rv1.Set.1.map (Value.int .u64)) ++ ([v1]))) rfl rfl ?_
 intro b1 wv1 hs
 refine O (r_assign (v := Value.bool false) rfl) rfl <| OW_nil <| WP_seq <| WP_region <| O (r_loadN (cs := ([Value.int .i64 rv1.Kind]) ++ ((rv1.Set.1.map (Value.int .u64)) ++ ([v1]))) ti50 rfl (by simp [rv1.Set.2]) (hs.cells (i := 0) rfl)) rfl ?_
 obtain ⟨rv2, hrv2, hM⟩ := bindS hM
 refine C [Value.agg (List.toArray (α := Value) (([Value.int .i64 rv1.Kind]) ++ ((rv1.Set.1.map (Value.int .u64)) ++ ([v1])))), Value.int .i64 0] cf50 rfl (ref08_valid_ok hrv2 hs.imm (tT_Regex_iff.2 ⟨[Value.int .i64 rv1.Kind], rv1.Set.1.map (Value.int .u64), [v1], rfl, rfl, rfl, ⟨_, rfl, hRv1⟩⟩)) rfl ?_
 rintro v2 wv2 ⟨gg1, hvv2, hegg1⟩
 have hlegg1 := hegg1.le hs.imm
 replace hs := hs.call hegg1
 obtain ⟨cs5, rfl, hcs5⟩ := hvv2
 have hcs5 : cs5 = _ := hcs5; subst hcs5
 refine O (r_assign (v := Value.bool rv2) rfl) rfl <| OW_nil <| WP_ret ?_
 obtain rfl := Option.some.inj hM
 refine FL_nil hds ?_
 exact ⟨_, res1 Try.results38 (rv_tmp (v := Value.bool rv2) rfl), gg1, ⟨[Value.bool rv2], rfl, rfl⟩, hs.ext⟩

def C.ref09_Nodes (fl : Nat) : Prop := ∀ {rv1 : T_Regex} {r : Int} (_ : M.ref09_Nodes fl rv1 = some r) {g0 : Hp} {w0 : World} (hi : Imm g0 w0) {cs1 : List Value} (hcs1 : tT_Regex.rel g0 cs1 rv1),
    CallsV Try.prog 39 #[Value.agg cs1.toArray] w0 (fun v w' => ∃ g', (VRd (tInt .i64) false g' v r) ∧ Ext g0 w0 g' w')
set_option maxRecDepth 100000 in
theorem ref09_Nodes_step {fl : Nat} (ih_ref09_Nodes : C.ref09_Nodes fl) : C.ref09_Nodes (fl + 1) := by
 intro rv1 r hM g0 w0 hi cs1 hcs1
 unfold M.ref09_Nodes at hM
 obtain ⟨cs2, cs3, cs4, rfl, hcs2, hcs3, hcs4⟩ := tT_Regex_iff.1 hcs1
 have hcs2 : cs2 = _ := hcs2; subst hcs2
 have hcs3 : cs3 = _ := hcs3; subst hcs3
 obtain ⟨v1, rfl, hRv1⟩ := hcs4
 have hs := Sep.start hi
 refine calls_of_WP (args := [Value.agg (List.toArray (α := Value) (([Value.int .i64 rv1.Kind]) ++ ((rv1.Set.1.map (Value.int .u64)) ++ ([v1]))))]) Try.func39 rfl Try.ntmps39 rfl ?_
 have hds : (argEnv [Value.agg (List.toArray (α := Value) (([Value.int .i64 rv1.Kind]) ++ ((rv1.Set.1.map (Value.int .u64)) ++ ([v1]))))]).ds = [] := rfl
 refine WP_seq <| WP_region <| OW_box (v := Value.agg (List.toArray (α := Value) (([Value.int .i64 rv1.Kind]) ++ ((rv1.Set.1.map (Value.int .u64)) ++ ([v1]))))) rfl hs (zs := ([Value.int .i64 rv1.Kind]) ++ ((rv1.Set.1.map (Value.int .u64)) ++ ([v1]))) rfl rfl ?_
 intro b1 wv1 hs
 refine O (r_assign (v := Value.int .i64 0) rfl) rfl <| OW_nil <| WP_seq <| WP_region <| O (r_assign (v := Value.int .i64 1) rfl) rfl <| OW_nil ?_
 obtain ⟨nv4, hx1, hKhx1⟩ := bindS hM
 refine WP_cut (fun E w => ∃ (gg7 : Hp), E 3 = Value.int .i64 nv4 ∧ E.ds = [] ∧ Hle g0 gg7 ∧ Go.Lx.Sep g0 w0 gg7 w []) ?_ ?_
 ·have hM := hx1
  have hag0 := Hle.refl g0
  refine WP_seq <| WP_region <| O (r_assign (v := Value.int .i64 0) rfl) rfl <| OW_nil <| WP_block <| WP_loop (fun (st9 : Int × Int) E w => match st9 with | (nv6, i5) => ∃ (gg10 : Hp), E 1 = Value.pointer (some ⟨b1, 0, none⟩) ∧ E 3 = Value.int .i64 nv6 ∧ E 4 = Value.int .i64 i5 ∧ E.ds = [] ∧ Hle g0 gg10 ∧ Go.Lx.Sep g0 w0 gg10 w [Go.Lx.box b1 50 (([Value.int .i64 rv1.Kind]) ++ ((rv1.Set.1.map (Value.int .u64)) ++ ([v1])))]) hM ⟨g0, rfl, rfl, rfl, hds, (Hle.refl _), hs⟩ ?_
  clear hs hM
  rintro ⟨nv6, i5⟩ o2 E w hM ⟨gg10, hE1, hE3, hE4, hds, hlegg10, hs⟩
  obtain ⟨E, rfl⟩ := open3 (E := E) hE1 hE3 hE4
  replace hRv1 := hRv1.mono hlegg10
  have hagg10 := Hle.refl gg10
  refine WP_seq <| WP_seq <| WP_region <| O (r_move (v := Value.int .i64 i5) rfl) rfl <| O (r_fieldAddr Try.underlying50 ti37 rfl rfl (by decide) rfl rfl) rfl <| O (r_load (v := v1) ti37 rfl (hs.cell (i := 0) (o := 5) rfl (by simp [rv1.Set.2]))) rfl ?_
  obtain ⟨a6, ca6, hva6⟩ := hRv1.shape
  refine O (r_lenSl (v := v1) Try.underlying37 rfl hva6) rfl <| O (r_lss rfl rfl) rfl <| OW_nil ?_
  rcases condS hM with ⟨hc6, hM⟩ | ⟨hc6, hM⟩
  ·refine WP_true rfl hc6 <| WP_skip <| WP_seq <| WP_block <| WP_region <| O (r_move (v := Value.int .i64 nv6) rfl) rfl <| O (r_fieldAddr Try.underlying50 ti37 rfl rfl (by decide) rfl rfl) rfl <| O (r_load (v := v1) ti37 rfl (hs.cell (i := 0) (o := 5) rfl (by simp [rv1.Set.2]))) rfl <| O (r_move (v := Value.int .i64 i5) rfl) rfl ?_
   obtain ⟨e6, he6, hM⟩ := bindS hM
   obtain ⟨b7, ob7, cb7, hvb7, cs30, hcs30, hcb7⟩ := hRv1.at he6
   obtain ⟨cs31, cs32, cs33, rfl, hcs31, hcs32, hcs33⟩ := tT_Regex_iff.1 hcs30
   have hcs31 : cs31 = _ := hcs31; subst hcs31
   have hcs32 : cs32 = _ := hcs32; subst hcs32
   obtain ⟨v12, rfl, hRv12⟩ := hcs33
   refine O (r_idxSl Try.underlying37 ti50 (v := v1) rfl hvb7 rfl (idxL_some he6).1 (idxL_some he6).2.1) rfl <| O (r_loadEl (cs := ([Value.int .i64 e6.Kind]) ++ ((e6.Set.1.map (Value.int .u64)) ++ ([v12]))) ti50 rfl (by simp [e6.Set.2]) (.inl rfl) (hcb7 _ hs.imm) (v := Value.agg (List.toArray (α := Value) (([Value.int .i64 e6.Kind]) ++ ((e6.Set.1.map (Value.int .u64)) ++ ([v12]))))) rfl) rfl ?_
   obtain ⟨rv7, hrv7, hM⟩ := bindS hM
   refine C [Value.agg (List.toArray (α := Value) (([Value.int .i64 e6.Kind]) ++ ((e6.Set.1.map (Value.int .u64)) ++ ([v12]))))] cf39 rfl (ih_ref09_Nodes hrv7 hs.imm (tT_Regex_iff.2 ⟨[Value.int .i64 e6.Kind], e6.Set.1.map (Value.int .u64), [v12], rfl, rfl, rfl, ⟨_, rfl, hRv12⟩⟩)) rfl ?_
   rintro v13 wv7 ⟨gg13, hvv13, hegg13⟩
   have hlegg13 := hegg13.le hs.imm
   replace hs := hs.call hegg13
   replace hlegg10 := hlegg10.trans hlegg13
   obtain ⟨cs34, rfl, hcs34⟩ := hvv13
   have hcs34 : cs34 = _ := hcs34; subst hcs34
   obtain ⟨t11, ht11, hM⟩ := bindS hM
   refine O (r_addM rfl rfl ht11) rfl <| O (r_assign (v := Value.int .i64 t11) rfl) rfl <| OW_nil <| WP_region <| O (r_move (v := Value.int .i64 i5) rfl) rfl ?_
   obtain ⟨t12, ht12, hM⟩ := bindS hM
   refine O (r_addM rfl rfl ht12) rfl <| O (r_assign (v := Value.int .i64 t12) rfl) rfl <| OW_nil ?_
   obtain rfl := Option.some.inj hM
   exact ⟨gg13, rfl, rfl, rfl, hds, hlegg10, hs⟩
  ·refine WP_false rfl hc6 <| WP_exit ?_
   obtain rfl := Option.some.inj hM
   refine fun hr => ?_
   have hM := congrArg some hr
   obtain rfl := Option.some.inj hM
   exact ⟨gg10, rfl, hds, hlegg10, (hs.sub (.cons _ .slnil))⟩
 ·clear hs
  rintro E w ⟨gg7, hE3, hds, hlegg7, hs⟩
  have hM := hKhx1
  obtain ⟨E, rfl⟩ := open1 (E := E) hE3
  refine WP_seq <| WP_region <| O (r_move (v := Value.int .i64 nv4) rfl) rfl <| O (r_assign (v := Value.int .i64 nv4) rfl) rfl <| OW_nil <| WP_ret ?_
  obtain rfl := Option.some.inj hM
  refine FL_nil hds ?_
  exact ⟨_, res1 Try.results39 (rv_tmp (v := Value.int .i64 nv4) rfl), gg7, ⟨[Value.int .i64 nv4], rfl, rfl⟩, hs.ext⟩
theorem ref09_Nodes_zero : C.ref09_Nodes 0 := by
  unfold C.ref09_Nodes
  intros
  simp_all only [M.ref09_Nodes, reduceCtorEq]
theorem ref09_Nodes_all : ∀ fl, C.ref09_Nodes fl := by
  intro fl
  induction fl with
  | zero => exact ref09_Nodes_zero
  | succ fl ih =>
    exact ref09_Nodes_step ih
theorem ref09_Nodes_ok {fl : Nat} : C.ref09_Nodes fl := (ref09_Nodes_all fl)

set_option maxRecDepth 100000 in
theorem ref09_Check_ok {l1 : (List T_Regex)} {r : Int} (hM : M.ref09_Check l1 = some r) {g0 : Hp} {w0 : World} (hi : Imm g0 w0) {v1 : Value} (hRv1 : RdS tT_Regex g0 v1 l1) :
    CallsV Try.prog 28 #[v1] w0 (fun v w' => ∃ g', (VRd (tInt .i64) false g' v r) ∧ Ext g0 w0 g' w') := by
 unfold M.ref09_Check at hM
 have hs := Sep.start hi
 refine calls_of_WP (args := [v1]) Try.func28 rfl Try.ntmps28 rfl ?_
 have hds : (argEnv [v1]).ds = [] := rfl
 refine WP_seq <| WP_region <| O (r_assign (v := Value.int .i64 0) rfl) rfl <| OW_nil <| WP_seq <| WP_region <| O (r_assign (v := Value.int .i64 0) rfl) rfl <| OW_nil ?_
 obtain ⟨o3, hx1, hKhx1⟩ := stepS hM
 refine WP_cut (fun E w => ∃ (total4 : Int), o3 = .next total4 ∧ ∃ (gg10 : Hp), E 3 = Value.int .i64 total4 ∧ E.ds = [] ∧ Hle g0 gg10 ∧ Go.Lx.Sep g0 w0 gg10 w []) ?_ ?_
 ·have hM := hx1
  have hag0 := Hle.refl g0
  refine WP_seq <| WP_region <| O (r_assign (v := Value.int .i64 0) rfl) rfl <| OW_nil <| WP_block <| WP_loop (fun (st9 : Int × Int) E w => match st9 with | (total6, i5) => ∃ (gg14 : Hp), E 0 = v1 ∧ E 3 = Value.int .i64 total6 ∧ E 4 = Value.int .i64 i5 ∧ E.ds = [] ∧ Hle g0 gg14 ∧ Go.Lx.Sep g0 w0 gg14 w []) hM ⟨g0, rfl, rfl, rfl, hds, (Hle.refl _), hs⟩ ?_
  clear hs hM
  rintro ⟨total6, i5⟩ o2 E w hM ⟨gg14, hE0, hE3, hE4, hds, hlegg14, hs⟩
  obtain ⟨E, rfl⟩ := open3 (E := E) hE0 hE3 hE4
  replace hRv1 := hRv1.mono hlegg14
  have hagg14 := Hle.refl gg14
  refine WP_seq <| WP_seq <| WP_region <| O (r_move (v := Value.int .i64 i5) rfl) rfl <| O (r_move (v := v1) rfl) rfl ?_
  obtain ⟨a6, ca6, hva6⟩ := hRv1.shape
  refine O (r_lenSl (v := v1) Try.underlying37 rfl hva6) rfl <| O (r_lss rfl rfl) rfl <| OW_nil ?_
  rcases condS hM with ⟨hc11, hM⟩ | ⟨hc11, hM⟩
  ·refine WP_true rfl hc11 <| WP_skip <| WP_seq <| WP_block <| WP_seq <| WP_seq <| WP_region <| O (r_move (v := v1) rfl) rfl <| O (r_move (v := Value.int .i64 i5) rfl) rfl ?_
   obtain ⟨e6, he6, hM⟩ := bindS hM
   obtain ⟨b11, ob11, cb11, hvb11, cs51, hcs51, hcb11⟩ := hRv1.at he6
   obtain ⟨cs52, cs53, cs54, rfl, hcs52, hcs53, hcs54⟩ := tT_Regex_iff.1 hcs51
   have hcs52 : cs52 = _ := hcs52; subst hcs52
   have hcs53 : cs53 = _ := hcs53; subst hcs53
   obtain ⟨v22, rfl, hRv22⟩ := hcs54
   refine O (r_idxSl Try.underlying37 ti50 (v := v1) rfl hvb11 rfl (idxL_some he6).1 (idxL_some he6).2.1) rfl <| O (r_loadEl (cs := ([Value.int .i64 e6.Kind]) ++ ((e6.Set.1.map (Value.int .u64)) ++ ([v22]))) ti50 rfl (by simp [e6.Set.2]) (.inl rfl) (hcb11 _ hs.imm) (v := Value.agg (List.toArray (α := Value) (([Value.int .i64 e6.Kind]) ++ ((e6.Set.1.map (Value.int .u64)) ++ ([v22]))))) rfl) rfl ?_
   obtain ⟨rv11, hrv11, hM⟩ := bindS hM
   refine C [Value.agg (List.toArray (α := Value) (([Value.int .i64 e6.Kind]) ++ ((e6.Set.1.map (Value.int .u64)) ++ ([v22]))))] cf38 rfl (ref08_Valid_ok hrv11 hs.imm (tT_Regex_iff.2 ⟨[Value.int .i64 e6.Kind], e6.Set.1.map (Value.int .u64), [v22], rfl, rfl, rfl, ⟨_, rfl, hRv22⟩⟩)) rfl ?_
   rintro v23 wv11 ⟨gg18, hvv23, hegg18⟩
   have hlegg18 := hegg18.le hs.imm
   replace hs := hs.call hegg18
   replace hRv1 := hRv1.mono hlegg18
   replace hlegg14 := hlegg14.trans hlegg18
   obtain ⟨cs55, rfl, hcs55⟩ := hvv23
   have hcs55 : cs55 = _ := hcs55; subst hcs55
   refine O (r_not rfl) rfl <| OW_nil ?_
   rcases condS hM with ⟨hc12, hM⟩ | ⟨hc12, hM⟩
   ·refine WP_true rfl hc12 <| WP_seq <| WP_region <| O (r_assign (v := Value.int .i64 1) rfl) rfl <| OW_nil <| WP_ret ?_
    obtain rfl := Option.some.inj hM
    refine fun hr => ?_
    have hM := congrArg some hr
    obtain rfl := Option.some.inj hM
    have hM := hKhx1
    obtain rfl := Option.some.inj hM
    refine FL_nil hds ?_
    exact ⟨_, res1 Try.results28 (rv_tmp (v := Value.int .i64 1) rfl), gg18, ⟨[Value.int .i64 1], rfl, rfl⟩, hs.ext⟩
   ·refine WP_false rfl hc12 <| WP_skip <| WP_region <| O (r_move (v := Value.int .i64 total6) rfl) rfl <| O (r_move (v := v1) rfl) rfl <| O (r_move (v := Value.int .i64 i5) rfl) rfl ?_
    obtain ⟨b12, ob12, cb12, hvb12, cs56, hcs56, hcb12⟩ := hRv1.at he6
    obtain ⟨cs57, cs58, cs59, rfl, hcs57, hcs58, hcs59⟩ := tT_Regex_iff.1 hcs56
    have hcs57 : cs57 = _ := hcs57; subst hcs57
    have hcs58 : cs58 = _ := hcs58; subst hcs58
    obtain ⟨v24, rfl, hRv24⟩ := hcs59
    refine O (r_idxSl Try.underlying37 ti50 (v := v1) rfl hvb12 rfl (idxL_some he6).1 (idxL_some he6).2.1) rfl <| O (r_loadEl (cs := ([Value.int .i64 e6.Kind]) ++ ((e6.Set.1.map (Value.int .u64)) ++ ([v24]))) ti50 rfl (by simp [e6.Set.2]) (.inl rfl) (hcb12 _ hs.imm) (v := Value.agg (List.toArray (α := Value) (([Value.int .i64 e6.Kind]) ++ ((e6.Set.1.map (Value.int .u64)) ++ ([v24]))))) rfl) rfl ?_
    obtain ⟨rv12, hrv12, hM⟩ := bindS hM
    refine C [Value.agg (List.toArray (α := Value) (([Value.int .i64 e6.Kind]) ++ ((e6.Set.1.map (Value.int .u64)) ++ ([v24]))))] cf39 rfl (ref09_Nodes_ok hrv12 hs.imm (tT_Regex_iff.2 ⟨[Value.int .i64 e6.Kind], e6.Set.1.map (Value.int .u64), [v24], rfl, rfl, rfl, ⟨_, rfl, hRv24⟩⟩)) rfl ?_
    rintro v25 wv12 ⟨gg19, hvv25, hegg19⟩
    have hlegg19 := hegg19.le hs.imm
    replace hs := hs.call hegg19
    replace hlegg14 := hlegg14.trans hlegg19
    obtain ⟨cs60, rfl, hcs60⟩ := hvv25
    have hcs60 : cs60 = _ := hcs60; subst hcs60
    obtain ⟨t11, ht11, hM⟩ := bindS hM
    refine O (r_addM rfl rfl ht11) rfl <| O (r_assign (v := Value.int .i64 t11) rfl) rfl <| OW_nil <| WP_region <| O (r_move (v := Value.int .i64 i5) rfl) rfl ?_
    obtain ⟨t12, ht12, hM⟩ := bindS hM
    refine O (r_addM rfl rfl ht12) rfl <| O (r_assign (v := Value.int .i64 t12) rfl) rfl <| OW_nil ?_
    obtain rfl := Option.some.inj hM
    exact ⟨gg19, rfl, rfl, rfl, hds, hlegg14, hs⟩
  ·refine WP_false rfl hc11 <| WP_exit ?_
   obtain rfl := Option.some.inj hM
   refine fun hr => ?_
   have hM := congrArg some hr
   obtain rfl := Option.some.inj hM
   exact ⟨total6, rfl, gg14, rfl, hds, hlegg14, hs⟩
 ·clear hs
  rintro E w ⟨total4, rfl, gg10, hE3, hds, hlegg10, hs⟩
  have hM := hKhx1
  dsimp only [onStep] at hM
  obtain ⟨E, rfl⟩ := open1 (E := E) hE3
  refine WP_seq <| WP_seq <| WP_region <| O (r_move (v := Value.int .i64 total4) rfl) rfl <| O (r_gtr rfl rfl) rfl <| OW_nil ?_
  rcases condS hM with ⟨hc13, hM⟩ | ⟨hc13, hM⟩
  ·refine WP_true rfl hc13 <| WP_seq <| WP_region <| O (r_assign (v := Value.int .i64 11) rfl) rfl <| OW_nil <| WP_ret ?_
   obtain rfl := Option.some.inj hM
   refine FL_nil hds ?_
   exact ⟨_, res1 Try.results28 (rv_tmp (v := Value.int .i64 11) rfl), gg10, ⟨[Value.int .i64 11], rfl, rfl⟩, hs.ext⟩
  ·refine WP_false rfl hc13 <| WP_skip <| WP_seq <| WP_region <| O (r_assign (v := Value.int .i64 0) rfl) rfl <| OW_nil <| WP_ret ?_
   obtain rfl := Option.some.inj hM
   refine FL_nil hds ?_
   exact ⟨_, res1 Try.results28 (rv_tmp (v := Value.int .i64 0) rfl), gg10, ⟨[Value.int .i64 0], rfl, rfl⟩, hs.ext⟩


end Go.Proofs.Ytajmekjcnbmaaaa
