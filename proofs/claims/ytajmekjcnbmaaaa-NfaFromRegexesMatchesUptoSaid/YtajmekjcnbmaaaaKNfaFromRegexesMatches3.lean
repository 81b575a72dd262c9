/- Part 3 of what the law leans on: my own layer, printed walks, plain facts. -/
import Derived.Test.YtajmekjcnbmaaaaKNfaFromRegexesMatches2
set_option linter.unusedVariables false
set_option linter.unusedSimpArgs false
namespace Go.Proofs.Ytajmekjcnbmaaaa
open Go.Lx Go.RowKit
set_option maxRecDepth 100000 in
theorem law09_set_ok {b1 : Int} {r : T_Regex} (hM : M.law09_set b1 = some r) {g0 : Hp} {w0 : World} (hi : Imm g0 w0) :
    CallsV Try.prog 29 #[Value.int .u8 b1] w0 (fun v w' => ∃ g', (VRd tT_Regex true g' v r) ∧ Ext g0 w0 g' w') := by
 unfold M.law09_set at hM
 have hs := Sep.start hi
 refine calls_of_WP (args := [Value.int .u8 b1]) Try.func29 rfl Try.ntmps29 rfl ?_
 have hds : (argEnv [Value.int .u8 b1]).ds = [] := rfl
 refine WP_seq <| WP_region <| OW_alloc ti50 hs (zs := ([Value.int .i64 0]) ++ (((Vec.zero 4).1.map (Value.int .u64)) ++ ([Value.slice none 0 0]))) rfl rfl ?_
 intro b2 wv1 hs
 refine OW_nil <| WP_seq <| WP_region <| OW_alloc ti48 hs (zs := (Vec.zero 4).1.map (Value.int .u64)) rfl rfl ?_
 intro b3 wv2 hs
 refine OW_nil <| WP_seq <| WP_region <| O (r_move (v := Value.int .u8 b1) rfl) rfl ?_
 obtain ⟨t1, ht1, hM⟩ := bindS hM
 refine O (r_quoM rfl rfl ht1) rfl <| O (r_move (v := Value.int .u8 b1) rfl) rfl ?_
 obtain ⟨t2, ht2, hM⟩ := bindS hM
 refine O (r_remM rfl rfl ht2) rfl ?_
 obtain ⟨t3, ht3, hM⟩ := bindS hM
 refine O (r_shlM rfl rfl ht3) rfl ?_
 obtain ⟨s1, hs1, hM⟩ := bindS hM
 refine O (r_idxArr Try.underlying48 ti46 rfl rfl (vset_some hs1).1 (vset_some hs1).2.1) rfl <| OW_store1 ti46 hs (i := 0) rfl rfl (v := Value.int .u64 t3) rfl rfl (vset_lt hs1) ?_
 intro wv3 hs
 replace hs : Go.Lx.Sep g0 w0 g0 wv3 [Go.Lx.box b3 48 (s1.1.map (Value.int .u64)), Go.Lx.box b2 50 (([Value.int .i64 0]) ++ (((Vec.zero 4).1.map (Value.int .u64)) ++ ([Value.slice none 0 0])))] := by have h9 := hs; simp only [List.set] at h9; rw [vset_cells hs1] at h9; exact h9
 refine OW_nil <| WP_seq <| WP_region <| O (r_loadN (cs := s1.1.map (Value.int .u64)) ti48 rfl (by simp [s1.2]) (hs.cells (i := 0) rfl)) rfl <| O (r_build (vs := [(0, Value.int .i64 3), (1, encV .u64 s1)]) (cs := ([Value.int .i64 3]) ++ ((s1.1.map (Value.int .u64)) ++ ([Value.slice none 0 0]))) rfl (built_fill [(0, 1), (1, 4), (5, 1)] (([Value.int .i64 0]) ++ (((Vec.zero 4).1.map (Value.int .u64)) ++ ([Value.slice none 0 0]))) (fun _ => by kernel_rfl) (fill_step ([]) ([Value.int .i64 0]) (((Vec.zero 4).1.map (Value.int .u64)) ++ ([Value.slice none 0 0])) ([Value.int .i64 3]) rfl (by simp) rfl rfl rfl rfl <| fill_step ([Value.int .i64 3]) ((Vec.zero 4).1.map (Value.int .u64)) ([Value.slice none 0 0]) (s1.1.map (Value.int .u64)) rfl (by simp) rfl rfl (by simp [(Vec.zero 4).2]) (by simp [s1.2]) <| fill_done))) rfl ?_
 refine OW_storeAll ti50 hs (i := 1) rfl rfl (v := Value.agg (List.toArray (α := Value) (([Value.int .i64 3]) ++ ((s1.1.map (Value.int .u64)) ++ ([Value.slice none 0 0]))))) rfl (vs := ([Value.int .i64 3]) ++ ((s1.1.map (Value.int .u64)) ++ ([Value.slice none 0 0]))) rfl (one_append (one_cons rfl one_nil) (one_append vec_one (one_cons rfl one_nil))) (by simp [s1.2]) (by simp [s1.2, (Vec.zero 4).2]) ?_
 intro wv4 hs
 refine OW_nil <| WP_ret ?_
 obtain rfl := Option.some.inj hM
 refine FL_nil hds ?_
 exact ⟨_, res1 Try.results29 (rv_cells (vs := ([Value.int .i64 3]) ++ ((s1.1.map (Value.int .u64)) ++ ([Value.slice none 0 0]))) ti50 rfl (by simp [s1.2]) (hs.cells (i := 1) rfl)), g0, ⟨([Value.int .i64 3]) ++ ((s1.1.map (Value.int .u64)) ++ ([Value.slice none 0 0])), rfl, (tT_Regex_iff.2 ⟨[Value.int .i64 3], s1.1.map (Value.int .u64), [Value.slice none 0 0], rfl, rfl, rfl, ⟨_, rfl, RdS.nil⟩⟩)⟩, hs.ext⟩
def C.regex_valid (fl : Nat) : Prop := ∀ {rv1 : T_Regex} {depth1 : Int} {r : Bool} (_ : M.regex_valid fl rv1 depth1 = some r) {g0 : Hp} {w0 : World} (hi : Imm g0 w0) {cs1 : List Value} (hcs1 : tT_Regex.rel g0 cs1 rv1),
    CallsV Try.prog 51 #[Value.agg cs1.toArray, Value.int .i64 depth1] w0 (fun v w' => ∃ g', (VRd tBool false g' v r) ∧ Ext g0 w0 g' w')
set_option maxRecDepth 100000 in
theorem regex_valid_step {fl : Nat} (ih_regex_valid : C.regex_valid fl) : C.regex_valid (fl + 1) := by
 intro rv1 depth1 r hM g0 w0 hi cs1 hcs1
 unfold M.regex_valid at hM
 obtain ⟨cs2, cs3, cs4, rfl, hcs2, hcs3, hcs4⟩ := tT_Regex_iff.1 hcs1
 have hcs2 : cs2 = _ := hcs2; subst hcs2
 have hcs3 : cs3 = _ := hcs3; subst hcs3
 obtain ⟨v1, rfl, hRv1⟩ := hcs4
 have hs := Sep.start hi
 refine calls_of_WP (args := [Value.agg (List.toArray (α := Value) (([Value.int .i64 rv1.Kind]) ++ ((rv1.Set.1.map (Value.int .u64)) ++ ([v1])))), Value.int .i64 depth1]) Try.func51 rfl Try.ntmps51 rfl ?_
 have hds : (argEnv [Value.agg (List.toArray (α := Value) (([Value.int .i64 rv1.Kind]) ++ ((rv1.Set.1.map (Value.int .u64)) ++ ([v1])))), Value.int .i64 depth1]).ds = [] := rfl
 refine WP_seq <| WP_region <| OW_box (v := Value.agg (List.toArray (α := Value) (([Value.int .i64 rv1.Kind]) ++ ((rv1.Set.1.map (Value.int .u64)) ++ ([v1]))))) rfl hs (zs := ([Value.int .i64 rv1.Kind]) ++ ((rv1.Set.1.map (Value.int .u64)) ++ ([v1]))) rfl rfl ?_
 intro b1 wv1 hs
 refine O (r_assign (v := Value.bool false) rfl) rfl <| OW_nil <| WP_seq ?_
 obtain ⟨xv1, hx1, hKhx1⟩ := bindS hM
 refine WP_cut (fun E w => E 1 = Value.int .i64 depth1 ∧ E 2 = Value.pointer (some ⟨b1, 0, none⟩) ∧ E 20 = Value.bool xv1 ∧ E.ds = [] ∧ Go.Lx.Sep g0 w0 g0 w [Go.Lx.box b1 50 (([Value.int .i64 rv1.Kind]) ++ ((rv1.Set.1.map (Value.int .u64)) ++ ([v1])))]) ?_ ?_
 ·have hM := hx1
  have hag0 := Hle.refl g0
  refine WP_draw mo (by decide +kernel) ?_
  have hs := hs.drew
  refine S (r_move (v := Value.int .i64 depth1) rfl) rfl <| S (r_eql rfl rfl) rfl <| S (r_move (v := Value.bool (depth1 == 0)) rfl) rfl ?_
  rcases condS hM with ⟨hg2, hM⟩ | ⟨hg2, hM⟩
  ·refine SK rfl rfl rfl (by rw [hg2]; rfl) rfl <| SK rfl rfl rfl (by rw [hg2]; rfl) rfl <| SK rfl rfl rfl (by rw [hg2]; rfl) rfl <| SK rfl rfl rfl (by rw [hg2]; rfl) rfl <| SK rfl rfl rfl (by rw [hg2]; rfl) rfl <| SK rfl rfl rfl (by rw [hg2]; rfl) rfl <| SK rfl rfl rfl (by rw [hg2]; rfl) rfl <| SK rfl rfl rfl (by rw [hg2]; rfl) rfl <| S (r_pickT (v := Value.bool true) rfl hg2 rfl) rfl <| SW_nil ?_
   obtain rfl := Option.some.inj hM
   exact ⟨rfl, rfl, rfl, hds, hs⟩
  ·refine SG rfl rfl rfl (by rw [hg2]; rfl) (r_fieldAddr Try.underlying50 ti3 rfl rfl (by decide) rfl rfl) rfl <| SG rfl rfl rfl (by rw [hg2]; rfl) (r_load (v := Value.int .i64 rv1.Kind) ti3 rfl (hs.cell (i := 0) (o := 0) rfl (by simp [rv1.Set.2]))) rfl <| SG rfl rfl rfl (by rw [hg2]; rfl) (r_eql rfl rfl) rfl <| SG rfl rfl rfl (by rw [hg2]; rfl) (r_fieldAddr Try.underlying50 ti48 rfl rfl (by decide) rfl rfl) rfl <| SG rfl rfl rfl (by rw [hg2]; rfl) (r_loadN (cs := rv1.Set.1.map (Value.int .u64)) ti48 rfl (by simp [rv1.Set.2]) (hs.cellsAt (i := 0) (o := 1) rfl (by intro j u hj; exact sub_at (pre := [Value.int .i64 rv1.Kind]) (ds := rv1.Set.1.map (Value.int .u64)) (post := [v1]) rfl ((by simp)) hj))) rfl ?_
   refine SG rfl rfl rfl (by rw [hg2]; rfl) (r_build (vs := []) (cs := (Vec.zero 4).1.map (Value.int .u64)) rfl (by kernel_rfl)) rfl <| SG rfl rfl rfl (by rw [hg2]; rfl) (r_eqlV Try.underlying48 Try.underlying46 ti46 rfl rfl eg48) rfl <| SG rfl rfl rfl (by rw [hg2]; rfl) (r_eqlB Try.underlying4 rfl rfl) rfl <| S (r_pickF (v := Value.bool ((rv1.Kind == 3) == (rv1.Set == (Vec.zero 4)))) rfl hg2 rfl) rfl <| SW_nil ?_
   obtain rfl := Option.some.inj hM
   exact ⟨rfl, rfl, rfl, hds, hs⟩
 ·clear hs
  rintro E w ⟨hE1, hE2, hE20, hds, hs⟩
  have hM := hKhx1
  obtain ⟨E, rfl⟩ := open3 (E := E) hE1 hE2 hE20
  rcases condS hM with ⟨hc1, hM⟩ | ⟨hc1, hM⟩
  ·refine WP_true rfl hc1 <| WP_seq <| WP_region <| O (r_assign (v := Value.bool false) rfl) rfl <| OW_nil <| WP_ret ?_
   obtain rfl := Option.some.inj hM
   refine FL_nil hds ?_
   exact ⟨_, res1 Try.results51 (rv_tmp (v := Value.bool false) rfl), g0, ⟨[Value.bool false], rfl, rfl⟩, hs.ext⟩
  ·refine WP_false rfl hc1 <| WP_skip <| WP_seq <| WP_region <| O (r_assign (v := Value.int .i64 0) rfl) rfl <| O (r_assign (v := Value.int .i64 0) rfl) rfl <| OW_nil ?_
   obtain ⟨o1, hx4, hKhx4⟩ := stepS hM
   refine WP_cut (fun E w => ∃ (least1 : Int) (most1 : Int), o1 = .next (least1, most1) ∧ E 1 = Value.int .i64 depth1 ∧ E 2 = Value.pointer (some ⟨b1, 0, none⟩) ∧ E 5 = Value.int .i64 least1 ∧ E 6 = Value.int .i64 most1 ∧ E.ds = [] ∧ Go.Lx.Sep g0 w0 g0 w [Go.Lx.box b1 50 (([Value.int .i64 rv1.Kind]) ++ ((rv1.Set.1.map (Value.int .u64)) ++ ([v1])))]) ?_ ?_
   ·have hM := hx4
    have hag0 := Hle.refl g0
    refine WP_seq <| WP_region <| O (r_fieldAddr Try.underlying50 ti3 rfl rfl (by decide) rfl rfl) rfl <| O (r_load (v := Value.int .i64 rv1.Kind) ti3 rfl (hs.cell (i := 0) (o := 0) rfl (by simp [rv1.Set.2]))) rfl <| OW_nil <| WP_block ?_
    obtain ⟨xv4, hx5, hKhx5⟩ := bindS hM
    refine WP_cut (fun E w => E 1 = Value.int .i64 depth1 ∧ E 2 = Value.pointer (some ⟨b1, 0, none⟩) ∧ E 5 = Value.int .i64 0 ∧ E 6 = Value.int .i64 0 ∧ E 22 = Value.int .i64 rv1.Kind ∧ E 23 = Value.bool xv4 ∧ E.ds = [] ∧ Go.Lx.Sep g0 w0 g0 w [Go.Lx.box b1 50 (([Value.int .i64 rv1.Kind]) ++ ((rv1.Set.1.map (Value.int .u64)) ++ ([v1])))]) ?_ ?_
    ·have hM := hx5
     refine WP_seq <| WP_region <| O (r_eql rfl rfl) rfl <| O (r_assign (v := Value.bool (rv1.Kind == 1)) rfl) rfl <| OW_nil ?_
     rcases condS hM with ⟨hc13, hM⟩ | ⟨hc13, hM⟩
     ·refine WP_true rfl hc13 <| WP_skip ?_
      obtain rfl := Option.some.inj hM
      exact ⟨rfl, rfl, rfl, rfl, rfl, rfl, hds, hs⟩
     ·refine WP_false rfl hc13 <| WP_seq <| WP_region <| O (r_eql rfl rfl) rfl <| O (r_assign (v := Value.bool (rv1.Kind == 2)) rfl) rfl <| OW_nil ?_
      rcases condS hM with ⟨hc14, hM⟩ | ⟨hc14, hM⟩
      ·refine WP_true rfl hc14 <| WP_skip ?_
       obtain rfl := Option.some.inj hM
       exact ⟨rfl, rfl, rfl, rfl, rfl, rfl, hds, hs⟩
      ·refine WP_false rfl hc14 <| WP_region <| O (r_eql rfl rfl) rfl <| O (r_assign (v := Value.bool (rv1.Kind == 3)) rfl) rfl <| OW_nil ?_
       obtain rfl := Option.some.inj hM
       exact ⟨rfl, rfl, rfl, rfl, rfl, rfl, hds, hs⟩
    ·clear hs
     rintro E w ⟨hE1, hE2, hE5, hE6, hE22, hE23, hds, hs⟩
     have hM := hKhx5
     obtain ⟨E, rfl⟩ := open6 (E := E) hE1 hE2 hE5 hE6 hE22 hE23
     rcases condS hM with ⟨hc15, hM⟩ | ⟨hc15, hM⟩
     ·refine WP_true rfl hc15 <| WP_skip ?_
      obtain rfl := Option.some.inj hM
      exact ⟨(0 : Int), (0 : Int), rfl, rfl, rfl, rfl, rfl, hds, hs⟩
     ·refine WP_false rfl hc15 ?_
      obtain ⟨xv5, hx6, hKhx6⟩ := bindS hM
      refine WP_cut (fun E w => E 1 = Value.int .i64 depth1 ∧ E 2 = Value.pointer (some ⟨b1, 0, none⟩) ∧ E 22 = Value.int .i64 rv1.Kind ∧ E 27 = Value.bool xv5 ∧ E.ds = [] ∧ Go.Lx.Sep g0 w0 g0 w [Go.Lx.box b1 50 (([Value.int .i64 rv1.Kind]) ++ ((rv1.Set.1.map (Value.int .u64)) ++ ([v1])))]) ?_ ?_
      ·have hM := hx6
       refine WP_seq <| WP_region <| O (r_eql rfl rfl) rfl <| O (r_assign (v := Value.bool (rv1.Kind == 4)) rfl) rfl <| OW_nil ?_
       rcases condS hM with ⟨hc17, hM⟩ | ⟨hc17, hM⟩
       ·refine WP_true rfl hc17 <| WP_skip ?_
        obtain rfl := Option.some.inj hM
        exact ⟨rfl, rfl, rfl, rfl, hds, hs⟩
       ·refine WP_false rfl hc17 <| WP_region <| O (r_eql rfl rfl) rfl <| O (r_assign (v := Value.bool (rv1.Kind == 5)) rfl) rfl <| OW_nil ?_
        obtain rfl := Option.some.inj hM
        exact ⟨rfl, rfl, rfl, rfl, hds, hs⟩
      ·clear hs
       rintro E w ⟨hE1, hE2, hE22, hE27, hds, hs⟩
       have hM := hKhx6
       obtain ⟨E, rfl⟩ := open4 (E := E) hE1 hE2 hE22 hE27
       rcases condS hM with ⟨hc18, hM⟩ | ⟨hc18, hM⟩
       ·refine WP_true rfl hc18 <| WP_draw mo (by decide +kernel) ?_
        have hs := hs.drew
        refine S (r_fieldAddr Try.underlying50 ti37 rfl rfl (by decide) rfl rfl) rfl <| S (r_load (v := v1) ti37 rfl (hs.cell (i := 0) (o := 5) rfl (by simp [rv1.Set.2]))) rfl ?_
        obtain ⟨a2, ca2, hva2⟩ := hRv1.shape
        refine S (r_lenSl (v := v1) Try.underlying37 rfl hva2) rfl <| S (r_assign (v := Value.int .i64 2) rfl) rfl <| S (r_assign (v := Value.int .i64 (rv1.Kids.length : Int)) rfl) rfl <| SW_nil ?_
        obtain rfl := Option.some.inj hM
        exact ⟨(2 : Int), (rv1.Kids.length : Int), rfl, rfl, rfl, rfl, rfl, hds, hs⟩
       ·refine WP_false rfl hc18 <| WP_seq <| WP_region <| O (r_eql rfl rfl) rfl <| O (r_assign (v := Value.bool (rv1.Kind == 6)) rfl) rfl <| OW_nil ?_
        rcases condS hM with ⟨hc19, hM⟩ | ⟨hc19, hM⟩
        ·refine WP_true rfl hc19 <| WP_region <| O (r_assign (v := Value.int .i64 1) rfl) rfl <| O (r_assign (v := Value.int .i64 1) rfl) rfl <| OW_nil ?_
         obtain rfl := Option.some.inj hM
         exact ⟨(1 : Int), (1 : Int), rfl, rfl, rfl, rfl, rfl, hds, hs⟩
        ·refine WP_false rfl hc19 <| WP_seq <| WP_region <| O (r_assign (v := Value.bool false) rfl) rfl <| OW_nil <| WP_ret ?_
         obtain rfl := Option.some.inj hM
         have hM := hKhx4
         obtain rfl := Option.some.inj hM
         refine FL_nil hds ?_
         exact ⟨_, res1 Try.results51 (rv_tmp (v := Value.bool false) rfl), g0, ⟨[Value.bool false], rfl, rfl⟩, hs.ext⟩
   ·clear hs
    rintro E w ⟨least1, most1, rfl, hE1, hE2, hE5, hE6, hds, hs⟩
    have hM := hKhx4
    dsimp only [onStep] at hM
    obtain ⟨E, rfl⟩ := open4 (E := E) hE1 hE2 hE5 hE6
    refine WP_seq ?_
    obtain ⟨xv6, hx7, hKhx7⟩ := bindS hM
    refine WP_cut (fun E w => E 1 = Value.int .i64 depth1 ∧ E 2 = Value.pointer (some ⟨b1, 0, none⟩) ∧ E 46 = Value.bool xv6 ∧ E.ds = [] ∧ Go.Lx.Sep g0 w0 g0 w [Go.Lx.box b1 50 (([Value.int .i64 rv1.Kind]) ++ ((rv1.Set.1.map (Value.int .u64)) ++ ([v1])))]) ?_ ?_
    ·have hM := hx7
     have hag0 := Hle.refl g0
     refine WP_region <| O (r_fieldAddr Try.underlying50 ti37 rfl rfl (by decide) rfl rfl) rfl <| O (r_load (v := v1) ti37 rfl (hs.cell (i := 0) (o := 5) rfl (by simp [rv1.Set.2]))) rfl ?_
     obtain ⟨a5, ca5, hva5⟩ := hRv1.shape
     refine O (r_lenSl (v := v1) Try.underlying37 rfl hva5) rfl <| O (r_move (v := Value.int .i64 least1) rfl) rfl <| O (r_lss rfl rfl) rfl <| O (r_move (v := Value.bool (decide ((rv1.Kids.length : Int) < least1))) rfl) rfl ?_
     rcases condS hM with ⟨hg4, hM⟩ | ⟨hg4, hM⟩
     ·refine OK rfl rfl rfl (by rw [hg4]; rfl) rfl <| OK rfl rfl rfl (by rw [hg4]; rfl) rfl <| OK rfl rfl rfl (by rw [hg4]; rfl) rfl <| OK rfl rfl rfl (by rw [hg4]; rfl) rfl <| OK rfl rfl rfl (by rw [hg4]; rfl) rfl <| O (r_pickT (v := Value.bool true) rfl hg4 rfl) rfl <| OW_nil ?_
      obtain rfl := Option.some.inj hM
      exact ⟨rfl, rfl, rfl, hds, hs⟩
     ·refine OG rfl rfl rfl (by rw [hg4]; rfl) (r_fieldAddr Try.underlying50 ti37 rfl rfl (by decide) rfl rfl) rfl <| OG rfl rfl rfl (by rw [hg4]; rfl) (r_load (v := v1) ti37 rfl (hs.cell (i := 0) (o := 5) rfl (by simp [rv1.Set.2]))) rfl ?_
      obtain ⟨a6, ca6, hva6⟩ := hRv1.shape
      refine OG rfl rfl rfl (by rw [hg4]; rfl) (r_lenSl (v := v1) Try.underlying37 rfl hva6) rfl <| OG rfl rfl rfl (by rw [hg4]; rfl) (r_move (v := Value.int .i64 most1) rfl) rfl <| OG rfl rfl rfl (by rw [hg4]; rfl) (r_gtr rfl rfl) rfl <| O (r_pickF (v := Value.bool (decide (most1 < (rv1.Kids.length : Int)))) rfl hg4 rfl) rfl <| OW_nil ?_
      obtain rfl := Option.some.inj hM
      exact ⟨rfl, rfl, rfl, hds, hs⟩
    ·clear hs
     rintro E w ⟨hE1, hE2, hE46, hds, hs⟩
     have hM := hKhx7
     obtain ⟨E, rfl⟩ := open3 (E := E) hE1 hE2 hE46
     rcases condS hM with ⟨hc20, hM⟩ | ⟨hc20, hM⟩
     ·refine WP_true rfl hc20 <| WP_seq <| WP_region <| O (r_assign (v := Value.bool false) rfl) rfl <| OW_nil <| WP_ret ?_
      obtain rfl := Option.some.inj hM
      refine FL_nil hds ?_
      exact ⟨_, res1 Try.results51 (rv_tmp (v := Value.bool false) rfl), g0, ⟨[Value.bool false], rfl, rfl⟩, hs.ext⟩
     ·refine WP_false rfl hc20 <| WP_skip ?_
      obtain ⟨o4, hx8, hKhx8⟩ := stepS hM
      refine WP_cut (fun E w => ∃ u9 : Unit, o4 = .next u9 ∧ ∃ (gg7 : Hp), E.ds = [] ∧ Hle g0 gg7 ∧ Go.Lx.Sep g0 w0 gg7 w []) ?_ ?_
      ·have hM := hx8
       have hag0 := Hle.refl g0
       refine WP_seq <| WP_region <| O (r_fieldAddr Try.underlying50 ti37 rfl rfl (by decide) rfl rfl) rfl <| O (r_load (v := v1) ti37 rfl (hs.cell (i := 0) (o := 5) rfl (by simp [rv1.Set.2]))) rfl ?_
       obtain ⟨a8, ca8, hva8⟩ := hRv1.shape
       refine O (r_lenSl (v := v1) Try.underlying37 rfl hva8) rfl <| O (r_move (v := Value.int .i64 0) rfl) rfl <| OW_nil <| WP_block <| WP_loop (fun (xv11 : Int) E w => ∃ (gg10 : Hp), E 1 = Value.int .i64 depth1 ∧ E 48 = v1 ∧ E 49 = Value.int .i64 (rv1.Kids.length : Int) ∧ E 50 = Value.int .i64 xv11 ∧ E.ds = [] ∧ Hle g0 gg10 ∧ Go.Lx.Sep g0 w0 gg10 w []) hM ⟨g0, rfl, rfl, rfl, rfl, hds, (Hle.refl _), (hs.sub (.cons _ .slnil))⟩ ?_
       clear hs hM
       rintro xv11 o3 E w hM ⟨gg10, hE1, hE48, hE49, hE50, hds, hlegg10, hs⟩
       obtain ⟨E, rfl⟩ := open4 (E := E) hE1 hE48 hE49 hE50
       replace hRv1 := hRv1.mono hlegg10
       have hagg10 := Hle.refl gg10
       refine WP_seq <| WP_region <| O (r_lss rfl rfl) rfl <| OW_nil <| WP_seq ?_
       rcases condS hM with ⟨hc31, hM⟩ | ⟨hc31, hM⟩
       ·refine WP_true rfl hc31 <| WP_skip <| WP_seq <| WP_block <| WP_seq <| WP_region ?_
        obtain ⟨e6, he6, hM⟩ := bindS hM
        obtain ⟨b12, ob12, cb12, hvb12, cs30, hcs30, hcb12⟩ := hRv1.at he6
        obtain ⟨cs31, cs32, cs33, rfl, hcs31, hcs32, hcs33⟩ := tT_Regex_iff.1 hcs30
        have hcs31 : cs31 = _ := hcs31; subst hcs31
        have hcs32 : cs32 = _ := hcs32; subst hcs32
        obtain ⟨v12, rfl, hRv12⟩ := hcs33
        refine O (r_idxSl Try.underlying37 ti50 (v := v1) rfl hvb12 rfl (idxL_some he6).1 (idxL_some he6).2.1) rfl <| O (r_loadEl (cs := ([Value.int .i64 e6.Kind]) ++ ((e6.Set.1.map (Value.int .u64)) ++ ([v12]))) ti50 rfl (by simp [e6.Set.2]) (.inl rfl) (hcb12 _ hs.imm) (v := Value.agg (List.toArray (α := Value) (([Value.int .i64 e6.Kind]) ++ ((e6.Set.1.map (Value.int .u64)) ++ ([v12]))))) rfl) rfl <| OW_alloc ti50 hs (zs := ([Value.int .i64 0]) ++ (((Vec.zero 4).1.map (Value.int .u64)) ++ ([Value.slice none 0 0]))) rfl rfl ?_
        intro b13 wv17 hs
        refine OW_storeAll ti50 hs (i := 0) rfl rfl (v := Value.agg (List.toArray (α := Value) (([Value.int .i64 e6.Kind]) ++ ((e6.Set.1.map (Value.int .u64)) ++ ([v12]))))) rfl (vs := ([Value.int .i64 e6.Kind]) ++ ((e6.Set.1.map (Value.int .u64)) ++ ([v12]))) rfl (one_append (one_cons rfl one_nil) (one_append vec_one (one_cons (by obtain ⟨_, _, h9⟩ := hRv12.shape; rw [h9]; rfl) one_nil))) (by simp [e6.Set.2]) (by simp [e6.Set.2, (Vec.zero 4).2]) ?_
        intro wv18 hs
        refine OW_nil <| WP_seq <| WP_region <| O (r_loadN (cs := ([Value.int .i64 e6.Kind]) ++ ((e6.Set.1.map (Value.int .u64)) ++ ([v12]))) ti50 rfl (by simp [e6.Set.2]) (hs.cells (i := 0) rfl)) rfl <| O (r_move (v := Value.int .i64 depth1) rfl) rfl ?_
        obtain ⟨t11, ht11, hM⟩ := bindS hM
        refine O (r_subM rfl rfl ht11) rfl ?_
        obtain ⟨rv7, hrv7, hM⟩ := bindS hM
        refine C [Value.agg (List.toArray (α := Value) (([Value.int .i64 e6.Kind]) ++ ((e6.Set.1.map (Value.int .u64)) ++ ([v12])))), Value.int .i64 t11] cf51 rfl (ih_regex_valid hrv7 hs.imm (tT_Regex_iff.2 ⟨[Value.int .i64 e6.Kind], e6.Set.1.map (Value.int .u64), [v12], rfl, rfl, rfl, ⟨_, rfl, hRv12⟩⟩)) rfl ?_
        rintro v13 wv19 ⟨gg13, hvv13, hegg13⟩
        have hlegg13 := hegg13.le hs.imm
        replace hs := hs.call hegg13
        replace hlegg10 := hlegg10.trans hlegg13
        obtain ⟨cs34, rfl, hcs34⟩ := hvv13
        have hcs34 : cs34 = _ := hcs34; subst hcs34
        refine O (r_not rfl) rfl <| OW_nil ?_
        rcases condS hM with ⟨hc32, hM⟩ | ⟨hc32, hM⟩
        ·refine WP_true rfl hc32 <| WP_seq <| WP_region <| O (r_assign (v := Value.bool false) rfl) rfl <| OW_nil <| WP_ret ?_
         obtain rfl := Option.some.inj hM
         refine fun hr => ?_
         have hM := congrArg some hr
         obtain rfl := Option.some.inj hM
         have hM := hKhx8
         obtain rfl := Option.some.inj hM
         refine FL_nil hds ?_
         exact ⟨_, res1 Try.results51 (rv_tmp (v := Value.bool false) rfl), gg13, ⟨[Value.bool false], rfl, rfl⟩, hs.ext⟩
        ·refine WP_false rfl hc32 <| WP_skip <| WP_region ?_
         obtain ⟨t12, ht12, hM⟩ := bindS hM
         refine O (r_addM rfl rfl ht12) rfl <| O (r_move (v := Value.int .i64 t12) rfl) rfl <| OW_nil ?_
         obtain rfl := Option.some.inj hM
         exact ⟨gg13, rfl, rfl, rfl, rfl, hds, hlegg10, (hs.sub (.cons _ .slnil))⟩
       ·refine WP_false rfl hc31 <| WP_exit ?_
        obtain rfl := Option.some.inj hM
        refine fun hr => ?_
        have hM := congrArg some hr
        obtain rfl := Option.some.inj hM
        exact ⟨(), rfl, gg10, hds, hlegg10, hs⟩
      ·clear hs
       rintro E w ⟨_, rfl, gg7, hds, hlegg7, hs⟩
       have hM := hKhx8
       dsimp only [onStep] at hM
       refine WP_seq <| WP_region <| O (r_assign (v := Value.bool true) rfl) rfl <| OW_nil <| WP_ret ?_
       obtain rfl := Option.some.inj hM
       refine FL_nil hds ?_
       exact ⟨_, res1 Try.results51 (rv_tmp (v := Value.bool true) rfl), gg7, ⟨[Value.bool true], rfl, rfl⟩, hs.ext⟩
theorem regex_valid_zero : C.regex_valid 0 := by
  unfold C.regex_valid
  intros
  simp_all only [M.regex_valid, reduceCtorEq]
theorem regex_valid_all : ∀ fl, C.regex_valid fl := by
  intro fl
  induction fl with
  | zero => exact regex_valid_zero
  | succ fl ih =>
    exact regex_valid_step ih
theorem regex_valid_ok {fl : Nat} : C.regex_valid fl := (regex_valid_all fl)
set_option maxRecDepth 100000 in
theorem regex_Valid_ok {rv1 : T_Regex} {r : Bool} (hM : M.regex_Valid rv1 = some r) {g0 : Hp} {w0 : World} (hi : Imm g0 w0) {cs1 : List Value} (hcs1 : tT_Regex.rel g0 cs1 rv1) :
    CallsV Try.prog 40 #[Value.agg cs1.toArray] w0 (fun v w' => ∃ g', (VRd tBool false g' v r) ∧ Ext g0 w0 g' w') := by
 unfold M.regex_Valid at hM
 obtain ⟨cs2, cs3, cs4, rfl, hcs2, hcs3, hcs4⟩ := tT_Regex_iff.1 hcs1
 have hcs2 : cs2 = _ := hcs2; subst hcs2
 have hcs3 : cs3 = _ := hcs3; subst hcs3
 obtain ⟨v1, rfl, hRv1⟩ := hcs4
 have hs := Sep.start hi
 refine calls_of_WP (args := [Value.agg (List.toArray (α := Value) (([Value.int .i64 rv1.Kind]) ++ ((rv1.Set.1.map (Value.int .u64)) ++ ([v1]))))]) Try.func40 rfl Try.ntmps40 rfl ?_
 have hds : (argEnv [Value.agg (List.toArray (α := Value) (([Value.int .i64 rv1.Kind]) ++ ((rv1.Set.1.map (Value.int .u64)) ++ ([v1]))))]).ds = [] := rfl
 refine WP_seq <| WP_region <| OW_box (v := Value.agg (List.toArray (α := Value) (([Value.int .i64 rv1.Kind]) ++ ((rv1.Set.1.map (Value.int .u64)) ++ ([v1]))))) rfl hs (zs := ([Value.int .i64 rv1.Kind]) ++ ((rv1.Set.1.map (Value.int .u64)) ++ ([v1]))) rfl rfl ?_
 intro b1 wv1 hs
 refine O (r_assign (v := Value.bool false) rfl) rfl <| OW_nil <| WP_seq <| WP_region <| O (r_loadN (cs := ([Value.int .i64 rv1.Kind]) ++ ((rv1.Set.1.map (Value.int .u64)) ++ ([v1]))) ti50 rfl (by simp [rv1.Set.2]) (hs.cells (i := 0) rfl)) rfl ?_
 obtain ⟨rv2, hrv2, hM⟩ := bindS hM
 refine C [Value.agg (List.toArray (α := Value) (([Value.int .i64 rv1.Kind]) ++ ((rv1.Set.1.map (Value.int .u64)) ++ ([v1])))), Value.int .i64 30] cf51 rfl (regex_valid_ok hrv2 hs.imm (tT_Regex_iff.2 ⟨[Value.int .i64 rv1.Kind], rv1.Set.1.map (Value.int .u64), [v1], rfl, rfl, rfl, ⟨_, rfl, hRv1⟩⟩)) rfl ?_
 rintro v2 wv2 ⟨gg1, hvv2, hegg1⟩
 have hlegg1 := hegg1.le hs.imm
 replace hs := hs.call hegg1
 obtain ⟨cs5, rfl, hcs5⟩ := hvv2
 have hcs5 : cs5 = _ := hcs5; subst hcs5
 refine O (r_assign (v := Value.bool rv2) rfl) rfl <| OW_nil <| WP_ret ?_
 obtain rfl := Option.some.inj hM
 refine FL_nil hds ?_
 exact ⟨_, res1 Try.results40 (rv_tmp (v := Value.bool rv2) rfl), gg1, ⟨[Value.bool rv2], rfl, rfl⟩, hs.ext⟩
def C.nfa_nodes (fl : Nat) : Prop := ∀ {rv1 : T_Regex} {r : Int} (_ : M.nfa_nodes fl rv1 = some r) {g0 : Hp} {w0 : World} (hi : Imm g0 w0) {cs1 : List Value} (hcs1 : tT_Regex.rel g0 cs1 rv1),
    CallsV Try.prog 41 #[Value.agg cs1.toArray] w0 (fun v w' => ∃ g', (VRd (tInt .i64) false g' v r) ∧ Ext g0 w0 g' w')
set_option maxRecDepth 100000 in
theorem nfa_nodes_step {fl : Nat} (ih_nfa_nodes : C.nfa_nodes fl) : C.nfa_nodes (fl + 1) := by
 intro rv1 r hM g0 w0 hi cs1 hcs1
 unfold M.nfa_nodes at hM
 obtain ⟨cs2, cs3, cs4, rfl, hcs2, hcs3, hcs4⟩ := tT_Regex_iff.1 hcs1
 have hcs2 : cs2 = _ := hcs2; subst hcs2
 have hcs3 : cs3 = _ := hcs3; subst hcs3
 obtain ⟨v1, rfl, hRv1⟩ := hcs4
 have hs := Sep.start hi
 refine calls_of_WP (args := [Value.agg (List.toArray (α := Value) (([Value.int .i64 rv1.Kind]) ++ ((rv1.Set.1.map (Value.int .u64)) ++ ([v1]))))]) Try.func41 rfl Try.ntmps41 rfl ?_
 have hds : (argEnv [Value.agg (List.toArray (α := Value) (([Value.int .i64 rv1.Kind]) ++ ((rv1.Set.1.map (Value.int .u64)) ++ ([v1]))))]).ds = [] := rfl
 refine WP_seq <| WP_region <| OW_box (v := Value.agg (List.toArray (α := Value) (([Value.int .i64 rv1.Kind]) ++ ((rv1.Set.1.map (Value.int .u64)) ++ ([v1]))))) rfl hs (zs := ([Value.int .i64 rv1.Kind]) ++ ((rv1.Set.1.map (Value.int .u64)) ++ ([v1]))) rfl rfl ?_
 intro b1 wv1 hs
 refine O (r_assign (v := Value.int .i64 0) rfl) rfl <| OW_nil <| WP_seq <| WP_region <| O (r_assign (v := Value.int .i64 1) rfl) rfl <| OW_nil ?_
 obtain ⟨nv4, hx1, hKhx1⟩ := bindS hM
 refine WP_cut (fun E w => ∃ (gg7 : Hp), E 3 = Value.int .i64 nv4 ∧ E.ds = [] ∧ Hle g0 gg7 ∧ Go.Lx.Sep g0 w0 gg7 w []) ?_ ?_
 ·have hM := hx1
  have hag0 := Hle.refl g0
  refine WP_seq <| WP_region <| O (r_fieldAddr Try.underlying50 ti37 rfl rfl (by decide) rfl rfl) rfl <| O (r_load (v := v1) ti37 rfl (hs.cell (i := 0) (o := 5) rfl (by simp [rv1.Set.2]))) rfl ?_
  obtain ⟨a2, ca2, hva2⟩ := hRv1.shape
  refine O (r_lenSl (v := v1) Try.underlying37 rfl hva2) rfl <| O (r_move (v := Value.int .i64 0) rfl) rfl <| OW_nil <| WP_block <| WP_loop (fun (st9 : Int × Int) E w => match st9 with | (nv6, xv5) => ∃ (gg10 : Hp), E 3 = Value.int .i64 nv6 ∧ E 7 = v1 ∧ E 8 = Value.int .i64 (rv1.Kids.length : Int) ∧ E 9 = Value.int .i64 xv5 ∧ E.ds = [] ∧ Hle g0 gg10 ∧ Go.Lx.Sep g0 w0 gg10 w []) hM ⟨g0, rfl, rfl, rfl, rfl, hds, (Hle.refl _), (hs.sub (.cons _ .slnil))⟩ ?_
  clear hs hM
  rintro ⟨nv6, xv5⟩ o2 E w hM ⟨gg10, hE3, hE7, hE8, hE9, hds, hlegg10, hs⟩
  obtain ⟨E, rfl⟩ := open4 (E := E) hE3 hE7 hE8 hE9
  replace hRv1 := hRv1.mono hlegg10
  have hagg10 := Hle.refl gg10
  refine WP_seq <| WP_region <| O (r_lss rfl rfl) rfl <| OW_nil <| WP_seq ?_
  rcases condS hM with ⟨hc6, hM⟩ | ⟨hc6, hM⟩
  ·refine WP_true rfl hc6 <| WP_skip <| WP_seq <| WP_block <| WP_seq <| WP_region ?_
   obtain ⟨e6, he6, hM⟩ := bindS hM
   obtain ⟨b12, ob12, cb12, hvb12, cs30, hcs30, hcb12⟩ := hRv1.at he6
   obtain ⟨cs31, cs32, cs33, rfl, hcs31, hcs32, hcs33⟩ := tT_Regex_iff.1 hcs30
   have hcs31 : cs31 = _ := hcs31; subst hcs31
   have hcs32 : cs32 = _ := hcs32; subst hcs32
   obtain ⟨v12, rfl, hRv12⟩ := hcs33
   refine O (r_idxSl Try.underlying37 ti50 (v := v1) rfl hvb12 rfl (idxL_some he6).1 (idxL_some he6).2.1) rfl <| O (r_loadEl (cs := ([Value.int .i64 e6.Kind]) ++ ((e6.Set.1.map (Value.int .u64)) ++ ([v12]))) ti50 rfl (by simp [e6.Set.2]) (.inl rfl) (hcb12 _ hs.imm) (v := Value.agg (List.toArray (α := Value) (([Value.int .i64 e6.Kind]) ++ ((e6.Set.1.map (Value.int .u64)) ++ ([v12]))))) rfl) rfl <| OW_alloc ti50 hs (zs := ([Value.int .i64 0]) ++ (((Vec.zero 4).1.map (Value.int .u64)) ++ ([Value.slice none 0 0]))) rfl rfl ?_
   intro b13 wv17 hs
   refine OW_storeAll ti50 hs (i := 0) rfl rfl (v := Value.agg (List.toArray (α := Value) (([Value.int .i64 e6.Kind]) ++ ((e6.Set.1.map (Value.int .u64)) ++ ([v12]))))) rfl (vs := ([Value.int .i64 e6.Kind]) ++ ((e6.Set.1.map (Value.int .u64)) ++ ([v12]))) rfl (one_append (one_cons rfl one_nil) (one_append vec_one (one_cons (by obtain ⟨_, _, h9⟩ := hRv12.shape; rw [h9]; rfl) one_nil))) (by simp [e6.Set.2]) (by simp [e6.Set.2, (Vec.zero 4).2]) ?_
   intro wv18 hs
   refine OW_nil <| WP_region <| O (r_move (v := Value.int .i64 nv6) rfl) rfl <| O (r_loadN (cs := ([Value.int .i64 e6.Kind]) ++ ((e6.Set.1.map (Value.int .u64)) ++ ([v12]))) ti50 rfl (by simp [e6.Set.2]) (hs.cells (i := 0) rfl)) rfl ?_
   obtain ⟨rv7, hrv7, hM⟩ := bindS hM
   refine C [Value.agg (List.toArray (α := Value) (([Value.int .i64 e6.Kind]) ++ ((e6.Set.1.map (Value.int .u64)) ++ ([v12]))))] cf41 rfl (ih_nfa_nodes hrv7 hs.imm (tT_Regex_iff.2 ⟨[Value.int .i64 e6.Kind], e6.Set.1.map (Value.int .u64), [v12], rfl, rfl, rfl, ⟨_, rfl, hRv12⟩⟩)) rfl ?_
   rintro v13 wv19 ⟨gg13, hvv13, hegg13⟩
   have hlegg13 := hegg13.le hs.imm
   replace hs := hs.call hegg13
   replace hlegg10 := hlegg10.trans hlegg13
   obtain ⟨cs34, rfl, hcs34⟩ := hvv13
   have hcs34 : cs34 = _ := hcs34; subst hcs34
   obtain ⟨t11, ht11, hM⟩ := bindS hM
   refine O (r_addM rfl rfl ht11) rfl <| O (r_assign (v := Value.int .i64 t11) rfl) rfl <| OW_nil <| WP_region ?_
   obtain ⟨t12, ht12, hM⟩ := bindS hM
   refine O (r_addM rfl rfl ht12) rfl <| O (r_move (v := Value.int .i64 t12) rfl) rfl <| OW_nil ?_
   obtain rfl := Option.some.inj hM
   exact ⟨gg13, rfl, rfl, rfl, rfl, hds, hlegg10, (hs.sub (.cons _ .slnil))⟩
  ·refine WP_false rfl hc6 <| WP_exit ?_
   obtain rfl := Option.some.inj hM
   refine fun hr => ?_
   have hM := congrArg some hr
   obtain rfl := Option.some.inj hM
   exact ⟨gg10, rfl, hds, hlegg10, hs⟩
 ·clear hs
  rintro E w ⟨gg7, hE3, hds, hlegg7, hs⟩
  have hM := hKhx1
  obtain ⟨E, rfl⟩ := open1 (E := E) hE3
  refine WP_seq <| WP_region <| O (r_move (v := Value.int .i64 nv4) rfl) rfl <| O (r_assign (v := Value.int .i64 nv4) rfl) rfl <| OW_nil <| WP_ret ?_
  obtain rfl := Option.some.inj hM
  refine FL_nil hds ?_
  exact ⟨_, res1 Try.results41 (rv_tmp (v := Value.int .i64 nv4) rfl), gg7, ⟨[Value.int .i64 nv4], rfl, rfl⟩, hs.ext⟩
theorem nfa_nodes_zero : C.nfa_nodes 0 := by
  unfold C.nfa_nodes
  intros
  simp_all only [M.nfa_nodes, reduceCtorEq]
theorem nfa_nodes_all : ∀ fl, C.nfa_nodes fl := by
  intro fl
  induction fl with
  | zero => exact nfa_nodes_zero
  | succ fl ih =>
    exact nfa_nodes_step ih
theorem nfa_nodes_ok {fl : Nat} : C.nfa_nodes fl := (nfa_nodes_all fl)
set_option maxRecDepth 100000 in
theorem nfa_builder_none_ok {b1 : T_nfa_builder} {rv1 : T_Regex} {r : T_nfa_part × T_nfa_builder} (hM : M.nfa_builder_none b1 rv1 = some r) {g0 : Hp} {w0 : World} {gi : Hp} {wi : World} {Lt : List Res} {b2 : Nat} {v1 : Value} {xs1 : List Value} {v2 : Value} {xs2 : List Value} {G1 : List Res} (hs : Sep g0 w0 gi wi (Go.Lx.box b2 68 ([v1, v2]) :: .row v1 48 (tVec 4 .u64).sz b1.sets.length xs1 :: .row v2 64 1 b1.behind.length xs2 :: (G1 ++ Lt))) {cs1 : List Value} (hcs1 : tT_Regex.rel gi cs1 rv1) (hrelxs1 : RowRel (tVec 4 .u64) gi xs1 b1.sets) (hGG1 : GRel (iMap (Value.int .i64) Value.bool) gi xs2 b1.behind G1) :
    CallsV Try.prog 52 #[Value.pointer (some ⟨b2, 0, none⟩), Value.agg cs1.toArray] wi (fun v w' => ∃ g' v4 xs3 v5 xs4 G2, (VRd tT_nfa_part true g' v r.1) ∧ Hle gi g' ∧ RowRel (tVec 4 .u64) g' xs3 r.2.sets ∧ GRel (iMap (Value.int .i64) Value.bool) g' xs4 r.2.behind G2 ∧ Sep g0 w0 g' w' (Go.Lx.box b2 68 ([v4, v5]) :: .row v4 48 (tVec 4 .u64).sz r.2.sets.length xs3 :: .row v5 64 1 r.2.behind.length xs4 :: (G2 ++ Lt))) := by
 unfold M.nfa_builder_none at hM
 obtain ⟨cs2, cs3, cs4, rfl, hcs2, hcs3, hcs4⟩ := tT_Regex_iff.1 hcs1
 have hcs2 : cs2 = _ := hcs2; subst hcs2
 have hcs3 : cs3 = _ := hcs3; subst hcs3
 obtain ⟨v3, rfl, hRv3⟩ := hcs4
 have hagi := Hle.refl gi
 refine calls_of_WP (args := [Value.pointer (some ⟨b2, 0, none⟩), Value.agg (List.toArray (α := Value) (([Value.int .i64 rv1.Kind]) ++ ((rv1.Set.1.map (Value.int .u64)) ++ ([v3]))))]) Try.func52 rfl Try.ntmps52 rfl ?_
 have hds : (argEnv [Value.pointer (some ⟨b2, 0, none⟩), Value.agg (List.toArray (α := Value) (([Value.int .i64 rv1.Kind]) ++ ((rv1.Set.1.map (Value.int .u64)) ++ ([v3]))))]).ds = [] := rfl
 refine WP_seq <| WP_region <| OW_box (v := Value.agg (List.toArray (α := Value) (([Value.int .i64 rv1.Kind]) ++ ((rv1.Set.1.map (Value.int .u64)) ++ ([v3]))))) rfl hs (zs := ([Value.int .i64 rv1.Kind]) ++ ((rv1.Set.1.map (Value.int .u64)) ++ ([v3]))) rfl rfl ?_
 intro b3 wv1 hs
 refine OW_alloc ti70 hs (zs := [Value.bool false, Value.slice none 0 0, Value.slice none 0 0]) rfl rfl ?_
 intro b4 wv2 hs
 refine OW_nil <| WP_seq <| WP_region <| O (r_build (vs := []) (cs := [Value.bool false, Value.slice none 0 0, Value.slice none 0 0]) rfl (built_fill [(0, 1), (1, 1), (2, 1)] [Value.bool false, Value.slice none 0 0, Value.slice none 0 0] (fun _ => by kernel_rfl) (fill_done))) rfl <| OW_storeAll ti70 hs (i := 0) rfl rfl (v := Value.agg (List.toArray (α := Value) [Value.bool false, Value.slice none 0 0, Value.slice none 0 0])) rfl (vs := [Value.bool false, Value.slice none 0 0, Value.slice none 0 0]) rfl (one_cons rfl (one_cons rfl (one_cons rfl one_nil))) rfl rfl ?_
 intro wv3 hs
 refine OW_nil <| WP_ret ?_
 obtain rfl := Option.some.inj hM
 refine FL_nil hds ?_
 exact ⟨_, res1 Try.results52 (rv_cells (vs := [Value.bool false, Value.slice none 0 0, Value.slice none 0 0]) ti70 rfl rfl (hs.cells (i := 0) rfl)), gi, v1, xs1, v2, xs2, G1, ⟨[Value.bool false, Value.slice none 0 0, Value.slice none 0 0], rfl, ⟨[Value.bool false], [Value.slice none 0 0], [Value.slice none 0 0], rfl, rfl, ⟨_, rfl, RdS.nil⟩, ⟨_, rfl, RdS.nil⟩⟩⟩, (Hle.refl _), hrelxs1, hGG1, (Sep.selT (A := [Go.Lx.box b4 70 ([Value.bool false, Value.slice none 0 0, Value.slice none 0 0]), Go.Lx.box b3 50 (([Value.int .i64 rv1.Kind]) ++ ((rv1.Set.1.map (Value.int .u64)) ++ ([v3]))), Go.Lx.box b2 68 ([v1, v2]), .row v1 48 (tVec 4 .u64).sz b1.sets.length xs1, .row v2 64 1 b1.behind.length xs2]) (A' := [Go.Lx.box b2 68 ([v1, v2]), .row v1 48 (tVec 4 .u64).sz b1.sets.length xs1, .row v2 64 1 b1.behind.length xs2]) (L := (G1 ++ Lt)) hs [2, 3, 4] (by decide) rfl)⟩
set_option maxRecDepth 100000 in
theorem nfa_builder_empty_ok {b1 : T_nfa_builder} {rv1 : T_Regex} {r : T_nfa_part × T_nfa_builder} (hM : M.nfa_builder_empty b1 rv1 = some r) {g0 : Hp} {w0 : World} {gi : Hp} {wi : World} {Lt : List Res} {b2 : Nat} {v1 : Value} {xs1 : List Value} {v2 : Value} {xs2 : List Value} {G1 : List Res} (hs : Sep g0 w0 gi wi (Go.Lx.box b2 68 ([v1, v2]) :: .row v1 48 (tVec 4 .u64).sz b1.sets.length xs1 :: .row v2 64 1 b1.behind.length xs2 :: (G1 ++ Lt))) {cs1 : List Value} (hcs1 : tT_Regex.rel gi cs1 rv1) (hrelxs1 : RowRel (tVec 4 .u64) gi xs1 b1.sets) (hGG1 : GRel (iMap (Value.int .i64) Value.bool) gi xs2 b1.behind G1) :
    CallsV Try.prog 53 #[Value.pointer (some ⟨b2, 0, none⟩), Value.agg cs1.toArray] wi (fun v w' => ∃ g' v4 xs3 v5 xs4 G2, (VRd tT_nfa_part true g' v r.1) ∧ Hle gi g' ∧ RowRel (tVec 4 .u64) g' xs3 r.2.sets ∧ GRel (iMap (Value.int .i64) Value.bool) g' xs4 r.2.behind G2 ∧ Sep g0 w0 g' w' (Go.Lx.box b2 68 ([v4, v5]) :: .row v4 48 (tVec 4 .u64).sz r.2.sets.length xs3 :: .row v5 64 1 r.2.behind.length xs4 :: (G2 ++ Lt))) := by
 unfold M.nfa_builder_empty at hM
 obtain ⟨cs2, cs3, cs4, rfl, hcs2, hcs3, hcs4⟩ := tT_Regex_iff.1 hcs1
 have hcs2 : cs2 = _ := hcs2; subst hcs2
 have hcs3 : cs3 = _ := hcs3; subst hcs3
 obtain ⟨v3, rfl, hRv3⟩ := hcs4
 have hagi := Hle.refl gi
 refine calls_of_WP (args := [Value.pointer (some ⟨b2, 0, none⟩), Value.agg (List.toArray (α := Value) (([Value.int .i64 rv1.Kind]) ++ ((rv1.Set.1.map (Value.int .u64)) ++ ([v3]))))]) Try.func53 rfl Try.ntmps53 rfl ?_
 have hds : (argEnv [Value.pointer (some ⟨b2, 0, none⟩), Value.agg (List.toArray (α := Value) (([Value.int .i64 rv1.Kind]) ++ ((rv1.Set.1.map (Value.int .u64)) ++ ([v3]))))]).ds = [] := rfl
 refine WP_seq <| WP_region <| OW_box (v := Value.agg (List.toArray (α := Value) (([Value.int .i64 rv1.Kind]) ++ ((rv1.Set.1.map (Value.int .u64)) ++ ([v3]))))) rfl hs (zs := ([Value.int .i64 rv1.Kind]) ++ ((rv1.Set.1.map (Value.int .u64)) ++ ([v3]))) rfl rfl ?_
 intro b3 wv1 hs
 refine OW_alloc ti70 hs (zs := [Value.bool false, Value.slice none 0 0, Value.slice none 0 0]) rfl rfl ?_
 intro b4 wv2 hs
 refine OW_nil <| WP_seq <| WP_region <| O (r_build (vs := [(0, Value.bool true)]) (cs := [Value.bool true, Value.slice none 0 0, Value.slice none 0 0]) rfl (built_fill [(0, 1), (1, 1), (2, 1)] [Value.bool false, Value.slice none 0 0, Value.slice none 0 0] (fun _ => by kernel_rfl) (fill_step ([]) ([Value.bool false]) ([Value.slice none 0 0, Value.slice none 0 0]) ([Value.bool true]) rfl rfl rfl rfl rfl rfl <| fill_done))) rfl <| OW_storeAll ti70 hs (i := 0) rfl rfl (v := Value.agg (List.toArray (α := Value) [Value.bool true, Value.slice none 0 0, Value.slice none 0 0])) rfl (vs := [Value.bool true, Value.slice none 0 0, Value.slice none 0 0]) rfl (one_cons rfl (one_cons rfl (one_cons rfl one_nil))) rfl rfl ?_
 intro wv3 hs
 refine OW_nil <| WP_ret ?_
 obtain rfl := Option.some.inj hM
 refine FL_nil hds ?_
 exact ⟨_, res1 Try.results53 (rv_cells (vs := [Value.bool true, Value.slice none 0 0, Value.slice none 0 0]) ti70 rfl rfl (hs.cells (i := 0) rfl)), gi, v1, xs1, v2, xs2, G1, ⟨[Value.bool true, Value.slice none 0 0, Value.slice none 0 0], rfl, ⟨[Value.bool true], [Value.slice none 0 0], [Value.slice none 0 0], rfl, rfl, ⟨_, rfl, RdS.nil⟩, ⟨_, rfl, RdS.nil⟩⟩⟩, (Hle.refl _), hrelxs1, hGG1, (Sep.selT (A := [Go.Lx.box b4 70 ([Value.bool true, Value.slice none 0 0, Value.slice none 0 0]), Go.Lx.box b3 50 (([Value.int .i64 rv1.Kind]) ++ ((rv1.Set.1.map (Value.int .u64)) ++ ([v3]))), Go.Lx.box b2 68 ([v1, v2]), .row v1 48 (tVec 4 .u64).sz b1.sets.length xs1, .row v2 64 1 b1.behind.length xs2]) (A' := [Go.Lx.box b2 68 ([v1, v2]), .row v1 48 (tVec 4 .u64).sz b1.sets.length xs1, .row v2 64 1 b1.behind.length xs2]) (L := (G1 ++ Lt)) hs [2, 3, 4] (by decide) rfl)⟩
set_option maxRecDepth 100000 in
theorem nfa_builder_set_ok {b1 : T_nfa_builder} {rv1 : T_Regex} {r : T_nfa_part × T_nfa_builder} (hM : M.nfa_builder_set b1 rv1 = some r) {g0 : Hp} {w0 : World} {gi : Hp} {wi : World} {Lt : List Res} {b2 : Nat} {v1 : Value} {xs1 : List Value} {v2 : Value} {xs2 : List Value} {G1 : List Res} (hs : Sep g0 w0 gi wi (Go.Lx.box b2 68 ([v1, v2]) :: .row v1 48 (tVec 4 .u64).sz b1.sets.length xs1 :: .row v2 64 1 b1.behind.length xs2 :: (G1 ++ Lt))) {cs1 : List Value} (hcs1 : tT_Regex.rel gi cs1 rv1) (hrelxs1 : RowRel (tVec 4 .u64) gi xs1 b1.sets) (hGG1 : GRel (iMap (Value.int .i64) Value.bool) gi xs2 b1.behind G1) :
    CallsV Try.prog 54 #[Value.pointer (some ⟨b2, 0, none⟩), Value.agg cs1.toArray] wi (fun v w' => ∃ g' v9 xs8 v10 xs9 G4, (VRd tT_nfa_part true g' v r.1) ∧ Hle gi g' ∧ RowRel (tVec 4 .u64) g' xs8 r.2.sets ∧ GRel (iMap (Value.int .i64) Value.bool) g' xs9 r.2.behind G4 ∧ Sep g0 w0 g' w' (Go.Lx.box b2 68 ([v9, v10]) :: .row v9 48 (tVec 4 .u64).sz r.2.sets.length xs8 :: .row v10 64 1 r.2.behind.length xs9 :: (G4 ++ Lt))) := by
 unfold M.nfa_builder_set at hM
 obtain ⟨cs2, cs3, cs4, rfl, hcs2, hcs3, hcs4⟩ := tT_Regex_iff.1 hcs1
 have hcs2 : cs2 = _ := hcs2; subst hcs2
 have hcs3 : cs3 = _ := hcs3; subst hcs3
 obtain ⟨v3, rfl, hRv3⟩ := hcs4
 have hagi := Hle.refl gi
 refine calls_of_WP (args := [Value.pointer (some ⟨b2, 0, none⟩), Value.agg (List.toArray (α := Value) (([Value.int .i64 rv1.Kind]) ++ ((rv1.Set.1.map (Value.int .u64)) ++ ([v3]))))]) Try.func54 rfl Try.ntmps54 rfl ?_
 have hds : (argEnv [Value.pointer (some ⟨b2, 0, none⟩), Value.agg (List.toArray (α := Value) (([Value.int .i64 rv1.Kind]) ++ ((rv1.Set.1.map (Value.int .u64)) ++ ([v3]))))]).ds = [] := rfl
 refine WP_seq <| WP_region <| OW_box (v := Value.agg (List.toArray (α := Value) (([Value.int .i64 rv1.Kind]) ++ ((rv1.Set.1.map (Value.int .u64)) ++ ([v3]))))) rfl hs (zs := ([Value.int .i64 rv1.Kind]) ++ ((rv1.Set.1.map (Value.int .u64)) ++ ([v3]))) rfl rfl ?_
 intro b3 wv1 hs
 refine OW_alloc ti70 hs (zs := [Value.bool false, Value.slice none 0 0, Value.slice none 0 0]) rfl rfl ?_
 intro b4 wv2 hs
 refine OW_nil <| WP_seq <| WP_any (.q 0 (.q 1 (.q 2 (.q 3 (.q 4 (.q 5 (.q 6 (.s 7 (.s 8 (.q 9 (.q 10 (.s 11 (.leaf))))))))))))) (SS g0 w0 gi (Go.Lx.box b4 70 ([Value.bool false, Value.slice none 0 0, Value.slice none 0 0]) :: Go.Lx.box b3 50 (([Value.int .i64 rv1.Kind]) ++ ((rv1.Set.1.map (Value.int .u64)) ++ ([v3]))) :: Go.Lx.box b2 68 ([v1, v2]) :: .row v1 48 (tVec 4 .u64).sz b1.sets.length xs1 :: .row v2 64 1 b1.behind.length xs2 :: (G1 ++ Lt))) mo (by decide +kernel) ?_
 have hs := hs.drew
 have hS : SS g0 w0 gi (Go.Lx.box b4 70 ([Value.bool false, Value.slice none 0 0, Value.slice none 0 0]) :: Go.Lx.box b3 50 (([Value.int .i64 rv1.Kind]) ++ ((rv1.Set.1.map (Value.int .u64)) ++ ([v3]))) :: Go.Lx.box b2 68 ([v1, v2]) :: .row v1 48 (tVec 4 .u64).sz b1.sets.length xs1 :: .row v2 64 1 b1.behind.length xs2 :: (G1 ++ Lt)) _ := ⟨gi, Hle.refl _, hs⟩
 refine A rfl hS (fun w9 ⟨g9, hle9, hs⟩ => r_move (v := Value.pointer (some ⟨b2, 0, none⟩)) rfl) rfl <| A rfl hS (fun w9 ⟨g9, hle9, hs⟩ => r_move (v := Value.pointer (some ⟨b2, 0, none⟩)) rfl) rfl <| A rfl hS (fun w9 ⟨g9, hle9, hs⟩ => r_nilCheck rfl) rfl <| A rfl hS (fun w9 ⟨g9, hle9, hs⟩ => r_fieldAddr Try.underlying68 ti66 rfl rfl (by decide) rfl rfl) rfl <| A rfl hS (fun w9 ⟨g9, hle9, hs⟩ => r_load (v := v1) ti66 rfl (hs.cell (i := 2) (o := 0) rfl rfl)) rfl <| A rfl hS (fun w9 ⟨g9, hle9, hs⟩ => r_fieldAddr Try.underlying50 ti48 rfl rfl (by decide) rfl rfl) rfl <| A rfl hS (fun w9 ⟨g9, hle9, hs⟩ => r_loadN (cs := rv1.Set.1.map (Value.int .u64)) ti48 rfl (by simp [rv1.Set.2]) (hs.cellsAt (i := 1) (o := 1) rfl (by intro j u hj; exact sub_at (pre := [Value.int .i64 rv1.Kind]) (ds := rv1.Set.1.map (Value.int .u64)) (post := [v3]) rfl ((by simp)) hj))) rfl ?_
 refine A1 rfl <| OW_lit (τ := (tVec 4 .u64)) [encV .u64 rv1.Set] [rv1.Set] Try.underlying66 ti48 (by decide) hs rfl rfl rfl ⟨rfl, trivial⟩ rfl ?_
 intro v4 wv3 xs3 hrelxs3 hs
 refine OW_nil ?_
 replace hS := hS.to (Hle.refl _) (Sep.selT (A := [.row v4 48 (tVec 4 .u64).sz [rv1.Set].length xs3, Go.Lx.box b4 70 ([Value.bool false, Value.slice none 0 0, Value.slice none 0 0]), Go.Lx.box b3 50 (([Value.int .i64 rv1.Kind]) ++ ((rv1.Set.1.map (Value.int .u64)) ++ ([v3]))), Go.Lx.box b2 68 ([v1, v2]), .row v1 48 (tVec 4 .u64).sz b1.sets.length xs1, .row v2 64 1 b1.behind.length xs2]) (A' := [Go.Lx.box b4 70 ([Value.bool false, Value.slice none 0 0, Value.slice none 0 0]), Go.Lx.box b3 50 (([Value.int .i64 rv1.Kind]) ++ ((rv1.Set.1.map (Value.int .u64)) ++ ([v3]))), Go.Lx.box b2 68 ([v1, v2]), .row v1 48 (tVec 4 .u64).sz b1.sets.length xs1, .row v2 64 1 b1.behind.length xs2]) (L := (G1 ++ Lt)) hs [1, 2, 3, 4, 5] (by decide) rfl)
 refine ⟨fun _ => hS, ?_⟩
 refine A1 rfl ?_
 obtain ⟨y1, hy1, hM⟩ := bindS hM
 refine OW_appendK Try.underlying66 ti48 rfl (by decide) (by decide) hs (i := 4) rfl hrelxs1 (v := v1) rfl (u := v4) rfl (hs.rowSrc (i := 0) rfl) hrelxs3 hy1 rfl ?_
 intro v5 wv4 xs4 hrelxs4 hsO hs
 refine OW_nil ?_
 have hsO : Go.Lx.Sep g0 w0 gi _ (Go.Lx.box b4 70 ([Value.bool false, Value.slice none 0 0, Value.slice none 0 0]) :: Go.Lx.box b3 50 (([Value.int .i64 rv1.Kind]) ++ ((rv1.Set.1.map (Value.int .u64)) ++ ([v3]))) :: Go.Lx.box b2 68 ([v1, v2]) :: .row v1 48 (tVec 4 .u64).sz b1.sets.length xs1 :: .row v2 64 1 b1.behind.length xs2 :: (G1 ++ Lt)) := (Sep.selT (A := [.row v4 48 (tVec 4 .u64).sz [rv1.Set].length xs3, Go.Lx.box b4 70 ([Value.bool false, Value.slice none 0 0, Value.slice none 0 0]), Go.Lx.box b3 50 (([Value.int .i64 rv1.Kind]) ++ ((rv1.Set.1.map (Value.int .u64)) ++ ([v3]))), Go.Lx.box b2 68 ([v1, v2]), .row v1 48 (tVec 4 .u64).sz b1.sets.length xs1, .row v2 64 1 b1.behind.length xs2]) (A' := [Go.Lx.box b4 70 ([Value.bool false, Value.slice none 0 0, Value.slice none 0 0]), Go.Lx.box b3 50 (([Value.int .i64 rv1.Kind]) ++ ((rv1.Set.1.map (Value.int .u64)) ++ ([v3]))), Go.Lx.box b2 68 ([v1, v2]), .row v1 48 (tVec 4 .u64).sz b1.sets.length xs1, .row v2 64 1 b1.behind.length xs2]) (L := (G1 ++ Lt)) hsO [1, 2, 3, 4, 5] (by decide) rfl)
 replace hS := hS.to (Hle.refl _) hsO
 refine ⟨fun _ => hS, ?_⟩
 refine A rfl hS (fun w9 ⟨g9, hle9, hs⟩ => r_nilCheck rfl) rfl <| A rfl hS (fun w9 ⟨g9, hle9, hs⟩ => r_fieldAddr Try.underlying68 ti66 rfl rfl (by decide) rfl rfl) rfl <| A1 rfl <| OW_store1 ti66 hs (i := 3) rfl rfl (v := v5) rfl (by obtain ⟨_, _, h9⟩ := hs.rowShape (i := 4) rfl; rw [h9]; rfl) (o := 0) (by simp) ?_
 intro wv5 hs
 refine OW_nil ?_
 refine ⟨fun h => absurd h (by decide +kernel), ?_⟩
 refine AN <| WP_seq <| WP_region <| O (r_move (v := Value.pointer (some ⟨b2, 0, none⟩)) rfl) rfl <| O (r_move (v := Value.pointer (some ⟨b2, 0, none⟩)) rfl) rfl <| O (r_nilCheck rfl) rfl <| O (r_fieldAddr Try.underlying68 ti65 rfl rfl (by decide) rfl rfl) rfl <| O (r_load (v := v2) ti65 rfl (hs.cell (i := 3) (o := 1) rfl rfl)) rfl <| OW_makeMap hs rfl ?_
 intro b5 wv6 hs
 have hmb5 : MRel (Value.int .i64) Value.bool #[] 0 [] := mrel_nil
 refine OW_litG (I := (iMap (Value.int .i64) Value.bool)) (A := [.obj b5 (.map #[] 0), .row v4 48 (tVec 4 .u64).sz [rv1.Set].length xs3, Go.Lx.box b4 70 ([Value.bool false, Value.slice none 0 0, Value.slice none 0 0]), Go.Lx.box b3 50 (([Value.int .i64 rv1.Kind]) ++ ((rv1.Set.1.map (Value.int .u64)) ++ ([v3]))), Go.Lx.box b2 68 ([v5, v2]), .row v5 48 (tVec 4 .u64).sz y1.length xs4, .row v2 64 1 b1.behind.length xs2]) (B := (G1 ++ Lt)) (i := 0) (u := Value.map (some b5)) (l := []) Try.underlying65 ti64 hs rfl ⟨b5, #[], 0, rfl, rfl, hmb5⟩ rfl rfl ?_
 intro v6 wv7 xs5 G2 hGG2 hs
 replace hs : Go.Lx.Sep g0 w0 gi _ (.row v6 64 1 [[]].length xs5 :: .row v4 48 (tVec 4 .u64).sz [rv1.Set].length xs3 :: Go.Lx.box b4 70 ([Value.bool false, Value.slice none 0 0, Value.slice none 0 0]) :: Go.Lx.box b3 50 (([Value.int .i64 rv1.Kind]) ++ ((rv1.Set.1.map (Value.int .u64)) ++ ([v3]))) :: Go.Lx.box b2 68 ([v5, v2]) :: .row v5 48 (tVec 4 .u64).sz y1.length xs4 :: .row v2 64 1 b1.behind.length xs2 :: (G2 ++ (G1 ++ Lt))) := hs
 obtain ⟨y2, hy2, hM⟩ := bindS hM
 refine OW_appendG (A := [.row v6 64 1 [[]].length xs5, .row v4 48 (tVec 4 .u64).sz [rv1.Set].length xs3, Go.Lx.box b4 70 ([Value.bool false, Value.slice none 0 0, Value.slice none 0 0]), Go.Lx.box b3 50 (([Value.int .i64 rv1.Kind]) ++ ((rv1.Set.1.map (Value.int .u64)) ++ ([v3]))), Go.Lx.box b2 68 ([v5, v2]), .row v5 48 (tVec 4 .u64).sz y1.length xs4, .row v2 64 1 b1.behind.length xs2]) (B := Lt) Try.underlying65 ti64 rfl (by decide) hs (i := 6) (j := 0) rfl rfl (by decide) hGG1 hGG2 (x := _) rfl rfl hy2 rfl ?_
 intro v7 wv8 xs6 G3 hGG3 hs
 replace hs : Go.Lx.Sep g0 w0 gi _ (.row v4 48 (tVec 4 .u64).sz [rv1.Set].length xs3 :: Go.Lx.box b4 70 ([Value.bool false, Value.slice none 0 0, Value.slice none 0 0]) :: Go.Lx.box b3 50 (([Value.int .i64 rv1.Kind]) ++ ((rv1.Set.1.map (Value.int .u64)) ++ ([v3]))) :: Go.Lx.box b2 68 ([v5, v2]) :: .row v5 48 (tVec 4 .u64).sz y1.length xs4 :: .row v7 64 1 y2.length xs6 :: (G3 ++ Lt)) := hs
 refine O (r_nilCheck rfl) rfl <| O (r_fieldAddr Try.underlying68 ti65 rfl rfl (by decide) rfl rfl) rfl <| OW_store1 ti65 hs (i := 3) rfl rfl (v := v7) rfl (by obtain ⟨_, _, h9⟩ := hs.rowShape (i := 5) rfl; rw [h9]; rfl) (o := 1) (by simp) ?_
 intro wv9 hs
 refine OW_nil <| WP_seq <| WP_region <| O (r_move (v := Value.pointer (some ⟨b2, 0, none⟩)) rfl) rfl <| O (r_nilCheck rfl) rfl <| O (r_fieldAddr Try.underlying68 ti66 rfl rfl (by decide) rfl rfl) rfl <| O (r_load (v := v5) ti66 rfl (hs.cell (i := 3) (o := 0) rfl rfl)) rfl ?_
 obtain ⟨a1, ca1, hva1⟩ := hs.rowShape (i := 4) rfl
 refine O (r_lenSl (v := v5) Try.underlying66 rfl hva1) rfl <| OW_lit (τ := (tInt .i64)) [Value.int .i64 (y1.length : Int)] [(y1.length : Int)] Try.underlying23 ti3 (by decide) hs rfl rfl rfl ⟨rfl, trivial⟩ rfl ?_
 intro v8 wv10 xs7 hrelxs7 hs
 refine O (r_assign (v := v8) rfl) rfl <| OW_nil <| WP_seq <| WP_region <| O (r_move (v := v8) rfl) rfl <| O (r_move (v := v8) rfl) rfl ?_
 have ho1 := one_of_shape (hs.rowShape (i := 0) rfl)
 have ho2 := one_of_shape (hs.rowShape (i := 0) rfl)
 refine O (r_build (vs := [(1, v8), (2, v8)]) (cs := [Value.bool false, v8, v8]) rfl (built_fill [(0, 1), (1, 1), (2, 1)] [Value.bool false, Value.slice none 0 0, Value.slice none 0 0] (fun _ => by kernel_rfl) (fill_step ([Value.bool false]) ([Value.slice none 0 0]) ([Value.slice none 0 0]) ([v8]) rfl rfl (cells_one ho1) rfl rfl rfl <| fill_step ([Value.bool false, v8]) ([Value.slice none 0 0]) ([]) ([v8]) rfl rfl (cells_one ho2) rfl rfl rfl <| fill_done))) rfl <| OW_storeAll ti70 hs (i := 2) rfl rfl (v := Value.agg (List.toArray (α := Value) [Value.bool false, v8, v8])) rfl (vs := [Value.bool false, v8, v8]) rfl (one_cons rfl (one_cons (by obtain ⟨_, _, h9⟩ := hs.rowShape (i := 0) rfl; rw [h9]; rfl) (one_cons (by obtain ⟨_, _, h9⟩ := hs.rowShape (i := 0) rfl; rw [h9]; rfl) one_nil))) rfl rfl ?_
 intro wv11 hs
 refine OW_nil <| WP_ret ?_
 obtain rfl := Option.some.inj hM
 obtain ⟨gg1, hlegg1, hRgg1, hs⟩ := hs.relRow (i := 0) rfl hrelxs7
 replace hrelxs4 := hrelxs4.mono hlegg1
 replace hGG3 := hGG3.mono hlegg1
 replace hagi := hagi.trans hlegg1
 refine FL_nil hds ?_
 exact ⟨_, res1 Try.results54 (rv_cells (vs := [Value.bool false, v8, v8]) ti70 rfl rfl (hs.cells (i := 1) rfl)), gg1, v5, xs4, v7, xs6, G3, ⟨[Value.bool false, v8, v8], rfl, ⟨[Value.bool false], [v8], [v8], rfl, rfl, ⟨_, rfl, hRgg1⟩, ⟨_, rfl, hRgg1⟩⟩⟩, hagi, hrelxs4, hGG3, (Sep.selT (A := [.row v4 48 (tVec 4 .u64).sz [rv1.Set].length xs3, Go.Lx.box b4 70 ([Value.bool false, v8, v8]), Go.Lx.box b3 50 (([Value.int .i64 rv1.Kind]) ++ ((rv1.Set.1.map (Value.int .u64)) ++ ([v3]))), Go.Lx.box b2 68 ([v5, v7]), .row v5 48 (tVec 4 .u64).sz y1.length xs4, .row v7 64 1 y2.length xs6]) (A' := [Go.Lx.box b2 68 ([v5, v7]), .row v5 48 (tVec 4 .u64).sz y1.length xs4, .row v7 64 1 y2.length xs6]) (L := (G3 ++ Lt)) hs [3, 4, 5] (by decide) rfl)⟩
set_option maxRecDepth 100000 in
theorem nfa_builder_link_ok {b1 : T_nfa_builder} {fromv1 : (List Int)} {tov1 : (List Int)} {r : T_nfa_builder} (hM : M.nfa_builder_link b1 fromv1 tov1 = some r) {g0 : Hp} {w0 : World} {gi : Hp} {wi : World} {Lt : List Res} {b2 : Nat} {v1 : Value} {xs1 : List Value} {v2 : Value} {xs2 : List Value} {G1 : List Res} (hs : Sep g0 w0 gi wi (Go.Lx.box b2 68 ([v1, v2]) :: .row v1 48 (tVec 4 .u64).sz b1.sets.length xs1 :: .row v2 64 1 b1.behind.length xs2 :: (G1 ++ Lt))) {v3 : Value} (hRv3 : RdS (tInt .i64) gi v3 fromv1) {v4 : Value} (hRv4 : RdS (tInt .i64) gi v4 tov1) (hrelxs1 : RowRel (tVec 4 .u64) gi xs1 b1.sets) (hGG1 : GRel (iMap (Value.int .i64) Value.bool) gi xs2 b1.behind G1) :
    CallsV Try.prog 43 #[Value.pointer (some ⟨b2, 0, none⟩), v3, v4] wi (fun v w' => ∃ g' v35 xs33 v36 xs34 G44, (True) ∧ Hle gi g' ∧ RowRel (tVec 4 .u64) g' xs33 r.sets ∧ GRel (iMap (Value.int .i64) Value.bool) g' xs34 r.behind G44 ∧ Sep g0 w0 g' w' (Go.Lx.box b2 68 ([v35, v36]) :: .row v35 48 (tVec 4 .u64).sz r.sets.length xs33 :: .row v36 64 1 r.behind.length xs34 :: (G44 ++ Lt))) := by
 unfold M.nfa_builder_link at hM
 have hagi := Hle.refl gi
 refine calls_of_WP (args := [Value.pointer (some ⟨b2, 0, none⟩), v3, v4]) Try.func43 rfl Try.ntmps43 rfl ?_
 have hds : (argEnv [Value.pointer (some ⟨b2, 0, none⟩), v3, v4]).ds = [] := rfl
 refine WP_seq <| WP_region <| O (r_move (v := v3) rfl) rfl ?_
 obtain ⟨a1, ca1, hva1⟩ := hRv3.shape
 refine O (r_lenSl (v := v3) Try.underlying23 rfl hva1) rfl <| O (r_move (v := Value.int .i64 0) rfl) rfl <| OW_nil <| WP_block <| WP_loop (fun (st9 : (List (List (Int × Bool))) × Int) E w => match st9 with | (xv16, xv17) => ∃ (v15 : Value) (xs13 : List Value) (v16 : Value) (xs14 : List Value) (G16 : List Res), E 0 = Value.pointer (some ⟨b2, 0, none⟩) ∧ E 2 = v4 ∧ E 10 = v3 ∧ E 11 = Value.int .i64 (fromv1.length : Int) ∧ E 12 = Value.int .i64 xv17 ∧ E.ds = [] ∧ RowRel (tVec 4 .u64) gi xs13 b1.sets ∧ GRel (iMap (Value.int .i64) Value.bool) gi xs14 xv16 G16 ∧ Go.Lx.Sep g0 w0 gi w (Go.Lx.box b2 68 ([v15, v16]) :: .row v15 48 (tVec 4 .u64).sz b1.sets.length xs13 :: .row v16 64 1 xv16.length xs14 :: (G16 ++ Lt))) hM ⟨v1, xs1, v2, xs2, G1, rfl, rfl, rfl, rfl, rfl, hds, hrelxs1, hGG1, hs⟩ ?_
 clear hs hM
 rintro ⟨xv16, xv17⟩ o5 E w hM ⟨v15, xs13, v16, xs14, G16, hE0, hE2, hE10, hE11, hE12, hds, hrelxs13, hGG16, hs⟩
 obtain ⟨E, rfl⟩ := open5 (E := E) hE0 hE2 hE10 hE11 hE12
 refine WP_seq <| WP_region <| O (r_lss rfl rfl) rfl <| OW_nil <| WP_seq ?_
 rcases condS hM with ⟨hc15, hM⟩ | ⟨hc15, hM⟩
 ·refine WP_true rfl hc15 <| WP_skip ?_
  obtain ⟨xv39, hx3, hKhx3⟩ := bindS hM
  refine WP_cut (fun E w => ∃ (v30 : Value) (xs28 : List Value) (v31 : Value) (xs29 : List Value) (G37 : List Res), E 0 = Value.pointer (some ⟨b2, 0, none⟩) ∧ E 2 = v4 ∧ E 10 = v3 ∧ E 11 = Value.int .i64 (fromv1.length : Int) ∧ E 12 = Value.int .i64 xv17 ∧ E.ds = [] ∧ RowRel (tVec 4 .u64) gi xs28 b1.sets ∧ GRel (iMap (Value.int .i64) Value.bool) gi xs29 xv39 G37 ∧ Go.Lx.Sep g0 w0 gi w (Go.Lx.box b2 68 ([v30, v31]) :: .row v30 48 (tVec 4 .u64).sz b1.sets.length xs28 :: .row v31 64 1 xv39.length xs29 :: (G37 ++ Lt))) ?_ ?_
  ·have hM := hx3
   refine WP_block <| WP_seq <| WP_region ?_
   obtain ⟨e36, he36, hM⟩ := bindS hM
   obtain ⟨b53, ob53, cb53, hvb53, cs21, hcs21, hcb53⟩ := hRv3.at he36
   have hcs21 : cs21 = _ := hcs21; subst hcs21
   refine O (r_idxSl Try.underlying23 ti3 (v := v3) rfl hvb53 rfl (idxL_some he36).1 (idxL_some he36).2.1) rfl <| O (r_loadEl (cs := [Value.int .i64 e36]) ti3 rfl rfl (.inr rfl) (hcb53 _ hs.imm) (v := Value.int .i64 e36) rfl) rfl <| O (r_assign (v := Value.int .i64 e36) rfl) rfl <| OW_nil <| WP_seq <| WP_region <| O (r_move (v := v4) rfl) rfl ?_
   obtain ⟨a7, ca7, hva7⟩ := hRv4.shape
   refine O (r_lenSl (v := v4) Try.underlying23 rfl hva7) rfl <| O (r_move (v := Value.int .i64 0) rfl) rfl <| OW_nil <| WP_block <| WP_loop (fun (st9 : (List (List (Int × Bool))) × Int) E w => match st9 with | (xv42, xv43) => ∃ (v33 : Value) (xs31 : List Value) (G40 : List Res), E 0 = Value.pointer (some ⟨b2, 0, none⟩) ∧ E 2 = v4 ∧ E 7 = Value.int .i64 e36 ∧ E 10 = v3 ∧ E 11 = Value.int .i64 (fromv1.length : Int) ∧ E 12 = Value.int .i64 xv17 ∧ E 16 = v4 ∧ E 17 = Value.int .i64 (tov1.length : Int) ∧ E 18 = Value.int .i64 xv43 ∧ E.ds = [] ∧ GRel (iMap (Value.int .i64) Value.bool) gi xs31 xv42 G40 ∧ Go.Lx.Sep g0 w0 gi w (Go.Lx.box b2 68 ([v15, v33]) :: .row v15 48 (tVec 4 .u64).sz b1.sets.length xs13 :: .row v33 64 1 xv42.length xs31 :: (G40 ++ Lt))) hM ⟨v16, xs14, G16, rfl, rfl, rfl, rfl, rfl, rfl, rfl, rfl, rfl, hds, hGG16, hs⟩ ?_
   clear hs hM
   rintro ⟨xv42, xv43⟩ o7 E w hM ⟨v33, xs31, G40, hE0, hE2, hE7, hE10, hE11, hE12, hE16, hE17, hE18, hds, hGG40, hs⟩
   obtain ⟨E, rfl⟩ := open8 (E := E) hE0 hE2 hE7 hE10 hE11 hE12 hE16 hE17
   obtain ⟨E, rfl⟩ := open1 (E := E) hE18
   refine WP_seq <| WP_region <| O (r_lss rfl rfl) rfl <| OW_nil <| WP_seq ?_
   rcases condS hM with ⟨hc21, hM⟩ | ⟨hc21, hM⟩
   ·refine WP_true rfl hc21 <| WP_skip <| WP_seq <| WP_block <| WP_seq <| WP_region ?_
    obtain ⟨e41, he41, hM⟩ := bindS hM
    obtain ⟨b60, ob60, cb60, hvb60, cs24, hcs24, hcb60⟩ := hRv4.at he41
    have hcs24 : cs24 = _ := hcs24; subst hcs24
    refine O (r_idxSl Try.underlying23 ti3 (v := v4) rfl hvb60 rfl (idxL_some he41).1 (idxL_some he41).2.1) rfl <| O (r_loadEl (cs := [Value.int .i64 e41]) ti3 rfl rfl (.inr rfl) (hcb60 _ hs.imm) (v := Value.int .i64 e41) rfl) rfl <| O (r_assign (v := Value.int .i64 e41) rfl) rfl <| OW_nil <| WP_region <| O (r_move (v := Value.pointer (some ⟨b2, 0, none⟩)) rfl) rfl <| O (r_nilCheck rfl) rfl <| O (r_fieldAddr Try.underlying68 ti65 rfl rfl (by decide) rfl rfl) rfl <| O (r_load (v := v33) ti65 rfl (hs.cell (i := 0) (o := 1) rfl rfl)) rfl <| O (r_move (v := Value.int .i64 e36) rfl) rfl ?_
    obtain ⟨e42, he42, hM⟩ := bindS hM
    obtain ⟨b61, cb61, hvb61, u18, rv18, hxu18, hguu18, hinu18, hcb61⟩ := hs.gridAt (i := 2) rfl hGG40 he42
    obtain ⟨b62, es35, ck35, rfl, rfl, hmes35⟩ := hinu18
    refine O (r_idxSl Try.underlying65 ti64 (v := v33) rfl hvb61 rfl (idxL_some he42).1 (idxL_some he42).2.1) rfl <| O (r_loadEl (cs := [Value.map (some b62)]) ti64 rfl rfl (.inr rfl) (hcb61 _ (hs.at (i := 2) rfl)) (v := Value.map (some b62)) rfl) rfl <| O (r_move (v := Value.int .i64 e41) rfl) rfl ?_
    obtain ⟨y18, hy18, hM⟩ := bindS hM
    refine OW_mapSet (kk := e41) (vv := true) Try.underlying64 (keyLaw_int Try.underlying3) hs (gget (A := [Go.Lx.box b2 68 ([v15, v33]), .row v15 48 (tVec 4 .u64).sz b1.sets.length xs13, .row v33 64 1 xv42.length xs31]) (B := Lt) hguu18) hmes35 rfl rfl rfl ?_
    intro es36 ck36 wv18 hmes36 hs
    obtain ⟨G43, hGG43, hlenG43, hs⟩ := Sep.gridMap (A := [Go.Lx.box b2 68 ([v15, v33]), .row v15 48 (tVec 4 .u64).sz b1.sets.length xs13, .row v33 64 1 xv42.length xs31]) (B := Lt) hGG40 hxu18 hguu18 hmes36 hy18 hs
    replace hs : Go.Lx.Sep g0 w0 gi wv18 (Go.Lx.box b2 68 ([v15, v33]) :: .row v15 48 (tVec 4 .u64).sz b1.sets.length xs13 :: .row v33 64 1 y18.length xs31 :: (G43 ++ Lt)) := by rw [hlenG43]; exact hs
    refine OW_nil <| WP_region ?_
    obtain ⟨t20, ht20, hM⟩ := bindS hM
    refine O (r_addM rfl rfl ht20) rfl <| O (r_move (v := Value.int .i64 t20) rfl) rfl <| OW_nil ?_
    obtain rfl := Option.some.inj hM
    exact ⟨v33, xs31, G43, rfl, rfl, rfl, rfl, rfl, rfl, rfl, rfl, rfl, hds, hGG43, hs⟩
   ·refine WP_false rfl hc21 <| WP_exit ?_
    obtain rfl := Option.some.inj hM
    refine fun hr => ?_
    have hM := congrArg some hr
    obtain rfl := Option.some.inj hM
    exact ⟨v15, xs13, v33, xs31, G40, rfl, rfl, rfl, rfl, rfl, hds, hrelxs13, hGG40, hs⟩
  ·clear hs
   rintro E w ⟨v30, xs28, v31, xs29, G37, hE0, hE2, hE10, hE11, hE12, hds, hrelxs28, hGG37, hs⟩
   have hM := hKhx3
   obtain ⟨E, rfl⟩ := open5 (E := E) hE0 hE2 hE10 hE11 hE12
   refine WP_region ?_
   obtain ⟨t21, ht21, hM⟩ := bindS hM
   refine O (r_addM rfl rfl ht21) rfl <| O (r_move (v := Value.int .i64 t21) rfl) rfl <| OW_nil ?_
   obtain rfl := Option.some.inj hM
   exact ⟨v30, xs28, v31, xs29, G37, rfl, rfl, rfl, rfl, rfl, hds, hrelxs28, hGG37, hs⟩
 ·refine WP_false rfl hc15 <| WP_exit ?_
  obtain rfl := Option.some.inj hM
  refine fun hr => ?_
  have hM := congrArg some hr
  obtain rfl := Option.some.inj hM
  refine FL_nil hds ?_
  exact ⟨_, res_none Try.results43, gi, v15, xs13, v16, xs14, G16, trivial, (Hle.refl _), hrelxs13, hGG16, hs⟩
theorem slices_Grow_int_int_ok {l1 : List Int} {n1 : Int} {r : List Int} (hM : M.slices_Grow_int_int l1 n1 = some r) {g0 : Hp} {w0 : World} (hi : Imm g0 w0) (hR : RdS (tInt .i64) g0 (Value.slice none 0 0) l1) :
    CallsV Try.prog 68 #[Value.slice none 0 0, .int .i64 n1] w0 (fun v w' => ∃ g' xs, RowRel (tInt .i64) g' xs r ∧ Sep g0 w0 g' w' [.row v 3 (tInt .i64).sz r.length xs]) :=
  grow_ok (ρ := Try.grow68_ren) Try.grow68 (by kernel_rfl) hM hi
set_option maxRecDepth 100000 in
theorem slices_Concat_int_int_ok {slices1 : (List (List Int))} {r : (List Int)} (hM : M.slices_Concat_int_int slices1 = some r) {g0 : Hp} {w0 : World} (hi : Imm g0 w0) {v1 : Value} (hRv1 : RdS (tSl (tInt .i64)) g0 v1 slices1) :
    CallsV Try.prog 63 #[v1] w0 (fun v w' => ∃ g', (VRd (tSl (tInt .i64)) false g' v r) ∧ Ext g0 w0 g' w') := by
 unfold M.slices_Concat_int_int at hM
 have hs := Sep.start hi
 refine calls_of_WP (args := [v1]) Try.func63 rfl Try.ntmps63 rfl ?_
 have hds : (argEnv [v1]).ds = [] := rfl
 refine WP_seq <| WP_region <| O (r_assign (v := Value.slice none 0 0) rfl) rfl <| OW_nil <| WP_seq <| WP_region <| O (r_assign (v := Value.int .i64 0) rfl) rfl <| OW_nil ?_
 obtain ⟨size7, hx4, hKhx4⟩ := bindS hM
 refine WP_cut (fun E w => E 0 = v1 ∧ E 3 = Value.int .i64 size7 ∧ E.ds = [] ∧ Go.Lx.Sep g0 w0 g0 w []) ?_ ?_
 ·have hM := hx4
  have hag0 := Hle.refl g0
  refine WP_seq <| WP_region <| O (r_move (v := v1) rfl) rfl ?_
  obtain ⟨a8, ca8, hva8⟩ := hRv1.shape
  refine O (r_lenSl (v := v1) Try.underlying99 rfl hva8) rfl <| O (r_move (v := Value.int .i64 0) rfl) rfl <| OW_nil <| WP_block <| WP_loop (fun (st9 : Int × Int) E w => match st9 with | (size10, xv5) => E 0 = v1 ∧ E 3 = Value.int .i64 size10 ∧ E 9 = v1 ∧ E 10 = Value.int .i64 (slices1.length : Int) ∧ E 11 = Value.int .i64 xv5 ∧ E.ds = [] ∧ Go.Lx.Sep g0 w0 g0 w []) hM ⟨rfl, rfl, rfl, rfl, rfl, hds, hs⟩ ?_
  clear hs hM
  rintro ⟨size10, xv5⟩ o2 E w hM ⟨hE0, hE3, hE9, hE10, hE11, hds, hs⟩
  obtain ⟨E, rfl⟩ := open5 (E := E) hE0 hE3 hE9 hE10 hE11
  refine WP_seq <| WP_region <| O (r_lss rfl rfl) rfl <| OW_nil <| WP_seq ?_
  rcases condS hM with ⟨hc16, hM⟩ | ⟨hc16, hM⟩
  ·refine WP_true rfl hc16 <| WP_skip ?_
   obtain ⟨size13, hx7, hKhx7⟩ := bindS hM
   refine WP_cut (fun E w => E 0 = v1 ∧ E 3 = Value.int .i64 size13 ∧ E 9 = v1 ∧ E 10 = Value.int .i64 (slices1.length : Int) ∧ E 11 = Value.int .i64 xv5 ∧ E.ds = [] ∧ Go.Lx.Sep g0 w0 g0 w []) ?_ ?_
   ·have hM := hx7
    refine WP_block <| WP_seq <| WP_region ?_
    obtain ⟨e12, he12, hM⟩ := bindS hM
    obtain ⟨b12, ob12, cb12, hvb12, cs12, hcs12, hcb12⟩ := hRv1.at he12
    obtain ⟨v13, rfl, hRv13⟩ := hcs12
    refine O (r_idxSl Try.underlying99 ti23 (v := v1) rfl hvb12 rfl (idxL_some he12).1 (idxL_some he12).2.1) rfl <| O (r_loadEl (cs := [v13]) ti23 rfl rfl (.inr rfl) (hcb12 _ hs.imm) (v := v13) rfl) rfl <| O (r_assign (v := v13) rfl) rfl <| OW_nil <| WP_seq <| WP_region <| O (r_move (v := Value.int .i64 size10) rfl) rfl <| O (r_move (v := v13) rfl) rfl ?_
    obtain ⟨a14, ca14, hva14⟩ := hRv13.shape
    refine O (r_lenSl (v := v13) Try.underlying23 rfl hva14) rfl ?_
    obtain ⟨t17, ht17, hM⟩ := bindS hM
    refine O (r_addM rfl rfl ht17) rfl <| O (r_assign (v := Value.int .i64 t17) rfl) rfl <| OW_nil <| WP_seq <| WP_region <| O (r_move (v := Value.int .i64 t17) rfl) rfl <| O (r_lss rfl rfl) rfl <| OW_nil ?_
    rcases condS hM with ⟨hc18, hM⟩ | ⟨hc18, hM⟩
    ·refine WP_true rfl hc18 <| WP_region <| O (r_makeIface (v := encS [108, 101, 110, 32, 111, 117, 116, 32, 111, 102, 32, 114, 97, 110, 103, 101]) conc9 rfl) rfl ?_
     exact absurd hM (by simp)
    ·refine WP_false rfl hc18 <| WP_skip ?_
     obtain rfl := Option.some.inj hM
     exact ⟨rfl, rfl, rfl, rfl, rfl, hds, hs⟩
   ·clear hs
    rintro E w ⟨hE0, hE3, hE9, hE10, hE11, hds, hs⟩
    have hM := hKhx7
    obtain ⟨E, rfl⟩ := open5 (E := E) hE0 hE3 hE9 hE10 hE11
    refine WP_region ?_
    obtain ⟨t18, ht18, hM⟩ := bindS hM
    refine O (r_addM rfl rfl ht18) rfl <| O (r_move (v := Value.int .i64 t18) rfl) rfl <| OW_nil ?_
    obtain rfl := Option.some.inj hM
    exact ⟨rfl, rfl, rfl, rfl, rfl, hds, hs⟩
  ·refine WP_false rfl hc16 <| WP_exit ?_
   obtain rfl := Option.some.inj hM
   refine fun hr => ?_
   have hM := congrArg some hr
   obtain rfl := Option.some.inj hM
   exact ⟨rfl, rfl, hds, hs⟩
 ·clear hs
  rintro E w ⟨hE0, hE3, hds, hs⟩
  have hM := hKhx4
  obtain ⟨E, rfl⟩ := open2 (E := E) hE0 hE3
  refine WP_seq <| WP_region <| O (r_move (v := Value.int .i64 size7) rfl) rfl ?_
  obtain ⟨newslice1, hnewslice1, hM⟩ := bindS hM
  refine C [Value.slice none 0 0, Value.int .i64 size7] cf68 rfl (slices_Grow_int_int_ok hnewslice1 hs.imm RdS.nil) rfl ?_
  rintro v14 wv1 ⟨gg1, xs1, hvv14, hegg1⟩
  have hlegg1 := hegg1.ext.le hs.imm
  replace hs := hs.callOwn hegg1
  simp only [List.cons_append, List.nil_append] at hs
  replace hRv1 := hRv1.mono hlegg1
  refine O (r_assign (v := v14) rfl) rfl <| OW_nil ?_
  obtain ⟨newslice8, hx8, hKhx8⟩ := bindS hM
  refine WP_cut (fun E w => ∃ (v24 : Value) (xs11 : List Value), E 6 = v24 ∧ E.ds = [] ∧ RowRel (tInt .i64) gg1 xs11 newslice8 ∧ Go.Lx.Sep g0 w0 gg1 w [.row v24 3 (tInt .i64).sz newslice8.length xs11]) ?_ ?_
  ·have hM := hx8
   have hagg1 := Hle.refl gg1
   refine WP_seq <| WP_region <| O (r_move (v := v1) rfl) rfl ?_
   obtain ⟨a16, ca16, hva16⟩ := hRv1.shape
   refine O (r_lenSl (v := v1) Try.underlying99 rfl hva16) rfl <| O (r_move (v := Value.int .i64 0) rfl) rfl <| OW_nil <| WP_block <| WP_loop (fun (st9 : (List Int) × Int) E w => match st9 with | (newslice11, xv11) => ∃ (v28 : Value) (xs15 : List Value), E 6 = v28 ∧ E 25 = v1 ∧ E 26 = Value.int .i64 (slices1.length : Int) ∧ E 27 = Value.int .i64 xv11 ∧ E.ds = [] ∧ RowRel (tInt .i64) gg1 xs15 newslice11 ∧ Go.Lx.Sep g0 w0 gg1 w [.row v28 3 (tInt .i64).sz newslice11.length xs15]) hM ⟨v14, xs1, rfl, rfl, rfl, rfl, hds, hvv14, hs⟩ ?_
   clear hs hM
   rintro ⟨newslice11, xv11⟩ o4 E w hM ⟨v28, xs15, hE6, hE25, hE26, hE27, hds, hrelxs15, hs⟩
   obtain ⟨E, rfl⟩ := open4 (E := E) hE6 hE25 hE26 hE27
   refine WP_seq <| WP_region <| O (r_lss rfl rfl) rfl <| OW_nil <| WP_seq ?_
   rcases condS hM with ⟨hc24, hM⟩ | ⟨hc24, hM⟩
   ·refine WP_true rfl hc24 <| WP_skip <| WP_seq <| WP_block <| WP_seq <| WP_region ?_
    obtain ⟨e18, he18, hM⟩ := bindS hM
    obtain ⟨b18, ob18, cb18, hvb18, cs18, hcs18, hcb18⟩ := hRv1.at he18
    obtain ⟨v32, rfl, hRv32⟩ := hcs18
    refine O (r_idxSl Try.underlying99 ti23 (v := v1) rfl hvb18 rfl (idxL_some he18).1 (idxL_some he18).2.1) rfl <| O (r_loadEl (cs := [v32]) ti23 rfl rfl (.inr rfl) (hcb18 _ hs.imm) (v := v32) rfl) rfl <| O (r_assign (v := v32) rfl) rfl <| OW_nil <| WP_region <| O (r_move (v := v28) rfl) rfl <| O (r_move (v := v32) rfl) rfl ?_
    obtain ⟨xs19, hrxs19, hlxs19⟩ := (id hRv32)
    obtain ⟨newslice14, hnewslice14, hM⟩ := bindS hM
    refine OW_append Try.underlying23 ti3 rfl (by decide) (by decide) hs (i := 0) rfl hrelxs15 (v := v28) rfl (u := v32) rfl (hlxs19.src hs.imm) hrxs19 hnewslice14 rfl ?_
    intro v33 wv7 xs20 hrelxs20 hs
    refine O (r_assign (v := v33) rfl) rfl <| OW_nil <| WP_region ?_
    obtain ⟨t24, ht24, hM⟩ := bindS hM
    refine O (r_addM rfl rfl ht24) rfl <| O (r_move (v := Value.int .i64 t24) rfl) rfl <| OW_nil ?_
    obtain rfl := Option.some.inj hM
    exact ⟨v33, xs20, rfl, rfl, rfl, rfl, hds, hrelxs20, hs⟩
   ·refine WP_false rfl hc24 <| WP_exit ?_
    obtain rfl := Option.some.inj hM
    refine fun hr => ?_
    have hM := congrArg some hr
    obtain rfl := Option.some.inj hM
    exact ⟨v28, xs15, rfl, hds, hrelxs15, hs⟩
  ·clear hs
   rintro E w ⟨v24, xs11, hE6, hds, hrelxs11, hs⟩
   have hM := hKhx8
   obtain ⟨E, rfl⟩ := open1 (E := E) hE6
   refine WP_seq <| WP_region <| O (r_move (v := v24) rfl) rfl <| O (r_assign (v := v24) rfl) rfl <| OW_nil <| WP_ret ?_
   obtain rfl := Option.some.inj hM
   obtain ⟨gg2, hlegg2, hRgg2, hs⟩ := hs.relRow (i := 0) rfl hrelxs11
   refine FL_nil hds ?_
   exact ⟨_, res1 Try.results63 (rv_tmp (v := v24) rfl), gg2, ⟨[v24], rfl, ⟨_, rfl, hRgg2⟩⟩, hs.ext⟩
end Go.Proofs.Ytajmekjcnbmaaaa
