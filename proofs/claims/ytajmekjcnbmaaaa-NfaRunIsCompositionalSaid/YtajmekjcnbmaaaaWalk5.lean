/- The walks: what each function does is what its model says. Printed by a program of my own. -/
import Derived.Test.YtajmekjcnbmaaaaTyp
set_option linter.unusedVariables false
set_option linter.unusedSimpArgs false
namespace Go.Proofs.Ytajmekjcnbmaaaa
open Go.Lx Go.RowKit
set_option maxRecDepth 100000 in
theorem ref09_Valid_ok {p1 : T_NFA} {r : Bool} (hM : M.ref09_Valid p1 = some r) {g0 : Hp} {w0 : World} (hi : Imm g0 w0) {cs1 : List Value} (hcs1 : tT_NFA.rel g0 cs1 p1) :
    CallsV Try.prog 13 #[Value.agg cs1.toArray] w0 (fun v w' => ∃ g', (VRd tBool false g' v r) ∧ Ext g0 w0 g' w') := by
 unfold M.ref09_Valid at hM
 obtain ⟨cs2, cs3, cs4, cs5, rfl, hcs2, hcs3, hcs4, hcs5⟩ := hcs1
 have hcs2 : cs2 = _ := hcs2; subst hcs2
 have hcs3 : cs3 = _ := hcs3; subst hcs3
 obtain ⟨v1, rfl, hRv1⟩ := hcs4
 obtain ⟨v2, rfl, hRv2⟩ := hcs5
 have hs := Sep.start hi
 refine calls_of_WP (args := [Value.agg (List.toArray (α := Value) [Value.int .i64 p1.States, Value.int .i64 p1.Start, v1, v2])]) Try.func13 rfl Try.ntmps13 rfl ?_
 have hds : (argEnv [Value.agg (List.toArray (α := Value) [Value.int .i64 p1.States, Value.int .i64 p1.Start, v1, v2])]).ds = [] := rfl
 refine WP_seq <| WP_region <| OW_box (v := Value.agg (List.toArray (α := Value) [Value.int .i64 p1.States, Value.int .i64 p1.Start, v1, v2])) rfl hs (zs := [Value.int .i64 p1.States, Value.int .i64 p1.Start, v1, v2]) rfl rfl ?_
 intro b1 wv1 hs
 refine O (r_assign (v := Value.bool false) rfl) rfl <| OW_nil <| WP_seq ?_
 obtain ⟨xv1, hx1, hKhx1⟩ := bindS hM
 refine WP_cut (fun E w => E 1 = Value.pointer (some ⟨b1, 0, none⟩) ∧ E 33 = Value.bool xv1 ∧ E.ds = [] ∧ Go.Lx.Sep g0 w0 g0 w [Go.Lx.box b1 25 ([Value.int .i64 p1.States, Value.int .i64 p1.Start, v1, v2])]) ?_ ?_
 ·have hM := hx1
  have hag0 := Hle.refl g0
  refine WP_region <| O (r_fieldAddr Try.underlying25 ti3 rfl rfl (by decide) rfl rfl) rfl <| O (r_load (v := Value.int .i64 p1.States) ti3 rfl (hs.cell (i := 0) (o := 0) rfl rfl)) rfl <| O (r_lss rfl rfl) rfl <| O (r_move (v := Value.bool (decide (p1.States < 1))) rfl) rfl ?_
  rcases condS hM with ⟨hg5, hM⟩ | ⟨hg5, hM⟩
  ·refine OK rfl rfl rfl (by rw [hg5]; rfl) rfl <| OK rfl rfl rfl (by rw [hg5]; rfl) rfl <| OK rfl rfl rfl (by rw [hg5]; rfl) rfl <| O (r_pickT (v := Value.bool true) rfl hg5 rfl) rfl <| O (r_move (v := Value.bool true) rfl) rfl <| OK rfl rfl rfl rfl rfl <| OK rfl rfl rfl rfl rfl <| OK rfl rfl rfl rfl rfl <| O (r_pickT (v := Value.bool true) rfl rfl rfl) rfl <| O (r_move (v := Value.bool true) rfl) rfl <| OK rfl rfl rfl rfl rfl <| OK rfl rfl rfl rfl rfl <| OK rfl rfl rfl rfl rfl <| OK rfl rfl rfl rfl rfl <| OK rfl rfl rfl rfl rfl <| O (r_pickT (v := Value.bool true) rfl rfl rfl) rfl <| O (r_move (v := Value.bool true) rfl) rfl <| OK rfl rfl rfl rfl rfl <| OK rfl rfl rfl rfl rfl <| OK rfl rfl rfl rfl rfl ?_
   refine OK rfl rfl rfl rfl rfl <| OK rfl rfl rfl rfl rfl <| OK rfl rfl rfl rfl rfl <| O (r_pickT (v := Value.bool true) rfl rfl rfl) rfl <| OW_nil ?_
   obtain rfl := Option.some.inj hM
   exact ⟨rfl, rfl, hds, hs⟩
  ·refine OG rfl rfl rfl (by rw [hg5]; rfl) (r_fieldAddr Try.underlying25 ti3 rfl rfl (by decide) rfl rfl) rfl <| OG rfl rfl rfl (by rw [hg5]; rfl) (r_load (v := Value.int .i64 p1.States) ti3 rfl (hs.cell (i := 0) (o := 0) rfl rfl)) rfl <| OG rfl rfl rfl (by rw [hg5]; rfl) (r_gtr rfl rfl) rfl <| O (r_pickF (v := Value.bool (decide (2000 < p1.States))) rfl hg5 rfl) rfl <| O (r_move (v := Value.bool (decide (2000 < p1.States))) rfl) rfl ?_
   rcases condS hM with ⟨hg6, hM⟩ | ⟨hg6, hM⟩
   ·refine OK rfl rfl rfl (by rw [hg6]; rfl) rfl <| OK rfl rfl rfl (by rw [hg6]; rfl) rfl <| OK rfl rfl rfl (by rw [hg6]; rfl) rfl <| O (r_pickT (v := Value.bool true) rfl hg6 rfl) rfl <| O (r_move (v := Value.bool true) rfl) rfl <| OK rfl rfl rfl rfl rfl <| OK rfl rfl rfl rfl rfl <| OK rfl rfl rfl rfl rfl <| OK rfl rfl rfl rfl rfl <| OK rfl rfl rfl rfl rfl <| O (r_pickT (v := Value.bool true) rfl rfl rfl) rfl <| O (r_move (v := Value.bool true) rfl) rfl <| OK rfl rfl rfl rfl rfl <| OK rfl rfl rfl rfl rfl <| OK rfl rfl rfl rfl rfl <| OK rfl rfl rfl rfl rfl <| OK rfl rfl rfl rfl rfl <| OK rfl rfl rfl rfl rfl <| O (r_pickT (v := Value.bool true) rfl rfl rfl) rfl <| OW_nil ?_
    obtain rfl := Option.some.inj hM
    exact ⟨rfl, rfl, hds, hs⟩
   ·refine OG rfl rfl rfl (by rw [hg6]; rfl) (r_fieldAddr Try.underlying25 ti3 rfl rfl (by decide) rfl rfl) rfl <| OG rfl rfl rfl (by rw [hg6]; rfl) (r_load (v := Value.int .i64 p1.Start) ti3 rfl (hs.cell (i := 0) (o := 1) rfl rfl)) rfl <| OG rfl rfl rfl (by rw [hg6]; rfl) (r_lss rfl rfl) rfl <| O (r_pickF (v := Value.bool (decide (p1.Start < 0))) rfl hg6 rfl) rfl <| O (r_move (v := Value.bool (decide (p1.Start < 0))) rfl) rfl ?_
    rcases condS hM with ⟨hg7, hM⟩ | ⟨hg7, hM⟩
    ·refine OK rfl rfl rfl (by rw [hg7]; rfl) rfl <| OK rfl rfl rfl (by rw [hg7]; rfl) rfl <| OK rfl rfl rfl (by rw [hg7]; rfl) rfl <| OK rfl rfl rfl (by rw [hg7]; rfl) rfl <| OK rfl rfl rfl (by rw [hg7]; rfl) rfl <| O (r_pickT (v := Value.bool true) rfl hg7 rfl) rfl <| O (r_move (v := Value.bool true) rfl) rfl <| OK rfl rfl rfl rfl rfl <| OK rfl rfl rfl rfl rfl <| OK rfl rfl rfl rfl rfl <| OK rfl rfl rfl rfl rfl <| OK rfl rfl rfl rfl rfl <| OK rfl rfl rfl rfl rfl <| O (r_pickT (v := Value.bool true) rfl rfl rfl) rfl <| OW_nil ?_
     obtain rfl := Option.some.inj hM
     exact ⟨rfl, rfl, hds, hs⟩
    ·refine OG rfl rfl rfl (by rw [hg7]; rfl) (r_fieldAddr Try.underlying25 ti3 rfl rfl (by decide) rfl rfl) rfl <| OG rfl rfl rfl (by rw [hg7]; rfl) (r_load (v := Value.int .i64 p1.Start) ti3 rfl (hs.cell (i := 0) (o := 1) rfl rfl)) rfl <| OG rfl rfl rfl (by rw [hg7]; rfl) (r_fieldAddr Try.underlying25 ti3 rfl rfl (by decide) rfl rfl) rfl <| OG rfl rfl rfl (by rw [hg7]; rfl) (r_load (v := Value.int .i64 p1.States) ti3 rfl (hs.cell (i := 0) (o := 0) rfl rfl)) rfl <| OG rfl rfl rfl (by rw [hg7]; rfl) (r_geq rfl rfl) rfl <| O (r_pickF (v := Value.bool (decide (p1.States ≤ p1.Start))) rfl hg7 rfl) rfl <| O (r_move (v := Value.bool (decide (p1.States ≤ p1.Start))) rfl) rfl ?_
     rcases condS hM with ⟨hg8, hM⟩ | ⟨hg8, hM⟩
     ·refine OK rfl rfl rfl (by rw [hg8]; rfl) rfl <| OK rfl rfl rfl (by rw [hg8]; rfl) rfl <| OK rfl rfl rfl (by rw [hg8]; rfl) rfl <| OK rfl rfl rfl (by rw [hg8]; rfl) rfl <| OK rfl rfl rfl (by rw [hg8]; rfl) rfl <| OK rfl rfl rfl (by rw [hg8]; rfl) rfl <| O (r_pickT (v := Value.bool true) rfl hg8 rfl) rfl <| OW_nil ?_
      obtain rfl := Option.some.inj hM
      exact ⟨rfl, rfl, hds, hs⟩
     ·refine OG rfl rfl rfl (by rw [hg8]; rfl) (r_fieldAddr Try.underlying25 ti23 rfl rfl (by decide) rfl rfl) rfl <| OG rfl rfl rfl (by rw [hg8]; rfl) (r_load (v := v2) ti23 rfl (hs.cell (i := 0) (o := 3) rfl rfl)) rfl ?_
      obtain ⟨a2, ca2, hva2⟩ := hRv2.shape
      refine OG rfl rfl rfl (by rw [hg8]; rfl) (r_lenSl (v := v2) Try.underlying23 rfl hva2) rfl <| OG rfl rfl rfl (by rw [hg8]; rfl) (r_fieldAddr Try.underlying25 ti3 rfl rfl (by decide) rfl rfl) rfl <| OG rfl rfl rfl (by rw [hg8]; rfl) (r_load (v := Value.int .i64 p1.States) ti3 rfl (hs.cell (i := 0) (o := 0) rfl rfl)) rfl <| OG rfl rfl rfl (by rw [hg8]; rfl) (r_neq rfl rfl) rfl <| O (r_pickF (v := Value.bool ((p1.Accept.length : Int) != p1.States)) rfl hg8 rfl) rfl <| OW_nil ?_
      obtain rfl := Option.some.inj hM
      exact ⟨rfl, rfl, hds, hs⟩
 ·clear hs
  rintro E w ⟨hE1, hE33, hds, hs⟩
  have hM := hKhx1
  obtain ⟨E, rfl⟩ := open2 (E := E) hE1 hE33
  rcases condS hM with ⟨hc1, hM⟩ | ⟨hc1, hM⟩
  ·refine WP_true rfl hc1 <| WP_seq <| WP_region <| O (r_assign (v := Value.bool false) rfl) rfl <| OW_nil <| WP_ret ?_
   obtain rfl := Option.some.inj hM
   refine FL_nil hds ?_
   exact ⟨_, res1 Try.results13 (rv_tmp (v := Value.bool false) rfl), g0, ⟨[Value.bool false], rfl, rfl⟩, hs.ext⟩
  ·refine WP_false rfl hc1 <| WP_skip ?_
   obtain ⟨o3, hx2, hKhx2⟩ := stepS hM
   refine WP_cut (fun E w => ∃ u9 : Unit, o3 = .next u9 ∧ E 1 = Value.pointer (some ⟨b1, 0, none⟩) ∧ E.ds = [] ∧ Go.Lx.Sep g0 w0 g0 w [Go.Lx.box b1 25 ([Value.int .i64 p1.States, Value.int .i64 p1.Start, v1, v2])]) ?_ ?_
   ·have hM := hx2
    have hag0 := Hle.refl g0
    refine WP_seq <| WP_region <| O (r_assign (v := Value.int .i64 0) rfl) rfl <| OW_nil <| WP_block <| WP_loop (fun (xv6 : Int) E w => E 1 = Value.pointer (some ⟨b1, 0, none⟩) ∧ E 3 = Value.int .i64 xv6 ∧ E.ds = [] ∧ Go.Lx.Sep g0 w0 g0 w [Go.Lx.box b1 25 ([Value.int .i64 p1.States, Value.int .i64 p1.Start, v1, v2])]) hM ⟨rfl, rfl, hds, hs⟩ ?_
    clear hs hM
    rintro xv6 o2 E w hM ⟨hE1, hE3, hds, hs⟩
    obtain ⟨E, rfl⟩ := open2 (E := E) hE1 hE3
    refine WP_seq <| WP_seq <| WP_region <| O (r_move (v := Value.int .i64 xv6) rfl) rfl <| O (r_fieldAddr Try.underlying25 ti23 rfl rfl (by decide) rfl rfl) rfl <| O (r_load (v := v2) ti23 rfl (hs.cell (i := 0) (o := 3) rfl rfl)) rfl ?_
    obtain ⟨a8, ca8, hva8⟩ := hRv2.shape
    refine O (r_lenSl (v := v2) Try.underlying23 rfl hva8) rfl <| O (r_lss rfl rfl) rfl <| OW_nil ?_
    rcases condS hM with ⟨hc12, hM⟩ | ⟨hc12, hM⟩
    ·refine WP_true rfl hc12 <| WP_skip <| WP_seq <| WP_block <| WP_seq <| WP_region <| O (r_fieldAddr Try.underlying25 ti23 rfl rfl (by decide) rfl rfl) rfl <| O (r_load (v := v2) ti23 rfl (hs.cell (i := 0) (o := 3) rfl rfl)) rfl <| O (r_move (v := Value.int .i64 xv6) rfl) rfl ?_
     obtain ⟨e6, he6, hM⟩ := bindS hM
     obtain ⟨b7, ob7, cb7, hvb7, cs11, hcs11, hcb7⟩ := hRv2.at he6
     have hcs11 : cs11 = _ := hcs11; subst hcs11
     refine O (r_idxSl Try.underlying23 ti3 (v := v2) rfl hvb7 rfl (idxL_some he6).1 (idxL_some he6).2.1) rfl <| O (r_loadEl (cs := [Value.int .i64 e6]) ti3 rfl rfl (.inr rfl) (hcb7 _ hs.imm) (v := Value.int .i64 e6) rfl) rfl <| O (r_lss rfl rfl) rfl <| OW_nil ?_
     rcases condS hM with ⟨hc13, hM⟩ | ⟨hc13, hM⟩
     ·refine WP_true rfl hc13 <| WP_seq <| WP_region <| O (r_assign (v := Value.bool false) rfl) rfl <| OW_nil <| WP_ret ?_
      obtain rfl := Option.some.inj hM
      refine fun hr => ?_
      have hM := congrArg some hr
      obtain rfl := Option.some.inj hM
      have hM := hKhx2
      obtain rfl := Option.some.inj hM
      refine FL_nil hds ?_
      exact ⟨_, res1 Try.results13 (rv_tmp (v := Value.bool false) rfl), g0, ⟨[Value.bool false], rfl, rfl⟩, hs.ext⟩
     ·refine WP_false rfl hc13 <| WP_skip <| WP_region <| O (r_move (v := Value.int .i64 xv6) rfl) rfl ?_
      obtain ⟨t6, ht6, hM⟩ := bindS hM
      refine O (r_addM rfl rfl ht6) rfl <| O (r_assign (v := Value.int .i64 t6) rfl) rfl <| OW_nil ?_
      obtain rfl := Option.some.inj hM
      exact ⟨rfl, rfl, hds, hs⟩
    ·refine WP_false rfl hc12 <| WP_exit ?_
     obtain rfl := Option.some.inj hM
     refine fun hr => ?_
     have hM := congrArg some hr
     obtain rfl := Option.some.inj hM
     exact ⟨(), rfl, rfl, hds, hs⟩
   ·clear hs
    rintro E w ⟨_, rfl, hE1, hds, hs⟩
    have hM := hKhx2
    dsimp only [onStep] at hM
    obtain ⟨E, rfl⟩ := open1 (E := E) hE1
    obtain ⟨o6, hx6, hKhx6⟩ := stepS hM
    refine WP_cut (fun E w => ∃ u9 : Unit, o6 = .next u9 ∧ E.ds = [] ∧ Go.Lx.Sep g0 w0 g0 w []) ?_ ?_
    ·have hM := hx6
     have hag0 := Hle.refl g0
     refine WP_seq <| WP_region <| O (r_assign (v := Value.int .i64 0) rfl) rfl <| OW_nil <| WP_block <| WP_loop (fun (xv16 : Int) E w => E 1 = Value.pointer (some ⟨b1, 0, none⟩) ∧ E 4 = Value.int .i64 xv16 ∧ E.ds = [] ∧ Go.Lx.Sep g0 w0 g0 w [Go.Lx.box b1 25 ([Value.int .i64 p1.States, Value.int .i64 p1.Start, v1, v2])]) hM ⟨rfl, rfl, hds, hs⟩ ?_
     clear hs hM
     rintro xv16 o5 E w hM ⟨hE1, hE4, hds, hs⟩
     obtain ⟨E, rfl⟩ := open2 (E := E) hE1 hE4
     refine WP_seq <| WP_seq <| WP_region <| O (r_move (v := Value.int .i64 xv16) rfl) rfl <| O (r_fieldAddr Try.underlying25 ti22 rfl rfl (by decide) rfl rfl) rfl <| O (r_load (v := v1) ti22 rfl (hs.cell (i := 0) (o := 2) rfl rfl)) rfl ?_
     obtain ⟨a14, ca14, hva14⟩ := hRv1.shape
     refine O (r_lenSl (v := v1) Try.underlying22 rfl hva14) rfl <| O (r_lss rfl rfl) rfl <| OW_nil ?_
     rcases condS hM with ⟨hc24, hM⟩ | ⟨hc24, hM⟩
     ·refine WP_true rfl hc24 <| WP_skip <| WP_seq <| WP_block <| WP_seq <| WP_region <| O (r_fieldAddr Try.underlying25 ti22 rfl rfl (by decide) rfl rfl) rfl <| O (r_load (v := v1) ti22 rfl (hs.cell (i := 0) (o := 2) rfl rfl)) rfl <| O (r_move (v := Value.int .i64 xv16) rfl) rfl ?_
      obtain ⟨e12, he12, hM⟩ := bindS hM
      obtain ⟨b18, ob18, cb18, hvb18, cs37, hcs37, hcb18⟩ := hRv1.at he12
      obtain ⟨cs38, cs39, cs40, cs41, rfl, hcs38, hcs39, hcs40, hcs41⟩ := hcs37
      have hcs38 : cs38 = _ := hcs38; subst hcs38
      have hcs39 : cs39 = _ := hcs39; subst hcs39
      have hcs40 : cs40 = _ := hcs40; subst hcs40
      have hcs41 : cs41 = _ := hcs41; subst hcs41
      refine O (r_idxSl Try.underlying22 ti54 (v := v1) rfl hvb18 rfl (idxL_some he12).1 (idxL_some he12).2.1) rfl <| O (r_loadEl (cs := ([Value.int .i64 e12.From]) ++ (([Value.int .i64 e12.To]) ++ (([Value.bool e12.Epsilon]) ++ (e12.Set.1.map (Value.int .u64))))) ti54 rfl (by simp [e12.Set.2]) (.inl rfl) (hcb18 _ hs.imm) (v := Value.agg (List.toArray (α := Value) (([Value.int .i64 e12.From]) ++ (([Value.int .i64 e12.To]) ++ (([Value.bool e12.Epsilon]) ++ (e12.Set.1.map (Value.int .u64))))))) rfl) rfl <| OW_alloc ti54 hs (zs := ([Value.int .i64 0]) ++ (([Value.int .i64 0]) ++ (([Value.bool false]) ++ ((Vec.zero 4).1.map (Value.int .u64))))) rfl rfl ?_
      intro b19 wv12 hs
      refine OW_storeAll ti54 hs (i := 0) rfl rfl (v := Value.agg (List.toArray (α := Value) (([Value.int .i64 e12.From]) ++ (([Value.int .i64 e12.To]) ++ (([Value.bool e12.Epsilon]) ++ (e12.Set.1.map (Value.int .u64))))))) rfl (vs := ([Value.int .i64 e12.From]) ++ (([Value.int .i64 e12.To]) ++ (([Value.bool e12.Epsilon]) ++ (e12.Set.1.map (Value.int .u64))))) rfl (one_append (one_cons rfl one_nil) (one_append (one_cons rfl one_nil) (one_append (one_cons rfl one_nil) vec_one))) (by simp [e12.Set.2]) (by simp [e12.Set.2, (Vec.zero 4).2]) ?_
      intro wv13 hs
      refine OW_nil ?_
      obtain ⟨xv19, hx9, hKhx9⟩ := bindS hM
      refine WP_cut (fun E w => E 1 = Value.pointer (some ⟨b1, 0, none⟩) ∧ E 4 = Value.int .i64 xv16 ∧ E 90 = Value.bool xv19 ∧ E.ds = [] ∧ Go.Lx.Sep g0 w0 g0 w [Go.Lx.box b1 25 ([Value.int .i64 p1.States, Value.int .i64 p1.Start, v1, v2])]) ?_ ?_
      ·have hM := hx9
       refine WP_region <| O (r_fieldAddr Try.underlying54 ti3 rfl rfl (by decide) rfl rfl) rfl <| O (r_load (v := Value.int .i64 e12.From) ti3 rfl (hs.cell (i := 0) (o := 0) rfl (by simp [e12.Set.2]))) rfl <| O (r_lss rfl rfl) rfl <| O (r_move (v := Value.bool (decide (e12.From < 0))) rfl) rfl ?_
       rcases condS hM with ⟨hg64, hM⟩ | ⟨hg64, hM⟩
       ·refine OK rfl rfl rfl (by rw [hg64]; rfl) rfl <| OK rfl rfl rfl (by rw [hg64]; rfl) rfl <| OK rfl rfl rfl (by rw [hg64]; rfl) rfl <| OK rfl rfl rfl (by rw [hg64]; rfl) rfl <| OK rfl rfl rfl (by rw [hg64]; rfl) rfl <| O (r_pickT (v := Value.bool true) rfl hg64 rfl) rfl <| O (r_move (v := Value.bool true) rfl) rfl <| OK rfl rfl rfl rfl rfl <| OK rfl rfl rfl rfl rfl <| OK rfl rfl rfl rfl rfl <| O (r_pickT (v := Value.bool true) rfl rfl rfl) rfl <| O (r_move (v := Value.bool true) rfl) rfl <| OK rfl rfl rfl rfl rfl <| OK rfl rfl rfl rfl rfl <| OK rfl rfl rfl rfl rfl <| OK rfl rfl rfl rfl rfl <| OK rfl rfl rfl rfl rfl <| O (r_pickT (v := Value.bool true) rfl rfl rfl) rfl <| O (r_move (v := Value.bool true) rfl) rfl ?_
        refine OK rfl rfl rfl rfl rfl <| OK rfl rfl rfl rfl rfl <| OK rfl rfl rfl rfl rfl <| OKU rfl rfl rfl rfl <| OKU rfl rfl rfl rfl <| OKU rfl rfl rfl rfl <| OKU rfl rfl rfl rfl <| OK rfl rfl rfl rfl rfl <| O (r_pickT (v := Value.bool true) rfl rfl rfl) rfl <| OW_nil ?_
        obtain rfl := Option.some.inj hM
        exact ⟨rfl, rfl, rfl, hds, (hs.sub (.cons _ (.cons_cons _ .slnil)))⟩
       ·refine OG rfl rfl rfl (by rw [hg64]; rfl) (r_fieldAddr Try.underlying54 ti3 rfl rfl (by decide) rfl rfl) rfl <| OG rfl rfl rfl (by rw [hg64]; rfl) (r_load (v := Value.int .i64 e12.From) ti3 rfl (hs.cell (i := 0) (o := 0) rfl (by simp [e12.Set.2]))) rfl <| OG rfl rfl rfl (by rw [hg64]; rfl) (r_fieldAddr Try.underlying25 ti3 rfl rfl (by decide) rfl rfl) rfl <| OG rfl rfl rfl (by rw [hg64]; rfl) (r_load (v := Value.int .i64 p1.States) ti3 rfl (hs.cell (i := 1) (o := 0) rfl rfl)) rfl <| OG rfl rfl rfl (by rw [hg64]; rfl) (r_geq rfl rfl) rfl <| O (r_pickF (v := Value.bool (decide (p1.States ≤ e12.From))) rfl hg64 rfl) rfl <| O (r_move (v := Value.bool (decide (p1.States ≤ e12.From))) rfl) rfl ?_
        rcases condS hM with ⟨hg65, hM⟩ | ⟨hg65, hM⟩
        ·refine OK rfl rfl rfl (by rw [hg65]; rfl) rfl <| OK rfl rfl rfl (by rw [hg65]; rfl) rfl <| OK rfl rfl rfl (by rw [hg65]; rfl) rfl <| O (r_pickT (v := Value.bool true) rfl hg65 rfl) rfl <| O (r_move (v := Value.bool true) rfl) rfl <| OK rfl rfl rfl rfl rfl <| OK rfl rfl rfl rfl rfl <| OK rfl rfl rfl rfl rfl <| OK rfl rfl rfl rfl rfl <| OK rfl rfl rfl rfl rfl <| O (r_pickT (v := Value.bool true) rfl rfl rfl) rfl <| O (r_move (v := Value.bool true) rfl) rfl <| OK rfl rfl rfl rfl rfl <| OK rfl rfl rfl rfl rfl <| OK rfl rfl rfl rfl rfl <| OKU rfl rfl rfl rfl <| OKU rfl rfl rfl rfl <| OKU rfl rfl rfl rfl <| OKU rfl rfl rfl rfl <| OK rfl rfl rfl rfl rfl <| O (r_pickT (v := Value.bool true) rfl rfl rfl) rfl ?_
         refine OW_nil ?_
         obtain rfl := Option.some.inj hM
         exact ⟨rfl, rfl, rfl, hds, (hs.sub (.cons _ (.cons_cons _ .slnil)))⟩
        ·refine OG rfl rfl rfl (by rw [hg65]; rfl) (r_fieldAddr Try.underlying54 ti3 rfl rfl (by decide) rfl rfl) rfl <| OG rfl rfl rfl (by rw [hg65]; rfl) (r_load (v := Value.int .i64 e12.To) ti3 rfl (hs.cell (i := 0) (o := 1) rfl (by simp [e12.Set.2]))) rfl <| OG rfl rfl rfl (by rw [hg65]; rfl) (r_lss rfl rfl) rfl <| O (r_pickF (v := Value.bool (decide (e12.To < 0))) rfl hg65 rfl) rfl <| O (r_move (v := Value.bool (decide (e12.To < 0))) rfl) rfl ?_
         rcases condS hM with ⟨hg66, hM⟩ | ⟨hg66, hM⟩
         ·refine OK rfl rfl rfl (by rw [hg66]; rfl) rfl <| OK rfl rfl rfl (by rw [hg66]; rfl) rfl <| OK rfl rfl rfl (by rw [hg66]; rfl) rfl <| OK rfl rfl rfl (by rw [hg66]; rfl) rfl <| OK rfl rfl rfl (by rw [hg66]; rfl) rfl <| O (r_pickT (v := Value.bool true) rfl hg66 rfl) rfl <| O (r_move (v := Value.bool true) rfl) rfl <| OK rfl rfl rfl rfl rfl <| OK rfl rfl rfl rfl rfl <| OK rfl rfl rfl rfl rfl <| OKU rfl rfl rfl rfl <| OKU rfl rfl rfl rfl <| OKU rfl rfl rfl rfl <| OKU rfl rfl rfl rfl <| OK rfl rfl rfl rfl rfl <| O (r_pickT (v := Value.bool true) rfl rfl rfl) rfl <| OW_nil ?_
          obtain rfl := Option.some.inj hM
          exact ⟨rfl, rfl, rfl, hds, (hs.sub (.cons _ (.cons_cons _ .slnil)))⟩
         ·refine OG rfl rfl rfl (by rw [hg66]; rfl) (r_fieldAddr Try.underlying54 ti3 rfl rfl (by decide) rfl rfl) rfl <| OG rfl rfl rfl (by rw [hg66]; rfl) (r_load (v := Value.int .i64 e12.To) ti3 rfl (hs.cell (i := 0) (o := 1) rfl (by simp [e12.Set.2]))) rfl <| OG rfl rfl rfl (by rw [hg66]; rfl) (r_fieldAddr Try.underlying25 ti3 rfl rfl (by decide) rfl rfl) rfl <| OG rfl rfl rfl (by rw [hg66]; rfl) (r_load (v := Value.int .i64 p1.States) ti3 rfl (hs.cell (i := 1) (o := 0) rfl rfl)) rfl <| OG rfl rfl rfl (by rw [hg66]; rfl) (r_geq rfl rfl) rfl <| O (r_pickF (v := Value.bool (decide (p1.States ≤ e12.To))) rfl hg66 rfl) rfl <| O (r_move (v := Value.bool (decide (p1.States ≤ e12.To))) rfl) rfl ?_
          rcases condS hM with ⟨hg67, hM⟩ | ⟨hg67, hM⟩
          ·refine OK rfl rfl rfl (by rw [hg67]; rfl) rfl <| OK rfl rfl rfl (by rw [hg67]; rfl) rfl <| OK rfl rfl rfl (by rw [hg67]; rfl) rfl <| OKU rfl rfl rfl rfl <| OKU rfl rfl rfl rfl <| OKU rfl rfl rfl rfl <| OKU rfl rfl rfl rfl <| OK rfl rfl rfl (by rw [hg67]; rfl) rfl <| O (r_pickT (v := Value.bool true) rfl hg67 rfl) rfl <| OW_nil ?_
           obtain rfl := Option.some.inj hM
           exact ⟨rfl, rfl, rfl, hds, (hs.sub (.cons _ (.cons_cons _ .slnil)))⟩
          ·refine OG rfl rfl rfl (by rw [hg67]; rfl) (r_fieldAddr Try.underlying54 ti4 rfl rfl (by decide) rfl rfl) rfl <| OG rfl rfl rfl (by rw [hg67]; rfl) (r_load (v := Value.bool e12.Epsilon) ti4 rfl (hs.cell (i := 0) (o := 2) rfl (by simp [e12.Set.2]))) rfl <| OG rfl rfl rfl (by rw [hg67]; rfl) (r_move (v := Value.bool e12.Epsilon) rfl) rfl ?_
           rcases condS hM with ⟨hg68, hM⟩ | ⟨hg68, hM⟩
           ·refine OG rfl rfl rfl (by rw [hg68]; rfl) (r_fieldAddr Try.underlying54 ti48 rfl rfl (by decide) rfl rfl) rfl <| OG rfl rfl rfl (by rw [hg68]; rfl) (r_loadN (cs := e12.Set.1.map (Value.int .u64)) ti48 rfl (by simp [e12.Set.2]) (hs.cellsAt (i := 0) (o := 3) rfl (by intro j u hj; exact sub_at (pre := [Value.int .i64 e12.From, Value.int .i64 e12.To, Value.bool e12.Epsilon]) (ds := e12.Set.1.map (Value.int .u64)) (post := []) rfl ((by simp)) hj))) rfl <| OG rfl rfl rfl (by rw [hg68]; rfl) (r_build (vs := []) (cs := (Vec.zero 4).1.map (Value.int .u64)) rfl (by kernel_rfl)) rfl <| OG rfl rfl rfl (by rw [hg68]; rfl) (r_neqV Try.underlying48 Try.underlying46 ti46 rfl rfl eg48) rfl <| OG rfl rfl rfl (by rw [hg67]; rfl) (r_pickT (v := Value.bool (e12.Set != (Vec.zero 4))) rfl hg68 rfl) rfl ?_
            refine O (r_pickF (v := Value.bool (e12.Set != (Vec.zero 4))) rfl hg67 rfl) rfl <| OW_nil ?_
            obtain rfl := Option.some.inj hM
            exact ⟨rfl, rfl, rfl, hds, (hs.sub (.cons _ (.cons_cons _ .slnil)))⟩
           ·refine OK rfl rfl rfl (by rw [hg68]; rfl) rfl <| OK rfl rfl rfl (by rw [hg68]; rfl) rfl <| OK rfl rfl rfl (by rw [hg68]; rfl) rfl <| OK rfl rfl rfl (by rw [hg68]; rfl) rfl <| OG rfl rfl rfl (by rw [hg67]; rfl) (r_pickF (v := Value.bool false) rfl hg68 rfl) rfl <| O (r_pickF (v := Value.bool false) rfl hg67 rfl) rfl <| OW_nil ?_
            obtain rfl := Option.some.inj hM
            exact ⟨rfl, rfl, rfl, hds, (hs.sub (.cons _ (.cons_cons _ .slnil)))⟩
      ·clear hs
       rintro E w ⟨hE1, hE4, hE90, hds, hs⟩
       have hM := hKhx9
       obtain ⟨E, rfl⟩ := open3 (E := E) hE1 hE4 hE90
       rcases condS hM with ⟨hc25, hM⟩ | ⟨hc25, hM⟩
       ·refine WP_true rfl hc25 <| WP_seq <| WP_region <| O (r_assign (v := Value.bool false) rfl) rfl <| OW_nil <| WP_ret ?_
        obtain rfl := Option.some.inj hM
        refine fun hr => ?_
        have hM := congrArg some hr
        obtain rfl := Option.some.inj hM
        have hM := hKhx6
        obtain rfl := Option.some.inj hM
        refine FL_nil hds ?_
        exact ⟨_, res1 Try.results13 (rv_tmp (v := Value.bool false) rfl), g0, ⟨[Value.bool false], rfl, rfl⟩, hs.ext⟩
       ·refine WP_false rfl hc25 <| WP_skip <| WP_region <| O (r_move (v := Value.int .i64 xv16) rfl) rfl ?_
        obtain ⟨t12, ht12, hM⟩ := bindS hM
        refine O (r_addM rfl rfl ht12) rfl <| O (r_assign (v := Value.int .i64 t12) rfl) rfl <| OW_nil ?_
        obtain rfl := Option.some.inj hM
        exact ⟨rfl, rfl, hds, hs⟩
     ·refine WP_false rfl hc24 <| WP_exit ?_
      obtain rfl := Option.some.inj hM
      refine fun hr => ?_
      have hM := congrArg some hr
      obtain rfl := Option.some.inj hM
      exact ⟨(), rfl, hds, (hs.sub (.cons _ .slnil))⟩
    ·clear hs
     rintro E w ⟨_, rfl, hds, hs⟩
     have hM := hKhx6
     dsimp only [onStep] at hM
     refine WP_seq <| WP_region <| O (r_assign (v := Value.bool true) rfl) rfl <| OW_nil <| WP_ret ?_
     obtain rfl := Option.some.inj hM
     refine FL_nil hds ?_
     exact ⟨_, res1 Try.results13 (rv_tmp (v := Value.bool true) rfl), g0, ⟨[Value.bool true], rfl, rfl⟩, hs.ext⟩


end Go.Proofs.Ytajmekjcnbmaaaa
