/- The walks: what each function does is what its model says. Printed by a program of my own. -/
import Derived.Test.YtogpainomdfpnaaTyp
import Derived.Test.YtogpainomdfpnaaWalk2
set_option linter.unusedVariables false
set_option linter.unusedSimpArgs false
namespace Go.Proofs.Ytogpainomdfpnaa
open Go.Lx Go.RowKit
set_option maxRecDepth 100000 in
theorem ref09_Valid_ok {p1 : T_NFA} {r : Bool} (hM : M.ref09_Valid p1 = some r) {g0 : Hp} {w0 : World} (hi : Imm g0 w0) {cs1 : List Value} (hcs1 : tT_NFA.rel g0 cs1 p1) :
    CallsV Try.prog 45 #[Value.agg cs1.toArray] w0 (fun v w' => ∃ g', (VRd tBool false g' v r) ∧ Ext g0 w0 g' w') := by
 unfold M.ref09_Valid at hM
 obtain ⟨cs2, cs3, cs4, cs5, rfl, hcs2, hcs3, hcs4, hcs5⟩ := hcs1
 have hcs2 : cs2 = _ := hcs2; subst hcs2
 have hcs3 : cs3 = _ := hcs3; subst hcs3
 obtain ⟨v1, rfl, hRv1⟩ := hcs4
 obtain ⟨v2, rfl, hRv2⟩ := hcs5
 have hs := Sep.start hi
 refine calls_of_WP (args := [Value.agg (List.toArray (α := Value) [Value.int .i64 p1.States, Value.int .i64 p1.Start, v1, v2])]) Try.func45 rfl Try.ntmps45 rfl ?_
 have hds : (argEnv [Value.agg (List.toArray (α := Value) [Value.int .i64 p1.States, Value.int .i64 p1.Start, v1, v2])]).ds = [] := rfl
 refine WP_seq <| WP_region <| OW_box (v := Value.agg (List.toArray (α := Value) [Value.int .i64 p1.States, Value.int .i64 p1.Start, v1, v2])) rfl hs (zs := [Value.int .i64 p1.States, Value.int .i64 p1.Start, v1, v2]) rfl rfl ?_
 intro b1 wv1 hs
 refine O (r_assign (v := Value.bool false) rfl) rfl <| OW_nil <| WP_seq ?_
 obtain ⟨xv1, hx1, hKhx1⟩ := bindS hM
 refine WP_cut (fun E w => E 1 = Value.pointer (some ⟨b1, 0, none⟩) ∧ E 33 = Value.bool xv1 ∧ E.ds = [] ∧ Go.Lx.Sep g0 w0 g0 w [Go.Lx.box b1 41 ([Value.int .i64 p1.States, Value.int .i64 p1.Start, v1, v2])]) ?_ ?_
 ·have hM := hx1
  have hag0 := Hle.refl g0
  refine WP_region <| O (r_fieldAddr Try.underlying41 ti3 rfl rfl (by decide) rfl rfl) rfl <| O (r_load (v := Value.int .i64 p1.States) ti3 rfl (hs.cell (i := 0) (o := 0) rfl rfl)) rfl <| O (r_lss rfl rfl) rfl <| O (r_move (v := Value.bool (decide (p1.States < 1))) rfl) rfl ?_
  rcases condS hM with ⟨hg5, hM⟩ | ⟨hg5, hM⟩
  ·refine OK rfl rfl rfl (by rw [hg5]; rfl) rfl <| OK rfl rfl rfl (by rw [hg5]; rfl) rfl <| OK rfl rfl rfl (by rw [hg5]; rfl) rfl <| O (r_pickT (v := Value.bool true) rfl hg5 rfl) rfl <| O (r_move (v := Value.bool true) rfl) rfl <| OK rfl rfl rfl rfl rfl <| OK rfl rfl rfl rfl rfl <| OK rfl rfl rfl rfl rfl <| O (r_pickT (v := Value.bool true) rfl rfl rfl) rfl <| O (r_move (v := Value.bool true) rfl) rfl <| OK rfl rfl rfl rfl rfl <| OK rfl rfl rfl rfl rfl <| OK rfl rfl rfl rfl rfl <| OK rfl rfl rfl rfl rfl <| OK rfl rfl rfl rfl rfl <| O (r_pickT (v := Value.bool true) rfl rfl rfl) rfl <| O (r_move (v := Value.bool true) rfl) rfl <| OK rfl rfl rfl rfl rfl <| OK rfl rfl rfl rfl rfl <| OK rfl rfl rfl rfl rfl ?_
   refine OK rfl rfl rfl rfl rfl <| OK rfl rfl rfl rfl rfl <| OK rfl rfl rfl rfl rfl <| O (r_pickT (v := Value.bool true) rfl rfl rfl) rfl <| OW_nil ?_
   obtain rfl := Option.some.inj hM
   exact ⟨rfl, rfl, hds, hs⟩
  ·refine OG rfl rfl rfl (by rw [hg5]; rfl) (r_fieldAddr Try.underlying41 ti3 rfl rfl (by decide) rfl rfl) rfl <| OG rfl rfl rfl (by rw [hg5]; rfl) (r_load (v := Value.int .i64 p1.States) ti3 rfl (hs.cell (i := 0) (o := 0) rfl rfl)) rfl <| OG rfl rfl rfl (by rw [hg5]; rfl) (r_gtr rfl rfl) rfl <| O (r_pickF (v := Value.bool (decide (2000 < p1.States))) rfl hg5 rfl) rfl <| O (r_move (v := Value.bool (decide (2000 < p1.States))) rfl) rfl ?_
   rcases condS hM with ⟨hg6, hM⟩ | ⟨hg6, hM⟩
   ·refine OK rfl rfl rfl (by rw [hg6]; rfl) rfl <| OK rfl rfl rfl (by rw [hg6]; rfl) rfl <| OK rfl rfl rfl (by rw [hg6]; rfl) rfl <| O (r_pickT (v := Value.bool true) rfl hg6 rfl) rfl <| O (r_move (v := Value.bool true) rfl) rfl <| OK rfl rfl rfl rfl rfl <| OK rfl rfl rfl rfl rfl <| OK rfl rfl rfl rfl rfl <| OK rfl rfl rfl rfl rfl <| OK rfl rfl rfl rfl rfl <| O (r_pickT (v := Value.bool true) rfl rfl rfl) rfl <| O (r_move (v := Value.bool true) rfl) rfl <| OK rfl rfl rfl rfl rfl <| OK rfl rfl rfl rfl rfl <| OK rfl rfl rfl rfl rfl <| OK rfl rfl rfl rfl rfl <| OK rfl rfl rfl rfl rfl <| OK rfl rfl rfl rfl rfl <| O (r_pickT (v := Value.bool true) rfl rfl rfl) rfl <| OW_nil ?_
    obtain rfl := Option.some.inj hM
    exact ⟨rfl, rfl, hds, hs⟩
   ·refine OG rfl rfl rfl (by rw [hg6]; rfl) (r_fieldAddr Try.underlying41 ti3 rfl rfl (by decide) rfl rfl) rfl <| OG rfl rfl rfl (by rw [hg6]; rfl) (r_load (v := Value.int .i64 p1.Start) ti3 rfl (hs.cell (i := 0) (o := 1) rfl rfl)) rfl <| OG rfl rfl rfl (by rw [hg6]; rfl) (r_lss rfl rfl) rfl <| O (r_pickF (v := Value.bool (decide (p1.Start < 0))) rfl hg6 rfl) rfl <| O (r_move (v := Value.bool (decide (p1.Start < 0))) rfl) rfl ?_
    rcases condS hM with ⟨hg7, hM⟩ | ⟨hg7, hM⟩
    ·refine OK rfl rfl rfl (by rw [hg7]; rfl) rfl <| OK rfl rfl rfl (by rw [hg7]; rfl) rfl <| OK rfl rfl rfl (by rw [hg7]; rfl) rfl <| OK rfl rfl rfl (by rw [hg7]; rfl) rfl <| OK rfl rfl rfl (by rw [hg7]; rfl) rfl <| O (r_pickT (v := Value.bool true) rfl hg7 rfl) rfl <| O (r_move (v := Value.bool true) rfl) rfl <| OK rfl rfl rfl rfl rfl <| OK rfl rfl rfl rfl rfl <| OK rfl rfl rfl rfl rfl <| OK rfl rfl rfl rfl rfl <| OK rfl rfl rfl rfl rfl <| OK rfl rfl rfl rfl rfl <| O (r_pickT (v := Value.bool true) rfl rfl rfl) rfl <| OW_nil ?_
     obtain rfl := Option.some.inj hM
     exact ⟨rfl, rfl, hds, hs⟩
    ·refine OG rfl rfl rfl (by rw [hg7]; rfl) (r_fieldAddr Try.underlying41 ti3 rfl rfl (by decide) rfl rfl) rfl <| OG rfl rfl rfl (by rw [hg7]; rfl) (r_load (v := Value.int .i64 p1.Start) ti3 rfl (hs.cell (i := 0) (o := 1) rfl rfl)) rfl <| OG rfl rfl rfl (by rw [hg7]; rfl) (r_fieldAddr Try.underlying41 ti3 rfl rfl (by decide) rfl rfl) rfl <| OG rfl rfl rfl (by rw [hg7]; rfl) (r_load (v := Value.int .i64 p1.States) ti3 rfl (hs.cell (i := 0) (o := 0) rfl rfl)) rfl <| OG rfl rfl rfl (by rw [hg7]; rfl) (r_geq rfl rfl) rfl <| O (r_pickF (v := Value.bool (decide (p1.States ≤ p1.Start))) rfl hg7 rfl) rfl <| O (r_move (v := Value.bool (decide (p1.States ≤ p1.Start))) rfl) rfl ?_
     rcases condS hM with ⟨hg8, hM⟩ | ⟨hg8, hM⟩
     ·refine OK rfl rfl rfl (by rw [hg8]; rfl) rfl <| OK rfl rfl rfl (by rw [hg8]; rfl) rfl <| OK rfl rfl rfl (by rw [hg8]; rfl) rfl <| OK rfl rfl rfl (by rw [hg8]; rfl) rfl <| OK rfl rfl rfl (by rw [hg8]; rfl) rfl <| OK rfl rfl rfl (by rw [hg8]; rfl) rfl <| O (r_pickT (v := Value.bool true) rfl hg8 rfl) rfl <| OW_nil ?_
      obtain rfl := Option.some.inj hM
      exact ⟨rfl, rfl, hds, hs⟩
     ·refine OG rfl rfl rfl (by rw [hg8]; rfl) (r_fieldAddr Try.underlying41 ti22 rfl rfl (by decide) rfl rfl) rfl <| OG rfl rfl rfl (by rw [hg8]; rfl) (r_load (v := v2) ti22 rfl (hs.cell (i := 0) (o := 3) rfl rfl)) rfl ?_
      obtain ⟨a2, ca2, hva2⟩ := hRv2.shape
      refine OG rfl rfl rfl (by rw [hg8]; rfl) (r_lenSl (v := v2) Try.underlying22 rfl hva2) rfl <| OG rfl rfl rfl (by rw [hg8]; rfl) (r_fieldAddr Try.underlying41 ti3 rfl rfl (by decide) rfl rfl) rfl <| OG rfl rfl rfl (by rw [hg8]; rfl) (r_load (v := Value.int .i64 p1.States) ti3 rfl (hs.cell (i := 0) (o := 0) rfl rfl)) rfl <| OG rfl rfl rfl (by rw [hg8]; rfl) (r_neq rfl rfl) rfl <| O (r_pickF (v := Value.bool ((p1.Accept.length : Int) != p1.States)) rfl hg8 rfl) rfl <| OW_nil ?_
      obtain rfl := Option.some.inj hM
      exact ⟨rfl, rfl, hds, hs⟩
 ·clear hs
  rintro E w ⟨hE1, hE33, hds, hs⟩
  have hM := hKhx1
  obtain ⟨E, rfl⟩ := open2 (E := E) hE1 hE33
  rcases condS hM with ⟨hc1, hM⟩ | ⟨hc1, hM⟩
  ·refine WP_true rfl hc1 <| WP_seq <| WP_region <| O (r_assign (v := Value.bool false) rfl) rfl <| OW_nil <| WP_ret ?_
   obtain rfl := Option.some.inj hM
   refine FL_nil hds ?_
   exact ⟨_, res1 Try.results45 (rv_tmp (v := Value.bool false) rfl), g0, ⟨[Value.bool false], rfl, rfl⟩, hs.ext⟩
  ·refine WP_false rfl hc1 <| WP_skip ?_
   obtain ⟨o3, hx2, hKhx2⟩ := stepS hM
   refine WP_cut (fun E w => ∃ u9 : Unit, o3 = .next u9 ∧ E 1 = Value.pointer (some ⟨b1, 0, none⟩) ∧ E.ds = [] ∧ Go.Lx.Sep g0 w0 g0 w [Go.Lx.box b1 41 ([Value.int .i64 p1.States, Value.int .i64 p1.Start, v1, v2])]) ?_ ?_
   ·have hM := hx2
    have hag0 := Hle.refl g0
    refine WP_seq <| WP_region <| O (r_assign (v := Value.int .i64 0) rfl) rfl <| OW_nil <| WP_block <| WP_loop (fun (xv6 : Int) E w => E 1 = Value.pointer (some ⟨b1, 0, none⟩) ∧ E 3 = Value.int .i64 xv6 ∧ E.ds = [] ∧ Go.Lx.Sep g0 w0 g0 w [Go.Lx.box b1 41 ([Value.int .i64 p1.States, Value.int .i64 p1.Start, v1, v2])]) hM ⟨rfl, rfl, hds, hs⟩ ?_
    clear hs hM
    rintro xv6 o2 E w hM ⟨hE1, hE3, hds, hs⟩
    obtain ⟨E, rfl⟩ := open2 (E := E) hE1 hE3
    refine WP_seq <| WP_seq <| WP_region <| O (r_move (v := Value.int .i64 xv6) rfl) rfl <| O (r_fieldAddr Try.underlying41 ti22 rfl rfl (by decide) rfl rfl) rfl <| O (r_load (v := v2) ti22 rfl (hs.cell (i := 0) (o := 3) rfl rfl)) rfl ?_
    obtain ⟨a8, ca8, hva8⟩ := hRv2.shape
    refine O (r_lenSl (v := v2) Try.underlying22 rfl hva8) rfl <| O (r_lss rfl rfl) rfl <| OW_nil ?_
    rcases condS hM with ⟨hc12, hM⟩ | ⟨hc12, hM⟩
    ·refine WP_true rfl hc12 <| WP_skip <| WP_seq <| WP_block <| WP_seq <| WP_region <| O (r_fieldAddr Try.underlying41 ti22 rfl rfl (by decide) rfl rfl) rfl <| O (r_load (v := v2) ti22 rfl (hs.cell (i := 0) (o := 3) rfl rfl)) rfl <| O (r_move (v := Value.int .i64 xv6) rfl) rfl ?_
     obtain ⟨e6, he6, hM⟩ := bindS hM
     obtain ⟨b7, ob7, cb7, hvb7, cs11, hcs11, hcb7⟩ := hRv2.at he6
     have hcs11 : cs11 = _ := hcs11; subst hcs11
     refine O (r_idxSl Try.underlying22 ti3 (v := v2) rfl hvb7 rfl (idxL_some he6).1 (idxL_some he6).2.1) rfl <| O (r_loadEl (cs := [Value.int .i64 e6]) ti3 rfl rfl (.inr rfl) (hcb7 _ hs.imm) (v := Value.int .i64 e6) rfl) rfl <| O (r_lss rfl rfl) rfl <| OW_nil ?_
     rcases condS hM with ⟨hc13, hM⟩ | ⟨hc13, hM⟩
     ·refine WP_true rfl hc13 <| WP_seq <| WP_region <| O (r_assign (v := Value.bool false) rfl) rfl <| OW_nil <| WP_ret ?_
      obtain rfl := Option.some.inj hM
      refine fun hr => ?_
      have hM := congrArg some hr
      obtain rfl := Option.some.inj hM
      have hM := hKhx2
      obtain rfl := Option.some.inj hM
      refine FL_nil hds ?_
      exact ⟨_, res1 Try.results45 (rv_tmp (v := Value.bool false) rfl), g0, ⟨[Value.bool false], rfl, rfl⟩, hs.ext⟩
     ·refine WP_false rfl hc13 <| WP_skip <| WP_region <| O (r_move (v := Value.int .i64 xv6) rfl) rfl ?_
      obtain ⟨t6, ht6, hM⟩ := bindS hM
      refine O (r_addM rfl rfl ht6) rfl <| O (r_assign (v := Value.int .i64 t6) rfl) rfl <| OW_nil ?_
      obtain rfl := Option.some.inj hM
      exact ⟨rfl, rfl, hds, hs⟩
    ·refine WP_false rfl hc12 <| WP_exit ?_
     obtain rfl := Option.some.inj hM
     refine fun hr => ?_
     have hM := congrArg some hr
     obtain rfl := Option.some.inj hM
     exact ⟨(), rfl, rfl, hds, hs⟩
   ·clear hs
    rintro E w ⟨_, rfl, hE1, hds, hs⟩
    have hM := hKhx2
    dsimp only [onStep] at hM
    obtain ⟨E, rfl⟩ := open1 (E := E) hE1
    obtain ⟨o6, hx6, hKhx6⟩ := stepS hM
    refine WP_cut (fun E w => ∃ u9 : Unit, o6 = .next u9 ∧ E.ds = [] ∧ Go.Lx.Sep g0 w0 g0 w []) ?_ ?_
    ·have hM := hx6
     have hag0 := Hle.refl g0
     refine WP_seq <| WP_region <| O (r_assign (v := Value.int .i64 0) rfl) rfl <| OW_nil <| WP_block <| WP_loop (fun (xv16 : Int) E w => E 1 = Value.pointer (some ⟨b1, 0, none⟩) ∧ E 4 = Value.int .i64 xv16 ∧ E.ds = [] ∧ Go.Lx.Sep g0 w0 g0 w [Go.Lx.box b1 41 ([Value.int .i64 p1.States, Value.int .i64 p1.Start, v1, v2])]) hM ⟨rfl, rfl, hds, hs⟩ ?_
     clear hs hM
     rintro xv16 o5 E w hM ⟨hE1, hE4, hds, hs⟩
     obtain ⟨E, rfl⟩ := open2 (E := E) hE1 hE4
     refine WP_seq <| WP_seq <| WP_region <| O (r_move (v := Value.int .i64 xv16) rfl) rfl <| O (r_fieldAddr Try.underlying41 ti39 rfl rfl (by decide) rfl rfl) rfl <| O (r_load (v := v1) ti39 rfl (hs.cell (i := 0) (o := 2) rfl rfl)) rfl ?_
     obtain ⟨a14, ca14, hva14⟩ := hRv1.shape
     refine O (r_lenSl (v := v1) Try.underlying39 rfl hva14) rfl <| O (r_lss rfl rfl) rfl <| OW_nil ?_
     rcases condS hM with ⟨hc24, hM⟩ | ⟨hc24, hM⟩
     ·refine WP_true rfl hc24 <| WP_skip <| WP_seq <| WP_block <| WP_seq <| WP_region <| O (r_fieldAddr Try.underlying41 ti39 rfl rfl (by decide) rfl rfl) rfl <| O (r_load (v := v1) ti39 rfl (hs.cell (i := 0) (o := 2) rfl rfl)) rfl <| O (r_move (v := Value.int .i64 xv16) rfl) rfl ?_
      obtain ⟨e12, he12, hM⟩ := bindS hM
      obtain ⟨b18, ob18, cb18, hvb18, cs37, hcs37, hcb18⟩ := hRv1.at he12
      obtain ⟨cs38, cs39, cs40, cs41, rfl, hcs38, hcs39, hcs40, hcs41⟩ := hcs37
      have hcs38 : cs38 = _ := hcs38; subst hcs38
      have hcs39 : cs39 = _ := hcs39; subst hcs39
      have hcs40 : cs40 = _ := hcs40; subst hcs40
      have hcs41 : cs41 = _ := hcs41; subst hcs41
      refine O (r_idxSl Try.underlying39 ti79 (v := v1) rfl hvb18 rfl (idxL_some he12).1 (idxL_some he12).2.1) rfl <| O (r_loadEl (cs := ([Value.int .i64 e12.From]) ++ (([Value.int .i64 e12.To]) ++ (([Value.bool e12.Epsilon]) ++ (e12.Set.1.map (Value.int .u64))))) ti79 rfl (by simp [e12.Set.2]) (.inl rfl) (hcb18 _ hs.imm) (v := Value.agg (List.toArray (α := Value) (([Value.int .i64 e12.From]) ++ (([Value.int .i64 e12.To]) ++ (([Value.bool e12.Epsilon]) ++ (e12.Set.1.map (Value.int .u64))))))) rfl) rfl <| OW_alloc ti79 hs (zs := ([Value.int .i64 0]) ++ (([Value.int .i64 0]) ++ (([Value.bool false]) ++ ((Vec.zero 4).1.map (Value.int .u64))))) rfl rfl ?_
      intro b19 wv12 hs
      refine OW_storeAll ti79 hs (i := 0) rfl rfl (v := Value.agg (List.toArray (α := Value) (([Value.int .i64 e12.From]) ++ (([Value.int .i64 e12.To]) ++ (([Value.bool e12.Epsilon]) ++ (e12.Set.1.map (Value.int .u64))))))) rfl (vs := ([Value.int .i64 e12.From]) ++ (([Value.int .i64 e12.To]) ++ (([Value.bool e12.Epsilon]) ++ (e12.Set.1.map (Value.int .u64))))) rfl (one_append (one_cons rfl one_nil) (one_append (one_cons rfl one_nil) (one_append (one_cons rfl one_nil) vec_one))) (by simp [e12.Set.2]) (by simp [e12.Set.2, (Vec.zero 4).2]) ?_
      intro wv13 hs
      refine OW_nil ?_
      obtain ⟨xv19, hx9, hKhx9⟩ := bindS hM
      refine WP_cut (fun E w => E 1 = Value.pointer (some ⟨b1, 0, none⟩) ∧ E 4 = Value.int .i64 xv16 ∧ E 90 = Value.bool xv19 ∧ E.ds = [] ∧ Go.Lx.Sep g0 w0 g0 w [Go.Lx.box b1 41 ([Value.int .i64 p1.States, Value.int .i64 p1.Start, v1, v2])]) ?_ ?_
      ·have hM := hx9
       refine WP_region <| O (r_fieldAddr Try.underlying79 ti3 rfl rfl (by decide) rfl rfl) rfl <| O (r_load (v := Value.int .i64 e12.From) ti3 rfl (hs.cell (i := 0) (o := 0) rfl (by simp [e12.Set.2]))) rfl <| O (r_lss rfl rfl) rfl <| O (r_move (v := Value.bool (decide (e12.From < 0))) rfl) rfl ?_
       rcases condS hM with ⟨hg64, hM⟩ | ⟨hg64, hM⟩
       ·refine OK rfl rfl rfl (by rw [hg64]; rfl) rfl <| OK rfl rfl rfl (by rw [hg64]; rfl) rfl <| OK rfl rfl rfl (by rw [hg64]; rfl) rfl <| OK rfl rfl rfl (by rw [hg64]; rfl) rfl <| OK rfl rfl rfl (by rw [hg64]; rfl) rfl <| O (r_pickT (v := Value.bool true) rfl hg64 rfl) rfl <| O (r_move (v := Value.bool true) rfl) rfl <| OK rfl rfl rfl rfl rfl <| OK rfl rfl rfl rfl rfl <| OK rfl rfl rfl rfl rfl <| O (r_pickT (v := Value.bool true) rfl rfl rfl) rfl <| O (r_move (v := Value.bool true) rfl) rfl <| OK rfl rfl rfl rfl rfl <| OK rfl rfl rfl rfl rfl <| OK rfl rfl rfl rfl rfl <| OK rfl rfl rfl rfl rfl <| OK rfl rfl rfl rfl rfl <| O (r_pickT (v := Value.bool true) rfl rfl rfl) rfl <| O (r_move (v := Value.bool true) rfl) rfl ?_
        refine OK rfl rfl rfl rfl rfl <| OK rfl rfl rfl rfl rfl <| OK rfl rfl rfl rfl rfl <| OKU rfl rfl rfl rfl <| OKU rfl rfl rfl rfl <| OKU rfl rfl rfl rfl <| OKU rfl rfl rfl rfl <| OK rfl rfl rfl rfl rfl <| O (r_pickT (v := Value.bool true) rfl rfl rfl) rfl <| OW_nil ?_
        obtain rfl := Option.some.inj hM
        exact ⟨rfl, rfl, rfl, hds, (hs.sub (.cons _ (.cons_cons _ .slnil)))⟩
       ·refine OG rfl rfl rfl (by rw [hg64]; rfl) (r_fieldAddr Try.underlying79 ti3 rfl rfl (by decide) rfl rfl) rfl <| OG rfl rfl rfl (by rw [hg64]; rfl) (r_load (v := Value.int .i64 e12.From) ti3 rfl (hs.cell (i := 0) (o := 0) rfl (by simp [e12.Set.2]))) rfl <| OG rfl rfl rfl (by rw [hg64]; rfl) (r_fieldAddr Try.underlying41 ti3 rfl rfl (by decide) rfl rfl) rfl <| OG rfl rfl rfl (by rw [hg64]; rfl) (r_load (v := Value.int .i64 p1.States) ti3 rfl (hs.cell (i := 1) (o := 0) rfl rfl)) rfl <| OG rfl rfl rfl (by rw [hg64]; rfl) (r_geq rfl rfl) rfl <| O (r_pickF (v := Value.bool (decide (p1.States ≤ e12.From))) rfl hg64 rfl) rfl <| O (r_move (v := Value.bool (decide (p1.States ≤ e12.From))) rfl) rfl ?_
        rcases condS hM with ⟨hg65, hM⟩ | ⟨hg65, hM⟩
        ·refine OK rfl rfl rfl (by rw [hg65]; rfl) rfl <| OK rfl rfl rfl (by rw [hg65]; rfl) rfl <| OK rfl rfl rfl (by rw [hg65]; rfl) rfl <| O (r_pickT (v := Value.bool true) rfl hg65 rfl) rfl <| O (r_move (v := Value.bool true) rfl) rfl <| OK rfl rfl rfl rfl rfl <| OK rfl rfl rfl rfl rfl <| OK rfl rfl rfl rfl rfl <| OK rfl rfl rfl rfl rfl <| OK rfl rfl rfl rfl rfl <| O (r_pickT (v := Value.bool true) rfl rfl rfl) rfl <| O (r_move (v := Value.bool true) rfl) rfl <| OK rfl rfl rfl rfl rfl <| OK rfl rfl rfl rfl rfl <| OK rfl rfl rfl rfl rfl <| OKU rfl rfl rfl rfl <| OKU rfl rfl rfl rfl <| OKU rfl rfl rfl rfl <| OKU rfl rfl rfl rfl <| OK rfl rfl rfl rfl rfl <| O (r_pickT (v := Value.bool true) rfl rfl rfl) rfl ?_
         refine OW_nil ?_
         obtain rfl := Option.some.inj hM
         exact ⟨rfl, rfl, rfl, hds, (hs.sub (.cons _ (.cons_cons _ .slnil)))⟩
        ·refine OG rfl rfl rfl (by rw [hg65]; rfl) (r_fieldAddr Try.underlying79 ti3 rfl rfl (by decide) rfl rfl) rfl <| OG rfl rfl rfl (by rw [hg65]; rfl) (r_load (v := Value.int .i64 e12.To) ti3 rfl (hs.cell (i := 0) (o := 1) rfl (by simp [e12.Set.2]))) rfl <| OG rfl rfl rfl (by rw [hg65]; rfl) (r_lss rfl rfl) rfl <| O (r_pickF (v := Value.bool (decide (e12.To < 0))) rfl hg65 rfl) rfl <| O (r_move (v := Value.bool (decide (e12.To < 0))) rfl) rfl ?_
         rcases condS hM with ⟨hg66, hM⟩ | ⟨hg66, hM⟩
         ·refine OK rfl rfl rfl (by rw [hg66]; rfl) rfl <| OK rfl rfl rfl (by rw [hg66]; rfl) rfl <| OK rfl rfl rfl (by rw [hg66]; rfl) rfl <| OK rfl rfl rfl (by rw [hg66]; rfl) rfl <| OK rfl rfl rfl (by rw [hg66]; rfl) rfl <| O (r_pickT (v := Value.bool true) rfl hg66 rfl) rfl <| O (r_move (v := Value.bool true) rfl) rfl <| OK rfl rfl rfl rfl rfl <| OK rfl rfl rfl rfl rfl <| OK rfl rfl rfl rfl rfl <| OKU rfl rfl rfl rfl <| OKU rfl rfl rfl rfl <| OKU rfl rfl rfl rfl <| OKU rfl rfl rfl rfl <| OK rfl rfl rfl rfl rfl <| O (r_pickT (v := Value.bool true) rfl rfl rfl) rfl <| OW_nil ?_
          obtain rfl := Option.some.inj hM
          exact ⟨rfl, rfl, rfl, hds, (hs.sub (.cons _ (.cons_cons _ .slnil)))⟩
         ·refine OG rfl rfl rfl (by rw [hg66]; rfl) (r_fieldAddr Try.underlying79 ti3 rfl rfl (by decide) rfl rfl) rfl <| OG rfl rfl rfl (by rw [hg66]; rfl) (r_load (v := Value.int .i64 e12.To) ti3 rfl (hs.cell (i := 0) (o := 1) rfl (by simp [e12.Set.2]))) rfl <| OG rfl rfl rfl (by rw [hg66]; rfl) (r_fieldAddr Try.underlying41 ti3 rfl rfl (by decide) rfl rfl) rfl <| OG rfl rfl rfl (by rw [hg66]; rfl) (r_load (v := Value.int .i64 p1.States) ti3 rfl (hs.cell (i := 1) (o := 0) rfl rfl)) rfl <| OG rfl rfl rfl (by rw [hg66]; rfl) (r_geq rfl rfl) rfl <| O (r_pickF (v := Value.bool (decide (p1.States ≤ e12.To))) rfl hg66 rfl) rfl <| O (r_move (v := Value.bool (decide (p1.States ≤ e12.To))) rfl) rfl ?_
          rcases condS hM with ⟨hg67, hM⟩ | ⟨hg67, hM⟩
          ·refine OK rfl rfl rfl (by rw [hg67]; rfl) rfl <| OK rfl rfl rfl (by rw [hg67]; rfl) rfl <| OK rfl rfl rfl (by rw [hg67]; rfl) rfl <| OKU rfl rfl rfl rfl <| OKU rfl rfl rfl rfl <| OKU rfl rfl rfl rfl <| OKU rfl rfl rfl rfl <| OK rfl rfl rfl (by rw [hg67]; rfl) rfl <| O (r_pickT (v := Value.bool true) rfl hg67 rfl) rfl <| OW_nil ?_
           obtain rfl := Option.some.inj hM
           exact ⟨rfl, rfl, rfl, hds, (hs.sub (.cons _ (.cons_cons _ .slnil)))⟩
          ·refine OG rfl rfl rfl (by rw [hg67]; rfl) (r_fieldAddr Try.underlying79 ti4 rfl rfl (by decide) rfl rfl) rfl <| OG rfl rfl rfl (by rw [hg67]; rfl) (r_load (v := Value.bool e12.Epsilon) ti4 rfl (hs.cell (i := 0) (o := 2) rfl (by simp [e12.Set.2]))) rfl <| OG rfl rfl rfl (by rw [hg67]; rfl) (r_move (v := Value.bool e12.Epsilon) rfl) rfl ?_
           rcases condS hM with ⟨hg68, hM⟩ | ⟨hg68, hM⟩
           ·refine OG rfl rfl rfl (by rw [hg68]; rfl) (r_fieldAddr Try.underlying79 ti77 rfl rfl (by decide) rfl rfl) rfl <| OG rfl rfl rfl (by rw [hg68]; rfl) (r_loadN (cs := e12.Set.1.map (Value.int .u64)) ti77 rfl (by simp [e12.Set.2]) (hs.cellsAt (i := 0) (o := 3) rfl (by intro j u hj; exact sub_at (pre := [Value.int .i64 e12.From, Value.int .i64 e12.To, Value.bool e12.Epsilon]) (ds := e12.Set.1.map (Value.int .u64)) (post := []) rfl ((by simp)) hj))) rfl <| OG rfl rfl rfl (by rw [hg68]; rfl) (r_build (vs := []) (cs := (Vec.zero 4).1.map (Value.int .u64)) rfl (by kernel_rfl)) rfl <| OG rfl rfl rfl (by rw [hg68]; rfl) (r_neqV Try.underlying77 Try.underlying75 ti75 rfl rfl eg77) rfl <| OG rfl rfl rfl (by rw [hg67]; rfl) (r_pickT (v := Value.bool (e12.Set != (Vec.zero 4))) rfl hg68 rfl) rfl ?_
            refine O (r_pickF (v := Value.bool (e12.Set != (Vec.zero 4))) rfl hg67 rfl) rfl <| OW_nil ?_
            obtain rfl := Option.some.inj hM
            exact ⟨rfl, rfl, rfl, hds, (hs.sub (.cons _ (.cons_cons _ .slnil)))⟩
           ·refine OK rfl rfl rfl (by rw [hg68]; rfl) rfl <| OK rfl rfl rfl (by rw [hg68]; rfl) rfl <| OK rfl rfl rfl (by rw [hg68]; rfl) rfl <| OK rfl rfl rfl (by rw [hg68]; rfl) rfl <| OG rfl rfl rfl (by rw [hg67]; rfl) (r_pickF (v := Value.bool false) rfl hg68 rfl) rfl <| O (r_pickF (v := Value.bool false) rfl hg67 rfl) rfl <| OW_nil ?_
            obtain rfl := Option.some.inj hM
            exact ⟨rfl, rfl, rfl, hds, (hs.sub (.cons _ (.cons_cons _ .slnil)))⟩
      ·clear hs
       rintro E w ⟨hE1, hE4, hE90, hds, hs⟩
       have hM := hKhx9
       obtain ⟨E, rfl⟩ := open3 (E := E) hE1 hE4 hE90
       rcases condS hM with ⟨hc25, hM⟩ | ⟨hc25, hM⟩
       ·refine WP_true rfl hc25 <| WP_seq <| WP_region <| O (r_assign (v := Value.bool false) rfl) rfl <| OW_nil <| WP_ret ?_
        obtain rfl := Option.some.inj hM
        refine fun hr => ?_
        have hM := congrArg some hr
        obtain rfl := Option.some.inj hM
        have hM := hKhx6
        obtain rfl := Option.some.inj hM
        refine FL_nil hds ?_
        exact ⟨_, res1 Try.results45 (rv_tmp (v := Value.bool false) rfl), g0, ⟨[Value.bool false], rfl, rfl⟩, hs.ext⟩
       ·refine WP_false rfl hc25 <| WP_skip <| WP_region <| O (r_move (v := Value.int .i64 xv16) rfl) rfl ?_
        obtain ⟨t12, ht12, hM⟩ := bindS hM
        refine O (r_addM rfl rfl ht12) rfl <| O (r_assign (v := Value.int .i64 t12) rfl) rfl <| OW_nil ?_
        obtain rfl := Option.some.inj hM
        exact ⟨rfl, rfl, hds, hs⟩
     ·refine WP_false rfl hc24 <| WP_exit ?_
      obtain rfl := Option.some.inj hM
      refine fun hr => ?_
      have hM := congrArg some hr
      obtain rfl := Option.some.inj hM
      exact ⟨(), rfl, hds, (hs.sub (.cons _ .slnil))⟩
    ·clear hs
     rintro E w ⟨_, rfl, hds, hs⟩
     have hM := hKhx6
     dsimp only [onStep] at hM
     refine WP_seq <| WP_region <| O (r_assign (v := Value.bool true) rfl) rfl <| OW_nil <| WP_ret ?_
     obtain rfl := Option.some.inj hM
     refine FL_nil hds ?_
     exact ⟨_, res1 Try.results45 (rv_tmp (v := Value.bool true) rfl), g0, ⟨[Value.bool true], rfl, rfl⟩, hs.ext⟩

set_option maxRecDepth 100000 in
theorem ref07_Has_ok {s1 : (Vec 4)} {b1 : Int} {r : Bool} (hM : M.ref07_Has s1 b1 = some r) {g0 : Hp} {w0 : World} (hi : Imm g0 w0) :
    CallsV Try.prog 65 #[encV .u64 s1, Value.int .u8 b1] w0 (fun v w' => ∃ g', (VRd tBool false g' v r) ∧ Ext g0 w0 g' w') := by
 unfold M.ref07_Has at hM
 have hs := Sep.start hi
 refine calls_of_WP (args := [encV .u64 s1, Value.int .u8 b1]) Try.func65 rfl Try.ntmps65 rfl ?_
 have hds : (argEnv [encV .u64 s1, Value.int .u8 b1]).ds = [] := rfl
 refine WP_seq <| WP_region <| OW_box (v := encV .u64 s1) rfl hs (zs := s1.1.map (Value.int .u64)) rfl rfl ?_
 intro b2 wv1 hs
 refine O (r_assign (v := Value.bool false) rfl) rfl <| OW_nil <| WP_seq <| WP_region <| O (r_move (v := Value.int .u8 b1) rfl) rfl ?_
 obtain ⟨t1, ht1, hM⟩ := bindS hM
 refine O (r_quoM rfl rfl ht1) rfl ?_
 obtain ⟨c1, hc1, hM⟩ := bindS hM
 refine O (r_idxArr Try.underlying77 ti75 rfl rfl (vget_some hc1).1 (vget_some hc1).2.1) rfl <| O (r_load ti75 rfl (hs.cell (i := 0) rfl (vget_cell hc1))) rfl <| O (r_move (v := Value.int .u8 b1) rfl) rfl ?_
 obtain ⟨t2, ht2, hM⟩ := bindS hM
 refine O (r_remM rfl rfl ht2) rfl ?_
 obtain ⟨t3, ht3, hM⟩ := bindS hM
 refine O (r_shrM rfl rfl ht3) rfl <| O (r_and rfl rfl) rfl <| O (r_eql rfl rfl) rfl <| O (r_assign (v := Value.bool ((bits .and .u64 t3 1) == 1)) rfl) rfl <| OW_nil <| WP_ret ?_
 obtain rfl := Option.some.inj hM
 refine FL_nil hds ?_
 exact ⟨_, res1 Try.results65 (rv_tmp (v := Value.bool ((bits .and .u64 t3 1) == 1)) rfl), g0, ⟨[Value.bool ((bits .and .u64 t3 1) == 1)], rfl, rfl⟩, hs.ext⟩

set_option maxRecDepth 100000 in
theorem ref07_equivalent_ok {l1 : (List (Vec 4))} {a1 : Int} {b1 : Int} {r : Bool} (hM : M.ref07_equivalent l1 a1 b1 = some r) {g0 : Hp} {w0 : World} (hi : Imm g0 w0) {v1 : Value} (hRv1 : RdS (tVec 4 .u64) g0 v1 l1) :
    CallsV Try.prog 63 #[v1, Value.int .u8 a1, Value.int .u8 b1] w0 (fun v w' => ∃ g', (VRd tBool false g' v r) ∧ Ext g0 w0 g' w') := by
 unfold M.ref07_equivalent at hM
 have hs := Sep.start hi
 refine calls_of_WP (args := [v1, Value.int .u8 a1, Value.int .u8 b1]) Try.func63 rfl Try.ntmps63 rfl ?_
 have hds : (argEnv [v1, Value.int .u8 a1, Value.int .u8 b1]).ds = [] := rfl
 refine WP_seq <| WP_region <| O (r_assign (v := Value.bool false) rfl) rfl <| OW_nil ?_
 obtain ⟨o3, hx1, hKhx1⟩ := stepS hM
 refine WP_cut (fun E w => ∃ u9 : Unit, o3 = .next u9 ∧ ∃ (gg10 : Hp), E.ds = [] ∧ Hle g0 gg10 ∧ Go.Lx.Sep g0 w0 gg10 w []) ?_ ?_
 ·have hM := hx1
  have hag0 := Hle.refl g0
  refine WP_seq <| WP_region <| O (r_assign (v := Value.int .i64 0) rfl) rfl <| OW_nil <| WP_block <| WP_loop (fun (i5 : Int) E w => ∃ (gg14 : Hp), E 0 = v1 ∧ E 1 = Value.int .u8 a1 ∧ E 2 = Value.int .u8 b1 ∧ E 7 = Value.int .i64 i5 ∧ E.ds = [] ∧ Hle g0 gg14 ∧ Go.Lx.Sep g0 w0 gg14 w []) hM ⟨g0, rfl, rfl, rfl, rfl, hds, (Hle.refl _), hs⟩ ?_
  clear hs hM
  rintro i5 o2 E w hM ⟨gg14, hE0, hE1, hE2, hE7, hds, hlegg14, hs⟩
  obtain ⟨E, rfl⟩ := open4 (E := E) hE0 hE1 hE2 hE7
  replace hRv1 := hRv1.mono hlegg14
  have hagg14 := Hle.refl gg14
  refine WP_seq <| WP_seq <| WP_region <| O (r_move (v := Value.int .i64 i5) rfl) rfl <| O (r_move (v := v1) rfl) rfl ?_
  obtain ⟨a7, ca7, hva7⟩ := hRv1.shape
  refine O (r_lenSl (v := v1) Try.underlying74 rfl hva7) rfl <| O (r_lss rfl rfl) rfl <| OW_nil ?_
  rcases condS hM with ⟨hc11, hM⟩ | ⟨hc11, hM⟩
  ·refine WP_true rfl hc11 <| WP_skip <| WP_seq <| WP_block <| WP_seq <| WP_any (.q 0 (.q 1 (.q 2 (.q 3 (.q 4 (.q 6 (.q 7 (.q 8 (.q 9 (.q 10 (.s 5 (.s 11 (.q 12 (.leaf)))))))))))))) (SS g0 w0 gg14 []) mo (by decide +kernel) ?_
   have hs := hs.drew
   have hRv1b := hRv1
   have hS : SS g0 w0 gg14 [] _ := ⟨gg14, Hle.refl _, hs⟩
   refine A rfl hS (fun w9 ⟨g9, hle9, hs⟩ => r_move (v := v1) rfl) rfl <| A rfl hS (fun w9 ⟨g9, hle9, hs⟩ => r_move (v := Value.int .i64 i5) rfl) rfl ?_
   obtain ⟨e6, he6, hM⟩ := bindS hM
   obtain ⟨b12, ob12, cb12, hvb12, cs21, hcs21, hcb12⟩ := hRv1b.at he6
   have hcs21 : cs21 = _ := hcs21; subst hcs21
   refine A rfl hS (fun w9 ⟨g9, hle9, hs⟩ => r_idxSl Try.underlying74 ti77 (v := v1) rfl hvb12 rfl (idxL_some he6).1 (idxL_some he6).2.1) rfl <| A rfl hS (fun w9 ⟨g9, hle9, hs⟩ => r_loadEl (cs := e6.1.map (Value.int .u64)) ti77 rfl (by simp [e6.2]) (.inl rfl) (hcb12 _ (hs.imm.of_le hle9)) (v := encV .u64 e6) rfl) rfl <| A rfl hS (fun w9 ⟨g9, hle9, hs⟩ => r_move (v := Value.int .u8 a1) rfl) rfl <| A rfl hS (fun w9 ⟨g9, hle9, hs⟩ => r_move (v := v1) rfl) rfl <| A rfl hS (fun w9 ⟨g9, hle9, hs⟩ => r_move (v := Value.int .i64 i5) rfl) rfl ?_
   obtain ⟨b13, ob13, cb13, hvb13, cs22, hcs22, hcb13⟩ := hRv1b.at he6
   have hcs22 : cs22 = _ := hcs22; subst hcs22
   refine A rfl hS (fun w9 ⟨g9, hle9, hs⟩ => r_idxSl Try.underlying74 ti77 (v := v1) rfl hvb13 rfl (idxL_some he6).1 (idxL_some he6).2.1) rfl <| A rfl hS (fun w9 ⟨g9, hle9, hs⟩ => r_loadEl (cs := e6.1.map (Value.int .u64)) ti77 rfl (by simp [e6.2]) (.inl rfl) (hcb13 _ (hs.imm.of_le hle9)) (v := encV .u64 e6) rfl) rfl <| A rfl hS (fun w9 ⟨g9, hle9, hs⟩ => r_move (v := Value.int .u8 b1) rfl) rfl <| A1 rfl ?_
   obtain ⟨rv11, hrv11, hM⟩ := bindS hM
   refine C [encV .u64 e6, Value.int .u8 a1] cf65 rfl (ref07_Has_ok hrv11 hs.imm) rfl ?_
   rintro v12 wv11 ⟨gg18, hvv12, hegg18⟩
   have hlegg18 := hegg18.le hs.imm
   replace hs := hs.call hegg18
   replace hlegg14 := hlegg14.trans hlegg18
   replace hagg14 := hagg14.trans hlegg18
   obtain ⟨cs23, rfl, hcs23⟩ := hvv12
   have hcs23 : cs23 = _ := hcs23; subst hcs23
   refine OW_nil ?_
   replace hS := hS.to hagg14 hs
   refine ⟨fun _ => hS, ?_⟩
   refine A1 rfl ?_
   obtain ⟨rv12, hrv12, hM⟩ := bindS hM
   refine C [encV .u64 e6, Value.int .u8 b1] cf65 rfl (ref07_Has_ok hrv12 hs.imm) rfl ?_
   rintro v13 wv12 ⟨gg19, hvv13, hegg19⟩
   have hlegg19 := hegg19.le hs.imm
   replace hs := hs.call hegg19
   replace hlegg14 := hlegg14.trans hlegg19
   replace hagg14 := hagg14.trans hlegg19
   obtain ⟨cs24, rfl, hcs24⟩ := hvv13
   have hcs24 : cs24 = _ := hcs24; subst hcs24
   refine OW_nil ?_
   replace hS := hS.to hagg14 hs
   refine ⟨fun _ => hS, ?_⟩
   refine A rfl hS (fun w9 ⟨g9, hle9, hs⟩ => r_neqB Try.underlying4 rfl rfl) rfl <| AN ?_
   rcases condS hM with ⟨hc12, hM⟩ | ⟨hc12, hM⟩
   ·refine WP_true rfl hc12 <| WP_seq <| WP_region <| O (r_assign (v := Value.bool false) rfl) rfl <| OW_nil <| WP_ret ?_
    obtain rfl := Option.some.inj hM
    refine fun hr => ?_
    have hM := congrArg some hr
    obtain rfl := Option.some.inj hM
    have hM := hKhx1
    obtain rfl := Option.some.inj hM
    refine FL_nil hds ?_
    exact ⟨_, res1 Try.results63 (rv_tmp (v := Value.bool false) rfl), gg19, ⟨[Value.bool false], rfl, rfl⟩, hs.ext⟩
   ·refine WP_false rfl hc12 <| WP_skip <| WP_region <| O (r_move (v := Value.int .i64 i5) rfl) rfl ?_
    obtain ⟨t6, ht6, hM⟩ := bindS hM
    refine O (r_addM rfl rfl ht6) rfl <| O (r_assign (v := Value.int .i64 t6) rfl) rfl <| OW_nil ?_
    obtain rfl := Option.some.inj hM
    exact ⟨gg19, rfl, rfl, rfl, rfl, hds, hlegg14, hs⟩
  ·refine WP_false rfl hc11 <| WP_exit ?_
   obtain rfl := Option.some.inj hM
   refine fun hr => ?_
   have hM := congrArg some hr
   obtain rfl := Option.some.inj hM
   exact ⟨(), rfl, gg14, hds, hlegg14, hs⟩
 ·clear hs
  rintro E w ⟨_, rfl, gg10, hds, hlegg10, hs⟩
  have hM := hKhx1
  dsimp only [onStep] at hM
  refine WP_seq <| WP_region <| O (r_assign (v := Value.bool true) rfl) rfl <| OW_nil <| WP_ret ?_
  obtain rfl := Option.some.inj hM
  refine FL_nil hds ?_
  exact ⟨_, res1 Try.results63 (rv_tmp (v := Value.bool true) rfl), gg10, ⟨[Value.bool true], rfl, rfl⟩, hs.ext⟩

set_option maxRecDepth 100000 in
theorem ref07_Classes_ok {l1 : (List (Vec 4))} {r : (List Int)} (hM : M.ref07_Classes l1 = some r) {g0 : Hp} {w0 : World} (hi : Imm g0 w0) {v1 : Value} (hRv1 : RdS (tVec 4 .u64) g0 v1 l1) :
    CallsV Try.prog 46 #[v1] w0 (fun v w' => ∃ g' y0, (RowRel (tInt .i64) g' y0 r) ∧ Sep g0 w0 g' w' [.row v 3 (tInt .i64).sz r.length y0]) := by
 unfold M.ref07_Classes at hM
 have hs := Sep.start hi
 refine calls_of_WP (args := [v1]) Try.func46 rfl Try.ntmps46 rfl ?_
 have hds : (argEnv [v1]).ds = [] := rfl
 refine WP_seq <| WP_region <| O (r_assign (v := Value.slice none 0 0) rfl) rfl <| OW_nil <| WP_seq <| WP_region ?_
 obtain ⟨out1, hout1, hM⟩ := bindS hM
 refine OW_make (τ := (tInt .i64)) (zc := [Value.int .i64 0]) (zx := 0) Try.underlying22 ti3 rfl rfl (by decide) hs rfl rfl hout1 rfl ?_
 intro v2 wv1 xs1 hrelxs1 hs
 refine O (r_assign (v := v2) rfl) rfl <| OW_nil <| WP_seq <| WP_region <| O (r_assign (v := Value.int .i64 0) rfl) rfl <| OW_nil ?_
 obtain ⟨out56, hx10, hKhx10⟩ := bindS hM
 refine WP_cut (fun E w => ∃ (gg85 : Hp) (v51 : Value) (xs56 : List Value), E 3 = v51 ∧ E.ds = [] ∧ Hle g0 gg85 ∧ RowRel (tInt .i64) gg85 xs56 out56 ∧ Go.Lx.Sep g0 w0 gg85 w [.row v51 3 (tInt .i64).sz out56.length xs56]) ?_ ?_
 ·have hM := hx10
  have hag0 := Hle.refl g0
  refine WP_seq <| WP_region <| O (r_assign (v := Value.int .i64 0) rfl) rfl <| OW_nil <| WP_block <| WP_loop (fun (st9 : (List Int) × Int × Int) E w => match st9 with | (out75, nv9, b117) => ∃ (gg114 : Hp) (v68 : Value) (xs75 : List Value), E 0 = v1 ∧ E 3 = v68 ∧ E 4 = Value.int .i64 nv9 ∧ E 5 = Value.int .i64 b117 ∧ E.ds = [] ∧ Hle g0 gg114 ∧ RowRel (tInt .i64) gg114 xs75 out75 ∧ Go.Lx.Sep g0 w0 gg114 w [.row v68 3 (tInt .i64).sz out75.length xs75]) hM ⟨g0, v2, xs1, rfl, rfl, rfl, rfl, hds, (Hle.refl _), hrelxs1, hs⟩ ?_
  clear hs hM
  rintro ⟨out75, nv9, b117⟩ o22 E w hM ⟨gg114, v68, xs75, hE0, hE3, hE4, hE5, hds, hlegg114, hrelxs75, hs⟩
  obtain ⟨E, rfl⟩ := open4 (E := E) hE0 hE3 hE4 hE5
  replace hRv1 := hRv1.mono hlegg114
  have hagg114 := Hle.refl gg114
  refine WP_seq <| WP_seq <| WP_region <| O (r_move (v := Value.int .i64 b117) rfl) rfl <| O (r_lss rfl rfl) rfl <| OW_nil ?_
  rcases condS hM with ⟨hc136, hM⟩ | ⟨hc136, hM⟩
  ·refine WP_true rfl hc136 <| WP_skip ?_
   obtain ⟨⟨out102, nv12⟩, hx18, hKhx18⟩ := bindS hM
   refine WP_cut (fun E w => ∃ (gg156 : Hp) (v92 : Value) (xs102 : List Value), E 0 = v1 ∧ E 3 = v92 ∧ E 4 = Value.int .i64 nv12 ∧ E 5 = Value.int .i64 b117 ∧ E.ds = [] ∧ Hle gg114 gg156 ∧ RowRel (tInt .i64) gg156 xs102 out102 ∧ Go.Lx.Sep g0 w0 gg156 w [.row v92 3 (tInt .i64).sz out102.length xs102]) ?_ ?_
   ·have hM := hx18
    refine WP_block <| WP_seq <| WP_region <| O (r_move (v := v68) rfl) rfl <| O (r_move (v := Value.int .i64 b117) rfl) rfl <| O (r_move (v := Value.int .i64 nv9) rfl) rfl ?_
    obtain ⟨out103, hout103, hM⟩ := bindS hM
    obtain ⟨b161, cb161, hvb161, wv145, xs103, hstb161, hrelb161, hsb161⟩ := hs.rowPut (i := 0) rfl hrelxs75 hout103 (cs := [Value.int .i64 nv9]) rfl
    refine O (r_idxSl Try.underlying22 ti3 (v := v68) rfl hvb161 rfl (setL_some hout103).1 (setL_some hout103).2.1) rfl <| O0 (r_store ti3 rfl (v := Value.int .i64 nv9) rfl rfl hstb161) ?_
    have hs := hsb161
    refine OW_nil ?_
    obtain ⟨out107, hx19, hKhx19⟩ := bindS hM
    refine WP_cut (fun E w => ∃ (gg163 : Hp) (v96 : Value) (xs107 : List Value), E 0 = v1 ∧ E 3 = v96 ∧ E 4 = Value.int .i64 nv9 ∧ E 5 = Value.int .i64 b117 ∧ E.ds = [] ∧ Hle gg114 gg163 ∧ RowRel (tInt .i64) gg163 xs107 out107 ∧ Go.Lx.Sep g0 w0 gg163 w [.row v96 3 (tInt .i64).sz out107.length xs107]) ?_ ?_
    ·have hM := hx19
     refine WP_seq <| WP_region <| O (r_assign (v := Value.int .i64 0) rfl) rfl <| OW_nil <| WP_block <| WP_loop (fun (a71 : Int) E w => ∃ (gg166 : Hp), E 0 = v1 ∧ E 3 = v68 ∧ E 4 = Value.int .i64 nv9 ∧ E 5 = Value.int .i64 b117 ∧ E 6 = Value.int .i64 a71 ∧ E.ds = [] ∧ Hle gg114 gg166 ∧ Go.Lx.Sep g0 w0 gg166 w [.row v68 3 (tInt .i64).sz out103.length xs103]) hM ⟨gg114, rfl, rfl, rfl, rfl, rfl, hds, (Hle.refl _), hs⟩ ?_
     clear hs hM
     rintro a71 o26 E w hM ⟨gg166, hE0, hE3, hE4, hE5, hE6, hds, hlegg166, hs⟩
     obtain ⟨E, rfl⟩ := open5 (E := E) hE0 hE3 hE4 hE5 hE6
     replace hRv1 := hRv1.mono hlegg166
     replace hrelb161 := hrelb161.mono hlegg166
     have hagg166 := Hle.refl gg166
     refine WP_seq <| WP_seq <| WP_region <| O (r_move (v := Value.int .i64 a71) rfl) rfl <| O (r_move (v := Value.int .i64 b117) rfl) rfl <| O (r_lss rfl rfl) rfl <| OW_nil ?_
     rcases condS hM with ⟨hc160, hM⟩ | ⟨hc160, hM⟩
     ·refine WP_true rfl hc160 <| WP_skip <| WP_seq <| WP_block <| WP_seq <| WP_region <| O (r_move (v := v1) rfl) rfl <| O (r_move (v := Value.int .i64 a71) rfl) rfl <| O (r_conv Try.underlying3 Try.underlying5 rfl) rfl <| O (r_move (v := Value.int .i64 b117) rfl) rfl <| O (r_conv Try.underlying3 Try.underlying5 rfl) rfl ?_
      obtain ⟨rv72, hrv72, hM⟩ := bindS hM
      refine C [v1, Value.int .u8 (IntKind.u8.wrap a71), Value.int .u8 (IntKind.u8.wrap b117)] cf63 rfl (ref07_equivalent_ok hrv72 hs.imm hRv1) rfl ?_
      rintro v99 wv156 ⟨gg169, hvv99, hegg169⟩
      have hlegg169 := hegg169.le hs.imm
      replace hs := hs.call hegg169
      replace hrelb161 := hrelb161.mono hlegg169
      replace hlegg166 := hlegg166.trans hlegg169
      obtain ⟨cs154, rfl, hcs154⟩ := hvv99
      have hcs154 : cs154 = _ := hcs154; subst hcs154
      refine OW_nil ?_
      rcases condS hM with ⟨hc161, hM⟩ | ⟨hc161, hM⟩
      ·refine WP_true rfl hc161 <| WP_seq <| WP_region <| O (r_move (v := v68) rfl) rfl <| O (r_move (v := Value.int .i64 b117) rfl) rfl <| O (r_move (v := v68) rfl) rfl <| O (r_move (v := Value.int .i64 a71) rfl) rfl ?_
       obtain ⟨e83, he83, hM⟩ := bindS hM
       obtain ⟨b172, cb172, hvb172, cs155, hcs155, hcb172⟩ := hs.rowEl (i := 0) rfl hrelb161 he83
       have hcs155 : cs155 = _ := hcs155; subst hcs155
       refine O (r_idxSl Try.underlying22 ti3 (v := v68) rfl hvb172 rfl (idxL_some he83).1 (idxL_some he83).2.1) rfl <| O (r_loadEl (cs := [Value.int .i64 e83]) ti3 rfl rfl (.inr rfl) (hcb172 _ (hs.at (i := 0) rfl)) (v := Value.int .i64 e83) rfl) rfl ?_
       obtain ⟨out110, hout110, hM⟩ := bindS hM
       obtain ⟨b173, cb173, hvb173, wv157, xs110, hstb173, hrelb173, hsb173⟩ := hs.rowPut (i := 0) rfl hrelb161 hout110 (cs := [Value.int .i64 e83]) rfl
       refine O (r_idxSl Try.underlying22 ti3 (v := v68) rfl hvb173 rfl (setL_some hout110).1 (setL_some hout110).2.1) rfl <| O0 (r_store ti3 rfl (v := Value.int .i64 e83) rfl rfl hstb173) ?_
       have hs := hsb173
       refine OW_nil <| WP_exit ?_
       obtain rfl := Option.some.inj hM
       refine fun hr => ?_
       have hM := congrArg some hr
       obtain rfl := Option.some.inj hM
       exact ⟨gg169, v68, xs110, rfl, rfl, rfl, rfl, hds, hlegg166, hrelb173, hs⟩
      ·refine WP_false rfl hc161 <| WP_skip <| WP_region <| O (r_move (v := Value.int .i64 a71) rfl) rfl ?_
       obtain ⟨t88, ht88, hM⟩ := bindS hM
       refine O (r_addM rfl rfl ht88) rfl <| O (r_assign (v := Value.int .i64 t88) rfl) rfl <| OW_nil ?_
       obtain rfl := Option.some.inj hM
       exact ⟨gg169, rfl, rfl, rfl, rfl, rfl, hds, hlegg166, hs⟩
     ·refine WP_false rfl hc160 <| WP_exit ?_
      obtain rfl := Option.some.inj hM
      refine fun hr => ?_
      have hM := congrArg some hr
      obtain rfl := Option.some.inj hM
      exact ⟨gg166, v68, xs103, rfl, rfl, rfl, rfl, hds, hlegg166, hrelb161, hs⟩
    ·clear hs
     rintro E w ⟨gg163, v96, xs107, hE0, hE3, hE4, hE5, hds, hlegg163, hrelxs107, hs⟩
     have hM := hKhx19
     obtain ⟨E, rfl⟩ := open4 (E := E) hE0 hE3 hE4 hE5
     replace hagg114 := hagg114.trans hlegg163
     refine WP_seq <| WP_region <| O (r_move (v := v96) rfl) rfl <| O (r_move (v := Value.int .i64 b117) rfl) rfl ?_
     obtain ⟨e84, he84, hM⟩ := bindS hM
     obtain ⟨b174, cb174, hvb174, cs156, hcs156, hcb174⟩ := hs.rowEl (i := 0) rfl hrelxs107 he84
     have hcs156 : cs156 = _ := hcs156; subst hcs156
     refine O (r_idxSl Try.underlying22 ti3 (v := v96) rfl hvb174 rfl (idxL_some he84).1 (idxL_some he84).2.1) rfl <| O (r_loadEl (cs := [Value.int .i64 e84]) ti3 rfl rfl (.inr rfl) (hcb174 _ (hs.at (i := 0) rfl)) (v := Value.int .i64 e84) rfl) rfl <| O (r_move (v := Value.int .i64 nv9) rfl) rfl <| O (r_eql rfl rfl) rfl <| OW_nil ?_
     rcases condS hM with ⟨hc162, hM⟩ | ⟨hc162, hM⟩
     ·refine WP_true rfl hc162 <| WP_region <| O (r_move (v := Value.int .i64 nv9) rfl) rfl ?_
      obtain ⟨t89, ht89, hM⟩ := bindS hM
      refine O (r_addM rfl rfl ht89) rfl <| O (r_assign (v := Value.int .i64 t89) rfl) rfl <| OW_nil ?_
      simp only [Option.some.injEq, Prod.mk.injEq] at hM
      obtain ⟨rfl, rfl⟩ := hM
      exact ⟨gg163, v96, xs107, rfl, rfl, rfl, rfl, hds, hagg114, hrelxs107, hs⟩
     ·refine WP_false rfl hc162 <| WP_skip ?_
      simp only [Option.some.injEq, Prod.mk.injEq] at hM
      obtain ⟨rfl, rfl⟩ := hM
      exact ⟨gg163, v96, xs107, rfl, rfl, rfl, rfl, hds, hagg114, hrelxs107, hs⟩
   ·clear hs
    rintro E w ⟨gg156, v92, xs102, hE0, hE3, hE4, hE5, hds, hlegg156, hrelxs102, hs⟩
    have hM := hKhx18
    obtain ⟨E, rfl⟩ := open4 (E := E) hE0 hE3 hE4 hE5
    replace hlegg114 := hlegg114.trans hlegg156
    refine WP_region <| O (r_move (v := Value.int .i64 b117) rfl) rfl ?_
    obtain ⟨t90, ht90, hM⟩ := bindS hM
    refine O (r_addM rfl rfl ht90) rfl <| O (r_assign (v := Value.int .i64 t90) rfl) rfl <| OW_nil ?_
    obtain rfl := Option.some.inj hM
    exact ⟨gg156, v92, xs102, rfl, rfl, rfl, rfl, hds, hlegg114, hrelxs102, hs⟩
  ·refine WP_false rfl hc136 <| WP_exit ?_
   obtain rfl := Option.some.inj hM
   refine fun hr => ?_
   have hM := congrArg some hr
   obtain rfl := Option.some.inj hM
   exact ⟨gg114, v68, xs75, rfl, hds, hlegg114, hrelxs75, hs⟩
 ·clear hs
  rintro E w ⟨gg85, v51, xs56, hE3, hds, hlegg85, hrelxs56, hs⟩
  have hM := hKhx10
  obtain ⟨E, rfl⟩ := open1 (E := E) hE3
  refine WP_seq <| WP_region <| O (r_move (v := v51) rfl) rfl <| O (r_assign (v := v51) rfl) rfl <| OW_nil <| WP_ret ?_
  obtain rfl := Option.some.inj hM
  refine FL_nil hds ?_
  exact ⟨_, res1 Try.results46 (rv_tmp (v := v51) rfl), gg85, xs56, hrelxs56, hs⟩

set_option maxRecDepth 100000 in
theorem ref10_first_ok {classv1 : (List Int)} {r : (List Int)} (hM : M.ref10_first classv1 = some r) {g0 : Hp} {w0 : World} (hi : Imm g0 w0) {v1 : Value} (hRv1 : RdS (tInt .i64) g0 v1 classv1) :
    CallsV Try.prog 47 #[v1] w0 (fun v w' => ∃ g' y0, (RowRel (tInt .u8) g' y0 r) ∧ Sep g0 w0 g' w' [.row v 5 (tInt .u8).sz r.length y0]) := by
 unfold M.ref10_first at hM
 have hs := Sep.start hi
 refine calls_of_WP (args := [v1]) Try.func47 rfl Try.ntmps47 rfl ?_
 have hds : (argEnv [v1]).ds = [] := rfl
 refine WP_seq <| WP_region <| O (r_assign (v := Value.slice none 0 0) rfl) rfl <| OW_nil <| WP_seq <| WP_region <| O (r_assign (v := Value.slice none 0 0) rfl) rfl <| OW_nil ?_
 obtain ⟨xv4, hx4, hKhx4⟩ := bindS hM
 refine WP_cut (fun E w => ∃ (v20 : Value) (xs21 : List Value), E 3 = v20 ∧ E.ds = [] ∧ RowRel (tInt .u8) g0 xs21 xv4 ∧ Go.Lx.Sep g0 w0 g0 w [.row v20 5 (tInt .u8).sz xv4.length xs21]) ?_ ?_
 ·have hM := hx4
  have hag0 := Hle.refl g0
  refine WP_seq <| WP_region <| O (r_assign (v := Value.int .i64 0) rfl) rfl <| OW_nil <| WP_block ?_
  have hs := hs.nilRow 5 (tInt .u8).sz
  refine WP_loop (fun (st9 : (List Int) × Int) E w => match st9 with | (xv6, b13) => ∃ (v27 : Value) (xs30 : List Value), E 0 = v1 ∧ E 3 = v27 ∧ E 4 = Value.int .i64 b13 ∧ E.ds = [] ∧ RowRel (tInt .u8) g0 xs30 xv6 ∧ Go.Lx.Sep g0 w0 g0 w [.row v27 5 (tInt .u8).sz xv6.length xs30]) hM ⟨(Value.slice none 0 0), [], rfl, rfl, rfl, hds, RowRel.nil, hs⟩ ?_
  clear hs hM
  rintro ⟨xv6, b13⟩ o2 E w hM ⟨v27, xs30, hE0, hE3, hE4, hds, hrelxs30, hs⟩
  obtain ⟨E, rfl⟩ := open3 (E := E) hE0 hE3 hE4
  refine WP_seq <| WP_seq <| WP_region <| O (r_move (v := Value.int .i64 b13) rfl) rfl <| O (r_lss rfl rfl) rfl <| OW_nil ?_
  rcases condS hM with ⟨hc16, hM⟩ | ⟨hc16, hM⟩
  ·refine WP_true rfl hc16 <| WP_skip ?_
   obtain ⟨out11, hx7, hKhx7⟩ := bindS hM
   refine WP_cut (fun E w => ∃ (v36 : Value) (xs39 : List Value), E 0 = v1 ∧ E 3 = v36 ∧ E 4 = Value.int .i64 b13 ∧ E.ds = [] ∧ RowRel (tInt .u8) g0 xs39 out11 ∧ Go.Lx.Sep g0 w0 g0 w [.row v36 5 (tInt .u8).sz out11.length xs39]) ?_ ?_
   ·have hM := hx7
    refine WP_block <| WP_seq <| WP_region <| O (r_move (v := v1) rfl) rfl <| O (r_move (v := Value.int .i64 b13) rfl) rfl ?_
    obtain ⟨e12, he12, hM⟩ := bindS hM
    obtain ⟨b18, ob18, cb18, hvb18, cs12, hcs12, hcb18⟩ := hRv1.at he12
    have hcs12 : cs12 = _ := hcs12; subst hcs12
    refine O (r_idxSl Try.underlying22 ti3 (v := v1) rfl hvb18 rfl (idxL_some he12).1 (idxL_some he12).2.1) rfl <| O (r_loadEl (cs := [Value.int .i64 e12]) ti3 rfl rfl (.inr rfl) (hcb18 _ hs.imm) (v := Value.int .i64 e12) rfl) rfl <| O (r_move (v := v27) rfl) rfl ?_
    obtain ⟨a8, ca8, hva8⟩ := hs.rowShape (i := 0) rfl
    refine O (r_lenSl (v := v27) Try.underlying59 rfl hva8) rfl <| O (r_eql rfl rfl) rfl <| OW_nil ?_
    rcases condS hM with ⟨hc18, hM⟩ | ⟨hc18, hM⟩
    ·refine WP_true rfl hc18 <| WP_region <| O (r_move (v := v27) rfl) rfl <| O (r_move (v := Value.int .i64 b13) rfl) rfl <| O (r_conv Try.underlying3 Try.underlying5 rfl) rfl <| OW_lit (τ := (tInt .u8)) [Value.int .u8 (IntKind.u8.wrap b13)] [(IntKind.u8.wrap b13)] Try.underlying59 ti5 (by decide) hs rfl rfl rfl ⟨rfl, trivial⟩ rfl ?_
     intro v37 wv23 xs40 hrelxs40 hs
     obtain ⟨out12, hout12, hM⟩ := bindS hM
     refine OW_append Try.underlying59 ti5 rfl (by decide) (by decide) hs (i := 1) rfl hrelxs30 (v := v27) rfl (u := v37) rfl (hs.rowSrc (i := 0) rfl) hrelxs40 hout12 rfl ?_
     intro v38 wv24 xs41 hrelxs41 hs
     refine O (r_assign (v := v38) rfl) rfl <| OW_nil ?_
     obtain rfl := Option.some.inj hM
     exact ⟨v38, xs41, rfl, rfl, rfl, hds, hrelxs41, (hs.sub (.cons _ (.cons_cons _ .slnil)))⟩
    ·refine WP_false rfl hc18 <| WP_skip ?_
     obtain rfl := Option.some.inj hM
     exact ⟨v27, xs30, rfl, rfl, rfl, hds, hrelxs30, hs⟩
   ·clear hs
    rintro E w ⟨v36, xs39, hE0, hE3, hE4, hds, hrelxs39, hs⟩
    have hM := hKhx7
    obtain ⟨E, rfl⟩ := open3 (E := E) hE0 hE3 hE4
    refine WP_region <| O (r_move (v := Value.int .i64 b13) rfl) rfl ?_
    obtain ⟨t6, ht6, hM⟩ := bindS hM
    refine O (r_addM rfl rfl ht6) rfl <| O (r_assign (v := Value.int .i64 t6) rfl) rfl <| OW_nil ?_
    obtain rfl := Option.some.inj hM
    exact ⟨v36, xs39, rfl, rfl, rfl, hds, hrelxs39, hs⟩
  ·refine WP_false rfl hc16 <| WP_exit ?_
   obtain rfl := Option.some.inj hM
   refine fun hr => ?_
   have hM := congrArg some hr
   obtain rfl := Option.some.inj hM
   exact ⟨v27, xs30, rfl, hds, hrelxs30, hs⟩
 ·clear hs
  rintro E w ⟨v20, xs21, hE3, hds, hrelxs21, hs⟩
  have hM := hKhx4
  obtain ⟨E, rfl⟩ := open1 (E := E) hE3
  refine WP_seq <| WP_region <| O (r_move (v := v20) rfl) rfl <| O (r_assign (v := v20) rfl) rfl <| OW_nil <| WP_ret ?_
  obtain rfl := Option.some.inj hM
  refine FL_nil hds ?_
  exact ⟨_, res1 Try.results47 (rv_tmp (v := v20) rfl), g0, xs21, hrelxs21, hs⟩

set_option maxRecDepth 100000 in
theorem ref09_list_ok {inv1 : (List Bool)} {r : (List Int)} (hM : M.ref09_list inv1 = some r) {g0 : Hp} {w0 : World} (hi : Imm g0 w0) {v1 : Value} (hRv1 : RdS tBool g0 v1 inv1) :
    CallsV Try.prog 64 #[v1] w0 (fun v w' => ∃ g' y0, (RowRel (tInt .i64) g' y0 r) ∧ Sep g0 w0 g' w' [.row v 3 (tInt .i64).sz r.length y0]) := by
 unfold M.ref09_list at hM
 have hs := Sep.start hi
 refine calls_of_WP (args := [v1]) Try.func64 rfl Try.ntmps64 rfl ?_
 have hds : (argEnv [v1]).ds = [] := rfl
 refine WP_seq <| WP_region <| O (r_assign (v := Value.slice none 0 0) rfl) rfl <| OW_nil <| WP_seq <| WP_region <| O (r_assign (v := Value.slice none 0 0) rfl) rfl <| OW_nil ?_
 obtain ⟨xv4, hx4, hKhx4⟩ := bindS hM
 refine WP_cut (fun E w => ∃ (v20 : Value) (xs21 : List Value), E 3 = v20 ∧ E.ds = [] ∧ RowRel (tInt .i64) g0 xs21 xv4 ∧ Go.Lx.Sep g0 w0 g0 w [.row v20 3 (tInt .i64).sz xv4.length xs21]) ?_ ?_
 ·have hM := hx4
  have hag0 := Hle.refl g0
  refine WP_seq <| WP_region <| O (r_assign (v := Value.int .i64 0) rfl) rfl <| OW_nil <| WP_block ?_
  have hs := hs.nilRow 3 (tInt .i64).sz
  refine WP_loop (fun (st9 : (List Int) × Int) E w => match st9 with | (xv6, i5) => ∃ (v27 : Value) (xs30 : List Value), E 0 = v1 ∧ E 3 = v27 ∧ E 4 = Value.int .i64 i5 ∧ E.ds = [] ∧ RowRel (tInt .i64) g0 xs30 xv6 ∧ Go.Lx.Sep g0 w0 g0 w [.row v27 3 (tInt .i64).sz xv6.length xs30]) hM ⟨(Value.slice none 0 0), [], rfl, rfl, rfl, hds, RowRel.nil, hs⟩ ?_
  clear hs hM
  rintro ⟨xv6, i5⟩ o2 E w hM ⟨v27, xs30, hE0, hE3, hE4, hds, hrelxs30, hs⟩
  obtain ⟨E, rfl⟩ := open3 (E := E) hE0 hE3 hE4
  refine WP_seq <| WP_seq <| WP_region <| O (r_move (v := Value.int .i64 i5) rfl) rfl <| O (r_move (v := v1) rfl) rfl ?_
  obtain ⟨a6, ca6, hva6⟩ := hRv1.shape
  refine O (r_lenSl (v := v1) Try.underlying88 rfl hva6) rfl <| O (r_lss rfl rfl) rfl <| OW_nil ?_
  rcases condS hM with ⟨hc16, hM⟩ | ⟨hc16, hM⟩
  ·refine WP_true rfl hc16 <| WP_skip ?_
   obtain ⟨out11, hx7, hKhx7⟩ := bindS hM
   refine WP_cut (fun E w => ∃ (v36 : Value) (xs39 : List Value), E 0 = v1 ∧ E 3 = v36 ∧ E 4 = Value.int .i64 i5 ∧ E.ds = [] ∧ RowRel (tInt .i64) g0 xs39 out11 ∧ Go.Lx.Sep g0 w0 g0 w [.row v36 3 (tInt .i64).sz out11.length xs39]) ?_ ?_
   ·have hM := hx7
    refine WP_block <| WP_seq <| WP_region <| O (r_move (v := v1) rfl) rfl <| O (r_move (v := Value.int .i64 i5) rfl) rfl ?_
    obtain ⟨e12, he12, hM⟩ := bindS hM
    obtain ⟨b12, ob12, cb12, hvb12, cs12, hcs12, hcb12⟩ := hRv1.at he12
    have hcs12 : cs12 = _ := hcs12; subst hcs12
    refine O (r_idxSl Try.underlying88 ti4 (v := v1) rfl hvb12 rfl (idxL_some he12).1 (idxL_some he12).2.1) rfl <| O (r_loadEl (cs := [Value.bool e12]) ti4 rfl rfl (.inr rfl) (hcb12 _ hs.imm) (v := Value.bool e12) rfl) rfl <| OW_nil ?_
    rcases condS hM with ⟨hc18, hM⟩ | ⟨hc18, hM⟩
    ·refine WP_true rfl hc18 <| WP_region <| O (r_move (v := v27) rfl) rfl <| O (r_move (v := Value.int .i64 i5) rfl) rfl <| OW_lit (τ := (tInt .i64)) [Value.int .i64 i5] [i5] Try.underlying22 ti3 (by decide) hs rfl rfl rfl ⟨rfl, trivial⟩ rfl ?_
     intro v37 wv23 xs40 hrelxs40 hs
     obtain ⟨out12, hout12, hM⟩ := bindS hM
     refine OW_append Try.underlying22 ti3 rfl (by decide) (by decide) hs (i := 1) rfl hrelxs30 (v := v27) rfl (u := v37) rfl (hs.rowSrc (i := 0) rfl) hrelxs40 hout12 rfl ?_
     intro v38 wv24 xs41 hrelxs41 hs
     refine O (r_assign (v := v38) rfl) rfl <| OW_nil ?_
     obtain rfl := Option.some.inj hM
     exact ⟨v38, xs41, rfl, rfl, rfl, hds, hrelxs41, (hs.sub (.cons _ (.cons_cons _ .slnil)))⟩
    ·refine WP_false rfl hc18 <| WP_skip ?_
     obtain rfl := Option.some.inj hM
     exact ⟨v27, xs30, rfl, rfl, rfl, hds, hrelxs30, hs⟩
   ·clear hs
    rintro E w ⟨v36, xs39, hE0, hE3, hE4, hds, hrelxs39, hs⟩
    have hM := hKhx7
    obtain ⟨E, rfl⟩ := open3 (E := E) hE0 hE3 hE4
    refine WP_region <| O (r_move (v := Value.int .i64 i5) rfl) rfl ?_
    obtain ⟨t6, ht6, hM⟩ := bindS hM
    refine O (r_addM rfl rfl ht6) rfl <| O (r_assign (v := Value.int .i64 t6) rfl) rfl <| OW_nil ?_
    obtain rfl := Option.some.inj hM
    exact ⟨v36, xs39, rfl, rfl, rfl, hds, hrelxs39, hs⟩
  ·refine WP_false rfl hc16 <| WP_exit ?_
   obtain rfl := Option.some.inj hM
   refine fun hr => ?_
   have hM := congrArg some hr
   obtain rfl := Option.some.inj hM
   exact ⟨v27, xs30, rfl, hds, hrelxs30, hs⟩
 ·clear hs
  rintro E w ⟨v20, xs21, hE3, hds, hrelxs21, hs⟩
  have hM := hKhx4
  obtain ⟨E, rfl⟩ := open1 (E := E) hE3
  refine WP_seq <| WP_region <| O (r_move (v := v20) rfl) rfl <| O (r_assign (v := v20) rfl) rfl <| OW_nil <| WP_ret ?_
  obtain rfl := Option.some.inj hM
  refine FL_nil hds ?_
  exact ⟨_, res1 Try.results64 (rv_tmp (v := v20) rfl), g0, xs21, hrelxs21, hs⟩

set_option maxRecDepth 100000 in
theorem ref09_Closure_ok {p1 : T_NFA} {p2 : (List Int)} {r : (List Int)} (hM : M.ref09_Closure p1 p2 = some r) {g0 : Hp} {w0 : World} (hi : Imm g0 w0) {cs1 : List Value} (hcs1 : tT_NFA.rel g0 cs1 p1) {v1 : Value} (hRv1 : RdS (tInt .i64) g0 v1 p2) :
    CallsV Try.prog 48 #[Value.agg cs1.toArray, v1] w0 (fun v w' => ∃ g' y0, (RowRel (tInt .i64) g' y0 r) ∧ Sep g0 w0 g' w' [.row v 3 (tInt .i64).sz r.length y0]) := by
 unfold M.ref09_Closure at hM
 obtain ⟨cs2, cs3, cs4, cs5, rfl, hcs2, hcs3, hcs4, hcs5⟩ := hcs1
 have hcs2 : cs2 = _ := hcs2; subst hcs2
 have hcs3 : cs3 = _ := hcs3; subst hcs3
 obtain ⟨v2, rfl, hRv2⟩ := hcs4
 obtain ⟨v3, rfl, hRv3⟩ := hcs5
 have hs := Sep.start hi
 refine calls_of_WP (args := [Value.agg (List.toArray (α := Value) [Value.int .i64 p1.States, Value.int .i64 p1.Start, v2, v3]), v1]) Try.func48 rfl Try.ntmps48 rfl ?_
 have hds : (argEnv [Value.agg (List.toArray (α := Value) [Value.int .i64 p1.States, Value.int .i64 p1.Start, v2, v3]), v1]).ds = [] := rfl
 refine WP_seq <| WP_region <| OW_box (v := Value.agg (List.toArray (α := Value) [Value.int .i64 p1.States, Value.int .i64 p1.Start, v2, v3])) rfl hs (zs := [Value.int .i64 p1.States, Value.int .i64 p1.Start, v2, v3]) rfl rfl ?_
 intro b1 wv1 hs
 refine O (r_assign (v := Value.slice none 0 0) rfl) rfl <| OW_nil <| WP_seq <| WP_region <| O (r_fieldAddr Try.underlying41 ti3 rfl rfl (by decide) rfl rfl) rfl <| O (r_load (v := Value.int .i64 p1.States) ti3 rfl (hs.cell (i := 0) (o := 0) rfl rfl)) rfl ?_
 obtain ⟨l1, hl1, hM⟩ := bindS hM
 refine OW_make (τ := tBool) (zc := [Value.bool false]) (zx := false) Try.underlying88 ti4 rfl rfl (by decide) hs rfl rfl hl1 rfl ?_
 intro v4 wv2 xs1 hrelxs1 hs
 refine O (r_assign (v := v4) rfl) rfl <| OW_nil ?_
 obtain ⟨l5, hx10, hKhx10⟩ := bindS hM
 refine WP_cut (fun E w => ∃ (v11 : Value) (xs14 : List Value), E 2 = Value.pointer (some ⟨b1, 0, none⟩) ∧ E 5 = v11 ∧ E.ds = [] ∧ RowRel tBool g0 xs14 l5 ∧ Go.Lx.Sep g0 w0 g0 w [.row v11 4 tBool.sz l5.length xs14, Go.Lx.box b1 41 ([Value.int .i64 p1.States, Value.int .i64 p1.Start, v2, v3])]) ?_ ?_
 ·have hM := hx10
  have hag0 := Hle.refl g0
  refine WP_seq <| WP_region <| O (r_assign (v := Value.int .i64 0) rfl) rfl <| OW_nil <| WP_block <| WP_loop (fun (st9 : (List Bool) × Int) E w => match st9 with | (l7, xv13) => ∃ (v14 : Value) (xs19 : List Value), E 1 = v1 ∧ E 2 = Value.pointer (some ⟨b1, 0, none⟩) ∧ E 5 = v14 ∧ E 6 = Value.int .i64 xv13 ∧ E.ds = [] ∧ RowRel tBool g0 xs19 l7 ∧ Go.Lx.Sep g0 w0 g0 w [.row v14 4 tBool.sz l7.length xs19, Go.Lx.box b1 41 ([Value.int .i64 p1.States, Value.int .i64 p1.Start, v2, v3])]) hM ⟨v4, xs1, rfl, rfl, rfl, rfl, hds, hrelxs1, hs⟩ ?_
  clear hs hM
  rintro ⟨l7, xv13⟩ o2 E w hM ⟨v14, xs19, hE1, hE2, hE5, hE6, hds, hrelxs19, hs⟩
  obtain ⟨E, rfl⟩ := open4 (E := E) hE1 hE2 hE5 hE6
  refine WP_seq <| WP_seq <| WP_region <| O (r_move (v := Value.int .i64 xv13) rfl) rfl <| O (r_move (v := v1) rfl) rfl ?_
  obtain ⟨a6, ca6, hva6⟩ := hRv1.shape
  refine O (r_lenSl (v := v1) Try.underlying22 rfl hva6) rfl <| O (r_lss rfl rfl) rfl <| OW_nil ?_
  rcases condS hM with ⟨hc16, hM⟩ | ⟨hc16, hM⟩
  ·refine WP_true rfl hc16 <| WP_skip ?_
   obtain ⟨y17, hx18, hKhx18⟩ := bindS hM
   refine WP_cut (fun E w => ∃ (v17 : Value) (xs25 : List Value), E 1 = v1 ∧ E 2 = Value.pointer (some ⟨b1, 0, none⟩) ∧ E 5 = v17 ∧ E 6 = Value.int .i64 xv13 ∧ E.ds = [] ∧ RowRel tBool g0 xs25 y17 ∧ Go.Lx.Sep g0 w0 g0 w [.row v17 4 tBool.sz y17.length xs25, Go.Lx.box b1 41 ([Value.int .i64 p1.States, Value.int .i64 p1.Start, v2, v3])]) ?_ ?_
   ·have hM := hx18
    refine WP_block ?_
    obtain ⟨xv18, hx19, hKhx19⟩ := bindS hM
    refine WP_cut (fun E w => E 1 = v1 ∧ E 2 = Value.pointer (some ⟨b1, 0, none⟩) ∧ E 5 = v14 ∧ E 6 = Value.int .i64 xv13 ∧ E 32 = Value.bool xv18 ∧ E.ds = [] ∧ Go.Lx.Sep g0 w0 g0 w [.row v14 4 tBool.sz l7.length xs19, Go.Lx.box b1 41 ([Value.int .i64 p1.States, Value.int .i64 p1.Start, v2, v3])]) ?_ ?_
    ·have hM := hx19
     refine WP_draw mo (by decide +kernel) ?_
     have hs := hs.drew
     refine S (r_move (v := v1) rfl) rfl <| S (r_move (v := Value.int .i64 xv13) rfl) rfl ?_
     obtain ⟨e35, he35, hM⟩ := bindS hM
     obtain ⟨b70, ob70, cb70, hvb70, cs63, hcs63, hcb70⟩ := hRv1.at he35
     have hcs63 : cs63 = _ := hcs63; subst hcs63
     refine S (r_idxSl Try.underlying22 ti3 (v := v1) rfl hvb70 rfl (idxL_some he35).1 (idxL_some he35).2.1) rfl <| S (r_loadEl (cs := [Value.int .i64 e35]) ti3 rfl rfl (.inr rfl) (hcb70 _ hs.imm) (v := Value.int .i64 e35) rfl) rfl <| S (r_geq rfl rfl) rfl <| S (r_move (v := Value.bool (decide (0 ≤ e35))) rfl) rfl ?_
     rcases condS hM with ⟨hg24, hM⟩ | ⟨hg24, hM⟩
     ·refine SG rfl rfl rfl (by rw [hg24]; rfl) (r_move (v := v1) rfl) rfl <| SG rfl rfl rfl (by rw [hg24]; rfl) (r_move (v := Value.int .i64 xv13) rfl) rfl ?_
      obtain ⟨b71, ob71, cb71, hvb71, cs64, hcs64, hcb71⟩ := hRv1.at he35
      have hcs64 : cs64 = _ := hcs64; subst hcs64
      refine SG rfl rfl rfl (by rw [hg24]; rfl) (r_idxSl Try.underlying22 ti3 (v := v1) rfl hvb71 rfl (idxL_some he35).1 (idxL_some he35).2.1) rfl <| SG rfl rfl rfl (by rw [hg24]; rfl) (r_loadEl (cs := [Value.int .i64 e35]) ti3 rfl rfl (.inr rfl) (hcb71 _ hs.imm) (v := Value.int .i64 e35) rfl) rfl <| SG rfl rfl rfl (by rw [hg24]; rfl) (r_fieldAddr Try.underlying41 ti3 rfl rfl (by decide) rfl rfl) rfl <| SG rfl rfl rfl (by rw [hg24]; rfl) (r_load (v := Value.int .i64 p1.States) ti3 rfl (hs.cell (i := 1) (o := 0) rfl rfl)) rfl <| SG rfl rfl rfl (by rw [hg24]; rfl) (r_lss rfl rfl) rfl <| S (r_pickT (v := Value.bool (decide (e35 < p1.States))) rfl hg24 rfl) rfl <| SW_nil ?_
      obtain rfl := Option.some.inj hM
      exact ⟨rfl, rfl, rfl, rfl, rfl, hds, hs⟩
     ·refine SK rfl rfl rfl (by rw [hg24]; rfl) rfl <| SK rfl rfl rfl (by rw [hg24]; rfl) rfl <| SK rfl rfl rfl (by rw [hg24]; rfl) rfl <| SK rfl rfl rfl (by rw [hg24]; rfl) rfl <| SK rfl rfl rfl (by rw [hg24]; rfl) rfl <| SK rfl rfl rfl (by rw [hg24]; rfl) rfl <| SK rfl rfl rfl (by rw [hg24]; rfl) rfl <| S (r_pickF (v := Value.bool false) rfl hg24 rfl) rfl <| SW_nil ?_
      obtain rfl := Option.some.inj hM
      exact ⟨rfl, rfl, rfl, rfl, rfl, hds, hs⟩
    ·clear hs
     rintro E w ⟨hE1, hE2, hE5, hE6, hE32, hds, hs⟩
     have hM := hKhx19
     obtain ⟨E, rfl⟩ := open5 (E := E) hE1 hE2 hE5 hE6 hE32
     rcases condS hM with ⟨hc18, hM⟩ | ⟨hc18, hM⟩
     ·refine WP_true rfl hc18 <| WP_region <| O (r_move (v := v14) rfl) rfl <| O (r_move (v := v1) rfl) rfl <| O (r_move (v := Value.int .i64 xv13) rfl) rfl ?_
      obtain ⟨e36, he36, hM⟩ := bindS hM
      obtain ⟨b72, ob72, cb72, hvb72, cs65, hcs65, hcb72⟩ := hRv1.at he36
      have hcs65 : cs65 = _ := hcs65; subst hcs65
      refine O (r_idxSl Try.underlying22 ti3 (v := v1) rfl hvb72 rfl (idxL_some he36).1 (idxL_some he36).2.1) rfl <| O (r_loadEl (cs := [Value.int .i64 e36]) ti3 rfl rfl (.inr rfl) (hcb72 _ hs.imm) (v := Value.int .i64 e36) rfl) rfl ?_
      obtain ⟨y18, hy18, hM⟩ := bindS hM
      obtain ⟨b73, cb73, hvb73, wv14, xs26, hstb73, hrelb73, hsb73⟩ := hs.rowPut (i := 0) rfl hrelxs19 hy18 (cs := [Value.bool true]) rfl
      refine O (r_idxSl Try.underlying88 ti4 (v := v14) rfl hvb73 rfl (setL_some hy18).1 (setL_some hy18).2.1) rfl <| O0 (r_store ti4 rfl (v := Value.bool true) rfl rfl hstb73) ?_
      have hs := hsb73
      refine OW_nil ?_
      obtain rfl := Option.some.inj hM
      exact ⟨v14, xs26, rfl, rfl, rfl, rfl, hds, hrelb73, hs⟩
     ·refine WP_false rfl hc18 <| WP_skip ?_
      obtain rfl := Option.some.inj hM
      exact ⟨v14, xs19, rfl, rfl, rfl, rfl, hds, hrelxs19, hs⟩
   ·clear hs
    rintro E w ⟨v17, xs25, hE1, hE2, hE5, hE6, hds, hrelxs25, hs⟩
    have hM := hKhx18
    obtain ⟨E, rfl⟩ := open4 (E := E) hE1 hE2 hE5 hE6
    refine WP_region <| O (r_move (v := Value.int .i64 xv13) rfl) rfl ?_
    obtain ⟨t6, ht6, hM⟩ := bindS hM
    refine O (r_addM rfl rfl ht6) rfl <| O (r_assign (v := Value.int .i64 t6) rfl) rfl <| OW_nil ?_
    obtain rfl := Option.some.inj hM
    exact ⟨v17, xs25, rfl, rfl, rfl, rfl, hds, hrelxs25, hs⟩
  ·refine WP_false rfl hc16 <| WP_exit ?_
   obtain rfl := Option.some.inj hM
   refine fun hr => ?_
   have hM := congrArg some hr
   obtain rfl := Option.some.inj hM
   exact ⟨v14, xs19, rfl, rfl, hds, hrelxs19, hs⟩
 ·clear hs
  rintro E w ⟨v11, xs14, hE2, hE5, hds, hrelxs14, hs⟩
  have hM := hKhx10
  obtain ⟨E, rfl⟩ := open2 (E := E) hE2 hE5
  obtain ⟨l21, hx47, hKhx47⟩ := bindS hM
  refine WP_cut (fun E w => ∃ (v39 : Value) (xs66 : List Value), E 5 = v39 ∧ E.ds = [] ∧ RowRel tBool g0 xs66 l21 ∧ Go.Lx.Sep g0 w0 g0 w [.row v39 4 tBool.sz l21.length xs66]) ?_ ?_
  ·have hM := hx47
   have hag0 := Hle.refl g0
   refine WP_seq <| WP_region <| O (r_assign (v := Value.bool true) rfl) rfl <| OW_nil <| WP_block <| WP_loop (fun (st9 : (List Bool) × Bool) E w => match st9 with | (l26, xv83) => ∃ (v47 : Value) (xs80 : List Value), E 2 = Value.pointer (some ⟨b1, 0, none⟩) ∧ E 5 = v47 ∧ E 7 = Value.bool xv83 ∧ E.ds = [] ∧ RowRel tBool g0 xs80 l26 ∧ Go.Lx.Sep g0 w0 g0 w [.row v47 4 tBool.sz l26.length xs80, Go.Lx.box b1 41 ([Value.int .i64 p1.States, Value.int .i64 p1.Start, v2, v3])]) hM ⟨v11, xs14, rfl, rfl, rfl, hds, hrelxs14, hs⟩ ?_
   clear hs hM
   rintro ⟨l26, xv83⟩ o9 E w hM ⟨v47, xs80, hE2, hE5, hE7, hds, hrelxs80, hs⟩
   obtain ⟨E, rfl⟩ := open3 (E := E) hE2 hE5 hE7
   refine WP_seq <| WP_seq <| WP_region <| O (r_move (v := Value.bool xv83) rfl) rfl <| OW_nil ?_
   rcases condS hM with ⟨hc67, hM⟩ | ⟨hc67, hM⟩
   ·refine WP_true rfl hc67 <| WP_skip <| WP_block <| WP_seq <| WP_region <| O (r_assign (v := Value.bool false) rfl) rfl <| OW_nil <| WP_seq <| WP_region <| O (r_assign (v := Value.int .i64 0) rfl) rfl <| OW_nil <| WP_block <| WP_loop (fun (st9 : (List Bool) × Bool × Int) E w => match st9 with | (l32, xv105, xv106) => ∃ (v57 : Value) (xs98 : List Value), E 2 = Value.pointer (some ⟨b1, 0, none⟩) ∧ E 5 = v57 ∧ E 7 = Value.bool xv105 ∧ E 8 = Value.int .i64 xv106 ∧ E.ds = [] ∧ RowRel tBool g0 xs98 l32 ∧ Go.Lx.Sep g0 w0 g0 w [.row v57 4 tBool.sz l32.length xs98, Go.Lx.box b1 41 ([Value.int .i64 p1.States, Value.int .i64 p1.Start, v2, v3])]) hM ⟨v47, xs80, rfl, rfl, rfl, rfl, hds, hrelxs80, hs⟩ ?_
    clear hs hM
    rintro ⟨l32, xv105, xv106⟩ o10 E w hM ⟨v57, xs98, hE2, hE5, hE7, hE8, hds, hrelxs98, hs⟩
    obtain ⟨E, rfl⟩ := open4 (E := E) hE2 hE5 hE7 hE8
    refine WP_seq <| WP_seq <| WP_region <| O (r_move (v := Value.int .i64 xv106) rfl) rfl <| O (r_fieldAddr Try.underlying41 ti39 rfl rfl (by decide) rfl rfl) rfl <| O (r_load (v := v2) ti39 rfl (hs.cell (i := 1) (o := 2) rfl rfl)) rfl ?_
    obtain ⟨a24, ca24, hva24⟩ := hRv2.shape
    refine O (r_lenSl (v := v2) Try.underlying39 rfl hva24) rfl <| O (r_lss rfl rfl) rfl <| OW_nil ?_
    rcases condS hM with ⟨hc74, hM⟩ | ⟨hc74, hM⟩
    ·refine WP_true rfl hc74 <| WP_skip ?_
     obtain ⟨⟨y71, xv113⟩, hx73, hKhx73⟩ := bindS hM
     refine WP_cut (fun E w => ∃ (v60 : Value) (xs104 : List Value), E 2 = Value.pointer (some ⟨b1, 0, none⟩) ∧ E 5 = v60 ∧ E 7 = Value.bool xv113 ∧ E 8 = Value.int .i64 xv106 ∧ E.ds = [] ∧ RowRel tBool g0 xs104 y71 ∧ Go.Lx.Sep g0 w0 g0 w [.row v60 4 tBool.sz y71.length xs104, Go.Lx.box b1 41 ([Value.int .i64 p1.States, Value.int .i64 p1.Start, v2, v3])]) ?_ ?_
     ·have hM := hx73
      refine WP_block <| WP_seq <| WP_region <| O (r_fieldAddr Try.underlying41 ti39 rfl rfl (by decide) rfl rfl) rfl <| O (r_load (v := v2) ti39 rfl (hs.cell (i := 1) (o := 2) rfl rfl)) rfl <| O (r_move (v := Value.int .i64 xv106) rfl) rfl ?_
      obtain ⟨e212, he212, hM⟩ := bindS hM
      obtain ⟨b319, ob319, cb319, hvb319, cs381, hcs381, hcb319⟩ := hRv2.at he212
      obtain ⟨cs382, cs383, cs384, cs385, rfl, hcs382, hcs383, hcs384, hcs385⟩ := hcs381
      have hcs382 : cs382 = _ := hcs382; subst hcs382
      have hcs383 : cs383 = _ := hcs383; subst hcs383
      have hcs384 : cs384 = _ := hcs384; subst hcs384
      have hcs385 : cs385 = _ := hcs385; subst hcs385
      refine O (r_idxSl Try.underlying39 ti79 (v := v2) rfl hvb319 rfl (idxL_some he212).1 (idxL_some he212).2.1) rfl <| O (r_loadEl (cs := ([Value.int .i64 e212.From]) ++ (([Value.int .i64 e212.To]) ++ (([Value.bool e212.Epsilon]) ++ (e212.Set.1.map (Value.int .u64))))) ti79 rfl (by simp [e212.Set.2]) (.inl rfl) (hcb319 _ hs.imm) (v := Value.agg (List.toArray (α := Value) (([Value.int .i64 e212.From]) ++ (([Value.int .i64 e212.To]) ++ (([Value.bool e212.Epsilon]) ++ (e212.Set.1.map (Value.int .u64))))))) rfl) rfl <| OW_alloc ti79 hs (zs := ([Value.int .i64 0]) ++ (([Value.int .i64 0]) ++ (([Value.bool false]) ++ ((Vec.zero 4).1.map (Value.int .u64))))) rfl rfl ?_
      intro b320 wv120 hs
      refine OW_storeAll ti79 hs (i := 0) rfl rfl (v := Value.agg (List.toArray (α := Value) (([Value.int .i64 e212.From]) ++ (([Value.int .i64 e212.To]) ++ (([Value.bool e212.Epsilon]) ++ (e212.Set.1.map (Value.int .u64))))))) rfl (vs := ([Value.int .i64 e212.From]) ++ (([Value.int .i64 e212.To]) ++ (([Value.bool e212.Epsilon]) ++ (e212.Set.1.map (Value.int .u64))))) rfl (one_append (one_cons rfl one_nil) (one_append (one_cons rfl one_nil) (one_append (one_cons rfl one_nil) vec_one))) (by simp [e212.Set.2]) (by simp [e212.Set.2, (Vec.zero 4).2]) ?_
      intro wv121 hs
      refine OW_nil ?_
      obtain ⟨xv114, hx74, hKhx74⟩ := bindS hM
      refine WP_cut (fun E w => E 2 = Value.pointer (some ⟨b1, 0, none⟩) ∧ E 5 = v57 ∧ E 7 = Value.bool xv105 ∧ E 8 = Value.int .i64 xv106 ∧ E 9 = Value.pointer (some ⟨b320, 0, none⟩) ∧ E 68 = Value.bool xv114 ∧ E.ds = [] ∧ Go.Lx.Sep g0 w0 g0 w [Go.Lx.box b320 79 (([Value.int .i64 e212.From]) ++ (([Value.int .i64 e212.To]) ++ (([Value.bool e212.Epsilon]) ++ (e212.Set.1.map (Value.int .u64))))), .row v57 4 tBool.sz l32.length xs98, Go.Lx.box b1 41 ([Value.int .i64 p1.States, Value.int .i64 p1.Start, v2, v3])]) ?_ ?_
      ·have hM := hx74
       refine WP_region <| O (r_fieldAddr Try.underlying79 ti4 rfl rfl (by decide) rfl rfl) rfl <| O (r_load (v := Value.bool e212.Epsilon) ti4 rfl (hs.cell (i := 0) (o := 2) rfl (by simp [e212.Set.2]))) rfl <| O (r_move (v := Value.bool e212.Epsilon) rfl) rfl ?_
       rcases condS hM with ⟨hg167, hM⟩ | ⟨hg167, hM⟩
       ·refine OG rfl rfl rfl (by rw [hg167]; rfl) (r_move (v := v57) rfl) rfl <| OG rfl rfl rfl (by rw [hg167]; rfl) (r_fieldAddr Try.underlying79 ti3 rfl rfl (by decide) rfl rfl) rfl <| OG rfl rfl rfl (by rw [hg167]; rfl) (r_load (v := Value.int .i64 e212.From) ti3 rfl (hs.cell (i := 0) (o := 0) rfl (by simp [e212.Set.2]))) rfl ?_
        obtain ⟨e215, he215, hM⟩ := bindS hM
        obtain ⟨b323, cb323, hvb323, cs388, hcs388, hcb323⟩ := hs.rowEl (i := 1) rfl hrelxs98 he215
        have hcs388 : cs388 = _ := hcs388; subst hcs388
        refine OG rfl rfl rfl (by rw [hg167]; rfl) (r_idxSl Try.underlying88 ti4 (v := v57) rfl hvb323 rfl (idxL_some he215).1 (idxL_some he215).2.1) rfl <| OG rfl rfl rfl (by rw [hg167]; rfl) (r_loadEl (cs := [Value.bool e215]) ti4 rfl rfl (.inr rfl) (hcb323 _ (hs.at (i := 1) rfl)) (v := Value.bool e215) rfl) rfl <| O (r_pickT (v := Value.bool e215) rfl hg167 rfl) rfl <| O (r_move (v := Value.bool e215) rfl) rfl ?_
        rcases condS hM with ⟨hg168, hM⟩ | ⟨hg168, hM⟩
        ·refine OG rfl rfl rfl (by rw [hg168]; rfl) (r_move (v := v57) rfl) rfl <| OG rfl rfl rfl (by rw [hg168]; rfl) (r_fieldAddr Try.underlying79 ti3 rfl rfl (by decide) rfl rfl) rfl <| OG rfl rfl rfl (by rw [hg168]; rfl) (r_load (v := Value.int .i64 e212.To) ti3 rfl (hs.cell (i := 0) (o := 1) rfl (by simp [e212.Set.2]))) rfl ?_
         obtain ⟨e216, he216, hM⟩ := bindS hM
         obtain ⟨b324, cb324, hvb324, cs389, hcs389, hcb324⟩ := hs.rowEl (i := 1) rfl hrelxs98 he216
         have hcs389 : cs389 = _ := hcs389; subst hcs389
         refine OG rfl rfl rfl (by rw [hg168]; rfl) (r_idxSl Try.underlying88 ti4 (v := v57) rfl hvb324 rfl (idxL_some he216).1 (idxL_some he216).2.1) rfl <| OG rfl rfl rfl (by rw [hg168]; rfl) (r_loadEl (cs := [Value.bool e216]) ti4 rfl rfl (.inr rfl) (hcb324 _ (hs.at (i := 1) rfl)) (v := Value.bool e216) rfl) rfl <| OG rfl rfl rfl (by rw [hg168]; rfl) (r_not rfl) rfl <| O (r_pickT (v := Value.bool (!e216)) rfl hg168 rfl) rfl <| OW_nil ?_
         obtain rfl := Option.some.inj hM
         exact ⟨rfl, rfl, rfl, rfl, rfl, rfl, hds, hs⟩
        ·refine OK rfl rfl rfl (by rw [hg168]; rfl) rfl <| OK rfl rfl rfl (by rw [hg168]; rfl) rfl <| OK rfl rfl rfl (by rw [hg168]; rfl) rfl <| OK rfl rfl rfl (by rw [hg168]; rfl) rfl <| OK rfl rfl rfl (by rw [hg168]; rfl) rfl <| OK rfl rfl rfl (by rw [hg168]; rfl) rfl <| O (r_pickF (v := Value.bool false) rfl hg168 rfl) rfl <| OW_nil ?_
         obtain rfl := Option.some.inj hM
         exact ⟨rfl, rfl, rfl, rfl, rfl, rfl, hds, hs⟩
       ·refine OK rfl rfl rfl (by rw [hg167]; rfl) rfl <| OK rfl rfl rfl (by rw [hg167]; rfl) rfl <| OK rfl rfl rfl (by rw [hg167]; rfl) rfl <| OK rfl rfl rfl (by rw [hg167]; rfl) rfl <| OK rfl rfl rfl (by rw [hg167]; rfl) rfl <| O (r_pickF (v := Value.bool false) rfl hg167 rfl) rfl <| O (r_move (v := Value.bool false) rfl) rfl <| OK rfl rfl rfl rfl rfl <| OK rfl rfl rfl rfl rfl <| OK rfl rfl rfl rfl rfl <| OK rfl rfl rfl rfl rfl <| OK rfl rfl rfl rfl rfl <| OK rfl rfl rfl rfl rfl <| O (r_pickF (v := Value.bool false) rfl rfl rfl) rfl <| OW_nil ?_
        obtain rfl := Option.some.inj hM
        exact ⟨rfl, rfl, rfl, rfl, rfl, rfl, hds, hs⟩
      ·clear hs
       rintro E w ⟨hE2, hE5, hE7, hE8, hE9, hE68, hds, hs⟩
       have hM := hKhx74
       obtain ⟨E, rfl⟩ := open6 (E := E) hE2 hE5 hE7 hE8 hE9 hE68
       rcases condS hM with ⟨hc76, hM⟩ | ⟨hc76, hM⟩
       ·refine WP_true rfl hc76 <| WP_seq <| WP_region <| O (r_move (v := v57) rfl) rfl <| O (r_fieldAddr Try.underlying79 ti3 rfl rfl (by decide) rfl rfl) rfl <| O (r_load (v := Value.int .i64 e212.To) ti3 rfl (hs.cell (i := 0) (o := 1) rfl (by simp [e212.Set.2]))) rfl ?_
        obtain ⟨y72, hy72, hM⟩ := bindS hM
        obtain ⟨b325, cb325, hvb325, wv122, xs105, hstb325, hrelb325, hsb325⟩ := hs.rowPut (i := 1) rfl hrelxs98 hy72 (cs := [Value.bool true]) rfl
        refine O (r_idxSl Try.underlying88 ti4 (v := v57) rfl hvb325 rfl (setL_some hy72).1 (setL_some hy72).2.1) rfl <| O0 (r_store ti4 rfl (v := Value.bool true) rfl rfl hstb325) ?_
        have hs := hsb325
        refine OW_nil <| WP_region <| O (r_assign (v := Value.bool true) rfl) rfl <| OW_nil ?_
        simp only [Option.some.injEq, Prod.mk.injEq] at hM
        obtain ⟨rfl, rfl⟩ := hM
        exact ⟨v57, xs105, rfl, rfl, rfl, rfl, hds, hrelb325, (hs.sub (.cons _ (.cons_cons _ (.cons_cons _ .slnil))))⟩
       ·refine WP_false rfl hc76 <| WP_skip ?_
        simp only [Option.some.injEq, Prod.mk.injEq] at hM
        obtain ⟨rfl, rfl⟩ := hM
        exact ⟨v57, xs98, rfl, rfl, rfl, rfl, hds, hrelxs98, (hs.sub (.cons _ (.cons_cons _ (.cons_cons _ .slnil))))⟩
     ·clear hs
      rintro E w ⟨v60, xs104, hE2, hE5, hE7, hE8, hds, hrelxs104, hs⟩
      have hM := hKhx73
      obtain ⟨E, rfl⟩ := open4 (E := E) hE2 hE5 hE7 hE8
      refine WP_region <| O (r_move (v := Value.int .i64 xv106) rfl) rfl ?_
      obtain ⟨t24, ht24, hM⟩ := bindS hM
      refine O (r_addM rfl rfl ht24) rfl <| O (r_assign (v := Value.int .i64 t24) rfl) rfl <| OW_nil ?_
      obtain rfl := Option.some.inj hM
      exact ⟨v60, xs104, rfl, rfl, rfl, rfl, hds, hrelxs104, hs⟩
    ·refine WP_false rfl hc74 <| WP_exit ?_
     obtain rfl := Option.some.inj hM
     refine fun hr => ?_
     have hM := congrArg some hr
     obtain rfl := Option.some.inj hM
     exact ⟨v57, xs98, rfl, rfl, rfl, hds, hrelxs98, hs⟩
   ·refine WP_false rfl hc67 <| WP_exit ?_
    obtain rfl := Option.some.inj hM
    refine fun hr => ?_
    have hM := congrArg some hr
    obtain rfl := Option.some.inj hM
    exact ⟨v47, xs80, rfl, hds, hrelxs80, (hs.sub (.cons_cons _ (.cons _ .slnil)))⟩
  ·clear hs
   rintro E w ⟨v39, xs66, hE5, hds, hrelxs66, hs⟩
   have hM := hKhx47
   obtain ⟨E, rfl⟩ := open1 (E := E) hE5
   refine WP_seq <| WP_region <| O (r_move (v := v39) rfl) rfl ?_
   have hsL1 := hs
   obtain ⟨gg1, hlegg1, hRgg1, hs⟩ := hs.relRow (i := 0) rfl hrelxs66
   obtain ⟨rv1, hrv1, hM⟩ := bindS hM
   refine C [v39] cf64 rfl (ref09_list_ok hrv1 hs.imm hRgg1) rfl ?_
   rintro v61 wv123 ⟨gg2, xs106, hvv61, hegg2⟩
   obtain ⟨gg3, hlegg3, hs⟩ := hsL1.lentOwn hegg2
   simp only [List.cons_append, List.nil_append] at hs
   have hvv61 : RowRel (tInt .i64) gg3 xs106 rv1 := RowRel.flat (fun _ _ _ _ h => h) hvv61
   refine O (r_assign (v := v61) rfl) rfl <| OW_nil <| WP_ret ?_
   obtain rfl := Option.some.inj hM
   refine FL_nil hds ?_
   exact ⟨_, res1 Try.results48 (rv_tmp (v := v61) rfl), gg3, xs106, hvv61, (hs.sub (.cons_cons _ (.cons _ .slnil)))⟩

set_option maxRecDepth 100000 in
theorem ref09_Step_ok {p1 : T_NFA} {p2 : (List Int)} {p3 : Int} {r : (List Int)} (hM : M.ref09_Step p1 p2 p3 = some r) {g0 : Hp} {w0 : World} (hi : Imm g0 w0) {cs1 : List Value} (hcs1 : tT_NFA.rel g0 cs1 p1) {v1 : Value} (hRv1 : RdS (tInt .i64) g0 v1 p2) :
    CallsV Try.prog 49 #[Value.agg cs1.toArray, v1, Value.int .u8 p3] w0 (fun v w' => ∃ g' y0, (RowRel (tInt .i64) g' y0 r) ∧ Sep g0 w0 g' w' [.row v 3 (tInt .i64).sz r.length y0]) := by
 unfold M.ref09_Step at hM
 obtain ⟨cs2, cs3, cs4, cs5, rfl, hcs2, hcs3, hcs4, hcs5⟩ := hcs1
 have hcs2 : cs2 = _ := hcs2; subst hcs2
 have hcs3 : cs3 = _ := hcs3; subst hcs3
 obtain ⟨v2, rfl, hRv2⟩ := hcs4
 obtain ⟨v3, rfl, hRv3⟩ := hcs5
 have hs := Sep.start hi
 refine calls_of_WP (args := [Value.agg (List.toArray (α := Value) [Value.int .i64 p1.States, Value.int .i64 p1.Start, v2, v3]), v1, Value.int .u8 p3]) Try.func49 rfl Try.ntmps49 rfl ?_
 have hds : (argEnv [Value.agg (List.toArray (α := Value) [Value.int .i64 p1.States, Value.int .i64 p1.Start, v2, v3]), v1, Value.int .u8 p3]).ds = [] := rfl
 refine WP_seq <| WP_region <| OW_box (v := Value.agg (List.toArray (α := Value) [Value.int .i64 p1.States, Value.int .i64 p1.Start, v2, v3])) rfl hs (zs := [Value.int .i64 p1.States, Value.int .i64 p1.Start, v2, v3]) rfl rfl ?_
 intro b1 wv1 hs
 refine O (r_assign (v := Value.slice none 0 0) rfl) rfl <| OW_nil <| WP_seq <| WP_region <| O (r_fieldAddr Try.underlying41 ti3 rfl rfl (by decide) rfl rfl) rfl <| O (r_load (v := Value.int .i64 p1.States) ti3 rfl (hs.cell (i := 0) (o := 0) rfl rfl)) rfl ?_
 obtain ⟨l1, hl1, hM⟩ := bindS hM
 refine OW_make (τ := tBool) (zc := [Value.bool false]) (zx := false) Try.underlying88 ti4 rfl rfl (by decide) hs rfl rfl hl1 rfl ?_
 intro v4 wv2 xs1 hrelxs1 hs
 refine O (r_assign (v := v4) rfl) rfl <| OW_nil <| WP_seq <| WP_region <| O (r_loadN (cs := [Value.int .i64 p1.States, Value.int .i64 p1.Start, v2, v3]) ti41 rfl rfl (hs.cells (i := 1) rfl)) rfl <| O (r_move (v := v1) rfl) rfl ?_
 obtain ⟨rv1, hrv1, hM⟩ := bindS hM
 refine C [Value.agg (List.toArray (α := Value) [Value.int .i64 p1.States, Value.int .i64 p1.Start, v2, v3]), v1] cf48 rfl (ref09_Closure_ok hrv1 hs.imm (⟨[Value.int .i64 p1.States], [Value.int .i64 p1.Start], [v2], [v3], rfl, rfl, rfl, ⟨_, rfl, hRv2⟩, ⟨_, rfl, hRv3⟩⟩) hRv1) rfl ?_
 rintro v5 wv3 ⟨gg1, xs2, hvv5, hegg1⟩
 have hlegg1 := hegg1.ext.le hs.imm
 replace hs := hs.callOwn hegg1
 simp only [List.cons_append, List.nil_append] at hs
 replace hRv2 := hRv2.mono hlegg1
 replace hRv3 := hRv3.mono hlegg1
 replace hrelxs1 := hrelxs1.mono hlegg1
 refine O (r_assign (v := v5) rfl) rfl <| OW_nil ?_
 obtain ⟨l5, hx1, hKhx1⟩ := bindS hM
 refine WP_cut (fun E w => ∃ (v9 : Value) (xs9 : List Value), E 2 = Value.int .u8 p3 ∧ E 3 = Value.pointer (some ⟨b1, 0, none⟩) ∧ E 7 = v9 ∧ E.ds = [] ∧ RowRel tBool gg1 xs9 l5 ∧ Go.Lx.Sep g0 w0 gg1 w [.row v9 4 tBool.sz l5.length xs9, Go.Lx.box b1 41 ([Value.int .i64 p1.States, Value.int .i64 p1.Start, v2, v3])]) ?_ ?_
 ·have hM := hx1
  have hagg1 := Hle.refl gg1
  refine WP_seq <| WP_region <| O (r_assign (v := Value.int .i64 0) rfl) rfl <| OW_nil <| WP_block <| WP_loop (fun (st9 : (List Bool) × Int) E w => match st9 with | (l7, xv5) => ∃ (v11 : Value) (xs12 : List Value), E 2 = Value.int .u8 p3 ∧ E 3 = Value.pointer (some ⟨b1, 0, none⟩) ∧ E 7 = v11 ∧ E 8 = v5 ∧ E 9 = Value.int .i64 xv5 ∧ E.ds = [] ∧ RowRel tBool gg1 xs12 l7 ∧ Go.Lx.Sep g0 w0 gg1 w [.row v5 3 (tInt .i64).sz rv1.length xs2, .row v11 4 tBool.sz l7.length xs12, Go.Lx.box b1 41 ([Value.int .i64 p1.States, Value.int .i64 p1.Start, v2, v3])]) hM ⟨v4, xs1, rfl, rfl, rfl, rfl, rfl, hds, hrelxs1, hs⟩ ?_
  clear hs hM
  rintro ⟨l7, xv5⟩ o2 E w hM ⟨v11, xs12, hE2, hE3, hE7, hE8, hE9, hds, hrelxs12, hs⟩
  obtain ⟨E, rfl⟩ := open5 (E := E) hE2 hE3 hE7 hE8 hE9
  refine WP_seq <| WP_seq <| WP_region <| O (r_move (v := Value.int .i64 xv5) rfl) rfl <| O (r_move (v := v5) rfl) rfl ?_
  obtain ⟨a6, ca6, hva6⟩ := hs.rowShape (i := 0) rfl
  refine O (r_lenSl (v := v5) Try.underlying22 rfl hva6) rfl <| O (r_lss rfl rfl) rfl <| OW_nil ?_
  rcases condS hM with ⟨hc6, hM⟩ | ⟨hc6, hM⟩
  ·refine WP_true rfl hc6 <| WP_skip <| WP_seq <| WP_block <| WP_region <| O (r_move (v := v11) rfl) rfl <| O (r_move (v := v5) rfl) rfl <| O (r_move (v := Value.int .i64 xv5) rfl) rfl ?_
   obtain ⟨e6, he6, hM⟩ := bindS hM
   obtain ⟨b12, cb12, hvb12, cs11, hcs11, hcb12⟩ := hs.rowEl (i := 0) rfl hvv5 he6
   have hcs11 : cs11 = _ := hcs11; subst hcs11
   refine O (r_idxSl Try.underlying22 ti3 (v := v5) rfl hvb12 rfl (idxL_some he6).1 (idxL_some he6).2.1) rfl <| O (r_loadEl (cs := [Value.int .i64 e6]) ti3 rfl rfl (.inr rfl) (hcb12 _ (hs.at (i := 0) rfl)) (v := Value.int .i64 e6) rfl) rfl ?_
   obtain ⟨y6, hy6, hM⟩ := bindS hM
   obtain ⟨b13, cb13, hvb13, wv9, xs15, hstb13, hrelb13, hsb13⟩ := hs.rowPut (i := 1) rfl hrelxs12 hy6 (cs := [Value.bool true]) rfl
   refine O (r_idxSl Try.underlying88 ti4 (v := v11) rfl hvb13 rfl (setL_some hy6).1 (setL_some hy6).2.1) rfl <| O0 (r_store ti4 rfl (v := Value.bool true) rfl rfl hstb13) ?_
   have hs := hsb13
   refine OW_nil <| WP_region <| O (r_move (v := Value.int .i64 xv5) rfl) rfl ?_
   obtain ⟨t6, ht6, hM⟩ := bindS hM
   refine O (r_addM rfl rfl ht6) rfl <| O (r_assign (v := Value.int .i64 t6) rfl) rfl <| OW_nil ?_
   obtain rfl := Option.some.inj hM
   exact ⟨v11, xs15, rfl, rfl, rfl, rfl, rfl, hds, hrelb13, hs⟩
  ·refine WP_false rfl hc6 <| WP_exit ?_
   obtain rfl := Option.some.inj hM
   refine fun hr => ?_
   have hM := congrArg some hr
   obtain rfl := Option.some.inj hM
   exact ⟨v11, xs12, rfl, rfl, rfl, hds, hrelxs12, (hs.sub (.cons _ (.cons_cons _ (.cons_cons _ .slnil))))⟩
 ·clear hs
  rintro E w ⟨v9, xs9, hE2, hE3, hE7, hds, hrelxs9, hs⟩
  have hM := hKhx1
  obtain ⟨E, rfl⟩ := open3 (E := E) hE2 hE3 hE7
  refine WP_seq <| WP_region <| O (r_assign (v := Value.slice none 0 0) rfl) rfl <| OW_nil ?_
  obtain ⟨xv13, hx11, hKhx11⟩ := bindS hM
  refine WP_cut (fun E w => ∃ (gg26 : Hp) (v49 : Value) (xs42 : List Value), E 3 = Value.pointer (some ⟨b1, 0, none⟩) ∧ E 10 = v49 ∧ E.ds = [] ∧ Hle gg1 gg26 ∧ RowRel (tInt .i64) gg26 xs42 xv13 ∧ Go.Lx.Sep g0 w0 gg26 w [.row v49 3 (tInt .i64).sz xv13.length xs42, Go.Lx.box b1 41 ([Value.int .i64 p1.States, Value.int .i64 p1.Start, v2, v3])]) ?_ ?_
  ·have hM := hx11
   have hagg1 := Hle.refl gg1
   refine WP_seq <| WP_region <| O (r_assign (v := Value.int .i64 0) rfl) rfl <| OW_nil <| WP_block ?_
   have hs := hs.nilRow 3 (tInt .i64).sz
   refine WP_loop (fun (st9 : (List Int) × Int) E w => match st9 with | (xv16, xv17) => ∃ (gg35 : Hp) (v63 : Value) (xs54 : List Value) (v62 : Value) (xs53 : List Value), E 2 = Value.int .u8 p3 ∧ E 3 = Value.pointer (some ⟨b1, 0, none⟩) ∧ E 7 = v62 ∧ E 10 = v63 ∧ E 11 = Value.int .i64 xv17 ∧ E.ds = [] ∧ Hle gg1 gg35 ∧ RowRel (tInt .i64) gg35 xs54 xv16 ∧ RowRel tBool gg35 xs53 l5 ∧ Go.Lx.Sep g0 w0 gg35 w [.row v63 3 (tInt .i64).sz xv16.length xs54, .row v62 4 tBool.sz l5.length xs53, Go.Lx.box b1 41 ([Value.int .i64 p1.States, Value.int .i64 p1.Start, v2, v3])]) hM ⟨gg1, (Value.slice none 0 0), [], v9, xs9, rfl, rfl, rfl, rfl, rfl, hds, (Hle.refl _), RowRel.nil, hrelxs9, hs⟩ ?_
   clear hs hM
   rintro ⟨xv16, xv17⟩ o4 E w hM ⟨gg35, v63, xs54, v62, xs53, hE2, hE3, hE7, hE10, hE11, hds, hlegg35, hrelxs54, hrelxs53, hs⟩
   obtain ⟨E, rfl⟩ := open5 (E := E) hE2 hE3 hE7 hE10 hE11
   replace hRv2 := hRv2.mono hlegg35
   have hagg35 := Hle.refl gg35
   refine WP_seq <| WP_seq <| WP_region <| O (r_move (v := Value.int .i64 xv17) rfl) rfl <| O (r_fieldAddr Try.underlying41 ti39 rfl rfl (by decide) rfl rfl) rfl <| O (r_load (v := v2) ti39 rfl (hs.cell (i := 2) (o := 2) rfl rfl)) rfl ?_
   obtain ⟨a12, ca12, hva12⟩ := hRv2.shape
   refine O (r_lenSl (v := v2) Try.underlying39 rfl hva12) rfl <| O (r_lss rfl rfl) rfl <| OW_nil ?_
   rcases condS hM with ⟨hc22, hM⟩ | ⟨hc22, hM⟩
   ·refine WP_true rfl hc22 <| WP_skip ?_
    obtain ⟨y23, hx19, hKhx19⟩ := bindS hM
    refine WP_cut (fun E w => ∃ (gg47 : Hp) (v81 : Value) (xs66 : List Value) (v80 : Value) (xs65 : List Value), E 2 = Value.int .u8 p3 ∧ E 3 = Value.pointer (some ⟨b1, 0, none⟩) ∧ E 7 = v80 ∧ E 10 = v81 ∧ E 11 = Value.int .i64 xv17 ∧ E.ds = [] ∧ Hle gg35 gg47 ∧ RowRel (tInt .i64) gg47 xs66 y23 ∧ RowRel tBool gg47 xs65 l5 ∧ Go.Lx.Sep g0 w0 gg47 w [.row v81 3 (tInt .i64).sz y23.length xs66, .row v80 4 tBool.sz l5.length xs65, Go.Lx.box b1 41 ([Value.int .i64 p1.States, Value.int .i64 p1.Start, v2, v3])]) ?_ ?_
    ·have hM := hx19
     refine WP_block <| WP_seq <| WP_region <| O (r_fieldAddr Try.underlying41 ti39 rfl rfl (by decide) rfl rfl) rfl <| O (r_load (v := v2) ti39 rfl (hs.cell (i := 2) (o := 2) rfl rfl)) rfl <| O (r_move (v := Value.int .i64 xv17) rfl) rfl ?_
     obtain ⟨e40, he40, hM⟩ := bindS hM
     obtain ⟨b58, ob58, cb58, hvb58, cs111, hcs111, hcb58⟩ := hRv2.at he40
     obtain ⟨cs112, cs113, cs114, cs115, rfl, hcs112, hcs113, hcs114, hcs115⟩ := hcs111
     have hcs112 : cs112 = _ := hcs112; subst hcs112
     have hcs113 : cs113 = _ := hcs113; subst hcs113
     have hcs114 : cs114 = _ := hcs114; subst hcs114
     have hcs115 : cs115 = _ := hcs115; subst hcs115
     refine O (r_idxSl Try.underlying39 ti79 (v := v2) rfl hvb58 rfl (idxL_some he40).1 (idxL_some he40).2.1) rfl <| O (r_loadEl (cs := ([Value.int .i64 e40.From]) ++ (([Value.int .i64 e40.To]) ++ (([Value.bool e40.Epsilon]) ++ (e40.Set.1.map (Value.int .u64))))) ti79 rfl (by simp [e40.Set.2]) (.inl rfl) (hcb58 _ hs.imm) (v := Value.agg (List.toArray (α := Value) (([Value.int .i64 e40.From]) ++ (([Value.int .i64 e40.To]) ++ (([Value.bool e40.Epsilon]) ++ (e40.Set.1.map (Value.int .u64))))))) rfl) rfl <| OW_alloc ti79 hs (zs := ([Value.int .i64 0]) ++ (([Value.int .i64 0]) ++ (([Value.bool false]) ++ ((Vec.zero 4).1.map (Value.int .u64))))) rfl rfl ?_
     intro b59 wv76 hs
     refine OW_storeAll ti79 hs (i := 0) rfl rfl (v := Value.agg (List.toArray (α := Value) (([Value.int .i64 e40.From]) ++ (([Value.int .i64 e40.To]) ++ (([Value.bool e40.Epsilon]) ++ (e40.Set.1.map (Value.int .u64))))))) rfl (vs := ([Value.int .i64 e40.From]) ++ (([Value.int .i64 e40.To]) ++ (([Value.bool e40.Epsilon]) ++ (e40.Set.1.map (Value.int .u64))))) rfl (one_append (one_cons rfl one_nil) (one_append (one_cons rfl one_nil) (one_append (one_cons rfl one_nil) vec_one))) (by simp [e40.Set.2]) (by simp [e40.Set.2, (Vec.zero 4).2]) ?_
     intro wv77 hs
     refine OW_nil ?_
     obtain ⟨rv36, hx20, hKhx20⟩ := bindS hM
     refine WP_cut (fun E w => ∃ (gg49 : Hp), E 2 = Value.int .u8 p3 ∧ E 3 = Value.pointer (some ⟨b1, 0, none⟩) ∧ E 7 = v62 ∧ E 10 = v63 ∧ E 11 = Value.int .i64 xv17 ∧ E 12 = Value.pointer (some ⟨b59, 0, none⟩) ∧ E 58 = Value.bool rv36 ∧ E.ds = [] ∧ Hle gg35 gg49 ∧ Go.Lx.Sep g0 w0 gg49 w [Go.Lx.box b59 79 (([Value.int .i64 e40.From]) ++ (([Value.int .i64 e40.To]) ++ (([Value.bool e40.Epsilon]) ++ (e40.Set.1.map (Value.int .u64))))), .row v63 3 (tInt .i64).sz xv16.length xs54, .row v62 4 tBool.sz l5.length xs53, Go.Lx.box b1 41 ([Value.int .i64 p1.States, Value.int .i64 p1.Start, v2, v3])]) ?_ ?_
     ·have hM := hx20
      refine WP_region <| O (r_fieldAddr Try.underlying79 ti4 rfl rfl (by decide) rfl rfl) rfl <| O (r_load (v := Value.bool e40.Epsilon) ti4 rfl (hs.cell (i := 0) (o := 2) rfl (by simp [e40.Set.2]))) rfl <| O (r_not rfl) rfl <| O (r_move (v := Value.bool (!e40.Epsilon)) rfl) rfl ?_
      rcases condS hM with ⟨hg47, hM⟩ | ⟨hg47, hM⟩
      ·refine OG rfl rfl rfl (by rw [hg47]; rfl) (r_move (v := v62) rfl) rfl <| OG rfl rfl rfl (by rw [hg47]; rfl) (r_fieldAddr Try.underlying79 ti3 rfl rfl (by decide) rfl rfl) rfl <| OG rfl rfl rfl (by rw [hg47]; rfl) (r_load (v := Value.int .i64 e40.From) ti3 rfl (hs.cell (i := 0) (o := 0) rfl (by simp [e40.Set.2]))) rfl ?_
       obtain ⟨e42, he42, hM⟩ := bindS hM
       obtain ⟨b61, cb61, hvb61, cs118, hcs118, hcb61⟩ := hs.rowEl (i := 2) rfl hrelxs53 he42
       have hcs118 : cs118 = _ := hcs118; subst hcs118
       refine OG rfl rfl rfl (by rw [hg47]; rfl) (r_idxSl Try.underlying88 ti4 (v := v62) rfl hvb61 rfl (idxL_some he42).1 (idxL_some he42).2.1) rfl <| OG rfl rfl rfl (by rw [hg47]; rfl) (r_loadEl (cs := [Value.bool e42]) ti4 rfl rfl (.inr rfl) (hcb61 _ (hs.at (i := 2) rfl)) (v := Value.bool e42) rfl) rfl <| O (r_pickT (v := Value.bool e42) rfl hg47 rfl) rfl <| O (r_move (v := Value.bool e42) rfl) rfl ?_
       rcases condS hM with ⟨hg48, hM⟩ | ⟨hg48, hM⟩
       ·refine OG rfl rfl rfl (by rw [hg48]; rfl) (r_fieldAddr Try.underlying79 ti77 rfl rfl (by decide) rfl rfl) rfl <| OG rfl rfl rfl (by rw [hg48]; rfl) (r_loadN (cs := e40.Set.1.map (Value.int .u64)) ti77 rfl (by simp [e40.Set.2]) (hs.cellsAt (i := 0) (o := 3) rfl (by intro j u hj; exact sub_at (pre := [Value.int .i64 e40.From, Value.int .i64 e40.To, Value.bool e40.Epsilon]) (ds := e40.Set.1.map (Value.int .u64)) (post := []) rfl ((by simp)) hj))) rfl <| OG rfl rfl rfl (by rw [hg48]; rfl) (r_move (v := Value.int .u8 p3) rfl) rfl ?_
        obtain ⟨rv37, hrv37, hM⟩ := bindS hM
        refine CG rfl rfl rfl (by rw [hg48]; rfl) [encV .u64 e40.Set, Value.int .u8 p3] cf65 rfl (ref07_Has_ok hrv37 hs.imm) rfl ?_
        rintro v83 wv79 ⟨gg50, hvv83, hegg50⟩
        have hlegg50 := hegg50.le hs.imm
        replace hs := hs.call hegg50
        replace hagg35 := hagg35.trans hlegg50
        obtain ⟨cs119, rfl, hcs119⟩ := hvv83
        have hcs119 : cs119 = _ := hcs119; subst hcs119
        refine O (r_pickT (v := Value.bool rv37) rfl hg48 rfl) rfl <| OW_nil ?_
        obtain rfl := Option.some.inj hM
        exact ⟨gg50, rfl, rfl, rfl, rfl, rfl, rfl, rfl, hds, hagg35, hs⟩
       ·refine OK rfl rfl rfl (by rw [hg48]; rfl) rfl <| OK rfl rfl rfl (by rw [hg48]; rfl) rfl <| OK rfl rfl rfl (by rw [hg48]; rfl) rfl <| OK rfl rfl rfl (by rw [hg48]; rfl) rfl <| O (r_pickF (v := Value.bool false) rfl hg48 rfl) rfl <| OW_nil ?_
        obtain rfl := Option.some.inj hM
        exact ⟨gg35, rfl, rfl, rfl, rfl, rfl, rfl, rfl, hds, (Hle.refl _), hs⟩
      ·refine OK rfl rfl rfl (by rw [hg47]; rfl) rfl <| OK rfl rfl rfl (by rw [hg47]; rfl) rfl <| OK rfl rfl rfl (by rw [hg47]; rfl) rfl <| OK rfl rfl rfl (by rw [hg47]; rfl) rfl <| OK rfl rfl rfl (by rw [hg47]; rfl) rfl <| O (r_pickF (v := Value.bool false) rfl hg47 rfl) rfl <| O (r_move (v := Value.bool false) rfl) rfl <| OK rfl rfl rfl rfl rfl <| OK rfl rfl rfl rfl rfl <| OK rfl rfl rfl rfl rfl <| OK rfl rfl rfl rfl rfl <| O (r_pickF (v := Value.bool false) rfl rfl rfl) rfl <| OW_nil ?_
       obtain rfl := Option.some.inj hM
       exact ⟨gg35, rfl, rfl, rfl, rfl, rfl, rfl, rfl, hds, (Hle.refl _), hs⟩
     ·clear hs
      rintro E w ⟨gg49, hE2, hE3, hE7, hE10, hE11, hE12, hE58, hds, hlegg49, hs⟩
      have hM := hKhx20
      obtain ⟨E, rfl⟩ := open7 (E := E) hE2 hE3 hE7 hE10 hE11 hE12 hE58
      replace hrelxs54 := hrelxs54.mono hlegg49
      replace hrelxs53 := hrelxs53.mono hlegg49
      replace hagg35 := hagg35.trans hlegg49
      rcases condS hM with ⟨hc24, hM⟩ | ⟨hc24, hM⟩
      ·refine WP_true rfl hc24 <| WP_region <| O (r_move (v := v63) rfl) rfl <| O (r_fieldAddr Try.underlying79 ti3 rfl rfl (by decide) rfl rfl) rfl <| O (r_load (v := Value.int .i64 e40.To) ti3 rfl (hs.cell (i := 0) (o := 1) rfl (by simp [e40.Set.2]))) rfl <| OW_lit (τ := (tInt .i64)) [Value.int .i64 e40.To] [e40.To] Try.underlying22 ti3 (by decide) hs rfl rfl rfl ⟨rfl, trivial⟩ rfl ?_
       intro v84 wv80 xs67 hrelxs67 hs
       obtain ⟨y24, hy24, hM⟩ := bindS hM
       refine OW_append Try.underlying22 ti3 rfl (by decide) (by decide) hs (i := 2) rfl hrelxs54 (v := v63) rfl (u := v84) rfl (hs.rowSrc (i := 0) rfl) hrelxs67 hy24 rfl ?_
       intro v85 wv81 xs68 hrelxs68 hs
       refine O (r_assign (v := v85) rfl) rfl <| OW_nil ?_
       obtain rfl := Option.some.inj hM
       exact ⟨gg49, v85, xs68, v62, xs53, rfl, rfl, rfl, rfl, rfl, hds, hagg35, hrelxs68, hrelxs53, (hs.sub (.cons _ (.cons _ (.cons_cons _ (.cons_cons _ (.cons_cons _ .slnil))))))⟩
      ·refine WP_false rfl hc24 <| WP_skip ?_
       obtain rfl := Option.some.inj hM
       exact ⟨gg49, v63, xs54, v62, xs53, rfl, rfl, rfl, rfl, rfl, hds, hagg35, hrelxs54, hrelxs53, (hs.sub (.cons _ (.cons_cons _ (.cons_cons _ (.cons_cons _ .slnil)))))⟩
    ·clear hs
     rintro E w ⟨gg47, v81, xs66, v80, xs65, hE2, hE3, hE7, hE10, hE11, hds, hlegg47, hrelxs66, hrelxs65, hs⟩
     have hM := hKhx19
     obtain ⟨E, rfl⟩ := open5 (E := E) hE2 hE3 hE7 hE10 hE11
     replace hlegg35 := hlegg35.trans hlegg47
     refine WP_region <| O (r_move (v := Value.int .i64 xv17) rfl) rfl ?_
     obtain ⟨t12, ht12, hM⟩ := bindS hM
     refine O (r_addM rfl rfl ht12) rfl <| O (r_assign (v := Value.int .i64 t12) rfl) rfl <| OW_nil ?_
     obtain rfl := Option.some.inj hM
     exact ⟨gg47, v81, xs66, v80, xs65, rfl, rfl, rfl, rfl, rfl, hds, hlegg35, hrelxs66, hrelxs65, hs⟩
   ·refine WP_false rfl hc22 <| WP_exit ?_
    obtain rfl := Option.some.inj hM
    refine fun hr => ?_
    have hM := congrArg some hr
    obtain rfl := Option.some.inj hM
    exact ⟨gg35, v63, xs54, rfl, rfl, hds, hlegg35, hrelxs54, (hs.sub (.cons_cons _ (.cons _ (.cons_cons _ .slnil))))⟩
  ·clear hs
   rintro E w ⟨gg26, v49, xs42, hE3, hE10, hds, hlegg26, hrelxs42, hs⟩
   have hM := hKhx11
   obtain ⟨E, rfl⟩ := open2 (E := E) hE3 hE10
   replace hRv2 := hRv2.mono hlegg26
   replace hRv3 := hRv3.mono hlegg26
   refine WP_seq <| WP_region <| O (r_loadN (cs := [Value.int .i64 p1.States, Value.int .i64 p1.Start, v2, v3]) ti41 rfl rfl (hs.cells (i := 1) rfl)) rfl <| O (r_move (v := v49) rfl) rfl ?_
   have hsL1 := hs
   obtain ⟨gg51, hlegg51, hRgg51, hs⟩ := hs.relRow (i := 0) rfl hrelxs42
   replace hRv2 := hRv2.mono hlegg51
   replace hRv3 := hRv3.mono hlegg51
   obtain ⟨rv38, hrv38, hM⟩ := bindS hM
   refine C [Value.agg (List.toArray (α := Value) [Value.int .i64 p1.States, Value.int .i64 p1.Start, v2, v3]), v49] cf48 rfl (ref09_Closure_ok hrv38 hs.imm (⟨[Value.int .i64 p1.States], [Value.int .i64 p1.Start], [v2], [v3], rfl, rfl, rfl, ⟨_, rfl, hRv2⟩, ⟨_, rfl, hRv3⟩⟩) hRgg51) rfl ?_
   rintro v86 wv82 ⟨gg52, xs69, hvv86, hegg52⟩
   obtain ⟨gg53, hlegg53, hs⟩ := hsL1.lentOwn hegg52
   simp only [List.cons_append, List.nil_append] at hs
   have hvv86 : RowRel (tInt .i64) gg53 xs69 rv38 := RowRel.flat (fun _ _ _ _ h => h) hvv86
   refine O (r_assign (v := v86) rfl) rfl <| OW_nil <| WP_ret ?_
   obtain rfl := Option.some.inj hM
   refine FL_nil hds ?_
   exact ⟨_, res1 Try.results49 (rv_tmp (v := v86) rfl), gg53, xs69, hvv86, (hs.sub (.cons_cons _ (.cons _ (.cons _ .slnil))))⟩

set_option maxRecDepth 100000 in
theorem ref10_find_ok {l1 : (List (List Int))} {setv1 : (List Int)} {r : Int} (hM : M.ref10_find l1 setv1 = some r) {g0 : Hp} {w0 : World} (hi : Imm g0 w0) {v1 : Value} (hRv1 : RdS (tSl (tInt .i64)) g0 v1 l1) {v2 : Value} (hRv2 : RdS (tInt .i64) g0 v2 setv1) :
    CallsV Try.prog 50 #[v1, v2] w0 (fun v w' => ∃ g', (VRd (tInt .i64) false g' v r) ∧ Ext g0 w0 g' w') := by
 unfold M.ref10_find at hM
 have hs := Sep.start hi
 refine calls_of_WP (args := [v1, v2]) Try.func50 rfl Try.ntmps50 rfl ?_
 have hds : (argEnv [v1, v2]).ds = [] := rfl
 refine WP_seq <| WP_region <| O (r_assign (v := Value.int .i64 0) rfl) rfl <| OW_nil ?_
 obtain ⟨o3, hx1, hKhx1⟩ := stepS hM
 refine WP_cut (fun E w => ∃ u9 : Unit, o3 = .next u9 ∧ ∃ (gg7 : Hp), E.ds = [] ∧ Hle g0 gg7 ∧ Go.Lx.Sep g0 w0 gg7 w []) ?_ ?_
 ·have hM := hx1
  have hag0 := Hle.refl g0
  refine WP_seq <| WP_region <| O (r_assign (v := Value.int .i64 0) rfl) rfl <| OW_nil <| WP_block <| WP_loop (fun (i5 : Int) E w => ∃ (gg10 : Hp), E 0 = v1 ∧ E 1 = v2 ∧ E 5 = Value.int .i64 i5 ∧ E.ds = [] ∧ Hle g0 gg10 ∧ Go.Lx.Sep g0 w0 gg10 w []) hM ⟨g0, rfl, rfl, rfl, hds, (Hle.refl _), hs⟩ ?_
  clear hs hM
  rintro i5 o2 E w hM ⟨gg10, hE0, hE1, hE5, hds, hlegg10, hs⟩
  obtain ⟨E, rfl⟩ := open3 (E := E) hE0 hE1 hE5
  replace hRv1 := hRv1.mono hlegg10
  replace hRv2 := hRv2.mono hlegg10
  have hagg10 := Hle.refl gg10
  refine WP_seq <| WP_seq <| WP_region <| O (r_move (v := Value.int .i64 i5) rfl) rfl <| O (r_move (v := v1) rfl) rfl ?_
  obtain ⟨a6, ca6, hva6⟩ := hRv1.shape
  refine O (r_lenSl (v := v1) Try.underlying23 rfl hva6) rfl <| O (r_lss rfl rfl) rfl <| OW_nil ?_
  rcases condS hM with ⟨hc11, hM⟩ | ⟨hc11, hM⟩
  ·refine WP_true rfl hc11 <| WP_skip <| WP_seq <| WP_block <| WP_seq <| WP_region <| O (r_move (v := v1) rfl) rfl <| O (r_move (v := Value.int .i64 i5) rfl) rfl ?_
   obtain ⟨e6, he6, hM⟩ := bindS hM
   obtain ⟨b6, ob6, cb6, hvb6, cs11, hcs11, hcb6⟩ := hRv1.at he6
   obtain ⟨v13, rfl, hRv13⟩ := hcs11
   refine O (r_idxSl Try.underlying23 ti22 (v := v1) rfl hvb6 rfl (idxL_some he6).1 (idxL_some he6).2.1) rfl <| O (r_loadEl (cs := [v13]) ti22 rfl rfl (.inr rfl) (hcb6 _ hs.imm) (v := v13) rfl) rfl <| O (r_move (v := v2) rfl) rfl ?_
   obtain ⟨rv6, hrv6, hM⟩ := bindS hM
   refine C [v13, v2] cf19 rfl (ref07_Ints_ok hrv6 hs.imm hRv13 hRv2) rfl ?_
   rintro v14 wv6 ⟨gg13, hvv14, hegg13⟩
   have hlegg13 := hegg13.le hs.imm
   replace hs := hs.call hegg13
   replace hlegg10 := hlegg10.trans hlegg13
   obtain ⟨cs12, rfl, hcs12⟩ := hvv14
   have hcs12 : cs12 = _ := hcs12; subst hcs12
   refine OW_nil ?_
   rcases condS hM with ⟨hc12, hM⟩ | ⟨hc12, hM⟩
   ·refine WP_true rfl hc12 <| WP_seq <| WP_region <| O (r_move (v := Value.int .i64 i5) rfl) rfl <| O (r_assign (v := Value.int .i64 i5) rfl) rfl <| OW_nil <| WP_ret ?_
    obtain rfl := Option.some.inj hM
    refine fun hr => ?_
    have hM := congrArg some hr
    obtain rfl := Option.some.inj hM
    have hM := hKhx1
    obtain rfl := Option.some.inj hM
    refine FL_nil hds ?_
    exact ⟨_, res1 Try.results50 (rv_tmp (v := Value.int .i64 i5) rfl), gg13, ⟨[Value.int .i64 i5], rfl, rfl⟩, hs.ext⟩
   ·refine WP_false rfl hc12 <| WP_skip <| WP_region <| O (r_move (v := Value.int .i64 i5) rfl) rfl ?_
    obtain ⟨t6, ht6, hM⟩ := bindS hM
    refine O (r_addM rfl rfl ht6) rfl <| O (r_assign (v := Value.int .i64 t6) rfl) rfl <| OW_nil ?_
    obtain rfl := Option.some.inj hM
    exact ⟨gg13, rfl, rfl, rfl, hds, hlegg10, hs⟩
  ·refine WP_false rfl hc11 <| WP_exit ?_
   obtain rfl := Option.some.inj hM
   refine fun hr => ?_
   have hM := congrArg some hr
   obtain rfl := Option.some.inj hM
   exact ⟨(), rfl, gg10, hds, hlegg10, hs⟩
 ·clear hs
  rintro E w ⟨_, rfl, gg7, hds, hlegg7, hs⟩
  have hM := hKhx1
  dsimp only [onStep] at hM
  refine WP_seq <| WP_region <| O (r_assign (v := Value.int .i64 (-1)) rfl) rfl <| OW_nil <| WP_ret ?_
  obtain rfl := Option.some.inj hM
  refine FL_nil hds ?_
  exact ⟨_, res1 Try.results50 (rv_tmp (v := Value.int .i64 (-1)) rfl), gg7, ⟨[Value.int .i64 (-1)], rfl, rfl⟩, hs.ext⟩

set_option maxRecDepth 100000 in
theorem ref10_least_ok {nv1 : T_NFA} {setv1 : (List Int)} {r : Int} (hM : M.ref10_least nv1 setv1 = some r) {g0 : Hp} {w0 : World} (hi : Imm g0 w0) {cs1 : List Value} (hcs1 : tT_NFA.rel g0 cs1 nv1) {v1 : Value} (hRv1 : RdS (tInt .i64) g0 v1 setv1) :
    CallsV Try.prog 51 #[Value.agg cs1.toArray, v1] w0 (fun v w' => ∃ g', (VRd (tInt .i64) false g' v r) ∧ Ext g0 w0 g' w') := by
 unfold M.ref10_least at hM
 obtain ⟨cs2, cs3, cs4, cs5, rfl, hcs2, hcs3, hcs4, hcs5⟩ := hcs1
 have hcs2 : cs2 = _ := hcs2; subst hcs2
 have hcs3 : cs3 = _ := hcs3; subst hcs3
 obtain ⟨v2, rfl, hRv2⟩ := hcs4
 obtain ⟨v3, rfl, hRv3⟩ := hcs5
 have hs := Sep.start hi
 refine calls_of_WP (args := [Value.agg (List.toArray (α := Value) [Value.int .i64 nv1.States, Value.int .i64 nv1.Start, v2, v3]), v1]) Try.func51 rfl Try.ntmps51 rfl ?_
 have hds : (argEnv [Value.agg (List.toArray (α := Value) [Value.int .i64 nv1.States, Value.int .i64 nv1.Start, v2, v3]), v1]).ds = [] := rfl
 refine WP_seq <| WP_region <| OW_box (v := Value.agg (List.toArray (α := Value) [Value.int .i64 nv1.States, Value.int .i64 nv1.Start, v2, v3])) rfl hs (zs := [Value.int .i64 nv1.States, Value.int .i64 nv1.Start, v2, v3]) rfl rfl ?_
 intro b1 wv1 hs
 refine O (r_assign (v := Value.int .i64 0) rfl) rfl <| OW_nil <| WP_seq <| WP_region <| O (r_assign (v := Value.int .i64 (-1)) rfl) rfl <| OW_nil ?_
 obtain ⟨best7, hx10, hKhx10⟩ := bindS hM
 refine WP_cut (fun E w => E 5 = Value.int .i64 best7 ∧ E.ds = [] ∧ Go.Lx.Sep g0 w0 g0 w []) ?_ ?_
 ·have hM := hx10
  have hag0 := Hle.refl g0
  refine WP_seq <| WP_region <| O (r_assign (v := Value.int .i64 0) rfl) rfl <| OW_nil <| WP_block <| WP_loop (fun (st9 : Int × Int) E w => match st9 with | (best10, i5) => E 1 = v1 ∧ E 2 = Value.pointer (some ⟨b1, 0, none⟩) ∧ E 5 = Value.int .i64 best10 ∧ E 6 = Value.int .i64 i5 ∧ E.ds = [] ∧ Go.Lx.Sep g0 w0 g0 w [Go.Lx.box b1 41 ([Value.int .i64 nv1.States, Value.int .i64 nv1.Start, v2, v3])]) hM ⟨rfl, rfl, rfl, rfl, hds, hs⟩ ?_
  clear hs hM
  rintro ⟨best10, i5⟩ o2 E w hM ⟨hE1, hE2, hE5, hE6, hds, hs⟩
  obtain ⟨E, rfl⟩ := open4 (E := E) hE1 hE2 hE5 hE6
  refine WP_seq <| WP_seq <| WP_region <| O (r_move (v := Value.int .i64 i5) rfl) rfl <| O (r_move (v := v1) rfl) rfl ?_
  obtain ⟨a6, ca6, hva6⟩ := hRv1.shape
  refine O (r_lenSl (v := v1) Try.underlying22 rfl hva6) rfl <| O (r_lss rfl rfl) rfl <| OW_nil ?_
  rcases condS hM with ⟨hc16, hM⟩ | ⟨hc16, hM⟩
  ·refine WP_true rfl hc16 <| WP_skip ?_
   obtain ⟨best13, hx18, hKhx18⟩ := bindS hM
   refine WP_cut (fun E w => E 1 = v1 ∧ E 2 = Value.pointer (some ⟨b1, 0, none⟩) ∧ E 5 = Value.int .i64 best13 ∧ E 6 = Value.int .i64 i5 ∧ E.ds = [] ∧ Go.Lx.Sep g0 w0 g0 w [Go.Lx.box b1 41 ([Value.int .i64 nv1.States, Value.int .i64 nv1.Start, v2, v3])]) ?_ ?_
   ·have hM := hx18
    refine WP_block <| WP_seq <| WP_draw mo (by decide +kernel) ?_
    have hs := hs.drew
    refine S (r_fieldAddr Try.underlying41 ti22 rfl rfl (by decide) rfl rfl) rfl <| S (r_load (v := v3) ti22 rfl (hs.cell (i := 0) (o := 3) rfl rfl)) rfl <| S (r_move (v := v1) rfl) rfl <| S (r_move (v := Value.int .i64 i5) rfl) rfl ?_
    obtain ⟨e23, he23, hM⟩ := bindS hM
    obtain ⟨b24, ob24, cb24, hvb24, cs28, hcs28, hcb24⟩ := hRv1.at he23
    have hcs28 : cs28 = _ := hcs28; subst hcs28
    refine S (r_idxSl Try.underlying22 ti3 (v := v1) rfl hvb24 rfl (idxL_some he23).1 (idxL_some he23).2.1) rfl <| S (r_loadEl (cs := [Value.int .i64 e23]) ti3 rfl rfl (.inr rfl) (hcb24 _ hs.imm) (v := Value.int .i64 e23) rfl) rfl ?_
    obtain ⟨e24, he24, hM⟩ := bindS hM
    obtain ⟨b25, ob25, cb25, hvb25, cs29, hcs29, hcb25⟩ := hRv3.at he24
    have hcs29 : cs29 = _ := hcs29; subst hcs29
    refine S (r_idxSl Try.underlying22 ti3 (v := v3) rfl hvb25 rfl (idxL_some he24).1 (idxL_some he24).2.1) rfl <| S (r_loadEl (cs := [Value.int .i64 e24]) ti3 rfl rfl (.inr rfl) (hcb25 _ hs.imm) (v := Value.int .i64 e24) rfl) rfl <| S (r_assign (v := Value.int .i64 e24) rfl) rfl <| SW_nil ?_
    obtain ⟨xv12, hx19, hKhx19⟩ := bindS hM
    refine WP_cut (fun E w => E 1 = v1 ∧ E 2 = Value.pointer (some ⟨b1, 0, none⟩) ∧ E 5 = Value.int .i64 best10 ∧ E 6 = Value.int .i64 i5 ∧ E 7 = Value.int .i64 e24 ∧ E 32 = Value.bool xv12 ∧ E.ds = [] ∧ Go.Lx.Sep g0 w0 g0 w [Go.Lx.box b1 41 ([Value.int .i64 nv1.States, Value.int .i64 nv1.Start, v2, v3])]) ?_ ?_
    ·have hM := hx19
     refine WP_region <| O (r_move (v := Value.int .i64 e24) rfl) rfl <| O (r_geq rfl rfl) rfl <| O (r_move (v := Value.bool (decide (0 ≤ e24))) rfl) rfl ?_
     rcases condS hM with ⟨hg47, hM⟩ | ⟨hg47, hM⟩
     ·refine OG rfl rfl rfl (by rw [hg47]; rfl) (r_move (v := Value.int .i64 best10) rfl) rfl <| OG rfl rfl rfl (by rw [hg47]; rfl) (r_lss rfl rfl) rfl <| OG rfl rfl rfl (by rw [hg47]; rfl) (r_move (v := Value.bool (decide (best10 < 0))) rfl) rfl ?_
      rcases condS hM with ⟨hg48, hM⟩ | ⟨hg48, hM⟩
      ·refine OK rfl rfl rfl (by rw [hg48]; rfl) rfl <| OK rfl rfl rfl (by rw [hg48]; rfl) rfl <| OK rfl rfl rfl (by rw [hg48]; rfl) rfl <| OG rfl rfl rfl (by rw [hg47]; rfl) (r_pickT (v := Value.bool true) rfl hg48 rfl) rfl <| O (r_pickT (v := Value.bool true) rfl hg47 rfl) rfl <| OW_nil ?_
       obtain rfl := Option.some.inj hM
       exact ⟨rfl, rfl, rfl, rfl, rfl, rfl, hds, hs⟩
      ·refine OG rfl rfl rfl (by rw [hg48]; rfl) (r_move (v := Value.int .i64 e24) rfl) rfl <| OG rfl rfl rfl (by rw [hg48]; rfl) (r_move (v := Value.int .i64 best10) rfl) rfl <| OG rfl rfl rfl (by rw [hg48]; rfl) (r_lss rfl rfl) rfl <| OG rfl rfl rfl (by rw [hg47]; rfl) (r_pickF (v := Value.bool (decide (e24 < best10))) rfl hg48 rfl) rfl <| O (r_pickT (v := Value.bool (decide (e24 < best10))) rfl hg47 rfl) rfl <| OW_nil ?_
       obtain rfl := Option.some.inj hM
       exact ⟨rfl, rfl, rfl, rfl, rfl, rfl, hds, hs⟩
     ·refine OK rfl rfl rfl (by rw [hg47]; rfl) rfl <| OK rfl rfl rfl (by rw [hg47]; rfl) rfl <| OK rfl rfl rfl (by rw [hg47]; rfl) rfl <| OKU rfl rfl rfl rfl <| OKU rfl rfl rfl rfl <| OKU rfl rfl rfl rfl <| OK rfl rfl rfl (by rw [hg47]; rfl) rfl <| O (r_pickF (v := Value.bool false) rfl hg47 rfl) rfl <| OW_nil ?_
      obtain rfl := Option.some.inj hM
      exact ⟨rfl, rfl, rfl, rfl, rfl, rfl, hds, hs⟩
    ·clear hs
     rintro E w ⟨hE1, hE2, hE5, hE6, hE7, hE32, hds, hs⟩
     have hM := hKhx19
     obtain ⟨E, rfl⟩ := open6 (E := E) hE1 hE2 hE5 hE6 hE7 hE32
     rcases condS hM with ⟨hc18, hM⟩ | ⟨hc18, hM⟩
     ·refine WP_true rfl hc18 <| WP_region <| O (r_move (v := Value.int .i64 e24) rfl) rfl <| O (r_assign (v := Value.int .i64 e24) rfl) rfl <| OW_nil ?_
      obtain rfl := Option.some.inj hM
      exact ⟨rfl, rfl, rfl, rfl, hds, hs⟩
     ·refine WP_false rfl hc18 <| WP_skip ?_
      obtain rfl := Option.some.inj hM
      exact ⟨rfl, rfl, rfl, rfl, hds, hs⟩
   ·clear hs
    rintro E w ⟨hE1, hE2, hE5, hE6, hds, hs⟩
    have hM := hKhx18
    obtain ⟨E, rfl⟩ := open4 (E := E) hE1 hE2 hE5 hE6
    refine WP_region <| O (r_move (v := Value.int .i64 i5) rfl) rfl ?_
    obtain ⟨t6, ht6, hM⟩ := bindS hM
    refine O (r_addM rfl rfl ht6) rfl <| O (r_assign (v := Value.int .i64 t6) rfl) rfl <| OW_nil ?_
    obtain rfl := Option.some.inj hM
    exact ⟨rfl, rfl, rfl, rfl, hds, hs⟩
  ·refine WP_false rfl hc16 <| WP_exit ?_
   obtain rfl := Option.some.inj hM
   refine fun hr => ?_
   have hM := congrArg some hr
   obtain rfl := Option.some.inj hM
   exact ⟨rfl, hds, (hs.sub (.cons _ .slnil))⟩
 ·clear hs
  rintro E w ⟨hE5, hds, hs⟩
  have hM := hKhx10
  obtain ⟨E, rfl⟩ := open1 (E := E) hE5
  refine WP_seq <| WP_region <| O (r_move (v := Value.int .i64 best7) rfl) rfl <| O (r_assign (v := Value.int .i64 best7) rfl) rfl <| OW_nil <| WP_ret ?_
  obtain rfl := Option.some.inj hM
  refine FL_nil hds ?_
  exact ⟨_, res1 Try.results51 (rv_tmp (v := Value.int .i64 best7) rfl), g0, ⟨[Value.int .i64 best7], rfl, rfl⟩, hs.ext⟩


end Go.Proofs.Ytogpainomdfpnaa
