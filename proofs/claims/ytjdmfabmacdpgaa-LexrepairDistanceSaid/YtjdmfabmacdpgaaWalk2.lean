/- The walks: what each function does is what its model says. Printed by a program of my own. -/
import Derived.Test.YtjdmfabmacdpgaaTyp
import Derived.Test.YtjdmfabmacdpgaaWalk1
set_option linter.unusedVariables false
set_option linter.unusedSimpArgs false
namespace Go.Proofs.Ytjdmfabmacdpgaa
open Go.Lx Go.RowKit
def C.regex_Derive (fl : Nat) : Prop := ∀ {p1 : T_Regex} {p2 : Int} {r : T_Regex} (_ : M.regex_Derive fl p1 p2 = some r) {g0 : Hp} {w0 : World} (hi : Imm g0 w0) {cs1 : List Value} (hcs1 : tT_Regex.rel g0 cs1 p1),
    CallsV Try.prog 25 #[Value.agg cs1.toArray, Value.int .u8 p2] w0 (fun v w' => ∃ g', (VRd tT_Regex true g' v r) ∧ Ext g0 w0 g' w')
set_option maxRecDepth 100000 in
theorem regex_Derive_step {fl : Nat} (ih_regex_Derive : C.regex_Derive fl) : C.regex_Derive (fl + 1) := by
 intro p1 p2 r hM g0 w0 hi cs1 hcs1
 unfold M.regex_Derive at hM
 obtain ⟨cs2, cs3, cs4, rfl, hcs2, hcs3, hcs4⟩ := tT_Regex_iff.1 hcs1
 have hcs2 : cs2 = _ := hcs2; subst hcs2
 have hcs3 : cs3 = _ := hcs3; subst hcs3
 obtain ⟨v1, rfl, hRv1⟩ := hcs4
 have hs := Sep.start hi
 refine calls_of_WP (args := [Value.agg (List.toArray (α := Value) (([Value.int .i64 p1.Kind]) ++ ((p1.Set.1.map (Value.int .u64)) ++ ([v1])))), Value.int .u8 p2]) Try.func25 rfl Try.ntmps25 rfl ?_
 have hds : (argEnv [Value.agg (List.toArray (α := Value) (([Value.int .i64 p1.Kind]) ++ ((p1.Set.1.map (Value.int .u64)) ++ ([v1])))), Value.int .u8 p2]).ds = [] := rfl
 refine WP_seq <| WP_region <| OW_box (v := Value.agg (List.toArray (α := Value) (([Value.int .i64 p1.Kind]) ++ ((p1.Set.1.map (Value.int .u64)) ++ ([v1]))))) rfl hs (zs := ([Value.int .i64 p1.Kind]) ++ ((p1.Set.1.map (Value.int .u64)) ++ ([v1]))) rfl rfl ?_
 intro b1 wv1 hs
 refine OW_alloc ti54 hs (zs := ([Value.int .i64 0]) ++ (((Vec.zero 4).1.map (Value.int .u64)) ++ ([Value.slice none 0 0]))) rfl rfl ?_
 intro b2 wv2 hs
 refine OW_nil ?_
 obtain ⟨o9, hx3, hKhx3⟩ := stepS hM
 refine WP_cut (fun E w => ∃ u9 : Unit, o9 = .next u9 ∧ ∃ (gg53 : Hp), E 4 = Value.pointer (some ⟨b2, 0, none⟩) ∧ E.ds = [] ∧ Hle g0 gg53 ∧ Go.Lx.Sep g0 w0 gg53 w [Go.Lx.box b2 54 (([Value.int .i64 0]) ++ (((Vec.zero 4).1.map (Value.int .u64)) ++ ([Value.slice none 0 0])))]) ?_ ?_
 ·have hM := hx3
  have hag0 := Hle.refl g0
  refine WP_seq <| WP_region <| O (r_fieldAddr Try.underlying54 ti3 rfl rfl (by decide) rfl rfl) rfl <| O (r_load (v := Value.int .i64 p1.Kind) ti3 rfl (hs.cell (i := 1) (o := 0) rfl (by simp [p1.Set.2]))) rfl <| OW_nil <| WP_block <| WP_seq <| WP_region <| O (r_eql rfl rfl) rfl <| O (r_assign (v := Value.bool (p1.Kind == 3)) rfl) rfl <| OW_nil ?_
  rcases condS hM with ⟨hc24, hM⟩ | ⟨hc24, hM⟩
  ·refine WP_true rfl hc24 <| WP_seq <| WP_region <| O (r_fieldAddr Try.underlying54 ti51 rfl rfl (by decide) rfl rfl) rfl <| O (r_loadN (cs := p1.Set.1.map (Value.int .u64)) ti51 rfl (by simp [p1.Set.2]) (hs.cellsAt (i := 1) (o := 1) rfl (by intro j u hj; exact sub_at (pre := [Value.int .i64 p1.Kind]) (ds := p1.Set.1.map (Value.int .u64)) (post := [v1]) rfl ((by simp)) hj))) rfl <| O (r_move (v := Value.int .u8 p2) rfl) rfl ?_
   obtain ⟨rv30, hrv30, hM⟩ := bindS hM
   refine C [encV .u64 p1.Set, Value.int .u8 p2] cf32 rfl (byteset_Has_ok hrv30 hs.imm) rfl ?_
   rintro v123 wv97 ⟨gg54, hvv123, hegg54⟩
   have hlegg54 := hegg54.le hs.imm
   replace hs := hs.call hegg54
   replace hag0 := hag0.trans hlegg54
   obtain ⟨cs152, rfl, hcs152⟩ := hvv123
   have hcs152 : cs152 = _ := hcs152; subst hcs152
   refine OW_nil ?_
   rcases condS hM with ⟨hc25, hM⟩ | ⟨hc25, hM⟩
   ·refine WP_true rfl hc25 <| WP_seq <| WP_region <| O (r_build (vs := [(0, Value.int .i64 2)]) (cs := ([Value.int .i64 2]) ++ (((Vec.zero 4).1.map (Value.int .u64)) ++ ([Value.slice none 0 0]))) rfl (built_fill [(0, 1), (1, 4), (5, 1)] (([Value.int .i64 0]) ++ (((Vec.zero 4).1.map (Value.int .u64)) ++ ([Value.slice none 0 0]))) (fun _ => by kernel_rfl) (fill_step ([]) ([Value.int .i64 0]) (((Vec.zero 4).1.map (Value.int .u64)) ++ ([Value.slice none 0 0])) ([Value.int .i64 2]) rfl (by simp) rfl rfl rfl rfl <| fill_done))) rfl <| OW_storeAll ti54 hs (i := 0) rfl rfl (v := Value.agg (List.toArray (α := Value) (([Value.int .i64 2]) ++ (((Vec.zero 4).1.map (Value.int .u64)) ++ ([Value.slice none 0 0]))))) rfl (vs := ([Value.int .i64 2]) ++ (((Vec.zero 4).1.map (Value.int .u64)) ++ ([Value.slice none 0 0]))) rfl (one_append (one_cons rfl one_nil) (one_append vec_one (one_cons rfl one_nil))) (by simp [(Vec.zero 4).2]) (by simp [(Vec.zero 4).2, (Vec.zero 4).2]) ?_
    intro wv98 hs
    refine OW_nil <| WP_ret ?_
    obtain rfl := Option.some.inj hM
    have hM := hKhx3
    obtain rfl := Option.some.inj hM
    refine FL_nil hds ?_
    exact ⟨_, res1 Try.results25 (rv_cells (vs := ([Value.int .i64 2]) ++ (((Vec.zero 4).1.map (Value.int .u64)) ++ ([Value.slice none 0 0]))) ti54 rfl (by simp [(Vec.zero 4).2]) (hs.cells (i := 0) rfl)), gg54, ⟨([Value.int .i64 2]) ++ (((Vec.zero 4).1.map (Value.int .u64)) ++ ([Value.slice none 0 0])), rfl, (tT_Regex_iff.2 ⟨[Value.int .i64 2], (Vec.zero 4).1.map (Value.int .u64), [Value.slice none 0 0], rfl, rfl, rfl, ⟨_, rfl, RdS.nil⟩⟩)⟩, hs.ext⟩
   ·refine WP_false rfl hc25 <| WP_skip ?_
    obtain rfl := Option.some.inj hM
    exact ⟨(), rfl, gg54, rfl, hds, hag0, (hs.sub (.cons_cons _ (.cons _ .slnil)))⟩
  ·refine WP_false rfl hc24 <| WP_seq <| WP_region <| O (r_eql rfl rfl) rfl <| O (r_assign (v := Value.bool (p1.Kind == 4)) rfl) rfl <| OW_nil ?_
   rcases condS hM with ⟨hc26, hM⟩ | ⟨hc26, hM⟩
   ·refine WP_true rfl hc26 <| WP_seq <| WP_region <| O (r_assign (v := Value.slice none 0 0) rfl) rfl <| OW_nil ?_
    obtain ⟨y26, hx4, hKhx4⟩ := bindS hM
    refine WP_cut (fun E w => ∃ (gg70 : Hp) (v160 : Value) (xs81 : List Value), E 4 = Value.pointer (some ⟨b2, 0, none⟩) ∧ E 5 = v160 ∧ E.ds = [] ∧ Hle g0 gg70 ∧ RowRel tT_Regex gg70 xs81 y26 ∧ Go.Lx.Sep g0 w0 gg70 w [.row v160 54 tT_Regex.sz y26.length xs81, Go.Lx.box b2 54 (([Value.int .i64 0]) ++ (((Vec.zero 4).1.map (Value.int .u64)) ++ ([Value.slice none 0 0])))]) ?_ ?_
    ·have hM := hx4
     refine WP_seq <| WP_region <| O (r_fieldAddr Try.underlying54 ti52 rfl rfl (by decide) rfl rfl) rfl <| O (r_load (v := v1) ti52 rfl (hs.cell (i := 1) (o := 5) rfl (by simp [p1.Set.2]))) rfl ?_
     obtain ⟨a6, ca6, hva6⟩ := hRv1.shape
     refine O (r_lenSl (v := v1) Try.underlying52 rfl hva6) rfl <| O (r_move (v := Value.int .i64 0) rfl) rfl <| OW_nil <| WP_block ?_
     have hs := hs.nilRow 54 tT_Regex.sz
     refine WP_loop (fun (st9 : (List T_Regex) × Int) E w => match st9 with | (xv34, xv35) => ∃ (gg76 : Hp) (v173 : Value) (xs89 : List Value), E 1 = Value.int .u8 p2 ∧ E 2 = Value.pointer (some ⟨b1, 0, none⟩) ∧ E 4 = Value.pointer (some ⟨b2, 0, none⟩) ∧ E 5 = v173 ∧ E 23 = v1 ∧ E 24 = Value.int .i64 (p1.Kids.length : Int) ∧ E 25 = Value.int .i64 xv35 ∧ E.ds = [] ∧ Hle g0 gg76 ∧ RowRel tT_Regex gg76 xs89 xv34 ∧ Go.Lx.Sep g0 w0 gg76 w [.row v173 54 tT_Regex.sz xv34.length xs89, Go.Lx.box b2 54 (([Value.int .i64 0]) ++ (((Vec.zero 4).1.map (Value.int .u64)) ++ ([Value.slice none 0 0]))), Go.Lx.box b1 54 (([Value.int .i64 p1.Kind]) ++ ((p1.Set.1.map (Value.int .u64)) ++ ([v1])))]) hM ⟨g0, (Value.slice none 0 0), [], rfl, rfl, rfl, rfl, rfl, rfl, rfl, hds, (Hle.refl _), RowRel.nil, hs⟩ ?_
     clear hs hM
     rintro ⟨xv34, xv35⟩ o6 E w hM ⟨gg76, v173, xs89, hE1, hE2, hE4, hE5, hE23, hE24, hE25, hds, hlegg76, hrelxs89, hs⟩
     obtain ⟨E, rfl⟩ := open7 (E := E) hE1 hE2 hE4 hE5 hE23 hE24 hE25
     replace hRv1 := hRv1.mono hlegg76
     have hagg76 := Hle.refl gg76
     refine WP_seq <| WP_region <| O (r_lss rfl rfl) rfl <| OW_nil <| WP_seq ?_
     rcases condS hM with ⟨hc37, hM⟩ | ⟨hc37, hM⟩
     ·refine WP_true rfl hc37 <| WP_skip <| WP_seq <| WP_block <| WP_seq <| WP_region <| O (r_move (v := Value.int .i64 xv35) rfl) rfl ?_
      obtain ⟨e19, he19, hM⟩ := bindS hM
      obtain ⟨b38, ob38, cb38, hvb38, cs218, hcs218, hcb38⟩ := hRv1.at he19
      obtain ⟨cs219, cs220, cs221, rfl, hcs219, hcs220, hcs221⟩ := tT_Regex_iff.1 hcs218
      have hcs219 : cs219 = _ := hcs219; subst hcs219
      have hcs220 : cs220 = _ := hcs220; subst hcs220
      obtain ⟨v186, rfl, hRv186⟩ := hcs221
      refine O (r_idxSl Try.underlying52 ti54 (v := v1) rfl hvb38 rfl (idxL_some he19).1 (idxL_some he19).2.1) rfl <| O (r_loadEl (cs := ([Value.int .i64 e19.Kind]) ++ ((e19.Set.1.map (Value.int .u64)) ++ ([v186]))) ti54 rfl (by simp [e19.Set.2]) (.inl rfl) (hcb38 _ hs.imm) (v := Value.agg (List.toArray (α := Value) (([Value.int .i64 e19.Kind]) ++ ((e19.Set.1.map (Value.int .u64)) ++ ([v186]))))) rfl) rfl <| OW_alloc ti54 hs (zs := ([Value.int .i64 0]) ++ (((Vec.zero 4).1.map (Value.int .u64)) ++ ([Value.slice none 0 0]))) rfl rfl ?_
      intro b39 wv144 hs
      refine O (r_assign (v := Value.int .i64 xv35) rfl) rfl <| OW_storeAll ti54 hs (i := 0) rfl rfl (v := Value.agg (List.toArray (α := Value) (([Value.int .i64 e19.Kind]) ++ ((e19.Set.1.map (Value.int .u64)) ++ ([v186]))))) rfl (vs := ([Value.int .i64 e19.Kind]) ++ ((e19.Set.1.map (Value.int .u64)) ++ ([v186]))) rfl (one_append (one_cons rfl one_nil) (one_append vec_one (one_cons (by obtain ⟨_, _, h9⟩ := hRv186.shape; rw [h9]; rfl) one_nil))) (by simp [e19.Set.2]) (by simp [e19.Set.2, (Vec.zero 4).2]) ?_
      intro wv145 hs
      refine OW_nil <| WP_seq <| WP_any (.q 0 (.q 1 (.q 2 (.q 5 (.q 6 (.q 7 (.q 8 (.q 9 (.s 3 (.s 4 (.s 10 (.s 11 (.s 12 (.s 13 (.q 14 (.leaf)))))))))))))))) (SS g0 w0 gg76 [Go.Lx.box b39 54 (([Value.int .i64 e19.Kind]) ++ ((e19.Set.1.map (Value.int .u64)) ++ ([v186]))), .row v173 54 tT_Regex.sz xv34.length xs89, Go.Lx.box b2 54 (([Value.int .i64 0]) ++ (((Vec.zero 4).1.map (Value.int .u64)) ++ ([Value.slice none 0 0]))), Go.Lx.box b1 54 (([Value.int .i64 p1.Kind]) ++ ((p1.Set.1.map (Value.int .u64)) ++ ([v1])))]) mo (by decide +kernel) ?_
      have hs := hs.drew
      have hS : SS g0 w0 gg76 [Go.Lx.box b39 54 (([Value.int .i64 e19.Kind]) ++ ((e19.Set.1.map (Value.int .u64)) ++ ([v186]))), .row v173 54 tT_Regex.sz xv34.length xs89, Go.Lx.box b2 54 (([Value.int .i64 0]) ++ (((Vec.zero 4).1.map (Value.int .u64)) ++ ([Value.slice none 0 0]))), Go.Lx.box b1 54 (([Value.int .i64 p1.Kind]) ++ ((p1.Set.1.map (Value.int .u64)) ++ ([v1])))] _ := ⟨gg76, Hle.refl _, hs⟩
      refine A rfl hS (fun w9 ⟨g9, hle9, hs⟩ => r_move (v := v173) rfl) rfl <| A rfl hS (fun w9 ⟨g9, hle9, hs⟩ => r_loadN (cs := ([Value.int .i64 e19.Kind]) ++ ((e19.Set.1.map (Value.int .u64)) ++ ([v186]))) ti54 rfl (by simp [e19.Set.2]) (hs.cells (i := 0) rfl)) rfl <| A rfl hS (fun w9 ⟨g9, hle9, hs⟩ => r_move (v := Value.int .u8 p2) rfl) rfl <| A rfl hS (fun w9 ⟨g9, hle9, hs⟩ => r_fieldAddr Try.underlying54 ti52 rfl rfl (by decide) rfl rfl) rfl <| A rfl hS (fun w9 ⟨g9, hle9, hs⟩ => r_load (v := v1) ti52 rfl (hs.cell (i := 3) (o := 5) rfl (by simp [p1.Set.2]))) rfl <| A rfl hS (fun w9 ⟨g9, hle9, hs⟩ => r_move (v := Value.int .i64 xv35) rfl) rfl ?_
      obtain ⟨t18, ht18, hM⟩ := bindS hM
      refine A rfl hS (fun w9 ⟨g9, hle9, hs⟩ => r_addM rfl rfl ht18) rfl ?_
      obtain ⟨l12, hl12, hM⟩ := bindS hM
      obtain ⟨v187, hRv187, hrunv187⟩ := RdS.slice hRv1 hl12
      refine A rfl hS (fun w9 ⟨g9, hle9, hs⟩ => hrunv187 Try.underlying52 ti54 rfl (Bnd.some rfl) Bnd.none) rfl <| A1 rfl ?_
      obtain ⟨rv46, hrv46, hM⟩ := bindS hM
      refine C [Value.agg (List.toArray (α := Value) (([Value.int .i64 e19.Kind]) ++ ((e19.Set.1.map (Value.int .u64)) ++ ([v186])))), Value.int .u8 p2] cf25 rfl (ih_regex_Derive hrv46 hs.imm (tT_Regex_iff.2 ⟨[Value.int .i64 e19.Kind], e19.Set.1.map (Value.int .u64), [v186], rfl, rfl, rfl, ⟨_, rfl, hRv186⟩⟩)) rfl ?_
      rintro v188 wv146 ⟨gg82, hvv188, hegg82⟩
      have hlegg82 := hegg82.le hs.imm
      replace hs := hs.call hegg82
      replace hrelxs89 := hrelxs89.mono hlegg82
      replace hRv186 := hRv186.mono hlegg82
      replace hRv187 := hRv187.mono hlegg82
      replace hlegg76 := hlegg76.trans hlegg82
      replace hagg76 := hagg76.trans hlegg82
      obtain ⟨cs222, rfl, hcs222⟩ := hvv188
      obtain ⟨cs223, cs224, cs225, rfl, hcs223, hcs224, hcs225⟩ := tT_Regex_iff.1 hcs222
      have hcs223 : cs223 = _ := hcs223; subst hcs223
      have hcs224 : cs224 = _ := hcs224; subst hcs224
      obtain ⟨v189, rfl, hRv189⟩ := hcs225
      refine OW_nil ?_
      replace hS := hS.to hagg76 hs
      refine ⟨fun _ => hS, ?_⟩
      refine A1 rfl <| OW_lit (τ := tT_Regex) [Value.agg (List.toArray (α := Value) (([Value.int .i64 rv46.Kind]) ++ ((rv46.Set.1.map (Value.int .u64)) ++ ([v189]))))] [rv46] Try.underlying52 ti54 (by decide) hs rfl rfl rfl ⟨(tT_Regex_iff.2 ⟨[Value.int .i64 rv46.Kind], rv46.Set.1.map (Value.int .u64), [v189], rfl, rfl, rfl, ⟨_, rfl, hRv189⟩⟩), trivial⟩ rfl ?_
      intro v190 wv147 xs96 hrelxs96 hs
      refine OW_nil ?_
      replace hS := hS.to hagg76 (hs.sub (.cons _ (.cons_cons _ (.cons_cons _ (.cons_cons _ (.cons_cons _ .slnil))))))
      refine ⟨fun _ => hS, ?_⟩
      refine A1 rfl ?_
      obtain ⟨xs97, hrxs97, hlxs97⟩ := (id hRv187)
      obtain ⟨y31, hy31, hM⟩ := bindS hM
      refine OW_append Try.underlying52 ti54 rfl (by decide) (by decide) hs (i := 0) rfl hrelxs96 (v := v190) rfl (u := v187) rfl (hlxs97.src hs.imm) hrxs97 hy31 rfl ?_
      intro v191 wv148 xs98 hrelxs98 hs
      refine OW_nil ?_
      replace hS := hS.to hagg76 (hs.sub (.cons _ (.cons_cons _ (.cons_cons _ (.cons_cons _ (.cons_cons _ .slnil))))))
      refine ⟨fun _ => hS, ?_⟩
      refine A1 rfl ?_
      obtain ⟨gg83, hlegg83, hRgg83, hs⟩ := hs.relRow (i := 0) rfl hrelxs98
      replace hrelxs89 := hrelxs89.mono hlegg83
      replace hRv186 := hRv186.mono hlegg83
      replace hlegg76 := hlegg76.trans hlegg83
      replace hagg76 := hagg76.trans hlegg83
      obtain ⟨rv47, hrv47, hM⟩ := bindS hM
      refine C [v191] cf33 rfl (regex_concat_ok hrv47 hs.imm hRgg83) rfl ?_
      rintro v192 wv149 ⟨gg84, hvv192, hegg84⟩
      have hlegg84 := hegg84.le hs.imm
      replace hs := hs.call hegg84
      replace hrelxs89 := hrelxs89.mono hlegg84
      replace hRv186 := hRv186.mono hlegg84
      replace hlegg76 := hlegg76.trans hlegg84
      replace hagg76 := hagg76.trans hlegg84
      obtain ⟨cs226, rfl, hcs226⟩ := hvv192
      obtain ⟨cs227, cs228, cs229, rfl, hcs227, hcs228, hcs229⟩ := tT_Regex_iff.1 hcs226
      have hcs227 : cs227 = _ := hcs227; subst hcs227
      have hcs228 : cs228 = _ := hcs228; subst hcs228
      obtain ⟨v193, rfl, hRv193⟩ := hcs229
      refine OW_nil ?_
      replace hS := hS.to hagg76 hs
      refine ⟨fun _ => hS, ?_⟩
      refine A1 rfl <| OW_lit (τ := tT_Regex) [Value.agg (List.toArray (α := Value) (([Value.int .i64 rv47.Kind]) ++ ((rv47.Set.1.map (Value.int .u64)) ++ ([v193]))))] [rv47] Try.underlying52 ti54 (by decide) hs rfl rfl rfl ⟨(tT_Regex_iff.2 ⟨[Value.int .i64 rv47.Kind], rv47.Set.1.map (Value.int .u64), [v193], rfl, rfl, rfl, ⟨_, rfl, hRv193⟩⟩), trivial⟩ rfl ?_
      intro v194 wv150 xs99 hrelxs99 hs
      refine OW_nil ?_
      replace hS := hS.to hagg76 (hs.sub (.cons _ (.cons_cons _ (.cons_cons _ (.cons_cons _ (.cons_cons _ .slnil))))))
      refine ⟨fun _ => hS, ?_⟩
      refine A1 rfl ?_
      obtain ⟨y32, hy32, hM⟩ := bindS hM
      refine OW_appendK Try.underlying52 ti54 rfl (by decide) (by decide) hs (i := 2) rfl hrelxs89 (v := v173) rfl (u := v194) rfl (hs.rowSrc (i := 0) rfl) hrelxs99 hy32 rfl ?_
      intro v195 wv151 xs100 hrelxs100 hsO hs
      refine OW_nil ?_
      have hsO : Go.Lx.Sep g0 w0 gg84 _ [Go.Lx.box b39 54 (([Value.int .i64 e19.Kind]) ++ ((e19.Set.1.map (Value.int .u64)) ++ ([v186]))), .row v173 54 tT_Regex.sz xv34.length xs89, Go.Lx.box b2 54 (([Value.int .i64 0]) ++ (((Vec.zero 4).1.map (Value.int .u64)) ++ ([Value.slice none 0 0]))), Go.Lx.box b1 54 (([Value.int .i64 p1.Kind]) ++ ((p1.Set.1.map (Value.int .u64)) ++ ([v1])))] := (hsO.sub (.cons _ (.cons_cons _ (.cons_cons _ (.cons_cons _ (.cons_cons _ .slnil))))))
      replace hS := hS.to hagg76 hsO
      refine ⟨fun _ => hS, ?_⟩
      refine A rfl hS (fun w9 ⟨g9, hle9, hs⟩ => r_assign (v := v195) rfl) rfl <| AN <| WP_seq <| WP_region <| O (r_loadN (cs := ([Value.int .i64 e19.Kind]) ++ ((e19.Set.1.map (Value.int .u64)) ++ ([v186]))) ti54 rfl (by simp [e19.Set.2]) (hs.cells (i := 1) rfl)) rfl ?_
      obtain ⟨rv48, hrv48, hM⟩ := bindS hM
      refine C [Value.agg (List.toArray (α := Value) (([Value.int .i64 e19.Kind]) ++ ((e19.Set.1.map (Value.int .u64)) ++ ([v186]))))] cf26 rfl (regex_Nullable_ok hrv48 hs.imm (tT_Regex_iff.2 ⟨[Value.int .i64 e19.Kind], e19.Set.1.map (Value.int .u64), [v186], rfl, rfl, rfl, ⟨_, rfl, hRv186⟩⟩)) rfl ?_
      rintro v196 wv152 ⟨gg85, hvv196, hegg85⟩
      have hlegg85 := hegg85.le hs.imm
      replace hs := hs.call hegg85
      replace hrelxs100 := hrelxs100.mono hlegg85
      replace hlegg76 := hlegg76.trans hlegg85
      obtain ⟨cs230, rfl, hcs230⟩ := hvv196
      have hcs230 : cs230 = _ := hcs230; subst hcs230
      refine O (r_not rfl) rfl <| OW_nil ?_
      rcases condS hM with ⟨hc38, hM⟩ | ⟨hc38, hM⟩
      ·refine WP_true rfl hc38 <| WP_exit ?_
       obtain rfl := Option.some.inj hM
       refine fun hr => ?_
       have hM := congrArg some hr
       obtain rfl := Option.some.inj hM
       exact ⟨gg85, v195, xs100, rfl, rfl, hds, hlegg76, hrelxs100, (hs.sub (.cons _ (.cons _ (.cons_cons _ (.cons_cons _ (.cons _ .slnil))))))⟩
      ·refine WP_false rfl hc38 <| WP_skip <| WP_region <| O (r_addM rfl rfl ht18) rfl <| O (r_move (v := Value.int .i64 t18) rfl) rfl <| OW_nil ?_
       obtain rfl := Option.some.inj hM
       exact ⟨gg85, v195, xs100, rfl, rfl, rfl, rfl, rfl, rfl, rfl, hds, hlegg76, hrelxs100, (hs.sub (.cons _ (.cons _ (.cons_cons _ (.cons_cons _ (.cons_cons _ .slnil))))))⟩
     ·refine WP_false rfl hc37 <| WP_exit ?_
      obtain rfl := Option.some.inj hM
      refine fun hr => ?_
      have hM := congrArg some hr
      obtain rfl := Option.some.inj hM
      exact ⟨gg76, v173, xs89, rfl, rfl, hds, hlegg76, hrelxs89, (hs.sub (.cons_cons _ (.cons_cons _ (.cons _ .slnil))))⟩
    ·clear hs
     rintro E w ⟨gg70, v160, xs81, hE4, hE5, hds, hlegg70, hrelxs81, hs⟩
     have hM := hKhx4
     obtain ⟨E, rfl⟩ := open2 (E := E) hE4 hE5
     refine WP_seq <| WP_region <| O (r_move (v := v160) rfl) rfl ?_
     obtain ⟨gg86, hlegg86, hRgg86, hs⟩ := hs.relRow (i := 0) rfl hrelxs81
     obtain ⟨rv49, hrv49, hM⟩ := bindS hM
     refine C [v160] cf34 rfl (regex_union_ok hrv49 hs.imm hRgg86) rfl ?_
     rintro v197 wv153 ⟨gg87, hvv197, hegg87⟩
     have hlegg87 := hegg87.le hs.imm
     replace hs := hs.call hegg87
     obtain ⟨cs231, rfl, hcs231⟩ := hvv197
     obtain ⟨cs232, cs233, cs234, rfl, hcs232, hcs233, hcs234⟩ := tT_Regex_iff.1 hcs231
     have hcs232 : cs232 = _ := hcs232; subst hcs232
     have hcs233 : cs233 = _ := hcs233; subst hcs233
     obtain ⟨v198, rfl, hRv198⟩ := hcs234
     refine OW_storeAll ti54 hs (i := 0) rfl rfl (v := Value.agg (List.toArray (α := Value) (([Value.int .i64 rv49.Kind]) ++ ((rv49.Set.1.map (Value.int .u64)) ++ ([v198]))))) rfl (vs := ([Value.int .i64 rv49.Kind]) ++ ((rv49.Set.1.map (Value.int .u64)) ++ ([v198]))) rfl (one_append (one_cons rfl one_nil) (one_append vec_one (one_cons (by obtain ⟨_, _, h9⟩ := hRv198.shape; rw [h9]; rfl) one_nil))) (by simp [rv49.Set.2]) (by simp [rv49.Set.2, (Vec.zero 4).2]) ?_
     intro wv154 hs
     refine OW_nil <| WP_ret ?_
     obtain rfl := Option.some.inj hM
     have hM := hKhx3
     obtain rfl := Option.some.inj hM
     refine FL_nil hds ?_
     exact ⟨_, res1 Try.results25 (rv_cells (vs := ([Value.int .i64 rv49.Kind]) ++ ((rv49.Set.1.map (Value.int .u64)) ++ ([v198]))) ti54 rfl (by simp [rv49.Set.2]) (hs.cells (i := 0) rfl)), gg87, ⟨([Value.int .i64 rv49.Kind]) ++ ((rv49.Set.1.map (Value.int .u64)) ++ ([v198])), rfl, (tT_Regex_iff.2 ⟨[Value.int .i64 rv49.Kind], rv49.Set.1.map (Value.int .u64), [v198], rfl, rfl, rfl, ⟨_, rfl, hRv198⟩⟩)⟩, hs.ext⟩
   ·refine WP_false rfl hc26 <| WP_seq <| WP_region <| O (r_eql rfl rfl) rfl <| O (r_assign (v := Value.bool (p1.Kind == 5)) rfl) rfl <| OW_nil ?_
    rcases condS hM with ⟨hc39, hM⟩ | ⟨hc39, hM⟩
    ·refine WP_true rfl hc39 <| WP_seq <| WP_region <| O (r_assign (v := Value.slice none 0 0) rfl) rfl <| OW_nil ?_
     obtain ⟨xv44, hx5, hKhx5⟩ := bindS hM
     refine WP_cut (fun E w => ∃ (gg94 : Hp) (v217 : Value) (xs111 : List Value), E 4 = Value.pointer (some ⟨b2, 0, none⟩) ∧ E 8 = v217 ∧ E.ds = [] ∧ Hle g0 gg94 ∧ RowRel tT_Regex gg94 xs111 xv44 ∧ Go.Lx.Sep g0 w0 gg94 w [.row v217 54 tT_Regex.sz xv44.length xs111, Go.Lx.box b2 54 (([Value.int .i64 0]) ++ (((Vec.zero 4).1.map (Value.int .u64)) ++ ([Value.slice none 0 0])))]) ?_ ?_
     ·have hM := hx5
      refine WP_seq <| WP_region <| O (r_fieldAddr Try.underlying54 ti52 rfl rfl (by decide) rfl rfl) rfl <| O (r_load (v := v1) ti52 rfl (hs.cell (i := 1) (o := 5) rfl (by simp [p1.Set.2]))) rfl ?_
      obtain ⟨a8, ca8, hva8⟩ := hRv1.shape
      refine O (r_lenSl (v := v1) Try.underlying52 rfl hva8) rfl <| O (r_move (v := Value.int .i64 0) rfl) rfl <| OW_nil <| WP_block ?_
      have hs := hs.nilRow 54 tT_Regex.sz
      refine WP_loop (fun (st9 : (List T_Regex) × Int) E w => match st9 with | (xv47, xv48) => ∃ (gg97 : Hp) (v224 : Value) (xs116 : List Value), E 1 = Value.int .u8 p2 ∧ E 4 = Value.pointer (some ⟨b2, 0, none⟩) ∧ E 8 = v224 ∧ E 53 = v1 ∧ E 54 = Value.int .i64 (p1.Kids.length : Int) ∧ E 55 = Value.int .i64 xv48 ∧ E.ds = [] ∧ Hle g0 gg97 ∧ RowRel tT_Regex gg97 xs116 xv47 ∧ Go.Lx.Sep g0 w0 gg97 w [.row v224 54 tT_Regex.sz xv47.length xs116, Go.Lx.box b2 54 (([Value.int .i64 0]) ++ (((Vec.zero 4).1.map (Value.int .u64)) ++ ([Value.slice none 0 0])))]) hM ⟨g0, (Value.slice none 0 0), [], rfl, rfl, rfl, rfl, rfl, rfl, hds, (Hle.refl _), RowRel.nil, (hs.sub (.cons_cons _ (.cons_cons _ (.cons _ .slnil))))⟩ ?_
      clear hs hM
      rintro ⟨xv47, xv48⟩ o8 E w hM ⟨gg97, v224, xs116, hE1, hE4, hE8, hE53, hE54, hE55, hds, hlegg97, hrelxs116, hs⟩
      obtain ⟨E, rfl⟩ := open6 (E := E) hE1 hE4 hE8 hE53 hE54 hE55
      replace hRv1 := hRv1.mono hlegg97
      have hagg97 := Hle.refl gg97
      refine WP_seq <| WP_region <| O (r_lss rfl rfl) rfl <| OW_nil <| WP_seq ?_
      rcases condS hM with ⟨hc45, hM⟩ | ⟨hc45, hM⟩
      ·refine WP_true rfl hc45 <| WP_skip <| WP_seq <| WP_block <| WP_seq <| WP_region ?_
       obtain ⟨e25, he25, hM⟩ := bindS hM
       obtain ⟨b50, ob50, cb50, hvb50, cs275, hcs275, hcb50⟩ := hRv1.at he25
       obtain ⟨cs276, cs277, cs278, rfl, hcs276, hcs277, hcs278⟩ := tT_Regex_iff.1 hcs275
       have hcs276 : cs276 = _ := hcs276; subst hcs276
       have hcs277 : cs277 = _ := hcs277; subst hcs277
       obtain ⟨v231, rfl, hRv231⟩ := hcs278
       refine O (r_idxSl Try.underlying52 ti54 (v := v1) rfl hvb50 rfl (idxL_some he25).1 (idxL_some he25).2.1) rfl <| O (r_loadEl (cs := ([Value.int .i64 e25.Kind]) ++ ((e25.Set.1.map (Value.int .u64)) ++ ([v231]))) ti54 rfl (by simp [e25.Set.2]) (.inl rfl) (hcb50 _ hs.imm) (v := Value.agg (List.toArray (α := Value) (([Value.int .i64 e25.Kind]) ++ ((e25.Set.1.map (Value.int .u64)) ++ ([v231]))))) rfl) rfl <| OW_alloc ti54 hs (zs := ([Value.int .i64 0]) ++ (((Vec.zero 4).1.map (Value.int .u64)) ++ ([Value.slice none 0 0]))) rfl rfl ?_
       intro b51 wv180 hs
       refine OW_storeAll ti54 hs (i := 0) rfl rfl (v := Value.agg (List.toArray (α := Value) (([Value.int .i64 e25.Kind]) ++ ((e25.Set.1.map (Value.int .u64)) ++ ([v231]))))) rfl (vs := ([Value.int .i64 e25.Kind]) ++ ((e25.Set.1.map (Value.int .u64)) ++ ([v231]))) rfl (one_append (one_cons rfl one_nil) (one_append vec_one (one_cons (by obtain ⟨_, _, h9⟩ := hRv231.shape; rw [h9]; rfl) one_nil))) (by simp [e25.Set.2]) (by simp [e25.Set.2, (Vec.zero 4).2]) ?_
       intro wv181 hs
       refine OW_nil <| WP_region <| O (r_move (v := v224) rfl) rfl <| O (r_loadN (cs := ([Value.int .i64 e25.Kind]) ++ ((e25.Set.1.map (Value.int .u64)) ++ ([v231]))) ti54 rfl (by simp [e25.Set.2]) (hs.cells (i := 0) rfl)) rfl <| O (r_move (v := Value.int .u8 p2) rfl) rfl ?_
       obtain ⟨rv55, hrv55, hM⟩ := bindS hM
       refine C [Value.agg (List.toArray (α := Value) (([Value.int .i64 e25.Kind]) ++ ((e25.Set.1.map (Value.int .u64)) ++ ([v231])))), Value.int .u8 p2] cf25 rfl (ih_regex_Derive hrv55 hs.imm (tT_Regex_iff.2 ⟨[Value.int .i64 e25.Kind], e25.Set.1.map (Value.int .u64), [v231], rfl, rfl, rfl, ⟨_, rfl, hRv231⟩⟩)) rfl ?_
       rintro v232 wv182 ⟨gg100, hvv232, hegg100⟩
       have hlegg100 := hegg100.le hs.imm
       replace hs := hs.call hegg100
       replace hrelxs116 := hrelxs116.mono hlegg100
       replace hlegg97 := hlegg97.trans hlegg100
       obtain ⟨cs279, rfl, hcs279⟩ := hvv232
       obtain ⟨cs280, cs281, cs282, rfl, hcs280, hcs281, hcs282⟩ := tT_Regex_iff.1 hcs279
       have hcs280 : cs280 = _ := hcs280; subst hcs280
       have hcs281 : cs281 = _ := hcs281; subst hcs281
       obtain ⟨v233, rfl, hRv233⟩ := hcs282
       refine OW_lit (τ := tT_Regex) [Value.agg (List.toArray (α := Value) (([Value.int .i64 rv55.Kind]) ++ ((rv55.Set.1.map (Value.int .u64)) ++ ([v233]))))] [rv55] Try.underlying52 ti54 (by decide) hs rfl rfl rfl ⟨(tT_Regex_iff.2 ⟨[Value.int .i64 rv55.Kind], rv55.Set.1.map (Value.int .u64), [v233], rfl, rfl, rfl, ⟨_, rfl, hRv233⟩⟩), trivial⟩ rfl ?_
       intro v234 wv183 xs120 hrelxs120 hs
       obtain ⟨y38, hy38, hM⟩ := bindS hM
       refine OW_append Try.underlying52 ti54 rfl (by decide) (by decide) hs (i := 2) rfl hrelxs116 (v := v224) rfl (u := v234) rfl (hs.rowSrc (i := 0) rfl) hrelxs120 hy38 rfl ?_
       intro v235 wv184 xs121 hrelxs121 hs
       refine O (r_assign (v := v235) rfl) rfl <| OW_nil <| WP_region ?_
       obtain ⟨t24, ht24, hM⟩ := bindS hM
       refine O (r_addM rfl rfl ht24) rfl <| O (r_move (v := Value.int .i64 t24) rfl) rfl <| OW_nil ?_
       obtain rfl := Option.some.inj hM
       exact ⟨gg100, v235, xs121, rfl, rfl, rfl, rfl, rfl, rfl, hds, hlegg97, hrelxs121, (hs.sub (.cons _ (.cons _ (.cons_cons _ (.cons_cons _ .slnil)))))⟩
      ·refine WP_false rfl hc45 <| WP_exit ?_
       obtain rfl := Option.some.inj hM
       refine fun hr => ?_
       have hM := congrArg some hr
       obtain rfl := Option.some.inj hM
       exact ⟨gg97, v224, xs116, rfl, rfl, hds, hlegg97, hrelxs116, hs⟩
     ·clear hs
      rintro E w ⟨gg94, v217, xs111, hE4, hE8, hds, hlegg94, hrelxs111, hs⟩
      have hM := hKhx5
      obtain ⟨E, rfl⟩ := open2 (E := E) hE4 hE8
      refine WP_seq <| WP_region <| O (r_move (v := v217) rfl) rfl ?_
      obtain ⟨gg101, hlegg101, hRgg101, hs⟩ := hs.relRow (i := 0) rfl hrelxs111
      obtain ⟨rv56, hrv56, hM⟩ := bindS hM
      refine C [v217] cf34 rfl (regex_union_ok hrv56 hs.imm hRgg101) rfl ?_
      rintro v236 wv185 ⟨gg102, hvv236, hegg102⟩
      have hlegg102 := hegg102.le hs.imm
      replace hs := hs.call hegg102
      obtain ⟨cs283, rfl, hcs283⟩ := hvv236
      obtain ⟨cs284, cs285, cs286, rfl, hcs284, hcs285, hcs286⟩ := tT_Regex_iff.1 hcs283
      have hcs284 : cs284 = _ := hcs284; subst hcs284
      have hcs285 : cs285 = _ := hcs285; subst hcs285
      obtain ⟨v237, rfl, hRv237⟩ := hcs286
      refine OW_storeAll ti54 hs (i := 0) rfl rfl (v := Value.agg (List.toArray (α := Value) (([Value.int .i64 rv56.Kind]) ++ ((rv56.Set.1.map (Value.int .u64)) ++ ([v237]))))) rfl (vs := ([Value.int .i64 rv56.Kind]) ++ ((rv56.Set.1.map (Value.int .u64)) ++ ([v237]))) rfl (one_append (one_cons rfl one_nil) (one_append vec_one (one_cons (by obtain ⟨_, _, h9⟩ := hRv237.shape; rw [h9]; rfl) one_nil))) (by simp [rv56.Set.2]) (by simp [rv56.Set.2, (Vec.zero 4).2]) ?_
      intro wv186 hs
      refine OW_nil <| WP_ret ?_
      obtain rfl := Option.some.inj hM
      have hM := hKhx3
      obtain rfl := Option.some.inj hM
      refine FL_nil hds ?_
      exact ⟨_, res1 Try.results25 (rv_cells (vs := ([Value.int .i64 rv56.Kind]) ++ ((rv56.Set.1.map (Value.int .u64)) ++ ([v237]))) ti54 rfl (by simp [rv56.Set.2]) (hs.cells (i := 0) rfl)), gg102, ⟨([Value.int .i64 rv56.Kind]) ++ ((rv56.Set.1.map (Value.int .u64)) ++ ([v237])), rfl, (tT_Regex_iff.2 ⟨[Value.int .i64 rv56.Kind], rv56.Set.1.map (Value.int .u64), [v237], rfl, rfl, rfl, ⟨_, rfl, hRv237⟩⟩)⟩, hs.ext⟩
    ·refine WP_false rfl hc39 <| WP_seq <| WP_region <| O (r_eql rfl rfl) rfl <| O (r_assign (v := Value.bool (p1.Kind == 6)) rfl) rfl <| OW_nil ?_
     rcases condS hM with ⟨hc46, hM⟩ | ⟨hc46, hM⟩
     ·refine WP_true rfl hc46 <| WP_seq <| WP_any (.q 0 (.q 1 (.q 2 (.q 3 (.q 4 (.q 6 (.s 5 (.s 7 (.s 8 (.s 9 (.leaf))))))))))) (SS g0 w0 g0 [Go.Lx.box b2 54 (([Value.int .i64 0]) ++ (((Vec.zero 4).1.map (Value.int .u64)) ++ ([Value.slice none 0 0]))), Go.Lx.box b1 54 (([Value.int .i64 p1.Kind]) ++ ((p1.Set.1.map (Value.int .u64)) ++ ([v1])))]) mo (by decide +kernel) ?_
      have hs := hs.drew
      have hRv1b := hRv1
      have hS : SS g0 w0 g0 [Go.Lx.box b2 54 (([Value.int .i64 0]) ++ (((Vec.zero 4).1.map (Value.int .u64)) ++ ([Value.slice none 0 0]))), Go.Lx.box b1 54 (([Value.int .i64 p1.Kind]) ++ ((p1.Set.1.map (Value.int .u64)) ++ ([v1])))] _ := ⟨g0, Hle.refl _, hs⟩
      refine A rfl hS (fun w9 ⟨g9, hle9, hs⟩ => r_fieldAddr Try.underlying54 ti52 rfl rfl (by decide) rfl rfl) rfl <| A rfl hS (fun w9 ⟨g9, hle9, hs⟩ => r_load (v := v1) ti52 rfl (hs.cell (i := 1) (o := 5) rfl (by simp [p1.Set.2]))) rfl ?_
      obtain ⟨e26, he26, hM⟩ := bindS hM
      obtain ⟨b52, ob52, cb52, hvb52, cs287, hcs287, hcb52⟩ := hRv1b.at he26
      obtain ⟨cs288, cs289, cs290, rfl, hcs288, hcs289, hcs290⟩ := tT_Regex_iff.1 hcs287
      have hcs288 : cs288 = _ := hcs288; subst hcs288
      have hcs289 : cs289 = _ := hcs289; subst hcs289
      obtain ⟨v238, rfl, hRv238⟩ := hcs290
      replace hRv238 := hRv238.mono (Hle.refl _)
      refine A rfl hS (fun w9 ⟨g9, hle9, hs⟩ => r_idxSl Try.underlying52 ti54 (v := v1) rfl hvb52 rfl (idxL_some he26).1 (idxL_some he26).2.1) rfl <| A rfl hS (fun w9 ⟨g9, hle9, hs⟩ => r_loadEl (cs := ([Value.int .i64 e26.Kind]) ++ ((e26.Set.1.map (Value.int .u64)) ++ ([v238]))) ti54 rfl (by simp [e26.Set.2]) (.inl rfl) (hcb52 _ (hs.imm.of_le hle9)) (v := Value.agg (List.toArray (α := Value) (([Value.int .i64 e26.Kind]) ++ ((e26.Set.1.map (Value.int .u64)) ++ ([v238]))))) rfl) rfl <| A rfl hS (fun w9 ⟨g9, hle9, hs⟩ => r_move (v := Value.int .u8 p2) rfl) rfl <| A rfl hS (fun w9 ⟨g9, hle9, hs⟩ => r_loadN (cs := ([Value.int .i64 p1.Kind]) ++ ((p1.Set.1.map (Value.int .u64)) ++ ([v1]))) ti54 rfl (by simp [p1.Set.2]) (hs.cells (i := 1) rfl)) rfl ?_
      refine A1 rfl ?_
      obtain ⟨rv57, hrv57, hM⟩ := bindS hM
      refine C [Value.agg (List.toArray (α := Value) (([Value.int .i64 e26.Kind]) ++ ((e26.Set.1.map (Value.int .u64)) ++ ([v238])))), Value.int .u8 p2] cf25 rfl (ih_regex_Derive hrv57 hs.imm (tT_Regex_iff.2 ⟨[Value.int .i64 e26.Kind], e26.Set.1.map (Value.int .u64), [v238], rfl, rfl, rfl, ⟨_, rfl, hRv238⟩⟩)) rfl ?_
      rintro v239 wv187 ⟨gg103, hvv239, hegg103⟩
      have hlegg103 := hegg103.le hs.imm
      replace hs := hs.call hegg103
      replace hRv1 := hRv1.mono hlegg103
      replace hag0 := hag0.trans hlegg103
      obtain ⟨cs291, rfl, hcs291⟩ := hvv239
      obtain ⟨cs292, cs293, cs294, rfl, hcs292, hcs293, hcs294⟩ := tT_Regex_iff.1 hcs291
      have hcs292 : cs292 = _ := hcs292; subst hcs292
      have hcs293 : cs293 = _ := hcs293; subst hcs293
      obtain ⟨v240, rfl, hRv240⟩ := hcs294
      refine OW_nil ?_
      replace hS := hS.to hag0 hs
      refine ⟨fun _ => hS, ?_⟩
      refine A1 rfl <| OW_lit (τ := tT_Regex) [Value.agg (List.toArray (α := Value) (([Value.int .i64 rv57.Kind]) ++ ((rv57.Set.1.map (Value.int .u64)) ++ ([v240])))), Value.agg (List.toArray (α := Value) (([Value.int .i64 p1.Kind]) ++ ((p1.Set.1.map (Value.int .u64)) ++ ([v1]))))] [rv57, p1] Try.underlying52 ti54 (by decide) hs rfl rfl rfl ⟨(tT_Regex_iff.2 ⟨[Value.int .i64 rv57.Kind], rv57.Set.1.map (Value.int .u64), [v240], rfl, rfl, rfl, ⟨_, rfl, hRv240⟩⟩), (tT_Regex_iff.2 ⟨[Value.int .i64 p1.Kind], p1.Set.1.map (Value.int .u64), [v1], rfl, rfl, rfl, ⟨_, rfl, hRv1⟩⟩), trivial⟩ rfl ?_
      intro v241 wv188 xs122 hrelxs122 hs
      refine OW_nil ?_
      replace hS := hS.to hag0 (hs.sub (.cons _ (.cons_cons _ (.cons_cons _ .slnil))))
      refine ⟨fun _ => hS, ?_⟩
      refine A1 rfl ?_
      obtain ⟨gg104, hlegg104, hRgg104, hs⟩ := hs.relRow (i := 0) rfl hrelxs122
      replace hag0 := hag0.trans hlegg104
      obtain ⟨rv58, hrv58, hM⟩ := bindS hM
      refine C [v241] cf33 rfl (regex_concat_ok hrv58 hs.imm hRgg104) rfl ?_
      rintro v242 wv189 ⟨gg105, hvv242, hegg105⟩
      have hlegg105 := hegg105.le hs.imm
      replace hs := hs.call hegg105
      replace hag0 := hag0.trans hlegg105
      obtain ⟨cs295, rfl, hcs295⟩ := hvv242
      obtain ⟨cs296, cs297, cs298, rfl, hcs296, hcs297, hcs298⟩ := tT_Regex_iff.1 hcs295
      have hcs296 : cs296 = _ := hcs296; subst hcs296
      have hcs297 : cs297 = _ := hcs297; subst hcs297
      obtain ⟨v243, rfl, hRv243⟩ := hcs298
      refine OW_nil ?_
      replace hS := hS.to hag0 hs
      refine ⟨fun _ => hS, ?_⟩
      refine A1 rfl <| OW_storeAll ti54 hs (i := 0) rfl rfl (v := Value.agg (List.toArray (α := Value) (([Value.int .i64 rv58.Kind]) ++ ((rv58.Set.1.map (Value.int .u64)) ++ ([v243]))))) rfl (vs := ([Value.int .i64 rv58.Kind]) ++ ((rv58.Set.1.map (Value.int .u64)) ++ ([v243]))) rfl (one_append (one_cons rfl one_nil) (one_append vec_one (one_cons (by obtain ⟨_, _, h9⟩ := hRv243.shape; rw [h9]; rfl) one_nil))) (by simp [rv58.Set.2]) (by simp [rv58.Set.2, (Vec.zero 4).2]) ?_
      intro wv190 hs
      refine OW_nil ?_
      refine ⟨fun h => absurd h (by decide +kernel), ?_⟩
      refine AN <| WP_ret ?_
      obtain rfl := Option.some.inj hM
      have hM := hKhx3
      obtain rfl := Option.some.inj hM
      refine FL_nil hds ?_
      exact ⟨_, res1 Try.results25 (rv_cells (vs := ([Value.int .i64 rv58.Kind]) ++ ((rv58.Set.1.map (Value.int .u64)) ++ ([v243]))) ti54 rfl (by simp [rv58.Set.2]) (hs.cells (i := 0) rfl)), gg105, ⟨([Value.int .i64 rv58.Kind]) ++ ((rv58.Set.1.map (Value.int .u64)) ++ ([v243])), rfl, (tT_Regex_iff.2 ⟨[Value.int .i64 rv58.Kind], rv58.Set.1.map (Value.int .u64), [v243], rfl, rfl, rfl, ⟨_, rfl, hRv243⟩⟩)⟩, hs.ext⟩
     ·refine WP_false rfl hc46 <| WP_skip ?_
      obtain rfl := Option.some.inj hM
      exact ⟨(), rfl, g0, rfl, hds, (Hle.refl _), (hs.sub (.cons_cons _ (.cons _ .slnil)))⟩
 ·clear hs
  rintro E w ⟨_, rfl, gg53, hE4, hds, hlegg53, hs⟩
  have hM := hKhx3
  dsimp only [onStep] at hM
  obtain ⟨E, rfl⟩ := open1 (E := E) hE4
  refine WP_seq <| WP_region <| O (r_build (vs := [(0, Value.int .i64 1)]) (cs := ([Value.int .i64 1]) ++ (((Vec.zero 4).1.map (Value.int .u64)) ++ ([Value.slice none 0 0]))) rfl (built_fill [(0, 1), (1, 4), (5, 1)] (([Value.int .i64 0]) ++ (((Vec.zero 4).1.map (Value.int .u64)) ++ ([Value.slice none 0 0]))) (fun _ => by kernel_rfl) (fill_step ([]) ([Value.int .i64 0]) (((Vec.zero 4).1.map (Value.int .u64)) ++ ([Value.slice none 0 0])) ([Value.int .i64 1]) rfl (by simp) rfl rfl rfl rfl <| fill_done))) rfl <| OW_storeAll ti54 hs (i := 0) rfl rfl (v := Value.agg (List.toArray (α := Value) (([Value.int .i64 1]) ++ (((Vec.zero 4).1.map (Value.int .u64)) ++ ([Value.slice none 0 0]))))) rfl (vs := ([Value.int .i64 1]) ++ (((Vec.zero 4).1.map (Value.int .u64)) ++ ([Value.slice none 0 0]))) rfl (one_append (one_cons rfl one_nil) (one_append vec_one (one_cons rfl one_nil))) (by simp [(Vec.zero 4).2]) (by simp [(Vec.zero 4).2, (Vec.zero 4).2]) ?_
  intro wv191 hs
  refine OW_nil <| WP_ret ?_
  obtain rfl := Option.some.inj hM
  refine FL_nil hds ?_
  exact ⟨_, res1 Try.results25 (rv_cells (vs := ([Value.int .i64 1]) ++ (((Vec.zero 4).1.map (Value.int .u64)) ++ ([Value.slice none 0 0]))) ti54 rfl (by simp [(Vec.zero 4).2]) (hs.cells (i := 0) rfl)), gg53, ⟨([Value.int .i64 1]) ++ (((Vec.zero 4).1.map (Value.int .u64)) ++ ([Value.slice none 0 0])), rfl, (tT_Regex_iff.2 ⟨[Value.int .i64 1], (Vec.zero 4).1.map (Value.int .u64), [Value.slice none 0 0], rfl, rfl, rfl, ⟨_, rfl, RdS.nil⟩⟩)⟩, hs.ext⟩
theorem regex_Derive_zero : C.regex_Derive 0 := by
  unfold C.regex_Derive
  intros
  simp_all only [M.regex_Derive, reduceCtorEq]
theorem regex_Derive_all : ∀ fl, C.regex_Derive fl := by
  intro fl
  induction fl with
  | zero => exact regex_Derive_zero
  | succ fl ih =>
    exact regex_Derive_step ih
theorem regex_Derive_ok {fl : Nat} : C.regex_Derive fl := (regex_Derive_all fl)

set_option maxRecDepth 100000 in
theorem regex_Match_ok {rv1 : T_Regex} {s1 : Str} {r : Bool} (hM : M.regex_Match rv1 s1 = some r) {g0 : Hp} {w0 : World} (hi : Imm g0 w0) {cs1 : List Value} (hcs1 : tT_Regex.rel g0 cs1 rv1) :
    CallsV Try.prog 18 #[Value.agg cs1.toArray, encS s1] w0 (fun v w' => ∃ g', (VRd tBool false g' v r) ∧ Ext g0 w0 g' w') := by
 unfold M.regex_Match at hM
 obtain ⟨cs2, cs3, cs4, rfl, hcs2, hcs3, hcs4⟩ := tT_Regex_iff.1 hcs1
 have hcs2 : cs2 = _ := hcs2; subst hcs2
 have hcs3 : cs3 = _ := hcs3; subst hcs3
 obtain ⟨v1, rfl, hRv1⟩ := hcs4
 have hs := Sep.start hi
 refine calls_of_WP (args := [Value.agg (List.toArray (α := Value) (([Value.int .i64 rv1.Kind]) ++ ((rv1.Set.1.map (Value.int .u64)) ++ ([v1])))), encS s1]) Try.func18 rfl Try.ntmps18 rfl ?_
 have hds : (argEnv [Value.agg (List.toArray (α := Value) (([Value.int .i64 rv1.Kind]) ++ ((rv1.Set.1.map (Value.int .u64)) ++ ([v1])))), encS s1]).ds = [] := rfl
 refine WP_seq <| WP_region <| OW_box (v := Value.agg (List.toArray (α := Value) (([Value.int .i64 rv1.Kind]) ++ ((rv1.Set.1.map (Value.int .u64)) ++ ([v1]))))) rfl hs (zs := ([Value.int .i64 rv1.Kind]) ++ ((rv1.Set.1.map (Value.int .u64)) ++ ([v1]))) rfl rfl ?_
 intro b1 wv1 hs
 refine O (r_assign (v := Value.bool false) rfl) rfl <| OW_nil ?_
 obtain ⟨⟨rv14, rv15, rv16⟩, hx1, hKhx1⟩ := bindS hM
 refine WP_cut (fun E w => ∃ (gg7 : Hp) (v11 : Value), E 2 = Value.pointer (some ⟨b1, 0, none⟩) ∧ E.ds = [] ∧ Hle g0 gg7 ∧ RdS tT_Regex gg7 v11 rv16 ∧ Go.Lx.Sep g0 w0 gg7 w [Go.Lx.box b1 54 (([Value.int .i64 rv14]) ++ ((rv15.1.map (Value.int .u64)) ++ ([v11])))]) ?_ ?_
 ·have hM := hx1
  have hag0 := Hle.refl g0
  refine WP_seq <| WP_region <| O (r_move (v := encS s1) rfl) rfl <| O (r_lenStr Try.underlying9 rfl) rfl <| O (r_move (v := Value.int .i64 0) rfl) rfl <| OW_nil <| WP_block <| WP_loop (fun (st9 : Int × (Vec 4) × (List T_Regex) × Int) E w => match st9 with | (rv21, rv22, rv23, xv5) => ∃ (gg10 : Hp) (v15 : Value), E 1 = encS s1 ∧ E 2 = Value.pointer (some ⟨b1, 0, none⟩) ∧ E 7 = Value.int .i64 (s1.length : Int) ∧ E 8 = Value.int .i64 xv5 ∧ E.ds = [] ∧ Hle g0 gg10 ∧ RdS tT_Regex gg10 v15 rv23 ∧ Go.Lx.Sep g0 w0 gg10 w [Go.Lx.box b1 54 (([Value.int .i64 rv21]) ++ ((rv22.1.map (Value.int .u64)) ++ ([v15])))]) hM ⟨g0, v1, rfl, rfl, rfl, rfl, hds, (Hle.refl _), hRv1, hs⟩ ?_
  clear hs hM
  rintro ⟨rv21, rv22, rv23, xv5⟩ o2 E w hM ⟨gg10, v15, hE1, hE2, hE7, hE8, hds, hlegg10, hRv15, hs⟩
  obtain ⟨E, rfl⟩ := open4 (E := E) hE1 hE2 hE7 hE8
  have hagg10 := Hle.refl gg10
  refine WP_seq <| WP_region <| O (r_lss rfl rfl) rfl <| OW_nil <| WP_seq ?_
  rcases condS hM with ⟨hc6, hM⟩ | ⟨hc6, hM⟩
  ·refine WP_true rfl hc6 <| WP_skip <| WP_seq <| WP_block <| WP_seq <| WP_region <| O (r_move (v := Value.int .i64 xv5) rfl) rfl <| O (r_assign (v := Value.int .i64 xv5) rfl) rfl <| OW_nil <| WP_drawTail 4 mo (by decide +kernel) ?_
   have hs := hs.drew
   refine S (r_loadN (cs := ([Value.int .i64 rv21]) ++ ((rv22.1.map (Value.int .u64)) ++ ([v15]))) ti54 rfl (by simp [rv22.2]) (hs.cells (i := 0) rfl)) rfl <| S (r_move (v := encS s1) rfl) rfl <| S (r_move (v := Value.int .i64 xv5) rfl) rfl ?_
   obtain ⟨c6, hc6, hM⟩ := bindS hM
   refine S (r_idxStr Try.underlying9 rfl rfl hc6) rfl <| SW_nil ?_
   obtain ⟨rv28, hrv28, hM⟩ := bindS hM
   refine C [Value.agg (List.toArray (α := Value) (([Value.int .i64 rv21]) ++ ((rv22.1.map (Value.int .u64)) ++ ([v15])))), Value.int .u8 c6] cf25 rfl (regex_Derive_ok hrv28 hs.imm (tT_Regex_iff.2 ⟨[Value.int .i64 rv21], rv22.1.map (Value.int .u64), [v15], rfl, rfl, rfl, ⟨_, rfl, hRv15⟩⟩)) rfl ?_
   rintro v19 wv12 ⟨gg13, hvv19, hegg13⟩
   have hlegg13 := hegg13.le hs.imm
   replace hs := hs.call hegg13
   replace hlegg10 := hlegg10.trans hlegg13
   obtain ⟨cs25, rfl, hcs25⟩ := hvv19
   obtain ⟨cs26, cs27, cs28, rfl, hcs26, hcs27, hcs28⟩ := tT_Regex_iff.1 hcs25
   have hcs26 : cs26 = _ := hcs26; subst hcs26
   have hcs27 : cs27 = _ := hcs27; subst hcs27
   obtain ⟨v20, rfl, hRv20⟩ := hcs28
   refine OW_storeAll ti54 hs (i := 0) rfl rfl (v := Value.agg (List.toArray (α := Value) (([Value.int .i64 rv28.Kind]) ++ ((rv28.Set.1.map (Value.int .u64)) ++ ([v20]))))) rfl (vs := ([Value.int .i64 rv28.Kind]) ++ ((rv28.Set.1.map (Value.int .u64)) ++ ([v20]))) rfl (one_append (one_cons rfl one_nil) (one_append vec_one (one_cons (by obtain ⟨_, _, h9⟩ := hRv20.shape; rw [h9]; rfl) one_nil))) (by simp [rv28.Set.2]) (by simp [rv28.Set.2, rv22.2]) ?_
   intro wv13 hs
   refine OW_nil <| WP_region ?_
   obtain ⟨t6, ht6, hM⟩ := bindS hM
   refine O (r_addM rfl rfl ht6) rfl <| O (r_move (v := Value.int .i64 t6) rfl) rfl <| OW_nil ?_
   obtain rfl := Option.some.inj hM
   exact ⟨gg13, v20, rfl, rfl, rfl, rfl, hds, hlegg10, hRv20, hs⟩
  ·refine WP_false rfl hc6 <| WP_exit ?_
   obtain rfl := Option.some.inj hM
   refine fun hr => ?_
   have hM := congrArg some hr
   simp only [Option.some.injEq, Prod.mk.injEq] at hM
   obtain ⟨rfl, rfl, rfl⟩ := hM
   exact ⟨gg10, v15, rfl, hds, hlegg10, hRv15, hs⟩
 ·clear hs
  rintro E w ⟨gg7, v11, hE2, hds, hlegg7, hRv11, hs⟩
  have hM := hKhx1
  obtain ⟨E, rfl⟩ := open1 (E := E) hE2
  refine WP_seq <| WP_region <| O (r_loadN (cs := ([Value.int .i64 rv14]) ++ ((rv15.1.map (Value.int .u64)) ++ ([v11]))) ti54 rfl (by simp [rv15.2]) (hs.cells (i := 0) rfl)) rfl ?_
  obtain ⟨rv29, hrv29, hM⟩ := bindS hM
  refine C [Value.agg (List.toArray (α := Value) (([Value.int .i64 rv14]) ++ ((rv15.1.map (Value.int .u64)) ++ ([v11]))))] cf26 rfl (regex_Nullable_ok hrv29 hs.imm (tT_Regex_iff.2 ⟨[Value.int .i64 rv14], rv15.1.map (Value.int .u64), [v11], rfl, rfl, rfl, ⟨_, rfl, hRv11⟩⟩)) rfl ?_
  rintro v21 wv14 ⟨gg14, hvv21, hegg14⟩
  have hlegg14 := hegg14.le hs.imm
  replace hs := hs.call hegg14
  obtain ⟨cs29, rfl, hcs29⟩ := hvv21
  have hcs29 : cs29 = _ := hcs29; subst hcs29
  refine O (r_assign (v := Value.bool rv29) rfl) rfl <| OW_nil <| WP_ret ?_
  obtain rfl := Option.some.inj hM
  refine FL_nil hds ?_
  exact ⟨_, res1 Try.results18 (rv_tmp (v := Value.bool rv29) rfl), gg14, ⟨[Value.bool rv29], rfl, rfl⟩, hs.ext⟩

set_option maxRecDepth 100000 in
theorem regex_dot_ok {r : (Vec 4)} (hM : M.regex_dot = some r) {g0 : Hp} {w0 : World} (hi : Imm g0 w0) :
    CallsV Try.prog 47 #[] w0 (fun v w' => ∃ g', (VRd (tVec 4 .u64) true g' v r) ∧ Ext g0 w0 g' w') := by
 unfold M.regex_dot at hM
 have hs := Sep.start hi
 refine calls_of_WP (args := []) Try.func47 rfl Try.ntmps47 rfl ?_
 have hds : (argEnv []).ds = [] := rfl
 refine WP_seq <| WP_region <| OW_alloc ti51 hs (zs := (Vec.zero 4).1.map (Value.int .u64)) rfl rfl ?_
 intro b1 wv1 hs
 refine OW_nil <| WP_seq <| WP_region ?_
 obtain ⟨rv1, hrv1, hM⟩ := bindS hM
 refine C [encS [10]] cf53 rfl (byteset_Of_ok hrv1 hs.imm) rfl ?_
 rintro v1 wv2 ⟨gg1, hvv1, hegg1⟩
 have hlegg1 := hegg1.le hs.imm
 replace hs := hs.call hegg1
 obtain ⟨cs1, rfl, hcs1⟩ := hvv1
 have hcs1 : cs1 = _ := hcs1; subst hcs1
 obtain ⟨rv2, hrv2, hM⟩ := bindS hM
 refine C [encV .u64 rv1] cf52 rfl (byteset_Complement_ok hrv2 hs.imm) rfl ?_
 rintro v2 wv3 ⟨gg2, hvv2, hegg2⟩
 have hlegg2 := hegg2.le hs.imm
 replace hs := hs.call hegg2
 obtain ⟨cs2, rfl, hcs2⟩ := hvv2
 have hcs2 : cs2 = _ := hcs2; subst hcs2
 refine OW_storeAll ti51 hs (i := 0) rfl rfl (v := encV .u64 rv2) rfl (vs := rv2.1.map (Value.int .u64)) rfl vec_one (by simp [rv2.2]) (by simp [rv2.2, (Vec.zero 4).2]) ?_
 intro wv4 hs
 refine OW_nil <| WP_ret ?_
 obtain rfl := Option.some.inj hM
 refine FL_nil hds ?_
 exact ⟨_, res1 Try.results47 (rv_cells (vs := rv2.1.map (Value.int .u64)) ti51 rfl (by simp [rv2.2]) (hs.cells (i := 0) rfl)), gg2, ⟨rv2.1.map (Value.int .u64), rfl, rfl⟩, hs.ext⟩

set_option maxRecDepth 100000 in
theorem regex_reader_peek_ok {p1 : T_regex_reader} {r : Int} (hM : M.regex_reader_peek p1 = some r) {g0 : Hp} {w0 : World} {gi : Hp} {wi : World} {Lt : List Res} {b1 : Nat} (hs : Sep g0 w0 gi wi (Go.Lx.box b1 65 ([encS p1.s, Value.int .i64 p1.atv]) :: Lt)) :
    CallsV Try.prog 29 #[Value.pointer (some ⟨b1, 0, none⟩)] wi (fun v w' => ∃ g', (VRd (tInt .u8) false g' v r) ∧ Hle gi g' ∧ Sep g0 w0 g' w' (Go.Lx.box b1 65 ([encS p1.s, Value.int .i64 p1.atv]) :: Lt)) := by
 unfold M.regex_reader_peek at hM
 have hagi := Hle.refl gi
 refine calls_of_WP (args := [Value.pointer (some ⟨b1, 0, none⟩)]) Try.func29 rfl Try.ntmps29 rfl ?_
 have hds : (argEnv [Value.pointer (some ⟨b1, 0, none⟩)]).ds = [] := rfl
 refine WP_seq <| WP_region <| O (r_assign (v := Value.int .u8 0) rfl) rfl <| OW_nil <| WP_seq <| WP_seq <| WP_draw mo (by decide +kernel) ?_
 have hs := hs.drew
 refine S (r_move (v := Value.pointer (some ⟨b1, 0, none⟩)) rfl) rfl <| S (r_nilCheck rfl) rfl <| S (r_fieldAddr Try.underlying65 ti3 rfl rfl (by decide) rfl rfl) rfl <| S (r_load (v := Value.int .i64 p1.atv) ti3 rfl (hs.cell (i := 0) (o := 1) rfl rfl)) rfl <| S (r_move (v := Value.pointer (some ⟨b1, 0, none⟩)) rfl) rfl <| S (r_nilCheck rfl) rfl <| S (r_fieldAddr Try.underlying65 ti9 rfl rfl (by decide) rfl rfl) rfl <| S (r_load (v := encS p1.s) ti9 rfl (hs.cell (i := 0) (o := 0) rfl rfl)) rfl <| S (r_lenStr Try.underlying9 rfl) rfl <| S (r_lss rfl rfl) rfl <| SW_nil ?_
 rcases condS hM with ⟨hc1, hM⟩ | ⟨hc1, hM⟩
 ·refine WP_true rfl hc1 <| WP_seq <| WP_draw mo (by decide +kernel) ?_
  have hs := hs.drew
  refine S (r_move (v := Value.pointer (some ⟨b1, 0, none⟩)) rfl) rfl <| S (r_nilCheck rfl) rfl <| S (r_fieldAddr Try.underlying65 ti9 rfl rfl (by decide) rfl rfl) rfl <| S (r_load (v := encS p1.s) ti9 rfl (hs.cell (i := 0) (o := 0) rfl rfl)) rfl <| S (r_move (v := Value.pointer (some ⟨b1, 0, none⟩)) rfl) rfl <| S (r_nilCheck rfl) rfl <| S (r_fieldAddr Try.underlying65 ti3 rfl rfl (by decide) rfl rfl) rfl <| S (r_load (v := Value.int .i64 p1.atv) ti3 rfl (hs.cell (i := 0) (o := 1) rfl rfl)) rfl ?_
  obtain ⟨c1, hc1, hM⟩ := bindS hM
  refine S (r_idxStr Try.underlying9 rfl rfl hc1) rfl <| S (r_assign (v := Value.int .u8 c1) rfl) rfl <| SW_nil <| WP_ret ?_
  obtain rfl := Option.some.inj hM
  refine FL_nil hds ?_
  exact ⟨_, res1 Try.results29 (rv_tmp (v := Value.int .u8 c1) rfl), gi, ⟨[Value.int .u8 c1], rfl, rfl⟩, (Hle.refl _), hs⟩
 ·refine WP_false rfl hc1 <| WP_skip <| WP_seq <| WP_region <| O (r_assign (v := Value.int .u8 0) rfl) rfl <| OW_nil <| WP_ret ?_
  obtain rfl := Option.some.inj hM
  refine FL_nil hds ?_
  exact ⟨_, res1 Try.results29 (rv_tmp (v := Value.int .u8 0) rfl), gi, ⟨[Value.int .u8 0], rfl, rfl⟩, (Hle.refl _), hs⟩

set_option maxRecDepth 100000 in
theorem regex_reader_fail_ok {p1 : T_regex_reader} {r : Rt (Unit)} (hM : M.regex_reader_fail p1 = some r) {g0 : Hp} {w0 : World} {gi : Hp} {wi : World} {Lt : List Res} {b1 : Nat} (hs : Sep g0 w0 gi wi (Go.Lx.box b1 65 ([encS p1.s, Value.int .i64 p1.atv]) :: Lt)) :
    CallsX Try.prog 23 #[Value.pointer (some ⟨b1, 0, none⟩)] wi 62 r (fun r v w' => ∃ g', (True) ∧ Hle gi g' ∧ Sep g0 w0 g' w' (Go.Lx.box b1 65 ([encS p1.s, Value.int .i64 p1.atv]) :: Lt)) (fun w' => ∃ g', Hle gi g' ∧ Sep g0 w0 g' w' Lt) := by
 unfold M.regex_reader_fail at hM
 have hagi := Hle.refl gi
 refine calls_of_WPX (args := [Value.pointer (some ⟨b1, 0, none⟩)]) Try.func23 rfl Try.ntmps23 rfl ?_
 have hds : (argEnv [Value.pointer (some ⟨b1, 0, none⟩)]).ds = [] := rfl
 refine WP_region <| O (r_move (v := Value.pointer (some ⟨b1, 0, none⟩)) rfl) rfl <| O (r_nilCheck rfl) rfl <| O (r_fieldAddr Try.underlying65 ti3 rfl rfl (by decide) rfl rfl) rfl <| O (r_load (v := Value.int .i64 p1.atv) ti3 rfl (hs.cell (i := 0) (o := 1) rfl rfl)) rfl <| O (r_makeIface (v := Value.int .i64 p1.atv) conc62 rfl) rfl <| OW_panic rfl ?_
 obtain rfl := Option.some.inj hM
 exact ⟨rfl, hds, gi, (Hle.refl _), Sep.tail (A := [Go.Lx.box b1 65 ([encS p1.s, Value.int .i64 p1.atv])]) (L := Lt) hs⟩

set_option maxRecDepth 100000 in
theorem regex_reader_expect_ok {p1 : T_regex_reader} {b2 : Int} {r : Rt (T_regex_reader)} (hM : M.regex_reader_expect p1 b2 = some r) {g0 : Hp} {w0 : World} {gi : Hp} {wi : World} {Lt : List Res} {b1 : Nat} (hs : Sep g0 w0 gi wi (Go.Lx.box b1 65 ([encS p1.s, Value.int .i64 p1.atv]) :: Lt)) :
    CallsX Try.prog 45 #[Value.pointer (some ⟨b1, 0, none⟩), Value.int .u8 b2] wi 62 r (fun r v w' => ∃ g', (True) ∧ Hle gi g' ∧ Sep g0 w0 g' w' (Go.Lx.box b1 65 ([encS r.s, Value.int .i64 r.atv]) :: Lt)) (fun w' => ∃ g', Hle gi g' ∧ Sep g0 w0 g' w' Lt) := by
 unfold M.regex_reader_expect at hM
 have hagi := Hle.refl gi
 refine calls_of_WPX (args := [Value.pointer (some ⟨b1, 0, none⟩), Value.int .u8 b2]) Try.func45 rfl Try.ntmps45 rfl ?_
 have hds : (argEnv [Value.pointer (some ⟨b1, 0, none⟩), Value.int .u8 b2]).ds = [] := rfl
 obtain ⟨o1, hx2, hKhx2⟩ := stepS hM
 refine WP_cut (fun E w => ∃ u9 : Unit, o1 = .next u9 ∧ ∃ (gg3 : Hp), E 0 = Value.pointer (some ⟨b1, 0, none⟩) ∧ E.ds = [] ∧ Hle gi gg3 ∧ Go.Lx.Sep g0 w0 gg3 w (Go.Lx.box b1 65 ([encS p1.s, Value.int .i64 p1.atv]) :: Lt)) ?_ ?_
 ·have hM := hx2
  obtain ⟨xv2, hx3, hKhx3⟩ := bindS hM
  refine WP_cut (fun E w => E 0 = Value.pointer (some ⟨b1, 0, none⟩) ∧ E 26 = Value.bool xv2 ∧ E.ds = [] ∧ Go.Lx.Sep g0 w0 gi w (Go.Lx.box b1 65 ([encS p1.s, Value.int .i64 p1.atv]) :: Lt)) ?_ ?_
  ·have hM := hx3
   refine WP_draw mo (by decide +kernel) ?_
   have hs := hs.drew
   refine S (r_move (v := Value.pointer (some ⟨b1, 0, none⟩)) rfl) rfl <| S (r_nilCheck rfl) rfl <| S (r_fieldAddr Try.underlying65 ti3 rfl rfl (by decide) rfl rfl) rfl <| S (r_load (v := Value.int .i64 p1.atv) ti3 rfl (hs.cell (i := 0) (o := 1) rfl rfl)) rfl <| S (r_move (v := Value.pointer (some ⟨b1, 0, none⟩)) rfl) rfl <| S (r_nilCheck rfl) rfl <| S (r_fieldAddr Try.underlying65 ti9 rfl rfl (by decide) rfl rfl) rfl <| S (r_load (v := encS p1.s) ti9 rfl (hs.cell (i := 0) (o := 0) rfl rfl)) rfl <| S (r_lenStr Try.underlying9 rfl) rfl <| S (r_eql rfl rfl) rfl <| S (r_move (v := Value.bool (p1.atv == (p1.s.length : Int))) rfl) rfl ?_
   rcases condS hM with ⟨hg4, hM⟩ | ⟨hg4, hM⟩
   ·refine SK rfl rfl rfl (by rw [hg4]; rfl) rfl <| SK rfl rfl rfl (by rw [hg4]; rfl) rfl <| SK rfl rfl rfl (by rw [hg4]; rfl) rfl <| SK rfl rfl rfl (by rw [hg4]; rfl) rfl <| SK rfl rfl rfl (by rw [hg4]; rfl) rfl <| SK rfl rfl rfl (by rw [hg4]; rfl) rfl <| SK rfl rfl rfl (by rw [hg4]; rfl) rfl <| SK rfl rfl rfl (by rw [hg4]; rfl) rfl <| SK rfl rfl rfl (by rw [hg4]; rfl) rfl <| SK rfl rfl rfl (by rw [hg4]; rfl) rfl <| SK rfl rfl rfl (by rw [hg4]; rfl) rfl <| S (r_pickT (v := Value.bool true) rfl hg4 rfl) rfl <| SW_nil ?_
    obtain rfl := Option.some.inj hM
    exact ⟨rfl, rfl, hds, hs⟩
   ·refine SG rfl rfl rfl (by rw [hg4]; rfl) (r_move (v := Value.pointer (some ⟨b1, 0, none⟩)) rfl) rfl <| SG rfl rfl rfl (by rw [hg4]; rfl) (r_nilCheck rfl) rfl <| SG rfl rfl rfl (by rw [hg4]; rfl) (r_fieldAddr Try.underlying65 ti9 rfl rfl (by decide) rfl rfl) rfl <| SG rfl rfl rfl (by rw [hg4]; rfl) (r_load (v := encS p1.s) ti9 rfl (hs.cell (i := 0) (o := 0) rfl rfl)) rfl <| SG rfl rfl rfl (by rw [hg4]; rfl) (r_move (v := Value.pointer (some ⟨b1, 0, none⟩)) rfl) rfl <| SG rfl rfl rfl (by rw [hg4]; rfl) (r_nilCheck rfl) rfl <| SG rfl rfl rfl (by rw [hg4]; rfl) (r_fieldAddr Try.underlying65 ti3 rfl rfl (by decide) rfl rfl) rfl <| SG rfl rfl rfl (by rw [hg4]; rfl) (r_load (v := Value.int .i64 p1.atv) ti3 rfl (hs.cell (i := 0) (o := 1) rfl rfl)) rfl ?_
    obtain ⟨c4, hc4, hM⟩ := bindS hM
    refine SG rfl rfl rfl (by rw [hg4]; rfl) (r_idxStr Try.underlying9 rfl rfl hc4) rfl <| SG rfl rfl rfl (by rw [hg4]; rfl) (r_move (v := Value.int .u8 b2) rfl) rfl <| SG rfl rfl rfl (by rw [hg4]; rfl) (r_neq rfl rfl) rfl <| S (r_pickF (v := Value.bool (c4 != b2)) rfl hg4 rfl) rfl <| SW_nil ?_
    obtain rfl := Option.some.inj hM
    exact ⟨rfl, rfl, hds, hs⟩
  ·clear hs
   rintro E w ⟨hE0, hE26, hds, hs⟩
   have hM := hKhx3
   obtain ⟨E, rfl⟩ := open2 (E := E) hE0 hE26
   rcases condS hM with ⟨hc2, hM⟩ | ⟨hc2, hM⟩
   ·refine WP_true rfl hc2 <| WP_region <| O (r_move (v := Value.pointer (some ⟨b1, 0, none⟩)) rfl) rfl ?_
    rcases rtS hM with ⟨rv2, hrv2, hM⟩ | ⟨px2, hpx2, hM⟩
    ·refine C [Value.pointer (some ⟨b1, 0, none⟩)] cf23 rfl (regex_reader_fail_ok hrv2 hs) rfl ?_
     rintro v2 wv4 ⟨gg5, hvv2, hlegg5, hs⟩
     replace hagi := hagi.trans hlegg5
     refine OW_nil ?_
     obtain rfl := Option.some.inj hM
     exact ⟨(), rfl, gg5, rfl, hds, hagi, hs⟩
    ·refine CN [Value.pointer (some ⟨b1, 0, none⟩)] cf23 rfl (regex_reader_fail_ok hpx2 hs) ?_
     rintro wv3 ⟨gg4, hlegg4, hs⟩
     replace hagi := hagi.trans hlegg4
     obtain rfl := Option.some.inj hM
     have hM := hKhx2
     obtain rfl := Option.some.inj hM
     exact ⟨rfl, hds, gg4, hagi, Sep.tail (A := []) (L := Lt) hs⟩
   ·refine WP_false rfl hc2 <| WP_skip ?_
    obtain rfl := Option.some.inj hM
    exact ⟨(), rfl, gi, rfl, hds, (Hle.refl _), hs⟩
 ·clear hs
  rintro E w ⟨_, rfl, gg3, hE0, hds, hlegg3, hs⟩
  have hM := hKhx2
  dsimp only [onStep] at hM
  obtain ⟨E, rfl⟩ := open1 (E := E) hE0
  replace hagi := hagi.trans hlegg3
  refine WP_region <| O (r_move (v := Value.pointer (some ⟨b1, 0, none⟩)) rfl) rfl <| O (r_nilCheck rfl) rfl <| O (r_fieldAddr Try.underlying65 ti3 rfl rfl (by decide) rfl rfl) rfl <| O (r_load (v := Value.int .i64 p1.atv) ti3 rfl (hs.cell (i := 0) (o := 1) rfl rfl)) rfl ?_
  obtain ⟨t1, ht1, hM⟩ := bindS hM
  refine O (r_addM rfl rfl ht1) rfl <| O (r_nilCheck rfl) rfl <| O (r_fieldAddr Try.underlying65 ti3 rfl rfl (by decide) rfl rfl) rfl <| OW_store1 ti3 hs (i := 0) rfl rfl (v := Value.int .i64 t1) rfl rfl (o := 1) (by simp) ?_
  intro wv5 hs
  refine OW_nil ?_
  obtain rfl := Option.some.inj hM
  refine FL_nil hds ?_
  exact ⟨_, res_none Try.results45, gg3, trivial, hagi, hs⟩

set_option maxRecDepth 100000 in
theorem regex_group_ok {kind1 : Int} {l1 : (List T_Regex)} {r : T_Regex} (hM : M.regex_group kind1 l1 = some r) {g0 : Hp} {w0 : World} (hi : Imm g0 w0) {v1 : Value} (hRv1 : RdS tT_Regex g0 v1 l1) :
    CallsV Try.prog 30 #[Value.int .i64 kind1, v1] w0 (fun v w' => ∃ g', (VRd tT_Regex true g' v r) ∧ Ext g0 w0 g' w') := by
 unfold M.regex_group at hM
 have hs := Sep.start hi
 refine calls_of_WP (args := [Value.int .i64 kind1, v1]) Try.func30 rfl Try.ntmps30 rfl ?_
 have hds : (argEnv [Value.int .i64 kind1, v1]).ds = [] := rfl
 refine WP_seq <| WP_region <| OW_alloc ti54 hs (zs := ([Value.int .i64 0]) ++ (((Vec.zero 4).1.map (Value.int .u64)) ++ ([Value.slice none 0 0]))) rfl rfl ?_
 intro b1 wv1 hs
 refine OW_nil <| WP_seq <| WP_seq <| WP_region <| O (r_move (v := v1) rfl) rfl ?_
 obtain ⟨a1, ca1, hva1⟩ := hRv1.shape
 refine O (r_lenSl (v := v1) Try.underlying52 rfl hva1) rfl <| O (r_eql rfl rfl) rfl <| OW_nil ?_
 rcases condS hM with ⟨hc1, hM⟩ | ⟨hc1, hM⟩
 ·refine WP_true rfl hc1 <| WP_seq <| WP_region <| O (r_move (v := v1) rfl) rfl ?_
  obtain ⟨e1, he1, hM⟩ := bindS hM
  obtain ⟨b2, ob2, cb2, hvb2, cs1, hcs1, hcb2⟩ := hRv1.at he1
  obtain ⟨cs2, cs3, cs4, rfl, hcs2, hcs3, hcs4⟩ := tT_Regex_iff.1 hcs1
  have hcs2 : cs2 = _ := hcs2; subst hcs2
  have hcs3 : cs3 = _ := hcs3; subst hcs3
  obtain ⟨v2, rfl, hRv2⟩ := hcs4
  refine O (r_idxSl Try.underlying52 ti54 (v := v1) rfl hvb2 rfl (idxL_some he1).1 (idxL_some he1).2.1) rfl <| O (r_loadEl (cs := ([Value.int .i64 e1.Kind]) ++ ((e1.Set.1.map (Value.int .u64)) ++ ([v2]))) ti54 rfl (by simp [e1.Set.2]) (.inl rfl) (hcb2 _ hs.imm) (v := Value.agg (List.toArray (α := Value) (([Value.int .i64 e1.Kind]) ++ ((e1.Set.1.map (Value.int .u64)) ++ ([v2]))))) rfl) rfl <| OW_storeAll ti54 hs (i := 0) rfl rfl (v := Value.agg (List.toArray (α := Value) (([Value.int .i64 e1.Kind]) ++ ((e1.Set.1.map (Value.int .u64)) ++ ([v2]))))) rfl (vs := ([Value.int .i64 e1.Kind]) ++ ((e1.Set.1.map (Value.int .u64)) ++ ([v2]))) rfl (one_append (one_cons rfl one_nil) (one_append vec_one (one_cons (by obtain ⟨_, _, h9⟩ := hRv2.shape; rw [h9]; rfl) one_nil))) (by simp [e1.Set.2]) (by simp [e1.Set.2, (Vec.zero 4).2]) ?_
  intro wv2 hs
  refine OW_nil <| WP_ret ?_
  obtain rfl := Option.some.inj hM
  refine FL_nil hds ?_
  exact ⟨_, res1 Try.results30 (rv_cells (vs := ([Value.int .i64 e1.Kind]) ++ ((e1.Set.1.map (Value.int .u64)) ++ ([v2]))) ti54 rfl (by simp [e1.Set.2]) (hs.cells (i := 0) rfl)), g0, ⟨([Value.int .i64 e1.Kind]) ++ ((e1.Set.1.map (Value.int .u64)) ++ ([v2])), rfl, (tT_Regex_iff.2 ⟨[Value.int .i64 e1.Kind], e1.Set.1.map (Value.int .u64), [v2], rfl, rfl, rfl, ⟨_, rfl, hRv2⟩⟩)⟩, hs.ext⟩
 ·refine WP_false rfl hc1 <| WP_skip <| WP_seq <| WP_region <| O (r_move (v := Value.int .i64 kind1) rfl) rfl <| O (r_move (v := v1) rfl) rfl <| O (r_build (vs := [(0, Value.int .i64 kind1), (2, v1)]) (cs := ([Value.int .i64 kind1]) ++ (((Vec.zero 4).1.map (Value.int .u64)) ++ ([v1]))) rfl (built_fill [(0, 1), (1, 4), (5, 1)] (([Value.int .i64 0]) ++ (((Vec.zero 4).1.map (Value.int .u64)) ++ ([Value.slice none 0 0]))) (fun _ => by kernel_rfl) (fill_step ([]) ([Value.int .i64 0]) (((Vec.zero 4).1.map (Value.int .u64)) ++ ([Value.slice none 0 0])) ([Value.int .i64 kind1]) rfl (by simp) rfl rfl rfl rfl <| fill_step (([Value.int .i64 kind1]) ++ ((Vec.zero 4).1.map (Value.int .u64))) ([Value.slice none 0 0]) ([]) ([v1]) rfl (by simp) (cells_one (by obtain ⟨_, _, h9⟩ := hRv1.shape; rw [h9]; rfl)) (by simp [(Vec.zero 4).2]) rfl rfl <| fill_done))) rfl ?_
  refine OW_storeAll ti54 hs (i := 0) rfl rfl (v := Value.agg (List.toArray (α := Value) (([Value.int .i64 kind1]) ++ (((Vec.zero 4).1.map (Value.int .u64)) ++ ([v1]))))) rfl (vs := ([Value.int .i64 kind1]) ++ (((Vec.zero 4).1.map (Value.int .u64)) ++ ([v1]))) rfl (one_append (one_cons rfl one_nil) (one_append vec_one (one_cons (by obtain ⟨_, _, h9⟩ := hRv1.shape; rw [h9]; rfl) one_nil))) (by simp [(Vec.zero 4).2]) (by simp [(Vec.zero 4).2, (Vec.zero 4).2]) ?_
  intro wv3 hs
  refine OW_nil <| WP_ret ?_
  obtain rfl := Option.some.inj hM
  refine FL_nil hds ?_
  exact ⟨_, res1 Try.results30 (rv_cells (vs := ([Value.int .i64 kind1]) ++ (((Vec.zero 4).1.map (Value.int .u64)) ++ ([v1]))) ti54 rfl (by simp [(Vec.zero 4).2]) (hs.cells (i := 0) rfl)), g0, ⟨([Value.int .i64 kind1]) ++ (((Vec.zero 4).1.map (Value.int .u64)) ++ ([v1])), rfl, (tT_Regex_iff.2 ⟨[Value.int .i64 kind1], (Vec.zero 4).1.map (Value.int .u64), [v1], rfl, rfl, rfl, ⟨_, rfl, hRv1⟩⟩)⟩, hs.ext⟩

set_option maxRecDepth 100000 in
theorem regex_alphanumeric_ok {b1 : Int} {r : Bool} (hM : M.regex_alphanumeric b1 = some r) {g0 : Hp} {w0 : World} (hi : Imm g0 w0) :
    CallsV Try.prog 56 #[Value.int .u8 b1] w0 (fun v w' => ∃ g', (VRd tBool false g' v r) ∧ Ext g0 w0 g' w') := by
 unfold M.regex_alphanumeric at hM
 have hs := Sep.start hi
 refine calls_of_WP (args := [Value.int .u8 b1]) Try.func56 rfl Try.ntmps56 rfl ?_
 have hds : (argEnv [Value.int .u8 b1]).ds = [] := rfl
 refine WP_seq <| WP_region <| O (r_assign (v := Value.bool false) rfl) rfl <| OW_nil ?_
 obtain ⟨xv1, hx1, hKhx1⟩ := bindS hM
 refine WP_cut (fun E w => E 2 = Value.bool xv1 ∧ E.ds = [] ∧ Go.Lx.Sep g0 w0 g0 w []) ?_ ?_
 ·have hM := hx1
  have hag0 := Hle.refl g0
  refine WP_region <| O (r_move (v := Value.int .u8 b1) rfl) rfl <| O (r_geq rfl rfl) rfl <| O (r_move (v := Value.bool (decide (48 ≤ b1))) rfl) rfl ?_
  rcases condS hM with ⟨hg11, hM⟩ | ⟨hg11, hM⟩
  ·refine OG rfl rfl rfl (by rw [hg11]; rfl) (r_move (v := Value.int .u8 b1) rfl) rfl <| OG rfl rfl rfl (by rw [hg11]; rfl) (r_leq rfl rfl) rfl <| O (r_pickT (v := Value.bool (decide (b1 ≤ 57))) rfl hg11 rfl) rfl <| O (r_move (v := Value.bool (decide (b1 ≤ 57))) rfl) rfl ?_
   rcases condS hM with ⟨hg12, hM⟩ | ⟨hg12, hM⟩
   ·refine OK rfl rfl rfl (by rw [hg12]; rfl) rfl <| OK rfl rfl rfl (by rw [hg12]; rfl) rfl <| OK rfl rfl rfl (by rw [hg12]; rfl) rfl <| OKU rfl rfl rfl rfl <| OKU rfl rfl rfl rfl <| OK rfl rfl rfl (by rw [hg12]; rfl) rfl <| O (r_pickT (v := Value.bool true) rfl hg12 rfl) rfl <| O (r_move (v := Value.bool true) rfl) rfl <| OK rfl rfl rfl rfl rfl <| OK rfl rfl rfl rfl rfl <| OK rfl rfl rfl rfl rfl <| OKU rfl rfl rfl rfl <| OKU rfl rfl rfl rfl <| OK rfl rfl rfl rfl rfl <| O (r_pickT (v := Value.bool true) rfl rfl rfl) rfl <| O (r_assign (v := Value.bool true) rfl) rfl <| OW_nil ?_
    obtain rfl := Option.some.inj hM
    exact ⟨rfl, hds, hs⟩
   ·refine OG rfl rfl rfl (by rw [hg12]; rfl) (r_move (v := Value.int .u8 b1) rfl) rfl <| OG rfl rfl rfl (by rw [hg12]; rfl) (r_geq rfl rfl) rfl <| OG rfl rfl rfl (by rw [hg12]; rfl) (r_move (v := Value.bool (decide (97 ≤ b1))) rfl) rfl ?_
    rcases condS hM with ⟨hg13, hM⟩ | ⟨hg13, hM⟩
    ·refine OG rfl rfl rfl (by rw [hg13]; rfl) (r_move (v := Value.int .u8 b1) rfl) rfl <| OG rfl rfl rfl (by rw [hg13]; rfl) (r_leq rfl rfl) rfl <| OG rfl rfl rfl (by rw [hg12]; rfl) (r_pickT (v := Value.bool (decide (b1 ≤ 122))) rfl hg13 rfl) rfl <| O (r_pickF (v := Value.bool (decide (b1 ≤ 122))) rfl hg12 rfl) rfl <| O (r_move (v := Value.bool (decide (b1 ≤ 122))) rfl) rfl ?_
     rcases condS hM with ⟨hg14, hM⟩ | ⟨hg14, hM⟩
     ·refine OK rfl rfl rfl (by rw [hg14]; rfl) rfl <| OK rfl rfl rfl (by rw [hg14]; rfl) rfl <| OK rfl rfl rfl (by rw [hg14]; rfl) rfl <| OKU rfl rfl rfl rfl <| OKU rfl rfl rfl rfl <| OK rfl rfl rfl (by rw [hg14]; rfl) rfl <| O (r_pickT (v := Value.bool true) rfl hg14 rfl) rfl <| O (r_assign (v := Value.bool true) rfl) rfl <| OW_nil ?_
      obtain rfl := Option.some.inj hM
      exact ⟨rfl, hds, hs⟩
     ·refine OG rfl rfl rfl (by rw [hg14]; rfl) (r_move (v := Value.int .u8 b1) rfl) rfl <| OG rfl rfl rfl (by rw [hg14]; rfl) (r_geq rfl rfl) rfl <| OG rfl rfl rfl (by rw [hg14]; rfl) (r_move (v := Value.bool (decide (65 ≤ b1))) rfl) rfl ?_
      rcases condS hM with ⟨hg15, hM⟩ | ⟨hg15, hM⟩
      ·refine OG rfl rfl rfl (by rw [hg15]; rfl) (r_move (v := Value.int .u8 b1) rfl) rfl <| OG rfl rfl rfl (by rw [hg15]; rfl) (r_leq rfl rfl) rfl <| OG rfl rfl rfl (by rw [hg14]; rfl) (r_pickT (v := Value.bool (decide (b1 ≤ 90))) rfl hg15 rfl) rfl <| O (r_pickF (v := Value.bool (decide (b1 ≤ 90))) rfl hg14 rfl) rfl <| O (r_assign (v := Value.bool (decide (b1 ≤ 90))) rfl) rfl <| OW_nil ?_
       obtain rfl := Option.some.inj hM
       exact ⟨rfl, hds, hs⟩
      ·refine OK rfl rfl rfl (by rw [hg15]; rfl) rfl <| OK rfl rfl rfl (by rw [hg15]; rfl) rfl <| OG rfl rfl rfl (by rw [hg14]; rfl) (r_pickF (v := Value.bool false) rfl hg15 rfl) rfl <| O (r_pickF (v := Value.bool false) rfl hg14 rfl) rfl <| O (r_assign (v := Value.bool false) rfl) rfl <| OW_nil ?_
       obtain rfl := Option.some.inj hM
       exact ⟨rfl, hds, hs⟩
    ·refine OK rfl rfl rfl (by rw [hg13]; rfl) rfl <| OK rfl rfl rfl (by rw [hg13]; rfl) rfl <| OG rfl rfl rfl (by rw [hg12]; rfl) (r_pickF (v := Value.bool false) rfl hg13 rfl) rfl <| O (r_pickF (v := Value.bool false) rfl hg12 rfl) rfl <| O (r_move (v := Value.bool false) rfl) rfl <| OG rfl rfl rfl rfl (r_move (v := Value.int .u8 b1) rfl) rfl <| OG rfl rfl rfl rfl (r_geq rfl rfl) rfl <| OG rfl rfl rfl rfl (r_move (v := Value.bool (decide (65 ≤ b1))) rfl) rfl ?_
     rcases condS hM with ⟨hg16, hM⟩ | ⟨hg16, hM⟩
     ·refine OG rfl rfl rfl (by rw [hg16]; rfl) (r_move (v := Value.int .u8 b1) rfl) rfl <| OG rfl rfl rfl (by rw [hg16]; rfl) (r_leq rfl rfl) rfl <| OG rfl rfl rfl rfl (r_pickT (v := Value.bool (decide (b1 ≤ 90))) rfl hg16 rfl) rfl <| O (r_pickF (v := Value.bool (decide (b1 ≤ 90))) rfl rfl rfl) rfl <| O (r_assign (v := Value.bool (decide (b1 ≤ 90))) rfl) rfl <| OW_nil ?_
      obtain rfl := Option.some.inj hM
      exact ⟨rfl, hds, hs⟩
     ·refine OK rfl rfl rfl (by rw [hg16]; rfl) rfl <| OK rfl rfl rfl (by rw [hg16]; rfl) rfl <| OG rfl rfl rfl rfl (r_pickF (v := Value.bool false) rfl hg16 rfl) rfl <| O (r_pickF (v := Value.bool false) rfl rfl rfl) rfl <| O (r_assign (v := Value.bool false) rfl) rfl <| OW_nil ?_
      obtain rfl := Option.some.inj hM
      exact ⟨rfl, hds, hs⟩
  ·refine OK rfl rfl rfl (by rw [hg11]; rfl) rfl <| OK rfl rfl rfl (by rw [hg11]; rfl) rfl <| O (r_pickF (v := Value.bool false) rfl hg11 rfl) rfl <| O (r_move (v := Value.bool false) rfl) rfl <| OG rfl rfl rfl rfl (r_move (v := Value.int .u8 b1) rfl) rfl <| OG rfl rfl rfl rfl (r_geq rfl rfl) rfl <| OG rfl rfl rfl rfl (r_move (v := Value.bool (decide (97 ≤ b1))) rfl) rfl ?_
   rcases condS hM with ⟨hg17, hM⟩ | ⟨hg17, hM⟩
   ·refine OG rfl rfl rfl (by rw [hg17]; rfl) (r_move (v := Value.int .u8 b1) rfl) rfl <| OG rfl rfl rfl (by rw [hg17]; rfl) (r_leq rfl rfl) rfl <| OG rfl rfl rfl rfl (r_pickT (v := Value.bool (decide (b1 ≤ 122))) rfl hg17 rfl) rfl <| O (r_pickF (v := Value.bool (decide (b1 ≤ 122))) rfl rfl rfl) rfl <| O (r_move (v := Value.bool (decide (b1 ≤ 122))) rfl) rfl ?_
    rcases condS hM with ⟨hg18, hM⟩ | ⟨hg18, hM⟩
    ·refine OK rfl rfl rfl (by rw [hg18]; rfl) rfl <| OK rfl rfl rfl (by rw [hg18]; rfl) rfl <| OK rfl rfl rfl (by rw [hg18]; rfl) rfl <| OKU rfl rfl rfl rfl <| OKU rfl rfl rfl rfl <| OK rfl rfl rfl (by rw [hg18]; rfl) rfl <| O (r_pickT (v := Value.bool true) rfl hg18 rfl) rfl <| O (r_assign (v := Value.bool true) rfl) rfl <| OW_nil ?_
     obtain rfl := Option.some.inj hM
     exact ⟨rfl, hds, hs⟩
    ·refine OG rfl rfl rfl (by rw [hg18]; rfl) (r_move (v := Value.int .u8 b1) rfl) rfl <| OG rfl rfl rfl (by rw [hg18]; rfl) (r_geq rfl rfl) rfl <| OG rfl rfl rfl (by rw [hg18]; rfl) (r_move (v := Value.bool (decide (65 ≤ b1))) rfl) rfl ?_
     rcases condS hM with ⟨hg19, hM⟩ | ⟨hg19, hM⟩
     ·refine OG rfl rfl rfl (by rw [hg19]; rfl) (r_move (v := Value.int .u8 b1) rfl) rfl <| OG rfl rfl rfl (by rw [hg19]; rfl) (r_leq rfl rfl) rfl <| OG rfl rfl rfl (by rw [hg18]; rfl) (r_pickT (v := Value.bool (decide (b1 ≤ 90))) rfl hg19 rfl) rfl <| O (r_pickF (v := Value.bool (decide (b1 ≤ 90))) rfl hg18 rfl) rfl <| O (r_assign (v := Value.bool (decide (b1 ≤ 90))) rfl) rfl <| OW_nil ?_
      obtain rfl := Option.some.inj hM
      exact ⟨rfl, hds, hs⟩
     ·refine OK rfl rfl rfl (by rw [hg19]; rfl) rfl <| OK rfl rfl rfl (by rw [hg19]; rfl) rfl <| OG rfl rfl rfl (by rw [hg18]; rfl) (r_pickF (v := Value.bool false) rfl hg19 rfl) rfl <| O (r_pickF (v := Value.bool false) rfl hg18 rfl) rfl <| O (r_assign (v := Value.bool false) rfl) rfl <| OW_nil ?_
      obtain rfl := Option.some.inj hM
      exact ⟨rfl, hds, hs⟩
   ·refine OK rfl rfl rfl (by rw [hg17]; rfl) rfl <| OK rfl rfl rfl (by rw [hg17]; rfl) rfl <| OG rfl rfl rfl rfl (r_pickF (v := Value.bool false) rfl hg17 rfl) rfl <| O (r_pickF (v := Value.bool false) rfl rfl rfl) rfl <| O (r_move (v := Value.bool false) rfl) rfl <| OG rfl rfl rfl rfl (r_move (v := Value.int .u8 b1) rfl) rfl <| OG rfl rfl rfl rfl (r_geq rfl rfl) rfl <| OG rfl rfl rfl rfl (r_move (v := Value.bool (decide (65 ≤ b1))) rfl) rfl ?_
    rcases condS hM with ⟨hg20, hM⟩ | ⟨hg20, hM⟩
    ·refine OG rfl rfl rfl (by rw [hg20]; rfl) (r_move (v := Value.int .u8 b1) rfl) rfl <| OG rfl rfl rfl (by rw [hg20]; rfl) (r_leq rfl rfl) rfl <| OG rfl rfl rfl rfl (r_pickT (v := Value.bool (decide (b1 ≤ 90))) rfl hg20 rfl) rfl <| O (r_pickF (v := Value.bool (decide (b1 ≤ 90))) rfl rfl rfl) rfl <| O (r_assign (v := Value.bool (decide (b1 ≤ 90))) rfl) rfl <| OW_nil ?_
     obtain rfl := Option.some.inj hM
     exact ⟨rfl, hds, hs⟩
    ·refine OK rfl rfl rfl (by rw [hg20]; rfl) rfl <| OK rfl rfl rfl (by rw [hg20]; rfl) rfl <| OG rfl rfl rfl rfl (r_pickF (v := Value.bool false) rfl hg20 rfl) rfl <| O (r_pickF (v := Value.bool false) rfl rfl rfl) rfl <| O (r_assign (v := Value.bool false) rfl) rfl <| OW_nil ?_
     obtain rfl := Option.some.inj hM
     exact ⟨rfl, hds, hs⟩
 ·clear hs
  rintro E w ⟨hE2, hds, hs⟩
  have hM := hKhx1
  obtain ⟨E, rfl⟩ := open1 (E := E) hE2
  refine WP_ret ?_
  obtain rfl := Option.some.inj hM
  refine FL_nil hds ?_
  exact ⟨_, res1 Try.results56 (rv_tmp (v := Value.bool xv1) rfl), g0, ⟨[Value.bool xv1], rfl, rfl⟩, hs.ext⟩

set_option maxRecDepth 100000 in
theorem regex_reader_escape_ok {p1 : T_regex_reader} {r : Rt (Int × T_regex_reader)} (hM : M.regex_reader_escape p1 = some r) {g0 : Hp} {w0 : World} {gi : Hp} {wi : World} {Lt : List Res} {b1 : Nat} (hs : Sep g0 w0 gi wi (Go.Lx.box b1 65 ([encS p1.s, Value.int .i64 p1.atv]) :: Lt)) :
    CallsX Try.prog 54 #[Value.pointer (some ⟨b1, 0, none⟩)] wi 62 r (fun r v w' => ∃ g', (VRd (tInt .u8) false g' v r.1) ∧ Hle gi g' ∧ Sep g0 w0 g' w' (Go.Lx.box b1 65 ([encS r.2.s, Value.int .i64 r.2.atv]) :: Lt)) (fun w' => ∃ g', Hle gi g' ∧ Sep g0 w0 g' w' Lt) := by
 unfold M.regex_reader_escape at hM
 have hagi := Hle.refl gi
 refine calls_of_WPX (args := [Value.pointer (some ⟨b1, 0, none⟩)]) Try.func54 rfl Try.ntmps54 rfl ?_
 have hds : (argEnv [Value.pointer (some ⟨b1, 0, none⟩)]).ds = [] := rfl
 refine WP_seq <| WP_region <| O (r_assign (v := Value.int .u8 0) rfl) rfl <| OW_nil ?_
 obtain ⟨o1, hx1, hKhx1⟩ := stepS hM
 refine WP_cut (fun E w => ∃ u9 : Unit, o1 = .next u9 ∧ ∃ (gg3 : Hp), E 0 = Value.pointer (some ⟨b1, 0, none⟩) ∧ E.ds = [] ∧ Hle gi gg3 ∧ Go.Lx.Sep g0 w0 gg3 w (Go.Lx.box b1 65 ([encS p1.s, Value.int .i64 p1.atv]) :: Lt)) ?_ ?_
 ·have hM := hx1
  refine WP_seq <| WP_draw mo (by decide +kernel) ?_
  have hs := hs.drew
  refine S (r_move (v := Value.pointer (some ⟨b1, 0, none⟩)) rfl) rfl <| S (r_nilCheck rfl) rfl <| S (r_fieldAddr Try.underlying65 ti3 rfl rfl (by decide) rfl rfl) rfl <| S (r_load (v := Value.int .i64 p1.atv) ti3 rfl (hs.cell (i := 0) (o := 1) rfl rfl)) rfl <| S (r_move (v := Value.pointer (some ⟨b1, 0, none⟩)) rfl) rfl <| S (r_nilCheck rfl) rfl <| S (r_fieldAddr Try.underlying65 ti9 rfl rfl (by decide) rfl rfl) rfl <| S (r_load (v := encS p1.s) ti9 rfl (hs.cell (i := 0) (o := 0) rfl rfl)) rfl <| S (r_lenStr Try.underlying9 rfl) rfl <| S (r_eql rfl rfl) rfl <| SW_nil ?_
  rcases condS hM with ⟨hc2, hM⟩ | ⟨hc2, hM⟩
  ·refine WP_true rfl hc2 <| WP_region <| O (r_move (v := Value.pointer (some ⟨b1, 0, none⟩)) rfl) rfl ?_
   rcases rtS hM with ⟨rv2, hrv2, hM⟩ | ⟨px2, hpx2, hM⟩
   ·refine C [Value.pointer (some ⟨b1, 0, none⟩)] cf23 rfl (regex_reader_fail_ok hrv2 hs) rfl ?_
    rintro v2 wv4 ⟨gg5, hvv2, hlegg5, hs⟩
    replace hagi := hagi.trans hlegg5
    refine OW_nil ?_
    obtain rfl := Option.some.inj hM
    exact ⟨(), rfl, gg5, rfl, hds, hagi, hs⟩
   ·refine CN [Value.pointer (some ⟨b1, 0, none⟩)] cf23 rfl (regex_reader_fail_ok hpx2 hs) ?_
    rintro wv3 ⟨gg4, hlegg4, hs⟩
    replace hagi := hagi.trans hlegg4
    obtain rfl := Option.some.inj hM
    have hM := hKhx1
    obtain rfl := Option.some.inj hM
    exact ⟨rfl, hds, gg4, hagi, Sep.tail (A := []) (L := Lt) hs⟩
  ·refine WP_false rfl hc2 <| WP_skip ?_
   obtain rfl := Option.some.inj hM
   exact ⟨(), rfl, gi, rfl, hds, (Hle.refl _), hs⟩
 ·clear hs
  rintro E w ⟨_, rfl, gg3, hE0, hds, hlegg3, hs⟩
  have hM := hKhx1
  dsimp only [onStep] at hM
  obtain ⟨E, rfl⟩ := open1 (E := E) hE0
  replace hagi := hagi.trans hlegg3
  refine WP_seq <| WP_draw mo (by decide +kernel) ?_
  have hs := hs.drew
  refine S (r_move (v := Value.pointer (some ⟨b1, 0, none⟩)) rfl) rfl <| S (r_nilCheck rfl) rfl <| S (r_fieldAddr Try.underlying65 ti9 rfl rfl (by decide) rfl rfl) rfl <| S (r_load (v := encS p1.s) ti9 rfl (hs.cell (i := 0) (o := 0) rfl rfl)) rfl <| S (r_move (v := Value.pointer (some ⟨b1, 0, none⟩)) rfl) rfl <| S (r_nilCheck rfl) rfl <| S (r_fieldAddr Try.underlying65 ti3 rfl rfl (by decide) rfl rfl) rfl <| S (r_load (v := Value.int .i64 p1.atv) ti3 rfl (hs.cell (i := 0) (o := 1) rfl rfl)) rfl ?_
  obtain ⟨c1, hc1, hM⟩ := bindS hM
  refine S (r_idxStr Try.underlying9 rfl rfl hc1) rfl <| S (r_assign (v := Value.int .u8 c1) rfl) rfl <| SW_nil ?_
  obtain ⟨o2, hx3, hKhx3⟩ := stepS hM
  refine WP_cut (fun E w => ∃ (b2 : Int), o2 = .next b2 ∧ ∃ (gg11 : Hp), E 0 = Value.pointer (some ⟨b1, 0, none⟩) ∧ E 3 = Value.int .u8 b2 ∧ E.ds = [] ∧ Hle gg3 gg11 ∧ Go.Lx.Sep g0 w0 gg11 w (Go.Lx.box b1 65 ([encS p1.s, Value.int .i64 p1.atv]) :: Lt)) ?_ ?_
  ·have hM := hx3
   have hagg3 := Hle.refl gg3
   refine WP_block <| WP_seq <| WP_region <| O (r_move (v := Value.int .u8 c1) rfl) rfl <| O (r_eql rfl rfl) rfl <| O (r_assign (v := Value.bool (c1 == 110)) rfl) rfl <| OW_nil ?_
   rcases condS hM with ⟨hc6, hM⟩ | ⟨hc6, hM⟩
   ·refine WP_true rfl hc6 <| WP_region <| O (r_assign (v := Value.int .u8 10) rfl) rfl <| OW_nil ?_
    obtain rfl := Option.some.inj hM
    exact ⟨(10 : Int), rfl, gg3, rfl, rfl, hds, (Hle.refl _), hs⟩
   ·refine WP_false rfl hc6 <| WP_seq <| WP_region <| O (r_move (v := Value.int .u8 c1) rfl) rfl <| O (r_eql rfl rfl) rfl <| O (r_assign (v := Value.bool (c1 == 116)) rfl) rfl <| OW_nil ?_
    rcases condS hM with ⟨hc7, hM⟩ | ⟨hc7, hM⟩
    ·refine WP_true rfl hc7 <| WP_region <| O (r_assign (v := Value.int .u8 9) rfl) rfl <| OW_nil ?_
     obtain rfl := Option.some.inj hM
     exact ⟨(9 : Int), rfl, gg3, rfl, rfl, hds, (Hle.refl _), hs⟩
    ·refine WP_false rfl hc7 ?_
     obtain ⟨xv2, hx4, hKhx4⟩ := bindS hM
     refine WP_cut (fun E w => ∃ (gg13 : Hp), E 0 = Value.pointer (some ⟨b1, 0, none⟩) ∧ E 3 = Value.int .u8 c1 ∧ E 31 = Value.bool xv2 ∧ E.ds = [] ∧ Hle gg3 gg13 ∧ Go.Lx.Sep g0 w0 gg13 w (Go.Lx.box b1 65 ([encS p1.s, Value.int .i64 p1.atv]) :: Lt)) ?_ ?_
     ·have hM := hx4
      refine WP_region <| O (r_move (v := Value.int .u8 c1) rfl) rfl <| O (r_lss rfl rfl) rfl <| O (r_move (v := Value.bool (decide (c1 < 32))) rfl) rfl ?_
      rcases condS hM with ⟨hg7, hM⟩ | ⟨hg7, hM⟩
      ·refine OK rfl rfl rfl (by rw [hg7]; rfl) rfl <| OK rfl rfl rfl (by rw [hg7]; rfl) rfl <| O (r_pickT (v := Value.bool true) rfl hg7 rfl) rfl <| O (r_move (v := Value.bool true) rfl) rfl <| OK rfl rfl rfl rfl rfl <| OK rfl rfl rfl rfl rfl <| O (r_pickT (v := Value.bool true) rfl rfl rfl) rfl <| O (r_assign (v := Value.bool true) rfl) rfl <| OW_nil ?_
       obtain rfl := Option.some.inj hM
       exact ⟨gg3, rfl, rfl, rfl, hds, (Hle.refl _), hs⟩
      ·refine OG rfl rfl rfl (by rw [hg7]; rfl) (r_move (v := Value.int .u8 c1) rfl) rfl <| OG rfl rfl rfl (by rw [hg7]; rfl) (r_gtr rfl rfl) rfl <| O (r_pickF (v := Value.bool (decide (126 < c1))) rfl hg7 rfl) rfl <| O (r_move (v := Value.bool (decide (126 < c1))) rfl) rfl ?_
       rcases condS hM with ⟨hg8, hM⟩ | ⟨hg8, hM⟩
       ·refine OK rfl rfl rfl (by rw [hg8]; rfl) rfl <| OK rfl rfl rfl (by rw [hg8]; rfl) rfl <| O (r_pickT (v := Value.bool true) rfl hg8 rfl) rfl <| O (r_assign (v := Value.bool true) rfl) rfl <| OW_nil ?_
        obtain rfl := Option.some.inj hM
        exact ⟨gg3, rfl, rfl, rfl, hds, (Hle.refl _), hs⟩
       ·refine OG rfl rfl rfl (by rw [hg8]; rfl) (r_move (v := Value.int .u8 c1) rfl) rfl ?_
        obtain ⟨rv7, hrv7, hM⟩ := bindS hM
        refine CG rfl rfl rfl (by rw [hg8]; rfl) [Value.int .u8 c1] cf56 rfl (regex_alphanumeric_ok hrv7 hs.imm) rfl ?_
        rintro v7 wv10 ⟨gg14, hvv7, hegg14⟩
        have hlegg14 := hegg14.le hs.imm
        replace hs := hs.call hegg14
        replace hagg3 := hagg3.trans hlegg14
        obtain ⟨cs4, rfl, hcs4⟩ := hvv7
        have hcs4 : cs4 = _ := hcs4; subst hcs4
        refine O (r_pickF (v := Value.bool rv7) rfl hg8 rfl) rfl <| O (r_assign (v := Value.bool rv7) rfl) rfl <| OW_nil ?_
        obtain rfl := Option.some.inj hM
        exact ⟨gg14, rfl, rfl, rfl, hds, hagg3, hs⟩
     ·clear hs
      rintro E w ⟨gg13, hE0, hE3, hE31, hds, hlegg13, hs⟩
      have hM := hKhx4
      obtain ⟨E, rfl⟩ := open3 (E := E) hE0 hE3 hE31
      replace hagi := hagi.trans hlegg13
      replace hagg3 := hagg3.trans hlegg13
      rcases condS hM with ⟨hc8, hM⟩ | ⟨hc8, hM⟩
      ·refine WP_true rfl hc8 <| WP_region <| O (r_move (v := Value.pointer (some ⟨b1, 0, none⟩)) rfl) rfl ?_
       rcases rtS hM with ⟨rv8, hrv8, hM⟩ | ⟨px4, hpx4, hM⟩
       ·refine C [Value.pointer (some ⟨b1, 0, none⟩)] cf23 rfl (regex_reader_fail_ok hrv8 hs) rfl ?_
        rintro v8 wv12 ⟨gg16, hvv8, hlegg16, hs⟩
        replace hagg3 := hagg3.trans hlegg16
        refine OW_nil ?_
        obtain rfl := Option.some.inj hM
        exact ⟨c1, rfl, gg16, rfl, rfl, hds, hagg3, hs⟩
       ·refine CN [Value.pointer (some ⟨b1, 0, none⟩)] cf23 rfl (regex_reader_fail_ok hpx4 hs) ?_
        rintro wv11 ⟨gg15, hlegg15, hs⟩
        replace hagi := hagi.trans hlegg15
        obtain rfl := Option.some.inj hM
        have hM := hKhx3
        obtain rfl := Option.some.inj hM
        exact ⟨rfl, hds, gg15, hagi, Sep.tail (A := []) (L := Lt) hs⟩
      ·refine WP_false rfl hc8 <| WP_skip ?_
       obtain rfl := Option.some.inj hM
       exact ⟨c1, rfl, gg13, rfl, rfl, hds, hagg3, hs⟩
  ·clear hs
   rintro E w ⟨b2, rfl, gg11, hE0, hE3, hds, hlegg11, hs⟩
   have hM := hKhx3
   dsimp only [onStep] at hM
   obtain ⟨E, rfl⟩ := open2 (E := E) hE0 hE3
   replace hagi := hagi.trans hlegg11
   refine WP_seq <| WP_region <| O (r_move (v := Value.pointer (some ⟨b1, 0, none⟩)) rfl) rfl <| O (r_nilCheck rfl) rfl <| O (r_fieldAddr Try.underlying65 ti3 rfl rfl (by decide) rfl rfl) rfl <| O (r_load (v := Value.int .i64 p1.atv) ti3 rfl (hs.cell (i := 0) (o := 1) rfl rfl)) rfl ?_
   obtain ⟨t1, ht1, hM⟩ := bindS hM
   refine O (r_addM rfl rfl ht1) rfl <| O (r_nilCheck rfl) rfl <| O (r_fieldAddr Try.underlying65 ti3 rfl rfl (by decide) rfl rfl) rfl <| OW_store1 ti3 hs (i := 0) rfl rfl (v := Value.int .i64 t1) rfl rfl (o := 1) (by simp) ?_
   intro wv13 hs
   refine OW_nil <| WP_seq <| WP_region <| O (r_move (v := Value.int .u8 b2) rfl) rfl <| O (r_assign (v := Value.int .u8 b2) rfl) rfl <| OW_nil <| WP_ret ?_
   obtain rfl := Option.some.inj hM
   refine FL_nil hds ?_
   exact ⟨_, res1 Try.results54 (rv_tmp (v := Value.int .u8 b2) rfl), gg11, ⟨[Value.int .u8 b2], rfl, rfl⟩, hagi, hs⟩

set_option maxRecDepth 100000 in
theorem regex_reader_char_ok {p1 : T_regex_reader} {not1 : Str} {r : Rt (Int × T_regex_reader)} (hM : M.regex_reader_char p1 not1 = some r) {g0 : Hp} {w0 : World} {gi : Hp} {wi : World} {Lt : List Res} {b1 : Nat} (hs : Sep g0 w0 gi wi (Go.Lx.box b1 65 ([encS p1.s, Value.int .i64 p1.atv]) :: Lt)) :
    CallsX Try.prog 48 #[Value.pointer (some ⟨b1, 0, none⟩), encS not1] wi 62 r (fun r v w' => ∃ g', (VRd (tInt .u8) false g' v r.1) ∧ Hle gi g' ∧ Sep g0 w0 g' w' (Go.Lx.box b1 65 ([encS r.2.s, Value.int .i64 r.2.atv]) :: Lt)) (fun w' => ∃ g', Hle gi g' ∧ Sep g0 w0 g' w' Lt) := by
 unfold M.regex_reader_char at hM
 have hagi := Hle.refl gi
 refine calls_of_WPX (args := [Value.pointer (some ⟨b1, 0, none⟩), encS not1]) Try.func48 rfl Try.ntmps48 rfl ?_
 have hds : (argEnv [Value.pointer (some ⟨b1, 0, none⟩), encS not1]).ds = [] := rfl
 refine WP_seq <| WP_region <| O (r_assign (v := Value.int .u8 0) rfl) rfl <| OW_nil ?_
 obtain ⟨o1, hx1, hKhx1⟩ := stepS hM
 refine WP_cut (fun E w => ∃ u9 : Unit, o1 = .next u9 ∧ ∃ (gg3 : Hp), E 0 = Value.pointer (some ⟨b1, 0, none⟩) ∧ E 1 = encS not1 ∧ E.ds = [] ∧ Hle gi gg3 ∧ Go.Lx.Sep g0 w0 gg3 w (Go.Lx.box b1 65 ([encS p1.s, Value.int .i64 p1.atv]) :: Lt)) ?_ ?_
 ·have hM := hx1
  refine WP_seq <| WP_draw mo (by decide +kernel) ?_
  have hs := hs.drew
  refine S (r_move (v := Value.pointer (some ⟨b1, 0, none⟩)) rfl) rfl <| S (r_nilCheck rfl) rfl <| S (r_fieldAddr Try.underlying65 ti3 rfl rfl (by decide) rfl rfl) rfl <| S (r_load (v := Value.int .i64 p1.atv) ti3 rfl (hs.cell (i := 0) (o := 1) rfl rfl)) rfl <| S (r_move (v := Value.pointer (some ⟨b1, 0, none⟩)) rfl) rfl <| S (r_nilCheck rfl) rfl <| S (r_fieldAddr Try.underlying65 ti9 rfl rfl (by decide) rfl rfl) rfl <| S (r_load (v := encS p1.s) ti9 rfl (hs.cell (i := 0) (o := 0) rfl rfl)) rfl <| S (r_lenStr Try.underlying9 rfl) rfl <| S (r_eql rfl rfl) rfl <| SW_nil ?_
  rcases condS hM with ⟨hc2, hM⟩ | ⟨hc2, hM⟩
  ·refine WP_true rfl hc2 <| WP_region <| O (r_move (v := Value.pointer (some ⟨b1, 0, none⟩)) rfl) rfl ?_
   rcases rtS hM with ⟨rv2, hrv2, hM⟩ | ⟨px2, hpx2, hM⟩
   ·refine C [Value.pointer (some ⟨b1, 0, none⟩)] cf23 rfl (regex_reader_fail_ok hrv2 hs) rfl ?_
    rintro v2 wv4 ⟨gg5, hvv2, hlegg5, hs⟩
    replace hagi := hagi.trans hlegg5
    refine OW_nil ?_
    obtain rfl := Option.some.inj hM
    exact ⟨(), rfl, gg5, rfl, rfl, hds, hagi, hs⟩
   ·refine CN [Value.pointer (some ⟨b1, 0, none⟩)] cf23 rfl (regex_reader_fail_ok hpx2 hs) ?_
    rintro wv3 ⟨gg4, hlegg4, hs⟩
    replace hagi := hagi.trans hlegg4
    obtain rfl := Option.some.inj hM
    have hM := hKhx1
    obtain rfl := Option.some.inj hM
    exact ⟨rfl, hds, gg4, hagi, Sep.tail (A := []) (L := Lt) hs⟩
  ·refine WP_false rfl hc2 <| WP_skip ?_
   obtain rfl := Option.some.inj hM
   exact ⟨(), rfl, gi, rfl, rfl, hds, (Hle.refl _), hs⟩
 ·clear hs
  rintro E w ⟨_, rfl, gg3, hE0, hE1, hds, hlegg3, hs⟩
  have hM := hKhx1
  dsimp only [onStep] at hM
  obtain ⟨E, rfl⟩ := open2 (E := E) hE0 hE1
  replace hagi := hagi.trans hlegg3
  refine WP_seq <| WP_draw mo (by decide +kernel) ?_
  have hs := hs.drew
  refine S (r_move (v := Value.pointer (some ⟨b1, 0, none⟩)) rfl) rfl <| S (r_nilCheck rfl) rfl <| S (r_fieldAddr Try.underlying65 ti9 rfl rfl (by decide) rfl rfl) rfl <| S (r_load (v := encS p1.s) ti9 rfl (hs.cell (i := 0) (o := 0) rfl rfl)) rfl <| S (r_move (v := Value.pointer (some ⟨b1, 0, none⟩)) rfl) rfl <| S (r_nilCheck rfl) rfl <| S (r_fieldAddr Try.underlying65 ti3 rfl rfl (by decide) rfl rfl) rfl <| S (r_load (v := Value.int .i64 p1.atv) ti3 rfl (hs.cell (i := 0) (o := 1) rfl rfl)) rfl ?_
  obtain ⟨c1, hc1, hM⟩ := bindS hM
  refine S (r_idxStr Try.underlying9 rfl rfl hc1) rfl <| S (r_assign (v := Value.int .u8 c1) rfl) rfl <| SW_nil <| WP_seq <| WP_seq <| WP_region <| O (r_move (v := Value.int .u8 c1) rfl) rfl <| O (r_eql rfl rfl) rfl <| OW_nil ?_
  rcases condS hM with ⟨hc3, hM⟩ | ⟨hc3, hM⟩
  ·refine WP_true rfl hc3 <| WP_seq <| WP_region <| O (r_move (v := Value.pointer (some ⟨b1, 0, none⟩)) rfl) rfl <| O (r_nilCheck rfl) rfl <| O (r_fieldAddr Try.underlying65 ti3 rfl rfl (by decide) rfl rfl) rfl <| O (r_load (v := Value.int .i64 p1.atv) ti3 rfl (hs.cell (i := 0) (o := 1) rfl rfl)) rfl ?_
   obtain ⟨t1, ht1, hM⟩ := bindS hM
   refine O (r_addM rfl rfl ht1) rfl <| O (r_nilCheck rfl) rfl <| O (r_fieldAddr Try.underlying65 ti3 rfl rfl (by decide) rfl rfl) rfl <| OW_store1 ti3 hs (i := 0) rfl rfl (v := Value.int .i64 t1) rfl rfl (o := 1) (by simp) ?_
   intro wv5 hs
   refine OW_nil <| WP_seq <| WP_region <| O (r_move (v := Value.pointer (some ⟨b1, 0, none⟩)) rfl) rfl ?_
   rcases rtS hM with ⟨rv3, hrv3, hM⟩ | ⟨px3, hpx3, hM⟩
   ·refine C [Value.pointer (some ⟨b1, 0, none⟩)] cf54 rfl (regex_reader_escape_ok hrv3 hs) rfl ?_
    rintro v3 wv7 ⟨gg7, hvv3, hlegg7, hs⟩
    replace hagi := hagi.trans hlegg7
    obtain ⟨cs1, rfl, hcs1⟩ := hvv3
    have hcs1 : cs1 = _ := hcs1; subst hcs1
    refine O (r_assign (v := Value.int .u8 rv3.1) rfl) rfl <| OW_nil <| WP_ret ?_
    obtain rfl := Option.some.inj hM
    refine FL_nil hds ?_
    exact ⟨_, res1 Try.results48 (rv_tmp (v := Value.int .u8 rv3.1) rfl), gg7, ⟨[Value.int .u8 rv3.1], rfl, rfl⟩, hagi, hs⟩
   ·refine CN [Value.pointer (some ⟨b1, 0, none⟩)] cf54 rfl (regex_reader_escape_ok hpx3 hs) ?_
    rintro wv6 ⟨gg6, hlegg6, hs⟩
    replace hagi := hagi.trans hlegg6
    obtain rfl := Option.some.inj hM
    exact ⟨rfl, hds, gg6, hagi, Sep.tail (A := []) (L := Lt) hs⟩
  ·refine WP_false rfl hc3 <| WP_skip ?_
   obtain ⟨o2, hx3, hKhx3⟩ := stepS hM
   refine WP_cut (fun E w => ∃ u9 : Unit, o2 = .next u9 ∧ ∃ (gg13 : Hp), E 0 = Value.pointer (some ⟨b1, 0, none⟩) ∧ E 5 = Value.int .u8 c1 ∧ E.ds = [] ∧ Hle gg3 gg13 ∧ Go.Lx.Sep g0 w0 gg13 w (Go.Lx.box b1 65 ([encS p1.s, Value.int .i64 p1.atv]) :: Lt)) ?_ ?_
   ·have hM := hx3
    have hagg3 := Hle.refl gg3
    obtain ⟨xv2, hx4, hKhx4⟩ := bindS hM
    refine WP_cut (fun E w => ∃ (gg15 : Hp), E 0 = Value.pointer (some ⟨b1, 0, none⟩) ∧ E 5 = Value.int .u8 c1 ∧ E 49 = Value.bool xv2 ∧ E.ds = [] ∧ Hle gg3 gg15 ∧ Go.Lx.Sep g0 w0 gg15 w (Go.Lx.box b1 65 ([encS p1.s, Value.int .i64 p1.atv]) :: Lt)) ?_ ?_
    ·have hM := hx4
     refine WP_region <| O (r_move (v := Value.int .u8 c1) rfl) rfl <| O (r_lss rfl rfl) rfl <| O (r_move (v := Value.bool (decide (c1 < 32))) rfl) rfl ?_
     rcases condS hM with ⟨hg7, hM⟩ | ⟨hg7, hM⟩
     ·refine OK rfl rfl rfl (by rw [hg7]; rfl) rfl <| OK rfl rfl rfl (by rw [hg7]; rfl) rfl <| O (r_pickT (v := Value.bool true) rfl hg7 rfl) rfl <| O (r_move (v := Value.bool true) rfl) rfl <| OK rfl rfl rfl rfl rfl <| OK rfl rfl rfl rfl rfl <| OK rfl rfl rfl rfl rfl <| OK rfl rfl rfl rfl rfl <| O (r_pickT (v := Value.bool true) rfl rfl rfl) rfl <| OW_nil ?_
      obtain rfl := Option.some.inj hM
      exact ⟨gg3, rfl, rfl, rfl, hds, (Hle.refl _), hs⟩
     ·refine OG rfl rfl rfl (by rw [hg7]; rfl) (r_move (v := Value.int .u8 c1) rfl) rfl <| OG rfl rfl rfl (by rw [hg7]; rfl) (r_gtr rfl rfl) rfl <| O (r_pickF (v := Value.bool (decide (126 < c1))) rfl hg7 rfl) rfl <| O (r_move (v := Value.bool (decide (126 < c1))) rfl) rfl ?_
      rcases condS hM with ⟨hg8, hM⟩ | ⟨hg8, hM⟩
      ·refine OK rfl rfl rfl (by rw [hg8]; rfl) rfl <| OK rfl rfl rfl (by rw [hg8]; rfl) rfl <| OK rfl rfl rfl (by rw [hg8]; rfl) rfl <| OK rfl rfl rfl (by rw [hg8]; rfl) rfl <| O (r_pickT (v := Value.bool true) rfl hg8 rfl) rfl <| OW_nil ?_
       obtain rfl := Option.some.inj hM
       exact ⟨gg3, rfl, rfl, rfl, hds, (Hle.refl _), hs⟩
      ·refine OG rfl rfl rfl (by rw [hg8]; rfl) (r_move (v := encS not1) rfl) rfl <| OG rfl rfl rfl (by rw [hg8]; rfl) (r_move (v := Value.int .u8 c1) rfl) rfl ?_
       obtain ⟨rv8, hrv8, hM⟩ := bindS hM
       refine CG rfl rfl rfl (by rw [hg8]; rfl) [encS not1, Value.int .u8 c1] cf55 rfl (strings_IndexByte_ok hrv8 hs.imm) rfl ?_
       rintro v8 wv13 ⟨gg16, hvv8, hegg16⟩
       have hlegg16 := hegg16.le hs.imm
       replace hs := hs.call hegg16
       replace hagg3 := hagg3.trans hlegg16
       obtain ⟨cs5, rfl, hcs5⟩ := hvv8
       have hcs5 : cs5 = _ := hcs5; subst hcs5
       refine OG rfl rfl rfl (by rw [hg8]; rfl) (r_geq rfl rfl) rfl <| O (r_pickF (v := Value.bool (decide (0 ≤ rv8))) rfl hg8 rfl) rfl <| OW_nil ?_
       obtain rfl := Option.some.inj hM
       exact ⟨gg16, rfl, rfl, rfl, hds, hagg3, hs⟩
    ·clear hs
     rintro E w ⟨gg15, hE0, hE5, hE49, hds, hlegg15, hs⟩
     have hM := hKhx4
     obtain ⟨E, rfl⟩ := open3 (E := E) hE0 hE5 hE49
     replace hagi := hagi.trans hlegg15
     replace hagg3 := hagg3.trans hlegg15
     rcases condS hM with ⟨hc5, hM⟩ | ⟨hc5, hM⟩
     ·refine WP_true rfl hc5 <| WP_region <| O (r_move (v := Value.pointer (some ⟨b1, 0, none⟩)) rfl) rfl ?_
      rcases rtS hM with ⟨rv9, hrv9, hM⟩ | ⟨px5, hpx5, hM⟩
      ·refine C [Value.pointer (some ⟨b1, 0, none⟩)] cf23 rfl (regex_reader_fail_ok hrv9 hs) rfl ?_
       rintro v9 wv15 ⟨gg18, hvv9, hlegg18, hs⟩
       replace hagg3 := hagg3.trans hlegg18
       refine OW_nil ?_
       obtain rfl := Option.some.inj hM
       exact ⟨(), rfl, gg18, rfl, rfl, hds, hagg3, hs⟩
      ·refine CN [Value.pointer (some ⟨b1, 0, none⟩)] cf23 rfl (regex_reader_fail_ok hpx5 hs) ?_
       rintro wv14 ⟨gg17, hlegg17, hs⟩
       replace hagi := hagi.trans hlegg17
       obtain rfl := Option.some.inj hM
       have hM := hKhx3
       obtain rfl := Option.some.inj hM
       exact ⟨rfl, hds, gg17, hagi, Sep.tail (A := []) (L := Lt) hs⟩
     ·refine WP_false rfl hc5 <| WP_skip ?_
      obtain rfl := Option.some.inj hM
      exact ⟨(), rfl, gg15, rfl, rfl, hds, hagg3, hs⟩
   ·clear hs
    rintro E w ⟨_, rfl, gg13, hE0, hE5, hds, hlegg13, hs⟩
    have hM := hKhx3
    dsimp only [onStep] at hM
    obtain ⟨E, rfl⟩ := open2 (E := E) hE0 hE5
    replace hagi := hagi.trans hlegg13
    refine WP_seq <| WP_region <| O (r_move (v := Value.pointer (some ⟨b1, 0, none⟩)) rfl) rfl <| O (r_nilCheck rfl) rfl <| O (r_fieldAddr Try.underlying65 ti3 rfl rfl (by decide) rfl rfl) rfl <| O (r_load (v := Value.int .i64 p1.atv) ti3 rfl (hs.cell (i := 0) (o := 1) rfl rfl)) rfl ?_
    obtain ⟨t2, ht2, hM⟩ := bindS hM
    refine O (r_addM rfl rfl ht2) rfl <| O (r_nilCheck rfl) rfl <| O (r_fieldAddr Try.underlying65 ti3 rfl rfl (by decide) rfl rfl) rfl <| OW_store1 ti3 hs (i := 0) rfl rfl (v := Value.int .i64 t2) rfl rfl (o := 1) (by simp) ?_
    intro wv16 hs
    refine OW_nil <| WP_seq <| WP_region <| O (r_move (v := Value.int .u8 c1) rfl) rfl <| O (r_assign (v := Value.int .u8 c1) rfl) rfl <| OW_nil <| WP_ret ?_
    obtain rfl := Option.some.inj hM
    refine FL_nil hds ?_
    exact ⟨_, res1 Try.results48 (rv_tmp (v := Value.int .u8 c1) rfl), gg13, ⟨[Value.int .u8 c1], rfl, rfl⟩, hagi, hs⟩

set_option maxRecDepth 100000 in
theorem regex_reader_element_ok {p1 : T_regex_reader} {r : Rt ((Vec 4) × T_regex_reader)} (hM : M.regex_reader_element p1 = some r) {g0 : Hp} {w0 : World} {gi : Hp} {wi : World} {Lt : List Res} {b1 : Nat} (hs : Sep g0 w0 gi wi (Go.Lx.box b1 65 ([encS p1.s, Value.int .i64 p1.atv]) :: Lt)) :
    CallsX Try.prog 50 #[Value.pointer (some ⟨b1, 0, none⟩)] wi 62 r (fun r v w' => ∃ g', (VRd (tVec 4 .u64) true g' v r.1) ∧ Hle gi g' ∧ Sep g0 w0 g' w' (Go.Lx.box b1 65 ([encS r.2.s, Value.int .i64 r.2.atv]) :: Lt)) (fun w' => ∃ g', Hle gi g' ∧ Sep g0 w0 g' w' Lt) := by
 unfold M.regex_reader_element at hM
 have hagi := Hle.refl gi
 refine calls_of_WPX (args := [Value.pointer (some ⟨b1, 0, none⟩)]) Try.func50 rfl Try.ntmps50 rfl ?_
 have hds : (argEnv [Value.pointer (some ⟨b1, 0, none⟩)]).ds = [] := rfl
 refine WP_seq <| WP_region <| OW_alloc ti51 hs (zs := (Vec.zero 4).1.map (Value.int .u64)) rfl rfl ?_
 intro b2 wv1 hs
 refine OW_nil <| WP_seq <| WP_region <| O (r_move (v := Value.pointer (some ⟨b1, 0, none⟩)) rfl) rfl ?_
 have hs : Go.Lx.Sep g0 w0 gi _ (Go.Lx.box b1 65 ([encS p1.s, Value.int .i64 p1.atv]) :: Go.Lx.box b2 51 ((Vec.zero 4).1.map (Value.int .u64)) :: Lt) := (Sep.selT (A := [Go.Lx.box b2 51 ((Vec.zero 4).1.map (Value.int .u64)), Go.Lx.box b1 65 ([encS p1.s, Value.int .i64 p1.atv])]) (A' := [Go.Lx.box b1 65 ([encS p1.s, Value.int .i64 p1.atv]), Go.Lx.box b2 51 ((Vec.zero 4).1.map (Value.int .u64))]) (L := Lt) hs [1, 0] (by decide) rfl)
 rcases rtS hM with ⟨lo1, hlo1, hM⟩ | ⟨px1, hpx1, hM⟩
 ·refine C [Value.pointer (some ⟨b1, 0, none⟩), encS [93, 92, 45]] cf48 rfl (regex_reader_char_ok hlo1 hs) rfl ?_
  rintro v1 wv3 ⟨gg2, hvv1, hlegg2, hs⟩
  replace hagi := hagi.trans hlegg2
  obtain ⟨cs1, rfl, hcs1⟩ := hvv1
  have hcs1 : cs1 = _ := hcs1; subst hcs1
  refine O (r_assign (v := Value.int .u8 lo1.1) rfl) rfl <| OW_nil <| WP_seq <| WP_region <| O (r_move (v := Value.int .u8 lo1.1) rfl) rfl <| O (r_assign (v := Value.int .u8 lo1.1) rfl) rfl <| OW_nil ?_
  obtain ⟨o1, hx1, hKhx1⟩ := stepS hM
  refine WP_cut (fun E w => ∃ (hiv2 : Int) (hiv3 : Str) (hiv4 : Int), o1 = .next (hiv2, hiv3, hiv4) ∧ ∃ (gg8 : Hp), E 2 = Value.pointer (some ⟨b2, 0, none⟩) ∧ E 3 = Value.int .u8 lo1.1 ∧ E 4 = Value.int .u8 hiv2 ∧ E.ds = [] ∧ Hle gg2 gg8 ∧ Go.Lx.Sep g0 w0 gg8 w (Go.Lx.box b1 65 ([encS hiv3, Value.int .i64 hiv4]) :: Go.Lx.box b2 51 ((Vec.zero 4).1.map (Value.int .u64)) :: Lt)) ?_ ?_
  ·have hM := hx1
   have hagg2 := Hle.refl gg2
   refine WP_seq <| WP_region <| O (r_move (v := Value.pointer (some ⟨b1, 0, none⟩)) rfl) rfl ?_
   obtain ⟨rv3, hrv3, hM⟩ := bindS hM
   refine C [Value.pointer (some ⟨b1, 0, none⟩)] cf29 rfl (regex_reader_peek_ok hrv3 hs) rfl ?_
   rintro v5 wv11 ⟨gg9, hvv5, hlegg9, hs⟩
   replace hagi := hagi.trans hlegg9
   replace hagg2 := hagg2.trans hlegg9
   obtain ⟨cs4, rfl, hcs4⟩ := hvv5
   have hcs4 : cs4 = _ := hcs4; subst hcs4
   refine O (r_eql rfl rfl) rfl <| OW_nil ?_
   rcases condS hM with ⟨hc3, hM⟩ | ⟨hc3, hM⟩
   ·refine WP_true rfl hc3 <| WP_seq <| WP_region <| O (r_move (v := Value.pointer (some ⟨b1, 0, none⟩)) rfl) rfl <| O (r_nilCheck rfl) rfl <| O (r_fieldAddr Try.underlying65 ti3 rfl rfl (by decide) rfl rfl) rfl <| O (r_load (v := Value.int .i64 lo1.2.atv) ti3 rfl (hs.cell (i := 0) (o := 1) rfl rfl)) rfl ?_
    obtain ⟨t2, ht2, hM⟩ := bindS hM
    refine O (r_addM rfl rfl ht2) rfl <| O (r_nilCheck rfl) rfl <| O (r_fieldAddr Try.underlying65 ti3 rfl rfl (by decide) rfl rfl) rfl <| OW_store1 ti3 hs (i := 0) rfl rfl (v := Value.int .i64 t2) rfl rfl (o := 1) (by simp) ?_
    intro wv12 hs
    refine OW_nil <| WP_seq <| WP_region <| O (r_move (v := Value.pointer (some ⟨b1, 0, none⟩)) rfl) rfl <| O (r_nilCheck rfl) rfl <| O (r_fieldAddr Try.underlying65 ti3 rfl rfl (by decide) rfl rfl) rfl <| O (r_load (v := Value.int .i64 t2) ti3 rfl (hs.cell (i := 0) (o := 1) rfl rfl)) rfl <| O (r_assign (v := Value.int .i64 t2) rfl) rfl <| OW_nil <| WP_seq <| WP_region <| O (r_move (v := Value.pointer (some ⟨b1, 0, none⟩)) rfl) rfl ?_
    rcases rtS hM with ⟨hiv5, hhiv5, hM⟩ | ⟨px4, hpx4, hM⟩
    ·refine C [Value.pointer (some ⟨b1, 0, none⟩), encS [93, 92, 45]] cf48 rfl (regex_reader_char_ok hhiv5 hs) rfl ?_
     rintro v6 wv14 ⟨gg11, hvv6, hlegg11, hs⟩
     replace hagi := hagi.trans hlegg11
     replace hagg2 := hagg2.trans hlegg11
     obtain ⟨cs5, rfl, hcs5⟩ := hvv6
     have hcs5 : cs5 = _ := hcs5; subst hcs5
     refine O (r_assign (v := Value.int .u8 hiv5.1) rfl) rfl <| OW_nil <| WP_seq <| WP_region <| O (r_move (v := Value.int .u8 hiv5.1) rfl) rfl <| O (r_move (v := Value.int .u8 lo1.1) rfl) rfl <| O (r_lss rfl rfl) rfl <| OW_nil ?_
     rcases condS hM with ⟨hc4, hM⟩ | ⟨hc4, hM⟩
     ·refine WP_true rfl hc4 <| WP_seq <| WP_region <| O (r_move (v := Value.pointer (some ⟨b1, 0, none⟩)) rfl) rfl <| O (r_move (v := Value.int .i64 t2) rfl) rfl <| O (r_nilCheck rfl) rfl <| O (r_fieldAddr Try.underlying65 ti3 rfl rfl (by decide) rfl rfl) rfl <| OW_store1 ti3 hs (i := 0) rfl rfl (v := Value.int .i64 t2) rfl rfl (o := 1) (by simp) ?_
      intro wv15 hs
      refine OW_nil <| WP_region <| O (r_move (v := Value.pointer (some ⟨b1, 0, none⟩)) rfl) rfl ?_
      rcases rtS hM with ⟨rv4, hrv4, hM⟩ | ⟨px5, hpx5, hM⟩
      ·refine C [Value.pointer (some ⟨b1, 0, none⟩)] cf23 rfl (regex_reader_fail_ok hrv4 hs) rfl ?_
       rintro v7 wv17 ⟨gg13, hvv7, hlegg13, hs⟩
       replace hagg2 := hagg2.trans hlegg13
       refine OW_nil ?_
       obtain rfl := Option.some.inj hM
       exact ⟨hiv5.1, hiv5.2.s, t2, rfl, gg13, rfl, rfl, rfl, hds, hagg2, hs⟩
      ·refine CN [Value.pointer (some ⟨b1, 0, none⟩)] cf23 rfl (regex_reader_fail_ok hpx5 hs) ?_
       rintro wv16 ⟨gg12, hlegg12, hs⟩
       replace hagi := hagi.trans hlegg12
       obtain rfl := Option.some.inj hM
       have hM := hKhx1
       obtain rfl := Option.some.inj hM
       exact ⟨rfl, hds, gg12, hagi, Sep.tail (A := [Go.Lx.box b2 51 ((Vec.zero 4).1.map (Value.int .u64))]) (L := Lt) hs⟩
     ·refine WP_false rfl hc4 <| WP_skip ?_
      obtain rfl := Option.some.inj hM
      exact ⟨hiv5.1, hiv5.2.s, hiv5.2.atv, rfl, gg11, rfl, rfl, rfl, hds, hagg2, hs⟩
    ·refine CN [Value.pointer (some ⟨b1, 0, none⟩), encS [93, 92, 45]] cf48 rfl (regex_reader_char_ok hpx4 hs) ?_
     rintro wv13 ⟨gg10, hlegg10, hs⟩
     replace hagi := hagi.trans hlegg10
     obtain rfl := Option.some.inj hM
     have hM := hKhx1
     obtain rfl := Option.some.inj hM
     exact ⟨rfl, hds, gg10, hagi, Sep.tail (A := [Go.Lx.box b2 51 ((Vec.zero 4).1.map (Value.int .u64))]) (L := Lt) hs⟩
   ·refine WP_false rfl hc3 <| WP_skip ?_
    obtain rfl := Option.some.inj hM
    exact ⟨lo1.1, lo1.2.s, lo1.2.atv, rfl, gg9, rfl, rfl, rfl, hds, hagg2, hs⟩
  ·clear hs
   rintro E w ⟨hiv2, hiv3, hiv4, rfl, gg8, hE2, hE3, hE4, hds, hlegg8, hs⟩
   have hM := hKhx1
   dsimp only [onStep] at hM
   obtain ⟨E, rfl⟩ := open3 (E := E) hE2 hE3 hE4
   replace hagi := hagi.trans hlegg8
   refine WP_seq <| WP_region <| O (r_move (v := Value.int .u8 lo1.1) rfl) rfl <| O (r_move (v := Value.int .u8 hiv2) rfl) rfl ?_
   obtain ⟨rv5, hrv5, hM⟩ := bindS hM
   refine C [Value.int .u8 lo1.1, Value.int .u8 hiv2] cf49 rfl (byteset_Range_ok hrv5 hs.imm) rfl ?_
   rintro v8 wv18 ⟨gg14, hvv8, hegg14⟩
   have hlegg14 := hegg14.le hs.imm
   replace hs := hs.call hegg14
   replace hagi := hagi.trans hlegg14
   obtain ⟨cs6, rfl, hcs6⟩ := hvv8
   have hcs6 : cs6 = _ := hcs6; subst hcs6
   refine OW_storeAll ti51 hs (i := 1) rfl rfl (v := encV .u64 rv5) rfl (vs := rv5.1.map (Value.int .u64)) rfl vec_one (by simp [rv5.2]) (by simp [rv5.2, (Vec.zero 4).2]) ?_
   intro wv19 hs
   refine OW_nil <| WP_ret ?_
   obtain rfl := Option.some.inj hM
   refine FL_nil hds ?_
   exact ⟨_, res1 Try.results50 (rv_cells (vs := rv5.1.map (Value.int .u64)) ti51 rfl (by simp [rv5.2]) (hs.cells (i := 1) rfl)), gg14, ⟨rv5.1.map (Value.int .u64), rfl, rfl⟩, hagi, (Sep.selT (A := [Go.Lx.box b1 65 ([encS hiv3, Value.int .i64 hiv4]), Go.Lx.box b2 51 (rv5.1.map (Value.int .u64))]) (A' := [Go.Lx.box b1 65 ([encS hiv3, Value.int .i64 hiv4])]) (L := Lt) hs [0] (by decide) rfl)⟩
 ·refine CN [Value.pointer (some ⟨b1, 0, none⟩), encS [93, 92, 45]] cf48 rfl (regex_reader_char_ok hpx1 hs) ?_
  rintro wv2 ⟨gg1, hlegg1, hs⟩
  replace hagi := hagi.trans hlegg1
  obtain rfl := Option.some.inj hM
  exact ⟨rfl, hds, gg1, hagi, Sep.tail (A := [Go.Lx.box b2 51 ((Vec.zero 4).1.map (Value.int .u64))]) (L := Lt) hs⟩

set_option maxRecDepth 100000 in
theorem regex_reader_bracket_ok {p1 : T_regex_reader} {r : Rt ((Vec 4) × T_regex_reader)} (hM : M.regex_reader_bracket p1 = some r) {g0 : Hp} {w0 : World} {gi : Hp} {wi : World} {Lt : List Res} {b1 : Nat} (hs : Sep g0 w0 gi wi (Go.Lx.box b1 65 ([encS p1.s, Value.int .i64 p1.atv]) :: Lt)) :
    CallsX Try.prog 46 #[Value.pointer (some ⟨b1, 0, none⟩)] wi 62 r (fun r v w' => ∃ g', (VRd (tVec 4 .u64) true g' v r.1) ∧ Hle gi g' ∧ Sep g0 w0 g' w' (Go.Lx.box b1 65 ([encS r.2.s, Value.int .i64 r.2.atv]) :: Lt)) (fun w' => ∃ g', Hle gi g' ∧ Sep g0 w0 g' w' Lt) := by
 unfold M.regex_reader_bracket at hM
 have hagi := Hle.refl gi
 refine calls_of_WPX (args := [Value.pointer (some ⟨b1, 0, none⟩)]) Try.func46 rfl Try.ntmps46 rfl ?_
 have hds : (argEnv [Value.pointer (some ⟨b1, 0, none⟩)]).ds = [] := rfl
 refine WP_seq <| WP_region <| OW_alloc ti51 hs (zs := (Vec.zero 4).1.map (Value.int .u64)) rfl rfl ?_
 intro b2 wv1 hs
 refine OW_nil <| WP_seq <| WP_region <| O (r_move (v := Value.pointer (some ⟨b1, 0, none⟩)) rfl) rfl ?_
 have hs : Go.Lx.Sep g0 w0 gi _ (Go.Lx.box b1 65 ([encS p1.s, Value.int .i64 p1.atv]) :: Go.Lx.box b2 51 ((Vec.zero 4).1.map (Value.int .u64)) :: Lt) := (Sep.selT (A := [Go.Lx.box b2 51 ((Vec.zero 4).1.map (Value.int .u64)), Go.Lx.box b1 65 ([encS p1.s, Value.int .i64 p1.atv])]) (A' := [Go.Lx.box b1 65 ([encS p1.s, Value.int .i64 p1.atv]), Go.Lx.box b2 51 ((Vec.zero 4).1.map (Value.int .u64))]) (L := Lt) hs [1, 0] (by decide) rfl)
 rcases rtS hM with ⟨rv1, hrv1, hM⟩ | ⟨px1, hpx1, hM⟩
 ·refine C [Value.pointer (some ⟨b1, 0, none⟩), Value.int .u8 91] cf45 rfl (regex_reader_expect_ok hrv1 hs) rfl ?_
  rintro v1 wv3 ⟨gg2, hvv1, hlegg2, hs⟩
  replace hagi := hagi.trans hlegg2
  refine OW_nil <| WP_seq <| WP_region <| O (r_move (v := Value.pointer (some ⟨b1, 0, none⟩)) rfl) rfl ?_
  obtain ⟨rv2, hrv2, hM⟩ := bindS hM
  refine C [Value.pointer (some ⟨b1, 0, none⟩)] cf29 rfl (regex_reader_peek_ok hrv2 hs) rfl ?_
  rintro v2 wv4 ⟨gg3, hvv2, hlegg3, hs⟩
  replace hagi := hagi.trans hlegg3
  obtain ⟨cs1, rfl, hcs1⟩ := hvv2
  have hcs1 : cs1 = _ := hcs1; subst hcs1
  refine O (r_eql rfl rfl) rfl <| O (r_assign (v := Value.bool (rv2 == 94)) rfl) rfl <| OW_nil ?_
  obtain ⟨p2, hx1, hKhx1⟩ := bindS hM
  refine WP_cut (fun E w => E 0 = Value.pointer (some ⟨b1, 0, none⟩) ∧ E 2 = Value.pointer (some ⟨b2, 0, none⟩) ∧ E 3 = Value.bool (rv2 == 94) ∧ E.ds = [] ∧ Go.Lx.Sep g0 w0 gg3 w (Go.Lx.box b1 65 ([encS rv1.s, Value.int .i64 p2]) :: Go.Lx.box b2 51 ((Vec.zero 4).1.map (Value.int .u64)) :: Lt)) ?_ ?_
  ·have hM := hx1
   have hagg3 := Hle.refl gg3
   refine WP_seq <| WP_region <| O (r_move (v := Value.bool (rv2 == 94)) rfl) rfl <| OW_nil ?_
   rcases condS hM with ⟨hc2, hM⟩ | ⟨hc2, hM⟩
   ·refine WP_true rfl hc2 <| WP_region <| O (r_move (v := Value.pointer (some ⟨b1, 0, none⟩)) rfl) rfl <| O (r_nilCheck rfl) rfl <| O (r_fieldAddr Try.underlying65 ti3 rfl rfl (by decide) rfl rfl) rfl <| O (r_load (v := Value.int .i64 rv1.atv) ti3 rfl (hs.cell (i := 0) (o := 1) rfl rfl)) rfl ?_
    obtain ⟨t2, ht2, hM⟩ := bindS hM
    refine O (r_addM rfl rfl ht2) rfl <| O (r_nilCheck rfl) rfl <| O (r_fieldAddr Try.underlying65 ti3 rfl rfl (by decide) rfl rfl) rfl <| OW_store1 ti3 hs (i := 0) rfl rfl (v := Value.int .i64 t2) rfl rfl (o := 1) (by simp) ?_
    intro wv6 hs
    refine OW_nil ?_
    obtain rfl := Option.some.inj hM
    exact ⟨rfl, rfl, rfl, hds, hs⟩
   ·refine WP_false rfl hc2 <| WP_skip ?_
    obtain rfl := Option.some.inj hM
    exact ⟨rfl, rfl, rfl, hds, hs⟩
  ·clear hs
   rintro E w ⟨hE0, hE2, hE3, hds, hs⟩
   have hM := hKhx1
   obtain ⟨E, rfl⟩ := open3 (E := E) hE0 hE2 hE3
   refine WP_seq <| WP_region <| O (r_move (v := Value.pointer (some ⟨b1, 0, none⟩)) rfl) rfl ?_
   rcases rtS hM with ⟨rv3, hrv3, hM⟩ | ⟨px2, hpx2, hM⟩
   ·refine C [Value.pointer (some ⟨b1, 0, none⟩)] cf50 rfl (regex_reader_element_ok hrv3 hs) rfl ?_
    rintro v3 wv8 ⟨gg5, hvv3, hlegg5, hs⟩
    replace hagi := hagi.trans hlegg5
    obtain ⟨cs2, rfl, hcs2⟩ := hvv3
    have hcs2 : cs2 = _ := hcs2; subst hcs2
    refine OW_alloc ti51 hs (zs := (Vec.zero 4).1.map (Value.int .u64)) rfl rfl ?_
    intro b3 wv9 hs
    refine OW_storeAll ti51 hs (i := 0) rfl rfl (v := encV .u64 rv3.1) rfl (vs := rv3.1.1.map (Value.int .u64)) rfl vec_one (by simp [rv3.1.2]) (by simp [rv3.1.2, (Vec.zero 4).2]) ?_
    intro wv10 hs
    refine OW_nil ?_
    obtain ⟨o3, hx2, hKhx2⟩ := stepS hM
    refine WP_cut (fun E w => ∃ (p9 : Str) (p10 : Int) (setv4 : (Vec 4)), o3 = .next (p9, p10, setv4) ∧ ∃ (gg30 : Hp), E 0 = Value.pointer (some ⟨b1, 0, none⟩) ∧ E 2 = Value.pointer (some ⟨b2, 0, none⟩) ∧ E 3 = Value.bool (rv2 == 94) ∧ E 4 = Value.pointer (some ⟨b3, 0, none⟩) ∧ E.ds = [] ∧ Hle gg5 gg30 ∧ Go.Lx.Sep g0 w0 gg30 w (Go.Lx.box b1 65 ([encS p9, Value.int .i64 p10]) :: Go.Lx.box b3 51 (setv4.1.map (Value.int .u64)) :: Go.Lx.box b2 51 ((Vec.zero 4).1.map (Value.int .u64)) :: Lt)) ?_ ?_
    ·have hM := hx2
     have hagg5 := Hle.refl gg5
     refine WP_block <| WP_loop (fun (st9 : Str × Int × (Vec 4)) E w => match st9 with | (p13, p14, setv6) => ∃ (gg39 : Hp), E 0 = Value.pointer (some ⟨b1, 0, none⟩) ∧ E 2 = Value.pointer (some ⟨b2, 0, none⟩) ∧ E 3 = Value.bool (rv2 == 94) ∧ E 4 = Value.pointer (some ⟨b3, 0, none⟩) ∧ E.ds = [] ∧ Hle gg5 gg39 ∧ Go.Lx.Sep g0 w0 gg39 w (Go.Lx.box b3 51 (setv6.1.map (Value.int .u64)) :: Go.Lx.box b1 65 ([encS p13, Value.int .i64 p14]) :: Go.Lx.box b2 51 ((Vec.zero 4).1.map (Value.int .u64)) :: Lt)) hM ⟨gg5, rfl, rfl, rfl, rfl, hds, (Hle.refl _), hs⟩ ?_
     clear hs hM
     rintro ⟨p13, p14, setv6⟩ o2 E w hM ⟨gg39, hE0, hE2, hE3, hE4, hds, hlegg39, hs⟩
     obtain ⟨E, rfl⟩ := open4 (E := E) hE0 hE2 hE3 hE4
     replace hagi := hagi.trans hlegg39
     have hagg39 := Hle.refl gg39
     refine WP_seq <| WP_seq <| WP_region <| O (r_move (v := Value.pointer (some ⟨b1, 0, none⟩)) rfl) rfl ?_
     have hs : Go.Lx.Sep g0 w0 gg39 _ (Go.Lx.box b1 65 ([encS p13, Value.int .i64 p14]) :: Go.Lx.box b3 51 (setv6.1.map (Value.int .u64)) :: Go.Lx.box b2 51 ((Vec.zero 4).1.map (Value.int .u64)) :: Lt) := (Sep.selT (A := [Go.Lx.box b3 51 (setv6.1.map (Value.int .u64)), Go.Lx.box b1 65 ([encS p13, Value.int .i64 p14]), Go.Lx.box b2 51 ((Vec.zero 4).1.map (Value.int .u64))]) (A' := [Go.Lx.box b1 65 ([encS p13, Value.int .i64 p14]), Go.Lx.box b3 51 (setv6.1.map (Value.int .u64)), Go.Lx.box b2 51 ((Vec.zero 4).1.map (Value.int .u64))]) (L := Lt) hs [1, 0, 2] (by decide) rfl)
     obtain ⟨rv19, hrv19, hM⟩ := bindS hM
     refine C [Value.pointer (some ⟨b1, 0, none⟩)] cf29 rfl (regex_reader_peek_ok hrv19 hs) rfl ?_
     rintro v29 wv56 ⟨gg48, hvv29, hlegg48, hs⟩
     replace hagi := hagi.trans hlegg48
     replace hlegg39 := hlegg39.trans hlegg48
     obtain ⟨cs28, rfl, hcs28⟩ := hvv29
     have hcs28 : cs28 = _ := hcs28; subst hcs28
     refine O (r_neq rfl rfl) rfl <| OW_nil ?_
     rcases condS hM with ⟨hc8, hM⟩ | ⟨hc8, hM⟩
     ·refine WP_true rfl hc8 <| WP_skip <| WP_block ?_
      rcases rtS hM with ⟨rv20, hrv20, hM⟩ | ⟨px8, hpx8, hM⟩
      ·obtain ⟨rv21, hrv21, hM⟩ := bindS hM
       refine WP_any (.q 0 (.q 1 (.s 2 (.s 3 (.s 4 (.leaf)))))) (SS g0 w0 gg48 (Go.Lx.box b3 51 (setv6.1.map (Value.int .u64)) :: Go.Lx.box b2 51 ((Vec.zero 4).1.map (Value.int .u64)) :: Lt)) mo (by decide +kernel) ?_
       have hs := hs.drew
       have hagg48 := Hle.refl gg48
       have hS : SS g0 w0 gg48 (Go.Lx.box b3 51 (setv6.1.map (Value.int .u64)) :: Go.Lx.box b2 51 ((Vec.zero 4).1.map (Value.int .u64)) :: Lt) _ := ⟨gg48, Hle.refl _, (Sep.selT (A := [Go.Lx.box b1 65 ([encS p13, Value.int .i64 p14]), Go.Lx.box b3 51 (setv6.1.map (Value.int .u64)), Go.Lx.box b2 51 ((Vec.zero 4).1.map (Value.int .u64))]) (A' := [Go.Lx.box b3 51 (setv6.1.map (Value.int .u64)), Go.Lx.box b2 51 ((Vec.zero 4).1.map (Value.int .u64))]) (L := Lt) hs [1, 2] (by decide) rfl)⟩
       refine A rfl hS (fun w9 ⟨g9, hle9, hs⟩ => r_loadN (cs := setv6.1.map (Value.int .u64)) ti51 rfl (by simp [setv6.2]) (hs.cells (i := 0) rfl)) rfl <| A rfl hS (fun w9 ⟨g9, hle9, hs⟩ => r_move (v := Value.pointer (some ⟨b1, 0, none⟩)) rfl) rfl <| A1 rfl <| C [Value.pointer (some ⟨b1, 0, none⟩)] cf50 rfl (regex_reader_element_ok hrv20 hs) rfl ?_
       rintro v32 wv62 ⟨gg53, hvv32, hlegg53, hs⟩
       replace hlegg39 := hlegg39.trans hlegg53
       replace hagg48 := hagg48.trans hlegg53
       obtain ⟨cs31, rfl, hcs31⟩ := hvv32
       have hcs31 : cs31 = _ := hcs31; subst hcs31
       refine OW_nil ?_
       replace hS := hS.to hagg48 (Sep.selT (A := [Go.Lx.box b1 65 ([encS rv20.2.s, Value.int .i64 rv20.2.atv]), Go.Lx.box b3 51 (setv6.1.map (Value.int .u64)), Go.Lx.box b2 51 ((Vec.zero 4).1.map (Value.int .u64))]) (A' := [Go.Lx.box b3 51 (setv6.1.map (Value.int .u64)), Go.Lx.box b2 51 ((Vec.zero 4).1.map (Value.int .u64))]) (L := Lt) hs [1, 2] (by decide) rfl)
       refine ⟨fun _ => hS, ?_⟩
       refine A1 rfl <| C [encV .u64 setv6, encV .u64 rv20.1] cf51 rfl (byteset_Union_ok hrv21 hs.imm) rfl ?_
       rintro v33 wv63 ⟨gg54, hvv33, hegg54⟩
       have hlegg54 := hegg54.le hs.imm
       replace hs := hs.call hegg54
       replace hlegg39 := hlegg39.trans hlegg54
       replace hagg48 := hagg48.trans hlegg54
       obtain ⟨cs32, rfl, hcs32⟩ := hvv33
       have hcs32 : cs32 = _ := hcs32; subst hcs32
       refine OW_nil ?_
       replace hS := hS.to hagg48 (Sep.selT (A := [Go.Lx.box b1 65 ([encS rv20.2.s, Value.int .i64 rv20.2.atv]), Go.Lx.box b3 51 (setv6.1.map (Value.int .u64)), Go.Lx.box b2 51 ((Vec.zero 4).1.map (Value.int .u64))]) (A' := [Go.Lx.box b3 51 (setv6.1.map (Value.int .u64)), Go.Lx.box b2 51 ((Vec.zero 4).1.map (Value.int .u64))]) (L := Lt) hs [1, 2] (by decide) rfl)
       refine ⟨fun _ => hS, ?_⟩
       refine A1 rfl <| OW_storeAll ti51 hs (i := 1) rfl rfl (v := encV .u64 rv21) rfl (vs := rv21.1.map (Value.int .u64)) rfl vec_one (by simp [rv21.2]) (by simp [rv21.2, setv6.2]) ?_
       intro wv64 hs
       refine OW_nil ?_
       refine ⟨fun h => absurd h (by decide +kernel), ?_⟩
       refine AN ?_
       obtain rfl := Option.some.inj hM
       exact ⟨gg54, rfl, rfl, rfl, rfl, hds, hlegg39, (Sep.selT (A := [Go.Lx.box b1 65 ([encS rv20.2.s, Value.int .i64 rv20.2.atv]), Go.Lx.box b3 51 (rv21.1.map (Value.int .u64)), Go.Lx.box b2 51 ((Vec.zero 4).1.map (Value.int .u64))]) (A' := [Go.Lx.box b3 51 (rv21.1.map (Value.int .u64)), Go.Lx.box b1 65 ([encS rv20.2.s, Value.int .i64 rv20.2.atv]), Go.Lx.box b2 51 ((Vec.zero 4).1.map (Value.int .u64))]) (L := Lt) hs [1, 0, 2] (by decide) rfl)⟩
      ·refine WP_any (.q 0 (.q 1 (.s 2 (.s 3 (.s 4 (.leaf)))))) (SS g0 w0 gg48 (Go.Lx.box b3 51 (setv6.1.map (Value.int .u64)) :: Go.Lx.box b2 51 ((Vec.zero 4).1.map (Value.int .u64)) :: Lt)) mo (by decide +kernel) ?_
       have hs := hs.drew
       have hagg48 := Hle.refl gg48
       have hS : SS g0 w0 gg48 (Go.Lx.box b3 51 (setv6.1.map (Value.int .u64)) :: Go.Lx.box b2 51 ((Vec.zero 4).1.map (Value.int .u64)) :: Lt) _ := ⟨gg48, Hle.refl _, (Sep.selT (A := [Go.Lx.box b1 65 ([encS p13, Value.int .i64 p14]), Go.Lx.box b3 51 (setv6.1.map (Value.int .u64)), Go.Lx.box b2 51 ((Vec.zero 4).1.map (Value.int .u64))]) (A' := [Go.Lx.box b3 51 (setv6.1.map (Value.int .u64)), Go.Lx.box b2 51 ((Vec.zero 4).1.map (Value.int .u64))]) (L := Lt) hs [1, 2] (by decide) rfl)⟩
       refine A rfl hS (fun w9 ⟨g9, hle9, hs⟩ => r_loadN (cs := setv6.1.map (Value.int .u64)) ti51 rfl (by simp [setv6.2]) (hs.cells (i := 0) rfl)) rfl <| A rfl hS (fun w9 ⟨g9, hle9, hs⟩ => r_move (v := Value.pointer (some ⟨b1, 0, none⟩)) rfl) rfl <| A1 rfl <| CN [Value.pointer (some ⟨b1, 0, none⟩)] cf50 rfl (regex_reader_element_ok hpx8 hs) ?_
       rintro wv59 ⟨gg51, hlegg51, hs⟩
       replace hagi := hagi.trans hlegg51
       obtain rfl := Option.some.inj hM
       refine fun hr => ?_
       have hM := congrArg some hr
       obtain rfl := Option.some.inj hM
       have hM := hKhx2
       obtain rfl := Option.some.inj hM
       exact ⟨rfl, hds, gg51, hagi, Sep.tail (A := [Go.Lx.box b3 51 (setv6.1.map (Value.int .u64)), Go.Lx.box b2 51 ((Vec.zero 4).1.map (Value.int .u64))]) (L := Lt) hs⟩
     ·refine WP_false rfl hc8 <| WP_exit ?_
      obtain rfl := Option.some.inj hM
      refine fun hr => ?_
      have hM := congrArg some hr
      obtain rfl := Option.some.inj hM
      exact ⟨p13, p14, setv6, rfl, gg48, rfl, rfl, rfl, rfl, hds, hlegg39, hs⟩
    ·clear hs
     rintro E w ⟨p9, p10, setv4, rfl, gg30, hE0, hE2, hE3, hE4, hds, hlegg30, hs⟩
     have hM := hKhx2
     dsimp only [onStep] at hM
     obtain ⟨E, rfl⟩ := open4 (E := E) hE0 hE2 hE3 hE4
     replace hagi := hagi.trans hlegg30
     refine WP_seq <| WP_region <| O (r_move (v := Value.pointer (some ⟨b1, 0, none⟩)) rfl) rfl <| O (r_nilCheck rfl) rfl <| O (r_fieldAddr Try.underlying65 ti3 rfl rfl (by decide) rfl rfl) rfl <| O (r_load (v := Value.int .i64 p10) ti3 rfl (hs.cell (i := 0) (o := 1) rfl rfl)) rfl ?_
     obtain ⟨t3, ht3, hM⟩ := bindS hM
     refine O (r_addM rfl rfl ht3) rfl <| O (r_nilCheck rfl) rfl <| O (r_fieldAddr Try.underlying65 ti3 rfl rfl (by decide) rfl rfl) rfl <| OW_store1 ti3 hs (i := 0) rfl rfl (v := Value.int .i64 t3) rfl rfl (o := 1) (by simp) ?_
     intro wv65 hs
     refine OW_nil <| WP_seq <| WP_seq <| WP_region <| O (r_move (v := Value.bool (rv2 == 94)) rfl) rfl <| OW_nil ?_
     rcases condS hM with ⟨hc9, hM⟩ | ⟨hc9, hM⟩
     ·refine WP_true rfl hc9 <| WP_seq <| WP_region <| O (r_loadN (cs := setv4.1.map (Value.int .u64)) ti51 rfl (by simp [setv4.2]) (hs.cells (i := 1) rfl)) rfl ?_
      obtain ⟨rv22, hrv22, hM⟩ := bindS hM
      refine C [encV .u64 setv4] cf52 rfl (byteset_Complement_ok hrv22 hs.imm) rfl ?_
      rintro v34 wv66 ⟨gg55, hvv34, hegg55⟩
      have hlegg55 := hegg55.le hs.imm
      replace hs := hs.call hegg55
      replace hagi := hagi.trans hlegg55
      obtain ⟨cs33, rfl, hcs33⟩ := hvv34
      have hcs33 : cs33 = _ := hcs33; subst hcs33
      refine OW_storeAll ti51 hs (i := 2) rfl rfl (v := encV .u64 rv22) rfl (vs := rv22.1.map (Value.int .u64)) rfl vec_one (by simp [rv22.2]) (by simp [rv22.2, (Vec.zero 4).2]) ?_
      intro wv67 hs
      refine OW_nil <| WP_ret ?_
      obtain rfl := Option.some.inj hM
      refine FL_nil hds ?_
      exact ⟨_, res1 Try.results46 (rv_cells (vs := rv22.1.map (Value.int .u64)) ti51 rfl (by simp [rv22.2]) (hs.cells (i := 2) rfl)), gg55, ⟨rv22.1.map (Value.int .u64), rfl, rfl⟩, hagi, (Sep.selT (A := [Go.Lx.box b1 65 ([encS p9, Value.int .i64 t3]), Go.Lx.box b3 51 (setv4.1.map (Value.int .u64)), Go.Lx.box b2 51 (rv22.1.map (Value.int .u64))]) (A' := [Go.Lx.box b1 65 ([encS p9, Value.int .i64 t3])]) (L := Lt) hs [0] (by decide) rfl)⟩
     ·refine WP_false rfl hc9 <| WP_skip <| WP_seq <| WP_region <| O (r_loadN (cs := setv4.1.map (Value.int .u64)) ti51 rfl (by simp [setv4.2]) (hs.cells (i := 1) rfl)) rfl <| OW_storeAll ti51 hs (i := 2) rfl rfl (v := encV .u64 setv4) rfl (vs := setv4.1.map (Value.int .u64)) rfl vec_one (by simp [setv4.2]) (by simp [setv4.2, (Vec.zero 4).2]) ?_
      intro wv68 hs
      refine OW_nil <| WP_ret ?_
      obtain rfl := Option.some.inj hM
      refine FL_nil hds ?_
      exact ⟨_, res1 Try.results46 (rv_cells (vs := setv4.1.map (Value.int .u64)) ti51 rfl (by simp [setv4.2]) (hs.cells (i := 2) rfl)), gg30, ⟨setv4.1.map (Value.int .u64), rfl, rfl⟩, hagi, (Sep.selT (A := [Go.Lx.box b1 65 ([encS p9, Value.int .i64 t3]), Go.Lx.box b3 51 (setv4.1.map (Value.int .u64)), Go.Lx.box b2 51 (setv4.1.map (Value.int .u64))]) (A' := [Go.Lx.box b1 65 ([encS p9, Value.int .i64 t3])]) (L := Lt) hs [0] (by decide) rfl)⟩
   ·refine CN [Value.pointer (some ⟨b1, 0, none⟩)] cf50 rfl (regex_reader_element_ok hpx2 hs) ?_
    rintro wv7 ⟨gg4, hlegg4, hs⟩
    replace hagi := hagi.trans hlegg4
    obtain rfl := Option.some.inj hM
    exact ⟨rfl, hds, gg4, hagi, Sep.tail (A := [Go.Lx.box b2 51 ((Vec.zero 4).1.map (Value.int .u64))]) (L := Lt) hs⟩
 ·refine CN [Value.pointer (some ⟨b1, 0, none⟩), Value.int .u8 91] cf45 rfl (regex_reader_expect_ok hpx1 hs) ?_
  rintro wv2 ⟨gg1, hlegg1, hs⟩
  replace hagi := hagi.trans hlegg1
  obtain rfl := Option.some.inj hM
  exact ⟨rfl, hds, gg1, hagi, Sep.tail (A := [Go.Lx.box b2 51 ((Vec.zero 4).1.map (Value.int .u64))]) (L := Lt) hs⟩


end Go.Proofs.Ytjdmfabmacdpgaa
