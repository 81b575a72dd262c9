/- The walks: what each function does is what its model says. Printed by a program of my own. -/
import Derived.Test.YtjdmfabmacdpgaaTyp
import Derived.Test.YtjdmfabmacdpgaaWalk3
set_option linter.unusedVariables false
set_option linter.unusedSimpArgs false
namespace Go.Proofs.Ytjdmfabmacdpgaa
open Go.Lx Go.RowKit
set_option maxRecDepth 100000 in
theorem lexrepair_Distance_ok {p1 : Str} {p2 : Str} {r : Int} (hM : M.lexrepair_Distance p1 p2 = some r) {g0 : Hp} {w0 : World} (hi : Imm g0 w0) :
    CallsV Try.prog 7 #[encS p1, encS p2] w0 (fun v w' => ∃ g', (VRd (tInt .i64) false g' v r) ∧ Ext g0 w0 g' w') := by
 unfold M.lexrepair_Distance at hM
 have hs := Sep.start hi
 refine calls_of_WP (args := [encS p1, encS p2]) Try.func7 rfl Try.ntmps7 rfl ?_
 have hds : (argEnv [encS p1, encS p2]).ds = [] := rfl
 refine WP_seq <| WP_region <| O (r_assign (v := Value.int .i64 0) rfl) rfl <| OW_nil ?_
 obtain ⟨l2, hx1, hKhx1⟩ := bindS hM
 refine WP_cut (fun E w => ∃ (v21 : Value) (xs21 : List Value) (v20 : Value) (xs20 : List Value) (v19 : Value) (xs19 : List Value), E 0 = encS p1 ∧ E 1 = encS p2 ∧ E 5 = v19 ∧ E 6 = v20 ∧ E 7 = v21 ∧ E.ds = [] ∧ RowRel (tInt .i64) g0 xs21 l2 ∧ RowRel (tInt .i64) g0 xs20 l2 ∧ RowRel (tInt .i64) g0 xs19 l2 ∧ Go.Lx.Sep g0 w0 g0 w [.row v21 3 (tInt .i64).sz l2.length xs21, .row v20 3 (tInt .i64).sz l2.length xs20, .row v19 3 (tInt .i64).sz l2.length xs19]) ?_ ?_
 ·have hM := hx1
  have hag0 := Hle.refl g0
  obtain ⟨t2, ht2, hM⟩ := bindS hM
  obtain ⟨l3, hl3, hM⟩ := bindS hM
  refine WP_any (.q 0 (.q 1 (.q 2 (.q 4 (.q 5 (.q 6 (.q 8 (.q 9 (.q 10 (.c 3 (.q 12 (.c 7 (.q 13 (.s 11 (.q 14 (.leaf)))) (.c 11 (.s 7 (.q 13 (.q 14 (.leaf)))) (.n)))) (.c 7 (.c 3 (.q 12 (.q 13 (.s 11 (.q 14 (.leaf))))) (.c 11 (.s 3 (.q 12 (.q 13 (.q 14 (.leaf))))) (.n))) (.c 11 (.c 3 (.q 12 (.s 7 (.q 13 (.q 14 (.leaf))))) (.c 7 (.s 3 (.q 12 (.q 13 (.q 14 (.leaf))))) (.n))) (.n))))))))))))) (SS g0 w0 g0 []) mo (by decide +kernel) ?_
  have hs := hs.drew
  have hS : SS g0 w0 g0 [] _ := ⟨g0, Hle.refl _, hs⟩
  refine A rfl hS (fun w9 ⟨g9, hle9, hs⟩ => r_move (v := encS p2) rfl) rfl <| A rfl hS (fun w9 ⟨g9, hle9, hs⟩ => r_lenStr Try.underlying9 rfl) rfl <| A rfl hS (fun w9 ⟨g9, hle9, hs⟩ => r_addM rfl rfl ht2) rfl <| A rfl hS (fun w9 ⟨g9, hle9, hs⟩ => r_move (v := encS p2) rfl) rfl <| A rfl hS (fun w9 ⟨g9, hle9, hs⟩ => r_lenStr Try.underlying9 rfl) rfl <| A rfl hS (fun w9 ⟨g9, hle9, hs⟩ => r_addM rfl rfl ht2) rfl <| A rfl hS (fun w9 ⟨g9, hle9, hs⟩ => r_move (v := encS p2) rfl) rfl <| A rfl hS (fun w9 ⟨g9, hle9, hs⟩ => r_lenStr Try.underlying9 rfl) rfl <| A rfl hS (fun w9 ⟨g9, hle9, hs⟩ => r_addM rfl rfl ht2) rfl <| A2 rfl ?_ ?_
  ·refine OW_make (τ := (tInt .i64)) (zc := [Value.int .i64 0]) (zx := 0) Try.underlying41 ti3 rfl rfl (by decide) hs rfl rfl hl3 rfl ?_
   intro v25 wv22 xs25 hrelxs25 hs
   refine OW_nil ?_
   replace hS := hS.to (Hle.refl _) (hs.sub (.cons _ .slnil))
   refine ⟨fun _ => hS, ?_⟩
   refine A rfl hS (fun w9 ⟨g9, hle9, hs⟩ => r_assign (v := v25) rfl) rfl <| A2 rfl ?_ ?_
   ·refine OW_make (τ := (tInt .i64)) (zc := [Value.int .i64 0]) (zx := 0) Try.underlying41 ti3 rfl rfl (by decide) hs rfl rfl hl3 rfl ?_
    intro v26 wv23 xs26 hrelxs26 hs
    refine OW_nil ?_
    replace hS := hS.to (Hle.refl _) (hs.sub (.cons _ (.cons _ .slnil)))
    refine ⟨fun _ => hS, ?_⟩
    refine A rfl hS (fun w9 ⟨g9, hle9, hs⟩ => r_assign (v := v26) rfl) rfl <| A1 rfl <| OW_make (τ := (tInt .i64)) (zc := [Value.int .i64 0]) (zx := 0) Try.underlying41 ti3 rfl rfl (by decide) hs rfl rfl hl3 rfl ?_
    intro v27 wv24 xs27 hrelxs27 hs
    refine OW_nil ?_
    replace hS := hS.to (Hle.refl _) (hs.sub (.cons _ (.cons _ (.cons _ .slnil))))
    refine ⟨fun _ => hS, ?_⟩
    refine A rfl hS (fun w9 ⟨g9, hle9, hs⟩ => r_assign (v := v27) rfl) rfl <| AN ?_
    obtain rfl := Option.some.inj hM
    exact ⟨v27, xs27, v26, xs26, v25, xs25, rfl, rfl, rfl, rfl, rfl, hds, hrelxs27, hrelxs26, hrelxs25, hs⟩
   refine A2 rfl ?_ ?_
   ·refine OW_make (τ := (tInt .i64)) (zc := [Value.int .i64 0]) (zx := 0) Try.underlying41 ti3 rfl rfl (by decide) hs rfl rfl hl3 rfl ?_
    intro v28 wv25 xs28 hrelxs28 hs
    refine OW_nil ?_
    replace hS := hS.to (Hle.refl _) (hs.sub (.cons _ (.cons _ .slnil)))
    refine ⟨fun _ => hS, ?_⟩
    refine A1 rfl <| OW_make (τ := (tInt .i64)) (zc := [Value.int .i64 0]) (zx := 0) Try.underlying41 ti3 rfl rfl (by decide) hs rfl rfl hl3 rfl ?_
    intro v29 wv26 xs29 hrelxs29 hs
    refine OW_nil ?_
    replace hS := hS.to (Hle.refl _) (hs.sub (.cons _ (.cons _ (.cons _ .slnil))))
    refine ⟨fun _ => hS, ?_⟩
    refine A rfl hS (fun w9 ⟨g9, hle9, hs⟩ => r_assign (v := v29) rfl) rfl <| A rfl hS (fun w9 ⟨g9, hle9, hs⟩ => r_assign (v := v28) rfl) rfl <| AN ?_
    obtain rfl := Option.some.inj hM
    exact ⟨v28, xs28, v29, xs29, v25, xs25, rfl, rfl, rfl, rfl, rfl, hds, hrelxs28, hrelxs29, hrelxs25, (hs.sel [1, 0, 2] (by decide) rfl)⟩
   trivial
  refine A2 rfl ?_ ?_
  ·refine OW_make (τ := (tInt .i64)) (zc := [Value.int .i64 0]) (zx := 0) Try.underlying41 ti3 rfl rfl (by decide) hs rfl rfl hl3 rfl ?_
   intro v30 wv27 xs30 hrelxs30 hs
   refine OW_nil ?_
   replace hS := hS.to (Hle.refl _) (hs.sub (.cons _ .slnil))
   refine ⟨fun _ => hS, ?_⟩
   refine A2 rfl ?_ ?_
   ·refine OW_make (τ := (tInt .i64)) (zc := [Value.int .i64 0]) (zx := 0) Try.underlying41 ti3 rfl rfl (by decide) hs rfl rfl hl3 rfl ?_
    intro v31 wv28 xs31 hrelxs31 hs
    refine OW_nil ?_
    replace hS := hS.to (Hle.refl _) (hs.sub (.cons _ (.cons _ .slnil)))
    refine ⟨fun _ => hS, ?_⟩
    refine A rfl hS (fun w9 ⟨g9, hle9, hs⟩ => r_assign (v := v31) rfl) rfl <| A rfl hS (fun w9 ⟨g9, hle9, hs⟩ => r_assign (v := v30) rfl) rfl <| A1 rfl <| OW_make (τ := (tInt .i64)) (zc := [Value.int .i64 0]) (zx := 0) Try.underlying41 ti3 rfl rfl (by decide) hs rfl rfl hl3 rfl ?_
    intro v32 wv29 xs32 hrelxs32 hs
    refine OW_nil ?_
    replace hS := hS.to (Hle.refl _) (hs.sub (.cons _ (.cons _ (.cons _ .slnil))))
    refine ⟨fun _ => hS, ?_⟩
    refine A rfl hS (fun w9 ⟨g9, hle9, hs⟩ => r_assign (v := v32) rfl) rfl <| AN ?_
    obtain rfl := Option.some.inj hM
    exact ⟨v32, xs32, v30, xs30, v31, xs31, rfl, rfl, rfl, rfl, rfl, hds, hrelxs32, hrelxs30, hrelxs31, (hs.sel [0, 2, 1] (by decide) rfl)⟩
   refine A2 rfl ?_ ?_
   ·refine OW_make (τ := (tInt .i64)) (zc := [Value.int .i64 0]) (zx := 0) Try.underlying41 ti3 rfl rfl (by decide) hs rfl rfl hl3 rfl ?_
    intro v33 wv30 xs33 hrelxs33 hs
    refine OW_nil ?_
    replace hS := hS.to (Hle.refl _) (hs.sub (.cons _ (.cons _ .slnil)))
    refine ⟨fun _ => hS, ?_⟩
    refine A1 rfl <| OW_make (τ := (tInt .i64)) (zc := [Value.int .i64 0]) (zx := 0) Try.underlying41 ti3 rfl rfl (by decide) hs rfl rfl hl3 rfl ?_
    intro v34 wv31 xs34 hrelxs34 hs
    refine OW_nil ?_
    replace hS := hS.to (Hle.refl _) (hs.sub (.cons _ (.cons _ (.cons _ .slnil))))
    refine ⟨fun _ => hS, ?_⟩
    refine A rfl hS (fun w9 ⟨g9, hle9, hs⟩ => r_assign (v := v34) rfl) rfl <| A rfl hS (fun w9 ⟨g9, hle9, hs⟩ => r_assign (v := v30) rfl) rfl <| A rfl hS (fun w9 ⟨g9, hle9, hs⟩ => r_assign (v := v33) rfl) rfl <| AN ?_
    obtain rfl := Option.some.inj hM
    exact ⟨v33, xs33, v30, xs30, v34, xs34, rfl, rfl, rfl, rfl, rfl, hds, hrelxs33, hrelxs30, hrelxs34, (hs.sel [1, 2, 0] (by decide) rfl)⟩
   trivial
  refine A2 rfl ?_ ?_
  ·refine OW_make (τ := (tInt .i64)) (zc := [Value.int .i64 0]) (zx := 0) Try.underlying41 ti3 rfl rfl (by decide) hs rfl rfl hl3 rfl ?_
   intro v35 wv32 xs35 hrelxs35 hs
   refine OW_nil ?_
   replace hS := hS.to (Hle.refl _) (hs.sub (.cons _ .slnil))
   refine ⟨fun _ => hS, ?_⟩
   refine A2 rfl ?_ ?_
   ·refine OW_make (τ := (tInt .i64)) (zc := [Value.int .i64 0]) (zx := 0) Try.underlying41 ti3 rfl rfl (by decide) hs rfl rfl hl3 rfl ?_
    intro v36 wv33 xs36 hrelxs36 hs
    refine OW_nil ?_
    replace hS := hS.to (Hle.refl _) (hs.sub (.cons _ (.cons _ .slnil)))
    refine ⟨fun _ => hS, ?_⟩
    refine A rfl hS (fun w9 ⟨g9, hle9, hs⟩ => r_assign (v := v36) rfl) rfl <| A1 rfl <| OW_make (τ := (tInt .i64)) (zc := [Value.int .i64 0]) (zx := 0) Try.underlying41 ti3 rfl rfl (by decide) hs rfl rfl hl3 rfl ?_
    intro v37 wv34 xs37 hrelxs37 hs
    refine OW_nil ?_
    replace hS := hS.to (Hle.refl _) (hs.sub (.cons _ (.cons _ (.cons _ .slnil))))
    refine ⟨fun _ => hS, ?_⟩
    refine A rfl hS (fun w9 ⟨g9, hle9, hs⟩ => r_assign (v := v37) rfl) rfl <| A rfl hS (fun w9 ⟨g9, hle9, hs⟩ => r_assign (v := v35) rfl) rfl <| AN ?_
    obtain rfl := Option.some.inj hM
    exact ⟨v35, xs35, v37, xs37, v36, xs36, rfl, rfl, rfl, rfl, rfl, hds, hrelxs35, hrelxs37, hrelxs36, (hs.sel [2, 0, 1] (by decide) rfl)⟩
   refine A2 rfl ?_ ?_
   ·refine OW_make (τ := (tInt .i64)) (zc := [Value.int .i64 0]) (zx := 0) Try.underlying41 ti3 rfl rfl (by decide) hs rfl rfl hl3 rfl ?_
    intro v38 wv35 xs38 hrelxs38 hs
    refine OW_nil ?_
    replace hS := hS.to (Hle.refl _) (hs.sub (.cons _ (.cons _ .slnil)))
    refine ⟨fun _ => hS, ?_⟩
    refine A1 rfl <| OW_make (τ := (tInt .i64)) (zc := [Value.int .i64 0]) (zx := 0) Try.underlying41 ti3 rfl rfl (by decide) hs rfl rfl hl3 rfl ?_
    intro v39 wv36 xs39 hrelxs39 hs
    refine OW_nil ?_
    replace hS := hS.to (Hle.refl _) (hs.sub (.cons _ (.cons _ (.cons _ .slnil))))
    refine ⟨fun _ => hS, ?_⟩
    refine A rfl hS (fun w9 ⟨g9, hle9, hs⟩ => r_assign (v := v39) rfl) rfl <| A rfl hS (fun w9 ⟨g9, hle9, hs⟩ => r_assign (v := v38) rfl) rfl <| A rfl hS (fun w9 ⟨g9, hle9, hs⟩ => r_assign (v := v35) rfl) rfl <| AN ?_
    obtain rfl := Option.some.inj hM
    exact ⟨v35, xs35, v38, xs38, v39, xs39, rfl, rfl, rfl, rfl, rfl, hds, hrelxs35, hrelxs38, hrelxs39, (hs.sel [2, 1, 0] (by decide) rfl)⟩
   trivial
  trivial
 ·clear hs
  rintro E w ⟨v21, xs21, v20, xs20, v19, xs19, hE0, hE1, hE5, hE6, hE7, hds, hrelxs21, hrelxs20, hrelxs19, hs⟩
  have hM := hKhx1
  obtain ⟨E, rfl⟩ := open5 (E := E) hE0 hE1 hE5 hE6 hE7
  obtain ⟨l7, hx2, hKhx2⟩ := bindS hM
  refine WP_cut (fun E w => ∃ (v45 : Value) (xs48 : List Value) (v44 : Value) (xs47 : List Value) (v43 : Value) (xs46 : List Value), E 0 = encS p1 ∧ E 1 = encS p2 ∧ E 5 = v43 ∧ E 6 = v44 ∧ E 7 = v45 ∧ E.ds = [] ∧ RowRel (tInt .i64) g0 xs48 l7 ∧ RowRel (tInt .i64) g0 xs47 l2 ∧ RowRel (tInt .i64) g0 xs46 l2 ∧ Go.Lx.Sep g0 w0 g0 w [.row v45 3 (tInt .i64).sz l7.length xs48, .row v44 3 (tInt .i64).sz l2.length xs47, .row v43 3 (tInt .i64).sz l2.length xs46]) ?_ ?_
  ·have hM := hx2
   have hag0 := Hle.refl g0
   refine WP_seq <| WP_region <| O (r_move (v := v21) rfl) rfl ?_
   obtain ⟨a2, ca2, hva2⟩ := hs.rowShape (i := 0) rfl
   refine O (r_lenSl (v := v21) Try.underlying41 rfl hva2) rfl <| O (r_move (v := Value.int .i64 0) rfl) rfl <| OW_nil <| WP_block <| WP_loop (fun (st9 : (List Int) × Int) E w => match st9 with | (l9, xv5) => ∃ (v47 : Value) (xs51 : List Value), E 0 = encS p1 ∧ E 1 = encS p2 ∧ E 5 = v19 ∧ E 6 = v20 ∧ E 7 = v47 ∧ E 25 = Value.int .i64 (l2.length : Int) ∧ E 26 = Value.int .i64 xv5 ∧ E.ds = [] ∧ RowRel (tInt .i64) g0 xs51 l9 ∧ Go.Lx.Sep g0 w0 g0 w [.row v47 3 (tInt .i64).sz l9.length xs51, .row v20 3 (tInt .i64).sz l2.length xs20, .row v19 3 (tInt .i64).sz l2.length xs19]) hM ⟨v21, xs21, rfl, rfl, rfl, rfl, rfl, rfl, rfl, hds, hrelxs21, hs⟩ ?_
   clear hs hM
   rintro ⟨l9, xv5⟩ o2 E w hM ⟨v47, xs51, hE0, hE1, hE5, hE6, hE7, hE25, hE26, hds, hrelxs51, hs⟩
   obtain ⟨E, rfl⟩ := open7 (E := E) hE0 hE1 hE5 hE6 hE7 hE25 hE26
   refine WP_seq <| WP_region <| O (r_lss rfl rfl) rfl <| OW_nil <| WP_seq ?_
   rcases condS hM with ⟨hc6, hM⟩ | ⟨hc6, hM⟩
   ·refine WP_true rfl hc6 <| WP_skip <| WP_seq <| WP_block <| WP_seq <| WP_region <| O (r_move (v := Value.int .i64 xv5) rfl) rfl <| O (r_assign (v := Value.int .i64 xv5) rfl) rfl <| OW_nil <| WP_region <| O (r_move (v := v47) rfl) rfl <| O (r_move (v := Value.int .i64 xv5) rfl) rfl <| O (r_move (v := Value.int .i64 xv5) rfl) rfl ?_
    obtain ⟨y6, hy6, hM⟩ := bindS hM
    obtain ⟨b6, cb6, hvb6, wv42, xs54, hstb6, hrelb6, hsb6⟩ := hs.rowPut (i := 0) rfl hrelxs51 hy6 (cs := [Value.int .i64 xv5]) rfl
    refine O (r_idxSl Try.underlying41 ti3 (v := v47) rfl hvb6 rfl (setL_some hy6).1 (setL_some hy6).2.1) rfl <| O0 (r_store ti3 rfl (v := Value.int .i64 xv5) rfl rfl hstb6) ?_
    have hs := hsb6
    refine OW_nil <| WP_region ?_
    obtain ⟨t8, ht8, hM⟩ := bindS hM
    refine O (r_addM rfl rfl ht8) rfl <| O (r_move (v := Value.int .i64 t8) rfl) rfl <| OW_nil ?_
    obtain rfl := Option.some.inj hM
    exact ⟨v47, xs54, rfl, rfl, rfl, rfl, rfl, rfl, rfl, hds, hrelb6, hs⟩
   ·refine WP_false rfl hc6 <| WP_exit ?_
    obtain rfl := Option.some.inj hM
    refine fun hr => ?_
    have hM := congrArg some hr
    obtain rfl := Option.some.inj hM
    exact ⟨v47, xs51, v20, xs20, v19, xs19, rfl, rfl, rfl, rfl, rfl, hds, hrelxs51, hrelxs20, hrelxs19, hs⟩
  ·clear hs
   rintro E w ⟨v45, xs48, v44, xs47, v43, xs46, hE0, hE1, hE5, hE6, hE7, hds, hrelxs48, hrelxs47, hrelxs46, hs⟩
   have hM := hKhx2
   obtain ⟨E, rfl⟩ := open5 (E := E) hE0 hE1 hE5 hE6 hE7
   obtain ⟨l24, hx127, hKhx127⟩ := bindS hM
   refine WP_cut (fun E w => ∃ (v220 : Value) (xs330 : List Value), E 1 = encS p2 ∧ E 7 = v220 ∧ E.ds = [] ∧ RowRel (tInt .i64) g0 xs330 l24 ∧ Go.Lx.Sep g0 w0 g0 w [.row v220 3 (tInt .i64).sz l24.length xs330]) ?_ ?_
   ·have hM := hx127
    have hag0 := Hle.refl g0
    refine WP_seq <| WP_region <| O (r_assign (v := Value.int .i64 1) rfl) rfl <| OW_nil <| WP_block <| WP_loop (fun (st9 : (List Int) × (List Int) × (List Int) × Int) E w => match st9 with | (l32, l33, l34, xv123) => ∃ (v310 : Value) (xs472 : List Value) (v309 : Value) (xs471 : List Value) (v308 : Value) (xs470 : List Value), E 0 = encS p1 ∧ E 1 = encS p2 ∧ E 5 = v308 ∧ E 6 = v309 ∧ E 7 = v310 ∧ E 9 = Value.int .i64 xv123 ∧ E.ds = [] ∧ RowRel (tInt .i64) g0 xs472 l34 ∧ RowRel (tInt .i64) g0 xs471 l33 ∧ RowRel (tInt .i64) g0 xs470 l32 ∧ Go.Lx.Sep g0 w0 g0 w [.row v310 3 (tInt .i64).sz l34.length xs472, .row v309 3 (tInt .i64).sz l33.length xs471, .row v308 3 (tInt .i64).sz l32.length xs470]) hM ⟨v45, xs48, v44, xs47, v43, xs46, rfl, rfl, rfl, rfl, rfl, rfl, hds, hrelxs48, hrelxs47, hrelxs46, hs⟩ ?_
    clear hs hM
    rintro ⟨l32, l33, l34, xv123⟩ o18 E w hM ⟨v310, xs472, v309, xs471, v308, xs470, hE0, hE1, hE5, hE6, hE7, hE9, hds, hrelxs472, hrelxs471, hrelxs470, hs⟩
    obtain ⟨E, rfl⟩ := open6 (E := E) hE0 hE1 hE5 hE6 hE7 hE9
    refine WP_seq <| WP_seq <| WP_region <| O (r_move (v := Value.int .i64 xv123) rfl) rfl <| O (r_move (v := encS p1) rfl) rfl <| O (r_lenStr Try.underlying9 rfl) rfl <| O (r_leq rfl rfl) rfl <| OW_nil ?_
    rcases condS hM with ⟨hc308, hM⟩ | ⟨hc308, hM⟩
    ·refine WP_true rfl hc308 <| WP_skip ?_
     obtain ⟨y299, hx236, hKhx236⟩ := bindS hM
     refine WP_cut (fun E w => ∃ (v372 : Value) (xs573 : List Value) (v371 : Value) (xs572 : List Value) (v373 : Value) (xs574 : List Value), E 0 = encS p1 ∧ E 1 = encS p2 ∧ E 5 = v371 ∧ E 6 = v372 ∧ E 7 = v373 ∧ E 9 = Value.int .i64 xv123 ∧ E.ds = [] ∧ RowRel (tInt .i64) g0 xs573 l34 ∧ RowRel (tInt .i64) g0 xs572 l33 ∧ RowRel (tInt .i64) g0 xs574 y299 ∧ Go.Lx.Sep g0 w0 g0 w [.row v372 3 (tInt .i64).sz l34.length xs573, .row v371 3 (tInt .i64).sz l33.length xs572, .row v373 3 (tInt .i64).sz y299.length xs574]) ?_ ?_
     ·have hM := hx236
      refine WP_block <| WP_seq <| WP_region <| O (r_move (v := v309) rfl) rfl <| O (r_move (v := v310) rfl) rfl <| O (r_move (v := v308) rfl) rfl <| O (r_assign (v := v309) rfl) rfl <| O (r_assign (v := v310) rfl) rfl <| O (r_assign (v := v308) rfl) rfl <| OW_nil <| WP_seq <| WP_region <| O (r_move (v := v308) rfl) rfl <| O (r_move (v := Value.int .i64 xv123) rfl) rfl ?_
      obtain ⟨y300, hy300, hM⟩ := bindS hM
      obtain ⟨b652, cb652, hvb652, wv238, xs575, hstb652, hrelb652, hsb652⟩ := hs.rowPut (i := 2) rfl hrelxs470 hy300 (cs := [Value.int .i64 xv123]) rfl
      refine O (r_idxSl Try.underlying41 ti3 (v := v308) rfl hvb652 rfl (setL_some hy300).1 (setL_some hy300).2.1) rfl <| O0 (r_store ti3 rfl (v := Value.int .i64 xv123) rfl rfl hstb652) ?_
      have hs := hsb652
      refine OW_nil <| WP_seq <| WP_region <| O (r_assign (v := Value.int .i64 1) rfl) rfl <| OW_nil <| WP_block <| WP_loop (fun (st9 : (List Int) × Int) E w => match st9 with | (y307, xv155) => ∃ (v381 : Value) (xs587 : List Value) (v380 : Value) (xs586 : List Value) (v382 : Value) (xs588 : List Value), E 0 = encS p1 ∧ E 1 = encS p2 ∧ E 5 = v380 ∧ E 6 = v381 ∧ E 7 = v382 ∧ E 9 = Value.int .i64 xv123 ∧ E 10 = Value.int .i64 xv155 ∧ E.ds = [] ∧ RowRel (tInt .i64) g0 xs587 l34 ∧ RowRel (tInt .i64) g0 xs586 l33 ∧ RowRel (tInt .i64) g0 xs588 y307 ∧ Go.Lx.Sep g0 w0 g0 w [.row v381 3 (tInt .i64).sz l34.length xs587, .row v380 3 (tInt .i64).sz l33.length xs586, .row v382 3 (tInt .i64).sz y307.length xs588]) hM ⟨v310, xs472, v309, xs471, v308, xs575, rfl, rfl, rfl, rfl, rfl, rfl, rfl, hds, hrelxs472, hrelxs471, hrelb652, hs⟩ ?_
      clear hs hM
      rintro ⟨y307, xv155⟩ o20 E w hM ⟨v381, xs587, v380, xs586, v382, xs588, hE0, hE1, hE5, hE6, hE7, hE9, hE10, hds, hrelxs587, hrelxs586, hrelxs588, hs⟩
      obtain ⟨E, rfl⟩ := open7 (E := E) hE0 hE1 hE5 hE6 hE7 hE9 hE10
      refine WP_seq <| WP_seq <| WP_region <| O (r_move (v := Value.int .i64 xv155) rfl) rfl <| O (r_move (v := encS p2) rfl) rfl <| O (r_lenStr Try.underlying9 rfl) rfl <| O (r_leq rfl rfl) rfl <| OW_nil ?_
      rcases condS hM with ⟨hc344, hM⟩ | ⟨hc344, hM⟩
      ·refine WP_true rfl hc344 <| WP_skip ?_
       obtain ⟨y316, hx249, hKhx249⟩ := bindS hM
       refine WP_cut (fun E w => ∃ (v390 : Value) (xs602 : List Value) (v389 : Value) (xs601 : List Value) (v391 : Value) (xs603 : List Value), E 0 = encS p1 ∧ E 1 = encS p2 ∧ E 5 = v389 ∧ E 6 = v390 ∧ E 7 = v391 ∧ E 9 = Value.int .i64 xv123 ∧ E 10 = Value.int .i64 xv155 ∧ E.ds = [] ∧ RowRel (tInt .i64) g0 xs602 l34 ∧ RowRel (tInt .i64) g0 xs601 l33 ∧ RowRel (tInt .i64) g0 xs603 y316 ∧ Go.Lx.Sep g0 w0 g0 w [.row v390 3 (tInt .i64).sz l34.length xs602, .row v389 3 (tInt .i64).sz l33.length xs601, .row v391 3 (tInt .i64).sz y316.length xs603]) ?_ ?_
       ·have hM := hx249
        refine WP_block <| WP_seq <| WP_region <| O (r_move (v := v381) rfl) rfl <| O (r_move (v := Value.int .i64 xv155) rfl) rfl ?_
        obtain ⟨t1535, ht1535, hM⟩ := bindS hM
        refine O (r_subM rfl rfl ht1535) rfl ?_
        obtain ⟨e476, he476, hM⟩ := bindS hM
        obtain ⟨b688, cb688, hvb688, cs476, hcs476, hcb688⟩ := hs.rowEl (i := 0) rfl hrelxs587 he476
        have hcs476 : cs476 = _ := hcs476; subst hcs476
        refine O (r_idxSl Try.underlying41 ti3 (v := v381) rfl hvb688 rfl (idxL_some he476).1 (idxL_some he476).2.1) rfl <| O (r_loadEl (cs := [Value.int .i64 e476]) ti3 rfl rfl (.inr rfl) (hcb688 _ (hs.at (i := 0) rfl)) (v := Value.int .i64 e476) rfl) rfl <| O (r_assign (v := Value.int .i64 e476) rfl) rfl <| OW_nil ?_
        obtain ⟨t1538, hx250, hKhx250⟩ := bindS hM
        refine WP_cut (fun E w => E 0 = encS p1 ∧ E 1 = encS p2 ∧ E 5 = v380 ∧ E 6 = v381 ∧ E 7 = v382 ∧ E 9 = Value.int .i64 xv123 ∧ E 10 = Value.int .i64 xv155 ∧ E 11 = Value.int .i64 t1538 ∧ E.ds = [] ∧ Go.Lx.Sep g0 w0 g0 w [.row v381 3 (tInt .i64).sz l34.length xs587, .row v380 3 (tInt .i64).sz l33.length xs586, .row v382 3 (tInt .i64).sz y307.length xs588]) ?_ ?_
        ·have hM := hx250
         refine WP_seq <| WP_draw mo (by decide +kernel) ?_
         have hs := hs.drew
         refine S (r_move (v := encS p1) rfl) rfl <| S (r_move (v := Value.int .i64 xv123) rfl) rfl ?_
         obtain ⟨t1539, ht1539, hM⟩ := bindS hM
         refine S (r_subM rfl rfl ht1539) rfl ?_
         obtain ⟨c1143, hc1143, hM⟩ := bindS hM
         refine S (r_idxStr Try.underlying9 rfl rfl hc1143) rfl <| S (r_move (v := encS p2) rfl) rfl <| S (r_move (v := Value.int .i64 xv155) rfl) rfl <| S (r_subM rfl rfl ht1535) rfl ?_
         obtain ⟨c1144, hc1144, hM⟩ := bindS hM
         refine S (r_idxStr Try.underlying9 rfl rfl hc1144) rfl <| S (r_neq rfl rfl) rfl <| SW_nil ?_
         rcases condS hM with ⟨hc349, hM⟩ | ⟨hc349, hM⟩
         ·refine WP_true rfl hc349 <| WP_region <| O (r_move (v := Value.int .i64 e476) rfl) rfl ?_
          obtain ⟨t1540, ht1540, hM⟩ := bindS hM
          refine O (r_addM rfl rfl ht1540) rfl <| O (r_assign (v := Value.int .i64 t1540) rfl) rfl <| OW_nil ?_
          obtain rfl := Option.some.inj hM
          exact ⟨rfl, rfl, rfl, rfl, rfl, rfl, rfl, rfl, hds, hs⟩
         ·refine WP_false rfl hc349 <| WP_skip ?_
          obtain rfl := Option.some.inj hM
          exact ⟨rfl, rfl, rfl, rfl, rfl, rfl, rfl, rfl, hds, hs⟩
        ·clear hs
         rintro E w ⟨hE0, hE1, hE5, hE6, hE7, hE9, hE10, hE11, hds, hs⟩
         have hM := hKhx250
         obtain ⟨E, rfl⟩ := open8 (E := E) hE0 hE1 hE5 hE6 hE7 hE9 hE10 hE11
         refine WP_seq <| WP_drawTail 16 mo (by decide +kernel) ?_
         have hs := hs.drew
         refine S (r_move (v := v382) rfl) rfl <| S (r_move (v := Value.int .i64 xv155) rfl) rfl <| S (r_move (v := Value.int .i64 t1538) rfl) rfl <| S (r_move (v := v381) rfl) rfl <| S (r_move (v := Value.int .i64 xv155) rfl) rfl ?_
         obtain ⟨e477, he477, hM⟩ := bindS hM
         obtain ⟨b689, cb689, hvb689, cs477, hcs477, hcb689⟩ := hs.rowEl (i := 0) rfl hrelxs587 he477
         have hcs477 : cs477 = _ := hcs477; subst hcs477
         refine S (r_idxSl Try.underlying41 ti3 (v := v381) rfl hvb689 rfl (idxL_some he477).1 (idxL_some he477).2.1) rfl <| S (r_loadEl (cs := [Value.int .i64 e477]) ti3 rfl rfl (.inr rfl) (hcb689 _ (hs.at (i := 0) rfl)) (v := Value.int .i64 e477) rfl) rfl ?_
         obtain ⟨t1541, ht1541, hM⟩ := bindS hM
         refine S (r_addM rfl rfl ht1541) rfl <| S (r_move (v := v382) rfl) rfl <| S (r_move (v := Value.int .i64 xv155) rfl) rfl <| S (r_subM rfl rfl ht1535) rfl ?_
         obtain ⟨e478, he478, hM⟩ := bindS hM
         obtain ⟨b690, cb690, hvb690, cs478, hcs478, hcb690⟩ := hs.rowEl (i := 2) rfl hrelxs588 he478
         have hcs478 : cs478 = _ := hcs478; subst hcs478
         refine S (r_idxSl Try.underlying41 ti3 (v := v382) rfl hvb690 rfl (idxL_some he478).1 (idxL_some he478).2.1) rfl <| S (r_loadEl (cs := [Value.int .i64 e478]) ti3 rfl rfl (.inr rfl) (hcb690 _ (hs.at (i := 2) rfl)) (v := Value.int .i64 e478) rfl) rfl ?_
         obtain ⟨t1542, ht1542, hM⟩ := bindS hM
         refine S (r_addM rfl rfl ht1542) rfl <| S (r_min3 rfl rfl rfl) rfl ?_
         obtain ⟨y317, hy317, hM⟩ := bindS hM
         obtain ⟨b691, cb691, hvb691, wv249, xs604, hstb691, hrelb691, hsb691⟩ := hs.rowPut (i := 2) rfl hrelxs588 hy317 (cs := [Value.int .i64 (min3 t1538 t1541 t1542)]) rfl
         refine S (r_idxSl Try.underlying41 ti3 (v := v382) rfl hvb691 rfl (setL_some hy317).1 (setL_some hy317).2.1) rfl <| SW_nil <| O0 (r_store ti3 rfl (v := Value.int .i64 (min3 t1538 t1541 t1542)) rfl rfl hstb691) ?_
         have hs := hsb691
         refine OW_nil ?_
         obtain ⟨xv160, hx251, hKhx251⟩ := bindS hM
         refine WP_cut (fun E w => E 0 = encS p1 ∧ E 1 = encS p2 ∧ E 5 = v380 ∧ E 6 = v381 ∧ E 7 = v382 ∧ E 9 = Value.int .i64 xv123 ∧ E 10 = Value.int .i64 xv155 ∧ E 111 = Value.bool xv160 ∧ E.ds = [] ∧ Go.Lx.Sep g0 w0 g0 w [.row v381 3 (tInt .i64).sz l34.length xs587, .row v380 3 (tInt .i64).sz l33.length xs586, .row v382 3 (tInt .i64).sz y317.length xs604]) ?_ ?_
         ·have hM := hx251
          refine WP_draw mo (by decide +kernel) ?_
          have hs := hs.drew
          refine S (r_move (v := Value.int .i64 xv123) rfl) rfl <| S (r_gtr rfl rfl) rfl <| S (r_move (v := Value.bool (decide (1 < xv123))) rfl) rfl ?_
          rcases condS hM with ⟨hg558, hM⟩ | ⟨hg558, hM⟩
          ·refine SG rfl rfl rfl (by rw [hg558]; rfl) (r_move (v := Value.int .i64 xv155) rfl) rfl <| SG rfl rfl rfl (by rw [hg558]; rfl) (r_gtr rfl rfl) rfl <| S (r_pickT (v := Value.bool (decide (1 < xv155))) rfl hg558 rfl) rfl <| S (r_move (v := Value.bool (decide (1 < xv155))) rfl) rfl ?_
           rcases condS hM with ⟨hg559, hM⟩ | ⟨hg559, hM⟩
           ·refine SG rfl rfl rfl (by rw [hg559]; rfl) (r_move (v := encS p1) rfl) rfl <| SG rfl rfl rfl (by rw [hg559]; rfl) (r_move (v := Value.int .i64 xv123) rfl) rfl ?_
            obtain ⟨t1546, ht1546, hM⟩ := bindS hM
            refine SG rfl rfl rfl (by rw [hg559]; rfl) (r_subM rfl rfl ht1546) rfl ?_
            obtain ⟨c1149, hc1149, hM⟩ := bindS hM
            refine SG rfl rfl rfl (by rw [hg559]; rfl) (r_idxStr Try.underlying9 rfl rfl hc1149) rfl <| SG rfl rfl rfl (by rw [hg559]; rfl) (r_move (v := encS p2) rfl) rfl <| SG rfl rfl rfl (by rw [hg559]; rfl) (r_move (v := Value.int .i64 xv155) rfl) rfl ?_
            obtain ⟨t1547, ht1547, hM⟩ := bindS hM
            refine SG rfl rfl rfl (by rw [hg559]; rfl) (r_subM rfl rfl ht1547) rfl ?_
            obtain ⟨c1150, hc1150, hM⟩ := bindS hM
            refine SG rfl rfl rfl (by rw [hg559]; rfl) (r_idxStr Try.underlying9 rfl rfl hc1150) rfl <| SG rfl rfl rfl (by rw [hg559]; rfl) (r_eql rfl rfl) rfl <| S (r_pickT (v := Value.bool (c1149 == c1150)) rfl hg559 rfl) rfl <| S (r_move (v := Value.bool (c1149 == c1150)) rfl) rfl ?_
            rcases condS hM with ⟨hg560, hM⟩ | ⟨hg560, hM⟩
            ·refine SG rfl rfl rfl (by rw [hg560]; rfl) (r_move (v := encS p1) rfl) rfl <| SG rfl rfl rfl (by rw [hg560]; rfl) (r_move (v := Value.int .i64 xv123) rfl) rfl ?_
             obtain ⟨t1548, ht1548, hM⟩ := bindS hM
             refine SG rfl rfl rfl (by rw [hg560]; rfl) (r_subM rfl rfl ht1548) rfl ?_
             obtain ⟨c1151, hc1151, hM⟩ := bindS hM
             refine SG rfl rfl rfl (by rw [hg560]; rfl) (r_idxStr Try.underlying9 rfl rfl hc1151) rfl <| SG rfl rfl rfl (by rw [hg560]; rfl) (r_move (v := encS p2) rfl) rfl <| SG rfl rfl rfl (by rw [hg560]; rfl) (r_move (v := Value.int .i64 xv155) rfl) rfl <| SG rfl rfl rfl (by rw [hg560]; rfl) (r_subM rfl rfl ht1535) rfl ?_
             obtain ⟨c1152, hc1152, hM⟩ := bindS hM
             refine SG rfl rfl rfl (by rw [hg560]; rfl) (r_idxStr Try.underlying9 rfl rfl hc1152) rfl <| SG rfl rfl rfl (by rw [hg560]; rfl) (r_eql rfl rfl) rfl <| S (r_pickT (v := Value.bool (c1151 == c1152)) rfl hg560 rfl) rfl <| SW_nil ?_
             obtain rfl := Option.some.inj hM
             exact ⟨rfl, rfl, rfl, rfl, rfl, rfl, rfl, rfl, hds, hs⟩
            ·refine SK rfl rfl rfl (by rw [hg560]; rfl) rfl <| SK rfl rfl rfl (by rw [hg560]; rfl) rfl <| SK rfl rfl rfl (by rw [hg560]; rfl) rfl <| SK rfl rfl rfl (by rw [hg560]; rfl) rfl <| SK rfl rfl rfl (by rw [hg560]; rfl) rfl <| SK rfl rfl rfl (by rw [hg560]; rfl) rfl <| SK rfl rfl rfl (by rw [hg560]; rfl) rfl <| SK rfl rfl rfl (by rw [hg560]; rfl) rfl <| SK rfl rfl rfl (by rw [hg560]; rfl) rfl <| S (r_pickF (v := Value.bool false) rfl hg560 rfl) rfl <| SW_nil ?_
             obtain rfl := Option.some.inj hM
             exact ⟨rfl, rfl, rfl, rfl, rfl, rfl, rfl, rfl, hds, hs⟩
           ·refine SK rfl rfl rfl (by rw [hg559]; rfl) rfl <| SK rfl rfl rfl (by rw [hg559]; rfl) rfl <| SK rfl rfl rfl (by rw [hg559]; rfl) rfl <| SK rfl rfl rfl (by rw [hg559]; rfl) rfl <| SK rfl rfl rfl (by rw [hg559]; rfl) rfl <| SK rfl rfl rfl (by rw [hg559]; rfl) rfl <| SK rfl rfl rfl (by rw [hg559]; rfl) rfl <| SK rfl rfl rfl (by rw [hg559]; rfl) rfl <| SK rfl rfl rfl (by rw [hg559]; rfl) rfl <| S (r_pickF (v := Value.bool false) rfl hg559 rfl) rfl <| S (r_move (v := Value.bool false) rfl) rfl <| SK rfl rfl rfl rfl rfl <| SK rfl rfl rfl rfl rfl <| SK rfl rfl rfl rfl rfl <| SK rfl rfl rfl rfl rfl <| SK rfl rfl rfl rfl rfl <| SK rfl rfl rfl rfl rfl <| SK rfl rfl rfl rfl rfl <| SK rfl rfl rfl rfl rfl ?_
            refine SK rfl rfl rfl rfl rfl <| S (r_pickF (v := Value.bool false) rfl rfl rfl) rfl <| SW_nil ?_
            obtain rfl := Option.some.inj hM
            exact ⟨rfl, rfl, rfl, rfl, rfl, rfl, rfl, rfl, hds, hs⟩
          ·refine SK rfl rfl rfl (by rw [hg558]; rfl) rfl <| SK rfl rfl rfl (by rw [hg558]; rfl) rfl <| S (r_pickF (v := Value.bool false) rfl hg558 rfl) rfl <| S (r_move (v := Value.bool false) rfl) rfl <| SK rfl rfl rfl rfl rfl <| SK rfl rfl rfl rfl rfl <| SK rfl rfl rfl rfl rfl <| SK rfl rfl rfl rfl rfl <| SK rfl rfl rfl rfl rfl <| SK rfl rfl rfl rfl rfl <| SK rfl rfl rfl rfl rfl <| SK rfl rfl rfl rfl rfl <| SK rfl rfl rfl rfl rfl <| S (r_pickF (v := Value.bool false) rfl rfl rfl) rfl <| S (r_move (v := Value.bool false) rfl) rfl <| SK rfl rfl rfl rfl rfl <| SK rfl rfl rfl rfl rfl <| SK rfl rfl rfl rfl rfl <| SK rfl rfl rfl rfl rfl <| SK rfl rfl rfl rfl rfl <| SK rfl rfl rfl rfl rfl <| SK rfl rfl rfl rfl rfl ?_
           refine SK rfl rfl rfl rfl rfl <| SK rfl rfl rfl rfl rfl <| S (r_pickF (v := Value.bool false) rfl rfl rfl) rfl <| SW_nil ?_
           obtain rfl := Option.some.inj hM
           exact ⟨rfl, rfl, rfl, rfl, rfl, rfl, rfl, rfl, hds, hs⟩
         ·clear hs
          rintro E w ⟨hE0, hE1, hE5, hE6, hE7, hE9, hE10, hE111, hds, hs⟩
          have hM := hKhx251
          obtain ⟨E, rfl⟩ := open8 (E := E) hE0 hE1 hE5 hE6 hE7 hE9 hE10 hE111
          rcases condS hM with ⟨hc350, hM⟩ | ⟨hc350, hM⟩
          ·refine WP_true rfl hc350 <| WP_drawTail 14 mo (by decide +kernel) ?_
           have hs := hs.drew
           refine S (r_move (v := v382) rfl) rfl <| S (r_move (v := Value.int .i64 xv155) rfl) rfl <| S (r_move (v := v382) rfl) rfl <| S (r_move (v := Value.int .i64 xv155) rfl) rfl ?_
           obtain ⟨e479, he479, hM⟩ := bindS hM
           obtain ⟨b692, cb692, hvb692, cs479, hcs479, hcb692⟩ := hs.rowEl (i := 2) rfl hrelb691 he479
           have hcs479 : cs479 = _ := hcs479; subst hcs479
           refine S (r_idxSl Try.underlying41 ti3 (v := v382) rfl hvb692 rfl (idxL_some he479).1 (idxL_some he479).2.1) rfl <| S (r_loadEl (cs := [Value.int .i64 e479]) ti3 rfl rfl (.inr rfl) (hcb692 _ (hs.at (i := 2) rfl)) (v := Value.int .i64 e479) rfl) rfl <| S (r_move (v := v380) rfl) rfl <| S (r_move (v := Value.int .i64 xv155) rfl) rfl ?_
           obtain ⟨t1549, ht1549, hM⟩ := bindS hM
           refine S (r_subM rfl rfl ht1549) rfl ?_
           obtain ⟨e480, he480, hM⟩ := bindS hM
           obtain ⟨b693, cb693, hvb693, cs480, hcs480, hcb693⟩ := hs.rowEl (i := 1) rfl hrelxs586 he480
           have hcs480 : cs480 = _ := hcs480; subst hcs480
           refine S (r_idxSl Try.underlying41 ti3 (v := v380) rfl hvb693 rfl (idxL_some he480).1 (idxL_some he480).2.1) rfl <| S (r_loadEl (cs := [Value.int .i64 e480]) ti3 rfl rfl (.inr rfl) (hcb693 _ (hs.at (i := 1) rfl)) (v := Value.int .i64 e480) rfl) rfl ?_
           obtain ⟨t1550, ht1550, hM⟩ := bindS hM
           refine S (r_addM rfl rfl ht1550) rfl <| S (r_min2 rfl rfl) rfl ?_
           obtain ⟨y318, hy318, hM⟩ := bindS hM
           obtain ⟨b694, cb694, hvb694, wv250, xs605, hstb694, hrelb694, hsb694⟩ := hs.rowPut (i := 2) rfl hrelb691 hy318 (cs := [Value.int .i64 (min2 e479 t1550)]) rfl
           refine S (r_idxSl Try.underlying41 ti3 (v := v382) rfl hvb694 rfl (setL_some hy318).1 (setL_some hy318).2.1) rfl <| SW_nil <| O0 (r_store ti3 rfl (v := Value.int .i64 (min2 e479 t1550)) rfl rfl hstb694) ?_
           have hs := hsb694
           refine OW_nil ?_
           obtain rfl := Option.some.inj hM
           exact ⟨v381, xs587, v380, xs586, v382, xs605, rfl, rfl, rfl, rfl, rfl, rfl, rfl, hds, hrelxs587, hrelxs586, hrelb694, hs⟩
          ·refine WP_false rfl hc350 <| WP_skip ?_
           obtain rfl := Option.some.inj hM
           exact ⟨v381, xs587, v380, xs586, v382, xs604, rfl, rfl, rfl, rfl, rfl, rfl, rfl, hds, hrelxs587, hrelxs586, hrelb691, hs⟩
       ·clear hs
        rintro E w ⟨v390, xs602, v389, xs601, v391, xs603, hE0, hE1, hE5, hE6, hE7, hE9, hE10, hds, hrelxs602, hrelxs601, hrelxs603, hs⟩
        have hM := hKhx249
        obtain ⟨E, rfl⟩ := open7 (E := E) hE0 hE1 hE5 hE6 hE7 hE9 hE10
        refine WP_region <| O (r_move (v := Value.int .i64 xv155) rfl) rfl ?_
        obtain ⟨t1551, ht1551, hM⟩ := bindS hM
        refine O (r_addM rfl rfl ht1551) rfl <| O (r_assign (v := Value.int .i64 t1551) rfl) rfl <| OW_nil ?_
        obtain rfl := Option.some.inj hM
        exact ⟨v390, xs602, v389, xs601, v391, xs603, rfl, rfl, rfl, rfl, rfl, rfl, rfl, hds, hrelxs602, hrelxs601, hrelxs603, hs⟩
      ·refine WP_false rfl hc344 <| WP_exit ?_
       obtain rfl := Option.some.inj hM
       refine fun hr => ?_
       have hM := congrArg some hr
       obtain rfl := Option.some.inj hM
       exact ⟨v381, xs587, v380, xs586, v382, xs588, rfl, rfl, rfl, rfl, rfl, rfl, hds, hrelxs587, hrelxs586, hrelxs588, hs⟩
     ·clear hs
      rintro E w ⟨v372, xs573, v371, xs572, v373, xs574, hE0, hE1, hE5, hE6, hE7, hE9, hds, hrelxs573, hrelxs572, hrelxs574, hs⟩
      have hM := hKhx236
      obtain ⟨E, rfl⟩ := open6 (E := E) hE0 hE1 hE5 hE6 hE7 hE9
      refine WP_region <| O (r_move (v := Value.int .i64 xv123) rfl) rfl ?_
      obtain ⟨t1552, ht1552, hM⟩ := bindS hM
      refine O (r_addM rfl rfl ht1552) rfl <| O (r_assign (v := Value.int .i64 t1552) rfl) rfl <| OW_nil ?_
      obtain rfl := Option.some.inj hM
      exact ⟨v373, xs574, v372, xs573, v371, xs572, rfl, rfl, rfl, rfl, rfl, rfl, hds, hrelxs574, hrelxs573, hrelxs572, (hs.sel [2, 0, 1] (by decide) rfl)⟩
    ·refine WP_false rfl hc308 <| WP_exit ?_
     obtain rfl := Option.some.inj hM
     refine fun hr => ?_
     have hM := congrArg some hr
     obtain rfl := Option.some.inj hM
     exact ⟨v310, xs472, rfl, rfl, hds, hrelxs472, (hs.sub (.cons_cons _ (.cons _ (.cons _ .slnil))))⟩
   ·clear hs
    rintro E w ⟨v220, xs330, hE1, hE7, hds, hrelxs330, hs⟩
    have hM := hKhx127
    obtain ⟨E, rfl⟩ := open2 (E := E) hE1 hE7
    refine WP_seq <| WP_region <| O (r_move (v := v220) rfl) rfl <| O (r_move (v := encS p2) rfl) rfl <| O (r_lenStr Try.underlying9 rfl) rfl ?_
    obtain ⟨e481, he481, hM⟩ := bindS hM
    obtain ⟨b695, cb695, hvb695, cs481, hcs481, hcb695⟩ := hs.rowEl (i := 0) rfl hrelxs330 he481
    have hcs481 : cs481 = _ := hcs481; subst hcs481
    refine O (r_idxSl Try.underlying41 ti3 (v := v220) rfl hvb695 rfl (idxL_some he481).1 (idxL_some he481).2.1) rfl <| O (r_loadEl (cs := [Value.int .i64 e481]) ti3 rfl rfl (.inr rfl) (hcb695 _ (hs.at (i := 0) rfl)) (v := Value.int .i64 e481) rfl) rfl <| O (r_assign (v := Value.int .i64 e481) rfl) rfl <| OW_nil <| WP_ret ?_
    obtain rfl := Option.some.inj hM
    refine FL_nil hds ?_
    exact ⟨_, res1 Try.results7 (rv_tmp (v := Value.int .i64 e481) rfl), g0, ⟨[Value.int .i64 e481], rfl, rfl⟩, hs.ext⟩

set_option maxRecDepth 100000 in
theorem lexrepair_Confusions_ok {p1 : T_LexSpec} {p2 : T_Token} {r : (List T_Confusion)} (hM : M.lexrepair_Confusions p1 p2 = some r) {g0 : Hp} {w0 : World} (hi : Imm g0 w0) {cs1 : List Value} (hcs1 : tT_LexSpec.rel g0 cs1 p1) {cs2 : List Value} (hcs2 : tT_Token.rel g0 cs2 p2) :
    CallsV Try.prog 13 #[Value.agg cs1.toArray, Value.agg cs2.toArray] w0 (fun v w' => ∃ g' y0, (RowRel tT_Confusion g' y0 r) ∧ Sep g0 w0 g' w' [.row v 40 tT_Confusion.sz r.length y0]) := by
 unfold M.lexrepair_Confusions at hM
 obtain ⟨cs3, cs4, cs5, cs6, rfl, hcs3, hcs4, hcs5, hcs6⟩ := hcs1
 obtain ⟨v1, rfl, hRv1⟩ := hcs3
 have hcs4 : cs4 = _ := hcs4; subst hcs4
 have hcs5 : cs5 = _ := hcs5; subst hcs5
 have hcs6 : cs6 = _ := hcs6; subst hcs6
 obtain ⟨cs7, cs8, cs9, cs10, rfl, hcs7, hcs8, hcs9, hcs10⟩ := hcs2
 have hcs7 : cs7 = _ := hcs7; subst hcs7
 have hcs8 : cs8 = _ := hcs8; subst hcs8
 have hcs9 : cs9 = _ := hcs9; subst hcs9
 have hcs10 : cs10 = _ := hcs10; subst hcs10
 have hs := Sep.start hi
 refine calls_of_WP (args := [Value.agg (List.toArray (α := Value) [v1, Value.bool p1.Layout, Value.int .i64 p1.Misspelling, Value.int .i64 p1.Unclosed]), Value.agg (List.toArray (α := Value) [Value.int .i64 p2.Kind, Value.int .i64 p2.At, encS p2.Text, Value.int .i64 p2.Look])]) Try.func13 rfl Try.ntmps13 rfl ?_
 have hds : (argEnv [Value.agg (List.toArray (α := Value) [v1, Value.bool p1.Layout, Value.int .i64 p1.Misspelling, Value.int .i64 p1.Unclosed]), Value.agg (List.toArray (α := Value) [Value.int .i64 p2.Kind, Value.int .i64 p2.At, encS p2.Text, Value.int .i64 p2.Look])]).ds = [] := rfl
 refine WP_seq <| WP_region <| OW_box (v := Value.agg (List.toArray (α := Value) [v1, Value.bool p1.Layout, Value.int .i64 p1.Misspelling, Value.int .i64 p1.Unclosed])) rfl hs (zs := [v1, Value.bool p1.Layout, Value.int .i64 p1.Misspelling, Value.int .i64 p1.Unclosed]) rfl rfl ?_
 intro b1 wv1 hs
 refine OW_box (v := Value.agg (List.toArray (α := Value) [Value.int .i64 p2.Kind, Value.int .i64 p2.At, encS p2.Text, Value.int .i64 p2.Look])) rfl hs (zs := [Value.int .i64 p2.Kind, Value.int .i64 p2.At, encS p2.Text, Value.int .i64 p2.Look]) rfl rfl ?_
 intro b2 wv2 hs
 refine O (r_assign (v := Value.slice none 0 0) rfl) rfl <| OW_nil <| WP_seq <| WP_region <| O (r_assign (v := Value.slice none 0 0) rfl) rfl <| OW_nil ?_
 obtain ⟨xv1, hx1, hKhx1⟩ := bindS hM
 refine WP_cut (fun E w => E 2 = Value.pointer (some ⟨b1, 0, none⟩) ∧ E 3 = Value.pointer (some ⟨b2, 0, none⟩) ∧ E 5 = Value.slice none 0 0 ∧ E 6 = Value.bool xv1 ∧ E.ds = [] ∧ Go.Lx.Sep g0 w0 g0 w [Go.Lx.box b2 35 ([Value.int .i64 p2.Kind, Value.int .i64 p2.At, encS p2.Text, Value.int .i64 p2.Look]), Go.Lx.box b1 31 ([v1, Value.bool p1.Layout, Value.int .i64 p1.Misspelling, Value.int .i64 p1.Unclosed])]) ?_ ?_
 ·have hM := hx1
  have hag0 := Hle.refl g0
  refine WP_region <| O (r_fieldAddr Try.underlying35 ti3 rfl rfl (by decide) rfl rfl) rfl <| O (r_load (v := Value.int .i64 p2.Kind) ti3 rfl (hs.cell (i := 0) (o := 0) rfl rfl)) rfl <| O (r_geq rfl rfl) rfl <| O (r_move (v := Value.bool (decide (0 ≤ p2.Kind))) rfl) rfl ?_
  rcases condS hM with ⟨hg3, hM⟩ | ⟨hg3, hM⟩
  ·refine OG rfl rfl rfl (by rw [hg3]; rfl) (r_fieldAddr Try.underlying35 ti3 rfl rfl (by decide) rfl rfl) rfl <| OG rfl rfl rfl (by rw [hg3]; rfl) (r_load (v := Value.int .i64 p2.Kind) ti3 rfl (hs.cell (i := 0) (o := 0) rfl rfl)) rfl <| OG rfl rfl rfl (by rw [hg3]; rfl) (r_fieldAddr Try.underlying31 ti29 rfl rfl (by decide) rfl rfl) rfl <| OG rfl rfl rfl (by rw [hg3]; rfl) (r_load (v := v1) ti29 rfl (hs.cell (i := 1) (o := 0) rfl rfl)) rfl ?_
   obtain ⟨a2, ca2, hva2⟩ := hRv1.shape
   refine OG rfl rfl rfl (by rw [hg3]; rfl) (r_lenSl (v := v1) Try.underlying29 rfl hva2) rfl <| OG rfl rfl rfl (by rw [hg3]; rfl) (r_lss rfl rfl) rfl <| O (r_pickT (v := Value.bool (decide (p2.Kind < (p1.Defs.length : Int)))) rfl hg3 rfl) rfl <| O (r_move (v := Value.bool (decide (p2.Kind < (p1.Defs.length : Int)))) rfl) rfl ?_
   rcases condS hM with ⟨hg4, hM⟩ | ⟨hg4, hM⟩
   ·refine OG rfl rfl rfl (by rw [hg4]; rfl) (r_fieldAddr Try.underlying31 ti29 rfl rfl (by decide) rfl rfl) rfl <| OG rfl rfl rfl (by rw [hg4]; rfl) (r_load (v := v1) ti29 rfl (hs.cell (i := 1) (o := 0) rfl rfl)) rfl <| OG rfl rfl rfl (by rw [hg4]; rfl) (r_fieldAddr Try.underlying35 ti3 rfl rfl (by decide) rfl rfl) rfl <| OG rfl rfl rfl (by rw [hg4]; rfl) (r_load (v := Value.int .i64 p2.Kind) ti3 rfl (hs.cell (i := 0) (o := 0) rfl rfl)) rfl ?_
    obtain ⟨e2, he2, hM⟩ := bindS hM
    obtain ⟨b4, ob4, cb4, hvb4, cs17, hcs17, hcb4⟩ := hRv1.at he2
    obtain ⟨cs18, cs19, cs20, cs21, cs22, rfl, hcs18, hcs19, hcs20, hcs21, hcs22⟩ := hcs17
    have hcs18 : cs18 = _ := hcs18; subst hcs18
    have hcs19 : cs19 = _ := hcs19; subst hcs19
    have hcs20 : cs20 = _ := hcs20; subst hcs20
    have hcs21 : cs21 = _ := hcs21; subst hcs21
    have hcs22 : cs22 = _ := hcs22; subst hcs22
    refine OG rfl rfl rfl (by rw [hg4]; rfl) (r_idxSl Try.underlying29 ti44 (v := v1) rfl hvb4 rfl (idxL_some he2).1 (idxL_some he2).2.1) rfl <| OG rfl rfl rfl (by rw [hg4]; rfl) (r_fieldAddr Try.underlying44 ti3 rfl rfl (by decide) rfl rfl) rfl <| OG rfl rfl rfl (by rw [hg4]; rfl) (r_loadEl (cs := [Value.int .i64 e2.Kind]) ti3 rfl rfl (.inr rfl) (elemField (cs := [encS e2.Name, Value.int .i64 e2.Kind, encS e2.Pattern, encS e2.Sample, encS e2.Close]) (hcb4 _ hs.imm) ([encS e2.Name]) ([Value.int .i64 e2.Kind]) ([encS e2.Pattern, encS e2.Sample, encS e2.Close]) rfl rfl) (v := Value.int .i64 e2.Kind) rfl) rfl <| OG rfl rfl rfl (by rw [hg4]; rfl) (r_eql rfl rfl) rfl <| O (r_pickT (v := Value.bool (e2.Kind == 1)) rfl hg4 rfl) rfl ?_
    refine O (r_assign (v := Value.bool (e2.Kind == 1)) rfl) rfl <| OW_nil ?_
    obtain rfl := Option.some.inj hM
    exact ⟨rfl, rfl, rfl, rfl, hds, hs⟩
   ·refine OK rfl rfl rfl (by rw [hg4]; rfl) rfl <| OK rfl rfl rfl (by rw [hg4]; rfl) rfl <| OK rfl rfl rfl (by rw [hg4]; rfl) rfl <| OK rfl rfl rfl (by rw [hg4]; rfl) rfl <| OK rfl rfl rfl (by rw [hg4]; rfl) rfl <| OK rfl rfl rfl (by rw [hg4]; rfl) rfl <| OK rfl rfl rfl (by rw [hg4]; rfl) rfl <| OK rfl rfl rfl (by rw [hg4]; rfl) rfl <| O (r_pickF (v := Value.bool false) rfl hg4 rfl) rfl <| O (r_assign (v := Value.bool false) rfl) rfl <| OW_nil ?_
    obtain rfl := Option.some.inj hM
    exact ⟨rfl, rfl, rfl, rfl, hds, hs⟩
  ·refine OK rfl rfl rfl (by rw [hg3]; rfl) rfl <| OK rfl rfl rfl (by rw [hg3]; rfl) rfl <| OK rfl rfl rfl (by rw [hg3]; rfl) rfl <| OK rfl rfl rfl (by rw [hg3]; rfl) rfl <| OK rfl rfl rfl (by rw [hg3]; rfl) rfl <| OK rfl rfl rfl (by rw [hg3]; rfl) rfl <| O (r_pickF (v := Value.bool false) rfl hg3 rfl) rfl <| O (r_move (v := Value.bool false) rfl) rfl <| OK rfl rfl rfl rfl rfl <| OK rfl rfl rfl rfl rfl <| OK rfl rfl rfl rfl rfl <| OK rfl rfl rfl rfl rfl <| OK rfl rfl rfl rfl rfl <| OK rfl rfl rfl rfl rfl <| OK rfl rfl rfl rfl rfl <| OK rfl rfl rfl rfl rfl <| O (r_pickF (v := Value.bool false) rfl rfl rfl) rfl <| O (r_assign (v := Value.bool false) rfl) rfl <| OW_nil ?_
   obtain rfl := Option.some.inj hM
   exact ⟨rfl, rfl, rfl, rfl, hds, hs⟩
 ·clear hs
  rintro E w ⟨hE2, hE3, hE5, hE6, hds, hs⟩
  have hM := hKhx1
  obtain ⟨E, rfl⟩ := open4 (E := E) hE2 hE3 hE5 hE6
  obtain ⟨xv20, hx17, hKhx17⟩ := bindS hM
  refine WP_cut (fun E w => ∃ (gg19 : Hp) (v44 : Value) (xs35 : List Value), E 5 = v44 ∧ E.ds = [] ∧ Hle g0 gg19 ∧ RowRel tT_Confusion gg19 xs35 xv20 ∧ Go.Lx.Sep g0 w0 gg19 w [.row v44 40 tT_Confusion.sz xv20.length xs35]) ?_ ?_
  ·have hM := hx17
   have hag0 := Hle.refl g0
   refine WP_seq <| WP_region <| O (r_fieldAddr Try.underlying31 ti29 rfl rfl (by decide) rfl rfl) rfl <| O (r_load (v := v1) ti29 rfl (hs.cell (i := 1) (o := 0) rfl rfl)) rfl ?_
   obtain ⟨a4, ca4, hva4⟩ := hRv1.shape
   refine O (r_lenSl (v := v1) Try.underlying29 rfl hva4) rfl <| O (r_move (v := Value.int .i64 0) rfl) rfl <| OW_nil <| WP_block ?_
   have hs := hs.nilRow 40 tT_Confusion.sz
   refine WP_loop (fun (st9 : (List T_Confusion) × Int) E w => match st9 with | (xv27, xv28) => ∃ (gg26 : Hp) (v59 : Value) (xs50 : List Value), E 2 = Value.pointer (some ⟨b1, 0, none⟩) ∧ E 3 = Value.pointer (some ⟨b2, 0, none⟩) ∧ E 5 = v59 ∧ E 6 = Value.bool xv1 ∧ E 32 = v1 ∧ E 33 = Value.int .i64 (p1.Defs.length : Int) ∧ E 34 = Value.int .i64 xv28 ∧ E.ds = [] ∧ Hle g0 gg26 ∧ RowRel tT_Confusion gg26 xs50 xv27 ∧ Go.Lx.Sep g0 w0 gg26 w [.row v59 40 tT_Confusion.sz xv27.length xs50, Go.Lx.box b2 35 ([Value.int .i64 p2.Kind, Value.int .i64 p2.At, encS p2.Text, Value.int .i64 p2.Look]), Go.Lx.box b1 31 ([v1, Value.bool p1.Layout, Value.int .i64 p1.Misspelling, Value.int .i64 p1.Unclosed])]) hM ⟨g0, (Value.slice none 0 0), [], rfl, rfl, rfl, rfl, rfl, rfl, rfl, hds, (Hle.refl _), RowRel.nil, hs⟩ ?_
   clear hs hM
   rintro ⟨xv27, xv28⟩ o2 E w hM ⟨gg26, v59, xs50, hE2, hE3, hE5, hE6, hE32, hE33, hE34, hds, hlegg26, hrelxs50, hs⟩
   obtain ⟨E, rfl⟩ := open7 (E := E) hE2 hE3 hE5 hE6 hE32 hE33 hE34
   replace hRv1 := hRv1.mono hlegg26
   have hagg26 := Hle.refl gg26
   refine WP_seq <| WP_region <| O (r_lss rfl rfl) rfl <| OW_nil <| WP_seq ?_
   rcases condS hM with ⟨hc46, hM⟩ | ⟨hc46, hM⟩
   ·refine WP_true rfl hc46 <| WP_skip ?_
    obtain ⟨y28, hx30, hKhx30⟩ := bindS hM
    refine WP_cut (fun E w => ∃ (gg35 : Hp) (v80 : Value) (xs65 : List Value), E 2 = Value.pointer (some ⟨b1, 0, none⟩) ∧ E 3 = Value.pointer (some ⟨b2, 0, none⟩) ∧ E 5 = v80 ∧ E 6 = Value.bool xv1 ∧ E 32 = v1 ∧ E 33 = Value.int .i64 (p1.Defs.length : Int) ∧ E 34 = Value.int .i64 xv28 ∧ E.ds = [] ∧ Hle gg26 gg35 ∧ RowRel tT_Confusion gg35 xs65 y28 ∧ Go.Lx.Sep g0 w0 gg35 w [.row v80 40 tT_Confusion.sz y28.length xs65, Go.Lx.box b2 35 ([Value.int .i64 p2.Kind, Value.int .i64 p2.At, encS p2.Text, Value.int .i64 p2.Look]), Go.Lx.box b1 31 ([v1, Value.bool p1.Layout, Value.int .i64 p1.Misspelling, Value.int .i64 p1.Unclosed])]) ?_ ?_
    ·have hM := hx30
     refine WP_block <| WP_seq <| WP_region <| O (r_move (v := Value.int .i64 xv28) rfl) rfl ?_
     obtain ⟨e14, he14, hM⟩ := bindS hM
     obtain ⟨b27, ob27, cb27, hvb27, cs111, hcs111, hcb27⟩ := hRv1.at he14
     obtain ⟨cs112, cs113, cs114, cs115, cs116, rfl, hcs112, hcs113, hcs114, hcs115, hcs116⟩ := hcs111
     have hcs112 : cs112 = _ := hcs112; subst hcs112
     have hcs113 : cs113 = _ := hcs113; subst hcs113
     have hcs114 : cs114 = _ := hcs114; subst hcs114
     have hcs115 : cs115 = _ := hcs115; subst hcs115
     have hcs116 : cs116 = _ := hcs116; subst hcs116
     refine O (r_idxSl Try.underlying29 ti44 (v := v1) rfl hvb27 rfl (idxL_some he14).1 (idxL_some he14).2.1) rfl <| O (r_loadEl (cs := [encS e14.Name, Value.int .i64 e14.Kind, encS e14.Pattern, encS e14.Sample, encS e14.Close]) ti44 rfl rfl (.inl rfl) (hcb27 _ hs.imm) (v := Value.agg (List.toArray (α := Value) [encS e14.Name, Value.int .i64 e14.Kind, encS e14.Pattern, encS e14.Sample, encS e14.Close])) rfl) rfl <| OW_alloc ti44 hs (zs := [encS [], Value.int .i64 0, encS [], encS [], encS []]) rfl rfl ?_
     intro b28 wv91 hs
     refine O (r_assign (v := Value.int .i64 xv28) rfl) rfl <| OW_storeAll ti44 hs (i := 0) rfl rfl (v := Value.agg (List.toArray (α := Value) [encS e14.Name, Value.int .i64 e14.Kind, encS e14.Pattern, encS e14.Sample, encS e14.Close])) rfl (vs := [encS e14.Name, Value.int .i64 e14.Kind, encS e14.Pattern, encS e14.Sample, encS e14.Close]) rfl (one_cons rfl (one_cons rfl (one_cons rfl (one_cons rfl (one_cons rfl one_nil))))) rfl rfl ?_
     intro wv92 hs
     refine OW_nil <| WP_block <| WP_seq <| WP_region <| O (r_fieldAddr Try.underlying35 ti3 rfl rfl (by decide) rfl rfl) rfl <| O (r_load (v := Value.int .i64 p2.Kind) ti3 rfl (hs.cell (i := 2) (o := 0) rfl rfl)) rfl <| O (r_eql rfl rfl) rfl <| O (r_assign (v := Value.bool (p2.Kind == (-1))) rfl) rfl <| OW_nil ?_
     rcases condS hM with ⟨hc51, hM⟩ | ⟨hc51, hM⟩
     ·refine WP_true rfl hc51 <| WP_seq <| WP_region <| O (r_loadN (cs := [v1, Value.bool p1.Layout, Value.int .i64 p1.Misspelling, Value.int .i64 p1.Unclosed]) ti31 rfl rfl (hs.cells (i := 3) rfl)) rfl <| O (r_loadN (cs := [encS e14.Name, Value.int .i64 e14.Kind, encS e14.Pattern, encS e14.Sample, encS e14.Close]) ti44 rfl rfl (hs.cells (i := 0) rfl)) rfl <| O (r_fieldAddr Try.underlying35 ti9 rfl rfl (by decide) rfl rfl) rfl <| O (r_load (v := encS p2.Text) ti9 rfl (hs.cell (i := 2) (o := 2) rfl rfl)) rfl ?_
      obtain ⟨rv23, hrv23, hM⟩ := bindS hM
      refine C [Value.agg (List.toArray (α := Value) [v1, Value.bool p1.Layout, Value.int .i64 p1.Misspelling, Value.int .i64 p1.Unclosed]), Value.agg (List.toArray (α := Value) [encS e14.Name, Value.int .i64 e14.Kind, encS e14.Pattern, encS e14.Sample, encS e14.Close]), encS p2.Text] cf15 rfl (lexrepair_closable_ok hrv23 hs.imm (⟨[v1], [Value.bool p1.Layout], [Value.int .i64 p1.Misspelling], [Value.int .i64 p1.Unclosed], rfl, ⟨_, rfl, hRv1⟩, rfl, rfl, rfl⟩) (⟨[encS e14.Name], [Value.int .i64 e14.Kind], [encS e14.Pattern], [encS e14.Sample], [encS e14.Close], rfl, rfl, rfl, rfl, rfl, rfl⟩)) rfl ?_
      rintro v81 wv93 ⟨gg36, hvv81, hegg36⟩
      have hlegg36 := hegg36.le hs.imm
      replace hs := hs.call hegg36
      replace hrelxs50 := hrelxs50.mono hlegg36
      replace hagg26 := hagg26.trans hlegg36
      obtain ⟨cs117, rfl, hcs117⟩ := hvv81
      have hcs117 : cs117 = _ := hcs117; subst hcs117
      refine OW_nil ?_
      rcases condS hM with ⟨hc52, hM⟩ | ⟨hc52, hM⟩
      ·refine WP_true rfl hc52 <| WP_region <| O (r_move (v := v59) rfl) rfl <| O (r_move (v := Value.int .i64 xv28) rfl) rfl <| O (r_fieldAddr Try.underlying31 ti3 rfl rfl (by decide) rfl rfl) rfl <| O (r_load (v := Value.int .i64 p1.Unclosed) ti3 rfl (hs.cell (i := 3) (o := 3) rfl rfl)) rfl <| O (r_build (vs := [(0, Value.int .i64 xv28), (1, Value.int .i64 p1.Unclosed)]) (cs := [Value.int .i64 xv28, Value.int .i64 p1.Unclosed]) rfl (by kernel_rfl)) rfl <| OW_lit (τ := tT_Confusion) [Value.agg (List.toArray (α := Value) [Value.int .i64 xv28, Value.int .i64 p1.Unclosed])] [(T_Confusion.mk xv28 p1.Unclosed)] Try.underlying37 ti40 (by decide) hs rfl rfl rfl ⟨⟨[Value.int .i64 xv28], [Value.int .i64 p1.Unclosed], rfl, rfl, rfl⟩, trivial⟩ rfl ?_
       intro v82 wv94 xs66 hrelxs66 hs
       obtain ⟨y29, hy29, hM⟩ := bindS hM
       refine OW_append Try.underlying37 ti40 rfl (by decide) (by decide) hs (i := 2) rfl hrelxs50 (v := v59) rfl (u := v82) rfl (hs.rowSrc (i := 0) rfl) hrelxs66 hy29 rfl ?_
       intro v83 wv95 xs67 hrelxs67 hs
       refine O (r_assign (v := v83) rfl) rfl <| OW_nil ?_
       obtain rfl := Option.some.inj hM
       exact ⟨gg36, v83, xs67, rfl, rfl, rfl, rfl, rfl, rfl, rfl, hds, hagg26, hrelxs67, (hs.sub (.cons _ (.cons _ (.cons_cons _ (.cons_cons _ (.cons_cons _ .slnil))))))⟩
      ·refine WP_false rfl hc52 <| WP_skip ?_
       obtain rfl := Option.some.inj hM
       exact ⟨gg36, v59, xs50, rfl, rfl, rfl, rfl, rfl, rfl, rfl, hds, hagg26, hrelxs50, (hs.sub (.cons _ (.cons_cons _ (.cons_cons _ (.cons_cons _ .slnil)))))⟩
     ·refine WP_false rfl hc51 ?_
      obtain ⟨xv37, hx31, hKhx31⟩ := bindS hM
      refine WP_cut (fun E w => E 2 = Value.pointer (some ⟨b1, 0, none⟩) ∧ E 3 = Value.pointer (some ⟨b2, 0, none⟩) ∧ E 5 = v59 ∧ E 6 = Value.bool xv1 ∧ E 7 = Value.int .i64 xv28 ∧ E 8 = Value.pointer (some ⟨b28, 0, none⟩) ∧ E 32 = v1 ∧ E 33 = Value.int .i64 (p1.Defs.length : Int) ∧ E 34 = Value.int .i64 xv28 ∧ E 55 = Value.bool xv37 ∧ E.ds = [] ∧ Go.Lx.Sep g0 w0 gg26 w [Go.Lx.box b28 44 ([encS e14.Name, Value.int .i64 e14.Kind, encS e14.Pattern, encS e14.Sample, encS e14.Close]), .row v59 40 tT_Confusion.sz xv27.length xs50, Go.Lx.box b2 35 ([Value.int .i64 p2.Kind, Value.int .i64 p2.At, encS p2.Text, Value.int .i64 p2.Look]), Go.Lx.box b1 31 ([v1, Value.bool p1.Layout, Value.int .i64 p1.Misspelling, Value.int .i64 p1.Unclosed])]) ?_ ?_
      ·have hM := hx31
       refine WP_region <| O (r_move (v := Value.bool xv1) rfl) rfl <| O (r_move (v := Value.bool xv1) rfl) rfl ?_
       rcases condS hM with ⟨hg73, hM⟩ | ⟨hg73, hM⟩
       ·refine OG rfl rfl rfl (by rw [hg73]; rfl) (r_fieldAddr Try.underlying31 ti3 rfl rfl (by decide) rfl rfl) rfl <| OG rfl rfl rfl (by rw [hg73]; rfl) (r_load (v := Value.int .i64 p1.Misspelling) ti3 rfl (hs.cell (i := 3) (o := 2) rfl rfl)) rfl <| OG rfl rfl rfl (by rw [hg73]; rfl) (r_gtr rfl rfl) rfl <| O (r_pickT (v := Value.bool (decide (0 < p1.Misspelling))) rfl hg73 rfl) rfl <| O (r_move (v := Value.bool (decide (0 < p1.Misspelling))) rfl) rfl ?_
        rcases condS hM with ⟨hg74, hM⟩ | ⟨hg74, hM⟩
        ·refine OG rfl rfl rfl (by rw [hg74]; rfl) (r_fieldAddr Try.underlying44 ti3 rfl rfl (by decide) rfl rfl) rfl <| OG rfl rfl rfl (by rw [hg74]; rfl) (r_load (v := Value.int .i64 e14.Kind) ti3 rfl (hs.cell (i := 0) (o := 1) rfl rfl)) rfl <| OG rfl rfl rfl (by rw [hg74]; rfl) (r_eql rfl rfl) rfl <| O (r_pickT (v := Value.bool (e14.Kind == 3)) rfl hg74 rfl) rfl <| O (r_assign (v := Value.bool (e14.Kind == 3)) rfl) rfl <| OW_nil ?_
         obtain rfl := Option.some.inj hM
         exact ⟨rfl, rfl, rfl, rfl, rfl, rfl, rfl, rfl, rfl, rfl, hds, hs⟩
        ·refine OK rfl rfl rfl (by rw [hg74]; rfl) rfl <| OK rfl rfl rfl (by rw [hg74]; rfl) rfl <| OK rfl rfl rfl (by rw [hg74]; rfl) rfl <| O (r_pickF (v := Value.bool false) rfl hg74 rfl) rfl <| O (r_assign (v := Value.bool false) rfl) rfl <| OW_nil ?_
         obtain rfl := Option.some.inj hM
         exact ⟨rfl, rfl, rfl, rfl, rfl, rfl, rfl, rfl, rfl, rfl, hds, hs⟩
       ·refine OK rfl rfl rfl (by rw [hg73]; rfl) rfl <| OK rfl rfl rfl (by rw [hg73]; rfl) rfl <| OK rfl rfl rfl (by rw [hg73]; rfl) rfl <| O (r_pickF (v := Value.bool false) rfl hg73 rfl) rfl <| O (r_move (v := Value.bool false) rfl) rfl <| OK rfl rfl rfl rfl rfl <| OK rfl rfl rfl rfl rfl <| OK rfl rfl rfl rfl rfl <| O (r_pickF (v := Value.bool false) rfl rfl rfl) rfl <| O (r_assign (v := Value.bool false) rfl) rfl <| OW_nil ?_
        obtain rfl := Option.some.inj hM
        exact ⟨rfl, rfl, rfl, rfl, rfl, rfl, rfl, rfl, rfl, rfl, hds, hs⟩
      ·clear hs
       rintro E w ⟨hE2, hE3, hE5, hE6, hE7, hE8, hE32, hE33, hE34, hE55, hds, hs⟩
       have hM := hKhx31
       obtain ⟨E, rfl⟩ := open8 (E := E) hE2 hE3 hE5 hE6 hE7 hE8 hE32 hE33
       obtain ⟨E, rfl⟩ := open2 (E := E) hE34 hE55
       rcases condS hM with ⟨hc53, hM⟩ | ⟨hc53, hM⟩
       ·refine WP_true rfl hc53 <| WP_seq <| WP_region <| O (r_fieldAddr Try.underlying35 ti9 rfl rfl (by decide) rfl rfl) rfl <| O (r_load (v := encS p2.Text) ti9 rfl (hs.cell (i := 2) (o := 2) rfl rfl)) rfl <| O (r_fieldAddr Try.underlying44 ti9 rfl rfl (by decide) rfl rfl) rfl <| O (r_load (v := encS e14.Sample) ti9 rfl (hs.cell (i := 0) (o := 3) rfl rfl)) rfl ?_
        obtain ⟨rv24, hrv24, hM⟩ := bindS hM
        refine C [encS p2.Text, encS e14.Sample] cf7 rfl (lexrepair_Distance_ok hrv24 hs.imm) rfl ?_
        rintro v84 wv96 ⟨gg37, hvv84, hegg37⟩
        have hlegg37 := hegg37.le hs.imm
        replace hs := hs.call hegg37
        replace hrelxs50 := hrelxs50.mono hlegg37
        replace hagg26 := hagg26.trans hlegg37
        obtain ⟨cs118, rfl, hcs118⟩ := hvv84
        have hcs118 : cs118 = _ := hcs118; subst hcs118
        refine O (r_assign (v := Value.int .i64 rv24) rfl) rfl <| OW_nil ?_
        obtain ⟨xv38, hx32, hKhx32⟩ := bindS hM
        refine WP_cut (fun E w => E 2 = Value.pointer (some ⟨b1, 0, none⟩) ∧ E 3 = Value.pointer (some ⟨b2, 0, none⟩) ∧ E 5 = v59 ∧ E 6 = Value.bool xv1 ∧ E 7 = Value.int .i64 xv28 ∧ E 9 = Value.int .i64 rv24 ∧ E 32 = v1 ∧ E 33 = Value.int .i64 (p1.Defs.length : Int) ∧ E 34 = Value.int .i64 xv28 ∧ E 77 = Value.bool xv38 ∧ E.ds = [] ∧ Go.Lx.Sep g0 w0 gg37 w [.row v59 40 tT_Confusion.sz xv27.length xs50, Go.Lx.box b2 35 ([Value.int .i64 p2.Kind, Value.int .i64 p2.At, encS p2.Text, Value.int .i64 p2.Look]), Go.Lx.box b1 31 ([v1, Value.bool p1.Layout, Value.int .i64 p1.Misspelling, Value.int .i64 p1.Unclosed])]) ?_ ?_
        ·have hM := hx32
         have hagg37 := Hle.refl gg37
         refine WP_region <| O (r_move (v := Value.int .i64 rv24) rfl) rfl <| O (r_geq rfl rfl) rfl <| O (r_move (v := Value.bool (decide (1 ≤ rv24))) rfl) rfl ?_
         rcases condS hM with ⟨hg76, hM⟩ | ⟨hg76, hM⟩
         ·refine OG rfl rfl rfl (by rw [hg76]; rfl) (r_move (v := Value.int .i64 rv24) rfl) rfl <| OG rfl rfl rfl (by rw [hg76]; rfl) (r_leq rfl rfl) rfl <| O (r_pickT (v := Value.bool (decide (rv24 ≤ 2))) rfl hg76 rfl) rfl <| OW_nil ?_
          obtain rfl := Option.some.inj hM
          exact ⟨rfl, rfl, rfl, rfl, rfl, rfl, rfl, rfl, rfl, rfl, hds, (hs.sub (.cons _ (.cons_cons _ (.cons_cons _ (.cons_cons _ .slnil)))))⟩
         ·refine OK rfl rfl rfl (by rw [hg76]; rfl) rfl <| OK rfl rfl rfl (by rw [hg76]; rfl) rfl <| O (r_pickF (v := Value.bool false) rfl hg76 rfl) rfl <| OW_nil ?_
          obtain rfl := Option.some.inj hM
          exact ⟨rfl, rfl, rfl, rfl, rfl, rfl, rfl, rfl, rfl, rfl, hds, (hs.sub (.cons _ (.cons_cons _ (.cons_cons _ (.cons_cons _ .slnil)))))⟩
        ·clear hs
         rintro E w ⟨hE2, hE3, hE5, hE6, hE7, hE9, hE32, hE33, hE34, hE77, hds, hs⟩
         have hM := hKhx32
         obtain ⟨E, rfl⟩ := open8 (E := E) hE2 hE3 hE5 hE6 hE7 hE9 hE32 hE33
         obtain ⟨E, rfl⟩ := open2 (E := E) hE34 hE77
         rcases condS hM with ⟨hc54, hM⟩ | ⟨hc54, hM⟩
         ·refine WP_true rfl hc54 <| WP_region <| O (r_move (v := v59) rfl) rfl <| O (r_move (v := Value.int .i64 xv28) rfl) rfl <| O (r_fieldAddr Try.underlying31 ti3 rfl rfl (by decide) rfl rfl) rfl <| O (r_load (v := Value.int .i64 p1.Misspelling) ti3 rfl (hs.cell (i := 2) (o := 2) rfl rfl)) rfl <| O (r_move (v := Value.int .i64 rv24) rfl) rfl ?_
          obtain ⟨t17, ht17, hM⟩ := bindS hM
          refine O (r_mulM rfl rfl ht17) rfl <| O (r_build (vs := [(0, Value.int .i64 xv28), (1, Value.int .i64 t17)]) (cs := [Value.int .i64 xv28, Value.int .i64 t17]) rfl (by kernel_rfl)) rfl <| OW_lit (τ := tT_Confusion) [Value.agg (List.toArray (α := Value) [Value.int .i64 xv28, Value.int .i64 t17])] [(T_Confusion.mk xv28 t17)] Try.underlying37 ti40 (by decide) hs rfl rfl rfl ⟨⟨[Value.int .i64 xv28], [Value.int .i64 t17], rfl, rfl, rfl⟩, trivial⟩ rfl ?_
          intro v85 wv97 xs68 hrelxs68 hs
          obtain ⟨y30, hy30, hM⟩ := bindS hM
          refine OW_append Try.underlying37 ti40 rfl (by decide) (by decide) hs (i := 1) rfl hrelxs50 (v := v59) rfl (u := v85) rfl (hs.rowSrc (i := 0) rfl) hrelxs68 hy30 rfl ?_
          intro v86 wv98 xs69 hrelxs69 hs
          refine O (r_assign (v := v86) rfl) rfl <| OW_nil ?_
          obtain rfl := Option.some.inj hM
          exact ⟨gg37, v86, xs69, rfl, rfl, rfl, rfl, rfl, rfl, rfl, hds, hagg26, hrelxs69, (hs.sub (.cons _ (.cons_cons _ (.cons_cons _ (.cons_cons _ .slnil)))))⟩
         ·refine WP_false rfl hc54 <| WP_skip ?_
          obtain rfl := Option.some.inj hM
          exact ⟨gg37, v59, xs50, rfl, rfl, rfl, rfl, rfl, rfl, rfl, hds, hagg26, hrelxs50, hs⟩
       ·refine WP_false rfl hc53 <| WP_skip ?_
        obtain rfl := Option.some.inj hM
        exact ⟨gg26, v59, xs50, rfl, rfl, rfl, rfl, rfl, rfl, rfl, hds, (Hle.refl _), hrelxs50, (hs.sub (.cons _ (.cons_cons _ (.cons_cons _ (.cons_cons _ .slnil)))))⟩
    ·clear hs
     rintro E w ⟨gg35, v80, xs65, hE2, hE3, hE5, hE6, hE32, hE33, hE34, hds, hlegg35, hrelxs65, hs⟩
     have hM := hKhx30
     obtain ⟨E, rfl⟩ := open7 (E := E) hE2 hE3 hE5 hE6 hE32 hE33 hE34
     replace hlegg26 := hlegg26.trans hlegg35
     refine WP_region ?_
     obtain ⟨t18, ht18, hM⟩ := bindS hM
     refine O (r_addM rfl rfl ht18) rfl <| O (r_move (v := Value.int .i64 t18) rfl) rfl <| OW_nil ?_
     obtain rfl := Option.some.inj hM
     exact ⟨gg35, v80, xs65, rfl, rfl, rfl, rfl, rfl, rfl, rfl, hds, hlegg26, hrelxs65, hs⟩
   ·refine WP_false rfl hc46 <| WP_exit ?_
    obtain rfl := Option.some.inj hM
    refine fun hr => ?_
    have hM := congrArg some hr
    obtain rfl := Option.some.inj hM
    exact ⟨gg26, v59, xs50, rfl, hds, hlegg26, hrelxs50, (hs.sub (.cons_cons _ (.cons _ (.cons _ .slnil))))⟩
  ·clear hs
   rintro E w ⟨gg19, v44, xs35, hE5, hds, hlegg19, hrelxs35, hs⟩
   have hM := hKhx17
   obtain ⟨E, rfl⟩ := open1 (E := E) hE5
   refine WP_seq <| WP_region <| O (r_move (v := v44) rfl) rfl <| O (r_assign (v := v44) rfl) rfl <| OW_nil <| WP_ret ?_
   obtain rfl := Option.some.inj hM
   refine FL_nil hds ?_
   exact ⟨_, res1 Try.results13 (rv_tmp (v := v44) rfl), gg19, xs35, hrelxs35, hs⟩

set_option maxRecDepth 100000 in
theorem ref11_Small_ok {r : T_LexSpec} (hM : M.ref11_Small = some r) {g0 : Hp} {w0 : World} (hi : Imm g0 w0) :
    CallsV Try.prog 10 #[] w0 (fun v w' => ∃ g', (VRd tT_LexSpec true g' v r) ∧ Ext g0 w0 g' w') := by
 unfold M.ref11_Small at hM
 have hs := Sep.start hi
 refine calls_of_WP (args := []) Try.func10 rfl Try.ntmps10 rfl ?_
 have hds : (argEnv []).ds = [] := rfl
 refine WP_seq <| WP_region <| OW_alloc ti31 hs (zs := [Value.slice none 0 0, Value.bool false, Value.int .i64 0, Value.int .i64 0]) rfl rfl ?_
 intro b1 wv1 hs
 refine OW_nil <| WP_seq <| WP_region <| O (r_build (vs := [(0, encS [105, 102]), (1, Value.int .i64 3), (2, encS [105, 102]), (3, encS [105, 102])]) (cs := [encS [105, 102], Value.int .i64 3, encS [105, 102], encS [105, 102], encS []]) rfl (by kernel_rfl)) rfl <| O (r_build (vs := [(0, encS [119, 111, 114, 100]), (1, Value.int .i64 1), (2, encS [91, 97, 45, 122, 93, 43]), (3, encS [120])]) (cs := [encS [119, 111, 114, 100], Value.int .i64 1, encS [91, 97, 45, 122, 93, 43], encS [120], encS []]) rfl (by kernel_rfl)) rfl <| O (r_build (vs := [(0, encS [115, 112, 97, 99, 101]), (1, Value.int .i64 2), (2, encS [32, 43]), (3, encS [32])]) (cs := [encS [115, 112, 97, 99, 101], Value.int .i64 2, encS [32, 43], encS [32], encS []]) rfl (by kernel_rfl)) rfl ?_
 refine O (r_build (vs := [(0, encS [116, 101, 120, 116]), (1, Value.int .i64 1), (2, encS [39, 91, 94, 39, 92, 110, 93, 42, 39]), (3, encS [39, 39]), (4, encS [39])]) (cs := [encS [116, 101, 120, 116], Value.int .i64 1, encS [39, 91, 94, 39, 92, 110, 93, 42, 39], encS [39, 39], encS [39]]) rfl (by kernel_rfl)) rfl <| OW_lit (τ := tT_TokenDef) [Value.agg (List.toArray (α := Value) [encS [105, 102], Value.int .i64 3, encS [105, 102], encS [105, 102], encS []]), Value.agg (List.toArray (α := Value) [encS [119, 111, 114, 100], Value.int .i64 1, encS [91, 97, 45, 122, 93, 43], encS [120], encS []]), Value.agg (List.toArray (α := Value) [encS [115, 112, 97, 99, 101], Value.int .i64 2, encS [32, 43], encS [32], encS []]), Value.agg (List.toArray (α := Value) [encS [116, 101, 120, 116], Value.int .i64 1, encS [39, 91, 94, 39, 92, 110, 93, 42, 39], encS [39, 39], encS [39]])] [(T_TokenDef.mk [105, 102] 3 [105, 102] [105, 102] []), (T_TokenDef.mk [119, 111, 114, 100] 1 [91, 97, 45, 122, 93, 43] [120] []), (T_TokenDef.mk [115, 112, 97, 99, 101] 2 [32, 43] [32] []), (T_TokenDef.mk [116, 101, 120, 116] 1 [39, 91, 94, 39, 92, 110, 93, 42, 39] [39, 39] [39])] Try.underlying29 ti44 (by decide) hs rfl rfl rfl ⟨⟨[encS [105, 102]], [Value.int .i64 3], [encS [105, 102]], [encS [105, 102]], [encS []], rfl, rfl, rfl, rfl, rfl, rfl⟩, ⟨[encS [119, 111, 114, 100]], [Value.int .i64 1], [encS [91, 97, 45, 122, 93, 43]], [encS [120]], [encS []], rfl, rfl, rfl, rfl, rfl, rfl⟩, ⟨[encS [115, 112, 97, 99, 101]], [Value.int .i64 2], [encS [32, 43]], [encS [32]], [encS []], rfl, rfl, rfl, rfl, rfl, rfl⟩, ⟨[encS [116, 101, 120, 116]], [Value.int .i64 1], [encS [39, 91, 94, 39, 92, 110, 93, 42, 39]], [encS [39, 39]], [encS [39]], rfl, rfl, rfl, rfl, rfl, rfl⟩, trivial⟩ rfl ?_
 intro v1 wv2 xs1 hrelxs1 hs
 have ho1 := one_of_shape (hs.rowShape (i := 0) rfl)
 refine O (r_build (vs := [(0, v1), (2, Value.int .i64 4), (3, Value.int .i64 6)]) (cs := [v1, Value.bool false, Value.int .i64 4, Value.int .i64 6]) rfl (built_fill [(0, 1), (1, 1), (2, 1), (3, 1)] [Value.slice none 0 0, Value.bool false, Value.int .i64 0, Value.int .i64 0] (fun _ => by kernel_rfl) (fill_step ([]) ([Value.slice none 0 0]) ([Value.bool false, Value.int .i64 0, Value.int .i64 0]) ([v1]) rfl rfl (cells_one ho1) rfl rfl rfl <| fill_step ([v1, Value.bool false]) ([Value.int .i64 0]) ([Value.int .i64 0]) ([Value.int .i64 4]) rfl rfl rfl rfl rfl rfl <| fill_step ([v1, Value.bool false, Value.int .i64 4]) ([Value.int .i64 0]) ([]) ([Value.int .i64 6]) rfl rfl rfl rfl rfl rfl <| fill_done))) rfl ?_
 refine OW_storeAll ti31 hs (i := 1) rfl rfl (v := Value.agg (List.toArray (α := Value) [v1, Value.bool false, Value.int .i64 4, Value.int .i64 6])) rfl (vs := [v1, Value.bool false, Value.int .i64 4, Value.int .i64 6]) rfl (one_cons (by obtain ⟨_, _, h9⟩ := hs.rowShape (i := 0) rfl; rw [h9]; rfl) (one_cons rfl (one_cons rfl (one_cons rfl one_nil)))) rfl rfl ?_
 intro wv3 hs
 refine OW_nil <| WP_ret ?_
 obtain rfl := Option.some.inj hM
 obtain ⟨gg1, hlegg1, hRgg1, hs⟩ := hs.relRow (i := 0) rfl hrelxs1
 refine FL_nil hds ?_
 exact ⟨_, res1 Try.results10 (rv_cells (vs := [v1, Value.bool false, Value.int .i64 4, Value.int .i64 6]) ti31 rfl rfl (hs.cells (i := 0) rfl)), gg1, ⟨[v1, Value.bool false, Value.int .i64 4, Value.int .i64 6], rfl, ⟨[v1], [Value.bool false], [Value.int .i64 4], [Value.int .i64 6], rfl, ⟨_, rfl, hRgg1⟩, rfl, rfl, rfl⟩⟩, hs.ext⟩

set_option maxRecDepth 100000 in
theorem law14_example_ok {r : (List T_Token)} (hM : M.law14_example = some r) {g0 : Hp} {w0 : World} (hi : Imm g0 w0) :
    CallsV Try.prog 11 #[] w0 (fun v w' => ∃ g' y0, (RowRel tT_Token g' y0 r) ∧ Sep g0 w0 g' w' [.row v 35 tT_Token.sz r.length y0]) := by
 unfold M.law14_example at hM
 have hs := Sep.start hi
 refine calls_of_WP (args := []) Try.func11 rfl Try.ntmps11 rfl ?_
 have hds : (argEnv []).ds = [] := rfl
 refine WP_seq <| WP_region <| O (r_assign (v := Value.slice none 0 0) rfl) rfl <| OW_nil <| WP_seq <| WP_region <| O (r_build (vs := [(0, Value.int .i64 1), (2, encS [120]), (3, Value.int .i64 2)]) (cs := [Value.int .i64 1, Value.int .i64 0, encS [120], Value.int .i64 2]) rfl (by kernel_rfl)) rfl <| O (r_build (vs := [(0, Value.int .i64 2), (1, Value.int .i64 1), (2, encS [32]), (3, Value.int .i64 2)]) (cs := [Value.int .i64 2, Value.int .i64 1, encS [32], Value.int .i64 2]) rfl (by kernel_rfl)) rfl <| O (r_build (vs := [(0, Value.int .i64 (-1)), (1, Value.int .i64 2), (2, encS [39]), (3, Value.int .i64 6)]) (cs := [Value.int .i64 (-1), Value.int .i64 2, encS [39], Value.int .i64 6]) rfl (by kernel_rfl)) rfl ?_
 refine O (r_build (vs := [(0, Value.int .i64 1), (1, Value.int .i64 3), (2, encS [97, 98]), (3, Value.int .i64 3)]) (cs := [Value.int .i64 1, Value.int .i64 3, encS [97, 98], Value.int .i64 3]) rfl (by kernel_rfl)) rfl <| O (r_build (vs := [(0, Value.int .i64 2), (1, Value.int .i64 5), (2, encS [32]), (3, Value.int .i64 2)]) (cs := [Value.int .i64 2, Value.int .i64 5, encS [32], Value.int .i64 2]) rfl (by kernel_rfl)) rfl <| O (r_build (vs := [(0, Value.int .i64 1), (1, Value.int .i64 6), (2, encS [99]), (3, Value.int .i64 2)]) (cs := [Value.int .i64 1, Value.int .i64 6, encS [99], Value.int .i64 2]) rfl (by kernel_rfl)) rfl <| OW_lit (τ := tT_Token) [Value.agg (List.toArray (α := Value) [Value.int .i64 1, Value.int .i64 0, encS [120], Value.int .i64 2]), Value.agg (List.toArray (α := Value) [Value.int .i64 2, Value.int .i64 1, encS [32], Value.int .i64 2]), Value.agg (List.toArray (α := Value) [Value.int .i64 (-1), Value.int .i64 2, encS [39], Value.int .i64 6]), Value.agg (List.toArray (α := Value) [Value.int .i64 1, Value.int .i64 3, encS [97, 98], Value.int .i64 3]), Value.agg (List.toArray (α := Value) [Value.int .i64 2, Value.int .i64 5, encS [32], Value.int .i64 2]), Value.agg (List.toArray (α := Value) [Value.int .i64 1, Value.int .i64 6, encS [99], Value.int .i64 2])] [(T_Token.mk 1 0 [120] 2), (T_Token.mk 2 1 [32] 2), (T_Token.mk (-1) 2 [39] 6), (T_Token.mk 1 3 [97, 98] 3), (T_Token.mk 2 5 [32] 2), (T_Token.mk 1 6 [99] 2)] Try.underlying27 ti35 (by decide) hs rfl rfl rfl ⟨⟨[Value.int .i64 1], [Value.int .i64 0], [encS [120]], [Value.int .i64 2], rfl, rfl, rfl, rfl, rfl⟩, ⟨[Value.int .i64 2], [Value.int .i64 1], [encS [32]], [Value.int .i64 2], rfl, rfl, rfl, rfl, rfl⟩, ⟨[Value.int .i64 (-1)], [Value.int .i64 2], [encS [39]], [Value.int .i64 6], rfl, rfl, rfl, rfl, rfl⟩, ⟨[Value.int .i64 1], [Value.int .i64 3], [encS [97, 98]], [Value.int .i64 3], rfl, rfl, rfl, rfl, rfl⟩, ⟨[Value.int .i64 2], [Value.int .i64 5], [encS [32]], [Value.int .i64 2], rfl, rfl, rfl, rfl, rfl⟩, ⟨[Value.int .i64 1], [Value.int .i64 6], [encS [99]], [Value.int .i64 2], rfl, rfl, rfl, rfl, rfl⟩, trivial⟩ rfl ?_
 intro v1 wv1 xs1 hrelxs1 hs
 refine O (r_assign (v := v1) rfl) rfl <| OW_nil <| WP_ret ?_
 obtain rfl := Option.some.inj hM
 refine FL_nil hds ?_
 exact ⟨_, res1 Try.results11 (rv_tmp (v := v1) rfl), g0, xs1, hrelxs1, hs⟩

set_option maxRecDepth 100000 in
theorem ref14_Same_ok {a1 : (List T_Confusion)} {b1 : (List T_Confusion)} {r : Bool} (hM : M.ref14_Same a1 b1 = some r) {g0 : Hp} {w0 : World} (hi : Imm g0 w0) {v1 : Value} (hRv1 : RdS tT_Confusion g0 v1 a1) {v2 : Value} (hRv2 : RdS tT_Confusion g0 v2 b1) :
    CallsV Try.prog 12 #[v1, v2] w0 (fun v w' => ∃ g', (VRd tBool false g' v r) ∧ Ext g0 w0 g' w') := by
 unfold M.ref14_Same at hM
 have hs := Sep.start hi
 refine calls_of_WP (args := [v1, v2]) Try.func12 rfl Try.ntmps12 rfl ?_
 have hds : (argEnv [v1, v2]).ds = [] := rfl
 refine WP_seq <| WP_region <| O (r_assign (v := Value.bool false) rfl) rfl <| OW_nil <| WP_seq <| WP_seq <| WP_region <| O (r_move (v := v1) rfl) rfl ?_
 obtain ⟨a2, ca2, hva2⟩ := hRv1.shape
 refine O (r_lenSl (v := v1) Try.underlying37 rfl hva2) rfl <| O (r_move (v := v2) rfl) rfl ?_
 obtain ⟨a3, ca3, hva3⟩ := hRv2.shape
 refine O (r_lenSl (v := v2) Try.underlying37 rfl hva3) rfl <| O (r_neq rfl rfl) rfl <| OW_nil ?_
 rcases condS hM with ⟨hc1, hM⟩ | ⟨hc1, hM⟩
 ·refine WP_true rfl hc1 <| WP_seq <| WP_region <| O (r_assign (v := Value.bool false) rfl) rfl <| OW_nil <| WP_ret ?_
  obtain rfl := Option.some.inj hM
  refine FL_nil hds ?_
  exact ⟨_, res1 Try.results12 (rv_tmp (v := Value.bool false) rfl), g0, ⟨[Value.bool false], rfl, rfl⟩, hs.ext⟩
 ·refine WP_false rfl hc1 <| WP_skip ?_
  obtain ⟨o3, hx1, hKhx1⟩ := stepS hM
  refine WP_cut (fun E w => ∃ u9 : Unit, o3 = .next u9 ∧ E.ds = [] ∧ Go.Lx.Sep g0 w0 g0 w []) ?_ ?_
  ·have hM := hx1
   have hag0 := Hle.refl g0
   refine WP_seq <| WP_region <| O (r_assign (v := Value.int .i64 0) rfl) rfl <| OW_nil <| WP_block <| WP_loop (fun (i5 : Int) E w => E 0 = v1 ∧ E 1 = v2 ∧ E 5 = Value.int .i64 i5 ∧ E.ds = [] ∧ Go.Lx.Sep g0 w0 g0 w []) hM ⟨rfl, rfl, rfl, hds, hs⟩ ?_
   clear hs hM
   rintro i5 o2 E w hM ⟨hE0, hE1, hE5, hds, hs⟩
   obtain ⟨E, rfl⟩ := open3 (E := E) hE0 hE1 hE5
   refine WP_seq <| WP_seq <| WP_region <| O (r_move (v := Value.int .i64 i5) rfl) rfl <| O (r_move (v := v1) rfl) rfl ?_
   obtain ⟨a9, ca9, hva9⟩ := hRv1.shape
   refine O (r_lenSl (v := v1) Try.underlying37 rfl hva9) rfl <| O (r_lss rfl rfl) rfl <| OW_nil ?_
   rcases condS hM with ⟨hc12, hM⟩ | ⟨hc12, hM⟩
   ·refine WP_true rfl hc12 <| WP_skip <| WP_seq <| WP_block <| WP_seq <| WP_draw mo (by decide +kernel) ?_
    have hs := hs.drew
    refine S (r_move (v := v1) rfl) rfl <| S (r_move (v := Value.int .i64 i5) rfl) rfl ?_
    obtain ⟨e11, he11, hM⟩ := bindS hM
    obtain ⟨b12, ob12, cb12, hvb12, cs31, hcs31, hcb12⟩ := hRv1.at he11
    obtain ⟨cs32, cs33, rfl, hcs32, hcs33⟩ := hcs31
    have hcs32 : cs32 = _ := hcs32; subst hcs32
    have hcs33 : cs33 = _ := hcs33; subst hcs33
    refine S (r_idxSl Try.underlying37 ti40 (v := v1) rfl hvb12 rfl (idxL_some he11).1 (idxL_some he11).2.1) rfl <| S (r_loadEl (cs := [Value.int .i64 e11.Kind, Value.int .i64 e11.Price]) ti40 rfl rfl (.inl rfl) (hcb12 _ hs.imm) (v := Value.agg (List.toArray (α := Value) [Value.int .i64 e11.Kind, Value.int .i64 e11.Price])) rfl) rfl <| S (r_move (v := v2) rfl) rfl <| S (r_move (v := Value.int .i64 i5) rfl) rfl ?_
    obtain ⟨e12, he12, hM⟩ := bindS hM
    obtain ⟨b13, ob13, cb13, hvb13, cs34, hcs34, hcb13⟩ := hRv2.at he12
    obtain ⟨cs35, cs36, rfl, hcs35, hcs36⟩ := hcs34
    have hcs35 : cs35 = _ := hcs35; subst hcs35
    have hcs36 : cs36 = _ := hcs36; subst hcs36
    refine S (r_idxSl Try.underlying37 ti40 (v := v2) rfl hvb13 rfl (idxL_some he12).1 (idxL_some he12).2.1) rfl <| S (r_loadEl (cs := [Value.int .i64 e12.Kind, Value.int .i64 e12.Price]) ti40 rfl rfl (.inl rfl) (hcb13 _ hs.imm) (v := Value.agg (List.toArray (α := Value) [Value.int .i64 e12.Kind, Value.int .i64 e12.Price])) rfl) rfl <| S (r_neqA (xs := [Value.int .i64 e11.Kind, Value.int .i64 e11.Price]) (ys := [Value.int .i64 e12.Kind, Value.int .i64 e12.Price]) rfl rfl eg40 (eqv_struct Try.underlying40 (by kernel_rfl) (.cons (by decide) (part_at (cs := [Value.int .i64 e11.Kind, Value.int .i64 e11.Price]) ti3 rfl) (part_at (cs := [Value.int .i64 e12.Kind, Value.int .i64 e12.Price]) ti3 rfl) (eqv_int Try.underlying3 _ _) (.cons (by decide) (part_at (cs := [Value.int .i64 e11.Kind, Value.int .i64 e11.Price]) ti3 rfl) (part_at (cs := [Value.int .i64 e12.Kind, Value.int .i64 e12.Price]) ti3 rfl) (eqv_int Try.underlying3 _ _) .nil)))) rfl ?_
    refine SW_nil ?_
    rcases condS hM with ⟨hc13, hM⟩ | ⟨hc13, hM⟩
    ·refine WP_true rfl hc13 <| WP_seq <| WP_region <| O (r_assign (v := Value.bool false) rfl) rfl <| OW_nil <| WP_ret ?_
     obtain rfl := Option.some.inj hM
     refine fun hr => ?_
     have hM := congrArg some hr
     obtain rfl := Option.some.inj hM
     have hM := hKhx1
     obtain rfl := Option.some.inj hM
     refine FL_nil hds ?_
     exact ⟨_, res1 Try.results12 (rv_tmp (v := Value.bool false) rfl), g0, ⟨[Value.bool false], rfl, rfl⟩, hs.ext⟩
    ·refine WP_false rfl hc13 <| WP_skip <| WP_region <| O (r_move (v := Value.int .i64 i5) rfl) rfl ?_
     obtain ⟨t6, ht6, hM⟩ := bindS hM
     refine O (r_addM rfl rfl ht6) rfl <| O (r_assign (v := Value.int .i64 t6) rfl) rfl <| OW_nil ?_
     obtain rfl := Option.some.inj hM
     exact ⟨rfl, rfl, rfl, hds, hs⟩
   ·refine WP_false rfl hc12 <| WP_exit ?_
    obtain rfl := Option.some.inj hM
    refine fun hr => ?_
    have hM := congrArg some hr
    obtain rfl := Option.some.inj hM
    exact ⟨(), rfl, hds, hs⟩
  ·clear hs
   rintro E w ⟨_, rfl, hds, hs⟩
   have hM := hKhx1
   dsimp only [onStep] at hM
   refine WP_seq <| WP_region <| O (r_assign (v := Value.bool true) rfl) rfl <| OW_nil <| WP_ret ?_
   obtain rfl := Option.some.inj hM
   refine FL_nil hds ?_
   exact ⟨_, res1 Try.results12 (rv_tmp (v := Value.bool true) rfl), g0, ⟨[Value.bool true], rfl, rfl⟩, hs.ext⟩


end Go.Proofs.Ytjdmfabmacdpgaa
