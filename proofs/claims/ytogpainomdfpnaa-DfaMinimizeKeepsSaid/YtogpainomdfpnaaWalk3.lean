/- The walks: what each function does is what its model says. Printed by a program of my own. -/
import Derived.Test.YtogpainomdfpnaaWalk2
set_option linter.unusedVariables false
namespace Go.Proofs.Ytogpainomdfpnaa
open Go.Lx Go.RowKit
set_option maxRecDepth 100000 in
theorem dfa_partition_ok {p1 : T_DFA} {r : (List Int)} (hM : M.dfa_partition p1 = some r) {g0 : Hp} {w0 : World} (hi : Imm g0 w0) {cs1 : List Value} (hcs1 : tT_DFA.rel g0 cs1 p1) :
    CallsV Try.prog 35 #[.agg cs1.toArray] w0 (fun v w' => ∃ g' y0, (RowRel (tInt .i64) g' y0 r) ∧ Sep g0 w0 g' w' [.row v 3 (tInt .i64).sz r.length y0]) := by
  unfold M.dfa_partition at hM
  obtain ⟨cs2, cs3, cs4, rfl, hcs2, hcs3, hcs4⟩ := hcs1
  obtain ⟨v1, rfl, hRv1⟩ := hcs2
  obtain ⟨v2, rfl, hRv2⟩ := hcs3
  obtain ⟨v3, rfl, hRv3⟩ := hcs4
  have hs := Sep.start hi
  refine calls_of_WP (args := [.agg (List.toArray (α := Value) [v1, v2, v3])]) Try.func35 rfl Try.ntmps35 rfl ?_
  refine WP_seq ?_
  refine WP_region ?_
  refine OW_box (v := .agg (List.toArray (α := Value) [v1, v2, v3])) rfl hs (zs := [v1, v2, v3]) rfl rfl ?_
  intro b1 wv1 hs
  refine O (r_assign (v := .slice none 0 0) rfl) rfl ?_
  refine OW_nil ?_
  refine WP_seq ?_
  refine WP_region ?_
  refine O (r_fieldAddr Try.underlying25 ti23 rfl rfl (by decide) rfl rfl) rfl ?_
  refine O (r_load (v := v2) ti23 rfl (hs.cell (i := 0) (o := 1) rfl rfl)) rfl ?_
  obtain ⟨a1, ca1, hva1⟩ := hRv2.shape
  refine O (r_lenSl (v := v2) Try.underlying23 rfl hva1) rfl ?_
  obtain ⟨l1, hl1, hM⟩ := bindS hM
  refine OW_make (τ := (tInt .i64)) (zc := [.int .i64 0]) (zx := 0) Try.underlying22 ti3 rfl rfl (by decide) hs rfl rfl hl1 rfl ?_
  intro v4 wv2 xs1 hrelxs1 hs
  refine O (r_assign (v := v4) rfl) rfl ?_
  refine OW_nil ?_
  refine WP_seq ?_
  refine WP_region ?_
  refine O (r_assign (v := .int .i64 0) rfl) rfl ?_
  refine OW_nil ?_
  refine WP_block ?_
  refine WP_loop (fun (st9 : (List Int) × Int) E w => match st9 with | (l11, xv176) => ∃ (gg135 : Hp) (v848 : Value) (xs809 : List Value), E 1 = .pointer (some ⟨b1, 0, none⟩) ∧ E 3 = v848 ∧ E 4 = .int .i64 xv176 ∧ Hle g0 gg135 ∧ RowRel (tInt .i64) gg135 xs809 l11 ∧ Go.Lx.Sep g0 w0 gg135 w [.row v848 3 (tInt .i64).sz l11.length xs809, Go.Lx.box b1 25 ([v1, v2, v3])]) hM ⟨g0, v4, xs1, rfl, rfl, rfl, (Hle.refl _), hrelxs1, hs⟩ ?_
  clear hs hM
  rintro ⟨l11, xv176⟩ o53 E w hM ⟨gg135, v848, xs809, hE1, hE3, hE4, hlegg135, hrelxs809, hs⟩
  obtain ⟨E, rfl⟩ := open1 (E := E) hE1
  obtain ⟨E, rfl⟩ := open1 (E := E) hE3
  obtain ⟨E, rfl⟩ := open1 (E := E) hE4
  replace hRv1 := hRv1.mono hlegg135
  replace hRv2 := hRv2.mono hlegg135
  replace hRv3 := hRv3.mono hlegg135
  have hagg135 := Hle.refl gg135
  refine WP_block ?_
  refine WP_seq ?_
  refine WP_region ?_
  refine OW_makeMap hs rfl ?_
  intro b676 wv1327 hs
  have hmb676 : MRel encS (Value.int .i64) #[] [] := mrel_nil
  refine O (r_assign (v := .map (some b676)) rfl) rfl ?_
  refine OW_nil ?_
  refine WP_seq ?_
  refine WP_region ?_
  refine O (r_move (v := v848) rfl) rfl ?_
  obtain ⟨a56, ca56, hva56⟩ := hs.rowShape (i := 1) rfl
  refine O (r_lenSl (v := v848) Try.underlying22 rfl hva56) rfl ?_
  obtain ⟨l21, hl21, hM⟩ := bindS hM
  refine OW_make (τ := (tInt .i64)) (zc := [.int .i64 0]) (zx := 0) Try.underlying22 ti3 rfl rfl (by decide) hs rfl rfl hl21 rfl ?_
  intro v1692 wv1328 xs1617 hrelxs1617 hs
  refine O (r_assign (v := v1692) rfl) rfl ?_
  refine OW_nil ?_
  obtain ⟨⟨m63, l25⟩, hx258, hKhx258⟩ := bindS hM
  refine WP_cut (fun E w => ∃ (gg336 : Hp) (v2113 : Value) (xs2020 : List Value) (es123 : Array MapEntry) (ck123 : Nat), E 1 = .pointer (some ⟨b1, 0, none⟩) ∧ E 4 = .int .i64 xv176 ∧ E 5 = .map (some b676) ∧ E 6 = v2113 ∧ Hle gg135 gg336 ∧ RowRel (tInt .i64) gg336 xs2020 l25 ∧ MRel encS (Value.int .i64) es123 m63 ∧ Go.Lx.Sep g0 w0 gg336 w [.row v2113 3 (tInt .i64).sz l25.length xs2020, .obj b676 (.map es123 ck123), Go.Lx.box b1 25 ([v1, v2, v3])]) ?_ ?_
  · have hM := hx258
    refine WP_seq ?_
    refine WP_region ?_
    refine O (r_fieldAddr Try.underlying25 ti23 rfl rfl (by decide) rfl rfl) rfl ?_
    refine O (r_load (v := v2) ti23 rfl (hs.cell (i := 3) (o := 1) rfl rfl)) rfl ?_
    obtain ⟨a70, ca70, hva70⟩ := hRv2.shape
    refine O (r_lenSl (v := v2) Try.underlying23 rfl hva70) rfl ?_
    refine O (r_move (v := .int .i64 0) rfl) rfl ?_
    refine OW_nil ?_
    refine WP_block ?_
    refine WP_loop (fun (st9 : (List (Str × Int)) × (List Int) × Int) E w => match st9 with | (m68, l27, xv468) => ∃ (gg359 : Hp) (v2255 : Value) (xs2156 : List Value) (es132 : Array MapEntry) (ck132 : Nat) (v2254 : Value) (xs2155 : List Value), E 1 = .pointer (some ⟨b1, 0, none⟩) ∧ E 3 = v2254 ∧ E 4 = .int .i64 xv176 ∧ E 5 = .map (some b676) ∧ E 6 = v2255 ∧ E 23 = v2 ∧ E 24 = .int .i64 (p1.Next.length : Int) ∧ E 25 = .int .i64 xv468 ∧ Hle gg135 gg359 ∧ RowRel (tInt .i64) gg359 xs2156 l27 ∧ MRel encS (Value.int .i64) es132 m68 ∧ RowRel (tInt .i64) gg359 xs2155 l11 ∧ Go.Lx.Sep g0 w0 gg359 w [.row v2255 3 (tInt .i64).sz l27.length xs2156, .obj b676 (.map es132 ck132), .row v2254 3 (tInt .i64).sz l11.length xs2155, Go.Lx.box b1 25 ([v1, v2, v3])]) hM ⟨gg135, v1692, xs1617, #[], 0, v848, xs809, rfl, rfl, rfl, rfl, rfl, rfl, rfl, rfl, (Hle.refl _), hrelxs1617, hmb676, hrelxs809, hs⟩ ?_
    clear hs hM
    rintro ⟨m68, l27, xv468⟩ o75 E w hM ⟨gg359, v2255, xs2156, es132, ck132, v2254, xs2155, hE1, hE3, hE4, hE5, hE6, hE23, hE24, hE25, hlegg359, hrelxs2156, hmes132, hrelxs2155, hs⟩
    obtain ⟨E, rfl⟩ := open1 (E := E) hE1
    obtain ⟨E, rfl⟩ := open1 (E := E) hE3
    obtain ⟨E, rfl⟩ := open1 (E := E) hE4
    obtain ⟨E, rfl⟩ := open1 (E := E) hE5
    obtain ⟨E, rfl⟩ := open1 (E := E) hE6
    obtain ⟨E, rfl⟩ := open1 (E := E) hE23
    obtain ⟨E, rfl⟩ := open1 (E := E) hE24
    obtain ⟨E, rfl⟩ := open1 (E := E) hE25
    replace hRv1 := hRv1.mono hlegg359
    replace hRv2 := hRv2.mono hlegg359
    replace hRv3 := hRv3.mono hlegg359
    replace hlegg135 := hlegg135.trans hlegg359
    replace hagg135 := hagg135.trans hlegg359
    have hagg359 := Hle.refl gg359
    refine WP_seq ?_
    refine WP_region ?_
    refine O (r_lss rfl rfl) rfl ?_
    refine OW_nil ?_
    refine WP_seq ?_
    rcases condS hM with ⟨hc700, hM⟩ | ⟨hc700, hM⟩
    · refine WP_true rfl hc700 ?_
      refine WP_skip ?_
      obtain ⟨⟨m74, y1103⟩, hx301, hKhx301⟩ := bindS hM
      refine WP_cut (fun E w => ∃ (gg392 : Hp) (v2465 : Value) (xs2357 : List Value) (es144 : Array MapEntry) (ck144 : Nat) (v2464 : Value) (xs2356 : List Value), E 1 = .pointer (some ⟨b1, 0, none⟩) ∧ E 3 = v2464 ∧ E 4 = .int .i64 xv176 ∧ E 5 = .map (some b676) ∧ E 6 = v2465 ∧ E 23 = v2 ∧ E 24 = .int .i64 (p1.Next.length : Int) ∧ E 25 = .int .i64 xv468 ∧ Hle gg359 gg392 ∧ RowRel (tInt .i64) gg392 xs2357 y1103 ∧ MRel encS (Value.int .i64) es144 m74 ∧ RowRel (tInt .i64) gg392 xs2356 l11 ∧ Go.Lx.Sep g0 w0 gg392 w [.row v2465 3 (tInt .i64).sz y1103.length xs2357, .obj b676 (.map es144 ck144), .row v2464 3 (tInt .i64).sz l11.length xs2356, Go.Lx.box b1 25 ([v1, v2, v3])]) ?_ ?_
      · have hM := hx301
        refine WP_block ?_
        refine WP_seq ?_
        refine WP_region ?_
        refine O (r_move (v := .int .i64 xv468) rfl) rfl ?_
        obtain ⟨e946, he946, hM⟩ := bindS hM
        obtain ⟨b985, ob985, cb985, hvb985, cs1055, hcs1055, hcb985⟩ := hRv2.at he946
        obtain ⟨v2466, rfl, hRv2466⟩ := hcs1055
        refine O (r_idxSl Try.underlying23 ti22 (v := v2) rfl hvb985 rfl (idxL_some he946).1 (idxL_some he946).2.1) rfl ?_
        refine O (r_loadEl (cs := [v2466]) ti22 rfl rfl (.inr rfl) (hcb985 _ hs.imm) (v := v2466) rfl) rfl ?_
        refine O (r_assign (v := .int .i64 xv468) rfl) rfl ?_
        refine O (r_assign (v := v2466) rfl) rfl ?_
        refine OW_nil ?_
        refine WP_seq ?_
        refine WP_drawTail 10 mo (by decide +kernel) ?_
        have hs := hs.drew
        refine S (r_move (v := v2254) rfl) rfl ?_
        refine S (r_move (v := .int .i64 xv468) rfl) rfl ?_
        obtain ⟨e947, he947, hM⟩ := bindS hM
        obtain ⟨b986, cb986, hvb986, cs1056, hcs1056, hcb986⟩ := hs.rowEl (i := 2) rfl hrelxs2155 he947
        have hcs1056 : cs1056 = _ := hcs1056; subst hcs1056
        refine S (r_idxSl Try.underlying22 ti3 (v := v2254) rfl hvb986 rfl (idxL_some he947).1 (idxL_some he947).2.1) rfl ?_
        refine S (r_loadEl (cs := [.int .i64 e947]) ti3 rfl rfl (.inr rfl) (hcb986 _ (hs.at (i := 2) rfl)) (v := .int .i64 e947) rfl) rfl ?_
        refine S (r_fieldAddr Try.underlying25 ti22 rfl rfl (by decide) rfl rfl) rfl ?_
        refine S (r_load (v := v3) ti22 rfl (hs.cell (i := 3) (o := 2) rfl rfl)) rfl ?_
        refine S (r_move (v := .int .i64 xv468) rfl) rfl ?_
        obtain ⟨e948, he948, hM⟩ := bindS hM
        obtain ⟨b987, ob987, cb987, hvb987, cs1057, hcs1057, hcb987⟩ := hRv3.at he948
        have hcs1057 : cs1057 = _ := hcs1057; subst hcs1057
        refine S (r_idxSl Try.underlying22 ti3 (v := v3) rfl hvb987 rfl (idxL_some he948).1 (idxL_some he948).2.1) rfl ?_
        refine S (r_loadEl (cs := [.int .i64 e948]) ti3 rfl rfl (.inr rfl) (hcb987 _ hs.imm) (v := .int .i64 e948) rfl) rfl ?_
        refine S (r_addW rfl rfl) rfl ?_
        refine SW_nil ?_
        refine OW_lit (τ := (tInt .i64)) [.int .i64 e947, .int .i64 (IntKind.i64.wrap (e948 + 1))] [e947, (IntKind.i64.wrap (e948 + 1))] Try.underlying22 ti3 (by decide) hs rfl rfl rfl ⟨rfl, rfl, trivial⟩ rfl ?_
        intro v2467 wv1934 xs2358 hrelxs2358 hs
        refine O (r_assign (v := v2467) rfl) rfl ?_
        refine OW_nil ?_
        obtain ⟨xv518, hx305, hKhx305⟩ := bindS hM
        refine WP_cut (fun E w => ∃ (v2500 : Value) (xs2391 : List Value) (v2499 : Value) (xs2390 : List Value) (v2498 : Value) (xs2389 : List Value), E 1 = .pointer (some ⟨b1, 0, none⟩) ∧ E 3 = v2498 ∧ E 4 = .int .i64 xv176 ∧ E 5 = .map (some b676) ∧ E 6 = v2499 ∧ E 7 = .int .i64 xv468 ∧ E 9 = v2500 ∧ E 23 = v2 ∧ E 24 = .int .i64 (p1.Next.length : Int) ∧ E 25 = .int .i64 xv468 ∧ RowRel (tInt .i64) gg359 xs2391 xv518 ∧ RowRel (tInt .i64) gg359 xs2390 l27 ∧ RowRel (tInt .i64) gg359 xs2389 l11 ∧ Go.Lx.Sep g0 w0 gg359 w [.row v2500 3 (tInt .i64).sz xv518.length xs2391, .row v2499 3 (tInt .i64).sz l27.length xs2390, .obj b676 (.map es132 ck132), .row v2498 3 (tInt .i64).sz l11.length xs2389, Go.Lx.box b1 25 ([v1, v2, v3])]) ?_ ?_
        · have hM := hx305
          refine WP_seq ?_
          refine WP_region ?_
          refine O (r_move (v := v2466) rfl) rfl ?_
          obtain ⟨a82, ca82, hva82⟩ := hRv2466.shape
          refine O (r_lenSl (v := v2466) Try.underlying22 rfl hva82) rfl ?_
          refine O (r_move (v := .int .i64 0) rfl) rfl ?_
          refine OW_nil ?_
          refine WP_block ?_
          refine WP_loop (fun (st9 : (List Int) × Int) E w => match st9 with | (xv521, xv522) => ∃ (v2511 : Value) (xs2402 : List Value), E 1 = .pointer (some ⟨b1, 0, none⟩) ∧ E 3 = v2254 ∧ E 4 = .int .i64 xv176 ∧ E 5 = .map (some b676) ∧ E 6 = v2255 ∧ E 7 = .int .i64 xv468 ∧ E 9 = v2511 ∧ E 23 = v2 ∧ E 24 = .int .i64 (p1.Next.length : Int) ∧ E 25 = .int .i64 xv468 ∧ E 41 = v2466 ∧ E 42 = .int .i64 (e946.length : Int) ∧ E 43 = .int .i64 xv522 ∧ RowRel (tInt .i64) gg359 xs2402 xv521 ∧ Go.Lx.Sep g0 w0 gg359 w [.row v2511 3 (tInt .i64).sz xv521.length xs2402, .row v2255 3 (tInt .i64).sz l27.length xs2156, .obj b676 (.map es132 ck132), .row v2254 3 (tInt .i64).sz l11.length xs2155, Go.Lx.box b1 25 ([v1, v2, v3])]) hM ⟨v2467, xs2358, rfl, rfl, rfl, rfl, rfl, rfl, rfl, rfl, rfl, rfl, rfl, rfl, rfl, hrelxs2358, hs⟩ ?_
          clear hs hM
          rintro ⟨xv521, xv522⟩ o79 E w hM ⟨v2511, xs2402, hE1, hE3, hE4, hE5, hE6, hE7, hE9, hE23, hE24, hE25, hE41, hE42, hE43, hrelxs2402, hs⟩
          obtain ⟨E, rfl⟩ := open1 (E := E) hE1
          obtain ⟨E, rfl⟩ := open1 (E := E) hE3
          obtain ⟨E, rfl⟩ := open1 (E := E) hE4
          obtain ⟨E, rfl⟩ := open1 (E := E) hE5
          obtain ⟨E, rfl⟩ := open1 (E := E) hE6
          obtain ⟨E, rfl⟩ := open1 (E := E) hE7
          obtain ⟨E, rfl⟩ := open1 (E := E) hE9
          obtain ⟨E, rfl⟩ := open1 (E := E) hE23
          obtain ⟨E, rfl⟩ := open1 (E := E) hE24
          obtain ⟨E, rfl⟩ := open1 (E := E) hE25
          obtain ⟨E, rfl⟩ := open1 (E := E) hE41
          obtain ⟨E, rfl⟩ := open1 (E := E) hE42
          obtain ⟨E, rfl⟩ := open1 (E := E) hE43
          refine WP_seq ?_
          refine WP_region ?_
          refine O (r_lss rfl rfl) rfl ?_
          refine OW_nil ?_
          refine WP_seq ?_
          rcases condS hM with ⟨hc736, hM⟩ | ⟨hc736, hM⟩
          · refine WP_true rfl hc736 ?_
            refine WP_skip ?_
            obtain ⟨y1131, hx308, hKhx308⟩ := bindS hM
            refine WP_cut (fun E w => ∃ (v2526 : Value) (xs2417 : List Value), E 1 = .pointer (some ⟨b1, 0, none⟩) ∧ E 3 = v2254 ∧ E 4 = .int .i64 xv176 ∧ E 5 = .map (some b676) ∧ E 6 = v2255 ∧ E 7 = .int .i64 xv468 ∧ E 9 = v2526 ∧ E 23 = v2 ∧ E 24 = .int .i64 (p1.Next.length : Int) ∧ E 25 = .int .i64 xv468 ∧ E 41 = v2466 ∧ E 42 = .int .i64 (e946.length : Int) ∧ E 43 = .int .i64 xv522 ∧ RowRel (tInt .i64) gg359 xs2417 y1131 ∧ Go.Lx.Sep g0 w0 gg359 w [.row v2526 3 (tInt .i64).sz y1131.length xs2417, .row v2255 3 (tInt .i64).sz l27.length xs2156, .obj b676 (.map es132 ck132), .row v2254 3 (tInt .i64).sz l11.length xs2155, Go.Lx.box b1 25 ([v1, v2, v3])]) ?_ ?_
            · have hM := hx308
              refine WP_block ?_
              refine WP_seq ?_
              refine WP_region ?_
              obtain ⟨e971, he971, hM⟩ := bindS hM
              obtain ⟨b1010, ob1010, cb1010, hvb1010, cs1080, hcs1080, hcb1010⟩ := hRv2466.at he971
              have hcs1080 : cs1080 = _ := hcs1080; subst hcs1080
              refine O (r_idxSl Try.underlying22 ti3 (v := v2466) rfl hvb1010 rfl (idxL_some he971).1 (idxL_some he971).2.1) rfl ?_
              refine O (r_loadEl (cs := [.int .i64 e971]) ti3 rfl rfl (.inr rfl) (hcb1010 _ hs.imm) (v := .int .i64 e971) rfl) rfl ?_
              refine O (r_assign (v := .int .i64 e971) rfl) rfl ?_
              refine OW_nil ?_
              refine WP_seq ?_
              refine WP_region ?_
              refine O (r_move (v := .int .i64 e971) rfl) rfl ?_
              refine O (r_lss rfl rfl) rfl ?_
              refine OW_nil ?_
              rcases condS hM with ⟨hc738, hM⟩ | ⟨hc738, hM⟩
              · refine WP_true rfl hc738 ?_
                refine WP_region ?_
                refine O (r_move (v := v2511) rfl) rfl ?_
                refine OW_lit (τ := (tInt .i64)) [.int .i64 0] [0] Try.underlying22 ti3 (by decide) hs rfl rfl rfl ⟨rfl, trivial⟩ rfl ?_
                intro v2527 wv1979 xs2418 hrelxs2418 hs
                obtain ⟨y1132, hy1132, hM⟩ := bindS hM
                refine OW_append Try.underlying22 ti3 rfl (by decide) (by decide) hs (i := 1) rfl hrelxs2402 (v := v2511) rfl (u := v2527) rfl (hs.rowSrc (i := 0) rfl) hrelxs2418 hy1132 rfl ?_
                intro v2528 wv1980 xs2419 hrelxs2419 hs
                refine O (r_assign (v := v2528) rfl) rfl ?_
                refine OW_nil ?_
                obtain rfl := Option.some.inj hM
                exact ⟨v2528, xs2419, rfl, rfl, rfl, rfl, rfl, rfl, rfl, rfl, rfl, rfl, rfl, rfl, rfl, hrelxs2419, (hs.sub (.cons _ (.cons_cons _ (.cons_cons _ (.cons_cons _ (.cons_cons _ (.cons_cons _ .slnil)))))))⟩
              · refine WP_false rfl hc738 ?_
                refine WP_region ?_
                refine O (r_move (v := v2511) rfl) rfl ?_
                refine O (r_move (v := v2254) rfl) rfl ?_
                refine O (r_move (v := .int .i64 e971) rfl) rfl ?_
                obtain ⟨e972, he972, hM⟩ := bindS hM
                obtain ⟨b1011, cb1011, hvb1011, cs1081, hcs1081, hcb1011⟩ := hs.rowEl (i := 3) rfl hrelxs2155 he972
                have hcs1081 : cs1081 = _ := hcs1081; subst hcs1081
                refine O (r_idxSl Try.underlying22 ti3 (v := v2254) rfl hvb1011 rfl (idxL_some he972).1 (idxL_some he972).2.1) rfl ?_
                refine O (r_loadEl (cs := [.int .i64 e972]) ti3 rfl rfl (.inr rfl) (hcb1011 _ (hs.at (i := 3) rfl)) (v := .int .i64 e972) rfl) rfl ?_
                obtain ⟨t664, ht664, hM⟩ := bindS hM
                refine O (r_addM rfl rfl ht664) rfl ?_
                refine OW_lit (τ := (tInt .i64)) [.int .i64 t664] [t664] Try.underlying22 ti3 (by decide) hs rfl rfl rfl ⟨rfl, trivial⟩ rfl ?_
                intro v2529 wv1981 xs2420 hrelxs2420 hs
                obtain ⟨y1133, hy1133, hM⟩ := bindS hM
                refine OW_append Try.underlying22 ti3 rfl (by decide) (by decide) hs (i := 1) rfl hrelxs2402 (v := v2511) rfl (u := v2529) rfl (hs.rowSrc (i := 0) rfl) hrelxs2420 hy1133 rfl ?_
                intro v2530 wv1982 xs2421 hrelxs2421 hs
                refine O (r_assign (v := v2530) rfl) rfl ?_
                refine OW_nil ?_
                obtain rfl := Option.some.inj hM
                exact ⟨v2530, xs2421, rfl, rfl, rfl, rfl, rfl, rfl, rfl, rfl, rfl, rfl, rfl, rfl, rfl, hrelxs2421, (hs.sub (.cons _ (.cons_cons _ (.cons_cons _ (.cons_cons _ (.cons_cons _ (.cons_cons _ .slnil)))))))⟩
            · clear hs
              rintro E w ⟨v2526, xs2417, hE1, hE3, hE4, hE5, hE6, hE7, hE9, hE23, hE24, hE25, hE41, hE42, hE43, hrelxs2417, hs⟩
              have hM := hKhx308
              obtain ⟨E, rfl⟩ := open1 (E := E) hE1
              obtain ⟨E, rfl⟩ := open1 (E := E) hE3
              obtain ⟨E, rfl⟩ := open1 (E := E) hE4
              obtain ⟨E, rfl⟩ := open1 (E := E) hE5
              obtain ⟨E, rfl⟩ := open1 (E := E) hE6
              obtain ⟨E, rfl⟩ := open1 (E := E) hE7
              obtain ⟨E, rfl⟩ := open1 (E := E) hE9
              obtain ⟨E, rfl⟩ := open1 (E := E) hE23
              obtain ⟨E, rfl⟩ := open1 (E := E) hE24
              obtain ⟨E, rfl⟩ := open1 (E := E) hE25
              obtain ⟨E, rfl⟩ := open1 (E := E) hE41
              obtain ⟨E, rfl⟩ := open1 (E := E) hE42
              obtain ⟨E, rfl⟩ := open1 (E := E) hE43
              refine WP_region ?_
              obtain ⟨t665, ht665, hM⟩ := bindS hM
              refine O (r_addM rfl rfl ht665) rfl ?_
              refine O (r_move (v := .int .i64 t665) rfl) rfl ?_
              refine OW_nil ?_
              obtain rfl := Option.some.inj hM
              exact ⟨v2526, xs2417, rfl, rfl, rfl, rfl, rfl, rfl, rfl, rfl, rfl, rfl, rfl, rfl, rfl, hrelxs2417, hs⟩
          · refine WP_false rfl hc736 ?_
            refine WP_exit ?_
            obtain rfl := Option.some.inj hM
            refine fun hr => ?_
            have hM := congrArg some hr
            obtain rfl := Option.some.inj hM
            exact ⟨v2511, xs2402, v2255, xs2156, v2254, xs2155, rfl, rfl, rfl, rfl, rfl, rfl, rfl, rfl, rfl, rfl, hrelxs2402, hrelxs2156, hrelxs2155, hs⟩
        · clear hs
          rintro E w ⟨v2500, xs2391, v2499, xs2390, v2498, xs2389, hE1, hE3, hE4, hE5, hE6, hE7, hE9, hE23, hE24, hE25, hrelxs2391, hrelxs2390, hrelxs2389, hs⟩
          have hM := hKhx305
          obtain ⟨E, rfl⟩ := open1 (E := E) hE1
          obtain ⟨E, rfl⟩ := open1 (E := E) hE3
          obtain ⟨E, rfl⟩ := open1 (E := E) hE4
          obtain ⟨E, rfl⟩ := open1 (E := E) hE5
          obtain ⟨E, rfl⟩ := open1 (E := E) hE6
          obtain ⟨E, rfl⟩ := open1 (E := E) hE7
          obtain ⟨E, rfl⟩ := open1 (E := E) hE9
          obtain ⟨E, rfl⟩ := open1 (E := E) hE23
          obtain ⟨E, rfl⟩ := open1 (E := E) hE24
          obtain ⟨E, rfl⟩ := open1 (E := E) hE25
          refine WP_seq ?_
          refine WP_region ?_
          refine O (r_move (v := .map (some b676)) rfl) rfl ?_
          refine O (r_move (v := v2500) rfl) rfl ?_
          have hsL106 := hs
          have hRv1L106 := hRv1
          have hRv2L106 := hRv2
          have hRv3L106 := hRv3
          have hrelxs2391L106 := hrelxs2391
          have hrelxs2390L106 := hrelxs2390
          have hrelxs2389L106 := hrelxs2389
          have hlegg135L106 := hlegg135
          have hlegg359L106 := hlegg359
          have hagg359L106 := hagg359
          obtain ⟨gg393, hlegg393, hRgg393, hs⟩ := hs.relRow (i := 0) rfl hrelxs2391
          replace hRv1 := hRv1.mono hlegg393
          replace hRv2 := hRv2.mono hlegg393
          replace hRv3 := hRv3.mono hlegg393
          replace hrelxs2390 := hrelxs2390.mono hlegg393
          replace hrelxs2389 := hrelxs2389.mono hlegg393
          replace hlegg135 := hlegg135.trans hlegg393
          replace hlegg359 := hlegg359.trans hlegg393
          replace hagg359 := hagg359.trans hlegg393
          obtain ⟨rv106, hrv106, hM⟩ := bindS hM
          refine C [v2500] cf57 rfl (dfa_wide_ok hrv106 hs.imm hRgg393) rfl ?_
          rintro v2531 wv1983 ⟨gg394, hvv2531, hegg394⟩
          obtain ⟨gg395, hlegg395, hs⟩ := hsL106.lent hegg394
          replace hRv1 := hRv1L106.mono hlegg395
          replace hRv2 := hRv2L106.mono hlegg395
          replace hRv3 := hRv3L106.mono hlegg395
          replace hrelxs2391 := hrelxs2391L106.mono hlegg395
          replace hrelxs2390 := hrelxs2390L106.mono hlegg395
          replace hrelxs2389 := hrelxs2389L106.mono hlegg395
          replace hlegg135 := hlegg135L106.trans hlegg395
          replace hlegg359 := hlegg359L106.trans hlegg395
          replace hagg359 := hagg359L106.trans hlegg395
          obtain ⟨cs1082, rfl, hcs1082⟩ := hvv2531
          have hcs1082 : cs1082 = _ := hcs1082; subst hcs1082
          refine O (r_lookup (z := 0) (kk := rv106) Try.underlying83 ti3 (keyLaw_str Try.underlying9) hs (i := 2) rfl hmes132 rfl rfl) rfl ?_
          refine O (r_move (v := .tuple #[.int .i64 ((mget m68 rv106).getD 0), .bool ((mget m68 rv106).isSome)]) rfl) rfl ?_
          refine O (r_extract (vs := [.int .i64 ((mget m68 rv106).getD 0), .bool ((mget m68 rv106).isSome)]) (v := .int .i64 ((mget m68 rv106).getD 0)) rfl rfl) rfl ?_
          refine O (r_extract (vs := [.int .i64 ((mget m68 rv106).getD 0), .bool ((mget m68 rv106).isSome)]) (v := .bool ((mget m68 rv106).isSome)) rfl rfl) rfl ?_
          refine O (r_assign (v := .int .i64 ((mget m68 rv106).getD 0)) rfl) rfl ?_
          refine O (r_assign (v := .bool ((mget m68 rv106).isSome)) rfl) rfl ?_
          refine OW_nil ?_
          obtain ⟨⟨m75, xv525⟩, hx309, hKhx309⟩ := bindS hM
          refine WP_cut (fun E w => ∃ (gg399 : Hp) (es146 : Array MapEntry) (ck146 : Nat), E 1 = .pointer (some ⟨b1, 0, none⟩) ∧ E 3 = v2498 ∧ E 4 = .int .i64 xv176 ∧ E 5 = .map (some b676) ∧ E 6 = v2499 ∧ E 7 = .int .i64 xv468 ∧ E 12 = .int .i64 xv525 ∧ E 23 = v2 ∧ E 24 = .int .i64 (p1.Next.length : Int) ∧ E 25 = .int .i64 xv468 ∧ Hle gg395 gg399 ∧ MRel encS (Value.int .i64) es146 m75 ∧ Go.Lx.Sep g0 w0 gg399 w [.row v2499 3 (tInt .i64).sz l27.length xs2390, .obj b676 (.map es146 ck146), .row v2498 3 (tInt .i64).sz l11.length xs2389, Go.Lx.box b1 25 ([v1, v2, v3])]) ?_ ?_
          · have hM := hx309
            have hagg395 := Hle.refl gg395
            refine WP_seq ?_
            refine WP_region ?_
            refine O (r_move (v := .bool ((mget m68 rv106).isSome)) rfl) rfl ?_
            refine O (r_not rfl) rfl ?_
            refine OW_nil ?_
            rcases condS hM with ⟨hc740, hM⟩ | ⟨hc740, hM⟩
            · refine WP_true rfl hc740 ?_
              refine WP_seq ?_
              refine WP_region ?_
              refine O (r_move (v := .map (some b676)) rfl) rfl ?_
              refine O (r_lenMap Try.underlying83 hs (i := 2) rfl hmes132 rfl) rfl ?_
              refine O (r_assign (v := .int .i64 (m68.length : Int)) rfl) rfl ?_
              refine OW_nil ?_
              refine WP_region ?_
              refine O (r_move (v := .map (some b676)) rfl) rfl ?_
              refine O (r_move (v := v2500) rfl) rfl ?_
              have hsL108 := hs
              have hRv1L108 := hRv1
              have hRv2L108 := hRv2
              have hRv3L108 := hRv3
              have hrelxs2391L108 := hrelxs2391
              have hrelxs2390L108 := hrelxs2390
              have hrelxs2389L108 := hrelxs2389
              have hlegg135L108 := hlegg135
              have hlegg359L108 := hlegg359
              have hagg359L108 := hagg359
              have hagg395L108 := hagg395
              obtain ⟨gg400, hlegg400, hRgg400, hs⟩ := hs.relRow (i := 0) rfl hrelxs2391
              replace hRv1 := hRv1.mono hlegg400
              replace hRv2 := hRv2.mono hlegg400
              replace hRv3 := hRv3.mono hlegg400
              replace hrelxs2390 := hrelxs2390.mono hlegg400
              replace hrelxs2389 := hrelxs2389.mono hlegg400
              replace hlegg135 := hlegg135.trans hlegg400
              replace hlegg359 := hlegg359.trans hlegg400
              replace hagg359 := hagg359.trans hlegg400
              replace hagg395 := hagg395.trans hlegg400
              obtain ⟨rv108, hrv108, hM⟩ := bindS hM
              refine C [v2500] cf57 rfl (dfa_wide_ok hrv108 hs.imm hRgg400) rfl ?_
              rintro v2533 wv1986 ⟨gg401, hvv2533, hegg401⟩
              obtain ⟨gg402, hlegg402, hs⟩ := hsL108.lent hegg401
              replace hRv1 := hRv1L108.mono hlegg402
              replace hRv2 := hRv2L108.mono hlegg402
              replace hRv3 := hRv3L108.mono hlegg402
              replace hrelxs2391 := hrelxs2391L108.mono hlegg402
              replace hrelxs2390 := hrelxs2390L108.mono hlegg402
              replace hrelxs2389 := hrelxs2389L108.mono hlegg402
              replace hlegg135 := hlegg135L108.trans hlegg402
              replace hlegg359 := hlegg359L108.trans hlegg402
              replace hagg359 := hagg359L108.trans hlegg402
              replace hagg395 := hagg395L108.trans hlegg402
              obtain ⟨cs1084, rfl, hcs1084⟩ := hvv2533
              have hcs1084 : cs1084 = _ := hcs1084; subst hcs1084
              refine O (r_move (v := .int .i64 (m68.length : Int)) rfl) rfl ?_
              refine OW_mapSet (kk := rv108) (vv := (m68.length : Int)) Try.underlying83 (keyLaw_str Try.underlying9) hs (i := 2) rfl hmes132 rfl rfl rfl ?_
              intro es147 ck147 wv1987 hmes147 hs
              refine OW_nil ?_
              simp only [Option.some.injEq, Prod.mk.injEq] at hM
              obtain ⟨rfl, rfl⟩ := hM
              exact ⟨gg402, es147, ck147, rfl, rfl, rfl, rfl, rfl, rfl, rfl, rfl, rfl, rfl, hagg395, hmes147, (hs.sub (.cons _ (.cons_cons _ (.cons_cons _ (.cons_cons _ (.cons_cons _ .slnil))))))⟩
            · refine WP_false rfl hc740 ?_
              refine WP_skip ?_
              simp only [Option.some.injEq, Prod.mk.injEq] at hM
              obtain ⟨rfl, rfl⟩ := hM
              exact ⟨gg395, es132, ck132, rfl, rfl, rfl, rfl, rfl, rfl, rfl, rfl, rfl, rfl, (Hle.refl _), hmes132, (hs.sub (.cons _ (.cons_cons _ (.cons_cons _ (.cons_cons _ (.cons_cons _ .slnil))))))⟩
          · clear hs
            rintro E w ⟨gg399, es146, ck146, hE1, hE3, hE4, hE5, hE6, hE7, hE12, hE23, hE24, hE25, hlegg399, hmes146, hs⟩
            have hM := hKhx309
            obtain ⟨E, rfl⟩ := open1 (E := E) hE1
            obtain ⟨E, rfl⟩ := open1 (E := E) hE3
            obtain ⟨E, rfl⟩ := open1 (E := E) hE4
            obtain ⟨E, rfl⟩ := open1 (E := E) hE5
            obtain ⟨E, rfl⟩ := open1 (E := E) hE6
            obtain ⟨E, rfl⟩ := open1 (E := E) hE7
            obtain ⟨E, rfl⟩ := open1 (E := E) hE12
            obtain ⟨E, rfl⟩ := open1 (E := E) hE23
            obtain ⟨E, rfl⟩ := open1 (E := E) hE24
            obtain ⟨E, rfl⟩ := open1 (E := E) hE25
            replace hRv1 := hRv1.mono hlegg399
            replace hRv2 := hRv2.mono hlegg399
            replace hRv3 := hRv3.mono hlegg399
            replace hrelxs2390 := hrelxs2390.mono hlegg399
            replace hrelxs2389 := hrelxs2389.mono hlegg399
            replace hlegg135 := hlegg135.trans hlegg399
            replace hlegg359 := hlegg359.trans hlegg399
            replace hagg359 := hagg359.trans hlegg399
            refine WP_region ?_
            refine O (r_move (v := v2499) rfl) rfl ?_
            refine O (r_move (v := .int .i64 xv468) rfl) rfl ?_
            refine O (r_move (v := .int .i64 xv525) rfl) rfl ?_
            obtain ⟨y1134, hy1134, hM⟩ := bindS hM
            obtain ⟨b1012, cb1012, hvb1012, wv1988, xs2422, hstb1012, hrelb1012, hsb1012⟩ := hs.rowPut (i := 0) rfl hrelxs2390 hy1134 (cs := [.int .i64 xv525]) rfl
            refine O (r_idxSl Try.underlying22 ti3 (v := v2499) rfl hvb1012 rfl (setL_some hy1134).1 (setL_some hy1134).2.1) rfl ?_
            refine O0 (r_store ti3 rfl (v := .int .i64 xv525) rfl rfl hstb1012) ?_
            have hs := hsb1012
            refine OW_nil ?_
            simp only [Option.some.injEq, Prod.mk.injEq] at hM
            obtain ⟨rfl, rfl⟩ := hM
            exact ⟨gg399, v2499, xs2422, es146, ck146, v2498, xs2389, rfl, rfl, rfl, rfl, rfl, rfl, rfl, rfl, hagg359, hrelb1012, hmes146, hrelxs2389, hs⟩
      · clear hs
        rintro E w ⟨gg392, v2465, xs2357, es144, ck144, v2464, xs2356, hE1, hE3, hE4, hE5, hE6, hE23, hE24, hE25, hlegg392, hrelxs2357, hmes144, hrelxs2356, hs⟩
        have hM := hKhx301
        obtain ⟨E, rfl⟩ := open1 (E := E) hE1
        obtain ⟨E, rfl⟩ := open1 (E := E) hE3
        obtain ⟨E, rfl⟩ := open1 (E := E) hE4
        obtain ⟨E, rfl⟩ := open1 (E := E) hE5
        obtain ⟨E, rfl⟩ := open1 (E := E) hE6
        obtain ⟨E, rfl⟩ := open1 (E := E) hE23
        obtain ⟨E, rfl⟩ := open1 (E := E) hE24
        obtain ⟨E, rfl⟩ := open1 (E := E) hE25
        replace hRv1 := hRv1.mono hlegg392
        replace hRv2 := hRv2.mono hlegg392
        replace hRv3 := hRv3.mono hlegg392
        replace hlegg135 := hlegg135.trans hlegg392
        replace hlegg359 := hlegg359.trans hlegg392
        replace hagg359 := hagg359.trans hlegg392
        refine WP_region ?_
        obtain ⟨t666, ht666, hM⟩ := bindS hM
        refine O (r_addM rfl rfl ht666) rfl ?_
        refine O (r_move (v := .int .i64 t666) rfl) rfl ?_
        refine OW_nil ?_
        obtain rfl := Option.some.inj hM
        exact ⟨gg392, v2465, xs2357, es144, ck144, v2464, xs2356, rfl, rfl, rfl, rfl, rfl, rfl, rfl, rfl, hlegg359, hrelxs2357, hmes144, hrelxs2356, hs⟩
    · refine WP_false rfl hc700 ?_
      refine WP_exit ?_
      obtain rfl := Option.some.inj hM
      refine fun hr => ?_
      have hM := congrArg some hr
      simp only [Option.some.injEq, Prod.mk.injEq] at hM
      obtain ⟨rfl, rfl⟩ := hM
      exact ⟨gg359, v2255, xs2156, es132, ck132, rfl, rfl, rfl, rfl, hlegg359, hrelxs2156, hmes132, (hs.sub (.cons_cons _ (.cons_cons _ (.cons _ (.cons_cons _ .slnil)))))⟩
  · clear hs
    rintro E w ⟨gg336, v2113, xs2020, es123, ck123, hE1, hE4, hE5, hE6, hlegg336, hrelxs2020, hmes123, hs⟩
    have hM := hKhx258
    obtain ⟨E, rfl⟩ := open1 (E := E) hE1
    obtain ⟨E, rfl⟩ := open1 (E := E) hE4
    obtain ⟨E, rfl⟩ := open1 (E := E) hE5
    obtain ⟨E, rfl⟩ := open1 (E := E) hE6
    replace hRv1 := hRv1.mono hlegg336
    replace hRv2 := hRv2.mono hlegg336
    replace hRv3 := hRv3.mono hlegg336
    replace hlegg135 := hlegg135.trans hlegg336
    replace hagg135 := hagg135.trans hlegg336
    refine WP_seq ?_
    refine WP_region ?_
    refine O (r_move (v := v2113) rfl) rfl ?_
    refine O (r_assign (v := v2113) rfl) rfl ?_
    refine OW_nil ?_
    refine WP_seq ?_
    refine WP_seq ?_
    refine WP_region ?_
    refine O (r_move (v := .map (some b676)) rfl) rfl ?_
    refine O (r_lenMap Try.underlying83 hs (i := 1) rfl hmes123 rfl) rfl ?_
    refine O (r_move (v := .int .i64 xv176) rfl) rfl ?_
    refine O (r_eql rfl rfl) rfl ?_
    refine OW_nil ?_
    rcases condS hM with ⟨hc741, hM⟩ | ⟨hc741, hM⟩
    · refine WP_true rfl hc741 ?_
      refine WP_seq ?_
      refine WP_region ?_
      refine O (r_move (v := v2113) rfl) rfl ?_
      refine O (r_assign (v := v2113) rfl) rfl ?_
      refine OW_nil ?_
      refine WP_ret ?_
      obtain rfl := Option.some.inj hM
      refine fun hr => ?_
      have hM := congrArg some hr
      obtain rfl := Option.some.inj hM
      exact ⟨_, res1 Try.results35 (rv_tmp (v := v2113) rfl), gg336, xs2020, hrelxs2020, (hs.sub (.cons_cons _ (.cons _ (.cons _ .slnil))))⟩
    · refine WP_false rfl hc741 ?_
      refine WP_skip ?_
      refine WP_region ?_
      refine O (r_move (v := .map (some b676)) rfl) rfl ?_
      refine O (r_lenMap Try.underlying83 hs (i := 1) rfl hmes123 rfl) rfl ?_
      refine O (r_assign (v := .int .i64 (m63.length : Int)) rfl) rfl ?_
      refine OW_nil ?_
      obtain rfl := Option.some.inj hM
      exact ⟨gg336, v2113, xs2020, rfl, rfl, rfl, hlegg135, hrelxs2020, (hs.sub (.cons_cons _ (.cons _ (.cons_cons _ .slnil))))⟩

set_option maxRecDepth 100000 in
theorem dfa_classes_ok {p1 : T_DFA} {p2 : (List Int)} {p3 : (List Int)} {r : (List Int)} (hM : M.dfa_classes p1 p2 p3 = some r) {g0 : Hp} {w0 : World} (hi : Imm g0 w0) {cs1 : List Value} (hcs1 : tT_DFA.rel g0 cs1 p1) {v1 : Value} (hRv1 : RdS (tInt .i64) g0 v1 p2) {v2 : Value} (hRv2 : RdS (tInt .i64) g0 v2 p3) :
    CallsV Try.prog 36 #[.agg cs1.toArray, v1, v2] w0 (fun v w' => ∃ g' y0, (RowRel (tInt .i64) g' y0 r) ∧ Sep g0 w0 g' w' [.row v 3 (tInt .i64).sz r.length y0]) := by
  unfold M.dfa_classes at hM
  obtain ⟨cs2, cs3, cs4, rfl, hcs2, hcs3, hcs4⟩ := hcs1
  obtain ⟨v3, rfl, hRv3⟩ := hcs2
  obtain ⟨v4, rfl, hRv4⟩ := hcs3
  obtain ⟨v5, rfl, hRv5⟩ := hcs4
  have hs := Sep.start hi
  refine calls_of_WP (args := [.agg (List.toArray (α := Value) [v3, v4, v5]), v1, v2]) Try.func36 rfl Try.ntmps36 rfl ?_
  refine WP_seq ?_
  refine WP_region ?_
  refine OW_box (v := .agg (List.toArray (α := Value) [v3, v4, v5])) rfl hs (zs := [v3, v4, v5]) rfl rfl ?_
  intro b1 wv1 hs
  refine O (r_assign (v := .slice none 0 0) rfl) rfl ?_
  refine OW_nil ?_
  refine WP_seq ?_
  refine WP_region ?_
  obtain ⟨l1, hl1, hM⟩ := bindS hM
  refine OW_make (τ := (tInt .i64)) (zc := [.int .i64 0]) (zx := 0) Try.underlying22 ti3 rfl rfl (by decide) hs rfl rfl hl1 rfl ?_
  intro v6 wv2 xs1 hrelxs1 hs
  refine O (r_assign (v := v6) rfl) rfl ?_
  refine OW_nil ?_
  refine WP_seq ?_
  refine WP_region ?_
  refine OW_makeMap hs rfl ?_
  intro b2 wv3 hs
  have hmb2 : MRel encS (Value.int .i64) #[] [] := mrel_nil
  refine O (r_assign (v := .map (some b2)) rfl) rfl ?_
  refine OW_nil ?_
  obtain ⟨l5, hx52, hKhx52⟩ := bindS hM
  refine WP_cut (fun E w => ∃ (gg145 : Hp) (v187 : Value) (xs146 : List Value), E 7 = v187 ∧ Hle g0 gg145 ∧ RowRel (tInt .i64) gg145 xs146 l5 ∧ Go.Lx.Sep g0 w0 gg145 w [.row v187 3 (tInt .i64).sz l5.length xs146]) ?_ ?_
  · have hM := hx52
    have hag0 := Hle.refl g0
    refine WP_seq ?_
    refine WP_region ?_
    refine O (r_move (v := v6) rfl) rfl ?_
    obtain ⟨a14, ca14, hva14⟩ := hs.rowShape (i := 1) rfl
    refine O (r_lenSl (v := v6) Try.underlying22 rfl hva14) rfl ?_
    refine O (r_move (v := .int .i64 0) rfl) rfl ?_
    refine OW_nil ?_
    refine WP_block ?_
    refine WP_loop (fun (st9 : (List Int) × (List (Str × Int)) × Int) E w => match st9 with | (l7, m17, xv117) => ∃ (gg194 : Hp) (es33 : Array MapEntry) (ck33 : Nat) (v248 : Value) (xs195 : List Value), E 1 = v1 ∧ E 2 = v2 ∧ E 3 = .pointer (some ⟨b1, 0, none⟩) ∧ E 7 = v248 ∧ E 8 = .map (some b2) ∧ E 19 = .int .i64 (l1.length : Int) ∧ E 20 = .int .i64 xv117 ∧ Hle g0 gg194 ∧ MRel encS (Value.int .i64) es33 m17 ∧ RowRel (tInt .i64) gg194 xs195 l7 ∧ Go.Lx.Sep g0 w0 gg194 w [.obj b2 (.map es33 ck33), .row v248 3 (tInt .i64).sz l7.length xs195, Go.Lx.box b1 25 ([v3, v4, v5])]) hM ⟨g0, #[], 0, v6, xs1, rfl, rfl, rfl, rfl, rfl, rfl, rfl, (Hle.refl _), hmb2, hrelxs1, hs⟩ ?_
    clear hs hM
    rintro ⟨l7, m17, xv117⟩ o22 E w hM ⟨gg194, es33, ck33, v248, xs195, hE1, hE2, hE3, hE7, hE8, hE19, hE20, hlegg194, hmes33, hrelxs195, hs⟩
    obtain ⟨E, rfl⟩ := open1 (E := E) hE1
    obtain ⟨E, rfl⟩ := open1 (E := E) hE2
    obtain ⟨E, rfl⟩ := open1 (E := E) hE3
    obtain ⟨E, rfl⟩ := open1 (E := E) hE7
    obtain ⟨E, rfl⟩ := open1 (E := E) hE8
    obtain ⟨E, rfl⟩ := open1 (E := E) hE19
    obtain ⟨E, rfl⟩ := open1 (E := E) hE20
    replace hRv1 := hRv1.mono hlegg194
    replace hRv2 := hRv2.mono hlegg194
    replace hRv3 := hRv3.mono hlegg194
    replace hRv4 := hRv4.mono hlegg194
    replace hRv5 := hRv5.mono hlegg194
    replace hag0 := hag0.trans hlegg194
    have hagg194 := Hle.refl gg194
    refine WP_seq ?_
    refine WP_region ?_
    refine O (r_lss rfl rfl) rfl ?_
    refine OW_nil ?_
    refine WP_seq ?_
    rcases condS hM with ⟨hc206, hM⟩ | ⟨hc206, hM⟩
    · refine WP_true rfl hc206 ?_
      refine WP_skip ?_
      obtain ⟨⟨y83, m23⟩, hx95, hKhx95⟩ := bindS hM
      refine WP_cut (fun E w => ∃ (gg266 : Hp) (es45 : Array MapEntry) (ck45 : Nat) (v338 : Value) (xs267 : List Value), E 1 = v1 ∧ E 2 = v2 ∧ E 3 = .pointer (some ⟨b1, 0, none⟩) ∧ E 7 = v338 ∧ E 8 = .map (some b2) ∧ E 19 = .int .i64 (l1.length : Int) ∧ E 20 = .int .i64 xv117 ∧ Hle gg194 gg266 ∧ MRel encS (Value.int .i64) es45 m23 ∧ RowRel (tInt .i64) gg266 xs267 y83 ∧ Go.Lx.Sep g0 w0 gg266 w [.obj b2 (.map es45 ck45), .row v338 3 (tInt .i64).sz y83.length xs267, Go.Lx.box b1 25 ([v3, v4, v5])]) ?_ ?_
      · have hM := hx95
        refine WP_block ?_
        refine WP_seq ?_
        refine WP_region ?_
        refine O (r_move (v := .int .i64 xv117) rfl) rfl ?_
        refine O (r_assign (v := .int .i64 xv117) rfl) rfl ?_
        refine OW_nil ?_
        refine WP_seq ?_
        refine WP_region ?_
        refine O (r_assign (v := .slice none 0 0) rfl) rfl ?_
        refine OW_nil ?_
        obtain ⟨xv167, hx99, hKhx99⟩ := bindS hM
        refine WP_cut (fun E w => ∃ (gg273 : Hp) (v352 : Value) (xs279 : List Value) (v351 : Value) (xs278 : List Value), E 1 = v1 ∧ E 2 = v2 ∧ E 3 = .pointer (some ⟨b1, 0, none⟩) ∧ E 7 = v351 ∧ E 8 = .map (some b2) ∧ E 9 = .int .i64 xv117 ∧ E 10 = v352 ∧ E 19 = .int .i64 (l1.length : Int) ∧ E 20 = .int .i64 xv117 ∧ Hle gg194 gg273 ∧ RowRel (tInt .i64) gg273 xs279 xv167 ∧ RowRel (tInt .i64) gg273 xs278 l7 ∧ Go.Lx.Sep g0 w0 gg273 w [.row v352 3 (tInt .i64).sz xv167.length xs279, .obj b2 (.map es33 ck33), .row v351 3 (tInt .i64).sz l7.length xs278, Go.Lx.box b1 25 ([v3, v4, v5])]) ?_ ?_
        · have hM := hx99
          refine WP_seq ?_
          refine WP_region ?_
          refine O (r_move (v := v1) rfl) rfl ?_
          obtain ⟨a26, ca26, hva26⟩ := hRv1.shape
          refine O (r_lenSl (v := v1) Try.underlying22 rfl hva26) rfl ?_
          refine O (r_move (v := .int .i64 0) rfl) rfl ?_
          refine OW_nil ?_
          refine WP_block ?_
          have hs := hs.nilRow 3 (tInt .i64).sz
          refine WP_loop (fun (st9 : (List Int) × Int) E w => match st9 with | (xv170, xv171) => ∃ (gg276 : Hp) (v357 : Value) (xs284 : List Value), E 1 = v1 ∧ E 2 = v2 ∧ E 3 = .pointer (some ⟨b1, 0, none⟩) ∧ E 7 = v248 ∧ E 8 = .map (some b2) ∧ E 9 = .int .i64 xv117 ∧ E 10 = v357 ∧ E 19 = .int .i64 (l1.length : Int) ∧ E 20 = .int .i64 xv117 ∧ E 23 = v1 ∧ E 24 = .int .i64 (p2.length : Int) ∧ E 25 = .int .i64 xv171 ∧ Hle gg194 gg276 ∧ RowRel (tInt .i64) gg276 xs284 xv170 ∧ Go.Lx.Sep g0 w0 gg276 w [.row v357 3 (tInt .i64).sz xv170.length xs284, .obj b2 (.map es33 ck33), .row v248 3 (tInt .i64).sz l7.length xs195, Go.Lx.box b1 25 ([v3, v4, v5])]) hM ⟨gg194, (.slice none 0 0), [], rfl, rfl, rfl, rfl, rfl, rfl, rfl, rfl, rfl, rfl, rfl, rfl, (Hle.refl _), RowRel.nil, hs⟩ ?_
          clear hs hM
          rintro ⟨xv170, xv171⟩ o26 E w hM ⟨gg276, v357, xs284, hE1, hE2, hE3, hE7, hE8, hE9, hE10, hE19, hE20, hE23, hE24, hE25, hlegg276, hrelxs284, hs⟩
          obtain ⟨E, rfl⟩ := open1 (E := E) hE1
          obtain ⟨E, rfl⟩ := open1 (E := E) hE2
          obtain ⟨E, rfl⟩ := open1 (E := E) hE3
          obtain ⟨E, rfl⟩ := open1 (E := E) hE7
          obtain ⟨E, rfl⟩ := open1 (E := E) hE8
          obtain ⟨E, rfl⟩ := open1 (E := E) hE9
          obtain ⟨E, rfl⟩ := open1 (E := E) hE10
          obtain ⟨E, rfl⟩ := open1 (E := E) hE19
          obtain ⟨E, rfl⟩ := open1 (E := E) hE20
          obtain ⟨E, rfl⟩ := open1 (E := E) hE23
          obtain ⟨E, rfl⟩ := open1 (E := E) hE24
          obtain ⟨E, rfl⟩ := open1 (E := E) hE25
          replace hRv1 := hRv1.mono hlegg276
          replace hRv2 := hRv2.mono hlegg276
          replace hRv3 := hRv3.mono hlegg276
          replace hRv4 := hRv4.mono hlegg276
          replace hRv5 := hRv5.mono hlegg276
          replace hrelxs195 := hrelxs195.mono hlegg276
          replace hlegg194 := hlegg194.trans hlegg276
          replace hagg194 := hagg194.trans hlegg276
          have hagg276 := Hle.refl gg276
          refine WP_seq ?_
          refine WP_region ?_
          refine O (r_lss rfl rfl) rfl ?_
          refine OW_nil ?_
          refine WP_seq ?_
          rcases condS hM with ⟨hc242, hM⟩ | ⟨hc242, hM⟩
          · refine WP_true rfl hc242 ?_
            refine WP_skip ?_
            refine WP_seq ?_
            refine WP_block ?_
            refine WP_seq ?_
            refine WP_region ?_
            obtain ⟨e285, he285, hM⟩ := bindS hM
            obtain ⟨b227, ob227, cb227, hvb227, cs322, hcs322, hcb227⟩ := hRv1.at he285
            have hcs322 : cs322 = _ := hcs322; subst hcs322
            refine O (r_idxSl Try.underlying22 ti3 (v := v1) rfl hvb227 rfl (idxL_some he285).1 (idxL_some he285).2.1) rfl ?_
            refine O (r_loadEl (cs := [.int .i64 e285]) ti3 rfl rfl (.inr rfl) (hcb227 _ hs.imm) (v := .int .i64 e285) rfl) rfl ?_
            refine O (r_assign (v := .int .i64 e285) rfl) rfl ?_
            refine OW_nil ?_
            refine WP_seq ?_
            refine WP_region ?_
            refine O (r_loadN (cs := [v3, v4, v5]) ti25 rfl rfl (hs.cells (i := 3) rfl)) rfl ?_
            refine O (r_move (v := .int .i64 e285) rfl) rfl ?_
            refine O (r_move (v := .int .i64 xv117) rfl) rfl ?_
            refine O (r_conv Try.underlying3 Try.underlying5 rfl) rfl ?_
            obtain ⟨rv105, hrv105, hM⟩ := bindS hM
            refine C [.agg (List.toArray (α := Value) [v3, v4, v5]), .int .i64 e285, .int .u8 (IntKind.u8.wrap xv117)] cf29 rfl (dfa_step_ok hrv105 hs.imm (⟨[v3], [v4], [v5], rfl, ⟨_, rfl, hRv3⟩, ⟨_, rfl, hRv4⟩, ⟨_, rfl, hRv5⟩⟩)) rfl ?_
            rintro v362 wv283 ⟨gg279, hvv362, hegg279⟩
            have hlegg279 := hegg279.le hs.imm
            replace hs := hs.call hegg279
            replace hRv1 := hRv1.mono hlegg279
            replace hRv2 := hRv2.mono hlegg279
            replace hRv3 := hRv3.mono hlegg279
            replace hRv4 := hRv4.mono hlegg279
            replace hRv5 := hRv5.mono hlegg279
            replace hrelxs284 := hrelxs284.mono hlegg279
            replace hrelxs195 := hrelxs195.mono hlegg279
            replace hlegg194 := hlegg194.trans hlegg279
            replace hlegg276 := hlegg276.trans hlegg279
            replace hagg276 := hagg276.trans hlegg279
            obtain ⟨cs323, rfl, hcs323⟩ := hvv362
            have hcs323 : cs323 = _ := hcs323; subst hcs323
            refine O (r_assign (v := .int .i64 rv105) rfl) rfl ?_
            refine OW_nil ?_
            obtain ⟨e287, hx102, hKhx102⟩ := bindS hM
            refine WP_cut (fun E w => E 1 = v1 ∧ E 2 = v2 ∧ E 3 = .pointer (some ⟨b1, 0, none⟩) ∧ E 7 = v248 ∧ E 8 = .map (some b2) ∧ E 9 = .int .i64 xv117 ∧ E 10 = v357 ∧ E 13 = .int .i64 e287 ∧ E 19 = .int .i64 (l1.length : Int) ∧ E 20 = .int .i64 xv117 ∧ E 23 = v1 ∧ E 24 = .int .i64 (p2.length : Int) ∧ E 25 = .int .i64 xv171 ∧ Go.Lx.Sep g0 w0 gg279 w [.row v357 3 (tInt .i64).sz xv170.length xs284, .obj b2 (.map es33 ck33), .row v248 3 (tInt .i64).sz l7.length xs195, Go.Lx.box b1 25 ([v3, v4, v5])]) ?_ ?_
            · have hM := hx102
              have hagg279 := Hle.refl gg279
              refine WP_seq ?_
              refine WP_region ?_
              refine O (r_move (v := .int .i64 rv105) rfl) rfl ?_
              refine O (r_geq rfl rfl) rfl ?_
              refine OW_nil ?_
              rcases condS hM with ⟨hc244, hM⟩ | ⟨hc244, hM⟩
              · refine WP_true rfl hc244 ?_
                refine WP_region ?_
                refine O (r_move (v := v2) rfl) rfl ?_
                refine O (r_move (v := .int .i64 rv105) rfl) rfl ?_
                obtain ⟨e288, he288, hM⟩ := bindS hM
                obtain ⟨b229, ob229, cb229, hvb229, cs325, hcs325, hcb229⟩ := hRv2.at he288
                have hcs325 : cs325 = _ := hcs325; subst hcs325
                refine O (r_idxSl Try.underlying22 ti3 (v := v2) rfl hvb229 rfl (idxL_some he288).1 (idxL_some he288).2.1) rfl ?_
                refine O (r_loadEl (cs := [.int .i64 e288]) ti3 rfl rfl (.inr rfl) (hcb229 _ hs.imm) (v := .int .i64 e288) rfl) rfl ?_
                refine O (r_assign (v := .int .i64 e288) rfl) rfl ?_
                refine OW_nil ?_
                obtain rfl := Option.some.inj hM
                exact ⟨rfl, rfl, rfl, rfl, rfl, rfl, rfl, rfl, rfl, rfl, rfl, rfl, rfl, hs⟩
              · refine WP_false rfl hc244 ?_
                refine WP_skip ?_
                obtain rfl := Option.some.inj hM
                exact ⟨rfl, rfl, rfl, rfl, rfl, rfl, rfl, rfl, rfl, rfl, rfl, rfl, rfl, hs⟩
            · clear hs
              rintro E w ⟨hE1, hE2, hE3, hE7, hE8, hE9, hE10, hE13, hE19, hE20, hE23, hE24, hE25, hs⟩
              have hM := hKhx102
              obtain ⟨E, rfl⟩ := open1 (E := E) hE1
              obtain ⟨E, rfl⟩ := open1 (E := E) hE2
              obtain ⟨E, rfl⟩ := open1 (E := E) hE3
              obtain ⟨E, rfl⟩ := open1 (E := E) hE7
              obtain ⟨E, rfl⟩ := open1 (E := E) hE8
              obtain ⟨E, rfl⟩ := open1 (E := E) hE9
              obtain ⟨E, rfl⟩ := open1 (E := E) hE10
              obtain ⟨E, rfl⟩ := open1 (E := E) hE13
              obtain ⟨E, rfl⟩ := open1 (E := E) hE19
              obtain ⟨E, rfl⟩ := open1 (E := E) hE20
              obtain ⟨E, rfl⟩ := open1 (E := E) hE23
              obtain ⟨E, rfl⟩ := open1 (E := E) hE24
              obtain ⟨E, rfl⟩ := open1 (E := E) hE25
              refine WP_region ?_
              refine O (r_move (v := v357) rfl) rfl ?_
              refine O (r_move (v := .int .i64 e287) rfl) rfl ?_
              refine OW_lit (τ := (tInt .i64)) [.int .i64 e287] [e287] Try.underlying22 ti3 (by decide) hs rfl rfl rfl ⟨rfl, trivial⟩ rfl ?_
              intro v363 wv284 xs288 hrelxs288 hs
              obtain ⟨y89, hy89, hM⟩ := bindS hM
              refine OW_append Try.underlying22 ti3 rfl (by decide) (by decide) hs (i := 1) rfl hrelxs284 (v := v357) rfl (u := v363) rfl (hs.rowSrc (i := 0) rfl) hrelxs288 hy89 rfl ?_
              intro v364 wv285 xs289 hrelxs289 hs
              refine O (r_assign (v := v364) rfl) rfl ?_
              refine OW_nil ?_
              refine WP_region ?_
              obtain ⟨t77, ht77, hM⟩ := bindS hM
              refine O (r_addM rfl rfl ht77) rfl ?_
              refine O (r_move (v := .int .i64 t77) rfl) rfl ?_
              refine OW_nil ?_
              obtain rfl := Option.some.inj hM
              exact ⟨gg279, v364, xs289, rfl, rfl, rfl, rfl, rfl, rfl, rfl, rfl, rfl, rfl, rfl, rfl, hlegg276, hrelxs289, (hs.sub (.cons _ (.cons_cons _ (.cons_cons _ (.cons_cons _ (.cons_cons _ .slnil))))))⟩
          · refine WP_false rfl hc242 ?_
            refine WP_exit ?_
            obtain rfl := Option.some.inj hM
            refine fun hr => ?_
            have hM := congrArg some hr
            obtain rfl := Option.some.inj hM
            exact ⟨gg276, v357, xs284, v248, xs195, rfl, rfl, rfl, rfl, rfl, rfl, rfl, rfl, rfl, hlegg276, hrelxs284, hrelxs195, hs⟩
        · clear hs
          rintro E w ⟨gg273, v352, xs279, v351, xs278, hE1, hE2, hE3, hE7, hE8, hE9, hE10, hE19, hE20, hlegg273, hrelxs279, hrelxs278, hs⟩
          have hM := hKhx99
          obtain ⟨E, rfl⟩ := open1 (E := E) hE1
          obtain ⟨E, rfl⟩ := open1 (E := E) hE2
          obtain ⟨E, rfl⟩ := open1 (E := E) hE3
          obtain ⟨E, rfl⟩ := open1 (E := E) hE7
          obtain ⟨E, rfl⟩ := open1 (E := E) hE8
          obtain ⟨E, rfl⟩ := open1 (E := E) hE9
          obtain ⟨E, rfl⟩ := open1 (E := E) hE10
          obtain ⟨E, rfl⟩ := open1 (E := E) hE19
          obtain ⟨E, rfl⟩ := open1 (E := E) hE20
          replace hRv1 := hRv1.mono hlegg273
          replace hRv2 := hRv2.mono hlegg273
          replace hRv3 := hRv3.mono hlegg273
          replace hRv4 := hRv4.mono hlegg273
          replace hRv5 := hRv5.mono hlegg273
          replace hlegg194 := hlegg194.trans hlegg273
          replace hagg194 := hagg194.trans hlegg273
          refine WP_seq ?_
          refine WP_region ?_
          refine O (r_move (v := .map (some b2)) rfl) rfl ?_
          refine O (r_move (v := v352) rfl) rfl ?_
          have hsL34 := hs
          have hRv1L34 := hRv1
          have hRv2L34 := hRv2
          have hRv3L34 := hRv3
          have hRv4L34 := hRv4
          have hRv5L34 := hRv5
          have hrelxs279L34 := hrelxs279
          have hrelxs278L34 := hrelxs278
          have hlegg194L34 := hlegg194
          have hagg194L34 := hagg194
          obtain ⟨gg280, hlegg280, hRgg280, hs⟩ := hs.relRow (i := 0) rfl hrelxs279
          replace hRv1 := hRv1.mono hlegg280
          replace hRv2 := hRv2.mono hlegg280
          replace hRv3 := hRv3.mono hlegg280
          replace hRv4 := hRv4.mono hlegg280
          replace hRv5 := hRv5.mono hlegg280
          replace hrelxs278 := hrelxs278.mono hlegg280
          replace hlegg194 := hlegg194.trans hlegg280
          replace hagg194 := hagg194.trans hlegg280
          obtain ⟨rv106, hrv106, hM⟩ := bindS hM
          refine C [v352] cf57 rfl (dfa_wide_ok hrv106 hs.imm hRgg280) rfl ?_
          rintro v365 wv286 ⟨gg281, hvv365, hegg281⟩
          obtain ⟨gg282, hlegg282, hs⟩ := hsL34.lent hegg281
          replace hRv1 := hRv1L34.mono hlegg282
          replace hRv2 := hRv2L34.mono hlegg282
          replace hRv3 := hRv3L34.mono hlegg282
          replace hRv4 := hRv4L34.mono hlegg282
          replace hRv5 := hRv5L34.mono hlegg282
          replace hrelxs279 := hrelxs279L34.mono hlegg282
          replace hrelxs278 := hrelxs278L34.mono hlegg282
          replace hlegg194 := hlegg194L34.trans hlegg282
          replace hagg194 := hagg194L34.trans hlegg282
          obtain ⟨cs326, rfl, hcs326⟩ := hvv365
          have hcs326 : cs326 = _ := hcs326; subst hcs326
          refine O (r_lookup (z := 0) (kk := rv106) Try.underlying83 ti3 (keyLaw_str Try.underlying9) hs (i := 1) rfl hmes33 rfl rfl) rfl ?_
          refine O (r_move (v := .tuple #[.int .i64 ((mget m17 rv106).getD 0), .bool ((mget m17 rv106).isSome)]) rfl) rfl ?_
          refine O (r_extract (vs := [.int .i64 ((mget m17 rv106).getD 0), .bool ((mget m17 rv106).isSome)]) (v := .int .i64 ((mget m17 rv106).getD 0)) rfl rfl) rfl ?_
          refine O (r_extract (vs := [.int .i64 ((mget m17 rv106).getD 0), .bool ((mget m17 rv106).isSome)]) (v := .bool ((mget m17 rv106).isSome)) rfl rfl) rfl ?_
          refine O (r_assign (v := .int .i64 ((mget m17 rv106).getD 0)) rfl) rfl ?_
          refine O (r_assign (v := .bool ((mget m17 rv106).isSome)) rfl) rfl ?_
          refine OW_nil ?_
          obtain ⟨⟨m24, xv174⟩, hx103, hKhx103⟩ := bindS hM
          refine WP_cut (fun E w => ∃ (gg286 : Hp) (es47 : Array MapEntry) (ck47 : Nat), E 1 = v1 ∧ E 2 = v2 ∧ E 3 = .pointer (some ⟨b1, 0, none⟩) ∧ E 7 = v351 ∧ E 8 = .map (some b2) ∧ E 9 = .int .i64 xv117 ∧ E 14 = .int .i64 xv174 ∧ E 19 = .int .i64 (l1.length : Int) ∧ E 20 = .int .i64 xv117 ∧ Hle gg282 gg286 ∧ MRel encS (Value.int .i64) es47 m24 ∧ Go.Lx.Sep g0 w0 gg286 w [.obj b2 (.map es47 ck47), .row v351 3 (tInt .i64).sz l7.length xs278, Go.Lx.box b1 25 ([v3, v4, v5])]) ?_ ?_
          · have hM := hx103
            have hagg282 := Hle.refl gg282
            refine WP_seq ?_
            refine WP_region ?_
            refine O (r_move (v := .bool ((mget m17 rv106).isSome)) rfl) rfl ?_
            refine O (r_not rfl) rfl ?_
            refine OW_nil ?_
            rcases condS hM with ⟨hc246, hM⟩ | ⟨hc246, hM⟩
            · refine WP_true rfl hc246 ?_
              refine WP_seq ?_
              refine WP_region ?_
              refine O (r_move (v := .map (some b2)) rfl) rfl ?_
              refine O (r_lenMap Try.underlying83 hs (i := 1) rfl hmes33 rfl) rfl ?_
              refine O (r_assign (v := .int .i64 (m17.length : Int)) rfl) rfl ?_
              refine OW_nil ?_
              refine WP_region ?_
              refine O (r_move (v := .map (some b2)) rfl) rfl ?_
              refine O (r_move (v := v352) rfl) rfl ?_
              have hsL36 := hs
              have hRv1L36 := hRv1
              have hRv2L36 := hRv2
              have hRv3L36 := hRv3
              have hRv4L36 := hRv4
              have hRv5L36 := hRv5
              have hrelxs279L36 := hrelxs279
              have hrelxs278L36 := hrelxs278
              have hlegg194L36 := hlegg194
              have hagg194L36 := hagg194
              have hagg282L36 := hagg282
              obtain ⟨gg287, hlegg287, hRgg287, hs⟩ := hs.relRow (i := 0) rfl hrelxs279
              replace hRv1 := hRv1.mono hlegg287
              replace hRv2 := hRv2.mono hlegg287
              replace hRv3 := hRv3.mono hlegg287
              replace hRv4 := hRv4.mono hlegg287
              replace hRv5 := hRv5.mono hlegg287
              replace hrelxs278 := hrelxs278.mono hlegg287
              replace hlegg194 := hlegg194.trans hlegg287
              replace hagg194 := hagg194.trans hlegg287
              replace hagg282 := hagg282.trans hlegg287
              obtain ⟨rv108, hrv108, hM⟩ := bindS hM
              refine C [v352] cf57 rfl (dfa_wide_ok hrv108 hs.imm hRgg287) rfl ?_
              rintro v367 wv289 ⟨gg288, hvv367, hegg288⟩
              obtain ⟨gg289, hlegg289, hs⟩ := hsL36.lent hegg288
              replace hRv1 := hRv1L36.mono hlegg289
              replace hRv2 := hRv2L36.mono hlegg289
              replace hRv3 := hRv3L36.mono hlegg289
              replace hRv4 := hRv4L36.mono hlegg289
              replace hRv5 := hRv5L36.mono hlegg289
              replace hrelxs279 := hrelxs279L36.mono hlegg289
              replace hrelxs278 := hrelxs278L36.mono hlegg289
              replace hlegg194 := hlegg194L36.trans hlegg289
              replace hagg194 := hagg194L36.trans hlegg289
              replace hagg282 := hagg282L36.trans hlegg289
              obtain ⟨cs328, rfl, hcs328⟩ := hvv367
              have hcs328 : cs328 = _ := hcs328; subst hcs328
              refine O (r_move (v := .int .i64 (m17.length : Int)) rfl) rfl ?_
              refine OW_mapSet (kk := rv108) (vv := (m17.length : Int)) Try.underlying83 (keyLaw_str Try.underlying9) hs (i := 1) rfl hmes33 rfl rfl rfl ?_
              intro es48 ck48 wv290 hmes48 hs
              refine OW_nil ?_
              simp only [Option.some.injEq, Prod.mk.injEq] at hM
              obtain ⟨rfl, rfl⟩ := hM
              exact ⟨gg289, es48, ck48, rfl, rfl, rfl, rfl, rfl, rfl, rfl, rfl, rfl, hagg282, hmes48, (hs.sub (.cons _ (.cons_cons _ (.cons_cons _ (.cons_cons _ .slnil)))))⟩
            · refine WP_false rfl hc246 ?_
              refine WP_skip ?_
              simp only [Option.some.injEq, Prod.mk.injEq] at hM
              obtain ⟨rfl, rfl⟩ := hM
              exact ⟨gg282, es33, ck33, rfl, rfl, rfl, rfl, rfl, rfl, rfl, rfl, rfl, (Hle.refl _), hmes33, (hs.sub (.cons _ (.cons_cons _ (.cons_cons _ (.cons_cons _ .slnil)))))⟩
          · clear hs
            rintro E w ⟨gg286, es47, ck47, hE1, hE2, hE3, hE7, hE8, hE9, hE14, hE19, hE20, hlegg286, hmes47, hs⟩
            have hM := hKhx103
            obtain ⟨E, rfl⟩ := open1 (E := E) hE1
            obtain ⟨E, rfl⟩ := open1 (E := E) hE2
            obtain ⟨E, rfl⟩ := open1 (E := E) hE3
            obtain ⟨E, rfl⟩ := open1 (E := E) hE7
            obtain ⟨E, rfl⟩ := open1 (E := E) hE8
            obtain ⟨E, rfl⟩ := open1 (E := E) hE9
            obtain ⟨E, rfl⟩ := open1 (E := E) hE14
            obtain ⟨E, rfl⟩ := open1 (E := E) hE19
            obtain ⟨E, rfl⟩ := open1 (E := E) hE20
            replace hRv1 := hRv1.mono hlegg286
            replace hRv2 := hRv2.mono hlegg286
            replace hRv3 := hRv3.mono hlegg286
            replace hRv4 := hRv4.mono hlegg286
            replace hRv5 := hRv5.mono hlegg286
            replace hrelxs278 := hrelxs278.mono hlegg286
            replace hlegg194 := hlegg194.trans hlegg286
            replace hagg194 := hagg194.trans hlegg286
            refine WP_region ?_
            refine O (r_move (v := v351) rfl) rfl ?_
            refine O (r_move (v := .int .i64 xv117) rfl) rfl ?_
            refine O (r_move (v := .int .i64 xv174) rfl) rfl ?_
            obtain ⟨y90, hy90, hM⟩ := bindS hM
            obtain ⟨b230, cb230, hvb230, wv291, xs290, hstb230, hrelb230, hsb230⟩ := hs.rowPut (i := 1) rfl hrelxs278 hy90 (cs := [.int .i64 xv174]) rfl
            refine O (r_idxSl Try.underlying22 ti3 (v := v351) rfl hvb230 rfl (setL_some hy90).1 (setL_some hy90).2.1) rfl ?_
            refine O0 (r_store ti3 rfl (v := .int .i64 xv174) rfl rfl hstb230) ?_
            have hs := hsb230
            refine OW_nil ?_
            simp only [Option.some.injEq, Prod.mk.injEq] at hM
            obtain ⟨rfl, rfl⟩ := hM
            exact ⟨gg286, es47, ck47, v351, xs290, rfl, rfl, rfl, rfl, rfl, rfl, rfl, hagg194, hmes47, hrelb230, hs⟩
      · clear hs
        rintro E w ⟨gg266, es45, ck45, v338, xs267, hE1, hE2, hE3, hE7, hE8, hE19, hE20, hlegg266, hmes45, hrelxs267, hs⟩
        have hM := hKhx95
        obtain ⟨E, rfl⟩ := open1 (E := E) hE1
        obtain ⟨E, rfl⟩ := open1 (E := E) hE2
        obtain ⟨E, rfl⟩ := open1 (E := E) hE3
        obtain ⟨E, rfl⟩ := open1 (E := E) hE7
        obtain ⟨E, rfl⟩ := open1 (E := E) hE8
        obtain ⟨E, rfl⟩ := open1 (E := E) hE19
        obtain ⟨E, rfl⟩ := open1 (E := E) hE20
        replace hRv1 := hRv1.mono hlegg266
        replace hRv2 := hRv2.mono hlegg266
        replace hRv3 := hRv3.mono hlegg266
        replace hRv4 := hRv4.mono hlegg266
        replace hRv5 := hRv5.mono hlegg266
        replace hlegg194 := hlegg194.trans hlegg266
        replace hagg194 := hagg194.trans hlegg266
        refine WP_region ?_
        obtain ⟨t78, ht78, hM⟩ := bindS hM
        refine O (r_addM rfl rfl ht78) rfl ?_
        refine O (r_move (v := .int .i64 t78) rfl) rfl ?_
        refine OW_nil ?_
        obtain rfl := Option.some.inj hM
        exact ⟨gg266, es45, ck45, v338, xs267, rfl, rfl, rfl, rfl, rfl, rfl, rfl, hlegg194, hmes45, hrelxs267, hs⟩
    · refine WP_false rfl hc206 ?_
      refine WP_exit ?_
      obtain rfl := Option.some.inj hM
      refine fun hr => ?_
      have hM := congrArg some hr
      obtain rfl := Option.some.inj hM
      exact ⟨gg194, v248, xs195, rfl, hlegg194, hrelxs195, (hs.sub (.cons _ (.cons_cons _ (.cons _ .slnil))))⟩
  · clear hs
    rintro E w ⟨gg145, v187, xs146, hE7, hlegg145, hrelxs146, hs⟩
    have hM := hKhx52
    obtain ⟨E, rfl⟩ := open1 (E := E) hE7
    refine WP_seq ?_
    refine WP_region ?_
    refine O (r_move (v := v187) rfl) rfl ?_
    refine O (r_assign (v := v187) rfl) rfl ?_
    refine OW_nil ?_
    refine WP_ret ?_
    obtain rfl := Option.some.inj hM
    exact ⟨_, res1 Try.results36 (rv_tmp (v := v187) rfl), gg145, xs146, hrelxs146, hs⟩

set_option maxRecDepth 100000 in
theorem dfa_reached_ok {d1 : T_DFA} {part1 : (List Int)} {r : (List Int)} (hM : M.dfa_reached d1 part1 = some r) {g0 : Hp} {w0 : World} (hi : Imm g0 w0) {cs1 : List Value} (hcs1 : tT_DFA.rel g0 cs1 d1) {v1 : Value} (hRv1 : RdS (tInt .i64) g0 v1 part1) :
    CallsV Try.prog 37 #[.agg cs1.toArray, v1] w0 (fun v w' => ∃ g' y0, (RowRel (tInt .i64) g' y0 r) ∧ Sep g0 w0 g' w' [.row v 3 (tInt .i64).sz r.length y0]) := by
  unfold M.dfa_reached at hM
  obtain ⟨cs2, cs3, cs4, rfl, hcs2, hcs3, hcs4⟩ := hcs1
  obtain ⟨v2, rfl, hRv2⟩ := hcs2
  obtain ⟨v3, rfl, hRv3⟩ := hcs3
  obtain ⟨v4, rfl, hRv4⟩ := hcs4
  have hs := Sep.start hi
  refine calls_of_WP (args := [.agg (List.toArray (α := Value) [v2, v3, v4]), v1]) Try.func37 rfl Try.ntmps37 rfl ?_
  refine WP_seq ?_
  refine WP_region ?_
  refine OW_box (v := .agg (List.toArray (α := Value) [v2, v3, v4])) rfl hs (zs := [v2, v3, v4]) rfl rfl ?_
  intro b1 wv1 hs
  refine O (r_assign (v := .slice none 0 0) rfl) rfl ?_
  refine OW_nil ?_
  refine WP_seq ?_
  refine WP_region ?_
  refine OW_lit (τ := (tInt .i64)) [.int .i64 0] [0] Try.underlying22 ti3 (by decide) hs rfl rfl rfl ⟨rfl, trivial⟩ rfl ?_
  intro v5 wv2 xs1 hrelxs1 hs
  refine O (r_assign (v := v5) rfl) rfl ?_
  refine OW_nil ?_
  refine WP_seq ?_
  refine WP_region ?_
  refine O (r_fieldAddr Try.underlying25 ti23 rfl rfl (by decide) rfl rfl) rfl ?_
  refine O (r_load (v := v3) ti23 rfl (hs.cell (i := 1) (o := 1) rfl rfl)) rfl ?_
  obtain ⟨a1, ca1, hva1⟩ := hRv3.shape
  refine O (r_lenSl (v := v3) Try.underlying23 rfl hva1) rfl ?_
  obtain ⟨seen1, hseen1, hM⟩ := bindS hM
  refine OW_make (τ := tBool) (zc := [.bool false]) (zx := false) Try.underlying88 ti4 rfl rfl (by decide) hs rfl rfl hseen1 rfl ?_
  intro v6 wv3 xs2 hrelxs2 hs
  refine O (r_assign (v := v6) rfl) rfl ?_
  refine OW_nil ?_
  refine WP_seq ?_
  refine WP_region ?_
  refine O (r_move (v := v6) rfl) rfl ?_
  refine O (r_move (v := v1) rfl) rfl ?_
  obtain ⟨e1, he1, hM⟩ := bindS hM
  obtain ⟨b2, ob2, cb2, hvb2, cs5, hcs5, hcb2⟩ := hRv1.at he1
  have hcs5 : cs5 = _ := hcs5; subst hcs5
  refine O (r_idxSl Try.underlying22 ti3 (v := v1) rfl hvb2 rfl (idxL_some he1).1 (idxL_some he1).2.1) rfl ?_
  refine O (r_loadEl (cs := [.int .i64 e1]) ti3 rfl rfl (.inr rfl) (hcb2 _ hs.imm) (v := .int .i64 e1) rfl) rfl ?_
  obtain ⟨seen2, hseen2, hM⟩ := bindS hM
  obtain ⟨b3, cb3, hvb3, wv4, xs3, hstb3, hrelb3, hsb3⟩ := hs.rowPut (i := 0) rfl hrelxs2 hseen2 (cs := [.bool true]) rfl
  refine O (r_idxSl Try.underlying88 ti4 (v := v6) rfl hvb3 rfl (setL_some hseen2).1 (setL_some hseen2).2.1) rfl ?_
  refine O0 (r_store ti4 rfl (v := .bool true) rfl rfl hstb3) ?_
  have hs := hsb3
  refine OW_nil ?_
  obtain ⟨xv79, hx58, hKhx58⟩ := bindS hM
  refine WP_cut (fun E w => ∃ (v169 : Value) (xs196 : List Value), E 5 = v169 ∧ RowRel (tInt .i64) g0 xs196 xv79 ∧ Go.Lx.Sep g0 w0 g0 w [.row v169 3 (tInt .i64).sz xv79.length xs196]) ?_ ?_
  · have hM := hx58
    have hag0 := Hle.refl g0
    refine WP_seq ?_
    refine WP_region ?_
    refine O (r_assign (v := .int .i64 0) rfl) rfl ?_
    refine OW_nil ?_
    refine WP_block ?_
    refine WP_loop (fun (st9 : (List Int) × (List Bool) × Int) E w => match st9 with | (xv106, seen107, i5) => ∃ (v225 : Value) (xs262 : List Value) (v224 : Value) (xs261 : List Value), E 1 = v1 ∧ E 2 = .pointer (some ⟨b1, 0, none⟩) ∧ E 5 = v224 ∧ E 6 = v225 ∧ E 7 = .int .i64 i5 ∧ RowRel tBool g0 xs262 seen107 ∧ RowRel (tInt .i64) g0 xs261 xv106 ∧ Go.Lx.Sep g0 w0 g0 w [.row v225 4 tBool.sz seen107.length xs262, .row v224 3 (tInt .i64).sz xv106.length xs261, Go.Lx.box b1 25 ([v2, v3, v4])]) hM ⟨v6, xs3, v5, xs1, rfl, rfl, rfl, rfl, rfl, hrelb3, hrelxs1, hs⟩ ?_
    clear hs hM
    rintro ⟨xv106, seen107, i5⟩ o12 E w hM ⟨v225, xs262, v224, xs261, hE1, hE2, hE5, hE6, hE7, hrelxs262, hrelxs261, hs⟩
    obtain ⟨E, rfl⟩ := open1 (E := E) hE1
    obtain ⟨E, rfl⟩ := open1 (E := E) hE2
    obtain ⟨E, rfl⟩ := open1 (E := E) hE5
    obtain ⟨E, rfl⟩ := open1 (E := E) hE6
    obtain ⟨E, rfl⟩ := open1 (E := E) hE7
    refine WP_seq ?_
    refine WP_seq ?_
    refine WP_region ?_
    refine O (r_move (v := .int .i64 i5) rfl) rfl ?_
    refine O (r_move (v := v224) rfl) rfl ?_
    obtain ⟨a17, ca17, hva17⟩ := hs.rowShape (i := 1) rfl
    refine O (r_lenSl (v := v224) Try.underlying22 rfl hva17) rfl ?_
    refine O (r_lss rfl rfl) rfl ?_
    refine OW_nil ?_
    rcases condS hM with ⟨hc96, hM⟩ | ⟨hc96, hM⟩
    · refine WP_true rfl hc96 ?_
      refine WP_skip ?_
      obtain ⟨⟨xv145, seen146⟩, hx106, hKhx106⟩ := bindS hM
      refine WP_cut (fun E w => ∃ (v306 : Value) (xs358 : List Value) (v305 : Value) (xs357 : List Value), E 1 = v1 ∧ E 2 = .pointer (some ⟨b1, 0, none⟩) ∧ E 5 = v305 ∧ E 6 = v306 ∧ E 7 = .int .i64 i5 ∧ RowRel tBool g0 xs358 seen146 ∧ RowRel (tInt .i64) g0 xs357 xv145 ∧ Go.Lx.Sep g0 w0 g0 w [.row v306 4 tBool.sz seen146.length xs358, .row v305 3 (tInt .i64).sz xv145.length xs357, Go.Lx.box b1 25 ([v2, v3, v4])]) ?_ ?_
      · have hM := hx106
        refine WP_block ?_
        refine WP_seq ?_
        refine WP_draw mo (by decide +kernel) ?_
        have hs := hs.drew
        refine S (r_fieldAddr Try.underlying25 ti23 rfl rfl (by decide) rfl rfl) rfl ?_
        refine S (r_load (v := v3) ti23 rfl (hs.cell (i := 2) (o := 1) rfl rfl)) rfl ?_
        refine S (r_move (v := v224) rfl) rfl ?_
        refine S (r_move (v := .int .i64 i5) rfl) rfl ?_
        obtain ⟨e420, he420, hM⟩ := bindS hM
        obtain ⟨b488, cb488, hvb488, cs424, hcs424, hcb488⟩ := hs.rowEl (i := 1) rfl hrelxs261 he420
        have hcs424 : cs424 = _ := hcs424; subst hcs424
        refine S (r_idxSl Try.underlying22 ti3 (v := v224) rfl hvb488 rfl (idxL_some he420).1 (idxL_some he420).2.1) rfl ?_
        refine S (r_loadEl (cs := [.int .i64 e420]) ti3 rfl rfl (.inr rfl) (hcb488 _ (hs.at (i := 1) rfl)) (v := .int .i64 e420) rfl) rfl ?_
        obtain ⟨e421, he421, hM⟩ := bindS hM
        obtain ⟨b489, ob489, cb489, hvb489, cs425, hcs425, hcb489⟩ := hRv3.at he421
        obtain ⟨v307, rfl, hRv307⟩ := hcs425
        refine S (r_idxSl Try.underlying23 ti22 (v := v3) rfl hvb489 rfl (idxL_some he421).1 (idxL_some he421).2.1) rfl ?_
        refine S (r_loadEl (cs := [v307]) ti22 rfl rfl (.inr rfl) (hcb489 _ hs.imm) (v := v307) rfl) rfl ?_
        obtain ⟨a19, ca19, hva19⟩ := hRv307.shape
        refine S (r_lenSl (v := v307) Try.underlying22 rfl hva19) rfl ?_
        refine S (r_move (v := .int .i64 0) rfl) rfl ?_
        refine SW_nil ?_
        refine WP_block ?_
        refine WP_loop (fun (st9 : (List Int) × (List Bool) × Int) E w => match st9 with | (xv150, seen151, xv151) => ∃ (v317 : Value) (xs370 : List Value) (v316 : Value) (xs369 : List Value), E 1 = v1 ∧ E 2 = .pointer (some ⟨b1, 0, none⟩) ∧ E 5 = v316 ∧ E 6 = v317 ∧ E 7 = .int .i64 i5 ∧ E 33 = v307 ∧ E 34 = .int .i64 (e421.length : Int) ∧ E 35 = .int .i64 xv151 ∧ RowRel tBool g0 xs370 seen151 ∧ RowRel (tInt .i64) g0 xs369 xv150 ∧ Go.Lx.Sep g0 w0 g0 w [.row v317 4 tBool.sz seen151.length xs370, .row v316 3 (tInt .i64).sz xv150.length xs369, Go.Lx.box b1 25 ([v2, v3, v4])]) hM ⟨v225, xs262, v224, xs261, rfl, rfl, rfl, rfl, rfl, rfl, rfl, rfl, hrelxs262, hrelxs261, hs⟩ ?_
        clear hs hM
        rintro ⟨xv150, seen151, xv151⟩ o14 E w hM ⟨v317, xs370, v316, xs369, hE1, hE2, hE5, hE6, hE7, hE33, hE34, hE35, hrelxs370, hrelxs369, hs⟩
        obtain ⟨E, rfl⟩ := open1 (E := E) hE1
        obtain ⟨E, rfl⟩ := open1 (E := E) hE2
        obtain ⟨E, rfl⟩ := open1 (E := E) hE5
        obtain ⟨E, rfl⟩ := open1 (E := E) hE6
        obtain ⟨E, rfl⟩ := open1 (E := E) hE7
        obtain ⟨E, rfl⟩ := open1 (E := E) hE33
        obtain ⟨E, rfl⟩ := open1 (E := E) hE34
        obtain ⟨E, rfl⟩ := open1 (E := E) hE35
        refine WP_seq ?_
        refine WP_region ?_
        refine O (r_lss rfl rfl) rfl ?_
        refine OW_nil ?_
        refine WP_seq ?_
        rcases condS hM with ⟨hc112, hM⟩ | ⟨hc112, hM⟩
        · refine WP_true rfl hc112 ?_
          refine WP_skip ?_
          obtain ⟨⟨out107, seen157⟩, hx114, hKhx114⟩ := bindS hM
          refine WP_cut (fun E w => ∃ (v329 : Value) (xs385 : List Value) (v328 : Value) (xs384 : List Value), E 1 = v1 ∧ E 2 = .pointer (some ⟨b1, 0, none⟩) ∧ E 5 = v328 ∧ E 6 = v329 ∧ E 7 = .int .i64 i5 ∧ E 33 = v307 ∧ E 34 = .int .i64 (e421.length : Int) ∧ E 35 = .int .i64 xv151 ∧ RowRel tBool g0 xs385 seen157 ∧ RowRel (tInt .i64) g0 xs384 out107 ∧ Go.Lx.Sep g0 w0 g0 w [.row v329 4 tBool.sz seen157.length xs385, .row v328 3 (tInt .i64).sz out107.length xs384, Go.Lx.box b1 25 ([v2, v3, v4])]) ?_ ?_
          · have hM := hx114
            refine WP_block ?_
            refine WP_seq ?_
            refine WP_region ?_
            obtain ⟨e452, he452, hM⟩ := bindS hM
            obtain ⟨b525, ob525, cb525, hvb525, cs456, hcs456, hcb525⟩ := hRv307.at he452
            have hcs456 : cs456 = _ := hcs456; subst hcs456
            refine O (r_idxSl Try.underlying22 ti3 (v := v307) rfl hvb525 rfl (idxL_some he452).1 (idxL_some he452).2.1) rfl ?_
            refine O (r_loadEl (cs := [.int .i64 e452]) ti3 rfl rfl (.inr rfl) (hcb525 _ hs.imm) (v := .int .i64 e452) rfl) rfl ?_
            refine O (r_assign (v := .int .i64 e452) rfl) rfl ?_
            refine OW_nil ?_
            obtain ⟨xv157, hx115, hKhx115⟩ := bindS hM
            refine WP_cut (fun E w => E 1 = v1 ∧ E 2 = .pointer (some ⟨b1, 0, none⟩) ∧ E 5 = v316 ∧ E 6 = v317 ∧ E 7 = .int .i64 i5 ∧ E 9 = .int .i64 e452 ∧ E 33 = v307 ∧ E 34 = .int .i64 (e421.length : Int) ∧ E 35 = .int .i64 xv151 ∧ E 50 = .bool xv157 ∧ Go.Lx.Sep g0 w0 g0 w [.row v317 4 tBool.sz seen151.length xs370, .row v316 3 (tInt .i64).sz xv150.length xs369, Go.Lx.box b1 25 ([v2, v3, v4])]) ?_ ?_
            · have hM := hx115
              refine WP_region ?_
              refine O (r_move (v := .int .i64 e452) rfl) rfl ?_
              refine O (r_geq rfl rfl) rfl ?_
              refine O (r_move (v := .bool (decide (0 ≤ e452))) rfl) rfl ?_
              rcases condS hM with ⟨hg144, hM⟩ | ⟨hg144, hM⟩
              · refine OG rfl rfl rfl (by rw [hg144]; rfl) (r_move (v := v317) rfl) rfl ?_
                refine OG rfl rfl rfl (by rw [hg144]; rfl) (r_move (v := v1) rfl) rfl ?_
                refine OG rfl rfl rfl (by rw [hg144]; rfl) (r_move (v := .int .i64 e452) rfl) rfl ?_
                obtain ⟨e455, he455, hM⟩ := bindS hM
                obtain ⟨b528, ob528, cb528, hvb528, cs459, hcs459, hcb528⟩ := hRv1.at he455
                have hcs459 : cs459 = _ := hcs459; subst hcs459
                refine OG rfl rfl rfl (by rw [hg144]; rfl) (r_idxSl Try.underlying22 ti3 (v := v1) rfl hvb528 rfl (idxL_some he455).1 (idxL_some he455).2.1) rfl ?_
                refine OG rfl rfl rfl (by rw [hg144]; rfl) (r_loadEl (cs := [.int .i64 e455]) ti3 rfl rfl (.inr rfl) (hcb528 _ hs.imm) (v := .int .i64 e455) rfl) rfl ?_
                obtain ⟨e456, he456, hM⟩ := bindS hM
                obtain ⟨b529, cb529, hvb529, cs460, hcs460, hcb529⟩ := hs.rowEl (i := 0) rfl hrelxs370 he456
                have hcs460 : cs460 = _ := hcs460; subst hcs460
                refine OG rfl rfl rfl (by rw [hg144]; rfl) (r_idxSl Try.underlying88 ti4 (v := v317) rfl hvb529 rfl (idxL_some he456).1 (idxL_some he456).2.1) rfl ?_
                refine OG rfl rfl rfl (by rw [hg144]; rfl) (r_loadEl (cs := [.bool e456]) ti4 rfl rfl (.inr rfl) (hcb529 _ (hs.at (i := 0) rfl)) (v := .bool e456) rfl) rfl ?_
                refine OG rfl rfl rfl (by rw [hg144]; rfl) (r_not rfl) rfl ?_
                refine O (r_pickT (v := .bool (!e456)) rfl hg144 rfl) rfl ?_
                refine OW_nil ?_
                obtain rfl := Option.some.inj hM
                exact ⟨rfl, rfl, rfl, rfl, rfl, rfl, rfl, rfl, rfl, rfl, hs⟩
              · refine OK rfl rfl rfl (by rw [hg144]; rfl) rfl ?_
                refine OK rfl rfl rfl (by rw [hg144]; rfl) rfl ?_
                refine OK rfl rfl rfl (by rw [hg144]; rfl) rfl ?_
                refine OK rfl rfl rfl (by rw [hg144]; rfl) rfl ?_
                refine OK rfl rfl rfl (by rw [hg144]; rfl) rfl ?_
                refine OK rfl rfl rfl (by rw [hg144]; rfl) rfl ?_
                refine OK rfl rfl rfl (by rw [hg144]; rfl) rfl ?_
                refine OK rfl rfl rfl (by rw [hg144]; rfl) rfl ?_
                refine O (r_pickF (v := .bool false) rfl hg144 rfl) rfl ?_
                refine OW_nil ?_
                obtain rfl := Option.some.inj hM
                exact ⟨rfl, rfl, rfl, rfl, rfl, rfl, rfl, rfl, rfl, rfl, hs⟩
            · clear hs
              rintro E w ⟨hE1, hE2, hE5, hE6, hE7, hE9, hE33, hE34, hE35, hE50, hs⟩
              have hM := hKhx115
              obtain ⟨E, rfl⟩ := open1 (E := E) hE1
              obtain ⟨E, rfl⟩ := open1 (E := E) hE2
              obtain ⟨E, rfl⟩ := open1 (E := E) hE5
              obtain ⟨E, rfl⟩ := open1 (E := E) hE6
              obtain ⟨E, rfl⟩ := open1 (E := E) hE7
              obtain ⟨E, rfl⟩ := open1 (E := E) hE9
              obtain ⟨E, rfl⟩ := open1 (E := E) hE33
              obtain ⟨E, rfl⟩ := open1 (E := E) hE34
              obtain ⟨E, rfl⟩ := open1 (E := E) hE35
              obtain ⟨E, rfl⟩ := open1 (E := E) hE50
              rcases condS hM with ⟨hc114, hM⟩ | ⟨hc114, hM⟩
              · refine WP_true rfl hc114 ?_
                refine WP_seq ?_
                refine WP_region ?_
                refine O (r_move (v := v317) rfl) rfl ?_
                refine O (r_move (v := v1) rfl) rfl ?_
                refine O (r_move (v := .int .i64 e452) rfl) rfl ?_
                obtain ⟨e457, he457, hM⟩ := bindS hM
                obtain ⟨b530, ob530, cb530, hvb530, cs461, hcs461, hcb530⟩ := hRv1.at he457
                have hcs461 : cs461 = _ := hcs461; subst hcs461
                refine O (r_idxSl Try.underlying22 ti3 (v := v1) rfl hvb530 rfl (idxL_some he457).1 (idxL_some he457).2.1) rfl ?_
                refine O (r_loadEl (cs := [.int .i64 e457]) ti3 rfl rfl (.inr rfl) (hcb530 _ hs.imm) (v := .int .i64 e457) rfl) rfl ?_
                obtain ⟨seen158, hseen158, hM⟩ := bindS hM
                obtain ⟨b531, cb531, hvb531, wv218, xs386, hstb531, hrelb531, hsb531⟩ := hs.rowPut (i := 0) rfl hrelxs370 hseen158 (cs := [.bool true]) rfl
                refine O (r_idxSl Try.underlying88 ti4 (v := v317) rfl hvb531 rfl (setL_some hseen158).1 (setL_some hseen158).2.1) rfl ?_
                refine O0 (r_store ti4 rfl (v := .bool true) rfl rfl hstb531) ?_
                have hs := hsb531
                refine OW_nil ?_
                refine WP_region ?_
                refine O (r_move (v := v316) rfl) rfl ?_
                refine O (r_move (v := .int .i64 e452) rfl) rfl ?_
                refine OW_lit (τ := (tInt .i64)) [.int .i64 e452] [e452] Try.underlying22 ti3 (by decide) hs rfl rfl rfl ⟨rfl, trivial⟩ rfl ?_
                intro v330 wv219 xs387 hrelxs387 hs
                obtain ⟨out108, hout108, hM⟩ := bindS hM
                refine OW_append Try.underlying22 ti3 rfl (by decide) (by decide) hs (i := 2) rfl hrelxs369 (v := v316) rfl (u := v330) rfl (hs.rowSrc (i := 0) rfl) hrelxs387 hout108 rfl ?_
                intro v331 wv220 xs388 hrelxs388 hs
                refine O (r_assign (v := v331) rfl) rfl ?_
                refine OW_nil ?_
                simp only [Option.some.injEq, Prod.mk.injEq] at hM
                obtain ⟨rfl, rfl⟩ := hM
                exact ⟨v317, xs386, v331, xs388, rfl, rfl, rfl, rfl, rfl, rfl, rfl, rfl, hrelb531, hrelxs388, (hs.sub (.cons _ (.cons_cons _ (.cons_cons _ (.cons_cons _ .slnil)))))⟩
              · refine WP_false rfl hc114 ?_
                refine WP_skip ?_
                simp only [Option.some.injEq, Prod.mk.injEq] at hM
                obtain ⟨rfl, rfl⟩ := hM
                exact ⟨v317, xs370, v316, xs369, rfl, rfl, rfl, rfl, rfl, rfl, rfl, rfl, hrelxs370, hrelxs369, hs⟩
          · clear hs
            rintro E w ⟨v329, xs385, v328, xs384, hE1, hE2, hE5, hE6, hE7, hE33, hE34, hE35, hrelxs385, hrelxs384, hs⟩
            have hM := hKhx114
            obtain ⟨E, rfl⟩ := open1 (E := E) hE1
            obtain ⟨E, rfl⟩ := open1 (E := E) hE2
            obtain ⟨E, rfl⟩ := open1 (E := E) hE5
            obtain ⟨E, rfl⟩ := open1 (E := E) hE6
            obtain ⟨E, rfl⟩ := open1 (E := E) hE7
            obtain ⟨E, rfl⟩ := open1 (E := E) hE33
            obtain ⟨E, rfl⟩ := open1 (E := E) hE34
            obtain ⟨E, rfl⟩ := open1 (E := E) hE35
            refine WP_region ?_
            obtain ⟨t41, ht41, hM⟩ := bindS hM
            refine O (r_addM rfl rfl ht41) rfl ?_
            refine O (r_move (v := .int .i64 t41) rfl) rfl ?_
            refine OW_nil ?_
            obtain rfl := Option.some.inj hM
            exact ⟨v329, xs385, v328, xs384, rfl, rfl, rfl, rfl, rfl, rfl, rfl, rfl, hrelxs385, hrelxs384, hs⟩
        · refine WP_false rfl hc112 ?_
          refine WP_exit ?_
          obtain rfl := Option.some.inj hM
          refine fun hr => ?_
          have hM := congrArg some hr
          simp only [Option.some.injEq, Prod.mk.injEq] at hM
          obtain ⟨rfl, rfl⟩ := hM
          exact ⟨v317, xs370, v316, xs369, rfl, rfl, rfl, rfl, rfl, hrelxs370, hrelxs369, hs⟩
      · clear hs
        rintro E w ⟨v306, xs358, v305, xs357, hE1, hE2, hE5, hE6, hE7, hrelxs358, hrelxs357, hs⟩
        have hM := hKhx106
        obtain ⟨E, rfl⟩ := open1 (E := E) hE1
        obtain ⟨E, rfl⟩ := open1 (E := E) hE2
        obtain ⟨E, rfl⟩ := open1 (E := E) hE5
        obtain ⟨E, rfl⟩ := open1 (E := E) hE6
        obtain ⟨E, rfl⟩ := open1 (E := E) hE7
        refine WP_region ?_
        refine O (r_move (v := .int .i64 i5) rfl) rfl ?_
        obtain ⟨t42, ht42, hM⟩ := bindS hM
        refine O (r_addM rfl rfl ht42) rfl ?_
        refine O (r_assign (v := .int .i64 t42) rfl) rfl ?_
        refine OW_nil ?_
        obtain rfl := Option.some.inj hM
        exact ⟨v306, xs358, v305, xs357, rfl, rfl, rfl, rfl, rfl, hrelxs358, hrelxs357, hs⟩
    · refine WP_false rfl hc96 ?_
      refine WP_exit ?_
      obtain rfl := Option.some.inj hM
      refine fun hr => ?_
      have hM := congrArg some hr
      obtain rfl := Option.some.inj hM
      exact ⟨v224, xs261, rfl, hrelxs261, (hs.sub (.cons _ (.cons_cons _ (.cons _ .slnil))))⟩
  · clear hs
    rintro E w ⟨v169, xs196, hE5, hrelxs196, hs⟩
    have hM := hKhx58
    obtain ⟨E, rfl⟩ := open1 (E := E) hE5
    refine WP_seq ?_
    refine WP_region ?_
    refine O (r_move (v := v169) rfl) rfl ?_
    refine O (r_assign (v := v169) rfl) rfl ?_
    refine OW_nil ?_
    refine WP_ret ?_
    obtain rfl := Option.some.inj hM
    exact ⟨_, res1 Try.results37 (rv_tmp (v := v169) rfl), g0, xs196, hrelxs196, hs⟩

set_option maxRecDepth 100000 in
theorem dfa_Minimize_ok {p1 : T_DFA} {r : T_DFA} (hM : M.dfa_Minimize p1 = some r) {g0 : Hp} {w0 : World} (hi : Imm g0 w0) {cs1 : List Value} (hcs1 : tT_DFA.rel g0 cs1 p1) :
    CallsV Try.prog 15 #[.agg cs1.toArray] w0 (fun v w' => ∃ g', (VRd tT_DFA true g' v r) ∧ Ext g0 w0 g' w') := by
  unfold M.dfa_Minimize at hM
  obtain ⟨cs2, cs3, cs4, rfl, hcs2, hcs3, hcs4⟩ := hcs1
  obtain ⟨v1, rfl, hRv1⟩ := hcs2
  obtain ⟨v2, rfl, hRv2⟩ := hcs3
  obtain ⟨v3, rfl, hRv3⟩ := hcs4
  have hs := Sep.start hi
  refine calls_of_WP (args := [.agg (List.toArray (α := Value) [v1, v2, v3])]) Try.func15 rfl Try.ntmps15 rfl ?_
  refine WP_seq ?_
  refine WP_region ?_
  refine OW_box (v := .agg (List.toArray (α := Value) [v1, v2, v3])) rfl hs (zs := [v1, v2, v3]) rfl rfl ?_
  intro b1 wv1 hs
  refine OW_alloc ti25 hs (zs := [.slice none 0 0, .slice none 0 0, .slice none 0 0]) rfl rfl ?_
  intro b2 wv2 hs
  refine OW_nil ?_
  refine WP_seq ?_
  refine WP_region ?_
  refine O (r_loadN (cs := [v1, v2, v3]) ti25 rfl rfl (hs.cells (i := 1) rfl)) rfl ?_
  obtain ⟨rv1, hrv1, hM⟩ := bindS hM
  refine C [.agg (List.toArray (α := Value) [v1, v2, v3])] cf34 rfl (dfa_used_ok hrv1 hs.imm (⟨[v1], [v2], [v3], rfl, ⟨_, rfl, hRv1⟩, ⟨_, rfl, hRv2⟩, ⟨_, rfl, hRv3⟩⟩)) rfl ?_
  rintro v4 wv3 ⟨gg1, hvv4, hegg1⟩
  have hlegg1 := hegg1.le hs.imm
  replace hs := hs.call hegg1
  replace hRv1 := hRv1.mono hlegg1
  replace hRv2 := hRv2.mono hlegg1
  replace hRv3 := hRv3.mono hlegg1
  obtain ⟨cs5, rfl, hcs5⟩ := hvv4
  obtain ⟨cs6, cs7, cs8, rfl, hcs6, hcs7, hcs8⟩ := hcs5
  obtain ⟨v5, rfl, hRv5⟩ := hcs6
  obtain ⟨v6, rfl, hRv6⟩ := hcs7
  obtain ⟨v7, rfl, hRv7⟩ := hcs8
  obtain ⟨rv2, hrv2, hM⟩ := bindS hM
  refine C [.agg (List.toArray (α := Value) [v5, v6, v7])] cf33 rfl (dfa_pruned_ok hrv2 hs.imm (⟨[v5], [v6], [v7], rfl, ⟨_, rfl, hRv5⟩, ⟨_, rfl, hRv6⟩, ⟨_, rfl, hRv7⟩⟩)) rfl ?_
  rintro v8 wv4 ⟨gg2, hvv8, hegg2⟩
  have hlegg2 := hegg2.le hs.imm
  replace hs := hs.call hegg2
  replace hRv1 := hRv1.mono hlegg2
  replace hRv2 := hRv2.mono hlegg2
  replace hRv3 := hRv3.mono hlegg2
  replace hRv5 := hRv5.mono hlegg2
  replace hRv6 := hRv6.mono hlegg2
  replace hRv7 := hRv7.mono hlegg2
  obtain ⟨cs9, rfl, hcs9⟩ := hvv8
  obtain ⟨cs10, cs11, cs12, rfl, hcs10, hcs11, hcs12⟩ := hcs9
  obtain ⟨v9, rfl, hRv9⟩ := hcs10
  obtain ⟨v10, rfl, hRv10⟩ := hcs11
  obtain ⟨v11, rfl, hRv11⟩ := hcs12
  refine OW_storeAll ti25 hs (i := 1) rfl rfl (v := .agg (List.toArray (α := Value) [v9, v10, v11])) rfl (vs := [v9, v10, v11]) rfl (one_cons (by obtain ⟨_, _, h9⟩ := hRv9.shape; rw [h9]; rfl) (one_cons (by obtain ⟨_, _, h9⟩ := hRv10.shape; rw [h9]; rfl) (one_cons (by obtain ⟨_, _, h9⟩ := hRv11.shape; rw [h9]; rfl) one_nil))) rfl rfl ?_
  intro wv5 hs
  refine OW_nil ?_
  refine WP_seq ?_
  refine WP_region ?_
  refine O (r_loadN (cs := [v9, v10, v11]) ti25 rfl rfl (hs.cells (i := 1) rfl)) rfl ?_
  obtain ⟨rv3, hrv3, hM⟩ := bindS hM
  refine C [.agg (List.toArray (α := Value) [v9, v10, v11])] cf35 rfl (dfa_partition_ok hrv3 hs.imm (⟨[v9], [v10], [v11], rfl, ⟨_, rfl, hRv9⟩, ⟨_, rfl, hRv10⟩, ⟨_, rfl, hRv11⟩⟩)) rfl ?_
  rintro v12 wv6 ⟨gg3, xs1, hvv12, hegg3⟩
  have hlegg3 := hegg3.ext.le hs.imm
  replace hs := hs.callOwn hegg3
  simp only [List.cons_append, List.nil_append] at hs
  replace hRv1 := hRv1.mono hlegg3
  replace hRv2 := hRv2.mono hlegg3
  replace hRv3 := hRv3.mono hlegg3
  replace hRv5 := hRv5.mono hlegg3
  replace hRv6 := hRv6.mono hlegg3
  replace hRv7 := hRv7.mono hlegg3
  replace hRv9 := hRv9.mono hlegg3
  replace hRv10 := hRv10.mono hlegg3
  replace hRv11 := hRv11.mono hlegg3
  refine O (r_assign (v := v12) rfl) rfl ?_
  refine OW_nil ?_
  obtain ⟨rv8, hx1, hKhx1⟩ := bindS hM
  refine WP_cut (fun E w => ∃ (gg22 : Hp) (b8 : Nat) (v24 : Value) (xs12 : List Value) (v23 : Value), E 1 = .pointer (some ⟨b1, 0, none⟩) ∧ E 2 = .pointer (some ⟨b2, 0, none⟩) ∧ E 3 = v23 ∧ E 4 = .pointer (some ⟨b8, 0, none⟩) ∧ Hle gg3 gg22 ∧ RowRel (tInt .i64) gg22 xs12 rv8 ∧ RdS (tInt .i64) gg22 v23 rv3 ∧ Go.Lx.Sep g0 w0 gg22 w [Go.Lx.box b8 25 ([v24, .slice none 0 0, .slice none 0 0]), .row v24 3 (tInt .i64).sz rv8.length xs12, Go.Lx.box b2 25 ([.slice none 0 0, .slice none 0 0, .slice none 0 0]), Go.Lx.box b1 25 ([v9, v10, v11])]) ?_ ?_
  · have hM := hx1
    have hagg3 := Hle.refl gg3
    obtain ⟨gg29, hlegg29, hRgg29, hs⟩ := hs.relRow (i := 0) rfl hvv12
    replace hRv1 := hRv1.mono hlegg29
    replace hRv2 := hRv2.mono hlegg29
    replace hRv3 := hRv3.mono hlegg29
    replace hRv5 := hRv5.mono hlegg29
    replace hRv6 := hRv6.mono hlegg29
    replace hRv7 := hRv7.mono hlegg29
    replace hRv9 := hRv9.mono hlegg29
    replace hRv10 := hRv10.mono hlegg29
    replace hRv11 := hRv11.mono hlegg29
    replace hagg3 := hagg3.trans hlegg29
    obtain ⟨rv11, hrv11, hM⟩ := bindS hM
    obtain ⟨rv12, hrv12, hM⟩ := bindS hM
    refine WP_any (.q 0 (.q 1 (.q 2 (.q 4 (.c 3 (.c 5 (.q 6 (.s 7 (.s 8 (.leaf)))) (.c 7 (.s 5 (.q 6 (.s 8 (.leaf)))) (.n))) (.c 7 (.s 3 (.s 5 (.q 6 (.s 8 (.leaf))))) (.n))))))) (SS g0 w0 gg29 [Go.Lx.box b2 25 ([.slice none 0 0, .slice none 0 0, .slice none 0 0]), Go.Lx.box b1 25 ([v9, v10, v11])]) mo (by decide +kernel) (fun _ _ _ h => h) ?_
    have hs := hs.drew
    have hagg29 := Hle.refl gg29
    have hRv1b := hRv1
    have hRv2b := hRv2
    have hRv3b := hRv3
    have hRv5b := hRv5
    have hRv6b := hRv6
    have hRv7b := hRv7
    have hRv9b := hRv9
    have hRv10b := hRv10
    have hRv11b := hRv11
    have hRgg29b := hRgg29
    have hS : SS g0 w0 gg29 [Go.Lx.box b2 25 ([.slice none 0 0, .slice none 0 0, .slice none 0 0]), Go.Lx.box b1 25 ([v9, v10, v11])] _ := ⟨gg29, Hle.refl _, hs⟩
    refine A rfl hS (fun w9 h9 => by obtain ⟨g9, hle9, hs⟩ := h9; exact r_loadN (cs := [v9, v10, v11]) ti25 rfl rfl (hs.cells (i := 1) rfl)) rfl ?_
    refine A rfl hS (fun w9 h9 => by obtain ⟨g9, hle9, hs⟩ := h9; exact r_loadN (cs := [v9, v10, v11]) ti25 rfl rfl (hs.cells (i := 1) rfl)) rfl ?_
    refine A rfl hS (fun w9 h9 => by obtain ⟨g9, hle9, hs⟩ := h9; exact r_move (v := v12) rfl) rfl ?_
    refine A rfl hS (fun w9 h9 => by obtain ⟨g9, hle9, hs⟩ := h9; exact r_move (v := v12) rfl) rfl ?_
    refine A2 rfl ?_ ?_
    · refine C [.agg (List.toArray (α := Value) [v9, v10, v11]), v12] cf37 rfl (dfa_reached_ok hrv11 hs.imm (⟨[v9], [v10], [v11], rfl, ⟨_, rfl, hRv9⟩, ⟨_, rfl, hRv10⟩, ⟨_, rfl, hRv11⟩⟩) hRgg29) rfl ?_
      rintro v30 wv36 ⟨gg33, xs18, hvv30, hegg33⟩
      have hlegg33 := hegg33.ext.le hs.imm
      replace hs := hs.callOwn hegg33
      simp only [List.cons_append, List.nil_append] at hs
      replace hRv1 := hRv1.mono hlegg33
      replace hRv2 := hRv2.mono hlegg33
      replace hRv3 := hRv3.mono hlegg33
      replace hRv5 := hRv5.mono hlegg33
      replace hRv6 := hRv6.mono hlegg33
      replace hRv7 := hRv7.mono hlegg33
      replace hRv9 := hRv9.mono hlegg33
      replace hRv10 := hRv10.mono hlegg33
      replace hRv11 := hRv11.mono hlegg33
      replace hRgg29 := hRgg29.mono hlegg33
      replace hagg3 := hagg3.trans hlegg33
      replace hagg29 := hagg29.trans hlegg33
      refine OW_nil ?_
      have hS : SS g0 w0 gg29 [Go.Lx.box b2 25 ([.slice none 0 0, .slice none 0 0, .slice none 0 0]), Go.Lx.box b1 25 ([v9, v10, v11])] _ := ⟨gg33, hagg29, (hs.sub (.cons _ (.cons_cons _ (.cons_cons _ .slnil))))⟩
      refine ⟨fun _ => hS, ?_⟩
      refine A2 rfl ?_ ?_
      · obtain ⟨gg34, hlegg34, hRgg34, hs⟩ := hs.relRow (i := 0) rfl hvv30
        replace hRv1 := hRv1.mono hlegg34
        replace hRv2 := hRv2.mono hlegg34
        replace hRv3 := hRv3.mono hlegg34
        replace hRv5 := hRv5.mono hlegg34
        replace hRv6 := hRv6.mono hlegg34
        replace hRv7 := hRv7.mono hlegg34
        replace hRv9 := hRv9.mono hlegg34
        replace hRv10 := hRv10.mono hlegg34
        replace hRv11 := hRv11.mono hlegg34
        replace hRgg29 := hRgg29.mono hlegg34
        replace hagg3 := hagg3.trans hlegg34
        replace hagg29 := hagg29.trans hlegg34
        refine C [.agg (List.toArray (α := Value) [v9, v10, v11]), v30, v12] cf36 rfl (dfa_classes_ok hrv12 hs.imm (⟨[v9], [v10], [v11], rfl, ⟨_, rfl, hRv9⟩, ⟨_, rfl, hRv10⟩, ⟨_, rfl, hRv11⟩⟩) hRgg34 hRgg29) rfl ?_
        rintro v31 wv37 ⟨gg35, xs19, hvv31, hegg35⟩
        have hlegg35 := hegg35.ext.le hs.imm
        replace hs := hs.callOwn hegg35
        simp only [List.cons_append, List.nil_append] at hs
        replace hRv1 := hRv1.mono hlegg35
        replace hRv2 := hRv2.mono hlegg35
        replace hRv3 := hRv3.mono hlegg35
        replace hRv5 := hRv5.mono hlegg35
        replace hRv6 := hRv6.mono hlegg35
        replace hRv7 := hRv7.mono hlegg35
        replace hRv9 := hRv9.mono hlegg35
        replace hRv10 := hRv10.mono hlegg35
        replace hRv11 := hRv11.mono hlegg35
        replace hRgg29 := hRgg29.mono hlegg35
        replace hRgg34 := hRgg34.mono hlegg35
        replace hagg3 := hagg3.trans hlegg35
        replace hagg29 := hagg29.trans hlegg35
        refine OW_nil ?_
        have hS : SS g0 w0 gg29 [Go.Lx.box b2 25 ([.slice none 0 0, .slice none 0 0, .slice none 0 0]), Go.Lx.box b1 25 ([v9, v10, v11])] _ := ⟨gg35, hagg29, (hs.sub (.cons _ (.cons_cons _ (.cons_cons _ .slnil))))⟩
        refine ⟨fun _ => hS, ?_⟩
        have ho8 := one_of_shape (hs.rowShape (i := 0) rfl)
        refine A rfl hS (fun w9 h9 => by obtain ⟨g9, hle9, hs⟩ := h9; exact r_build (vs := [(0, v31)]) (cs := [v31, .slice none 0 0, .slice none 0 0]) rfl (built_fill [(0, 1), (1, 1), (2, 1)] [.slice none 0 0, .slice none 0 0, .slice none 0 0] (fun _ => by kernel_rfl) (fill_step ([]) ([.slice none 0 0]) ([.slice none 0 0, .slice none 0 0]) ([v31]) rfl rfl (cells_one ho8) rfl rfl rfl <| fill_done))) rfl ?_
        refine A1 rfl ?_
        refine OW_alloc ti25 hs (zs := [.slice none 0 0, .slice none 0 0, .slice none 0 0]) rfl rfl ?_
        intro b11 wv38 hs
        refine OW_nil ?_
        have hS : SS g0 w0 gg29 [Go.Lx.box b2 25 ([.slice none 0 0, .slice none 0 0, .slice none 0 0]), Go.Lx.box b1 25 ([v9, v10, v11])] _ := ⟨gg35, hagg29, (hs.sub (.cons _ (.cons _ (.cons_cons _ (.cons_cons _ .slnil)))))⟩
        refine ⟨fun _ => hS, ?_⟩
        refine A1 rfl ?_
        refine OW_storeAll ti25 hs (i := 0) rfl rfl (v := .agg (List.toArray (α := Value) [v31, .slice none 0 0, .slice none 0 0])) rfl (vs := [v31, .slice none 0 0, .slice none 0 0]) rfl (one_cons (by obtain ⟨_, _, h9⟩ := hs.rowShape (i := 1) rfl; rw [h9]; rfl) (one_cons rfl (one_cons rfl one_nil))) rfl rfl ?_
        intro wv39 hs
        refine OW_nil ?_
        refine ⟨fun h => absurd h (by decide +kernel), ?_⟩
        refine AN ?_
        obtain rfl := Option.some.inj hM
        exact ⟨gg35, b11, v31, xs19, v12, rfl, rfl, rfl, rfl, hagg3, hvv31, hRgg29, hs⟩
      refine A2 rfl ?_ ?_
      · refine OW_alloc ti25 hs (zs := [.slice none 0 0, .slice none 0 0, .slice none 0 0]) rfl rfl ?_
        intro b12 wv40 hs
        refine OW_nil ?_
        have hS : SS g0 w0 gg29 [Go.Lx.box b2 25 ([.slice none 0 0, .slice none 0 0, .slice none 0 0]), Go.Lx.box b1 25 ([v9, v10, v11])] _ := ⟨gg33, hagg29, (hs.sub (.cons _ (.cons _ (.cons_cons _ (.cons_cons _ .slnil)))))⟩
        refine ⟨fun _ => hS, ?_⟩
        refine A1 rfl ?_
        obtain ⟨gg36, hlegg36, hRgg36, hs⟩ := hs.relRow (i := 1) rfl hvv30
        replace hRv1 := hRv1.mono hlegg36
        replace hRv2 := hRv2.mono hlegg36
        replace hRv3 := hRv3.mono hlegg36
        replace hRv5 := hRv5.mono hlegg36
        replace hRv6 := hRv6.mono hlegg36
        replace hRv7 := hRv7.mono hlegg36
        replace hRv9 := hRv9.mono hlegg36
        replace hRv10 := hRv10.mono hlegg36
        replace hRv11 := hRv11.mono hlegg36
        replace hRgg29 := hRgg29.mono hlegg36
        replace hagg3 := hagg3.trans hlegg36
        replace hagg29 := hagg29.trans hlegg36
        refine C [.agg (List.toArray (α := Value) [v9, v10, v11]), v30, v12] cf36 rfl (dfa_classes_ok hrv12 hs.imm (⟨[v9], [v10], [v11], rfl, ⟨_, rfl, hRv9⟩, ⟨_, rfl, hRv10⟩, ⟨_, rfl, hRv11⟩⟩) hRgg36 hRgg29) rfl ?_
        rintro v32 wv41 ⟨gg37, xs20, hvv32, hegg37⟩
        have hlegg37 := hegg37.ext.le hs.imm
        replace hs := hs.callOwn hegg37
        simp only [List.cons_append, List.nil_append] at hs
        replace hRv1 := hRv1.mono hlegg37
        replace hRv2 := hRv2.mono hlegg37
        replace hRv3 := hRv3.mono hlegg37
        replace hRv5 := hRv5.mono hlegg37
        replace hRv6 := hRv6.mono hlegg37
        replace hRv7 := hRv7.mono hlegg37
        replace hRv9 := hRv9.mono hlegg37
        replace hRv10 := hRv10.mono hlegg37
        replace hRv11 := hRv11.mono hlegg37
        replace hRgg29 := hRgg29.mono hlegg37
        replace hRgg36 := hRgg36.mono hlegg37
        replace hagg3 := hagg3.trans hlegg37
        replace hagg29 := hagg29.trans hlegg37
        refine OW_nil ?_
        have hS : SS g0 w0 gg29 [Go.Lx.box b2 25 ([.slice none 0 0, .slice none 0 0, .slice none 0 0]), Go.Lx.box b1 25 ([v9, v10, v11])] _ := ⟨gg37, hagg29, (hs.sub (.cons _ (.cons _ (.cons_cons _ (.cons_cons _ .slnil)))))⟩
        refine ⟨fun _ => hS, ?_⟩
        have ho9 := one_of_shape (hs.rowShape (i := 0) rfl)
        refine A rfl hS (fun w9 h9 => by obtain ⟨g9, hle9, hs⟩ := h9; exact r_build (vs := [(0, v32)]) (cs := [v32, .slice none 0 0, .slice none 0 0]) rfl (built_fill [(0, 1), (1, 1), (2, 1)] [.slice none 0 0, .slice none 0 0, .slice none 0 0] (fun _ => by kernel_rfl) (fill_step ([]) ([.slice none 0 0]) ([.slice none 0 0, .slice none 0 0]) ([v32]) rfl rfl (cells_one ho9) rfl rfl rfl <| fill_done))) rfl ?_
        refine A1 rfl ?_
        refine OW_storeAll ti25 hs (i := 1) rfl rfl (v := .agg (List.toArray (α := Value) [v32, .slice none 0 0, .slice none 0 0])) rfl (vs := [v32, .slice none 0 0, .slice none 0 0]) rfl (one_cons (by obtain ⟨_, _, h9⟩ := hs.rowShape (i := 0) rfl; rw [h9]; rfl) (one_cons rfl (one_cons rfl one_nil))) rfl rfl ?_
        intro wv42 hs
        refine OW_nil ?_
        refine ⟨fun h => absurd h (by decide +kernel), ?_⟩
        refine AN ?_
        obtain rfl := Option.some.inj hM
        exact ⟨gg37, b12, v32, xs20, v12, rfl, rfl, rfl, rfl, hagg3, hvv32, hRgg29, (hs.sel [1, 0, 2, 3] (by decide) rfl)⟩
      trivial
    refine A2 rfl ?_ ?_
    · refine OW_alloc ti25 hs (zs := [.slice none 0 0, .slice none 0 0, .slice none 0 0]) rfl rfl ?_
      intro b13 wv43 hs
      refine OW_nil ?_
      have hS : SS g0 w0 gg29 [Go.Lx.box b2 25 ([.slice none 0 0, .slice none 0 0, .slice none 0 0]), Go.Lx.box b1 25 ([v9, v10, v11])] _ := ⟨gg29, (Hle.refl _), (hs.sub (.cons _ (.cons_cons _ (.cons_cons _ .slnil))))⟩
      refine ⟨fun _ => hS, ?_⟩
      refine A1 rfl ?_
      refine C [.agg (List.toArray (α := Value) [v9, v10, v11]), v12] cf37 rfl (dfa_reached_ok hrv11 hs.imm (⟨[v9], [v10], [v11], rfl, ⟨_, rfl, hRv9⟩, ⟨_, rfl, hRv10⟩, ⟨_, rfl, hRv11⟩⟩) hRgg29) rfl ?_
      rintro v33 wv44 ⟨gg38, xs21, hvv33, hegg38⟩
      have hlegg38 := hegg38.ext.le hs.imm
      replace hs := hs.callOwn hegg38
      simp only [List.cons_append, List.nil_append] at hs
      replace hRv1 := hRv1.mono hlegg38
      replace hRv2 := hRv2.mono hlegg38
      replace hRv3 := hRv3.mono hlegg38
      replace hRv5 := hRv5.mono hlegg38
      replace hRv6 := hRv6.mono hlegg38
      replace hRv7 := hRv7.mono hlegg38
      replace hRv9 := hRv9.mono hlegg38
      replace hRv10 := hRv10.mono hlegg38
      replace hRv11 := hRv11.mono hlegg38
      replace hRgg29 := hRgg29.mono hlegg38
      replace hagg3 := hagg3.trans hlegg38
      replace hagg29 := hagg29.trans hlegg38
      refine OW_nil ?_
      have hS : SS g0 w0 gg29 [Go.Lx.box b2 25 ([.slice none 0 0, .slice none 0 0, .slice none 0 0]), Go.Lx.box b1 25 ([v9, v10, v11])] _ := ⟨gg38, hagg29, (hs.sub (.cons _ (.cons _ (.cons_cons _ (.cons_cons _ .slnil)))))⟩
      refine ⟨fun _ => hS, ?_⟩
      refine A1 rfl ?_
      obtain ⟨gg39, hlegg39, hRgg39, hs⟩ := hs.relRow (i := 0) rfl hvv33
      replace hRv1 := hRv1.mono hlegg39
      replace hRv2 := hRv2.mono hlegg39
      replace hRv3 := hRv3.mono hlegg39
      replace hRv5 := hRv5.mono hlegg39
      replace hRv6 := hRv6.mono hlegg39
      replace hRv7 := hRv7.mono hlegg39
      replace hRv9 := hRv9.mono hlegg39
      replace hRv10 := hRv10.mono hlegg39
      replace hRv11 := hRv11.mono hlegg39
      replace hRgg29 := hRgg29.mono hlegg39
      replace hagg3 := hagg3.trans hlegg39
      replace hagg29 := hagg29.trans hlegg39
      refine C [.agg (List.toArray (α := Value) [v9, v10, v11]), v33, v12] cf36 rfl (dfa_classes_ok hrv12 hs.imm (⟨[v9], [v10], [v11], rfl, ⟨_, rfl, hRv9⟩, ⟨_, rfl, hRv10⟩, ⟨_, rfl, hRv11⟩⟩) hRgg39 hRgg29) rfl ?_
      rintro v34 wv45 ⟨gg40, xs22, hvv34, hegg40⟩
      have hlegg40 := hegg40.ext.le hs.imm
      replace hs := hs.callOwn hegg40
      simp only [List.cons_append, List.nil_append] at hs
      replace hRv1 := hRv1.mono hlegg40
      replace hRv2 := hRv2.mono hlegg40
      replace hRv3 := hRv3.mono hlegg40
      replace hRv5 := hRv5.mono hlegg40
      replace hRv6 := hRv6.mono hlegg40
      replace hRv7 := hRv7.mono hlegg40
      replace hRv9 := hRv9.mono hlegg40
      replace hRv10 := hRv10.mono hlegg40
      replace hRv11 := hRv11.mono hlegg40
      replace hRgg29 := hRgg29.mono hlegg40
      replace hRgg39 := hRgg39.mono hlegg40
      replace hagg3 := hagg3.trans hlegg40
      replace hagg29 := hagg29.trans hlegg40
      refine OW_nil ?_
      have hS : SS g0 w0 gg29 [Go.Lx.box b2 25 ([.slice none 0 0, .slice none 0 0, .slice none 0 0]), Go.Lx.box b1 25 ([v9, v10, v11])] _ := ⟨gg40, hagg29, (hs.sub (.cons _ (.cons _ (.cons_cons _ (.cons_cons _ .slnil)))))⟩
      refine ⟨fun _ => hS, ?_⟩
      have ho10 := one_of_shape (hs.rowShape (i := 0) rfl)
      refine A rfl hS (fun w9 h9 => by obtain ⟨g9, hle9, hs⟩ := h9; exact r_build (vs := [(0, v34)]) (cs := [v34, .slice none 0 0, .slice none 0 0]) rfl (built_fill [(0, 1), (1, 1), (2, 1)] [.slice none 0 0, .slice none 0 0, .slice none 0 0] (fun _ => by kernel_rfl) (fill_step ([]) ([.slice none 0 0]) ([.slice none 0 0, .slice none 0 0]) ([v34]) rfl rfl (cells_one ho10) rfl rfl rfl <| fill_done))) rfl ?_
      refine A1 rfl ?_
      refine OW_storeAll ti25 hs (i := 1) rfl rfl (v := .agg (List.toArray (α := Value) [v34, .slice none 0 0, .slice none 0 0])) rfl (vs := [v34, .slice none 0 0, .slice none 0 0]) rfl (one_cons (by obtain ⟨_, _, h9⟩ := hs.rowShape (i := 0) rfl; rw [h9]; rfl) (one_cons rfl (one_cons rfl one_nil))) rfl rfl ?_
      intro wv46 hs
      refine OW_nil ?_
      refine ⟨fun h => absurd h (by decide +kernel), ?_⟩
      refine AN ?_
      obtain rfl := Option.some.inj hM
      exact ⟨gg40, b13, v34, xs22, v12, rfl, rfl, rfl, rfl, hagg3, hvv34, hRgg29, (hs.sel [1, 0, 2, 3] (by decide) rfl)⟩
    trivial
  · clear hs
    rintro E w ⟨gg22, b8, v24, xs12, v23, hE1, hE2, hE3, hE4, hlegg22, hrelxs12, hRv23, hs⟩
    have hM := hKhx1
    obtain ⟨E, rfl⟩ := open1 (E := E) hE1
    obtain ⟨E, rfl⟩ := open1 (E := E) hE2
    obtain ⟨E, rfl⟩ := open1 (E := E) hE3
    obtain ⟨E, rfl⟩ := open1 (E := E) hE4
    replace hRv9 := hRv9.mono hlegg22
    replace hRv10 := hRv10.mono hlegg22
    replace hRv11 := hRv11.mono hlegg22
    refine WP_seq ?_
    refine WP_region ?_
    refine O (r_fieldAddr Try.underlying25 ti22 rfl rfl (by decide) rfl rfl) rfl ?_
    refine O (r_load (v := v24) ti22 rfl (hs.cell (i := 0) (o := 0) rfl rfl)) rfl ?_
    obtain ⟨gg41, hlegg41, hRgg41, hs⟩ := hs.relRow (i := 1) rfl hrelxs12
    replace hRv9 := hRv9.mono hlegg41
    replace hRv10 := hRv10.mono hlegg41
    replace hRv11 := hRv11.mono hlegg41
    replace hRv23 := hRv23.mono hlegg41
    obtain ⟨rv13, hrv13, hM⟩ := bindS hM
    refine C [v24] cf38 rfl (dfa_sample_ok hrv13 hs.imm hRgg41) rfl ?_
    rintro v35 wv47 ⟨gg42, xs23, hvv35, hegg42⟩
    have hlegg42 := hegg42.ext.le hs.imm
    replace hs := hs.callOwn hegg42
    simp only [List.cons_append, List.nil_append] at hs
    replace hRv9 := hRv9.mono hlegg42
    replace hRv10 := hRv10.mono hlegg42
    replace hRv11 := hRv11.mono hlegg42
    replace hRv23 := hRv23.mono hlegg42
    replace hRgg41 := hRgg41.mono hlegg42
    refine O (r_assign (v := v35) rfl) rfl ?_
    refine OW_nil ?_
    refine WP_seq ?_
    refine WP_region ?_
    refine OW_lit (τ := (tInt .i64)) [.int .i64 0] [0] Try.underlying22 ti3 (by decide) hs rfl rfl rfl ⟨rfl, trivial⟩ rfl ?_
    intro v36 wv48 xs24 hrelxs24 hs
    refine O (r_assign (v := v36) rfl) rfl ?_
    refine OW_nil ?_
    refine WP_seq ?_
    refine WP_region ?_
    refine OW_makeMap hs rfl ?_
    intro b14 wv49 hs
    have hmb14 : MRel (Value.int .i64) (Value.int .i64) #[] [] := mrel_nil
    refine O (r_move (v := v23) rfl) rfl ?_
    obtain ⟨e1, he1, hM⟩ := bindS hM
    obtain ⟨b15, ob15, cb15, hvb15, cs13, hcs13, hcb15⟩ := hRv23.at he1
    have hcs13 : cs13 = _ := hcs13; subst hcs13
    refine O (r_idxSl Try.underlying22 ti3 (v := v23) rfl hvb15 rfl (idxL_some he1).1 (idxL_some he1).2.1) rfl ?_
    refine O (r_loadEl (cs := [.int .i64 e1]) ti3 rfl rfl (.inr rfl) (hcb15 _ hs.imm) (v := .int .i64 e1) rfl) rfl ?_
    refine OW_mapIns (kk := e1) (vv := 0) Try.underlying61 (keyLaw_int Try.underlying3) hs (i := 0) rfl hmb14 rfl rfl rfl ?_
    intro es1 ck1 wv50 hmes1 hs
    refine O (r_move (v := .map (some b14)) rfl) rfl ?_
    refine O (r_assign (v := .map (some b14)) rfl) rfl ?_
    refine OW_nil ?_
    obtain ⟨⟨xv202, xv203⟩, hx119, hKhx119⟩ := bindS hM
    refine WP_cut (fun E w => ∃ (gg205 : Hp) (v693 : Value) (xs757 : List Value) (v694 : Value) (xs758 : List Value), E 2 = .pointer (some ⟨b2, 0, none⟩) ∧ E 4 = .pointer (some ⟨b8, 0, none⟩) ∧ Hle gg42 gg205 ∧ RowRel (tSl (tInt .i64)) gg205 xs757 xv202 ∧ RowRel (tInt .i64) gg205 xs758 xv203 ∧ Go.Lx.Sep g0 w0 gg205 w [.row v693 22 (tSl (tInt .i64)).sz xv202.length xs757, .row v694 3 (tInt .i64).sz xv203.length xs758, Go.Lx.box b8 25 ([v24, v693, v694]), Go.Lx.box b2 25 ([.slice none 0 0, .slice none 0 0, .slice none 0 0])]) ?_ ?_
    · have hM := hx119
      have hagg42 := Hle.refl gg42
      refine WP_seq ?_
      refine WP_region ?_
      refine O (r_assign (v := .int .i64 0) rfl) rfl ?_
      refine OW_nil ?_
      refine WP_block ?_
      have hs := hs.nilRow 22 (tSl (tInt .i64)).sz
      have hs := hs.nilRow 3 (tInt .i64).sz
      refine WP_loop (fun (st9 : (List (List Int)) × (List Int) × (List Int) × (List (Int × Int)) × Int) E w => match st9 with | (xv271, xv272, xv273, m209, xv274) => ∃ (gg260 : Hp) (v911 : Value) (xs1003 : List Value) (v912 : Value) (xs1004 : List Value) (es402 : Array MapEntry) (ck402 : Nat) (v914 : Value) (xs1006 : List Value) (v913 : Value) (xs1005 : List Value), E 1 = .pointer (some ⟨b1, 0, none⟩) ∧ E 2 = .pointer (some ⟨b2, 0, none⟩) ∧ E 3 = v23 ∧ E 4 = .pointer (some ⟨b8, 0, none⟩) ∧ E 5 = v913 ∧ E 6 = v914 ∧ E 7 = .map (some b14) ∧ E 8 = .int .i64 xv274 ∧ Hle gg42 gg260 ∧ RowRel (tSl (tInt .i64)) gg260 xs1003 xv271 ∧ RowRel (tInt .i64) gg260 xs1004 xv272 ∧ MRel (Value.int .i64) (Value.int .i64) es402 m209 ∧ RowRel (tInt .i64) gg260 xs1006 xv273 ∧ RowRel (tInt .u8) gg260 xs1005 rv13 ∧ Go.Lx.Sep g0 w0 gg260 w [.row v911 22 (tSl (tInt .i64)).sz xv271.length xs1003, .row v912 3 (tInt .i64).sz xv272.length xs1004, .obj b14 (.map es402 ck402), .row v914 3 (tInt .i64).sz xv273.length xs1006, .row v913 5 (tInt .u8).sz rv13.length xs1005, Go.Lx.box b8 25 ([v24, v911, v912]), Go.Lx.box b2 25 ([.slice none 0 0, .slice none 0 0, .slice none 0 0]), Go.Lx.box b1 25 ([v9, v10, v11])]) hM ⟨gg42, (.slice none 0 0), [], (.slice none 0 0), [], es1, ck1, v36, xs24, v35, xs23, rfl, rfl, rfl, rfl, rfl, rfl, rfl, rfl, (Hle.refl _), RowRel.nil, RowRel.nil, hmes1, hrelxs24, hvv35, (hs.sel [1, 0, 2, 3, 4, 5, 6, 7] (by decide) rfl)⟩ ?_
      clear hs hM
      rintro ⟨xv271, xv272, xv273, m209, xv274⟩ o22 E w hM ⟨gg260, v911, xs1003, v912, xs1004, es402, ck402, v914, xs1006, v913, xs1005, hE1, hE2, hE3, hE4, hE5, hE6, hE7, hE8, hlegg260, hrelxs1003, hrelxs1004, hmes402, hrelxs1006, hrelxs1005, hs⟩
      obtain ⟨E, rfl⟩ := open1 (E := E) hE1
      obtain ⟨E, rfl⟩ := open1 (E := E) hE2
      obtain ⟨E, rfl⟩ := open1 (E := E) hE3
      obtain ⟨E, rfl⟩ := open1 (E := E) hE4
      obtain ⟨E, rfl⟩ := open1 (E := E) hE5
      obtain ⟨E, rfl⟩ := open1 (E := E) hE6
      obtain ⟨E, rfl⟩ := open1 (E := E) hE7
      obtain ⟨E, rfl⟩ := open1 (E := E) hE8
      replace hRv9 := hRv9.mono hlegg260
      replace hRv10 := hRv10.mono hlegg260
      replace hRv11 := hRv11.mono hlegg260
      replace hRv23 := hRv23.mono hlegg260
      replace hRgg41 := hRgg41.mono hlegg260
      replace hagg42 := hagg42.trans hlegg260
      have hagg260 := Hle.refl gg260
      refine WP_seq ?_
      refine WP_seq ?_
      refine WP_region ?_
      refine O (r_move (v := .int .i64 xv274) rfl) rfl ?_
      refine O (r_move (v := v914) rfl) rfl ?_
      obtain ⟨a276, ca276, hva276⟩ := hs.rowShape (i := 3) rfl
      refine O (r_lenSl (v := v914) Try.underlying22 rfl hva276) rfl ?_
      refine O (r_lss rfl rfl) rfl ?_
      refine OW_nil ?_
      rcases condS hM with ⟨hc426, hM⟩ | ⟨hc426, hM⟩
      · refine WP_true rfl hc426 ?_
        refine WP_skip ?_
        obtain ⟨⟨y759, y760, xv373, m287⟩, hx217, hKhx217⟩ := bindS hM
        refine WP_cut (fun E w => ∃ (gg341 : Hp) (v1241 : Value) (xs1369 : List Value) (v1242 : Value) (xs1370 : List Value) (es552 : Array MapEntry) (ck552 : Nat) (v1244 : Value) (xs1372 : List Value) (v1243 : Value) (xs1371 : List Value), E 1 = .pointer (some ⟨b1, 0, none⟩) ∧ E 2 = .pointer (some ⟨b2, 0, none⟩) ∧ E 3 = v23 ∧ E 4 = .pointer (some ⟨b8, 0, none⟩) ∧ E 5 = v1243 ∧ E 6 = v1244 ∧ E 7 = .map (some b14) ∧ E 8 = .int .i64 xv274 ∧ Hle gg260 gg341 ∧ RowRel (tSl (tInt .i64)) gg341 xs1369 y759 ∧ RowRel (tInt .i64) gg341 xs1370 y760 ∧ MRel (Value.int .i64) (Value.int .i64) es552 m287 ∧ RowRel (tInt .i64) gg341 xs1372 xv373 ∧ RowRel (tInt .u8) gg341 xs1371 rv13 ∧ Go.Lx.Sep g0 w0 gg341 w [.row v1241 22 (tSl (tInt .i64)).sz y759.length xs1369, .row v1242 3 (tInt .i64).sz y760.length xs1370, .obj b14 (.map es552 ck552), .row v1244 3 (tInt .i64).sz xv373.length xs1372, .row v1243 5 (tInt .u8).sz rv13.length xs1371, Go.Lx.box b8 25 ([v24, v1241, v1242]), Go.Lx.box b2 25 ([.slice none 0 0, .slice none 0 0, .slice none 0 0]), Go.Lx.box b1 25 ([v9, v10, v11])]) ?_ ?_
        · have hM := hx217
          refine WP_block ?_
          refine WP_seq ?_
          refine WP_region ?_
          refine O (r_move (v := v913) rfl) rfl ?_
          obtain ⟨a304, ca304, hva304⟩ := hs.rowShape (i := 4) rfl
          refine O (r_lenSl (v := v913) Try.underlying59 rfl hva304) rfl ?_
          obtain ⟨l89, hl89, hM⟩ := bindS hM
          refine OW_make (τ := (tInt .i64)) (zc := [.int .i64 0]) (zx := 0) Try.underlying22 ti3 rfl rfl (by decide) hs rfl rfl hl89 rfl ?_
          intro v1245 wv1316 xs1373 hrelxs1373 hs
          refine O (r_assign (v := v1245) rfl) rfl ?_
          refine OW_nil ?_
          obtain ⟨⟨xv389, m300, l93⟩, hx227, hKhx227⟩ := bindS hM
          refine WP_cut (fun E w => ∃ (gg354 : Hp) (v1298 : Value) (xs1432 : List Value) (v1294 : Value) (xs1428 : List Value) (v1295 : Value) (xs1429 : List Value) (es577 : Array MapEntry) (ck577 : Nat) (v1297 : Value) (xs1431 : List Value) (v1296 : Value) (xs1430 : List Value), E 1 = .pointer (some ⟨b1, 0, none⟩) ∧ E 2 = .pointer (some ⟨b2, 0, none⟩) ∧ E 3 = v23 ∧ E 4 = .pointer (some ⟨b8, 0, none⟩) ∧ E 5 = v1296 ∧ E 6 = v1297 ∧ E 7 = .map (some b14) ∧ E 8 = .int .i64 xv274 ∧ E 9 = v1298 ∧ Hle gg260 gg354 ∧ RowRel (tInt .i64) gg354 xs1432 l93 ∧ RowRel (tSl (tInt .i64)) gg354 xs1428 xv271 ∧ RowRel (tInt .i64) gg354 xs1429 xv272 ∧ MRel (Value.int .i64) (Value.int .i64) es577 m300 ∧ RowRel (tInt .i64) gg354 xs1431 xv389 ∧ RowRel (tInt .u8) gg354 xs1430 rv13 ∧ Go.Lx.Sep g0 w0 gg354 w [.row v1298 3 (tInt .i64).sz l93.length xs1432, .row v1294 22 (tSl (tInt .i64)).sz xv271.length xs1428, .row v1295 3 (tInt .i64).sz xv272.length xs1429, .obj b14 (.map es577 ck577), .row v1297 3 (tInt .i64).sz xv389.length xs1431, .row v1296 5 (tInt .u8).sz rv13.length xs1430, Go.Lx.box b8 25 ([v24, v1294, v1295]), Go.Lx.box b2 25 ([.slice none 0 0, .slice none 0 0, .slice none 0 0]), Go.Lx.box b1 25 ([v9, v10, v11])]) ?_ ?_
          · have hM := hx227
            refine WP_seq ?_
            refine WP_region ?_
            refine O (r_move (v := v913) rfl) rfl ?_
            obtain ⟨a318, ca318, hva318⟩ := hs.rowShape (i := 5) rfl
            refine O (r_lenSl (v := v913) Try.underlying59 rfl hva318) rfl ?_
            refine O (r_move (v := .int .i64 0) rfl) rfl ?_
            refine OW_nil ?_
            refine WP_block ?_
            refine WP_loop (fun (st9 : (List Int) × (List (Int × Int)) × (List Int) × Int) E w => match st9 with | (xv395, m305, l95, xv396) => ∃ (gg359 : Hp) (v1316 : Value) (xs1452 : List Value) (es586 : Array MapEntry) (ck586 : Nat) (v1315 : Value) (xs1451 : List Value), E 1 = .pointer (some ⟨b1, 0, none⟩) ∧ E 2 = .pointer (some ⟨b2, 0, none⟩) ∧ E 3 = v23 ∧ E 4 = .pointer (some ⟨b8, 0, none⟩) ∧ E 5 = v913 ∧ E 6 = v1315 ∧ E 7 = .map (some b14) ∧ E 8 = .int .i64 xv274 ∧ E 9 = v1316 ∧ E 45 = v913 ∧ E 46 = .int .i64 (rv13.length : Int) ∧ E 47 = .int .i64 xv396 ∧ Hle gg260 gg359 ∧ RowRel (tInt .i64) gg359 xs1452 l95 ∧ MRel (Value.int .i64) (Value.int .i64) es586 m305 ∧ RowRel (tInt .i64) gg359 xs1451 xv395 ∧ Go.Lx.Sep g0 w0 gg359 w [.row v1316 3 (tInt .i64).sz l95.length xs1452, .row v911 22 (tSl (tInt .i64)).sz xv271.length xs1003, .row v912 3 (tInt .i64).sz xv272.length xs1004, .obj b14 (.map es586 ck586), .row v1315 3 (tInt .i64).sz xv395.length xs1451, .row v913 5 (tInt .u8).sz rv13.length xs1005, Go.Lx.box b8 25 ([v24, v911, v912]), Go.Lx.box b2 25 ([.slice none 0 0, .slice none 0 0, .slice none 0 0]), Go.Lx.box b1 25 ([v9, v10, v11])]) hM ⟨gg260, v1245, xs1373, es402, ck402, v914, xs1006, rfl, rfl, rfl, rfl, rfl, rfl, rfl, rfl, rfl, rfl, rfl, rfl, (Hle.refl _), hrelxs1373, hmes402, hrelxs1006, hs⟩ ?_
            clear hs hM
            rintro ⟨xv395, m305, l95, xv396⟩ o26 E w hM ⟨gg359, v1316, xs1452, es586, ck586, v1315, xs1451, hE1, hE2, hE3, hE4, hE5, hE6, hE7, hE8, hE9, hE45, hE46, hE47, hlegg359, hrelxs1452, hmes586, hrelxs1451, hs⟩
            obtain ⟨E, rfl⟩ := open1 (E := E) hE1
            obtain ⟨E, rfl⟩ := open1 (E := E) hE2
            obtain ⟨E, rfl⟩ := open1 (E := E) hE3
            obtain ⟨E, rfl⟩ := open1 (E := E) hE4
            obtain ⟨E, rfl⟩ := open1 (E := E) hE5
            obtain ⟨E, rfl⟩ := open1 (E := E) hE6
            obtain ⟨E, rfl⟩ := open1 (E := E) hE7
            obtain ⟨E, rfl⟩ := open1 (E := E) hE8
            obtain ⟨E, rfl⟩ := open1 (E := E) hE9
            obtain ⟨E, rfl⟩ := open1 (E := E) hE45
            obtain ⟨E, rfl⟩ := open1 (E := E) hE46
            obtain ⟨E, rfl⟩ := open1 (E := E) hE47
            replace hRv9 := hRv9.mono hlegg359
            replace hRv10 := hRv10.mono hlegg359
            replace hRv11 := hRv11.mono hlegg359
            replace hRv23 := hRv23.mono hlegg359
            replace hRgg41 := hRgg41.mono hlegg359
            replace hrelxs1003 := hrelxs1003.mono hlegg359
            replace hrelxs1004 := hrelxs1004.mono hlegg359
            replace hrelxs1005 := hrelxs1005.mono hlegg359
            replace hlegg260 := hlegg260.trans hlegg359
            replace hagg260 := hagg260.trans hlegg359
            have hagg359 := Hle.refl gg359
            refine WP_seq ?_
            refine WP_region ?_
            refine O (r_lss rfl rfl) rfl ?_
            refine OW_nil ?_
            refine WP_seq ?_
            rcases condS hM with ⟨hc504, hM⟩ | ⟨hc504, hM⟩
            · refine WP_true rfl hc504 ?_
              refine WP_skip ?_
              obtain ⟨⟨xv403, m311, y821⟩, hx235, hKhx235⟩ := bindS hM
              refine WP_cut (fun E w => ∃ (gg365 : Hp) (v1340 : Value) (xs1479 : List Value) (es598 : Array MapEntry) (ck598 : Nat) (v1339 : Value) (xs1478 : List Value), E 1 = .pointer (some ⟨b1, 0, none⟩) ∧ E 2 = .pointer (some ⟨b2, 0, none⟩) ∧ E 3 = v23 ∧ E 4 = .pointer (some ⟨b8, 0, none⟩) ∧ E 5 = v913 ∧ E 6 = v1339 ∧ E 7 = .map (some b14) ∧ E 8 = .int .i64 xv274 ∧ E 9 = v1340 ∧ E 45 = v913 ∧ E 46 = .int .i64 (rv13.length : Int) ∧ E 47 = .int .i64 xv396 ∧ Hle gg359 gg365 ∧ RowRel (tInt .i64) gg365 xs1479 y821 ∧ MRel (Value.int .i64) (Value.int .i64) es598 m311 ∧ RowRel (tInt .i64) gg365 xs1478 xv403 ∧ Go.Lx.Sep g0 w0 gg365 w [.row v1340 3 (tInt .i64).sz y821.length xs1479, .row v911 22 (tSl (tInt .i64)).sz xv271.length xs1003, .row v912 3 (tInt .i64).sz xv272.length xs1004, .obj b14 (.map es598 ck598), .row v1339 3 (tInt .i64).sz xv403.length xs1478, .row v913 5 (tInt .u8).sz rv13.length xs1005, Go.Lx.box b8 25 ([v24, v911, v912]), Go.Lx.box b2 25 ([.slice none 0 0, .slice none 0 0, .slice none 0 0]), Go.Lx.box b1 25 ([v9, v10, v11])]) ?_ ?_
              · have hM := hx235
                refine WP_block ?_
                refine WP_seq ?_
                refine WP_region ?_
                refine O (r_move (v := .int .i64 xv396) rfl) rfl ?_
                obtain ⟨e453, he453, hM⟩ := bindS hM
                obtain ⟨b1039, cb1039, hvb1039, cs894, hcs894, hcb1039⟩ := hs.rowEl (i := 5) rfl hrelxs1005 he453
                have hcs894 : cs894 = _ := hcs894; subst hcs894
                refine O (r_idxSl Try.underlying59 ti5 (v := v913) rfl hvb1039 rfl (idxL_some he453).1 (idxL_some he453).2.1) rfl ?_
                refine O (r_loadEl (cs := [.int .u8 e453]) ti5 rfl rfl (.inr rfl) (hcb1039 _ (hs.at (i := 5) rfl)) (v := .int .u8 e453) rfl) rfl ?_
                refine O (r_assign (v := .int .i64 xv396) rfl) rfl ?_
                refine O (r_assign (v := .int .u8 e453) rfl) rfl ?_
                refine OW_nil ?_
                refine WP_seq ?_
                refine WP_drawTail 6 mo (by decide +kernel) ?_
                have hs := hs.drew
                refine S (r_loadN (cs := [v9, v10, v11]) ti25 rfl rfl (hs.cells (i := 8) rfl)) rfl ?_
                refine S (r_move (v := v1315) rfl) rfl ?_
                refine S (r_move (v := .int .i64 xv274) rfl) rfl ?_
                obtain ⟨e454, he454, hM⟩ := bindS hM
                obtain ⟨b1040, cb1040, hvb1040, cs895, hcs895, hcb1040⟩ := hs.rowEl (i := 4) rfl hrelxs1451 he454
                have hcs895 : cs895 = _ := hcs895; subst hcs895
                refine S (r_idxSl Try.underlying22 ti3 (v := v1315) rfl hvb1040 rfl (idxL_some he454).1 (idxL_some he454).2.1) rfl ?_
                refine S (r_loadEl (cs := [.int .i64 e454]) ti3 rfl rfl (.inr rfl) (hcb1040 _ (hs.at (i := 4) rfl)) (v := .int .i64 e454) rfl) rfl ?_
                refine S (r_move (v := .int .u8 e453) rfl) rfl ?_
                refine SW_nil ?_
                obtain ⟨rv157, hrv157, hM⟩ := bindS hM
                refine C [.agg (List.toArray (α := Value) [v9, v10, v11]), .int .i64 e454, .int .u8 e453] cf29 rfl (dfa_step_ok hrv157 hs.imm (⟨[v9], [v10], [v11], rfl, ⟨_, rfl, hRv9⟩, ⟨_, rfl, hRv10⟩, ⟨_, rfl, hRv11⟩⟩)) rfl ?_
                rintro v1341 wv1416 ⟨gg366, hvv1341, hegg366⟩
                have hlegg366 := hegg366.le hs.imm
                replace hs := hs.call hegg366
                replace hRv9 := hRv9.mono hlegg366
                replace hRv10 := hRv10.mono hlegg366
                replace hRv11 := hRv11.mono hlegg366
                replace hRv23 := hRv23.mono hlegg366
                replace hRgg41 := hRgg41.mono hlegg366
                replace hrelxs1452 := hrelxs1452.mono hlegg366
                replace hrelxs1003 := hrelxs1003.mono hlegg366
                replace hrelxs1004 := hrelxs1004.mono hlegg366
                replace hrelxs1451 := hrelxs1451.mono hlegg366
                replace hrelxs1005 := hrelxs1005.mono hlegg366
                replace hlegg260 := hlegg260.trans hlegg366
                replace hlegg359 := hlegg359.trans hlegg366
                replace hagg359 := hagg359.trans hlegg366
                obtain ⟨cs896, rfl, hcs896⟩ := hvv1341
                have hcs896 : cs896 = _ := hcs896; subst hcs896
                refine O (r_assign (v := .int .i64 rv157) rfl) rfl ?_
                refine OW_nil ?_
                refine WP_seq ?_
                refine WP_region ?_
                refine O (r_move (v := v1316) rfl) rfl ?_
                refine O (r_move (v := .int .i64 xv396) rfl) rfl ?_
                obtain ⟨y822, hy822, hM⟩ := bindS hM
                obtain ⟨b1041, cb1041, hvb1041, wv1417, xs1480, hstb1041, hrelb1041, hsb1041⟩ := hs.rowPut (i := 0) rfl hrelxs1452 hy822 (cs := [.int .i64 (-1)]) rfl
                refine O (r_idxSl Try.underlying22 ti3 (v := v1316) rfl hvb1041 rfl (setL_some hy822).1 (setL_some hy822).2.1) rfl ?_
                refine O0 (r_store ti3 rfl (v := .int .i64 (-1)) rfl rfl hstb1041) ?_
                have hs := hsb1041
                refine OW_nil ?_
                refine WP_seq ?_
                refine WP_seq ?_
                refine WP_region ?_
                refine O (r_move (v := .int .i64 rv157) rfl) rfl ?_
                refine O (r_lss rfl rfl) rfl ?_
                refine OW_nil ?_
                rcases condS hM with ⟨hc508, hM⟩ | ⟨hc508, hM⟩
                · refine WP_true rfl hc508 ?_
                  refine WP_exit ?_
                  simp only [Option.some.injEq, Prod.mk.injEq] at hM
                  obtain ⟨rfl, rfl, rfl⟩ := hM
                  exact ⟨gg366, v1316, xs1480, es586, ck586, v1315, xs1451, rfl, rfl, rfl, rfl, rfl, rfl, rfl, rfl, rfl, rfl, rfl, rfl, hagg359, hrelb1041, hmes586, hrelxs1451, hs⟩
                · refine WP_false rfl hc508 ?_
                  refine WP_skip ?_
                  refine WP_seq ?_
                  refine WP_region ?_
                  refine O (r_move (v := .map (some b14)) rfl) rfl ?_
                  refine O (r_move (v := v23) rfl) rfl ?_
                  refine O (r_move (v := .int .i64 rv157) rfl) rfl ?_
                  obtain ⟨e455, he455, hM⟩ := bindS hM
                  obtain ⟨b1042, ob1042, cb1042, hvb1042, cs897, hcs897, hcb1042⟩ := hRv23.at he455
                  have hcs897 : cs897 = _ := hcs897; subst hcs897
                  refine O (r_idxSl Try.underlying22 ti3 (v := v23) rfl hvb1042 rfl (idxL_some he455).1 (idxL_some he455).2.1) rfl ?_
                  refine O (r_loadEl (cs := [.int .i64 e455]) ti3 rfl rfl (.inr rfl) (hcb1042 _ hs.imm) (v := .int .i64 e455) rfl) rfl ?_
                  refine O (r_lookup (z := 0) (kk := e455) Try.underlying61 ti3 (keyLaw_int Try.underlying3) hs (i := 3) rfl hmes586 rfl rfl) rfl ?_
                  refine O (r_move (v := .tuple #[.int .i64 ((mget m305 e455).getD 0), .bool ((mget m305 e455).isSome)]) rfl) rfl ?_
                  refine O (r_extract (vs := [.int .i64 ((mget m305 e455).getD 0), .bool ((mget m305 e455).isSome)]) (v := .int .i64 ((mget m305 e455).getD 0)) rfl rfl) rfl ?_
                  refine O (r_extract (vs := [.int .i64 ((mget m305 e455).getD 0), .bool ((mget m305 e455).isSome)]) (v := .bool ((mget m305 e455).isSome)) rfl rfl) rfl ?_
                  refine O (r_assign (v := .int .i64 ((mget m305 e455).getD 0)) rfl) rfl ?_
                  refine O (r_assign (v := .bool ((mget m305 e455).isSome)) rfl) rfl ?_
                  refine OW_nil ?_
                  obtain ⟨⟨y824, m312, xv404⟩, hx236, hKhx236⟩ := bindS hM
                  refine WP_cut (fun E w => ∃ (es600 : Array MapEntry) (ck600 : Nat) (v1344 : Value) (xs1483 : List Value), E 1 = .pointer (some ⟨b1, 0, none⟩) ∧ E 2 = .pointer (some ⟨b2, 0, none⟩) ∧ E 3 = v23 ∧ E 4 = .pointer (some ⟨b8, 0, none⟩) ∧ E 5 = v913 ∧ E 6 = v1344 ∧ E 7 = .map (some b14) ∧ E 8 = .int .i64 xv274 ∧ E 9 = v1316 ∧ E 10 = .int .i64 xv396 ∧ E 13 = .int .i64 xv404 ∧ E 45 = v913 ∧ E 46 = .int .i64 (rv13.length : Int) ∧ E 47 = .int .i64 xv396 ∧ MRel (Value.int .i64) (Value.int .i64) es600 m312 ∧ RowRel (tInt .i64) gg366 xs1483 y824 ∧ Go.Lx.Sep g0 w0 gg366 w [.row v1316 3 (tInt .i64).sz y822.length xs1480, .row v911 22 (tSl (tInt .i64)).sz xv271.length xs1003, .row v912 3 (tInt .i64).sz xv272.length xs1004, .obj b14 (.map es600 ck600), .row v1344 3 (tInt .i64).sz y824.length xs1483, .row v913 5 (tInt .u8).sz rv13.length xs1005, Go.Lx.box b8 25 ([v24, v911, v912]), Go.Lx.box b2 25 ([.slice none 0 0, .slice none 0 0, .slice none 0 0]), Go.Lx.box b1 25 ([v9, v10, v11])]) ?_ ?_
                  · have hM := hx236
                    have hagg366 := Hle.refl gg366
                    refine WP_seq ?_
                    refine WP_region ?_
                    refine O (r_move (v := .bool ((mget m305 e455).isSome)) rfl) rfl ?_
                    refine O (r_not rfl) rfl ?_
                    refine OW_nil ?_
                    rcases condS hM with ⟨hc510, hM⟩ | ⟨hc510, hM⟩
                    · refine WP_true rfl hc510 ?_
                      refine WP_seq ?_
                      refine WP_region ?_
                      refine O (r_move (v := v1315) rfl) rfl ?_
                      obtain ⟨a330, ca330, hva330⟩ := hs.rowShape (i := 4) rfl
                      refine O (r_lenSl (v := v1315) Try.underlying22 rfl hva330) rfl ?_
                      refine O (r_assign (v := .int .i64 (xv395.length : Int)) rfl) rfl ?_
                      refine OW_nil ?_
                      refine WP_seq ?_
                      refine WP_region ?_
                      refine O (r_move (v := .map (some b14)) rfl) rfl ?_
                      refine O (r_move (v := v23) rfl) rfl ?_
                      refine O (r_move (v := .int .i64 rv157) rfl) rfl ?_
                      obtain ⟨b1044, ob1044, cb1044, hvb1044, cs899, hcs899, hcb1044⟩ := hRv23.at he455
                      have hcs899 : cs899 = _ := hcs899; subst hcs899
                      refine O (r_idxSl Try.underlying22 ti3 (v := v23) rfl hvb1044 rfl (idxL_some he455).1 (idxL_some he455).2.1) rfl ?_
                      refine O (r_loadEl (cs := [.int .i64 e455]) ti3 rfl rfl (.inr rfl) (hcb1044 _ hs.imm) (v := .int .i64 e455) rfl) rfl ?_
                      refine O (r_move (v := .int .i64 (xv395.length : Int)) rfl) rfl ?_
                      refine OW_mapSet (kk := e455) (vv := (xv395.length : Int)) Try.underlying61 (keyLaw_int Try.underlying3) hs (i := 3) rfl hmes586 rfl rfl rfl ?_
                      intro es601 ck601 wv1421 hmes601 hs
                      refine OW_nil ?_
                      refine WP_region ?_
                      refine O (r_move (v := v1315) rfl) rfl ?_
                      refine O (r_move (v := .int .i64 rv157) rfl) rfl ?_
                      refine OW_lit (τ := (tInt .i64)) [.int .i64 rv157] [rv157] Try.underlying22 ti3 (by decide) hs rfl rfl rfl ⟨rfl, trivial⟩ rfl ?_
                      intro v1345 wv1422 xs1484 hrelxs1484 hs
                      obtain ⟨y825, hy825, hM⟩ := bindS hM
                      refine OW_append Try.underlying22 ti3 rfl (by decide) (by decide) hs (i := 5) rfl hrelxs1451 (v := v1315) rfl (u := v1345) rfl (hs.rowSrc (i := 0) rfl) hrelxs1484 hy825 rfl ?_
                      intro v1346 wv1423 xs1485 hrelxs1485 hs
                      refine O (r_assign (v := v1346) rfl) rfl ?_
                      refine OW_nil ?_
                      simp only [Option.some.injEq, Prod.mk.injEq] at hM
                      obtain ⟨rfl, rfl, rfl⟩ := hM
                      exact ⟨es601, ck601, v1346, xs1485, rfl, rfl, rfl, rfl, rfl, rfl, rfl, rfl, rfl, rfl, rfl, rfl, rfl, rfl, hmes601, hrelxs1485, (hs.sub (.cons _ (.cons_cons _ (.cons_cons _ (.cons_cons _ (.cons_cons _ (.cons_cons _ (.cons_cons _ (.cons_cons _ (.cons_cons _ (.cons_cons _ .slnil)))))))))))⟩
                    · refine WP_false rfl hc510 ?_
                      refine WP_skip ?_
                      simp only [Option.some.injEq, Prod.mk.injEq] at hM
                      obtain ⟨rfl, rfl, rfl⟩ := hM
                      exact ⟨es586, ck586, v1315, xs1451, rfl, rfl, rfl, rfl, rfl, rfl, rfl, rfl, rfl, rfl, rfl, rfl, rfl, rfl, hmes586, hrelxs1451, hs⟩
                  · clear hs
                    rintro E w ⟨es600, ck600, v1344, xs1483, hE1, hE2, hE3, hE4, hE5, hE6, hE7, hE8, hE9, hE10, hE13, hE45, hE46, hE47, hmes600, hrelxs1483, hs⟩
                    have hM := hKhx236
                    obtain ⟨E, rfl⟩ := open1 (E := E) hE1
                    obtain ⟨E, rfl⟩ := open1 (E := E) hE2
                    obtain ⟨E, rfl⟩ := open1 (E := E) hE3
                    obtain ⟨E, rfl⟩ := open1 (E := E) hE4
                    obtain ⟨E, rfl⟩ := open1 (E := E) hE5
                    obtain ⟨E, rfl⟩ := open1 (E := E) hE6
                    obtain ⟨E, rfl⟩ := open1 (E := E) hE7
                    obtain ⟨E, rfl⟩ := open1 (E := E) hE8
                    obtain ⟨E, rfl⟩ := open1 (E := E) hE9
                    obtain ⟨E, rfl⟩ := open1 (E := E) hE10
                    obtain ⟨E, rfl⟩ := open1 (E := E) hE13
                    obtain ⟨E, rfl⟩ := open1 (E := E) hE45
                    obtain ⟨E, rfl⟩ := open1 (E := E) hE46
                    obtain ⟨E, rfl⟩ := open1 (E := E) hE47
                    refine WP_region ?_
                    refine O (r_move (v := v1316) rfl) rfl ?_
                    refine O (r_move (v := .int .i64 xv396) rfl) rfl ?_
                    refine O (r_move (v := .int .i64 xv404) rfl) rfl ?_
                    obtain ⟨y826, hy826, hM⟩ := bindS hM
                    obtain ⟨b1045, cb1045, hvb1045, wv1424, xs1486, hstb1045, hrelb1045, hsb1045⟩ := hs.rowPut (i := 0) rfl hrelb1041 hy826 (cs := [.int .i64 xv404]) rfl
                    refine O (r_idxSl Try.underlying22 ti3 (v := v1316) rfl hvb1045 rfl (setL_some hy826).1 (setL_some hy826).2.1) rfl ?_
                    refine O0 (r_store ti3 rfl (v := .int .i64 xv404) rfl rfl hstb1045) ?_
                    have hs := hsb1045
                    refine OW_nil ?_
                    simp only [Option.some.injEq, Prod.mk.injEq] at hM
                    obtain ⟨rfl, rfl, rfl⟩ := hM
                    exact ⟨gg366, v1316, xs1486, es600, ck600, v1344, xs1483, rfl, rfl, rfl, rfl, rfl, rfl, rfl, rfl, rfl, rfl, rfl, rfl, hagg359, hrelb1045, hmes600, hrelxs1483, hs⟩
              · clear hs
                rintro E w ⟨gg365, v1340, xs1479, es598, ck598, v1339, xs1478, hE1, hE2, hE3, hE4, hE5, hE6, hE7, hE8, hE9, hE45, hE46, hE47, hlegg365, hrelxs1479, hmes598, hrelxs1478, hs⟩
                have hM := hKhx235
                obtain ⟨E, rfl⟩ := open1 (E := E) hE1
                obtain ⟨E, rfl⟩ := open1 (E := E) hE2
                obtain ⟨E, rfl⟩ := open1 (E := E) hE3
                obtain ⟨E, rfl⟩ := open1 (E := E) hE4
                obtain ⟨E, rfl⟩ := open1 (E := E) hE5
                obtain ⟨E, rfl⟩ := open1 (E := E) hE6
                obtain ⟨E, rfl⟩ := open1 (E := E) hE7
                obtain ⟨E, rfl⟩ := open1 (E := E) hE8
                obtain ⟨E, rfl⟩ := open1 (E := E) hE9
                obtain ⟨E, rfl⟩ := open1 (E := E) hE45
                obtain ⟨E, rfl⟩ := open1 (E := E) hE46
                obtain ⟨E, rfl⟩ := open1 (E := E) hE47
                replace hRv9 := hRv9.mono hlegg365
                replace hRv10 := hRv10.mono hlegg365
                replace hRv11 := hRv11.mono hlegg365
                replace hRv23 := hRv23.mono hlegg365
                replace hRgg41 := hRgg41.mono hlegg365
                replace hrelxs1003 := hrelxs1003.mono hlegg365
                replace hrelxs1004 := hrelxs1004.mono hlegg365
                replace hrelxs1005 := hrelxs1005.mono hlegg365
                replace hlegg260 := hlegg260.trans hlegg365
                replace hlegg359 := hlegg359.trans hlegg365
                replace hagg359 := hagg359.trans hlegg365
                refine WP_region ?_
                obtain ⟨t77, ht77, hM⟩ := bindS hM
                refine O (r_addM rfl rfl ht77) rfl ?_
                refine O (r_move (v := .int .i64 t77) rfl) rfl ?_
                refine OW_nil ?_
                obtain rfl := Option.some.inj hM
                exact ⟨gg365, v1340, xs1479, es598, ck598, v1339, xs1478, rfl, rfl, rfl, rfl, rfl, rfl, rfl, rfl, rfl, rfl, rfl, rfl, hlegg359, hrelxs1479, hmes598, hrelxs1478, hs⟩
            · refine WP_false rfl hc504 ?_
              refine WP_exit ?_
              obtain rfl := Option.some.inj hM
              refine fun hr => ?_
              have hM := congrArg some hr
              simp only [Option.some.injEq, Prod.mk.injEq] at hM
              obtain ⟨rfl, rfl, rfl⟩ := hM
              exact ⟨gg359, v1316, xs1452, v911, xs1003, v912, xs1004, es586, ck586, v1315, xs1451, v913, xs1005, rfl, rfl, rfl, rfl, rfl, rfl, rfl, rfl, rfl, hlegg359, hrelxs1452, hrelxs1003, hrelxs1004, hmes586, hrelxs1451, hrelxs1005, hs⟩
          · clear hs
            rintro E w ⟨gg354, v1298, xs1432, v1294, xs1428, v1295, xs1429, es577, ck577, v1297, xs1431, v1296, xs1430, hE1, hE2, hE3, hE4, hE5, hE6, hE7, hE8, hE9, hlegg354, hrelxs1432, hrelxs1428, hrelxs1429, hmes577, hrelxs1431, hrelxs1430, hs⟩
            have hM := hKhx227
            obtain ⟨E, rfl⟩ := open1 (E := E) hE1
            obtain ⟨E, rfl⟩ := open1 (E := E) hE2
            obtain ⟨E, rfl⟩ := open1 (E := E) hE3
            obtain ⟨E, rfl⟩ := open1 (E := E) hE4
            obtain ⟨E, rfl⟩ := open1 (E := E) hE5
            obtain ⟨E, rfl⟩ := open1 (E := E) hE6
            obtain ⟨E, rfl⟩ := open1 (E := E) hE7
            obtain ⟨E, rfl⟩ := open1 (E := E) hE8
            obtain ⟨E, rfl⟩ := open1 (E := E) hE9
            replace hRv9 := hRv9.mono hlegg354
            replace hRv10 := hRv10.mono hlegg354
            replace hRv11 := hRv11.mono hlegg354
            replace hRv23 := hRv23.mono hlegg354
            replace hRgg41 := hRgg41.mono hlegg354
            replace hlegg260 := hlegg260.trans hlegg354
            replace hagg260 := hagg260.trans hlegg354
            refine WP_seq ?_
            refine WP_region ?_
            refine O (r_fieldAddr Try.underlying25 ti23 rfl rfl (by decide) rfl rfl) rfl ?_
            refine O (r_load (v := v1294) ti23 rfl (hs.cell (i := 6) (o := 1) rfl rfl)) rfl ?_
            refine O (r_move (v := v1298) rfl) rfl ?_
            obtain ⟨gg367, hlegg367, hRgg367, hs⟩ := hs.relRow (i := 0) rfl hrelxs1432
            replace hRv9 := hRv9.mono hlegg367
            replace hRv10 := hRv10.mono hlegg367
            replace hRv11 := hRv11.mono hlegg367
            replace hRv23 := hRv23.mono hlegg367
            replace hRgg41 := hRgg41.mono hlegg367
            replace hrelxs1428 := hrelxs1428.mono hlegg367
            replace hrelxs1429 := hrelxs1429.mono hlegg367
            replace hrelxs1431 := hrelxs1431.mono hlegg367
            replace hrelxs1430 := hrelxs1430.mono hlegg367
            replace hlegg260 := hlegg260.trans hlegg367
            replace hagg260 := hagg260.trans hlegg367
            refine OW_lit (τ := (tSl (tInt .i64))) [v1298] [l93] Try.underlying23 ti22 (by decide) hs rfl rfl rfl ⟨⟨v1298, cells_one (by obtain ⟨_, _, h9⟩ := hRgg367.shape; rw [h9]; rfl), hRgg367⟩, trivial⟩ rfl ?_
            intro v1347 wv1425 xs1487 hrelxs1487 hs
            obtain ⟨y827, hy827, hM⟩ := bindS hM
            refine OW_append Try.underlying23 ti22 rfl (by decide) (by decide) hs (i := 1) rfl hrelxs1428 (v := v1294) rfl (u := v1347) rfl (hs.rowSrc (i := 0) rfl) hrelxs1487 hy827 rfl ?_
            intro v1348 wv1426 xs1488 hrelxs1488 hs
            refine O (r_fieldAddr Try.underlying25 ti23 rfl rfl (by decide) rfl rfl) rfl ?_
            refine OW_store1 ti23 hs (i := 6) rfl rfl (v := v1348) rfl (by obtain ⟨_, _, h9⟩ := hs.rowShape (i := 1) rfl; rw [h9]; rfl) (o := 1) (by simp) ?_
            intro wv1427 hs
            refine OW_nil ?_
            refine WP_any (.q 0 (.q 1 (.q 2 (.q 3 (.q 4 (.q 5 (.q 6 (.q 7 (.q 8 (.q 9 (.s 10 (.s 11 (.q 12 (.s 13 (.leaf))))))))))))))) (SS g0 w0 gg367 [.row v1347 22 (tSl (tInt .i64)).sz [l93].length xs1487, .row v1348 22 (tSl (tInt .i64)).sz y827.length xs1488, .row v1295 3 (tInt .i64).sz xv272.length xs1429, .obj b14 (.map es577 ck577), .row v1297 3 (tInt .i64).sz xv389.length xs1431, .row v1296 5 (tInt .u8).sz rv13.length xs1430, Go.Lx.box b8 25 ([v24, v1348, v1295]), Go.Lx.box b2 25 ([.slice none 0 0, .slice none 0 0, .slice none 0 0]), Go.Lx.box b1 25 ([v9, v10, v11])]) mo (by decide +kernel) (fun _ _ _ h => h) ?_
            have hs := hs.drew
            have hagg367 := Hle.refl gg367
            have hRv9b := hRv9
            have hRv10b := hRv10
            have hRv11b := hRv11
            have hRv23b := hRv23
            have hRgg41b := hRgg41
            have hrelxs1429b := hrelxs1429
            have hrelxs1431b := hrelxs1431
            have hrelxs1430b := hrelxs1430
            have hRgg367b := hRgg367
            have hrelxs1487b := hrelxs1487
            have hrelxs1488b := hrelxs1488
            have hS : SS g0 w0 gg367 [.row v1347 22 (tSl (tInt .i64)).sz [l93].length xs1487, .row v1348 22 (tSl (tInt .i64)).sz y827.length xs1488, .row v1295 3 (tInt .i64).sz xv272.length xs1429, .obj b14 (.map es577 ck577), .row v1297 3 (tInt .i64).sz xv389.length xs1431, .row v1296 5 (tInt .u8).sz rv13.length xs1430, Go.Lx.box b8 25 ([v24, v1348, v1295]), Go.Lx.box b2 25 ([.slice none 0 0, .slice none 0 0, .slice none 0 0]), Go.Lx.box b1 25 ([v9, v10, v11])] _ := ⟨gg367, Hle.refl _, hs⟩
            refine A rfl hS (fun w9 h9 => by obtain ⟨g9, hle9, hs⟩ := h9; exact r_fieldAddr Try.underlying25 ti22 rfl rfl (by decide) rfl rfl) rfl ?_
            refine A rfl hS (fun w9 h9 => by obtain ⟨g9, hle9, hs⟩ := h9; exact r_load (v := v1295) ti22 rfl (hs.cell (i := 6) (o := 2) rfl rfl)) rfl ?_
            refine A rfl hS (fun w9 h9 => by obtain ⟨g9, hle9, hs⟩ := h9; exact r_fieldAddr Try.underlying25 ti22 rfl rfl (by decide) rfl rfl) rfl ?_
            refine A rfl hS (fun w9 h9 => by obtain ⟨g9, hle9, hs⟩ := h9; exact r_load (v := v11) ti22 rfl (hs.cell (i := 8) (o := 2) rfl rfl)) rfl ?_
            refine A rfl hS (fun w9 h9 => by obtain ⟨g9, hle9, hs⟩ := h9; exact r_move (v := v1297) rfl) rfl ?_
            refine A rfl hS (fun w9 h9 => by obtain ⟨g9, hle9, hs⟩ := h9; exact r_move (v := .int .i64 xv274) rfl) rfl ?_
            obtain ⟨e456, he456, hM⟩ := bindS hM
            obtain ⟨b1046, cb1046, hvb1046, cs900, hcs900, hcb1046⟩ := hs.rowEl (i := 4) rfl hrelxs1431 he456
            have hcs900 : cs900 = _ := hcs900; subst hcs900
            refine A rfl hS (fun w9 h9 => by obtain ⟨g9, hle9, hs⟩ := h9; exact r_idxSl Try.underlying22 ti3 (v := v1297) rfl hvb1046 rfl (idxL_some he456).1 (idxL_some he456).2.1) rfl ?_
            refine A rfl hS (fun w9 h9 => by obtain ⟨g9, hle9, hs⟩ := h9; exact r_loadEl (cs := [.int .i64 e456]) ti3 rfl rfl (.inr rfl) (hcb1046 _ (hs.at (i := 4) rfl)) (v := .int .i64 e456) rfl) rfl ?_
            obtain ⟨e457, he457, hM⟩ := bindS hM
            obtain ⟨b1047, ob1047, cb1047, hvb1047, cs901, hcs901, hcb1047⟩ := hRv11b.at he457
            have hcs901 : cs901 = _ := hcs901; subst hcs901
            refine A rfl hS (fun w9 h9 => by obtain ⟨g9, hle9, hs⟩ := h9; exact r_idxSl Try.underlying22 ti3 (v := v11) rfl hvb1047 rfl (idxL_some he457).1 (idxL_some he457).2.1) rfl ?_
            refine A rfl hS (fun w9 h9 => by obtain ⟨g9, hle9, hs⟩ := h9; exact r_loadEl (cs := [.int .i64 e457]) ti3 rfl rfl (.inr rfl) (hcb1047 _ (hs.imm.of_le hle9)) (v := .int .i64 e457) rfl) rfl ?_
            refine A1 rfl ?_
            refine OW_lit (τ := (tInt .i64)) [.int .i64 e457] [e457] Try.underlying22 ti3 (by decide) hs rfl rfl rfl ⟨rfl, trivial⟩ rfl ?_
            intro v1349 wv1428 xs1489 hrelxs1489 hs
            refine OW_nil ?_
            have hS : SS g0 w0 gg367 [.row v1347 22 (tSl (tInt .i64)).sz [l93].length xs1487, .row v1348 22 (tSl (tInt .i64)).sz y827.length xs1488, .row v1295 3 (tInt .i64).sz xv272.length xs1429, .obj b14 (.map es577 ck577), .row v1297 3 (tInt .i64).sz xv389.length xs1431, .row v1296 5 (tInt .u8).sz rv13.length xs1430, Go.Lx.box b8 25 ([v24, v1348, v1295]), Go.Lx.box b2 25 ([.slice none 0 0, .slice none 0 0, .slice none 0 0]), Go.Lx.box b1 25 ([v9, v10, v11])] _ := ⟨gg367, (Hle.refl _), (hs.sub (.cons _ (.cons_cons _ (.cons_cons _ (.cons_cons _ (.cons_cons _ (.cons_cons _ (.cons_cons _ (.cons_cons _ (.cons_cons _ (.cons_cons _ .slnil)))))))))))⟩
            refine ⟨fun _ => hS, ?_⟩
            refine A1 rfl ?_
            obtain ⟨y828, hy828, hM⟩ := bindS hM
            refine OW_appendK Try.underlying22 ti3 rfl (by decide) (by decide) hs (i := 3) rfl hrelxs1429 (v := v1295) rfl (u := v1349) rfl (hs.rowSrc (i := 0) rfl) hrelxs1489 hy828 rfl ?_
            intro v1350 wv1429 xs1490 hrelxs1490 hsO hs
            refine OW_nil ?_
            replace hS : SS g0 w0 gg367 [.row v1347 22 (tSl (tInt .i64)).sz [l93].length xs1487, .row v1348 22 (tSl (tInt .i64)).sz y827.length xs1488, .row v1295 3 (tInt .i64).sz xv272.length xs1429, .obj b14 (.map es577 ck577), .row v1297 3 (tInt .i64).sz xv389.length xs1431, .row v1296 5 (tInt .u8).sz rv13.length xs1430, Go.Lx.box b8 25 ([v24, v1348, v1295]), Go.Lx.box b2 25 ([.slice none 0 0, .slice none 0 0, .slice none 0 0]), Go.Lx.box b1 25 ([v9, v10, v11])] _ := ⟨gg367, (Hle.refl _), (hsO.sub (.cons _ (.cons_cons _ (.cons_cons _ (.cons_cons _ (.cons_cons _ (.cons_cons _ (.cons_cons _ (.cons_cons _ (.cons_cons _ (.cons_cons _ .slnil)))))))))))⟩
            refine ⟨fun _ => hS, ?_⟩
            refine A rfl hS (fun w9 h9 => by obtain ⟨g9, hle9, hs⟩ := h9; exact r_fieldAddr Try.underlying25 ti22 rfl rfl (by decide) rfl rfl) rfl ?_
            refine A1 rfl ?_
            refine OW_store1 ti22 hs (i := 7) rfl rfl (v := v1350) rfl (by obtain ⟨_, _, h9⟩ := hs.rowShape (i := 3) rfl; rw [h9]; rfl) (o := 2) (by simp) ?_
            intro wv1430 hs
            refine OW_nil ?_
            refine ⟨fun h => absurd h (by decide +kernel), ?_⟩
            refine AN ?_
            simp only [Option.some.injEq, Prod.mk.injEq] at hM
            obtain ⟨rfl, rfl, rfl, rfl⟩ := hM
            exact ⟨gg367, v1348, xs1488, v1350, xs1490, es577, ck577, v1297, xs1431, v1296, xs1430, rfl, rfl, rfl, rfl, rfl, rfl, rfl, rfl, hagg260, hrelxs1488, hrelxs1490, hmes577, hrelxs1431, hrelxs1430, (hs.sub (.cons _ (.cons _ (.cons_cons _ (.cons_cons _ (.cons_cons _ (.cons_cons _ (.cons_cons _ (.cons_cons _ (.cons_cons _ (.cons_cons _ .slnil)))))))))))⟩
        · clear hs
          rintro E w ⟨gg341, v1241, xs1369, v1242, xs1370, es552, ck552, v1244, xs1372, v1243, xs1371, hE1, hE2, hE3, hE4, hE5, hE6, hE7, hE8, hlegg341, hrelxs1369, hrelxs1370, hmes552, hrelxs1372, hrelxs1371, hs⟩
          have hM := hKhx217
          obtain ⟨E, rfl⟩ := open1 (E := E) hE1
          obtain ⟨E, rfl⟩ := open1 (E := E) hE2
          obtain ⟨E, rfl⟩ := open1 (E := E) hE3
          obtain ⟨E, rfl⟩ := open1 (E := E) hE4
          obtain ⟨E, rfl⟩ := open1 (E := E) hE5
          obtain ⟨E, rfl⟩ := open1 (E := E) hE6
          obtain ⟨E, rfl⟩ := open1 (E := E) hE7
          obtain ⟨E, rfl⟩ := open1 (E := E) hE8
          replace hRv9 := hRv9.mono hlegg341
          replace hRv10 := hRv10.mono hlegg341
          replace hRv11 := hRv11.mono hlegg341
          replace hRv23 := hRv23.mono hlegg341
          replace hRgg41 := hRgg41.mono hlegg341
          replace hlegg260 := hlegg260.trans hlegg341
          replace hagg260 := hagg260.trans hlegg341
          refine WP_region ?_
          refine O (r_move (v := .int .i64 xv274) rfl) rfl ?_
          obtain ⟨t78, ht78, hM⟩ := bindS hM
          refine O (r_addM rfl rfl ht78) rfl ?_
          refine O (r_assign (v := .int .i64 t78) rfl) rfl ?_
          refine OW_nil ?_
          obtain rfl := Option.some.inj hM
          exact ⟨gg341, v1241, xs1369, v1242, xs1370, es552, ck552, v1244, xs1372, v1243, xs1371, rfl, rfl, rfl, rfl, rfl, rfl, rfl, rfl, hlegg260, hrelxs1369, hrelxs1370, hmes552, hrelxs1372, hrelxs1371, hs⟩
      · refine WP_false rfl hc426 ?_
        refine WP_exit ?_
        obtain rfl := Option.some.inj hM
        refine fun hr => ?_
        have hM := congrArg some hr
        simp only [Option.some.injEq, Prod.mk.injEq] at hM
        obtain ⟨rfl, rfl⟩ := hM
        exact ⟨gg260, v911, xs1003, v912, xs1004, rfl, rfl, hlegg260, hrelxs1003, hrelxs1004, (hs.sub (.cons_cons _ (.cons_cons _ (.cons _ (.cons _ (.cons _ (.cons_cons _ (.cons_cons _ (.cons _ .slnil)))))))))⟩
    · clear hs
      rintro E w ⟨gg205, v693, xs757, v694, xs758, hE2, hE4, hlegg205, hrelxs757, hrelxs758, hs⟩
      have hM := hKhx119
      obtain ⟨E, rfl⟩ := open1 (E := E) hE2
      obtain ⟨E, rfl⟩ := open1 (E := E) hE4
      replace hRgg41 := hRgg41.mono hlegg205
      refine WP_seq ?_
      refine WP_region ?_
      refine O (r_loadN (cs := [v24, v693, v694]) ti25 rfl rfl (hs.cells (i := 2) rfl)) rfl ?_
      refine OW_storeAll ti25 hs (i := 3) rfl rfl (v := .agg (List.toArray (α := Value) [v24, v693, v694])) rfl (vs := [v24, v693, v694]) rfl (one_cons (by obtain ⟨_, _, h9⟩ := hRgg41.shape; rw [h9]; rfl) (one_cons (by obtain ⟨_, _, h9⟩ := hs.rowShape (i := 0) rfl; rw [h9]; rfl) (one_cons (by obtain ⟨_, _, h9⟩ := hs.rowShape (i := 1) rfl; rw [h9]; rfl) one_nil))) rfl rfl ?_
      intro wv1431 hs
      refine OW_nil ?_
      refine WP_ret ?_
      obtain ⟨gg368, hlegg368, hRgg368, hs⟩ := hs.relRow (i := 0) rfl hrelxs757
      replace hRgg41 := hRgg41.mono hlegg368
      replace hrelxs758 := hrelxs758.mono hlegg368
      obtain ⟨gg369, hlegg369, hRgg369, hs⟩ := hs.relRow (i := 0) rfl hrelxs758
      replace hRgg41 := hRgg41.mono hlegg369
      replace hRgg368 := hRgg368.mono hlegg369
      obtain rfl := Option.some.inj hM
      exact ⟨_, res1 Try.results15 (rv_cells (vs := [v24, v693, v694]) ti25 rfl rfl (hs.cells (i := 1) rfl)), gg369, ⟨[v24, v693, v694], rfl, ⟨[v24], [v693], [v694], rfl, ⟨_, rfl, hRgg41⟩, ⟨_, rfl, hRgg368⟩, ⟨_, rfl, hRgg369⟩⟩⟩, hs.ext⟩


end Go.Proofs.Ytogpainomdfpnaa
