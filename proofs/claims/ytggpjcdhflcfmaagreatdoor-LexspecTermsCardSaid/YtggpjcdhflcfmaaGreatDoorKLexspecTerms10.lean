/- Part 10 of what the law leans on: my own layer, printed walks, plain facts. -/
import Derived.Test.YtggpjcdhflcfmaaGreatDoorKLexspecTerms9
set_option linter.unusedVariables false
set_option linter.unusedSimpArgs false
namespace Go.Proofs.YtggpjcdhflcfmaaGreatDoor
open Go.Lx Go.RowKit
set_option maxRecDepth 100000 in
theorem dfa_live_ok {d1:T_DFA} {r:(List Bool)} (hM:M.dfa_live d1=some r) {g0:Hp} {w0:World} (hi:Imm g0 w0) {cs1:List Value} (hcs1:tT_DFA.rel g0 cs1 d1) :
    CallsV Tryz.prog 119 #[Value.agg cs1.toArray] w0 (fun v w'=>∃g' y0,(RowRel tBool g' y0 r)∧Sep g0 w0 g' w' [.row v 4 tBool.sz r.length y0]):=by
 unfold M.dfa_live at hM
 obtain ⟨cs2,cs3,cs4,rfl,hcs2,hcs3,hcs4⟩:=hcs1
 obtain ⟨v1,rfl,hRv1⟩:=hcs2
 obtain ⟨v2,rfl,hRv2⟩:=hcs3
 obtain ⟨v3,rfl,hRv3⟩:=hcs4
 have hs:=Sep.start hi
 refine calls_of_WP (args:=[Value.agg (List.toArray (α:=Value) [v1,v2,v3])]) Tryz.func119 rfl Tryz.ntmps119 rfl ?_
 have hds:(argEnv [Value.agg (List.toArray (α:=Value) [v1,v2,v3])]).ds=[]:=rfl
 refine WP_seq<|WP_region<|OW_box (v:=Value.agg (List.toArray (α:=Value) [v1,v2,v3])) rfl hs (zs:=[v1,v2,v3]) rfl rfl ?_
 intro b1 wv1 hs
 refine O (r_assign (v:=Value.slice none 0 0) rfl) rfl<|OW_nil<|WP_seq<|WP_region<|O (r_fieldAddr Tryz.underlying37 ti35 rfl rfl (by decide) rfl rfl) rfl<|O (r_load (v:=v2) ti35 rfl (hs.cell (i:=0) (o:=1) rfl rfl)) rfl ?_
 obtain ⟨a1,ca1,hva1⟩:=hRv2.shape
 refine O (r_lenSl (v:=v2) Tryz.underlying35 rfl hva1) rfl ?_
 obtain ⟨l1,hl1,hM⟩:=bindS hM
 refine OW_make (τ:=tBool) (zc:=[Value.bool false]) (zx:=false) Tryz.underlying65 ti4 rfl rfl (by decide) hs rfl rfl hl1 rfl ?_
 intro v4 wv2 xs1 hrelxs1 hs
 refine OW_alloc ti65 hs (zs:=[Value.slice none 0 0]) rfl rfl ?_
 intro b2 wv3 hs
 refine OW_store1 ti65 hs (i:=0) rfl rfl (v:=v4) rfl (by obtain ⟨_,_,h9⟩:=hs.rowShape (i:=1) rfl; rw [h9]; rfl) (o:=0) (Nat.zero_lt_succ _) ?_
 intro wv4 hs
 refine OW_nil ?_
 obtain ⟨l5,hx1,hKhx1⟩:=bindS hM
 refine WP_cut (fun E w=>∃(v8:Value) (xs8:List Value),E 1=Value.pointer (some ⟨b1,0,none⟩)∧E 3=Value.pointer (some ⟨b2,0,none⟩)∧E.ds=[]∧RowRel tBool g0 xs8 l5∧Go.Lx.Sep g0 w0 g0 w [Go.Lx.box b2 65 ([v8]),.row v8 4 tBool.sz l5.length xs8,Go.Lx.box b1 37 ([v1,v2,v3])]) ?_ ?_
 ·have hM:=hx1
  have hag0:=Hle.refl g0
  refine WP_seq<|WP_region<|O (r_fieldAddr Tryz.underlying37 ti34 rfl rfl (by decide) rfl rfl) rfl<|O (r_load (v:=v3) ti34 rfl (hs.cell (i:=2) (o:=2) rfl rfl)) rfl ?_
  obtain ⟨a3,ca3,hva3⟩:=hRv3.shape
  refine O (r_lenSl (v:=v3) Tryz.underlying34 rfl hva3) rfl<|O (r_move (v:=Value.int .i64 0) rfl) rfl<|OW_nil<|WP_block<|WP_loop (fun (st9:(List Bool)×Int) E w=>match st9 with|(l7,xv5)=>∃(v10:Value) (xs11:List Value),E 1=Value.pointer (some ⟨b1,0,none⟩)∧E 3=Value.pointer (some ⟨b2,0,none⟩)∧E 14=v3∧E 15=Value.int .i64 (d1.Accept.length:Int)∧E 16=Value.int .i64 xv5∧E.ds=[]∧RowRel tBool g0 xs11 l7∧Go.Lx.Sep g0 w0 g0 w [Go.Lx.box b2 65 ([v10]),.row v10 4 tBool.sz l7.length xs11,Go.Lx.box b1 37 ([v1,v2,v3])]) hM ⟨v4,xs1,rfl,rfl,rfl,rfl,rfl,hds,hrelxs1,hs⟩ ?_
  clear hs hM
  rintro ⟨l7,xv5⟩ o2 E w hM ⟨v10,xs11,hE1,hE3,hE14,hE15,hE16,hds,hrelxs11,hs⟩
  obtain ⟨E,rfl⟩:=open5 (E:=E) hE1 hE3 hE14 hE15 hE16
  refine WP_seq<|WP_region<|O (r_lss rfl rfl) rfl<|OW_nil<|WP_seq ?_
  rcases condS hM with ⟨hc6,hM⟩|⟨hc6,hM⟩
  ·refine WP_true rfl hc6<|WP_skip<|WP_seq<|WP_block<|WP_seq<|WP_region<|O (r_move (v:=Value.int .i64 xv5) rfl) rfl ?_
   obtain ⟨e6,he6,hM⟩:=bindS hM
   obtain ⟨b13,ob13,cb13,hvb13,cs10,hcs10,hcb13⟩:=hRv3.at he6
   have hcs10:cs10=_:=hcs10; subst hcs10
   refine O (r_idxSl Tryz.underlying34 ti3 (v:=v3) rfl hvb13 rfl (idxL_some he6).1 (idxL_some he6).2.1) rfl<|O (r_loadEl (cs:=[Value.int .i64 e6]) ti3 rfl rfl (.inr rfl) (hcb13 _ hs.imm) (v:=Value.int .i64 e6) rfl) rfl<|O (r_assign (v:=Value.int .i64 xv5) rfl) rfl<|O (r_assign (v:=Value.int .i64 e6) rfl) rfl<|OW_nil<|WP_region<|O (r_load (v:=v10) ti65 rfl (hs.cell (i:=0) (o:=0) rfl rfl)) rfl<|O (r_move (v:=Value.int .i64 xv5) rfl) rfl<|O (r_move (v:=Value.int .i64 e6) rfl) rfl<|O (r_geq rfl rfl) rfl ?_
   obtain ⟨y6,hy6,hM⟩:=bindS hM
   obtain ⟨b14,cb14,hvb14,wv10,xs14,hstb14,hrelb14,hsb14⟩:=hs.rowPut (i:=1) rfl hrelxs11 hy6 (cs:=[Value.bool (decide (0≤e6))]) rfl
   refine O (r_idxSl Tryz.underlying65 ti4 (v:=v10) rfl hvb14 rfl (setL_some hy6).1 (setL_some hy6).2.1) rfl<|O0 (r_store ti4 rfl (v:=Value.bool (decide (0≤e6))) rfl rfl hstb14) ?_
   have hs:=hsb14
   refine OW_nil<|WP_region ?_
   obtain ⟨t6,ht6,hM⟩:=bindS hM
   refine O (r_addM rfl rfl ht6) rfl<|O (r_move (v:=Value.int .i64 t6) rfl) rfl<|OW_nil ?_
   obtain rfl:=Option.some.inj hM
   exact ⟨v10,xs14,rfl,rfl,rfl,rfl,rfl,hds,hrelb14,hs⟩
  ·refine WP_false rfl hc6<|WP_exit ?_
   obtain rfl:=Option.some.inj hM
   refine fun hr=>?_
   have hM:=congrArg some hr
   obtain rfl:=Option.some.inj hM
   exact ⟨v10,xs11,rfl,rfl,hds,hrelxs11,hs⟩
 ·clear hs
  rintro E w ⟨v8,xs8,hE1,hE3,hds,hrelxs8,hs⟩
  have hM:=hKhx1
  obtain ⟨E,rfl⟩:=open2 (E:=E) hE1 hE3
  obtain ⟨l21,hx29,hKhx29⟩:=bindS hM
  refine WP_cut (fun E w=>∃(gg184:Hp) (v87:Value) (xs54:List Value),E 3=Value.pointer (some ⟨b2,0,none⟩)∧E.ds=[]∧Hle g0 gg184∧RowRel tBool gg184 xs54 l21∧Go.Lx.Sep g0 w0 gg184 w [Go.Lx.box b2 65 ([v87]),.row v87 4 tBool.sz l21.length xs54]) ?_ ?_
  ·have hM:=hx29
   have hag0:=Hle.refl g0
   refine WP_seq<|WP_region<|O (r_assign (v:=Value.bool true) rfl) rfl<|OW_nil<|WP_block<|WP_loop (fun (st9:(List Bool)×Bool) E w=>match st9 with|(l26,more29)=>∃(gg246:Hp) (v113:Value) (xs68:List Value),E 1=Value.pointer (some ⟨b1,0,none⟩)∧E 3=Value.pointer (some ⟨b2,0,none⟩)∧E 6=Value.bool more29∧E.ds=[]∧Hle g0 gg246∧RowRel tBool gg246 xs68 l26∧Go.Lx.Sep g0 w0 gg246 w [Go.Lx.box b2 65 ([v113]),.row v113 4 tBool.sz l26.length xs68,Go.Lx.box b1 37 ([v1,v2,v3])]) hM ⟨g0,v8,xs8,rfl,rfl,rfl,hds,(Hle.refl _),hrelxs8,hs⟩ ?_
   clear hs hM
   rintro ⟨l26,more29⟩ o9 E w hM ⟨gg246,v113,xs68,hE1,hE3,hE6,hds,hlegg246,hrelxs68,hs⟩
   obtain ⟨E,rfl⟩:=open3 (E:=E) hE1 hE3 hE6
   replace hRv2:=hRv2.mono hlegg246
   have hagg246:=Hle.refl gg246
   refine WP_seq<|WP_seq<|WP_region<|O (r_move (v:=Value.bool more29) rfl) rfl<|OW_nil ?_
   rcases condS hM with ⟨hc55,hM⟩|⟨hc55,hM⟩
   ·refine WP_true rfl hc55<|WP_skip<|WP_block<|WP_seq<|WP_region<|O (r_assign (v:=Value.bool false) rfl) rfl<|OW_nil<|WP_seq<|WP_region<|O (r_fieldAddr Tryz.underlying37 ti35 rfl rfl (by decide) rfl rfl) rfl<|O (r_load (v:=v2) ti35 rfl (hs.cell (i:=2) (o:=1) rfl rfl)) rfl ?_
    obtain ⟨a9,ca9,hva9⟩:=hRv2.shape
    refine O (r_lenSl (v:=v2) Tryz.underlying35 rfl hva9) rfl<|O (r_move (v:=Value.int .i64 0) rfl) rfl<|OW_nil<|WP_block<|WP_loop (fun (st9:(List Bool)×Bool×Int) E w=>match st9 with|(l32,more39,xv23)=>∃(gg328:Hp) (v147:Value) (xs86:List Value),E 1=Value.pointer (some ⟨b1,0,none⟩)∧E 3=Value.pointer (some ⟨b2,0,none⟩)∧E 6=Value.bool more39∧E 29=v2∧E 30=Value.int .i64 (d1.Next.length:Int)∧E 31=Value.int .i64 xv23∧E.ds=[]∧Hle gg246 gg328∧RowRel tBool gg328 xs86 l32∧Go.Lx.Sep g0 w0 gg328 w [Go.Lx.box b2 65 ([v147]),.row v147 4 tBool.sz l32.length xs86,Go.Lx.box b1 37 ([v1,v2,v3])]) hM ⟨gg246,v113,xs68,rfl,rfl,rfl,rfl,rfl,rfl,hds,(Hle.refl _),hrelxs68,hs⟩ ?_
    clear hs hM
    rintro ⟨l32,more39,xv23⟩ o10 E w hM ⟨gg328,v147,xs86,hE1,hE3,hE6,hE29,hE30,hE31,hds,hlegg328,hrelxs86,hs⟩
    obtain ⟨E,rfl⟩:=open6 (E:=E) hE1 hE3 hE6 hE29 hE30 hE31
    replace hRv2:=hRv2.mono hlegg328
    replace hlegg246:=hlegg246.trans hlegg328
    have hagg328:=Hle.refl gg328
    refine WP_seq<|WP_region<|O (r_lss rfl rfl) rfl<|OW_nil<|WP_seq ?_
    rcases condS hM with ⟨hc62,hM⟩|⟨hc62,hM⟩
    ·refine WP_true rfl hc62<|WP_skip ?_
     obtain ⟨⟨y59,more42⟩,hx55,hKhx55⟩:=bindS hM
     refine WP_cut (fun E w=>∃(gg358:Hp) (v159:Value) (xs92:List Value),E 1=Value.pointer (some ⟨b1,0,none⟩)∧E 3=Value.pointer (some ⟨b2,0,none⟩)∧E 6=Value.bool more42∧E 29=v2∧E 30=Value.int .i64 (d1.Next.length:Int)∧E 31=Value.int .i64 xv23∧E.ds=[]∧Hle gg328 gg358∧RowRel tBool gg358 xs92 y59∧Go.Lx.Sep g0 w0 gg358 w [Go.Lx.box b2 65 ([v159]),.row v159 4 tBool.sz y59.length xs92,Go.Lx.box b1 37 ([v1,v2,v3])]) ?_ ?_
     ·have hM:=hx55
      refine WP_block<|WP_seq<|WP_region<|O (r_move (v:=Value.int .i64 xv23) rfl) rfl ?_
      obtain ⟨e112,he112,hM⟩:=bindS hM
      obtain ⟨b155,ob155,cb155,hvb155,cs186,hcs186,hcb155⟩:=hRv2.at he112
      obtain ⟨v160,rfl,hRv160⟩:=hcs186
      refine O (r_idxSl Tryz.underlying35 ti34 (v:=v2) rfl hvb155 rfl (idxL_some he112).1 (idxL_some he112).2.1) rfl<|O (r_loadEl (cs:=[v160]) ti34 rfl rfl (.inr rfl) (hcb155 _ hs.imm) (v:=v160) rfl) rfl<|O (r_assign (v:=Value.int .i64 xv23) rfl) rfl<|O (r_assign (v:=v160) rfl) rfl<|OW_nil ?_
      obtain ⟨rv107,hx56,hKhx56⟩:=bindS hM
      refine WP_cut (fun E w=>∃(gg363:Hp),E 1=Value.pointer (some ⟨b1,0,none⟩)∧E 3=Value.pointer (some ⟨b2,0,none⟩)∧E 6=Value.bool more39∧E 7=Value.int .i64 xv23∧E 29=v2∧E 30=Value.int .i64 (d1.Next.length:Int)∧E 31=Value.int .i64 xv23∧E 45=Value.bool rv107∧E.ds=[]∧Hle gg328 gg363∧Go.Lx.Sep g0 w0 gg363 w [Go.Lx.box b2 65 ([v147]),.row v147 4 tBool.sz l32.length xs86,Go.Lx.box b1 37 ([v1,v2,v3])]) ?_ ?_
      ·have hM:=hx56
       refine WP_region<|O (r_load (v:=v147) ti65 rfl (hs.cell (i:=0) (o:=0) rfl rfl)) rfl<|O (r_move (v:=Value.int .i64 xv23) rfl) rfl ?_
       obtain ⟨e114,he114,hM⟩:=bindS hM
       obtain ⟨b157,cb157,hvb157,cs189,hcs189,hcb157⟩:=hs.rowEl (i:=1) rfl hrelxs86 he114
       have hcs189:cs189=_:=hcs189; subst hcs189
       refine O (r_idxSl Tryz.underlying65 ti4 (v:=v147) rfl hvb157 rfl (idxL_some he114).1 (idxL_some he114).2.1) rfl<|O (r_loadEl (cs:=[Value.bool e114]) ti4 rfl rfl (.inr rfl) (hcb157 _ (hs.at (i:=1) rfl)) (v:=Value.bool e114) rfl) rfl<|O (r_not rfl) rfl<|O (r_move (v:=Value.bool (!e114)) rfl) rfl ?_
       rcases condS hM with ⟨hg72,hM⟩|⟨hg72,hM⟩
       ·refine OG rfl rfl rfl (by rw [hg72]; rfl) (r_move (v:=v160) rfl) rfl<|OG rfl rfl rfl (by rw [hg72]; rfl) (r_makeFunc (vs:=[Value.pointer (some ⟨b2,0,none⟩)]) rfl) rfl ?_
        have hsL72:=hs
        have hagg328L72:=hagg328
        obtain ⟨gg364,hlegg364,hRgg364,hs⟩:=hs.relRow (i:=1) rfl hrelxs86
        replace hRv160:=hRv160.mono hlegg364
        replace hagg328:=hagg328.trans hlegg364
        obtain ⟨gg365,hlegg365,hBgg365,hs⟩:=hs.relBox (i:=0) rfl
        replace hRv160:=hRv160.mono hlegg365
        replace hRgg364:=hRgg364.mono hlegg365
        replace hagg328:=hagg328.trans hlegg365
        obtain ⟨rv108,hrv108,hM⟩:=bindS hM
        refine CG rfl rfl rfl (by rw [hg72]; rfl) [v160,Value.func (.func 130) #[] (List.toArray [Value.pointer (some ⟨b2,0,none⟩)])] cf114 rfl (slices_ContainsFunc_int_int_ok hrv108 hs.imm hRv160 (show FnRd1 Tryz.prog (VRd (tInt .i64) false) (VRd tBool false) (Value.func (.func 130) #[] (List.toArray [Value.pointer (some ⟨b2,0,none⟩)])) (fun x901=>M.dfa_live_1 x901 l32) gg365 from ⟨130,[Value.pointer (some ⟨b2,0,none⟩)],rfl,cf130,fun g9 w9 a90 x90 r9 hle9 hi9 ha90 hM9=>by obtain ⟨c90,rfl,ha90⟩:=ha90; have ha90:c90=_:=ha90; subst ha90; exact dfa_live_1_ok hM9 hi9 (hBgg365.mono hle9) ((tSl tBool).mono hle9 (⟨_,rfl,hRgg364⟩))⟩)) rfl ?_
        rintro v162 wv117 ⟨gg366,hvv162,hegg366⟩
        obtain ⟨gg367,hlegg367,hs⟩:=hsL72.lent hegg366
        replace hagg328:=hagg328L72.trans hlegg367
        obtain ⟨cs190,rfl,hcs190⟩:=hvv162
        have hcs190:cs190=_:=hcs190; subst hcs190
        refine O (r_pickT (v:=Value.bool rv108) rfl hg72 rfl) rfl<|OW_nil ?_
        obtain rfl:=Option.some.inj hM
        exact ⟨gg367,rfl,rfl,rfl,rfl,rfl,rfl,rfl,rfl,hds,hagg328,hs⟩
       ·refine OK rfl rfl rfl (by rw [hg72]; rfl) rfl<|OK rfl rfl rfl (by rw [hg72]; rfl) rfl<|OK rfl rfl rfl (by rw [hg72]; rfl) rfl<|O (r_pickF (v:=Value.bool false) rfl hg72 rfl) rfl<|OW_nil ?_
        obtain rfl:=Option.some.inj hM
        exact ⟨gg328,rfl,rfl,rfl,rfl,rfl,rfl,rfl,rfl,hds,(Hle.refl _),hs⟩
      ·clear hs
       rintro E w ⟨gg363,hE1,hE3,hE6,hE7,hE29,hE30,hE31,hE45,hds,hlegg363,hs⟩
       have hM:=hKhx56
       obtain ⟨E,rfl⟩:=open8 (E:=E) hE1 hE3 hE6 hE7 hE29 hE30 hE31 hE45
       replace hrelxs86:=hrelxs86.mono hlegg363
       replace hagg328:=hagg328.trans hlegg363
       rcases condS hM with ⟨hc64,hM⟩|⟨hc64,hM⟩
       ·refine WP_true rfl hc64<|WP_region<|O (r_load (v:=v147) ti65 rfl (hs.cell (i:=0) (o:=0) rfl rfl)) rfl<|O (r_move (v:=Value.int .i64 xv23) rfl) rfl ?_
        obtain ⟨y60,hy60,hM⟩:=bindS hM
        obtain ⟨b158,cb158,hvb158,wv118,xs93,hstb158,hrelb158,hsb158⟩:=hs.rowPut (i:=1) rfl hrelxs86 hy60 (cs:=[Value.bool true]) rfl
        refine O (r_idxSl Tryz.underlying65 ti4 (v:=v147) rfl hvb158 rfl (setL_some hy60).1 (setL_some hy60).2.1) rfl<|O0 (r_store ti4 rfl (v:=Value.bool true) rfl rfl hstb158) ?_
        have hs:=hsb158
        refine O (r_assign (v:=Value.bool true) rfl) rfl<|OW_nil ?_
        simp only [Option.some.injEq,Prod.mk.injEq] at hM
        obtain ⟨rfl,rfl⟩:=hM
        exact ⟨gg363,v147,xs93,rfl,rfl,rfl,rfl,rfl,rfl,hds,hagg328,hrelb158,hs⟩
       ·refine WP_false rfl hc64<|WP_skip ?_
        simp only [Option.some.injEq,Prod.mk.injEq] at hM
        obtain ⟨rfl,rfl⟩:=hM
        exact ⟨gg363,v147,xs86,rfl,rfl,rfl,rfl,rfl,rfl,hds,hagg328,hrelxs86,hs⟩
     ·clear hs
      rintro E w ⟨gg358,v159,xs92,hE1,hE3,hE6,hE29,hE30,hE31,hds,hlegg358,hrelxs92,hs⟩
      have hM:=hKhx55
      obtain ⟨E,rfl⟩:=open6 (E:=E) hE1 hE3 hE6 hE29 hE30 hE31
      replace hlegg328:=hlegg328.trans hlegg358
      refine WP_region ?_
      obtain ⟨t24,ht24,hM⟩:=bindS hM
      refine O (r_addM rfl rfl ht24) rfl<|O (r_move (v:=Value.int .i64 t24) rfl) rfl<|OW_nil ?_
      obtain rfl:=Option.some.inj hM
      exact ⟨gg358,v159,xs92,rfl,rfl,rfl,rfl,rfl,rfl,hds,hlegg328,hrelxs92,hs⟩
    ·refine WP_false rfl hc62<|WP_exit ?_
     obtain rfl:=Option.some.inj hM
     refine fun hr=>?_
     have hM:=congrArg some hr
     obtain rfl:=Option.some.inj hM
     exact ⟨gg328,v147,xs86,rfl,rfl,rfl,hds,hlegg246,hrelxs86,hs⟩
   ·refine WP_false rfl hc55<|WP_exit ?_
    obtain rfl:=Option.some.inj hM
    refine fun hr=>?_
    have hM:=congrArg some hr
    obtain rfl:=Option.some.inj hM
    exact ⟨gg246,v113,xs68,rfl,hds,hlegg246,hrelxs68,(hs.sub (.cons_cons _ (.cons_cons _ (.cons _ .slnil))))⟩
  ·clear hs
   rintro E w ⟨gg184,v87,xs54,hE3,hds,hlegg184,hrelxs54,hs⟩
   have hM:=hKhx29
   obtain ⟨E,rfl⟩:=open1 (E:=E) hE3
   refine WP_seq<|WP_region<|O (r_load (v:=v87) ti65 rfl (hs.cell (i:=0) (o:=0) rfl rfl)) rfl<|O (r_assign (v:=v87) rfl) rfl<|OW_nil<|WP_ret ?_
   obtain rfl:=Option.some.inj hM
   refine FL_nil hds ?_
   exact ⟨_,res1 Tryz.results119 (rv_tmp (v:=v87) rfl),gg184,xs54,hrelxs54,(hs.sub (.cons _ (.cons_cons _ .slnil)))⟩
set_option maxRecDepth 100000 in
theorem slices_Clone_int_int_ok {s1:(List Int)} {r:(List Int)} (hM:M.slices_Clone_int_int s1=some r) {g0:Hp} {w0:World} (hi:Imm g0 w0) {v1:Value} (hRv1:RdS (tInt .i64) g0 v1 s1) :
    CallsV Tryz.prog 120 #[v1] w0 (fun v w'=>∃g' y0,(RowRel (tInt .i64) g' y0 r)∧Sep g0 w0 g' w' [.row v 3 (tInt .i64).sz r.length y0]):=by
 unfold M.slices_Clone_int_int at hM
 have hs:=Sep.start hi
 refine calls_of_WP (args:=[v1]) Tryz.func120 rfl Tryz.ntmps120 rfl ?_
 have hds:(argEnv [v1]).ds=[]:=rfl
 refine WP_seq<|WP_region<|O (r_assign (v:=Value.slice none 0 0) rfl) rfl<|OW_nil<|WP_seq<|WP_seq<|WP_region<|O (r_move (v:=v1) rfl) rfl ?_
 obtain ⟨a1,ca1,hva1⟩:=hRv1.shape
 refine O (r_eqlNil (v:=v1) Tryz.underlying34 rfl hva1 rfl) rfl<|OW_nil ?_
 rcases truth_cases a1.isNone with hn1|hn1
 ·obtain rfl:=Option.isNone_iff_eq_none.1 hn1
  have hl9:s1=[]:=RdS.none_nil hRv1 hva1
  have hM:(some [])=some r:=by rw [hl9] at hM; simpa [appM] using hM
  refine WP_true rfl rfl<|WP_seq<|WP_region<|O (r_assign (v:=Value.slice none 0 0) rfl) rfl<|OW_nil<|WP_ret ?_
  obtain rfl:=Option.some.inj hM
  have hs:=hs.nilRow 3 (tInt .i64).sz
  have hn0:RowRel (tInt .i64) g0 [] []:=RowRel.nil
  refine FL_nil hds ?_
  exact ⟨_,res1 Tryz.results120 (rv_tmp (v:=(Value.slice none 0 0)) rfl),g0,[],hn0,hs⟩
 ·refine WP_false rfl hn1<|WP_skip<|WP_seq<|WP_region<|OW_lit (τ:=(tInt .i64)) [] [] Tryz.underlying34 ti3 (by decide) hs rfl rfl rfl trivial rfl ?_
  intro v2 wv1 xs1 hrelxs1 hs
  refine O (r_move (v:=v1) rfl) rfl ?_
  obtain ⟨xs2,hrxs2,hlxs2⟩:=(id hRv1)
  obtain ⟨y1,hy1,hM⟩:=bindS hM
  refine OW_append Tryz.underlying34 ti3 rfl (by decide) (by decide) hs (i:=0) rfl hrelxs1 (v:=v2) rfl (u:=v1) rfl (hlxs2.src hs.imm) hrxs2 hy1 rfl ?_
  intro v3 wv2 xs3 hrelxs3 hs
  refine O (r_assign (v:=v3) rfl) rfl<|OW_nil<|WP_ret ?_
  obtain rfl:=Option.some.inj hM
  refine FL_nil hds ?_
  exact ⟨_,res1 Tryz.results120 (rv_tmp (v:=v3) rfl),g0,xs3,hrelxs3,hs⟩
set_option maxRecDepth 100000 in
theorem dfa_pruned_ok {d1:T_DFA} {r:T_DFA} (hM:M.dfa_pruned d1=some r) {g0:Hp} {w0:World} (hi:Imm g0 w0) {cs1:List Value} (hcs1:tT_DFA.rel g0 cs1 d1) :
    CallsV Tryz.prog 96 #[Value.agg cs1.toArray] w0 (fun v w'=>∃g',(VRd tT_DFA true g' v r)∧Ext g0 w0 g' w'):=by
 unfold M.dfa_pruned at hM
 obtain ⟨cs2,cs3,cs4,rfl,hcs2,hcs3,hcs4⟩:=hcs1
 obtain ⟨v1,rfl,hRv1⟩:=hcs2
 obtain ⟨v2,rfl,hRv2⟩:=hcs3
 obtain ⟨v3,rfl,hRv3⟩:=hcs4
 have hs:=Sep.start hi
 refine calls_of_WP (args:=[Value.agg (List.toArray (α:=Value) [v1,v2,v3])]) Tryz.func96 rfl Tryz.ntmps96 rfl ?_
 have hds:(argEnv [Value.agg (List.toArray (α:=Value) [v1,v2,v3])]).ds=[]:=rfl
 refine WP_seq<|WP_region<|OW_box (v:=Value.agg (List.toArray (α:=Value) [v1,v2,v3])) rfl hs (zs:=[v1,v2,v3]) rfl rfl ?_
 intro b1 wv1 hs
 refine OW_alloc ti37 hs (zs:=[Value.slice none 0 0,Value.slice none 0 0,Value.slice none 0 0]) rfl rfl ?_
 intro b2 wv2 hs
 refine OW_nil<|WP_seq<|WP_region<|O (r_loadN (cs:=[v1,v2,v3]) ti37 rfl rfl (hs.cells (i:=1) rfl)) rfl ?_
 obtain ⟨ok1,hok1,hM⟩:=bindS hM
 refine C [Value.agg (List.toArray (α:=Value) [v1,v2,v3])] cf119 rfl (dfa_live_ok hok1 hs.imm (⟨[v1],[v2],[v3],rfl,⟨_,rfl,hRv1⟩,⟨_,rfl,hRv2⟩,⟨_,rfl,hRv3⟩⟩)) rfl ?_
 rintro v4 wv3 ⟨gg1,xs1,hvv4,hegg1⟩
 have hlegg1:=hegg1.ext.le hs.imm
 replace hs:=hs.callOwn hegg1
 simp only [List.cons_append,List.nil_append] at hs
 replace hRv1:=hRv1.mono hlegg1
 replace hRv2:=hRv2.mono hlegg1
 replace hRv3:=hRv3.mono hlegg1
 refine O (r_assign (v:=v4) rfl) rfl<|OW_nil<|WP_seq<|WP_region<|O (r_assign (v:=Value.slice none 0 0) rfl) rfl<|OW_nil ?_
 obtain ⟨xv115,hx118,hKhx118⟩:=bindS hM
 refine WP_cut (fun E w=>∃(gg20:Hp) (v249:Value) (xs314:List Value),E 1=Value.pointer (some ⟨b1,0,none⟩)∧E 2=Value.pointer (some ⟨b2,0,none⟩)∧E 4=v249∧E.ds=[]∧Hle gg1 gg20∧RowRel (tSl (tInt .i64)) gg20 xs314 xv115∧Go.Lx.Sep g0 w0 gg20 w [.row v249 34 (tSl (tInt .i64)).sz xv115.length xs314,Go.Lx.box b2 37 ([Value.slice none 0 0,Value.slice none 0 0,Value.slice none 0 0]),Go.Lx.box b1 37 ([v1,v2,v3])]) ?_ ?_
 ·have hM:=hx118
  have hagg1:=Hle.refl gg1
  refine WP_seq<|WP_region<|O (r_fieldAddr Tryz.underlying37 ti35 rfl rfl (by decide) rfl rfl) rfl<|O (r_load (v:=v2) ti35 rfl (hs.cell (i:=2) (o:=1) rfl rfl)) rfl ?_
  obtain ⟨a14,ca14,hva14⟩:=hRv2.shape
  refine O (r_lenSl (v:=v2) Tryz.underlying35 rfl hva14) rfl<|O (r_move (v:=Value.int .i64 0) rfl) rfl<|OW_nil<|WP_block ?_
  have hs:=hs.nilRow 34 (tSl (tInt .i64)).sz
  refine WP_loop (fun (st9:(List (List Int))×Int) E w=>match st9 with|(xv154,xv155)=>∃(gg27:Hp) (v315:Value) (xs404:List Value) (v314:Value) (xs403:List Value),E 1=Value.pointer (some ⟨b1,0,none⟩)∧E 2=Value.pointer (some ⟨b2,0,none⟩)∧E 3=v314∧E 4=v315∧E 13=v2∧E 14=Value.int .i64 (d1.Next.length:Int)∧E 15=Value.int .i64 xv155∧E.ds=[]∧Hle gg1 gg27∧RowRel (tSl (tInt .i64)) gg27 xs404 xv154∧RowRel tBool gg27 xs403 ok1∧Go.Lx.Sep g0 w0 gg27 w [.row v315 34 (tSl (tInt .i64)).sz xv154.length xs404,.row v314 4 tBool.sz ok1.length xs403,Go.Lx.box b2 37 ([Value.slice none 0 0,Value.slice none 0 0,Value.slice none 0 0]),Go.Lx.box b1 37 ([v1,v2,v3])]) hM ⟨gg1,(Value.slice none 0 0),[],v4,xs1,rfl,rfl,rfl,rfl,rfl,rfl,rfl,hds,(Hle.refl _),RowRel.nil,hvv4,hs⟩ ?_
  clear hs hM
  rintro ⟨xv154,xv155⟩ o22 E w hM ⟨gg27,v315,xs404,v314,xs403,hE1,hE2,hE3,hE4,hE13,hE14,hE15,hds,hlegg27,hrelxs404,hrelxs403,hs⟩
  obtain ⟨E,rfl⟩:=open7 (E:=E) hE1 hE2 hE3 hE4 hE13 hE14 hE15
  replace hRv2:=hRv2.mono hlegg27
  have hagg27:=Hle.refl gg27
  refine WP_seq<|WP_region<|O (r_lss rfl rfl) rfl<|OW_nil<|WP_seq ?_
  rcases condS hM with ⟨hc186,hM⟩|⟨hc186,hM⟩
  ·refine WP_true rfl hc186<|WP_skip ?_
   obtain ⟨next11,hx216,hKhx216⟩:=bindS hM
   refine WP_cut (fun E w=>∃(gg36:Hp) (v450:Value) (xs572:List Value) (v449:Value) (xs571:List Value),E 1=Value.pointer (some ⟨b1,0,none⟩)∧E 2=Value.pointer (some ⟨b2,0,none⟩)∧E 3=v449∧E 4=v450∧E 13=v2∧E 14=Value.int .i64 (d1.Next.length:Int)∧E 15=Value.int .i64 xv155∧E.ds=[]∧Hle gg27 gg36∧RowRel (tSl (tInt .i64)) gg36 xs572 next11∧RowRel tBool gg36 xs571 ok1∧Go.Lx.Sep g0 w0 gg36 w [.row v450 34 (tSl (tInt .i64)).sz next11.length xs572,.row v449 4 tBool.sz ok1.length xs571,Go.Lx.box b2 37 ([Value.slice none 0 0,Value.slice none 0 0,Value.slice none 0 0]),Go.Lx.box b1 37 ([v1,v2,v3])]) ?_ ?_
   ·have hM:=hx216
    refine WP_block<|WP_seq<|WP_region ?_
    obtain ⟨e408,he408,hM⟩:=bindS hM
    obtain ⟨b542,ob542,cb542,hvb542,cs412,hcs412,hcb542⟩:=hRv2.at he408
    obtain ⟨v451,rfl,hRv451⟩:=hcs412
    refine O (r_idxSl Tryz.underlying35 ti34 (v:=v2) rfl hvb542 rfl (idxL_some he408).1 (idxL_some he408).2.1) rfl<|O (r_loadEl (cs:=[v451]) ti34 rfl rfl (.inr rfl) (hcb542 _ hs.imm) (v:=v451) rfl) rfl<|O (r_assign (v:=v451) rfl) rfl<|OW_nil<|WP_seq<|WP_region<|O (r_move (v:=v451) rfl) rfl ?_
    obtain ⟨rv287,hrv287,hM⟩:=bindS hM
    refine C [v451] cf120 rfl (slices_Clone_int_int_ok hrv287 hs.imm hRv451) rfl ?_
    rintro v452 wv169 ⟨gg37,xs573,hvv452,hegg37⟩
    have hlegg37:=hegg37.ext.le hs.imm
    replace hs:=hs.callOwn hegg37
    simp only [List.cons_append,List.nil_append] at hs
    replace hrelxs404:=hrelxs404.mono hlegg37
    replace hrelxs403:=hrelxs403.mono hlegg37
    replace hagg27:=hagg27.trans hlegg37
    refine O (r_assign (v:=v452) rfl) rfl<|OW_nil ?_
    obtain ⟨rv300,hx226,hKhx226⟩:=bindS hM
    refine WP_cut (fun E w=>∃(v473:Value) (xs600:List Value) (v472:Value) (xs599:List Value) (v471:Value) (xs598:List Value),E 1=Value.pointer (some ⟨b1,0,none⟩)∧E 2=Value.pointer (some ⟨b2,0,none⟩)∧E 3=v471∧E 4=v472∧E 7=v473∧E 13=v2∧E 14=Value.int .i64 (d1.Next.length:Int)∧E 15=Value.int .i64 xv155∧E.ds=[]∧RowRel (tInt .i64) gg37 xs600 rv300∧RowRel (tSl (tInt .i64)) gg37 xs599 xv154∧RowRel tBool gg37 xs598 ok1∧Go.Lx.Sep g0 w0 gg37 w [.row v473 3 (tInt .i64).sz rv300.length xs600,.row v472 34 (tSl (tInt .i64)).sz xv154.length xs599,.row v471 4 tBool.sz ok1.length xs598,Go.Lx.box b2 37 ([Value.slice none 0 0,Value.slice none 0 0,Value.slice none 0 0]),Go.Lx.box b1 37 ([v1,v2,v3])]) ?_ ?_
    ·have hM:=hx226
     have hagg37:=Hle.refl gg37
     refine WP_seq<|WP_region<|O (r_move (v:=v452) rfl) rfl ?_
     obtain ⟨a26,ca26,hva26⟩:=hs.rowShape (i:=0) rfl
     refine O (r_lenSl (v:=v452) Tryz.underlying34 rfl hva26) rfl<|O (r_move (v:=Value.int .i64 0) rfl) rfl<|OW_nil<|WP_block<|WP_loop (fun (st9:(List Int)×Int) E w=>match st9 with|(rv305,xv224)=>∃(v482:Value) (xs611:List Value) (v481:Value) (xs610:List Value) (v480:Value) (xs609:List Value),E 1=Value.pointer (some ⟨b1,0,none⟩)∧E 2=Value.pointer (some ⟨b2,0,none⟩)∧E 3=v480∧E 4=v481∧E 7=v482∧E 13=v2∧E 14=Value.int .i64 (d1.Next.length:Int)∧E 15=Value.int .i64 xv155∧E 21=v482∧E 22=Value.int .i64 (rv287.length:Int)∧E 23=Value.int .i64 xv224∧E.ds=[]∧RowRel (tInt .i64) gg37 xs611 rv305∧RowRel (tSl (tInt .i64)) gg37 xs610 xv154∧RowRel tBool gg37 xs609 ok1∧Go.Lx.Sep g0 w0 gg37 w [.row v482 3 (tInt .i64).sz rv305.length xs611,.row v481 34 (tSl (tInt .i64)).sz xv154.length xs610,.row v480 4 tBool.sz ok1.length xs609,Go.Lx.box b2 37 ([Value.slice none 0 0,Value.slice none 0 0,Value.slice none 0 0]),Go.Lx.box b1 37 ([v1,v2,v3])]) hM ⟨v452,xs573,v315,xs404,v314,xs403,rfl,rfl,rfl,rfl,rfl,rfl,rfl,rfl,rfl,rfl,rfl,hds,hvv452,hrelxs404,hrelxs403,hs⟩ ?_
     clear hs hM
     rintro ⟨rv305,xv224⟩ o26 E w hM ⟨v482,xs611,v481,xs610,v480,xs609,hE1,hE2,hE3,hE4,hE7,hE13,hE14,hE15,hE21,hE22,hE23,hds,hrelxs611,hrelxs610,hrelxs609,hs⟩
     obtain ⟨E,rfl⟩:=open8 (E:=E) hE1 hE2 hE3 hE4 hE7 hE13 hE14 hE15
     obtain ⟨E,rfl⟩:=open3 (E:=E) hE21 hE22 hE23
     refine WP_seq<|WP_region<|O (r_lss rfl rfl) rfl<|OW_nil<|WP_seq ?_
     rcases condS hM with ⟨hc220,hM⟩|⟨hc220,hM⟩
     ·refine WP_true rfl hc220<|WP_skip ?_
      obtain ⟨rv311,hx234,hKhx234⟩:=bindS hM
      refine WP_cut (fun E w=>∃(v491:Value) (xs623:List Value) (v490:Value) (xs622:List Value) (v489:Value) (xs621:List Value),E 1=Value.pointer (some ⟨b1,0,none⟩)∧E 2=Value.pointer (some ⟨b2,0,none⟩)∧E 3=v489∧E 4=v490∧E 7=v491∧E 13=v2∧E 14=Value.int .i64 (d1.Next.length:Int)∧E 15=Value.int .i64 xv155∧E 21=v491∧E 22=Value.int .i64 (rv287.length:Int)∧E 23=Value.int .i64 xv224∧E.ds=[]∧RowRel (tInt .i64) gg37 xs623 rv311∧RowRel (tSl (tInt .i64)) gg37 xs622 xv154∧RowRel tBool gg37 xs621 ok1∧Go.Lx.Sep g0 w0 gg37 w [.row v491 3 (tInt .i64).sz rv311.length xs623,.row v490 34 (tSl (tInt .i64)).sz xv154.length xs622,.row v489 4 tBool.sz ok1.length xs621,Go.Lx.box b2 37 ([Value.slice none 0 0,Value.slice none 0 0,Value.slice none 0 0]),Go.Lx.box b1 37 ([v1,v2,v3])]) ?_ ?_
      ·have hM:=hx234
       refine WP_block<|WP_seq<|WP_region<|O (r_move (v:=Value.int .i64 xv224) rfl) rfl ?_
       obtain ⟨e442,he442,hM⟩:=bindS hM
       obtain ⟨b587,cb587,hvb587,cs446,hcs446,hcb587⟩:=hs.rowEl (i:=0) rfl hrelxs611 he442
       have hcs446:cs446=_:=hcs446; subst hcs446
       refine O (r_idxSl Tryz.underlying34 ti3 (v:=v482) rfl hvb587 rfl (idxL_some he442).1 (idxL_some he442).2.1) rfl<|O (r_loadEl (cs:=[Value.int .i64 e442]) ti3 rfl rfl (.inr rfl) (hcb587 _ (hs.at (i:=0) rfl)) (v:=Value.int .i64 e442) rfl) rfl<|O (r_assign (v:=Value.int .i64 xv224) rfl) rfl<|O (r_assign (v:=Value.int .i64 e442) rfl) rfl<|OW_nil ?_
       obtain ⟨xv229,hx235,hKhx235⟩:=bindS hM
       refine WP_cut (fun E w=>E 1=Value.pointer (some ⟨b1,0,none⟩)∧E 2=Value.pointer (some ⟨b2,0,none⟩)∧E 3=v480∧E 4=v481∧E 7=v482∧E 8=Value.int .i64 xv224∧E 13=v2∧E 14=Value.int .i64 (d1.Next.length:Int)∧E 15=Value.int .i64 xv155∧E 21=v482∧E 22=Value.int .i64 (rv287.length:Int)∧E 23=Value.int .i64 xv224∧E 36=Value.bool xv229∧E.ds=[]∧Go.Lx.Sep g0 w0 gg37 w [.row v482 3 (tInt .i64).sz rv305.length xs611,.row v481 34 (tSl (tInt .i64)).sz xv154.length xs610,.row v480 4 tBool.sz ok1.length xs609,Go.Lx.box b2 37 ([Value.slice none 0 0,Value.slice none 0 0,Value.slice none 0 0]),Go.Lx.box b1 37 ([v1,v2,v3])]) ?_ ?_
       ·have hM:=hx235
        refine WP_region<|O (r_move (v:=Value.int .i64 e442) rfl) rfl<|O (r_geq rfl rfl) rfl<|O (r_move (v:=Value.bool (decide (0≤e442))) rfl) rfl ?_
        rcases condS hM with ⟨hg288,hM⟩|⟨hg288,hM⟩
        ·refine OG rfl rfl rfl (by rw [hg288]; rfl) (r_move (v:=v480) rfl) rfl<|OG rfl rfl rfl (by rw [hg288]; rfl) (r_move (v:=Value.int .i64 e442) rfl) rfl ?_
         obtain ⟨e444,he444,hM⟩:=bindS hM
         obtain ⟨b589,cb589,hvb589,cs448,hcs448,hcb589⟩:=hs.rowEl (i:=2) rfl hrelxs609 he444
         have hcs448:cs448=_:=hcs448; subst hcs448
         refine OG rfl rfl rfl (by rw [hg288]; rfl) (r_idxSl Tryz.underlying65 ti4 (v:=v480) rfl hvb589 rfl (idxL_some he444).1 (idxL_some he444).2.1) rfl<|OG rfl rfl rfl (by rw [hg288]; rfl) (r_loadEl (cs:=[Value.bool e444]) ti4 rfl rfl (.inr rfl) (hcb589 _ (hs.at (i:=2) rfl)) (v:=Value.bool e444) rfl) rfl<|OG rfl rfl rfl (by rw [hg288]; rfl) (r_not rfl) rfl<|O (r_pickT (v:=Value.bool (!e444)) rfl hg288 rfl) rfl<|OW_nil ?_
         obtain rfl:=Option.some.inj hM
         exact ⟨rfl,rfl,rfl,rfl,rfl,rfl,rfl,rfl,rfl,rfl,rfl,rfl,rfl,hds,hs⟩
        ·refine OK rfl rfl rfl (by rw [hg288]; rfl) rfl<|OK rfl rfl rfl (by rw [hg288]; rfl) rfl<|OK rfl rfl rfl (by rw [hg288]; rfl) rfl<|OK rfl rfl rfl (by rw [hg288]; rfl) rfl<|OK rfl rfl rfl (by rw [hg288]; rfl) rfl<|O (r_pickF (v:=Value.bool false) rfl hg288 rfl) rfl<|OW_nil ?_
         obtain rfl:=Option.some.inj hM
         exact ⟨rfl,rfl,rfl,rfl,rfl,rfl,rfl,rfl,rfl,rfl,rfl,rfl,rfl,hds,hs⟩
       ·clear hs
        rintro E w ⟨hE1,hE2,hE3,hE4,hE7,hE8,hE13,hE14,hE15,hE21,hE22,hE23,hE36,hds,hs⟩
        have hM:=hKhx235
        obtain ⟨E,rfl⟩:=open8 (E:=E) hE1 hE2 hE3 hE4 hE7 hE8 hE13 hE14
        obtain ⟨E,rfl⟩:=open5 (E:=E) hE15 hE21 hE22 hE23 hE36
        rcases condS hM with ⟨hc222,hM⟩|⟨hc222,hM⟩
        ·refine WP_true rfl hc222<|WP_region<|O (r_move (v:=v482) rfl) rfl<|O (r_move (v:=Value.int .i64 xv224) rfl) rfl ?_
         obtain ⟨rv312,hrv312,hM⟩:=bindS hM
         obtain ⟨b590,cb590,hvb590,wv181,xs624,hstb590,hrelb590,hsb590⟩:=hs.rowPut (i:=0) rfl hrelxs611 hrv312 (cs:=[Value.int .i64 (-1)]) rfl
         refine O (r_idxSl Tryz.underlying34 ti3 (v:=v482) rfl hvb590 rfl (setL_some hrv312).1 (setL_some hrv312).2.1) rfl<|O0 (r_store ti3 rfl (v:=Value.int .i64 (-1)) rfl rfl hstb590) ?_
         have hs:=hsb590
         refine OW_nil ?_
         obtain rfl:=Option.some.inj hM
         exact ⟨v482,xs624,v481,xs610,v480,xs609,rfl,rfl,rfl,rfl,rfl,rfl,rfl,rfl,rfl,rfl,rfl,hds,hrelb590,hrelxs610,hrelxs609,hs⟩
        ·refine WP_false rfl hc222<|WP_skip ?_
         obtain rfl:=Option.some.inj hM
         exact ⟨v482,xs611,v481,xs610,v480,xs609,rfl,rfl,rfl,rfl,rfl,rfl,rfl,rfl,rfl,rfl,rfl,hds,hrelxs611,hrelxs610,hrelxs609,hs⟩
      ·clear hs
       rintro E w ⟨v491,xs623,v490,xs622,v489,xs621,hE1,hE2,hE3,hE4,hE7,hE13,hE14,hE15,hE21,hE22,hE23,hds,hrelxs623,hrelxs622,hrelxs621,hs⟩
       have hM:=hKhx234
       obtain ⟨E,rfl⟩:=open8 (E:=E) hE1 hE2 hE3 hE4 hE7 hE13 hE14 hE15
       obtain ⟨E,rfl⟩:=open3 (E:=E) hE21 hE22 hE23
       refine WP_region ?_
       obtain ⟨t77,ht77,hM⟩:=bindS hM
       refine O (r_addM rfl rfl ht77) rfl<|O (r_move (v:=Value.int .i64 t77) rfl) rfl<|OW_nil ?_
       obtain rfl:=Option.some.inj hM
       exact ⟨v491,xs623,v490,xs622,v489,xs621,rfl,rfl,rfl,rfl,rfl,rfl,rfl,rfl,rfl,rfl,rfl,hds,hrelxs623,hrelxs622,hrelxs621,hs⟩
     ·refine WP_false rfl hc220<|WP_exit ?_
      obtain rfl:=Option.some.inj hM
      refine fun hr=>?_
      have hM:=congrArg some hr
      obtain rfl:=Option.some.inj hM
      exact ⟨v482,xs611,v481,xs610,v480,xs609,rfl,rfl,rfl,rfl,rfl,rfl,rfl,rfl,hds,hrelxs611,hrelxs610,hrelxs609,hs⟩
    ·clear hs
     rintro E w ⟨v473,xs600,v472,xs599,v471,xs598,hE1,hE2,hE3,hE4,hE7,hE13,hE14,hE15,hds,hrelxs600,hrelxs599,hrelxs598,hs⟩
     have hM:=hKhx226
     obtain ⟨E,rfl⟩:=open8 (E:=E) hE1 hE2 hE3 hE4 hE7 hE13 hE14 hE15
     refine WP_region<|O (r_move (v:=v472) rfl) rfl<|O (r_move (v:=v473) rfl) rfl ?_
     obtain ⟨gg38,hlegg38,hRgg38,hs⟩:=hs.relRow (i:=0) rfl hrelxs600
     replace hrelxs599:=hrelxs599.mono hlegg38
     replace hrelxs598:=hrelxs598.mono hlegg38
     replace hagg27:=hagg27.trans hlegg38
     refine OW_lit (τ:=(tSl (tInt .i64))) [v473] [rv300] Tryz.underlying35 ti34 (by decide) hs rfl rfl rfl ⟨⟨v473,cells_one (by obtain ⟨_,_,h9⟩:=hRgg38.shape; rw [h9]; rfl),hRgg38⟩,trivial⟩ rfl ?_
     intro v492 wv182 xs625 hrelxs625 hs
     obtain ⟨next12,hnext12,hM⟩:=bindS hM
     refine OW_append Tryz.underlying35 ti34 rfl (by decide) (by decide) hs (i:=1) rfl hrelxs599 (v:=v472) rfl (u:=v492) rfl (hs.rowSrc (i:=0) rfl) hrelxs625 hnext12 rfl ?_
     intro v493 wv183 xs626 hrelxs626 hs
     refine O (r_assign (v:=v493) rfl) rfl<|OW_nil ?_
     obtain rfl:=Option.some.inj hM
     exact ⟨gg38,v493,xs626,v471,xs598,rfl,rfl,rfl,rfl,rfl,rfl,rfl,hds,hagg27,hrelxs626,hrelxs598,(hs.sub (.cons _ (.cons_cons _ (.cons_cons _ (.cons_cons _ (.cons_cons _ .slnil))))))⟩
   ·clear hs
    rintro E w ⟨gg36,v450,xs572,v449,xs571,hE1,hE2,hE3,hE4,hE13,hE14,hE15,hds,hlegg36,hrelxs572,hrelxs571,hs⟩
    have hM:=hKhx216
    obtain ⟨E,rfl⟩:=open7 (E:=E) hE1 hE2 hE3 hE4 hE13 hE14 hE15
    replace hlegg27:=hlegg27.trans hlegg36
    refine WP_region ?_
    obtain ⟨t78,ht78,hM⟩:=bindS hM
    refine O (r_addM rfl rfl ht78) rfl<|O (r_move (v:=Value.int .i64 t78) rfl) rfl<|OW_nil ?_
    obtain rfl:=Option.some.inj hM
    exact ⟨gg36,v450,xs572,v449,xs571,rfl,rfl,rfl,rfl,rfl,rfl,rfl,hds,hlegg27,hrelxs572,hrelxs571,hs⟩
  ·refine WP_false rfl hc186<|WP_exit ?_
   obtain rfl:=Option.some.inj hM
   refine fun hr=>?_
   have hM:=congrArg some hr
   obtain rfl:=Option.some.inj hM
   exact ⟨gg27,v315,xs404,rfl,rfl,rfl,hds,hlegg27,hrelxs404,(hs.sub (.cons_cons _ (.cons _ (.cons_cons _ (.cons_cons _ .slnil)))))⟩
 ·clear hs
  rintro E w ⟨gg20,v249,xs314,hE1,hE2,hE4,hds,hlegg20,hrelxs314,hs⟩
  have hM:=hKhx118
  obtain ⟨E,rfl⟩:=open3 (E:=E) hE1 hE2 hE4
  replace hRv1:=hRv1.mono hlegg20
  replace hRv3:=hRv3.mono hlegg20
  refine WP_seq<|WP_region<|O (r_fieldAddr Tryz.underlying37 ti34 rfl rfl (by decide) rfl rfl) rfl<|O (r_load (v:=v1) ti34 rfl (hs.cell (i:=2) (o:=0) rfl rfl)) rfl<|O (r_move (v:=v249) rfl) rfl<|O (r_fieldAddr Tryz.underlying37 ti34 rfl rfl (by decide) rfl rfl) rfl<|O (r_load (v:=v3) ti34 rfl (hs.cell (i:=2) (o:=2) rfl rfl)) rfl ?_
  have ho1:=one_of_shape (hs.rowShape (i:=0) rfl)
  refine O (r_build (vs:=[(0,v1),(1,v249),(2,v3)]) (cs:=[v1,v249,v3]) rfl (built_fill [(0,1),(1,1),(2,1)] [Value.slice none 0 0,Value.slice none 0 0,Value.slice none 0 0] (fun _=>by kernel_rfl) (fill_step ([]) ([Value.slice none 0 0]) ([Value.slice none 0 0,Value.slice none 0 0]) ([v1]) rfl rfl (cells_one (by obtain ⟨_,_,h9⟩:=hRv1.shape; rw [h9]; rfl)) rfl rfl rfl<|fill_step ([v1]) ([Value.slice none 0 0]) ([Value.slice none 0 0]) ([v249]) rfl rfl (cells_one ho1) rfl rfl rfl<|fill_step ([v1,v249]) ([Value.slice none 0 0]) ([]) ([v3]) rfl rfl (cells_one (by obtain ⟨_,_,h9⟩:=hRv3.shape; rw [h9]; rfl)) rfl rfl rfl<|fill_done))) rfl<|OW_storeAll ti37 hs (i:=1) rfl rfl (v:=Value.agg (List.toArray (α:=Value) [v1,v249,v3])) rfl (vs:=[v1,v249,v3]) rfl (one_cons (by obtain ⟨_,_,h9⟩:=hRv1.shape; rw [h9]; rfl) (one_cons (by obtain ⟨_,_,h9⟩:=hs.rowShape (i:=0) rfl; rw [h9]; rfl) (one_cons (by obtain ⟨_,_,h9⟩:=hRv3.shape; rw [h9]; rfl) one_nil))) rfl rfl ?_
  intro wv184 hs
  refine OW_nil<|WP_ret ?_
  obtain rfl:=Option.some.inj hM
  obtain ⟨gg39,hlegg39,hRgg39,hs⟩:=hs.relRow (i:=0) rfl hrelxs314
  replace hRv1:=hRv1.mono hlegg39
  replace hRv3:=hRv3.mono hlegg39
  refine FL_nil hds ?_
  exact ⟨_,res1 Tryz.results96 (rv_cells (vs:=[v1,v249,v3]) ti37 rfl rfl (hs.cells (i:=0) rfl)),gg39,⟨[v1,v249,v3],rfl,⟨[v1],[v249],[v3],rfl,⟨_,rfl,hRv1⟩,⟨_,rfl,hRgg39⟩,⟨_,rfl,hRv3⟩⟩⟩,hs.ext⟩
set_option maxRecDepth 100000 in
theorem dfa_wide_ok {l1:(List Int)} {r:Str} (hM:M.dfa_wide l1=some r) {g0:Hp} {w0:World} (hi:Imm g0 w0) {v1:Value} (hRv1:RdS (tInt .i64) g0 v1 l1) :
    CallsV Tryz.prog 121 #[v1] w0 (fun v w'=>∃g',(VRd tStr false g' v r)∧Ext g0 w0 g' w'):=by
 unfold M.dfa_wide at hM
 have hs:=Sep.start hi
 refine calls_of_WP (args:=[v1]) Tryz.func121 rfl Tryz.ntmps121 rfl ?_
 have hds:(argEnv [v1]).ds=[]:=rfl
 refine WP_seq<|WP_region<|O (r_assign (v:=encS []) rfl) rfl<|OW_nil<|WP_seq<|WP_region<|O (r_assign (v:=Value.slice none 0 0) rfl) rfl<|OW_nil ?_
 obtain ⟨xv46,hx4,hKhx4⟩:=bindS hM
 refine WP_cut (fun E w=>∃(v62:Value) (xs63:List Value),E 3=v62∧E.ds=[]∧RowRel (tInt .u8) g0 xs63 xv46∧Go.Lx.Sep g0 w0 g0 w [.row v62 5 (tInt .u8).sz xv46.length xs63]) ?_ ?_
 ·have hM:=hx4
  have hag0:=Hle.refl g0
  refine WP_seq<|WP_region<|O (r_move (v:=v1) rfl) rfl ?_
  obtain ⟨a2,ca2,hva2⟩:=hRv1.shape
  refine O (r_lenSl (v:=v1) Tryz.underlying34 rfl hva2) rfl<|O (r_move (v:=Value.int .i64 0) rfl) rfl<|OW_nil<|WP_block ?_
  have hs:=hs.nilRow 5 (tInt .u8).sz
  refine WP_loop (fun (st9:(List Int)×Int) E w=>match st9 with|(xv62,xv63)=>∃(v83:Value) (xs86:List Value),E 3=v83∧E 7=v1∧E 8=Value.int .i64 (l1.length:Int)∧E 9=Value.int .i64 xv63∧E.ds=[]∧RowRel (tInt .u8) g0 xs86 xv62∧Go.Lx.Sep g0 w0 g0 w [.row v83 5 (tInt .u8).sz xv62.length xs86]) hM ⟨(Value.slice none 0 0),[],rfl,rfl,rfl,rfl,hds,RowRel.nil,hs⟩ ?_
  clear hs hM
  rintro ⟨xv62,xv63⟩ o12 E w hM ⟨v83,xs86,hE3,hE7,hE8,hE9,hds,hrelxs86,hs⟩
  obtain ⟨E,rfl⟩:=open4 (E:=E) hE3 hE7 hE8 hE9
  refine WP_seq<|WP_region<|O (r_lss rfl rfl) rfl<|OW_nil<|WP_seq ?_
  rcases condS hM with ⟨hc36,hM⟩|⟨hc36,hM⟩
  ·refine WP_true rfl hc36<|WP_skip ?_
   obtain ⟨xv85,hx7,hKhx7⟩:=bindS hM
   refine WP_cut (fun E w=>∃(v113:Value) (xs116:List Value),E 3=v113∧E 7=v1∧E 8=Value.int .i64 (l1.length:Int)∧E 9=Value.int .i64 xv63∧E.ds=[]∧RowRel (tInt .u8) g0 xs116 xv85∧Go.Lx.Sep g0 w0 g0 w [.row v113 5 (tInt .u8).sz xv85.length xs116]) ?_ ?_
   ·have hM:=hx7
    refine WP_block<|WP_seq<|WP_region ?_
    obtain ⟨e12,he12,hM⟩:=bindS hM
    obtain ⟨b41,ob41,cb41,hvb41,cs12,hcs12,hcb41⟩:=hRv1.at he12
    have hcs12:cs12=_:=hcs12; subst hcs12
    refine O (r_idxSl Tryz.underlying34 ti3 (v:=v1) rfl hvb41 rfl (idxL_some he12).1 (idxL_some he12).2.1) rfl<|O (r_loadEl (cs:=[Value.int .i64 e12]) ti3 rfl rfl (.inr rfl) (hcb41 _ hs.imm) (v:=Value.int .i64 e12) rfl) rfl<|O (r_assign (v:=Value.int .i64 e12) rfl) rfl<|OW_nil<|WP_seq<|WP_region<|O (r_move (v:=Value.int .i64 0) rfl) rfl<|OW_nil<|WP_block<|WP_loop (fun (st9:(List Int)×Int) E w=>match st9 with|(xv88,xv89)=>∃(v117:Value) (xs120:List Value),E 3=v117∧E 5=Value.int .i64 e12∧E 7=v1∧E 8=Value.int .i64 (l1.length:Int)∧E 9=Value.int .i64 xv63∧E 13=Value.int .i64 xv89∧E.ds=[]∧RowRel (tInt .u8) g0 xs120 xv88∧Go.Lx.Sep g0 w0 g0 w [.row v117 5 (tInt .u8).sz xv88.length xs120]) hM ⟨v83,xs86,rfl,rfl,rfl,rfl,rfl,rfl,hds,hrelxs86,hs⟩ ?_
    clear hs hM
    rintro ⟨xv88,xv89⟩ o14 E w hM ⟨v117,xs120,hE3,hE5,hE7,hE8,hE9,hE13,hds,hrelxs120,hs⟩
    obtain ⟨E,rfl⟩:=open6 (E:=E) hE3 hE5 hE7 hE8 hE9 hE13
    refine WP_seq<|WP_region<|O (r_lss rfl rfl) rfl<|OW_nil<|WP_seq ?_
    rcases condS hM with ⟨hc42,hM⟩|⟨hc42,hM⟩
    ·refine WP_true rfl hc42<|WP_skip<|WP_seq<|WP_block<|WP_seq<|WP_region<|O (r_move (v:=Value.int .i64 xv89) rfl) rfl<|O (r_assign (v:=Value.int .i64 xv89) rfl) rfl<|OW_nil<|WP_region<|O (r_move (v:=v117) rfl) rfl<|O (r_move (v:=Value.int .i64 e12) rfl) rfl<|O (r_move (v:=Value.int .i64 xv89) rfl) rfl ?_
     obtain ⟨t111,ht111,hM⟩:=bindS hM
     refine O (r_mulM rfl rfl ht111) rfl ?_
     obtain ⟨t112,ht112,hM⟩:=bindS hM
     refine O (r_shrM rfl rfl ht112) rfl<|O (r_conv Tryz.underlying3 Tryz.underlying5 rfl) rfl<|OW_lit (τ:=(tInt .u8)) [Value.int .u8 (IntKind.u8.wrap t112)] [(IntKind.u8.wrap t112)] Tryz.underlying98 ti5 (by decide) hs rfl rfl rfl ⟨rfl,trivial⟩ rfl ?_
     intro v121 wv71 xs124 hrelxs124 hs
     obtain ⟨b44,hb44,hM⟩:=bindS hM
     refine OW_append Tryz.underlying98 ti5 rfl (by decide) (by decide) hs (i:=1) rfl hrelxs120 (v:=v117) rfl (u:=v121) rfl (hs.rowSrc (i:=0) rfl) hrelxs124 hb44 rfl ?_
     intro v122 wv72 xs125 hrelxs125 hs
     refine O (r_assign (v:=v122) rfl) rfl<|OW_nil<|WP_region ?_
     obtain ⟨t113,ht113,hM⟩:=bindS hM
     refine O (r_addM rfl rfl ht113) rfl<|O (r_move (v:=Value.int .i64 t113) rfl) rfl<|OW_nil ?_
     obtain rfl:=Option.some.inj hM
     exact ⟨v122,xs125,rfl,rfl,rfl,rfl,rfl,rfl,hds,hrelxs125,(hs.sub (.cons _ (.cons_cons _ .slnil)))⟩
    ·refine WP_false rfl hc42<|WP_exit ?_
     obtain rfl:=Option.some.inj hM
     refine fun hr=>?_
     have hM:=congrArg some hr
     obtain rfl:=Option.some.inj hM
     exact ⟨v117,xs120,rfl,rfl,rfl,rfl,hds,hrelxs120,hs⟩
   ·clear hs
    rintro E w ⟨v113,xs116,hE3,hE7,hE8,hE9,hds,hrelxs116,hs⟩
    have hM:=hKhx7
    obtain ⟨E,rfl⟩:=open4 (E:=E) hE3 hE7 hE8 hE9
    refine WP_region ?_
    obtain ⟨t114,ht114,hM⟩:=bindS hM
    refine O (r_addM rfl rfl ht114) rfl<|O (r_move (v:=Value.int .i64 t114) rfl) rfl<|OW_nil ?_
    obtain rfl:=Option.some.inj hM
    exact ⟨v113,xs116,rfl,rfl,rfl,rfl,hds,hrelxs116,hs⟩
  ·refine WP_false rfl hc36<|WP_exit ?_
   obtain rfl:=Option.some.inj hM
   refine fun hr=>?_
   have hM:=congrArg some hr
   obtain rfl:=Option.some.inj hM
   exact ⟨v83,xs86,rfl,hds,hrelxs86,hs⟩
 ·clear hs
  rintro E w ⟨v62,xs63,hE3,hds,hrelxs63,hs⟩
  have hM:=hKhx4
  obtain ⟨E,rfl⟩:=open1 (E:=E) hE3
  refine WP_seq<|WP_region<|O (r_move (v:=v62) rfl) rfl<|O (r_toStr (l:=xv46) Tryz.underlying98 Tryz.underlying5 Tryz.underlying9 (v:=v62) rfl (hs.rowSrc (i:=0) rfl) hrelxs63) rfl<|O (r_assign (v:=encS (toStr xv46)) rfl) rfl<|OW_nil<|WP_ret ?_
  obtain rfl:=Option.some.inj hM
  refine FL_nil hds ?_
  exact ⟨_,res1 Tryz.results121 (rv_tmp (v:=encS (toStr xv46)) rfl),g0,⟨[encS (toStr xv46)],rfl,rfl⟩,hs.ext⟩
set_option maxRecDepth 100000 in
theorem dfa_partition_ok {p1:T_DFA} {r:(List Int)} (hM:M.dfa_partition p1=some r) {g0:Hp} {w0:World} (hi:Imm g0 w0) {cs1:List Value} (hcs1:tT_DFA.rel g0 cs1 p1) :
    CallsV Tryz.prog 98 #[Value.agg cs1.toArray] w0 (fun v w'=>∃g' y0,(RowRel (tInt .i64) g' y0 r)∧Sep g0 w0 g' w' [.row v 3 (tInt .i64).sz r.length y0]):=by
 unfold M.dfa_partition at hM
 obtain ⟨cs2,cs3,cs4,rfl,hcs2,hcs3,hcs4⟩:=hcs1
 obtain ⟨v1,rfl,hRv1⟩:=hcs2
 obtain ⟨v2,rfl,hRv2⟩:=hcs3
 obtain ⟨v3,rfl,hRv3⟩:=hcs4
 have hs:=Sep.start hi
 refine calls_of_WP (args:=[Value.agg (List.toArray (α:=Value) [v1,v2,v3])]) Tryz.func98 rfl Tryz.ntmps98 rfl ?_
 have hds:(argEnv [Value.agg (List.toArray (α:=Value) [v1,v2,v3])]).ds=[]:=rfl
 refine WP_seq<|WP_region<|OW_box (v:=Value.agg (List.toArray (α:=Value) [v1,v2,v3])) rfl hs (zs:=[v1,v2,v3]) rfl rfl ?_
 intro b1 wv1 hs
 refine O (r_assign (v:=Value.slice none 0 0) rfl) rfl<|OW_nil<|WP_seq<|WP_region<|O (r_fieldAddr Tryz.underlying37 ti35 rfl rfl (by decide) rfl rfl) rfl<|O (r_load (v:=v2) ti35 rfl (hs.cell (i:=0) (o:=1) rfl rfl)) rfl ?_
 obtain ⟨a1,ca1,hva1⟩:=hRv2.shape
 refine O (r_lenSl (v:=v2) Tryz.underlying35 rfl hva1) rfl ?_
 obtain ⟨l1,hl1,hM⟩:=bindS hM
 refine OW_make (τ:=(tInt .i64)) (zc:=[Value.int .i64 0]) (zx:=0) Tryz.underlying34 ti3 rfl rfl (by decide) hs rfl rfl hl1 rfl ?_
 intro v4 wv2 xs1 hrelxs1 hs
 refine O (r_assign (v:=v4) rfl) rfl<|OW_nil<|WP_seq<|WP_region<|O (r_assign (v:=Value.int .i64 0) rfl) rfl<|OW_nil<|WP_block ?_
 have hag0:=Hle.refl g0
 refine WP_loop (fun (st9:(List Int)×Int) E w=>match st9 with|(l11,xv176)=>∃(gg135:Hp) (v848:Value) (xs809:List Value),E 1=Value.pointer (some ⟨b1,0,none⟩)∧E 3=v848∧E 4=Value.int .i64 xv176∧E.ds=[]∧Hle g0 gg135∧RowRel (tInt .i64) gg135 xs809 l11∧Go.Lx.Sep g0 w0 gg135 w [.row v848 3 (tInt .i64).sz l11.length xs809,Go.Lx.box b1 37 ([v1,v2,v3])]) hM ⟨g0,v4,xs1,rfl,rfl,rfl,hds,(Hle.refl _),hrelxs1,hs⟩ ?_
 clear hs hM
 rintro ⟨l11,xv176⟩ o53 E w hM ⟨gg135,v848,xs809,hE1,hE3,hE4,hds,hlegg135,hrelxs809,hs⟩
 obtain ⟨E,rfl⟩:=open3 (E:=E) hE1 hE3 hE4
 replace hRv2:=hRv2.mono hlegg135
 replace hRv3:=hRv3.mono hlegg135
 have hagg135:=Hle.refl gg135
 refine WP_block<|WP_seq<|WP_region<|OW_makeMap hs rfl ?_
 intro b676 wv1327 hs
 have hmb676:MRel encS (Value.int .i64) #[] 0 []:=mrel_nil
 refine O (r_assign (v:=Value.map (some b676)) rfl) rfl<|OW_nil<|WP_seq<|WP_region<|O (r_move (v:=v848) rfl) rfl ?_
 obtain ⟨a56,ca56,hva56⟩:=hs.rowShape (i:=1) rfl
 refine O (r_lenSl (v:=v848) Tryz.underlying34 rfl hva56) rfl ?_
 obtain ⟨l21,hl21,hM⟩:=bindS hM
 refine OW_make (τ:=(tInt .i64)) (zc:=[Value.int .i64 0]) (zx:=0) Tryz.underlying34 ti3 rfl rfl (by decide) hs rfl rfl hl21 rfl ?_
 intro v1692 wv1328 xs1617 hrelxs1617 hs
 refine O (r_assign (v:=v1692) rfl) rfl<|OW_nil ?_
 obtain ⟨⟨m63,l25⟩,hx258,hKhx258⟩:=bindS hM
 refine WP_cut (fun E w=>∃(gg336:Hp) (v2113:Value) (xs2020:List Value) (es123:Array MapEntry) (ck123:Nat),E 1=Value.pointer (some ⟨b1,0,none⟩)∧E 4=Value.int .i64 xv176∧E 5=Value.map (some b676)∧E 6=v2113∧E.ds=[]∧Hle gg135 gg336∧RowRel (tInt .i64) gg336 xs2020 l25∧MRel encS (Value.int .i64) es123 ck123 m63∧Go.Lx.Sep g0 w0 gg336 w [.row v2113 3 (tInt .i64).sz l25.length xs2020,.obj b676 (.map es123 ck123),Go.Lx.box b1 37 ([v1,v2,v3])]) ?_ ?_
 ·have hM:=hx258
  refine WP_seq<|WP_region<|O (r_fieldAddr Tryz.underlying37 ti35 rfl rfl (by decide) rfl rfl) rfl<|O (r_load (v:=v2) ti35 rfl (hs.cell (i:=3) (o:=1) rfl rfl)) rfl ?_
  obtain ⟨a70,ca70,hva70⟩:=hRv2.shape
  refine O (r_lenSl (v:=v2) Tryz.underlying35 rfl hva70) rfl<|O (r_move (v:=Value.int .i64 0) rfl) rfl<|OW_nil<|WP_block<|WP_loop (fun (st9:(List (Str×Int))×(List Int)×Int) E w=>match st9 with|(m68,l27,xv468)=>∃(gg359:Hp) (v2255:Value) (xs2156:List Value) (es132:Array MapEntry) (ck132:Nat) (v2254:Value) (xs2155:List Value),E 1=Value.pointer (some ⟨b1,0,none⟩)∧E 3=v2254∧E 4=Value.int .i64 xv176∧E 5=Value.map (some b676)∧E 6=v2255∧E 23=v2∧E 24=Value.int .i64 (p1.Next.length:Int)∧E 25=Value.int .i64 xv468∧E.ds=[]∧Hle gg135 gg359∧RowRel (tInt .i64) gg359 xs2156 l27∧MRel encS (Value.int .i64) es132 ck132 m68∧RowRel (tInt .i64) gg359 xs2155 l11∧Go.Lx.Sep g0 w0 gg359 w [.row v2255 3 (tInt .i64).sz l27.length xs2156,.obj b676 (.map es132 ck132),.row v2254 3 (tInt .i64).sz l11.length xs2155,Go.Lx.box b1 37 ([v1,v2,v3])]) hM ⟨gg135,v1692,xs1617,#[],0,v848,xs809,rfl,rfl,rfl,rfl,rfl,rfl,rfl,rfl,hds,(Hle.refl _),hrelxs1617,hmb676,hrelxs809,hs⟩ ?_
  clear hs hM
  rintro ⟨m68,l27,xv468⟩ o75 E w hM ⟨gg359,v2255,xs2156,es132,ck132,v2254,xs2155,hE1,hE3,hE4,hE5,hE6,hE23,hE24,hE25,hds,hlegg359,hrelxs2156,hmes132,hrelxs2155,hs⟩
  obtain ⟨E,rfl⟩:=open8 (E:=E) hE1 hE3 hE4 hE5 hE6 hE23 hE24 hE25
  replace hRv2:=hRv2.mono hlegg359
  replace hRv3:=hRv3.mono hlegg359
  have hagg359:=Hle.refl gg359
  refine WP_seq<|WP_region<|O (r_lss rfl rfl) rfl<|OW_nil<|WP_seq ?_
  rcases condS hM with ⟨hc700,hM⟩|⟨hc700,hM⟩
  ·refine WP_true rfl hc700<|WP_skip ?_
   obtain ⟨⟨m74,y1103⟩,hx301,hKhx301⟩:=bindS hM
   refine WP_cut (fun E w=>∃(gg392:Hp) (v2465:Value) (xs2357:List Value) (es144:Array MapEntry) (ck144:Nat) (v2464:Value) (xs2356:List Value),E 1=Value.pointer (some ⟨b1,0,none⟩)∧E 3=v2464∧E 4=Value.int .i64 xv176∧E 5=Value.map (some b676)∧E 6=v2465∧E 23=v2∧E 24=Value.int .i64 (p1.Next.length:Int)∧E 25=Value.int .i64 xv468∧E.ds=[]∧Hle gg359 gg392∧RowRel (tInt .i64) gg392 xs2357 y1103∧MRel encS (Value.int .i64) es144 ck144 m74∧RowRel (tInt .i64) gg392 xs2356 l11∧Go.Lx.Sep g0 w0 gg392 w [.row v2465 3 (tInt .i64).sz y1103.length xs2357,.obj b676 (.map es144 ck144),.row v2464 3 (tInt .i64).sz l11.length xs2356,Go.Lx.box b1 37 ([v1,v2,v3])]) ?_ ?_
   ·have hM:=hx301
    refine WP_block<|WP_seq<|WP_region<|O (r_move (v:=Value.int .i64 xv468) rfl) rfl ?_
    obtain ⟨e946,he946,hM⟩:=bindS hM
    obtain ⟨b985,ob985,cb985,hvb985,cs1055,hcs1055,hcb985⟩:=hRv2.at he946
    obtain ⟨v2466,rfl,hRv2466⟩:=hcs1055
    refine O (r_idxSl Tryz.underlying35 ti34 (v:=v2) rfl hvb985 rfl (idxL_some he946).1 (idxL_some he946).2.1) rfl<|O (r_loadEl (cs:=[v2466]) ti34 rfl rfl (.inr rfl) (hcb985 _ hs.imm) (v:=v2466) rfl) rfl<|O (r_assign (v:=Value.int .i64 xv468) rfl) rfl<|O (r_assign (v:=v2466) rfl) rfl<|OW_nil<|WP_seq<|WP_drawTail 10 mo (by decide +kernel) ?_
    have hs:=hs.drew
    refine S (r_move (v:=v2254) rfl) rfl<|S (r_move (v:=Value.int .i64 xv468) rfl) rfl ?_
    obtain ⟨e947,he947,hM⟩:=bindS hM
    obtain ⟨b986,cb986,hvb986,cs1056,hcs1056,hcb986⟩:=hs.rowEl (i:=2) rfl hrelxs2155 he947
    have hcs1056:cs1056=_:=hcs1056; subst hcs1056
    refine S (r_idxSl Tryz.underlying34 ti3 (v:=v2254) rfl hvb986 rfl (idxL_some he947).1 (idxL_some he947).2.1) rfl<|S (r_loadEl (cs:=[Value.int .i64 e947]) ti3 rfl rfl (.inr rfl) (hcb986 _ (hs.at (i:=2) rfl)) (v:=Value.int .i64 e947) rfl) rfl<|S (r_fieldAddr Tryz.underlying37 ti34 rfl rfl (by decide) rfl rfl) rfl<|S (r_load (v:=v3) ti34 rfl (hs.cell (i:=3) (o:=2) rfl rfl)) rfl<|S (r_move (v:=Value.int .i64 xv468) rfl) rfl ?_
    obtain ⟨e948,he948,hM⟩:=bindS hM
    obtain ⟨b987,ob987,cb987,hvb987,cs1057,hcs1057,hcb987⟩:=hRv3.at he948
    have hcs1057:cs1057=_:=hcs1057; subst hcs1057
    refine S (r_idxSl Tryz.underlying34 ti3 (v:=v3) rfl hvb987 rfl (idxL_some he948).1 (idxL_some he948).2.1) rfl<|S (r_loadEl (cs:=[Value.int .i64 e948]) ti3 rfl rfl (.inr rfl) (hcb987 _ hs.imm) (v:=Value.int .i64 e948) rfl) rfl ?_
    obtain ⟨t683,ht683,hM⟩:=bindS hM
    refine S (r_addM rfl rfl ht683) rfl<|SW_nil<|OW_lit (τ:=(tInt .i64)) [Value.int .i64 e947,Value.int .i64 t683] [e947,t683] Tryz.underlying34 ti3 (by decide) hs rfl rfl rfl ⟨rfl,rfl,trivial⟩ rfl ?_
    intro v2467 wv1934 xs2358 hrelxs2358 hs
    refine O (r_assign (v:=v2467) rfl) rfl<|OW_nil ?_
    obtain ⟨xv518,hx305,hKhx305⟩:=bindS hM
    refine WP_cut (fun E w=>∃(v2500:Value) (xs2391:List Value) (v2499:Value) (xs2390:List Value) (v2498:Value) (xs2389:List Value),E 1=Value.pointer (some ⟨b1,0,none⟩)∧E 3=v2498∧E 4=Value.int .i64 xv176∧E 5=Value.map (some b676)∧E 6=v2499∧E 7=Value.int .i64 xv468∧E 9=v2500∧E 23=v2∧E 24=Value.int .i64 (p1.Next.length:Int)∧E 25=Value.int .i64 xv468∧E.ds=[]∧RowRel (tInt .i64) gg359 xs2391 xv518∧RowRel (tInt .i64) gg359 xs2390 l27∧RowRel (tInt .i64) gg359 xs2389 l11∧Go.Lx.Sep g0 w0 gg359 w [.row v2500 3 (tInt .i64).sz xv518.length xs2391,.row v2499 3 (tInt .i64).sz l27.length xs2390,.obj b676 (.map es132 ck132),.row v2498 3 (tInt .i64).sz l11.length xs2389,Go.Lx.box b1 37 ([v1,v2,v3])]) ?_ ?_
    ·have hM:=hx305
     refine WP_seq<|WP_region<|O (r_move (v:=v2466) rfl) rfl ?_
     obtain ⟨a82,ca82,hva82⟩:=hRv2466.shape
     refine O (r_lenSl (v:=v2466) Tryz.underlying34 rfl hva82) rfl<|O (r_move (v:=Value.int .i64 0) rfl) rfl<|OW_nil<|WP_block<|WP_loop (fun (st9:(List Int)×Int) E w=>match st9 with|(xv521,xv522)=>∃(v2511:Value) (xs2402:List Value),E 1=Value.pointer (some ⟨b1,0,none⟩)∧E 3=v2254∧E 4=Value.int .i64 xv176∧E 5=Value.map (some b676)∧E 6=v2255∧E 7=Value.int .i64 xv468∧E 9=v2511∧E 23=v2∧E 24=Value.int .i64 (p1.Next.length:Int)∧E 25=Value.int .i64 xv468∧E 41=v2466∧E 42=Value.int .i64 (e946.length:Int)∧E 43=Value.int .i64 xv522∧E.ds=[]∧RowRel (tInt .i64) gg359 xs2402 xv521∧Go.Lx.Sep g0 w0 gg359 w [.row v2511 3 (tInt .i64).sz xv521.length xs2402,.row v2255 3 (tInt .i64).sz l27.length xs2156,.obj b676 (.map es132 ck132),.row v2254 3 (tInt .i64).sz l11.length xs2155,Go.Lx.box b1 37 ([v1,v2,v3])]) hM ⟨v2467,xs2358,rfl,rfl,rfl,rfl,rfl,rfl,rfl,rfl,rfl,rfl,rfl,rfl,rfl,hds,hrelxs2358,hs⟩ ?_
     clear hs hM
     rintro ⟨xv521,xv522⟩ o79 E w hM ⟨v2511,xs2402,hE1,hE3,hE4,hE5,hE6,hE7,hE9,hE23,hE24,hE25,hE41,hE42,hE43,hds,hrelxs2402,hs⟩
     obtain ⟨E,rfl⟩:=open8 (E:=E) hE1 hE3 hE4 hE5 hE6 hE7 hE9 hE23
     obtain ⟨E,rfl⟩:=open5 (E:=E) hE24 hE25 hE41 hE42 hE43
     refine WP_seq<|WP_region<|O (r_lss rfl rfl) rfl<|OW_nil<|WP_seq ?_
     rcases condS hM with ⟨hc736,hM⟩|⟨hc736,hM⟩
     ·refine WP_true rfl hc736<|WP_skip ?_
      obtain ⟨y1131,hx308,hKhx308⟩:=bindS hM
      refine WP_cut (fun E w=>∃(v2526:Value) (xs2417:List Value),E 1=Value.pointer (some ⟨b1,0,none⟩)∧E 3=v2254∧E 4=Value.int .i64 xv176∧E 5=Value.map (some b676)∧E 6=v2255∧E 7=Value.int .i64 xv468∧E 9=v2526∧E 23=v2∧E 24=Value.int .i64 (p1.Next.length:Int)∧E 25=Value.int .i64 xv468∧E 41=v2466∧E 42=Value.int .i64 (e946.length:Int)∧E 43=Value.int .i64 xv522∧E.ds=[]∧RowRel (tInt .i64) gg359 xs2417 y1131∧Go.Lx.Sep g0 w0 gg359 w [.row v2526 3 (tInt .i64).sz y1131.length xs2417,.row v2255 3 (tInt .i64).sz l27.length xs2156,.obj b676 (.map es132 ck132),.row v2254 3 (tInt .i64).sz l11.length xs2155,Go.Lx.box b1 37 ([v1,v2,v3])]) ?_ ?_
      ·have hM:=hx308
       refine WP_block<|WP_seq<|WP_region ?_
       obtain ⟨e971,he971,hM⟩:=bindS hM
       obtain ⟨b1010,ob1010,cb1010,hvb1010,cs1080,hcs1080,hcb1010⟩:=hRv2466.at he971
       have hcs1080:cs1080=_:=hcs1080; subst hcs1080
       refine O (r_idxSl Tryz.underlying34 ti3 (v:=v2466) rfl hvb1010 rfl (idxL_some he971).1 (idxL_some he971).2.1) rfl<|O (r_loadEl (cs:=[Value.int .i64 e971]) ti3 rfl rfl (.inr rfl) (hcb1010 _ hs.imm) (v:=Value.int .i64 e971) rfl) rfl<|O (r_assign (v:=Value.int .i64 e971) rfl) rfl<|OW_nil<|WP_seq<|WP_region<|O (r_move (v:=Value.int .i64 e971) rfl) rfl<|O (r_lss rfl rfl) rfl<|OW_nil ?_
       rcases condS hM with ⟨hc738,hM⟩|⟨hc738,hM⟩
       ·refine WP_true rfl hc738<|WP_region<|O (r_move (v:=v2511) rfl) rfl<|OW_lit (τ:=(tInt .i64)) [Value.int .i64 0] [0] Tryz.underlying34 ti3 (by decide) hs rfl rfl rfl ⟨rfl,trivial⟩ rfl ?_
        intro v2527 wv1979 xs2418 hrelxs2418 hs
        obtain ⟨y1132,hy1132,hM⟩:=bindS hM
        refine OW_append Tryz.underlying34 ti3 rfl (by decide) (by decide) hs (i:=1) rfl hrelxs2402 (v:=v2511) rfl (u:=v2527) rfl (hs.rowSrc (i:=0) rfl) hrelxs2418 hy1132 rfl ?_
        intro v2528 wv1980 xs2419 hrelxs2419 hs
        refine O (r_assign (v:=v2528) rfl) rfl<|OW_nil ?_
        obtain rfl:=Option.some.inj hM
        exact ⟨v2528,xs2419,rfl,rfl,rfl,rfl,rfl,rfl,rfl,rfl,rfl,rfl,rfl,rfl,rfl,hds,hrelxs2419,(hs.sub (.cons _ (.cons_cons _ (.cons_cons _ (.cons_cons _ (.cons_cons _ (.cons_cons _ .slnil)))))))⟩
       ·refine WP_false rfl hc738<|WP_region<|O (r_move (v:=v2511) rfl) rfl<|O (r_move (v:=v2254) rfl) rfl<|O (r_move (v:=Value.int .i64 e971) rfl) rfl ?_
        obtain ⟨e972,he972,hM⟩:=bindS hM
        obtain ⟨b1011,cb1011,hvb1011,cs1081,hcs1081,hcb1011⟩:=hs.rowEl (i:=3) rfl hrelxs2155 he972
        have hcs1081:cs1081=_:=hcs1081; subst hcs1081
        refine O (r_idxSl Tryz.underlying34 ti3 (v:=v2254) rfl hvb1011 rfl (idxL_some he972).1 (idxL_some he972).2.1) rfl<|O (r_loadEl (cs:=[Value.int .i64 e972]) ti3 rfl rfl (.inr rfl) (hcb1011 _ (hs.at (i:=3) rfl)) (v:=Value.int .i64 e972) rfl) rfl ?_
        obtain ⟨t700,ht700,hM⟩:=bindS hM
        refine O (r_addM rfl rfl ht700) rfl<|OW_lit (τ:=(tInt .i64)) [Value.int .i64 t700] [t700] Tryz.underlying34 ti3 (by decide) hs rfl rfl rfl ⟨rfl,trivial⟩ rfl ?_
        intro v2529 wv1981 xs2420 hrelxs2420 hs
        obtain ⟨y1133,hy1133,hM⟩:=bindS hM
        refine OW_append Tryz.underlying34 ti3 rfl (by decide) (by decide) hs (i:=1) rfl hrelxs2402 (v:=v2511) rfl (u:=v2529) rfl (hs.rowSrc (i:=0) rfl) hrelxs2420 hy1133 rfl ?_
        intro v2530 wv1982 xs2421 hrelxs2421 hs
        refine O (r_assign (v:=v2530) rfl) rfl<|OW_nil ?_
        obtain rfl:=Option.some.inj hM
        exact ⟨v2530,xs2421,rfl,rfl,rfl,rfl,rfl,rfl,rfl,rfl,rfl,rfl,rfl,rfl,rfl,hds,hrelxs2421,(hs.sub (.cons _ (.cons_cons _ (.cons_cons _ (.cons_cons _ (.cons_cons _ (.cons_cons _ .slnil)))))))⟩
      ·clear hs
       rintro E w ⟨v2526,xs2417,hE1,hE3,hE4,hE5,hE6,hE7,hE9,hE23,hE24,hE25,hE41,hE42,hE43,hds,hrelxs2417,hs⟩
       have hM:=hKhx308
       obtain ⟨E,rfl⟩:=open8 (E:=E) hE1 hE3 hE4 hE5 hE6 hE7 hE9 hE23
       obtain ⟨E,rfl⟩:=open5 (E:=E) hE24 hE25 hE41 hE42 hE43
       refine WP_region ?_
       obtain ⟨t701,ht701,hM⟩:=bindS hM
       refine O (r_addM rfl rfl ht701) rfl<|O (r_move (v:=Value.int .i64 t701) rfl) rfl<|OW_nil ?_
       obtain rfl:=Option.some.inj hM
       exact ⟨v2526,xs2417,rfl,rfl,rfl,rfl,rfl,rfl,rfl,rfl,rfl,rfl,rfl,rfl,rfl,hds,hrelxs2417,hs⟩
     ·refine WP_false rfl hc736<|WP_exit ?_
      obtain rfl:=Option.some.inj hM
      refine fun hr=>?_
      have hM:=congrArg some hr
      obtain rfl:=Option.some.inj hM
      exact ⟨v2511,xs2402,v2255,xs2156,v2254,xs2155,rfl,rfl,rfl,rfl,rfl,rfl,rfl,rfl,rfl,rfl,hds,hrelxs2402,hrelxs2156,hrelxs2155,hs⟩
    ·clear hs
     rintro E w ⟨v2500,xs2391,v2499,xs2390,v2498,xs2389,hE1,hE3,hE4,hE5,hE6,hE7,hE9,hE23,hE24,hE25,hds,hrelxs2391,hrelxs2390,hrelxs2389,hs⟩
     have hM:=hKhx305
     obtain ⟨E,rfl⟩:=open8 (E:=E) hE1 hE3 hE4 hE5 hE6 hE7 hE9 hE23
     obtain ⟨E,rfl⟩:=open2 (E:=E) hE24 hE25
     refine WP_seq<|WP_region<|O (r_move (v:=Value.map (some b676)) rfl) rfl<|O (r_move (v:=v2500) rfl) rfl ?_
     have hsL106:=hs
     have hrelxs2391L106:=hrelxs2391
     have hrelxs2390L106:=hrelxs2390
     have hrelxs2389L106:=hrelxs2389
     have hagg359L106:=hagg359
     obtain ⟨gg393,hlegg393,hRgg393,hs⟩:=hs.relRow (i:=0) rfl hrelxs2391
     replace hrelxs2390:=hrelxs2390.mono hlegg393
     replace hrelxs2389:=hrelxs2389.mono hlegg393
     replace hagg359:=hagg359.trans hlegg393
     obtain ⟨rv106,hrv106,hM⟩:=bindS hM
     refine C [v2500] cf121 rfl (dfa_wide_ok hrv106 hs.imm hRgg393) rfl ?_
     rintro v2531 wv1983 ⟨gg394,hvv2531,hegg394⟩
     obtain ⟨gg395,hlegg395,hs⟩:=hsL106.lent hegg394
     replace hrelxs2391:=hrelxs2391L106.mono hlegg395
     replace hrelxs2390:=hrelxs2390L106.mono hlegg395
     replace hrelxs2389:=hrelxs2389L106.mono hlegg395
     replace hagg359:=hagg359L106.trans hlegg395
     obtain ⟨cs1082,rfl,hcs1082⟩:=hvv2531
     have hcs1082:cs1082=_:=hcs1082; subst hcs1082
     refine O (r_lookup (z:=0) (kk:=rv106) Tryz.underlying137 ti3 (keyLaw_str Tryz.underlying9) hs (i:=2) rfl hmes132 rfl rfl) rfl<|O (r_move (v:=Value.tuple #[Value.int .i64 ((mget m68 rv106).getD 0),Value.bool ((mget m68 rv106).isSome)]) rfl) rfl<|O (r_extract (vs:=[Value.int .i64 ((mget m68 rv106).getD 0),Value.bool ((mget m68 rv106).isSome)]) (v:=Value.int .i64 ((mget m68 rv106).getD 0)) rfl rfl) rfl<|O (r_extract (vs:=[Value.int .i64 ((mget m68 rv106).getD 0),Value.bool ((mget m68 rv106).isSome)]) (v:=Value.bool ((mget m68 rv106).isSome)) rfl rfl) rfl<|O (r_assign (v:=Value.int .i64 ((mget m68 rv106).getD 0)) rfl) rfl<|O (r_assign (v:=Value.bool ((mget m68 rv106).isSome)) rfl) rfl ?_
     refine OW_nil ?_
     obtain ⟨⟨m75,xv525⟩,hx309,hKhx309⟩:=bindS hM
     refine WP_cut (fun E w=>∃(gg399:Hp) (es146:Array MapEntry) (ck146:Nat),E 1=Value.pointer (some ⟨b1,0,none⟩)∧E 3=v2498∧E 4=Value.int .i64 xv176∧E 5=Value.map (some b676)∧E 6=v2499∧E 7=Value.int .i64 xv468∧E 12=Value.int .i64 xv525∧E 23=v2∧E 24=Value.int .i64 (p1.Next.length:Int)∧E 25=Value.int .i64 xv468∧E.ds=[]∧Hle gg395 gg399∧MRel encS (Value.int .i64) es146 ck146 m75∧Go.Lx.Sep g0 w0 gg399 w [.row v2499 3 (tInt .i64).sz l27.length xs2390,.obj b676 (.map es146 ck146),.row v2498 3 (tInt .i64).sz l11.length xs2389,Go.Lx.box b1 37 ([v1,v2,v3])]) ?_ ?_
     ·have hM:=hx309
      have hagg395:=Hle.refl gg395
      refine WP_seq<|WP_region<|O (r_move (v:=Value.bool ((mget m68 rv106).isSome)) rfl) rfl<|O (r_not rfl) rfl<|OW_nil ?_
      rcases condS hM with ⟨hc740,hM⟩|⟨hc740,hM⟩
      ·refine WP_true rfl hc740<|WP_seq<|WP_region<|O (r_move (v:=Value.map (some b676)) rfl) rfl<|O (r_lenMap Tryz.underlying137 hs (i:=2) rfl hmes132 rfl) rfl<|O (r_assign (v:=Value.int .i64 (m68.length:Int)) rfl) rfl<|OW_nil<|WP_region<|O (r_move (v:=Value.map (some b676)) rfl) rfl<|O (r_move (v:=v2500) rfl) rfl ?_
       have hsL108:=hs
       have hagg395L108:=hagg395
       obtain ⟨gg400,hlegg400,hRgg400,hs⟩:=hs.relRow (i:=0) rfl hrelxs2391
       replace hagg395:=hagg395.trans hlegg400
       obtain ⟨rv108,hrv108,hM⟩:=bindS hM
       refine C [v2500] cf121 rfl (dfa_wide_ok hrv108 hs.imm hRgg400) rfl ?_
       rintro v2533 wv1986 ⟨gg401,hvv2533,hegg401⟩
       obtain ⟨gg402,hlegg402,hs⟩:=hsL108.lent hegg401
       replace hagg395:=hagg395L108.trans hlegg402
       obtain ⟨cs1084,rfl,hcs1084⟩:=hvv2533
       have hcs1084:cs1084=_:=hcs1084; subst hcs1084
       refine O (r_move (v:=Value.int .i64 (m68.length:Int)) rfl) rfl<|OW_mapSet (kk:=rv108) (vv:=(m68.length:Int)) Tryz.underlying137 (keyLaw_str Tryz.underlying9) hs (i:=2) rfl hmes132 rfl rfl rfl ?_
       intro es147 ck147 wv1987 hmes147 hs
       refine OW_nil ?_
       simp only [Option.some.injEq,Prod.mk.injEq] at hM
       obtain ⟨rfl,rfl⟩:=hM
       exact ⟨gg402,es147,ck147,rfl,rfl,rfl,rfl,rfl,rfl,rfl,rfl,rfl,rfl,hds,hagg395,hmes147,(hs.sub (.cons _ (.cons_cons _ (.cons_cons _ (.cons_cons _ (.cons_cons _ .slnil))))))⟩
      ·refine WP_false rfl hc740<|WP_skip ?_
       simp only [Option.some.injEq,Prod.mk.injEq] at hM
       obtain ⟨rfl,rfl⟩:=hM
       exact ⟨gg395,es132,ck132,rfl,rfl,rfl,rfl,rfl,rfl,rfl,rfl,rfl,rfl,hds,(Hle.refl _),hmes132,(hs.sub (.cons _ (.cons_cons _ (.cons_cons _ (.cons_cons _ (.cons_cons _ .slnil))))))⟩
     ·clear hs
      rintro E w ⟨gg399,es146,ck146,hE1,hE3,hE4,hE5,hE6,hE7,hE12,hE23,hE24,hE25,hds,hlegg399,hmes146,hs⟩
      have hM:=hKhx309
      obtain ⟨E,rfl⟩:=open8 (E:=E) hE1 hE3 hE4 hE5 hE6 hE7 hE12 hE23
      obtain ⟨E,rfl⟩:=open2 (E:=E) hE24 hE25
      replace hrelxs2390:=hrelxs2390.mono hlegg399
      replace hrelxs2389:=hrelxs2389.mono hlegg399
      replace hagg359:=hagg359.trans hlegg399
      refine WP_region<|O (r_move (v:=v2499) rfl) rfl<|O (r_move (v:=Value.int .i64 xv468) rfl) rfl<|O (r_move (v:=Value.int .i64 xv525) rfl) rfl ?_
      obtain ⟨y1134,hy1134,hM⟩:=bindS hM
      obtain ⟨b1012,cb1012,hvb1012,wv1988,xs2422,hstb1012,hrelb1012,hsb1012⟩:=hs.rowPut (i:=0) rfl hrelxs2390 hy1134 (cs:=[Value.int .i64 xv525]) rfl
      refine O (r_idxSl Tryz.underlying34 ti3 (v:=v2499) rfl hvb1012 rfl (setL_some hy1134).1 (setL_some hy1134).2.1) rfl<|O0 (r_store ti3 rfl (v:=Value.int .i64 xv525) rfl rfl hstb1012) ?_
      have hs:=hsb1012
      refine OW_nil ?_
      simp only [Option.some.injEq,Prod.mk.injEq] at hM
      obtain ⟨rfl,rfl⟩:=hM
      exact ⟨gg399,v2499,xs2422,es146,ck146,v2498,xs2389,rfl,rfl,rfl,rfl,rfl,rfl,rfl,rfl,hds,hagg359,hrelb1012,hmes146,hrelxs2389,hs⟩
   ·clear hs
    rintro E w ⟨gg392,v2465,xs2357,es144,ck144,v2464,xs2356,hE1,hE3,hE4,hE5,hE6,hE23,hE24,hE25,hds,hlegg392,hrelxs2357,hmes144,hrelxs2356,hs⟩
    have hM:=hKhx301
    obtain ⟨E,rfl⟩:=open8 (E:=E) hE1 hE3 hE4 hE5 hE6 hE23 hE24 hE25
    replace hlegg359:=hlegg359.trans hlegg392
    refine WP_region ?_
    obtain ⟨t702,ht702,hM⟩:=bindS hM
    refine O (r_addM rfl rfl ht702) rfl<|O (r_move (v:=Value.int .i64 t702) rfl) rfl<|OW_nil ?_
    obtain rfl:=Option.some.inj hM
    exact ⟨gg392,v2465,xs2357,es144,ck144,v2464,xs2356,rfl,rfl,rfl,rfl,rfl,rfl,rfl,rfl,hds,hlegg359,hrelxs2357,hmes144,hrelxs2356,hs⟩
  ·refine WP_false rfl hc700<|WP_exit ?_
   obtain rfl:=Option.some.inj hM
   refine fun hr=>?_
   have hM:=congrArg some hr
   simp only [Option.some.injEq,Prod.mk.injEq] at hM
   obtain ⟨rfl,rfl⟩:=hM
   exact ⟨gg359,v2255,xs2156,es132,ck132,rfl,rfl,rfl,rfl,hds,hlegg359,hrelxs2156,hmes132,(hs.sub (.cons_cons _ (.cons_cons _ (.cons _ (.cons_cons _ .slnil)))))⟩
 ·clear hs
  rintro E w ⟨gg336,v2113,xs2020,es123,ck123,hE1,hE4,hE5,hE6,hds,hlegg336,hrelxs2020,hmes123,hs⟩
  have hM:=hKhx258
  obtain ⟨E,rfl⟩:=open4 (E:=E) hE1 hE4 hE5 hE6
  replace hlegg135:=hlegg135.trans hlegg336
  refine WP_seq<|WP_region<|O (r_move (v:=v2113) rfl) rfl<|O (r_assign (v:=v2113) rfl) rfl<|OW_nil<|WP_seq<|WP_seq<|WP_region<|O (r_move (v:=Value.map (some b676)) rfl) rfl<|O (r_lenMap Tryz.underlying137 hs (i:=1) rfl hmes123 rfl) rfl<|O (r_move (v:=Value.int .i64 xv176) rfl) rfl<|O (r_eql rfl rfl) rfl<|OW_nil ?_
  rcases condS hM with ⟨hc741,hM⟩|⟨hc741,hM⟩
  ·refine WP_true rfl hc741<|WP_seq<|WP_region<|O (r_move (v:=v2113) rfl) rfl<|O (r_assign (v:=v2113) rfl) rfl<|OW_nil<|WP_ret ?_
   obtain rfl:=Option.some.inj hM
   refine fun hr=>?_
   have hM:=congrArg some hr
   obtain rfl:=Option.some.inj hM
   refine FL_nil hds ?_
   exact ⟨_,res1 Tryz.results98 (rv_tmp (v:=v2113) rfl),gg336,xs2020,hrelxs2020,(hs.sub (.cons_cons _ (.cons _ (.cons _ .slnil))))⟩
  ·refine WP_false rfl hc741<|WP_skip<|WP_region<|O (r_move (v:=Value.map (some b676)) rfl) rfl<|O (r_lenMap Tryz.underlying137 hs (i:=1) rfl hmes123 rfl) rfl<|O (r_assign (v:=Value.int .i64 (m63.length:Int)) rfl) rfl<|OW_nil ?_
   obtain rfl:=Option.some.inj hM
   exact ⟨gg336,v2113,xs2020,rfl,rfl,rfl,hds,hlegg135,hrelxs2020,(hs.sub (.cons_cons _ (.cons _ (.cons_cons _ .slnil))))⟩
set_option maxRecDepth 100000 in
theorem dfa_reached_ok {d1:T_DFA} {part1:(List Int)} {r:(List Int)} (hM:M.dfa_reached d1 part1=some r) {g0:Hp} {w0:World} (hi:Imm g0 w0) {cs1:List Value} (hcs1:tT_DFA.rel g0 cs1 d1) {v1:Value} (hRv1:RdS (tInt .i64) g0 v1 part1) :
    CallsV Tryz.prog 100 #[Value.agg cs1.toArray,v1] w0 (fun v w'=>∃g' y0,(RowRel (tInt .i64) g' y0 r)∧Sep g0 w0 g' w' [.row v 3 (tInt .i64).sz r.length y0]):=by
 unfold M.dfa_reached at hM
 obtain ⟨cs2,cs3,cs4,rfl,hcs2,hcs3,hcs4⟩:=hcs1
 obtain ⟨v2,rfl,hRv2⟩:=hcs2
 obtain ⟨v3,rfl,hRv3⟩:=hcs3
 obtain ⟨v4,rfl,hRv4⟩:=hcs4
 have hs:=Sep.start hi
 refine calls_of_WP (args:=[Value.agg (List.toArray (α:=Value) [v2,v3,v4]),v1]) Tryz.func100 rfl Tryz.ntmps100 rfl ?_
 have hds:(argEnv [Value.agg (List.toArray (α:=Value) [v2,v3,v4]),v1]).ds=[]:=rfl
 refine WP_seq<|WP_region<|OW_box (v:=Value.agg (List.toArray (α:=Value) [v2,v3,v4])) rfl hs (zs:=[v2,v3,v4]) rfl rfl ?_
 intro b1 wv1 hs
 refine O (r_assign (v:=Value.slice none 0 0) rfl) rfl<|OW_nil<|WP_seq<|WP_region<|OW_lit (τ:=(tInt .i64)) [Value.int .i64 0] [0] Tryz.underlying34 ti3 (by decide) hs rfl rfl rfl ⟨rfl,trivial⟩ rfl ?_
 intro v5 wv2 xs1 hrelxs1 hs
 refine O (r_assign (v:=v5) rfl) rfl<|OW_nil<|WP_seq<|WP_region<|O (r_fieldAddr Tryz.underlying37 ti35 rfl rfl (by decide) rfl rfl) rfl<|O (r_load (v:=v3) ti35 rfl (hs.cell (i:=1) (o:=1) rfl rfl)) rfl ?_
 obtain ⟨a1,ca1,hva1⟩:=hRv3.shape
 refine O (r_lenSl (v:=v3) Tryz.underlying35 rfl hva1) rfl ?_
 obtain ⟨seen1,hseen1,hM⟩:=bindS hM
 refine OW_make (τ:=tBool) (zc:=[Value.bool false]) (zx:=false) Tryz.underlying65 ti4 rfl rfl (by decide) hs rfl rfl hseen1 rfl ?_
 intro v6 wv3 xs2 hrelxs2 hs
 refine O (r_assign (v:=v6) rfl) rfl<|OW_nil<|WP_seq<|WP_region<|O (r_move (v:=v6) rfl) rfl<|O (r_move (v:=v1) rfl) rfl ?_
 obtain ⟨e1,he1,hM⟩:=bindS hM
 obtain ⟨b2,ob2,cb2,hvb2,cs5,hcs5,hcb2⟩:=hRv1.at he1
 have hcs5:cs5=_:=hcs5; subst hcs5
 refine O (r_idxSl Tryz.underlying34 ti3 (v:=v1) rfl hvb2 rfl (idxL_some he1).1 (idxL_some he1).2.1) rfl<|O (r_loadEl (cs:=[Value.int .i64 e1]) ti3 rfl rfl (.inr rfl) (hcb2 _ hs.imm) (v:=Value.int .i64 e1) rfl) rfl ?_
 obtain ⟨seen2,hseen2,hM⟩:=bindS hM
 obtain ⟨b3,cb3,hvb3,wv4,xs3,hstb3,hrelb3,hsb3⟩:=hs.rowPut (i:=0) rfl hrelxs2 hseen2 (cs:=[Value.bool true]) rfl
 refine O (r_idxSl Tryz.underlying65 ti4 (v:=v6) rfl hvb3 rfl (setL_some hseen2).1 (setL_some hseen2).2.1) rfl<|O0 (r_store ti4 rfl (v:=Value.bool true) rfl rfl hstb3) ?_
 have hs:=hsb3
 refine OW_nil ?_
 obtain ⟨xv79,hx58,hKhx58⟩:=bindS hM
 refine WP_cut (fun E w=>∃(v169:Value) (xs196:List Value),E 5=v169∧E.ds=[]∧RowRel (tInt .i64) g0 xs196 xv79∧Go.Lx.Sep g0 w0 g0 w [.row v169 3 (tInt .i64).sz xv79.length xs196]) ?_ ?_
 ·have hM:=hx58
  have hag0:=Hle.refl g0
  refine WP_seq<|WP_region<|O (r_assign (v:=Value.int .i64 0) rfl) rfl<|OW_nil<|WP_block<|WP_loop (fun (st9:(List Int)×(List Bool)×Int) E w=>match st9 with|(xv106,seen107,i5)=>∃(v225:Value) (xs262:List Value) (v224:Value) (xs261:List Value),E 1=v1∧E 2=Value.pointer (some ⟨b1,0,none⟩)∧E 5=v224∧E 6=v225∧E 7=Value.int .i64 i5∧E.ds=[]∧RowRel tBool g0 xs262 seen107∧RowRel (tInt .i64) g0 xs261 xv106∧Go.Lx.Sep g0 w0 g0 w [.row v225 4 tBool.sz seen107.length xs262,.row v224 3 (tInt .i64).sz xv106.length xs261,Go.Lx.box b1 37 ([v2,v3,v4])]) hM ⟨v6,xs3,v5,xs1,rfl,rfl,rfl,rfl,rfl,hds,hrelb3,hrelxs1,hs⟩ ?_
  clear hs hM
  rintro ⟨xv106,seen107,i5⟩ o12 E w hM ⟨v225,xs262,v224,xs261,hE1,hE2,hE5,hE6,hE7,hds,hrelxs262,hrelxs261,hs⟩
  obtain ⟨E,rfl⟩:=open5 (E:=E) hE1 hE2 hE5 hE6 hE7
  refine WP_seq<|WP_seq<|WP_region<|O (r_move (v:=Value.int .i64 i5) rfl) rfl<|O (r_move (v:=v224) rfl) rfl ?_
  obtain ⟨a17,ca17,hva17⟩:=hs.rowShape (i:=1) rfl
  refine O (r_lenSl (v:=v224) Tryz.underlying34 rfl hva17) rfl<|O (r_lss rfl rfl) rfl<|OW_nil ?_
  rcases condS hM with ⟨hc96,hM⟩|⟨hc96,hM⟩
  ·refine WP_true rfl hc96<|WP_skip ?_
   obtain ⟨⟨xv145,seen146⟩,hx106,hKhx106⟩:=bindS hM
   refine WP_cut (fun E w=>∃(v306:Value) (xs358:List Value) (v305:Value) (xs357:List Value),E 1=v1∧E 2=Value.pointer (some ⟨b1,0,none⟩)∧E 5=v305∧E 6=v306∧E 7=Value.int .i64 i5∧E.ds=[]∧RowRel tBool g0 xs358 seen146∧RowRel (tInt .i64) g0 xs357 xv145∧Go.Lx.Sep g0 w0 g0 w [.row v306 4 tBool.sz seen146.length xs358,.row v305 3 (tInt .i64).sz xv145.length xs357,Go.Lx.box b1 37 ([v2,v3,v4])]) ?_ ?_
   ·have hM:=hx106
    refine WP_block<|WP_seq<|WP_draw mo (by decide +kernel) ?_
    have hs:=hs.drew
    refine S (r_fieldAddr Tryz.underlying37 ti35 rfl rfl (by decide) rfl rfl) rfl<|S (r_load (v:=v3) ti35 rfl (hs.cell (i:=2) (o:=1) rfl rfl)) rfl<|S (r_move (v:=v224) rfl) rfl<|S (r_move (v:=Value.int .i64 i5) rfl) rfl ?_
    obtain ⟨e420,he420,hM⟩:=bindS hM
    obtain ⟨b488,cb488,hvb488,cs424,hcs424,hcb488⟩:=hs.rowEl (i:=1) rfl hrelxs261 he420
    have hcs424:cs424=_:=hcs424; subst hcs424
    refine S (r_idxSl Tryz.underlying34 ti3 (v:=v224) rfl hvb488 rfl (idxL_some he420).1 (idxL_some he420).2.1) rfl<|S (r_loadEl (cs:=[Value.int .i64 e420]) ti3 rfl rfl (.inr rfl) (hcb488 _ (hs.at (i:=1) rfl)) (v:=Value.int .i64 e420) rfl) rfl ?_
    obtain ⟨e421,he421,hM⟩:=bindS hM
    obtain ⟨b489,ob489,cb489,hvb489,cs425,hcs425,hcb489⟩:=hRv3.at he421
    obtain ⟨v307,rfl,hRv307⟩:=hcs425
    refine S (r_idxSl Tryz.underlying35 ti34 (v:=v3) rfl hvb489 rfl (idxL_some he421).1 (idxL_some he421).2.1) rfl<|S (r_loadEl (cs:=[v307]) ti34 rfl rfl (.inr rfl) (hcb489 _ hs.imm) (v:=v307) rfl) rfl ?_
    obtain ⟨a19,ca19,hva19⟩:=hRv307.shape
    refine S (r_lenSl (v:=v307) Tryz.underlying34 rfl hva19) rfl<|S (r_move (v:=Value.int .i64 0) rfl) rfl<|SW_nil<|WP_block<|WP_loop (fun (st9:(List Int)×(List Bool)×Int) E w=>match st9 with|(xv150,seen151,xv151)=>∃(v317:Value) (xs370:List Value) (v316:Value) (xs369:List Value),E 1=v1∧E 2=Value.pointer (some ⟨b1,0,none⟩)∧E 5=v316∧E 6=v317∧E 7=Value.int .i64 i5∧E 33=v307∧E 34=Value.int .i64 (e421.length:Int)∧E 35=Value.int .i64 xv151∧E.ds=[]∧RowRel tBool g0 xs370 seen151∧RowRel (tInt .i64) g0 xs369 xv150∧Go.Lx.Sep g0 w0 g0 w [.row v317 4 tBool.sz seen151.length xs370,.row v316 3 (tInt .i64).sz xv150.length xs369,Go.Lx.box b1 37 ([v2,v3,v4])]) hM ⟨v225,xs262,v224,xs261,rfl,rfl,rfl,rfl,rfl,rfl,rfl,rfl,hds,hrelxs262,hrelxs261,hs⟩ ?_
    clear hs hM
    rintro ⟨xv150,seen151,xv151⟩ o14 E w hM ⟨v317,xs370,v316,xs369,hE1,hE2,hE5,hE6,hE7,hE33,hE34,hE35,hds,hrelxs370,hrelxs369,hs⟩
    obtain ⟨E,rfl⟩:=open8 (E:=E) hE1 hE2 hE5 hE6 hE7 hE33 hE34 hE35
    refine WP_seq<|WP_region<|O (r_lss rfl rfl) rfl<|OW_nil<|WP_seq ?_
    rcases condS hM with ⟨hc112,hM⟩|⟨hc112,hM⟩
    ·refine WP_true rfl hc112<|WP_skip ?_
     obtain ⟨⟨out107,seen157⟩,hx114,hKhx114⟩:=bindS hM
     refine WP_cut (fun E w=>∃(v329:Value) (xs385:List Value) (v328:Value) (xs384:List Value),E 1=v1∧E 2=Value.pointer (some ⟨b1,0,none⟩)∧E 5=v328∧E 6=v329∧E 7=Value.int .i64 i5∧E 33=v307∧E 34=Value.int .i64 (e421.length:Int)∧E 35=Value.int .i64 xv151∧E.ds=[]∧RowRel tBool g0 xs385 seen157∧RowRel (tInt .i64) g0 xs384 out107∧Go.Lx.Sep g0 w0 g0 w [.row v329 4 tBool.sz seen157.length xs385,.row v328 3 (tInt .i64).sz out107.length xs384,Go.Lx.box b1 37 ([v2,v3,v4])]) ?_ ?_
     ·have hM:=hx114
      refine WP_block<|WP_seq<|WP_region ?_
      obtain ⟨e452,he452,hM⟩:=bindS hM
      obtain ⟨b525,ob525,cb525,hvb525,cs456,hcs456,hcb525⟩:=hRv307.at he452
      have hcs456:cs456=_:=hcs456; subst hcs456
      refine O (r_idxSl Tryz.underlying34 ti3 (v:=v307) rfl hvb525 rfl (idxL_some he452).1 (idxL_some he452).2.1) rfl<|O (r_loadEl (cs:=[Value.int .i64 e452]) ti3 rfl rfl (.inr rfl) (hcb525 _ hs.imm) (v:=Value.int .i64 e452) rfl) rfl<|O (r_assign (v:=Value.int .i64 e452) rfl) rfl<|OW_nil ?_
      obtain ⟨xv157,hx115,hKhx115⟩:=bindS hM
      refine WP_cut (fun E w=>E 1=v1∧E 2=Value.pointer (some ⟨b1,0,none⟩)∧E 5=v316∧E 6=v317∧E 7=Value.int .i64 i5∧E 9=Value.int .i64 e452∧E 33=v307∧E 34=Value.int .i64 (e421.length:Int)∧E 35=Value.int .i64 xv151∧E 50=Value.bool xv157∧E.ds=[]∧Go.Lx.Sep g0 w0 g0 w [.row v317 4 tBool.sz seen151.length xs370,.row v316 3 (tInt .i64).sz xv150.length xs369,Go.Lx.box b1 37 ([v2,v3,v4])]) ?_ ?_
      ·have hM:=hx115
       refine WP_region<|O (r_move (v:=Value.int .i64 e452) rfl) rfl<|O (r_geq rfl rfl) rfl<|O (r_move (v:=Value.bool (decide (0≤e452))) rfl) rfl ?_
       rcases condS hM with ⟨hg144,hM⟩|⟨hg144,hM⟩
       ·refine OG rfl rfl rfl (by rw [hg144]; rfl) (r_move (v:=v317) rfl) rfl<|OG rfl rfl rfl (by rw [hg144]; rfl) (r_move (v:=v1) rfl) rfl<|OG rfl rfl rfl (by rw [hg144]; rfl) (r_move (v:=Value.int .i64 e452) rfl) rfl ?_
        obtain ⟨e455,he455,hM⟩:=bindS hM
        obtain ⟨b528,ob528,cb528,hvb528,cs459,hcs459,hcb528⟩:=hRv1.at he455
        have hcs459:cs459=_:=hcs459; subst hcs459
        refine OG rfl rfl rfl (by rw [hg144]; rfl) (r_idxSl Tryz.underlying34 ti3 (v:=v1) rfl hvb528 rfl (idxL_some he455).1 (idxL_some he455).2.1) rfl<|OG rfl rfl rfl (by rw [hg144]; rfl) (r_loadEl (cs:=[Value.int .i64 e455]) ti3 rfl rfl (.inr rfl) (hcb528 _ hs.imm) (v:=Value.int .i64 e455) rfl) rfl ?_
        obtain ⟨e456,he456,hM⟩:=bindS hM
        obtain ⟨b529,cb529,hvb529,cs460,hcs460,hcb529⟩:=hs.rowEl (i:=0) rfl hrelxs370 he456
        have hcs460:cs460=_:=hcs460; subst hcs460
        refine OG rfl rfl rfl (by rw [hg144]; rfl) (r_idxSl Tryz.underlying65 ti4 (v:=v317) rfl hvb529 rfl (idxL_some he456).1 (idxL_some he456).2.1) rfl<|OG rfl rfl rfl (by rw [hg144]; rfl) (r_loadEl (cs:=[Value.bool e456]) ti4 rfl rfl (.inr rfl) (hcb529 _ (hs.at (i:=0) rfl)) (v:=Value.bool e456) rfl) rfl<|OG rfl rfl rfl (by rw [hg144]; rfl) (r_not rfl) rfl<|O (r_pickT (v:=Value.bool (!e456)) rfl hg144 rfl) rfl<|OW_nil ?_
        obtain rfl:=Option.some.inj hM
        exact ⟨rfl,rfl,rfl,rfl,rfl,rfl,rfl,rfl,rfl,rfl,hds,hs⟩
       ·refine OK rfl rfl rfl (by rw [hg144]; rfl) rfl<|OK rfl rfl rfl (by rw [hg144]; rfl) rfl<|OK rfl rfl rfl (by rw [hg144]; rfl) rfl<|OK rfl rfl rfl (by rw [hg144]; rfl) rfl<|OK rfl rfl rfl (by rw [hg144]; rfl) rfl<|OK rfl rfl rfl (by rw [hg144]; rfl) rfl<|OK rfl rfl rfl (by rw [hg144]; rfl) rfl<|OK rfl rfl rfl (by rw [hg144]; rfl) rfl<|O (r_pickF (v:=Value.bool false) rfl hg144 rfl) rfl<|OW_nil ?_
        obtain rfl:=Option.some.inj hM
        exact ⟨rfl,rfl,rfl,rfl,rfl,rfl,rfl,rfl,rfl,rfl,hds,hs⟩
      ·clear hs
       rintro E w ⟨hE1,hE2,hE5,hE6,hE7,hE9,hE33,hE34,hE35,hE50,hds,hs⟩
       have hM:=hKhx115
       obtain ⟨E,rfl⟩:=open8 (E:=E) hE1 hE2 hE5 hE6 hE7 hE9 hE33 hE34
       obtain ⟨E,rfl⟩:=open2 (E:=E) hE35 hE50
       rcases condS hM with ⟨hc114,hM⟩|⟨hc114,hM⟩
       ·refine WP_true rfl hc114<|WP_seq<|WP_region<|O (r_move (v:=v317) rfl) rfl<|O (r_move (v:=v1) rfl) rfl<|O (r_move (v:=Value.int .i64 e452) rfl) rfl ?_
        obtain ⟨e457,he457,hM⟩:=bindS hM
        obtain ⟨b530,ob530,cb530,hvb530,cs461,hcs461,hcb530⟩:=hRv1.at he457
        have hcs461:cs461=_:=hcs461; subst hcs461
        refine O (r_idxSl Tryz.underlying34 ti3 (v:=v1) rfl hvb530 rfl (idxL_some he457).1 (idxL_some he457).2.1) rfl<|O (r_loadEl (cs:=[Value.int .i64 e457]) ti3 rfl rfl (.inr rfl) (hcb530 _ hs.imm) (v:=Value.int .i64 e457) rfl) rfl ?_
        obtain ⟨seen158,hseen158,hM⟩:=bindS hM
        obtain ⟨b531,cb531,hvb531,wv218,xs386,hstb531,hrelb531,hsb531⟩:=hs.rowPut (i:=0) rfl hrelxs370 hseen158 (cs:=[Value.bool true]) rfl
        refine O (r_idxSl Tryz.underlying65 ti4 (v:=v317) rfl hvb531 rfl (setL_some hseen158).1 (setL_some hseen158).2.1) rfl<|O0 (r_store ti4 rfl (v:=Value.bool true) rfl rfl hstb531) ?_
        have hs:=hsb531
        refine OW_nil<|WP_region<|O (r_move (v:=v316) rfl) rfl<|O (r_move (v:=Value.int .i64 e452) rfl) rfl<|OW_lit (τ:=(tInt .i64)) [Value.int .i64 e452] [e452] Tryz.underlying34 ti3 (by decide) hs rfl rfl rfl ⟨rfl,trivial⟩ rfl ?_
        intro v330 wv219 xs387 hrelxs387 hs
        obtain ⟨out108,hout108,hM⟩:=bindS hM
        refine OW_append Tryz.underlying34 ti3 rfl (by decide) (by decide) hs (i:=2) rfl hrelxs369 (v:=v316) rfl (u:=v330) rfl (hs.rowSrc (i:=0) rfl) hrelxs387 hout108 rfl ?_
        intro v331 wv220 xs388 hrelxs388 hs
        refine O (r_assign (v:=v331) rfl) rfl<|OW_nil ?_
        simp only [Option.some.injEq,Prod.mk.injEq] at hM
        obtain ⟨rfl,rfl⟩:=hM
        exact ⟨v317,xs386,v331,xs388,rfl,rfl,rfl,rfl,rfl,rfl,rfl,rfl,hds,hrelb531,hrelxs388,(hs.sub (.cons _ (.cons_cons _ (.cons_cons _ (.cons_cons _ .slnil)))))⟩
       ·refine WP_false rfl hc114<|WP_skip ?_
        simp only [Option.some.injEq,Prod.mk.injEq] at hM
        obtain ⟨rfl,rfl⟩:=hM
        exact ⟨v317,xs370,v316,xs369,rfl,rfl,rfl,rfl,rfl,rfl,rfl,rfl,hds,hrelxs370,hrelxs369,hs⟩
     ·clear hs
      rintro E w ⟨v329,xs385,v328,xs384,hE1,hE2,hE5,hE6,hE7,hE33,hE34,hE35,hds,hrelxs385,hrelxs384,hs⟩
      have hM:=hKhx114
      obtain ⟨E,rfl⟩:=open8 (E:=E) hE1 hE2 hE5 hE6 hE7 hE33 hE34 hE35
      refine WP_region ?_
      obtain ⟨t41,ht41,hM⟩:=bindS hM
      refine O (r_addM rfl rfl ht41) rfl<|O (r_move (v:=Value.int .i64 t41) rfl) rfl<|OW_nil ?_
      obtain rfl:=Option.some.inj hM
      exact ⟨v329,xs385,v328,xs384,rfl,rfl,rfl,rfl,rfl,rfl,rfl,rfl,hds,hrelxs385,hrelxs384,hs⟩
    ·refine WP_false rfl hc112<|WP_exit ?_
     obtain rfl:=Option.some.inj hM
     refine fun hr=>?_
     have hM:=congrArg some hr
     simp only [Option.some.injEq,Prod.mk.injEq] at hM
     obtain ⟨rfl,rfl⟩:=hM
     exact ⟨v317,xs370,v316,xs369,rfl,rfl,rfl,rfl,rfl,hds,hrelxs370,hrelxs369,hs⟩
   ·clear hs
    rintro E w ⟨v306,xs358,v305,xs357,hE1,hE2,hE5,hE6,hE7,hds,hrelxs358,hrelxs357,hs⟩
    have hM:=hKhx106
    obtain ⟨E,rfl⟩:=open5 (E:=E) hE1 hE2 hE5 hE6 hE7
    refine WP_region<|O (r_move (v:=Value.int .i64 i5) rfl) rfl ?_
    obtain ⟨t42,ht42,hM⟩:=bindS hM
    refine O (r_addM rfl rfl ht42) rfl<|O (r_assign (v:=Value.int .i64 t42) rfl) rfl<|OW_nil ?_
    obtain rfl:=Option.some.inj hM
    exact ⟨v306,xs358,v305,xs357,rfl,rfl,rfl,rfl,rfl,hds,hrelxs358,hrelxs357,hs⟩
  ·refine WP_false rfl hc96<|WP_exit ?_
   obtain rfl:=Option.some.inj hM
   refine fun hr=>?_
   have hM:=congrArg some hr
   obtain rfl:=Option.some.inj hM
   exact ⟨v224,xs261,rfl,hds,hrelxs261,(hs.sub (.cons _ (.cons_cons _ (.cons _ .slnil))))⟩
 ·clear hs
  rintro E w ⟨v169,xs196,hE5,hds,hrelxs196,hs⟩
  have hM:=hKhx58
  obtain ⟨E,rfl⟩:=open1 (E:=E) hE5
  refine WP_seq<|WP_region<|O (r_move (v:=v169) rfl) rfl<|O (r_assign (v:=v169) rfl) rfl<|OW_nil<|WP_ret ?_
  obtain rfl:=Option.some.inj hM
  refine FL_nil hds ?_
  exact ⟨_,res1 Tryz.results100 (rv_tmp (v:=v169) rfl),g0,xs196,hrelxs196,hs⟩
set_option maxRecDepth 100000 in
theorem dfa_step_ok {d1:T_DFA} {s1:Int} {b1:Int} {r:Int} (hM:M.dfa_step d1 s1 b1=some r) {g0:Hp} {w0:World} (hi:Imm g0 w0) {cs1:List Value} (hcs1:tT_DFA.rel g0 cs1 d1) :
    CallsV Tryz.prog 67 #[Value.agg cs1.toArray,Value.int .i64 s1,Value.int .u8 b1] w0 (fun v w'=>∃g',(VRd (tInt .i64) false g' v r)∧Ext g0 w0 g' w'):=by
 unfold M.dfa_step at hM
 obtain ⟨cs2,cs3,cs4,rfl,hcs2,hcs3,hcs4⟩:=hcs1
 obtain ⟨v1,rfl,hRv1⟩:=hcs2
 obtain ⟨v2,rfl,hRv2⟩:=hcs3
 obtain ⟨v3,rfl,hRv3⟩:=hcs4
 have hs:=Sep.start hi
 refine calls_of_WP (args:=[Value.agg (List.toArray (α:=Value) [v1,v2,v3]),Value.int .i64 s1,Value.int .u8 b1]) Tryz.func67 rfl Tryz.ntmps67 rfl ?_
 have hds:(argEnv [Value.agg (List.toArray (α:=Value) [v1,v2,v3]),Value.int .i64 s1,Value.int .u8 b1]).ds=[]:=rfl
 refine WP_seq<|WP_region<|OW_box (v:=Value.agg (List.toArray (α:=Value) [v1,v2,v3])) rfl hs (zs:=[v1,v2,v3]) rfl rfl ?_
 intro b2 wv1 hs
 refine O (r_assign (v:=Value.int .i64 0) rfl) rfl<|OW_nil<|WP_seq<|WP_seq<|WP_region<|O (r_move (v:=Value.int .i64 s1) rfl) rfl<|O (r_lss rfl rfl) rfl<|OW_nil ?_
 rcases condS hM with ⟨hc1,hM⟩|⟨hc1,hM⟩
 ·refine WP_true rfl hc1<|WP_seq<|WP_region<|O (r_assign (v:=Value.int .i64 (-1)) rfl) rfl<|OW_nil<|WP_ret ?_
  obtain rfl:=Option.some.inj hM
  refine FL_nil hds ?_
  exact ⟨_,res1 Tryz.results67 (rv_tmp (v:=Value.int .i64 (-1)) rfl),g0,⟨[Value.int .i64 (-1)],rfl,rfl⟩,hs.ext⟩
 ·refine WP_false rfl hc1<|WP_skip<|WP_seq<|WP_draw mo (by decide +kernel) ?_
  have hs:=hs.drew
  refine S (r_fieldAddr Tryz.underlying37 ti35 rfl rfl (by decide) rfl rfl) rfl<|S (r_load (v:=v2) ti35 rfl (hs.cell (i:=0) (o:=1) rfl rfl)) rfl<|S (r_move (v:=Value.int .i64 s1) rfl) rfl ?_
  obtain ⟨e1,he1,hM⟩:=bindS hM
  obtain ⟨b3,ob3,cb3,hvb3,cs5,hcs5,hcb3⟩:=hRv2.at he1
  obtain ⟨v4,rfl,hRv4⟩:=hcs5
  refine S (r_idxSl Tryz.underlying35 ti34 (v:=v2) rfl hvb3 rfl (idxL_some he1).1 (idxL_some he1).2.1) rfl<|S (r_loadEl (cs:=[v4]) ti34 rfl rfl (.inr rfl) (hcb3 _ hs.imm) (v:=v4) rfl) rfl<|S (r_fieldAddr Tryz.underlying37 ti34 rfl rfl (by decide) rfl rfl) rfl<|S (r_load (v:=v1) ti34 rfl (hs.cell (i:=0) (o:=0) rfl rfl)) rfl<|S (r_move (v:=Value.int .u8 b1) rfl) rfl ?_
  obtain ⟨e2,he2,hM⟩:=bindS hM
  obtain ⟨b4,ob4,cb4,hvb4,cs6,hcs6,hcb4⟩:=hRv1.at he2
  have hcs6:cs6=_:=hcs6; subst hcs6
  refine S (r_idxSl Tryz.underlying34 ti3 (v:=v1) rfl hvb4 rfl (idxL_some he2).1 (idxL_some he2).2.1) rfl<|S (r_loadEl (cs:=[Value.int .i64 e2]) ti3 rfl rfl (.inr rfl) (hcb4 _ hs.imm) (v:=Value.int .i64 e2) rfl) rfl ?_
  obtain ⟨e3,he3,hM⟩:=bindS hM
  obtain ⟨b5,ob5,cb5,hvb5,cs7,hcs7,hcb5⟩:=hRv4.at he3
  have hcs7:cs7=_:=hcs7; subst hcs7
  refine S (r_idxSl Tryz.underlying34 ti3 (v:=v4) rfl hvb5 rfl (idxL_some he3).1 (idxL_some he3).2.1) rfl<|S (r_loadEl (cs:=[Value.int .i64 e3]) ti3 rfl rfl (.inr rfl) (hcb5 _ hs.imm) (v:=Value.int .i64 e3) rfl) rfl<|S (r_assign (v:=Value.int .i64 e3) rfl) rfl<|SW_nil<|WP_ret ?_
  obtain rfl:=Option.some.inj hM
  refine FL_nil hds ?_
  exact ⟨_,res1 Tryz.results67 (rv_tmp (v:=Value.int .i64 e3) rfl),g0,⟨[Value.int .i64 e3],rfl,rfl⟩,hs.ext⟩
set_option maxRecDepth 100000 in
theorem dfa_classes_ok {p1:T_DFA} {p2:(List Int)} {p3:(List Int)} {r:(List Int)} (hM:M.dfa_classes p1 p2 p3=some r) {g0:Hp} {w0:World} (hi:Imm g0 w0) {cs1:List Value} (hcs1:tT_DFA.rel g0 cs1 p1) {v1:Value} (hRv1:RdS (tInt .i64) g0 v1 p2) {v2:Value} (hRv2:RdS (tInt .i64) g0 v2 p3) :
    CallsV Tryz.prog 99 #[Value.agg cs1.toArray,v1,v2] w0 (fun v w'=>∃g' y0,(RowRel (tInt .i64) g' y0 r)∧Sep g0 w0 g' w' [.row v 3 (tInt .i64).sz r.length y0]):=by
 unfold M.dfa_classes at hM
 obtain ⟨cs2,cs3,cs4,rfl,hcs2,hcs3,hcs4⟩:=hcs1
 obtain ⟨v3,rfl,hRv3⟩:=hcs2
 obtain ⟨v4,rfl,hRv4⟩:=hcs3
 obtain ⟨v5,rfl,hRv5⟩:=hcs4
 have hs:=Sep.start hi
 refine calls_of_WP (args:=[Value.agg (List.toArray (α:=Value) [v3,v4,v5]),v1,v2]) Tryz.func99 rfl Tryz.ntmps99 rfl ?_
 have hds:(argEnv [Value.agg (List.toArray (α:=Value) [v3,v4,v5]),v1,v2]).ds=[]:=rfl
 refine WP_seq<|WP_region<|OW_box (v:=Value.agg (List.toArray (α:=Value) [v3,v4,v5])) rfl hs (zs:=[v3,v4,v5]) rfl rfl ?_
 intro b1 wv1 hs
 refine O (r_assign (v:=Value.slice none 0 0) rfl) rfl<|OW_nil<|WP_seq<|WP_region ?_
 obtain ⟨l1,hl1,hM⟩:=bindS hM
 refine OW_make (τ:=(tInt .i64)) (zc:=[Value.int .i64 0]) (zx:=0) Tryz.underlying34 ti3 rfl rfl (by decide) hs rfl rfl hl1 rfl ?_
 intro v6 wv2 xs1 hrelxs1 hs
 refine O (r_assign (v:=v6) rfl) rfl<|OW_nil<|WP_seq<|WP_region<|OW_makeMap hs rfl ?_
 intro b2 wv3 hs
 have hmb2:MRel encS (Value.int .i64) #[] 0 []:=mrel_nil
 refine O (r_assign (v:=Value.map (some b2)) rfl) rfl<|OW_nil ?_
 obtain ⟨l5,hx52,hKhx52⟩:=bindS hM
 refine WP_cut (fun E w=>∃(gg145:Hp) (v187:Value) (xs146:List Value),E 7=v187∧E.ds=[]∧Hle g0 gg145∧RowRel (tInt .i64) gg145 xs146 l5∧Go.Lx.Sep g0 w0 gg145 w [.row v187 3 (tInt .i64).sz l5.length xs146]) ?_ ?_
 ·have hM:=hx52
  have hag0:=Hle.refl g0
  refine WP_seq<|WP_region<|O (r_move (v:=v6) rfl) rfl ?_
  obtain ⟨a14,ca14,hva14⟩:=hs.rowShape (i:=1) rfl
  refine O (r_lenSl (v:=v6) Tryz.underlying34 rfl hva14) rfl<|O (r_move (v:=Value.int .i64 0) rfl) rfl<|OW_nil<|WP_block<|WP_loop (fun (st9:(List Int)×(List (Str×Int))×Int) E w=>match st9 with|(l7,m17,xv117)=>∃(gg194:Hp) (es33:Array MapEntry) (ck33:Nat) (v248:Value) (xs195:List Value),E 1=v1∧E 2=v2∧E 3=Value.pointer (some ⟨b1,0,none⟩)∧E 7=v248∧E 8=Value.map (some b2)∧E 19=Value.int .i64 (l1.length:Int)∧E 20=Value.int .i64 xv117∧E.ds=[]∧Hle g0 gg194∧MRel encS (Value.int .i64) es33 ck33 m17∧RowRel (tInt .i64) gg194 xs195 l7∧Go.Lx.Sep g0 w0 gg194 w [.obj b2 (.map es33 ck33),.row v248 3 (tInt .i64).sz l7.length xs195,Go.Lx.box b1 37 ([v3,v4,v5])]) hM ⟨g0,#[],0,v6,xs1,rfl,rfl,rfl,rfl,rfl,rfl,rfl,hds,(Hle.refl _),hmb2,hrelxs1,hs⟩ ?_
  clear hs hM
  rintro ⟨l7,m17,xv117⟩ o22 E w hM ⟨gg194,es33,ck33,v248,xs195,hE1,hE2,hE3,hE7,hE8,hE19,hE20,hds,hlegg194,hmes33,hrelxs195,hs⟩
  obtain ⟨E,rfl⟩:=open7 (E:=E) hE1 hE2 hE3 hE7 hE8 hE19 hE20
  replace hRv1:=hRv1.mono hlegg194
  replace hRv2:=hRv2.mono hlegg194
  replace hRv3:=hRv3.mono hlegg194
  replace hRv4:=hRv4.mono hlegg194
  replace hRv5:=hRv5.mono hlegg194
  have hagg194:=Hle.refl gg194
  refine WP_seq<|WP_region<|O (r_lss rfl rfl) rfl<|OW_nil<|WP_seq ?_
  rcases condS hM with ⟨hc206,hM⟩|⟨hc206,hM⟩
  ·refine WP_true rfl hc206<|WP_skip ?_
   obtain ⟨⟨y83,m23⟩,hx95,hKhx95⟩:=bindS hM
   refine WP_cut (fun E w=>∃(gg266:Hp) (es45:Array MapEntry) (ck45:Nat) (v338:Value) (xs267:List Value),E 1=v1∧E 2=v2∧E 3=Value.pointer (some ⟨b1,0,none⟩)∧E 7=v338∧E 8=Value.map (some b2)∧E 19=Value.int .i64 (l1.length:Int)∧E 20=Value.int .i64 xv117∧E.ds=[]∧Hle gg194 gg266∧MRel encS (Value.int .i64) es45 ck45 m23∧RowRel (tInt .i64) gg266 xs267 y83∧Go.Lx.Sep g0 w0 gg266 w [.obj b2 (.map es45 ck45),.row v338 3 (tInt .i64).sz y83.length xs267,Go.Lx.box b1 37 ([v3,v4,v5])]) ?_ ?_
   ·have hM:=hx95
    refine WP_block<|WP_seq<|WP_region<|O (r_move (v:=Value.int .i64 xv117) rfl) rfl<|O (r_assign (v:=Value.int .i64 xv117) rfl) rfl<|OW_nil<|WP_seq<|WP_region<|O (r_assign (v:=Value.slice none 0 0) rfl) rfl<|OW_nil ?_
    obtain ⟨xv167,hx99,hKhx99⟩:=bindS hM
    refine WP_cut (fun E w=>∃(gg273:Hp) (v352:Value) (xs279:List Value) (v351:Value) (xs278:List Value),E 1=v1∧E 2=v2∧E 3=Value.pointer (some ⟨b1,0,none⟩)∧E 7=v351∧E 8=Value.map (some b2)∧E 9=Value.int .i64 xv117∧E 10=v352∧E 19=Value.int .i64 (l1.length:Int)∧E 20=Value.int .i64 xv117∧E.ds=[]∧Hle gg194 gg273∧RowRel (tInt .i64) gg273 xs279 xv167∧RowRel (tInt .i64) gg273 xs278 l7∧Go.Lx.Sep g0 w0 gg273 w [.row v352 3 (tInt .i64).sz xv167.length xs279,.obj b2 (.map es33 ck33),.row v351 3 (tInt .i64).sz l7.length xs278,Go.Lx.box b1 37 ([v3,v4,v5])]) ?_ ?_
    ·have hM:=hx99
     refine WP_seq<|WP_region<|O (r_move (v:=v1) rfl) rfl ?_
     obtain ⟨a26,ca26,hva26⟩:=hRv1.shape
     refine O (r_lenSl (v:=v1) Tryz.underlying34 rfl hva26) rfl<|O (r_move (v:=Value.int .i64 0) rfl) rfl<|OW_nil<|WP_block ?_
     have hs:=hs.nilRow 3 (tInt .i64).sz
     refine WP_loop (fun (st9:(List Int)×Int) E w=>match st9 with|(xv170,xv171)=>∃(gg276:Hp) (v357:Value) (xs284:List Value),E 1=v1∧E 2=v2∧E 3=Value.pointer (some ⟨b1,0,none⟩)∧E 7=v248∧E 8=Value.map (some b2)∧E 9=Value.int .i64 xv117∧E 10=v357∧E 19=Value.int .i64 (l1.length:Int)∧E 20=Value.int .i64 xv117∧E 23=v1∧E 24=Value.int .i64 (p2.length:Int)∧E 25=Value.int .i64 xv171∧E.ds=[]∧Hle gg194 gg276∧RowRel (tInt .i64) gg276 xs284 xv170∧Go.Lx.Sep g0 w0 gg276 w [.row v357 3 (tInt .i64).sz xv170.length xs284,.obj b2 (.map es33 ck33),.row v248 3 (tInt .i64).sz l7.length xs195,Go.Lx.box b1 37 ([v3,v4,v5])]) hM ⟨gg194,(Value.slice none 0 0),[],rfl,rfl,rfl,rfl,rfl,rfl,rfl,rfl,rfl,rfl,rfl,rfl,hds,(Hle.refl _),RowRel.nil,hs⟩ ?_
     clear hs hM
     rintro ⟨xv170,xv171⟩ o26 E w hM ⟨gg276,v357,xs284,hE1,hE2,hE3,hE7,hE8,hE9,hE10,hE19,hE20,hE23,hE24,hE25,hds,hlegg276,hrelxs284,hs⟩
     obtain ⟨E,rfl⟩:=open8 (E:=E) hE1 hE2 hE3 hE7 hE8 hE9 hE10 hE19
     obtain ⟨E,rfl⟩:=open4 (E:=E) hE20 hE23 hE24 hE25
     replace hRv1:=hRv1.mono hlegg276
     replace hRv2:=hRv2.mono hlegg276
     replace hRv3:=hRv3.mono hlegg276
     replace hRv4:=hRv4.mono hlegg276
     replace hRv5:=hRv5.mono hlegg276
     replace hrelxs195:=hrelxs195.mono hlegg276
     have hagg276:=Hle.refl gg276
     refine WP_seq<|WP_region<|O (r_lss rfl rfl) rfl<|OW_nil<|WP_seq ?_
     rcases condS hM with ⟨hc242,hM⟩|⟨hc242,hM⟩
     ·refine WP_true rfl hc242<|WP_skip<|WP_seq<|WP_block<|WP_seq<|WP_region ?_
      obtain ⟨e285,he285,hM⟩:=bindS hM
      obtain ⟨b227,ob227,cb227,hvb227,cs322,hcs322,hcb227⟩:=hRv1.at he285
      have hcs322:cs322=_:=hcs322; subst hcs322
      refine O (r_idxSl Tryz.underlying34 ti3 (v:=v1) rfl hvb227 rfl (idxL_some he285).1 (idxL_some he285).2.1) rfl<|O (r_loadEl (cs:=[Value.int .i64 e285]) ti3 rfl rfl (.inr rfl) (hcb227 _ hs.imm) (v:=Value.int .i64 e285) rfl) rfl<|O (r_assign (v:=Value.int .i64 e285) rfl) rfl<|OW_nil<|WP_seq<|WP_region<|O (r_loadN (cs:=[v3,v4,v5]) ti37 rfl rfl (hs.cells (i:=3) rfl)) rfl<|O (r_move (v:=Value.int .i64 e285) rfl) rfl<|O (r_move (v:=Value.int .i64 xv117) rfl) rfl<|O (r_conv Tryz.underlying3 Tryz.underlying5 rfl) rfl ?_
      obtain ⟨rv105,hrv105,hM⟩:=bindS hM
      refine C [Value.agg (List.toArray (α:=Value) [v3,v4,v5]),Value.int .i64 e285,Value.int .u8 (IntKind.u8.wrap xv117)] cf67 rfl (dfa_step_ok hrv105 hs.imm (⟨[v3],[v4],[v5],rfl,⟨_,rfl,hRv3⟩,⟨_,rfl,hRv4⟩,⟨_,rfl,hRv5⟩⟩)) rfl ?_
      rintro v362 wv283 ⟨gg279,hvv362,hegg279⟩
      have hlegg279:=hegg279.le hs.imm
      replace hs:=hs.call hegg279
      replace hRv2:=hRv2.mono hlegg279
      replace hrelxs284:=hrelxs284.mono hlegg279
      replace hlegg276:=hlegg276.trans hlegg279
      obtain ⟨cs323,rfl,hcs323⟩:=hvv362
      have hcs323:cs323=_:=hcs323; subst hcs323
      refine O (r_assign (v:=Value.int .i64 rv105) rfl) rfl<|OW_nil ?_
      obtain ⟨e287,hx102,hKhx102⟩:=bindS hM
      refine WP_cut (fun E w=>E 1=v1∧E 2=v2∧E 3=Value.pointer (some ⟨b1,0,none⟩)∧E 7=v248∧E 8=Value.map (some b2)∧E 9=Value.int .i64 xv117∧E 10=v357∧E 13=Value.int .i64 e287∧E 19=Value.int .i64 (l1.length:Int)∧E 20=Value.int .i64 xv117∧E 23=v1∧E 24=Value.int .i64 (p2.length:Int)∧E 25=Value.int .i64 xv171∧E.ds=[]∧Go.Lx.Sep g0 w0 gg279 w [.row v357 3 (tInt .i64).sz xv170.length xs284,.obj b2 (.map es33 ck33),.row v248 3 (tInt .i64).sz l7.length xs195,Go.Lx.box b1 37 ([v3,v4,v5])]) ?_ ?_
      ·have hM:=hx102
       have hagg279:=Hle.refl gg279
       refine WP_seq<|WP_region<|O (r_move (v:=Value.int .i64 rv105) rfl) rfl<|O (r_geq rfl rfl) rfl<|OW_nil ?_
       rcases condS hM with ⟨hc244,hM⟩|⟨hc244,hM⟩
       ·refine WP_true rfl hc244<|WP_region<|O (r_move (v:=v2) rfl) rfl<|O (r_move (v:=Value.int .i64 rv105) rfl) rfl ?_
        obtain ⟨e288,he288,hM⟩:=bindS hM
        obtain ⟨b229,ob229,cb229,hvb229,cs325,hcs325,hcb229⟩:=hRv2.at he288
        have hcs325:cs325=_:=hcs325; subst hcs325
        refine O (r_idxSl Tryz.underlying34 ti3 (v:=v2) rfl hvb229 rfl (idxL_some he288).1 (idxL_some he288).2.1) rfl<|O (r_loadEl (cs:=[Value.int .i64 e288]) ti3 rfl rfl (.inr rfl) (hcb229 _ hs.imm) (v:=Value.int .i64 e288) rfl) rfl<|O (r_assign (v:=Value.int .i64 e288) rfl) rfl<|OW_nil ?_
        obtain rfl:=Option.some.inj hM
        exact ⟨rfl,rfl,rfl,rfl,rfl,rfl,rfl,rfl,rfl,rfl,rfl,rfl,rfl,hds,hs⟩
       ·refine WP_false rfl hc244<|WP_skip ?_
        obtain rfl:=Option.some.inj hM
        exact ⟨rfl,rfl,rfl,rfl,rfl,rfl,rfl,rfl,rfl,rfl,rfl,rfl,rfl,hds,hs⟩
      ·clear hs
       rintro E w ⟨hE1,hE2,hE3,hE7,hE8,hE9,hE10,hE13,hE19,hE20,hE23,hE24,hE25,hds,hs⟩
       have hM:=hKhx102
       obtain ⟨E,rfl⟩:=open8 (E:=E) hE1 hE2 hE3 hE7 hE8 hE9 hE10 hE13
       obtain ⟨E,rfl⟩:=open5 (E:=E) hE19 hE20 hE23 hE24 hE25
       refine WP_region<|O (r_move (v:=v357) rfl) rfl<|O (r_move (v:=Value.int .i64 e287) rfl) rfl<|OW_lit (τ:=(tInt .i64)) [Value.int .i64 e287] [e287] Tryz.underlying34 ti3 (by decide) hs rfl rfl rfl ⟨rfl,trivial⟩ rfl ?_
       intro v363 wv284 xs288 hrelxs288 hs
       obtain ⟨y89,hy89,hM⟩:=bindS hM
       refine OW_append Tryz.underlying34 ti3 rfl (by decide) (by decide) hs (i:=1) rfl hrelxs284 (v:=v357) rfl (u:=v363) rfl (hs.rowSrc (i:=0) rfl) hrelxs288 hy89 rfl ?_
       intro v364 wv285 xs289 hrelxs289 hs
       refine O (r_assign (v:=v364) rfl) rfl<|OW_nil<|WP_region ?_
       obtain ⟨t77,ht77,hM⟩:=bindS hM
       refine O (r_addM rfl rfl ht77) rfl<|O (r_move (v:=Value.int .i64 t77) rfl) rfl<|OW_nil ?_
       obtain rfl:=Option.some.inj hM
       exact ⟨gg279,v364,xs289,rfl,rfl,rfl,rfl,rfl,rfl,rfl,rfl,rfl,rfl,rfl,rfl,hds,hlegg276,hrelxs289,(hs.sub (.cons _ (.cons_cons _ (.cons_cons _ (.cons_cons _ (.cons_cons _ .slnil))))))⟩
     ·refine WP_false rfl hc242<|WP_exit ?_
      obtain rfl:=Option.some.inj hM
      refine fun hr=>?_
      have hM:=congrArg some hr
      obtain rfl:=Option.some.inj hM
      exact ⟨gg276,v357,xs284,v248,xs195,rfl,rfl,rfl,rfl,rfl,rfl,rfl,rfl,rfl,hds,hlegg276,hrelxs284,hrelxs195,hs⟩
    ·clear hs
     rintro E w ⟨gg273,v352,xs279,v351,xs278,hE1,hE2,hE3,hE7,hE8,hE9,hE10,hE19,hE20,hds,hlegg273,hrelxs279,hrelxs278,hs⟩
     have hM:=hKhx99
     obtain ⟨E,rfl⟩:=open8 (E:=E) hE1 hE2 hE3 hE7 hE8 hE9 hE10 hE19
     obtain ⟨E,rfl⟩:=open1 (E:=E) hE20
     replace hagg194:=hagg194.trans hlegg273
     refine WP_seq<|WP_region<|O (r_move (v:=Value.map (some b2)) rfl) rfl<|O (r_move (v:=v352) rfl) rfl ?_
     have hsL34:=hs
     have hrelxs279L34:=hrelxs279
     have hrelxs278L34:=hrelxs278
     have hagg194L34:=hagg194
     obtain ⟨gg280,hlegg280,hRgg280,hs⟩:=hs.relRow (i:=0) rfl hrelxs279
     replace hrelxs278:=hrelxs278.mono hlegg280
     replace hagg194:=hagg194.trans hlegg280
     obtain ⟨rv106,hrv106,hM⟩:=bindS hM
     refine C [v352] cf121 rfl (dfa_wide_ok hrv106 hs.imm hRgg280) rfl ?_
     rintro v365 wv286 ⟨gg281,hvv365,hegg281⟩
     obtain ⟨gg282,hlegg282,hs⟩:=hsL34.lent hegg281
     replace hrelxs279:=hrelxs279L34.mono hlegg282
     replace hrelxs278:=hrelxs278L34.mono hlegg282
     replace hagg194:=hagg194L34.trans hlegg282
     obtain ⟨cs326,rfl,hcs326⟩:=hvv365
     have hcs326:cs326=_:=hcs326; subst hcs326
     refine O (r_lookup (z:=0) (kk:=rv106) Tryz.underlying137 ti3 (keyLaw_str Tryz.underlying9) hs (i:=1) rfl hmes33 rfl rfl) rfl<|O (r_move (v:=Value.tuple #[Value.int .i64 ((mget m17 rv106).getD 0),Value.bool ((mget m17 rv106).isSome)]) rfl) rfl<|O (r_extract (vs:=[Value.int .i64 ((mget m17 rv106).getD 0),Value.bool ((mget m17 rv106).isSome)]) (v:=Value.int .i64 ((mget m17 rv106).getD 0)) rfl rfl) rfl<|O (r_extract (vs:=[Value.int .i64 ((mget m17 rv106).getD 0),Value.bool ((mget m17 rv106).isSome)]) (v:=Value.bool ((mget m17 rv106).isSome)) rfl rfl) rfl<|O (r_assign (v:=Value.int .i64 ((mget m17 rv106).getD 0)) rfl) rfl<|O (r_assign (v:=Value.bool ((mget m17 rv106).isSome)) rfl) rfl ?_
     refine OW_nil ?_
     obtain ⟨⟨m24,xv174⟩,hx103,hKhx103⟩:=bindS hM
     refine WP_cut (fun E w=>∃(gg286:Hp) (es47:Array MapEntry) (ck47:Nat),E 1=v1∧E 2=v2∧E 3=Value.pointer (some ⟨b1,0,none⟩)∧E 7=v351∧E 8=Value.map (some b2)∧E 9=Value.int .i64 xv117∧E 14=Value.int .i64 xv174∧E 19=Value.int .i64 (l1.length:Int)∧E 20=Value.int .i64 xv117∧E.ds=[]∧Hle gg282 gg286∧MRel encS (Value.int .i64) es47 ck47 m24∧Go.Lx.Sep g0 w0 gg286 w [.obj b2 (.map es47 ck47),.row v351 3 (tInt .i64).sz l7.length xs278,Go.Lx.box b1 37 ([v3,v4,v5])]) ?_ ?_
     ·have hM:=hx103
      have hagg282:=Hle.refl gg282
      refine WP_seq<|WP_region<|O (r_move (v:=Value.bool ((mget m17 rv106).isSome)) rfl) rfl<|O (r_not rfl) rfl<|OW_nil ?_
      rcases condS hM with ⟨hc246,hM⟩|⟨hc246,hM⟩
      ·refine WP_true rfl hc246<|WP_seq<|WP_region<|O (r_move (v:=Value.map (some b2)) rfl) rfl<|O (r_lenMap Tryz.underlying137 hs (i:=1) rfl hmes33 rfl) rfl<|O (r_assign (v:=Value.int .i64 (m17.length:Int)) rfl) rfl<|OW_nil<|WP_region<|O (r_move (v:=Value.map (some b2)) rfl) rfl<|O (r_move (v:=v352) rfl) rfl ?_
       have hsL36:=hs
       have hagg282L36:=hagg282
       obtain ⟨gg287,hlegg287,hRgg287,hs⟩:=hs.relRow (i:=0) rfl hrelxs279
       replace hagg282:=hagg282.trans hlegg287
       obtain ⟨rv108,hrv108,hM⟩:=bindS hM
       refine C [v352] cf121 rfl (dfa_wide_ok hrv108 hs.imm hRgg287) rfl ?_
       rintro v367 wv289 ⟨gg288,hvv367,hegg288⟩
       obtain ⟨gg289,hlegg289,hs⟩:=hsL36.lent hegg288
       replace hagg282:=hagg282L36.trans hlegg289
       obtain ⟨cs328,rfl,hcs328⟩:=hvv367
       have hcs328:cs328=_:=hcs328; subst hcs328
       refine O (r_move (v:=Value.int .i64 (m17.length:Int)) rfl) rfl<|OW_mapSet (kk:=rv108) (vv:=(m17.length:Int)) Tryz.underlying137 (keyLaw_str Tryz.underlying9) hs (i:=1) rfl hmes33 rfl rfl rfl ?_
       intro es48 ck48 wv290 hmes48 hs
       refine OW_nil ?_
       simp only [Option.some.injEq,Prod.mk.injEq] at hM
       obtain ⟨rfl,rfl⟩:=hM
       exact ⟨gg289,es48,ck48,rfl,rfl,rfl,rfl,rfl,rfl,rfl,rfl,rfl,hds,hagg282,hmes48,(hs.sub (.cons _ (.cons_cons _ (.cons_cons _ (.cons_cons _ .slnil)))))⟩
      ·refine WP_false rfl hc246<|WP_skip ?_
       simp only [Option.some.injEq,Prod.mk.injEq] at hM
       obtain ⟨rfl,rfl⟩:=hM
       exact ⟨gg282,es33,ck33,rfl,rfl,rfl,rfl,rfl,rfl,rfl,rfl,rfl,hds,(Hle.refl _),hmes33,(hs.sub (.cons _ (.cons_cons _ (.cons_cons _ (.cons_cons _ .slnil)))))⟩
     ·clear hs
      rintro E w ⟨gg286,es47,ck47,hE1,hE2,hE3,hE7,hE8,hE9,hE14,hE19,hE20,hds,hlegg286,hmes47,hs⟩
      have hM:=hKhx103
      obtain ⟨E,rfl⟩:=open8 (E:=E) hE1 hE2 hE3 hE7 hE8 hE9 hE14 hE19
      obtain ⟨E,rfl⟩:=open1 (E:=E) hE20
      replace hrelxs278:=hrelxs278.mono hlegg286
      replace hagg194:=hagg194.trans hlegg286
      refine WP_region<|O (r_move (v:=v351) rfl) rfl<|O (r_move (v:=Value.int .i64 xv117) rfl) rfl<|O (r_move (v:=Value.int .i64 xv174) rfl) rfl ?_
      obtain ⟨y90,hy90,hM⟩:=bindS hM
      obtain ⟨b230,cb230,hvb230,wv291,xs290,hstb230,hrelb230,hsb230⟩:=hs.rowPut (i:=1) rfl hrelxs278 hy90 (cs:=[Value.int .i64 xv174]) rfl
      refine O (r_idxSl Tryz.underlying34 ti3 (v:=v351) rfl hvb230 rfl (setL_some hy90).1 (setL_some hy90).2.1) rfl<|O0 (r_store ti3 rfl (v:=Value.int .i64 xv174) rfl rfl hstb230) ?_
      have hs:=hsb230
      refine OW_nil ?_
      simp only [Option.some.injEq,Prod.mk.injEq] at hM
      obtain ⟨rfl,rfl⟩:=hM
      exact ⟨gg286,es47,ck47,v351,xs290,rfl,rfl,rfl,rfl,rfl,rfl,rfl,hds,hagg194,hmes47,hrelb230,hs⟩
   ·clear hs
    rintro E w ⟨gg266,es45,ck45,v338,xs267,hE1,hE2,hE3,hE7,hE8,hE19,hE20,hds,hlegg266,hmes45,hrelxs267,hs⟩
    have hM:=hKhx95
    obtain ⟨E,rfl⟩:=open7 (E:=E) hE1 hE2 hE3 hE7 hE8 hE19 hE20
    replace hlegg194:=hlegg194.trans hlegg266
    refine WP_region ?_
    obtain ⟨t78,ht78,hM⟩:=bindS hM
    refine O (r_addM rfl rfl ht78) rfl<|O (r_move (v:=Value.int .i64 t78) rfl) rfl<|OW_nil ?_
    obtain rfl:=Option.some.inj hM
    exact ⟨gg266,es45,ck45,v338,xs267,rfl,rfl,rfl,rfl,rfl,rfl,rfl,hds,hlegg194,hmes45,hrelxs267,hs⟩
  ·refine WP_false rfl hc206<|WP_exit ?_
   obtain rfl:=Option.some.inj hM
   refine fun hr=>?_
   have hM:=congrArg some hr
   obtain rfl:=Option.some.inj hM
   exact ⟨gg194,v248,xs195,rfl,hds,hlegg194,hrelxs195,(hs.sub (.cons _ (.cons_cons _ (.cons _ .slnil))))⟩
 ·clear hs
  rintro E w ⟨gg145,v187,xs146,hE7,hds,hlegg145,hrelxs146,hs⟩
  have hM:=hKhx52
  obtain ⟨E,rfl⟩:=open1 (E:=E) hE7
  refine WP_seq<|WP_region<|O (r_move (v:=v187) rfl) rfl<|O (r_assign (v:=v187) rfl) rfl<|OW_nil<|WP_ret ?_
  obtain rfl:=Option.some.inj hM
  refine FL_nil hds ?_
  exact ⟨_,res1 Tryz.results99 (rv_tmp (v:=v187) rfl),gg145,xs146,hrelxs146,hs⟩
end Go.Proofs.YtggpjcdhflcfmaaGreatDoor
