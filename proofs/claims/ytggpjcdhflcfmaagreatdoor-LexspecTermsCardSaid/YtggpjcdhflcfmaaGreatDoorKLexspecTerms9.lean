/- Part 9 of what the law leans on: my own layer, printed walks, plain facts. -/
import Derived.Test.YtggpjcdhflcfmaaGreatDoorKLexspecTerms8
set_option linter.unusedVariables false
set_option linter.unusedSimpArgs false
namespace Go.Proofs.YtggpjcdhflcfmaaGreatDoor
open Go.Lx Go.RowKit
set_option maxRecDepth 100000 in
theorem nfa_Closure_ok {nv1:T_NFA} {states1:(List Int)} {r:(List Int)} (hM:M.nfa_Closure nv1 states1=some r) {g0:Hp} {w0:World} (hi:Imm g0 w0) {cs1:List Value} (hcs1:tT_NFA.rel g0 cs1 nv1) {v1:Value} (hRv1:RdS (tInt .i64) g0 v1 states1) :
    CallsV Tryz.prog 92 #[Value.agg cs1.toArray,v1] w0 (fun v w'=>∃g' y0,(RowRel (tInt .i64) g' y0 r)∧Sep g0 w0 g' w' [.row v 3 (tInt .i64).sz r.length y0]):=by
 unfold M.nfa_Closure at hM
 obtain ⟨cs2,cs3,cs4,cs5,rfl,hcs2,hcs3,hcs4,hcs5⟩:=hcs1
 have hcs2:cs2=_:=hcs2; subst hcs2
 have hcs3:cs3=_:=hcs3; subst hcs3
 obtain ⟨v2,rfl,hRv2⟩:=hcs4
 obtain ⟨v3,rfl,hRv3⟩:=hcs5
 have hs:=Sep.start hi
 refine calls_of_WP (args:=[Value.agg (List.toArray (α:=Value) [Value.int .i64 nv1.States,Value.int .i64 nv1.Start,v2,v3]),v1]) Tryz.func92 rfl Tryz.ntmps92 rfl ?_
 have hds:(argEnv [Value.agg (List.toArray (α:=Value) [Value.int .i64 nv1.States,Value.int .i64 nv1.Start,v2,v3]),v1]).ds=[]:=rfl
 refine WP_seq<|WP_region<|OW_box (v:=Value.agg (List.toArray (α:=Value) [Value.int .i64 nv1.States,Value.int .i64 nv1.Start,v2,v3])) rfl hs (zs:=[Value.int .i64 nv1.States,Value.int .i64 nv1.Start,v2,v3]) rfl rfl ?_
 intro b1 wv1 hs
 refine O (r_assign (v:=Value.slice none 0 0) rfl) rfl<|OW_nil<|WP_seq<|WP_region<|O (r_fieldAddr Tryz.underlying71 ti3 rfl rfl (by decide) rfl rfl) rfl<|O (r_load (v:=Value.int .i64 nv1.States) ti3 rfl (hs.cell (i:=0) (o:=0) rfl rfl)) rfl ?_
 obtain ⟨l1,hl1,hM⟩:=bindS hM
 refine OW_make (τ:=tBool) (zc:=[Value.bool false]) (zx:=false) Tryz.underlying65 ti4 rfl rfl (by decide) hs rfl rfl hl1 rfl ?_
 intro v4 wv2 xs1 hrelxs1 hs
 refine OW_alloc ti65 hs (zs:=[Value.slice none 0 0]) rfl rfl ?_
 intro b2 wv3 hs
 refine OW_store1 ti65 hs (i:=0) rfl rfl (v:=v4) rfl (by obtain ⟨_,_,h9⟩:=hs.rowShape (i:=1) rfl; rw [h9]; rfl) (o:=0) (Nat.zero_lt_succ _) ?_
 intro wv4 hs
 refine OW_nil<|WP_seq<|WP_region<|OW_alloc ti34 hs (zs:=[Value.slice none 0 0]) rfl rfl ?_
 intro b3 wv5 hs
 refine OW_nil<|WP_seq<|WP_region<|O (r_makeFunc (vs:=[Value.pointer (some ⟨b1,0,none⟩),Value.pointer (some ⟨b2,0,none⟩),Value.pointer (some ⟨b3,0,none⟩)]) rfl) rfl<|O (r_assign (v:=Value.func (.func 117) #[] (List.toArray [Value.pointer (some ⟨b1,0,none⟩),Value.pointer (some ⟨b2,0,none⟩),Value.pointer (some ⟨b3,0,none⟩)])) rfl) rfl<|OW_nil ?_
 obtain ⟨⟨l5,xv7⟩,hx1,hKhx1⟩:=bindS hM
 refine WP_cut (fun E w=>∃(gg7:Hp) (v21:Value) (xs15:List Value) (v20:Value) (xs14:List Value),E 2=Value.pointer (some ⟨b1,0,none⟩)∧E 5=Value.pointer (some ⟨b2,0,none⟩)∧E 6=Value.pointer (some ⟨b3,0,none⟩)∧E 7=Value.func (.func 117) #[] (List.toArray [Value.pointer (some ⟨b1,0,none⟩),Value.pointer (some ⟨b2,0,none⟩),Value.pointer (some ⟨b3,0,none⟩)])∧E.ds=[]∧Hle g0 gg7∧RowRel (tInt .i64) gg7 xs15 xv7∧RowRel tBool gg7 xs14 l5∧Go.Lx.Sep g0 w0 gg7 w [.row v21 3 (tInt .i64).sz xv7.length xs15,Go.Lx.box b3 34 ([v21]),Go.Lx.box b2 65 ([v20]),.row v20 4 tBool.sz l5.length xs14,Go.Lx.box b1 71 ([Value.int .i64 nv1.States,Value.int .i64 nv1.Start,v2,v3])]) ?_ ?_
 ·have hM:=hx1
  have hag0:=Hle.refl g0
  refine WP_seq<|WP_region<|O (r_move (v:=v1) rfl) rfl ?_
  obtain ⟨a2,ca2,hva2⟩:=hRv1.shape
  refine O (r_lenSl (v:=v1) Tryz.underlying34 rfl hva2) rfl<|O (r_move (v:=Value.int .i64 0) rfl) rfl<|OW_nil<|WP_block ?_
  have hs:=hs.nilRow 3 (tInt .i64).sz
  refine WP_loop (fun (st9:(List Bool)×(List Int)×Int) E w=>match st9 with|(l7,xv10,xv11)=>∃(gg10:Hp) (v28:Value) (xs21:List Value) (v27:Value) (xs20:List Value),E 2=Value.pointer (some ⟨b1,0,none⟩)∧E 5=Value.pointer (some ⟨b2,0,none⟩)∧E 6=Value.pointer (some ⟨b3,0,none⟩)∧E 7=Value.func (.func 117) #[] (List.toArray [Value.pointer (some ⟨b1,0,none⟩),Value.pointer (some ⟨b2,0,none⟩),Value.pointer (some ⟨b3,0,none⟩)])∧E 17=v1∧E 18=Value.int .i64 (states1.length:Int)∧E 19=Value.int .i64 xv11∧E.ds=[]∧Hle g0 gg10∧RowRel (tInt .i64) gg10 xs21 xv10∧RowRel tBool gg10 xs20 l7∧Go.Lx.Sep g0 w0 gg10 w [.row v28 3 (tInt .i64).sz xv10.length xs21,Go.Lx.box b3 34 ([v28]),Go.Lx.box b2 65 ([v27]),.row v27 4 tBool.sz l7.length xs20,Go.Lx.box b1 71 ([Value.int .i64 nv1.States,Value.int .i64 nv1.Start,v2,v3])]) hM ⟨g0,(Value.slice none 0 0),[],v4,xs1,rfl,rfl,rfl,rfl,rfl,rfl,rfl,hds,(Hle.refl _),RowRel.nil,hrelxs1,hs⟩ ?_
  clear hs hM
  rintro ⟨l7,xv10,xv11⟩ o2 E w hM ⟨gg10,v28,xs21,v27,xs20,hE2,hE5,hE6,hE7,hE17,hE18,hE19,hds,hlegg10,hrelxs21,hrelxs20,hs⟩
  obtain ⟨E,rfl⟩:=open7 (E:=E) hE2 hE5 hE6 hE7 hE17 hE18 hE19
  replace hRv2:=hRv2.mono hlegg10
  replace hRv3:=hRv3.mono hlegg10
  replace hRv1:=hRv1.mono hlegg10
  have hagg10:=Hle.refl gg10
  refine WP_seq<|WP_region<|O (r_lss rfl rfl) rfl<|OW_nil<|WP_seq ?_
  rcases condS hM with ⟨hc6,hM⟩|⟨hc6,hM⟩
  ·refine WP_true rfl hc6<|WP_skip<|WP_seq<|WP_block<|WP_seq<|WP_region ?_
   obtain ⟨e6,he6,hM⟩:=bindS hM
   obtain ⟨b9,ob9,cb9,hvb9,cs11,hcs11,hcb9⟩:=hRv1.at he6
   have hcs11:cs11=_:=hcs11; subst hcs11
   refine O (r_idxSl Tryz.underlying34 ti3 (v:=v1) rfl hvb9 rfl (idxL_some he6).1 (idxL_some he6).2.1) rfl<|O (r_loadEl (cs:=[Value.int .i64 e6]) ti3 rfl rfl (.inr rfl) (hcb9 _ hs.imm) (v:=Value.int .i64 e6) rfl) rfl<|O (r_assign (v:=Value.int .i64 e6) rfl) rfl<|OW_nil<|WP_region<|O (r_move (v:=Value.func (.func 117) #[] (List.toArray [Value.pointer (some ⟨b1,0,none⟩),Value.pointer (some ⟨b2,0,none⟩),Value.pointer (some ⟨b3,0,none⟩)])) rfl) rfl<|O (r_move (v:=Value.int .i64 e6) rfl) rfl ?_
   have hs:Go.Lx.Sep g0 w0 gg10 _ [Go.Lx.box b1 71 ([Value.int .i64 nv1.States,Value.int .i64 nv1.Start,v2,v3]),Go.Lx.box b2 65 ([v27]),.row v27 4 tBool.sz l7.length xs20,Go.Lx.box b3 34 ([v28]),.row v28 3 (tInt .i64).sz xv10.length xs21]:=(hs.sel [4,2,3,1,0] (by decide) rfl)
   obtain ⟨rv6,hrv6,hM⟩:=bindS hM
   refine CV [Value.int .i64 e6] [Value.pointer (some ⟨b1,0,none⟩),Value.pointer (some ⟨b2,0,none⟩),Value.pointer (some ⟨b3,0,none⟩)] cf117 rfl rfl (nfa_Closure_1_ok hrv6 hs hRv2 hRv3 hrelxs20 hrelxs21) rfl ?_
   rintro v34 wv11 ⟨gg13,v35,xs26,v36,xs27,hvv34,hlegg13,hrelxs26,hrelxs27,hs⟩
   replace hlegg10:=hlegg10.trans hlegg13
   refine OW_nil<|WP_region ?_
   obtain ⟨t6,ht6,hM⟩:=bindS hM
   refine O (r_addM rfl rfl ht6) rfl<|O (r_move (v:=Value.int .i64 t6) rfl) rfl<|OW_nil ?_
   obtain rfl:=Option.some.inj hM
   exact ⟨gg13,v36,xs27,v35,xs26,rfl,rfl,rfl,rfl,rfl,rfl,rfl,hds,hlegg10,hrelxs27,hrelxs26,(hs.sel [4,3,1,2,0] (by decide) rfl)⟩
  ·refine WP_false rfl hc6<|WP_exit ?_
   obtain rfl:=Option.some.inj hM
   refine fun hr=>?_
   have hM:=congrArg some hr
   simp only [Option.some.injEq,Prod.mk.injEq] at hM
   obtain ⟨rfl,rfl⟩:=hM
   exact ⟨gg10,v28,xs21,v27,xs20,rfl,rfl,rfl,rfl,hds,hlegg10,hrelxs21,hrelxs20,hs⟩
 ·clear hs
  rintro E w ⟨gg7,v21,xs15,v20,xs14,hE2,hE5,hE6,hE7,hds,hlegg7,hrelxs15,hrelxs14,hs⟩
  have hM:=hKhx1
  obtain ⟨E,rfl⟩:=open4 (E:=E) hE2 hE5 hE6 hE7
  replace hRv2:=hRv2.mono hlegg7
  replace hRv3:=hRv3.mono hlegg7
  obtain ⟨l33,hx29,hKhx29⟩:=bindS hM
  refine WP_cut (fun E w=>∃(gg53:Hp) (v136:Value) (xs109:List Value),E 5=Value.pointer (some ⟨b2,0,none⟩)∧E.ds=[]∧Hle gg7 gg53∧RowRel tBool gg53 xs109 l33∧Go.Lx.Sep g0 w0 gg53 w [Go.Lx.box b2 65 ([v136]),.row v136 4 tBool.sz l33.length xs109]) ?_ ?_
  ·have hM:=hx29
   have hagg7:=Hle.refl gg7
   refine WP_block<|WP_loop (fun (st9:(List Bool)×(List Int)) E w=>match st9 with|(l42,xv78)=>∃(gg67:Hp) (v171:Value) (xs138:List Value) (v170:Value) (xs137:List Value),E 2=Value.pointer (some ⟨b1,0,none⟩)∧E 5=Value.pointer (some ⟨b2,0,none⟩)∧E 6=Value.pointer (some ⟨b3,0,none⟩)∧E 7=Value.func (.func 117) #[] (List.toArray [Value.pointer (some ⟨b1,0,none⟩),Value.pointer (some ⟨b2,0,none⟩),Value.pointer (some ⟨b3,0,none⟩)])∧E.ds=[]∧Hle gg7 gg67∧RowRel (tInt .i64) gg67 xs138 xv78∧RowRel tBool gg67 xs137 l42∧Go.Lx.Sep g0 w0 gg67 w [.row v171 3 (tInt .i64).sz xv78.length xs138,Go.Lx.box b3 34 ([v171]),Go.Lx.box b2 65 ([v170]),.row v170 4 tBool.sz l42.length xs137,Go.Lx.box b1 71 ([Value.int .i64 nv1.States,Value.int .i64 nv1.Start,v2,v3])]) hM ⟨gg7,v21,xs15,v20,xs14,rfl,rfl,rfl,rfl,hds,(Hle.refl _),hrelxs15,hrelxs14,hs⟩ ?_
   clear hs hM
   rintro ⟨l42,xv78⟩ o9 E w hM ⟨gg67,v171,xs138,v170,xs137,hE2,hE5,hE6,hE7,hds,hlegg67,hrelxs138,hrelxs137,hs⟩
   obtain ⟨E,rfl⟩:=open4 (E:=E) hE2 hE5 hE6 hE7
   replace hRv2:=hRv2.mono hlegg67
   replace hRv3:=hRv3.mono hlegg67
   have hagg67:=Hle.refl gg67
   refine WP_seq<|WP_seq<|WP_region<|O (r_load (v:=v171) ti34 rfl (hs.cell (i:=1) (o:=0) rfl rfl)) rfl ?_
   obtain ⟨a23,ca23,hva23⟩:=hs.rowShape (i:=0) rfl
   refine O (r_lenSl (v:=v171) Tryz.underlying34 rfl hva23) rfl<|O (r_gtr rfl rfl) rfl<|OW_nil ?_
   rcases condS hM with ⟨hc57,hM⟩|⟨hc57,hM⟩
   ·refine WP_true rfl hc57<|WP_skip<|WP_block<|WP_seq<|WP_region<|O (r_load (v:=v171) ti34 rfl (hs.cell (i:=1) (o:=0) rfl rfl)) rfl<|O (r_load (v:=v171) ti34 rfl (hs.cell (i:=1) (o:=0) rfl rfl)) rfl ?_
    obtain ⟨a24,ca24,hva24⟩:=hs.rowShape (i:=0) rfl
    refine O (r_lenSl (v:=v171) Tryz.underlying34 rfl hva24) rfl ?_
    obtain ⟨t27,ht27,hM⟩:=bindS hM
    refine O (r_subM rfl rfl ht27) rfl ?_
    obtain ⟨e42,he42,hM⟩:=bindS hM
    obtain ⟨b75,cb75,hvb75,cs167,hcs167,hcb75⟩:=hs.rowEl (i:=0) rfl hrelxs138 he42
    have hcs167:cs167=_:=hcs167; subst hcs167
    refine O (r_idxSl Tryz.underlying34 ti3 (v:=v171) rfl hvb75 rfl (idxL_some he42).1 (idxL_some he42).2.1) rfl<|O (r_loadEl (cs:=[Value.int .i64 e42]) ti3 rfl rfl (.inr rfl) (hcb75 _ (hs.at (i:=0) rfl)) (v:=Value.int .i64 e42) rfl) rfl<|O (r_assign (v:=Value.int .i64 e42) rfl) rfl<|OW_nil<|WP_seq<|WP_region<|O (r_load (v:=v171) ti34 rfl (hs.cell (i:=1) (o:=0) rfl rfl)) rfl<|O (r_load (v:=v171) ti34 rfl (hs.cell (i:=1) (o:=0) rfl rfl)) rfl ?_
    obtain ⟨a25,ca25,hva25⟩:=hs.rowShape (i:=0) rfl
    refine O (r_lenSl (v:=v171) Tryz.underlying34 rfl hva25) rfl<|O (r_subM rfl rfl ht27) rfl ?_
    obtain ⟨l51,hl51,hM⟩:=bindS hM
    obtain ⟨v205,xs166,hrelxs166,hs,hrunv205⟩:=hs.rowCut (i:=0) rfl hrelxs138 hl51
    refine O (hrunv205 Tryz.underlying34 ti3 rfl Bnd.none (Bnd.some rfl)) rfl<|OW_store1 ti34 hs (i:=1) rfl rfl (v:=v205) rfl (by obtain ⟨_,_,h9⟩:=hs.rowShape (i:=0) rfl; rw [h9]; rfl) (o:=0) (Nat.zero_lt_succ _) ?_
    intro wv107 hs
    refine OW_nil<|WP_seq<|WP_region<|O (r_fieldAddr Tryz.underlying71 ti69 rfl rfl (by decide) rfl rfl) rfl<|O (r_load (v:=v2) ti69 rfl (hs.cell (i:=4) (o:=2) rfl rfl)) rfl ?_
    obtain ⟨a26,ca26,hva26⟩:=hRv2.shape
    refine O (r_lenSl (v:=v2) Tryz.underlying69 rfl hva26) rfl<|O (r_move (v:=Value.int .i64 0) rfl) rfl<|OW_nil<|WP_block<|WP_loop (fun (st9:(List Bool)×(List Int)×Int) E w=>match st9 with|(l54,l55,xv100)=>∃(gg85:Hp) (v217:Value) (xs176:List Value) (v216:Value) (xs175:List Value),E 2=Value.pointer (some ⟨b1,0,none⟩)∧E 5=Value.pointer (some ⟨b2,0,none⟩)∧E 6=Value.pointer (some ⟨b3,0,none⟩)∧E 7=Value.func (.func 117) #[] (List.toArray [Value.pointer (some ⟨b1,0,none⟩),Value.pointer (some ⟨b2,0,none⟩),Value.pointer (some ⟨b3,0,none⟩)])∧E 10=Value.int .i64 e42∧E 42=v2∧E 43=Value.int .i64 (nv1.Arcs.length:Int)∧E 44=Value.int .i64 xv100∧E.ds=[]∧Hle gg67 gg85∧RowRel (tInt .i64) gg85 xs176 l55∧RowRel tBool gg85 xs175 l54∧Go.Lx.Sep g0 w0 gg85 w [.row v217 3 (tInt .i64).sz l55.length xs176,Go.Lx.box b3 34 ([v217]),Go.Lx.box b2 65 ([v216]),.row v216 4 tBool.sz l54.length xs175,Go.Lx.box b1 71 ([Value.int .i64 nv1.States,Value.int .i64 nv1.Start,v2,v3])]) hM ⟨gg67,v205,xs166,v170,xs137,rfl,rfl,rfl,rfl,rfl,rfl,rfl,rfl,hds,(Hle.refl _),hrelxs166,hrelxs137,hs⟩ ?_
    clear hs hM
    rintro ⟨l54,l55,xv100⟩ o10 E w hM ⟨gg85,v217,xs176,v216,xs175,hE2,hE5,hE6,hE7,hE10,hE42,hE43,hE44,hds,hlegg85,hrelxs176,hrelxs175,hs⟩
    obtain ⟨E,rfl⟩:=open8 (E:=E) hE2 hE5 hE6 hE7 hE10 hE42 hE43 hE44
    replace hRv2:=hRv2.mono hlegg85
    replace hRv3:=hRv3.mono hlegg85
    replace hlegg67:=hlegg67.trans hlegg85
    have hagg85:=Hle.refl gg85
    refine WP_seq<|WP_region<|O (r_lss rfl rfl) rfl<|OW_nil<|WP_seq ?_
    rcases condS hM with ⟨hc64,hM⟩|⟨hc64,hM⟩
    ·refine WP_true rfl hc64<|WP_skip ?_
     obtain ⟨⟨xv107,xv108⟩,hx55,hKhx55⟩:=bindS hM
     refine WP_cut (fun E w=>∃(gg91:Hp) (v231:Value) (xs187:List Value) (v232:Value) (xs188:List Value),E 2=Value.pointer (some ⟨b1,0,none⟩)∧E 5=Value.pointer (some ⟨b2,0,none⟩)∧E 6=Value.pointer (some ⟨b3,0,none⟩)∧E 7=Value.func (.func 117) #[] (List.toArray [Value.pointer (some ⟨b1,0,none⟩),Value.pointer (some ⟨b2,0,none⟩),Value.pointer (some ⟨b3,0,none⟩)])∧E 10=Value.int .i64 e42∧E 42=v2∧E 43=Value.int .i64 (nv1.Arcs.length:Int)∧E 44=Value.int .i64 xv100∧E.ds=[]∧Hle gg85 gg91∧RowRel tBool gg91 xs187 xv107∧RowRel (tInt .i64) gg91 xs188 xv108∧Go.Lx.Sep g0 w0 gg91 w [Go.Lx.box b1 71 ([Value.int .i64 nv1.States,Value.int .i64 nv1.Start,v2,v3]),Go.Lx.box b2 65 ([v231]),.row v231 4 tBool.sz xv107.length xs187,Go.Lx.box b3 34 ([v232]),.row v232 3 (tInt .i64).sz xv108.length xs188]) ?_ ?_
     ·have hM:=hx55
      refine WP_block<|WP_seq<|WP_region ?_
      obtain ⟨e48,he48,hM⟩:=bindS hM
      obtain ⟨b86,ob86,cb86,hvb86,cs193,hcs193,hcb86⟩:=hRv2.at he48
      obtain ⟨cs194,cs195,cs196,cs197,rfl,hcs194,hcs195,hcs196,hcs197⟩:=hcs193
      have hcs194:cs194=_:=hcs194; subst hcs194
      have hcs195:cs195=_:=hcs195; subst hcs195
      have hcs196:cs196=_:=hcs196; subst hcs196
      have hcs197:cs197=_:=hcs197; subst hcs197
      refine O (r_idxSl Tryz.underlying69 ti95 (v:=v2) rfl hvb86 rfl (idxL_some he48).1 (idxL_some he48).2.1) rfl<|O (r_loadEl (cs:=([Value.int .i64 e48.From])++(([Value.int .i64 e48.To])++(([Value.bool e48.Epsilon])++(e48.Set.1.map (Value.int .u64))))) ti95 rfl (by simp [e48.Set.2]) (.inl rfl) (hcb86 _ hs.imm) (v:=Value.agg (List.toArray (α:=Value) (([Value.int .i64 e48.From])++(([Value.int .i64 e48.To])++(([Value.bool e48.Epsilon])++(e48.Set.1.map (Value.int .u64))))))) rfl) rfl<|OW_alloc ti95 hs (zs:=([Value.int .i64 0])++(([Value.int .i64 0])++(([Value.bool false])++((Vec.zero 4).1.map (Value.int .u64))))) rfl rfl ?_
      intro b87 wv123 hs
      refine OW_storeAll ti95 hs (i:=0) rfl rfl (v:=Value.agg (List.toArray (α:=Value) (([Value.int .i64 e48.From])++(([Value.int .i64 e48.To])++(([Value.bool e48.Epsilon])++(e48.Set.1.map (Value.int .u64))))))) rfl (vs:=([Value.int .i64 e48.From])++(([Value.int .i64 e48.To])++(([Value.bool e48.Epsilon])++(e48.Set.1.map (Value.int .u64))))) rfl (one_append (one_cons rfl one_nil) (one_append (one_cons rfl one_nil) (one_append (one_cons rfl one_nil) vec_one))) (by simp [e48.Set.2]) (by simp [e48.Set.2,(Vec.zero 4).2]) ?_
      intro wv124 hs
      refine OW_nil ?_
      obtain ⟨xv109,hx56,hKhx56⟩:=bindS hM
      refine WP_cut (fun E w=>E 2=Value.pointer (some ⟨b1,0,none⟩)∧E 5=Value.pointer (some ⟨b2,0,none⟩)∧E 6=Value.pointer (some ⟨b3,0,none⟩)∧E 7=Value.func (.func 117) #[] (List.toArray [Value.pointer (some ⟨b1,0,none⟩),Value.pointer (some ⟨b2,0,none⟩),Value.pointer (some ⟨b3,0,none⟩)])∧E 10=Value.int .i64 e42∧E 12=Value.pointer (some ⟨b87,0,none⟩)∧E 42=v2∧E 43=Value.int .i64 (nv1.Arcs.length:Int)∧E 44=Value.int .i64 xv100∧E 55=Value.bool xv109∧E.ds=[]∧Go.Lx.Sep g0 w0 gg85 w [Go.Lx.box b87 95 (([Value.int .i64 e48.From])++(([Value.int .i64 e48.To])++(([Value.bool e48.Epsilon])++(e48.Set.1.map (Value.int .u64))))),.row v217 3 (tInt .i64).sz l55.length xs176,Go.Lx.box b3 34 ([v217]),Go.Lx.box b2 65 ([v216]),.row v216 4 tBool.sz l54.length xs175,Go.Lx.box b1 71 ([Value.int .i64 nv1.States,Value.int .i64 nv1.Start,v2,v3])]) ?_ ?_
      ·have hM:=hx56
       refine WP_region<|O (r_fieldAddr Tryz.underlying95 ti4 rfl rfl (by decide) rfl rfl) rfl<|O (r_load (v:=Value.bool e48.Epsilon) ti4 rfl (hs.cell (i:=0) (o:=2) rfl (by simp [e48.Set.2]))) rfl<|O (r_move (v:=Value.bool e48.Epsilon) rfl) rfl ?_
       rcases condS hM with ⟨hg72,hM⟩|⟨hg72,hM⟩
       ·refine OG rfl rfl rfl (by rw [hg72]; rfl) (r_fieldAddr Tryz.underlying95 ti3 rfl rfl (by decide) rfl rfl) rfl<|OG rfl rfl rfl (by rw [hg72]; rfl) (r_load (v:=Value.int .i64 e48.From) ti3 rfl (hs.cell (i:=0) (o:=0) rfl (by simp [e48.Set.2]))) rfl<|OG rfl rfl rfl (by rw [hg72]; rfl) (r_move (v:=Value.int .i64 e42) rfl) rfl<|OG rfl rfl rfl (by rw [hg72]; rfl) (r_eql rfl rfl) rfl<|O (r_pickT (v:=Value.bool (e48.From == e42)) rfl hg72 rfl) rfl<|OW_nil ?_
        obtain rfl:=Option.some.inj hM
        exact ⟨rfl,rfl,rfl,rfl,rfl,rfl,rfl,rfl,rfl,rfl,hds,hs⟩
       ·refine OK rfl rfl rfl (by rw [hg72]; rfl) rfl<|OK rfl rfl rfl (by rw [hg72]; rfl) rfl<|OK rfl rfl rfl (by rw [hg72]; rfl) rfl<|OK rfl rfl rfl (by rw [hg72]; rfl) rfl<|O (r_pickF (v:=Value.bool false) rfl hg72 rfl) rfl<|OW_nil ?_
        obtain rfl:=Option.some.inj hM
        exact ⟨rfl,rfl,rfl,rfl,rfl,rfl,rfl,rfl,rfl,rfl,hds,hs⟩
      ·clear hs
       rintro E w ⟨hE2,hE5,hE6,hE7,hE10,hE12,hE42,hE43,hE44,hE55,hds,hs⟩
       have hM:=hKhx56
       obtain ⟨E,rfl⟩:=open8 (E:=E) hE2 hE5 hE6 hE7 hE10 hE12 hE42 hE43
       obtain ⟨E,rfl⟩:=open2 (E:=E) hE44 hE55
       rcases condS hM with ⟨hc66,hM⟩|⟨hc66,hM⟩
       ·refine WP_true rfl hc66<|WP_region<|O (r_move (v:=Value.func (.func 117) #[] (List.toArray [Value.pointer (some ⟨b1,0,none⟩),Value.pointer (some ⟨b2,0,none⟩),Value.pointer (some ⟨b3,0,none⟩)])) rfl) rfl<|O (r_fieldAddr Tryz.underlying95 ti3 rfl rfl (by decide) rfl rfl) rfl<|O (r_load (v:=Value.int .i64 e48.To) ti3 rfl (hs.cell (i:=0) (o:=1) rfl (by simp [e48.Set.2]))) rfl ?_
        have hs:Go.Lx.Sep g0 w0 gg85 _ [Go.Lx.box b1 71 ([Value.int .i64 nv1.States,Value.int .i64 nv1.Start,v2,v3]),Go.Lx.box b2 65 ([v216]),.row v216 4 tBool.sz l54.length xs175,Go.Lx.box b3 34 ([v217]),.row v217 3 (tInt .i64).sz l55.length xs176,Go.Lx.box b87 95 (([Value.int .i64 e48.From])++(([Value.int .i64 e48.To])++(([Value.bool e48.Epsilon])++(e48.Set.1.map (Value.int .u64)))))]:=(hs.sel [5,3,4,2,1,0] (by decide) rfl)
        obtain ⟨rv42,hrv42,hM⟩:=bindS hM
        refine CV [Value.int .i64 e48.To] [Value.pointer (some ⟨b1,0,none⟩),Value.pointer (some ⟨b2,0,none⟩),Value.pointer (some ⟨b3,0,none⟩)] cf117 rfl rfl (nfa_Closure_1_ok hrv42 hs hRv2 hRv3 hrelxs175 hrelxs176) rfl ?_
        rintro v233 wv125 ⟨gg92,v234,xs189,v235,xs190,hvv233,hlegg92,hrelxs189,hrelxs190,hs⟩
        replace hagg85:=hagg85.trans hlegg92
        refine OW_nil ?_
        simp only [Option.some.injEq,Prod.mk.injEq] at hM
        obtain ⟨rfl,rfl⟩:=hM
        exact ⟨gg92,v234,xs189,v235,xs190,rfl,rfl,rfl,rfl,rfl,rfl,rfl,rfl,hds,hagg85,hrelxs189,hrelxs190,(hs.sub (.cons_cons _ (.cons_cons _ (.cons_cons _ (.cons_cons _ (.cons_cons _ (.cons _ .slnil)))))))⟩
       ·refine WP_false rfl hc66<|WP_skip ?_
        simp only [Option.some.injEq,Prod.mk.injEq] at hM
        obtain ⟨rfl,rfl⟩:=hM
        exact ⟨gg85,v216,xs175,v217,xs176,rfl,rfl,rfl,rfl,rfl,rfl,rfl,rfl,hds,(Hle.refl _),hrelxs175,hrelxs176,(hs.sel [5,3,4,2,1] (by decide) rfl)⟩
     ·clear hs
      rintro E w ⟨gg91,v231,xs187,v232,xs188,hE2,hE5,hE6,hE7,hE10,hE42,hE43,hE44,hds,hlegg91,hrelxs187,hrelxs188,hs⟩
      have hM:=hKhx55
      obtain ⟨E,rfl⟩:=open8 (E:=E) hE2 hE5 hE6 hE7 hE10 hE42 hE43 hE44
      replace hlegg85:=hlegg85.trans hlegg91
      refine WP_region ?_
      obtain ⟨t30,ht30,hM⟩:=bindS hM
      refine O (r_addM rfl rfl ht30) rfl<|O (r_move (v:=Value.int .i64 t30) rfl) rfl<|OW_nil ?_
      obtain rfl:=Option.some.inj hM
      exact ⟨gg91,v232,xs188,v231,xs187,rfl,rfl,rfl,rfl,rfl,rfl,rfl,rfl,hds,hlegg85,hrelxs188,hrelxs187,(hs.sel [4,3,1,2,0] (by decide) rfl)⟩
    ·refine WP_false rfl hc64<|WP_exit ?_
     obtain rfl:=Option.some.inj hM
     refine fun hr=>?_
     have hM:=congrArg some hr
     obtain rfl:=Option.some.inj hM
     exact ⟨gg85,v217,xs176,v216,xs175,rfl,rfl,rfl,rfl,hds,hlegg67,hrelxs176,hrelxs175,hs⟩
   ·refine WP_false rfl hc57<|WP_exit ?_
    obtain rfl:=Option.some.inj hM
    refine fun hr=>?_
    have hM:=congrArg some hr
    obtain rfl:=Option.some.inj hM
    exact ⟨gg67,v170,xs137,rfl,hds,hlegg67,hrelxs137,(hs.sub (.cons _ (.cons _ (.cons_cons _ (.cons_cons _ (.cons _ .slnil))))))⟩
  ·clear hs
   rintro E w ⟨gg53,v136,xs109,hE5,hds,hlegg53,hrelxs109,hs⟩
   have hM:=hKhx29
   obtain ⟨E,rfl⟩:=open1 (E:=E) hE5
   refine WP_seq<|WP_region<|O (r_load (v:=v136) ti65 rfl (hs.cell (i:=0) (o:=0) rfl rfl)) rfl ?_
   have hsL1:=hs
   obtain ⟨gg93,hlegg93,hRgg93,hs⟩:=hs.relRow (i:=1) rfl hrelxs109
   obtain ⟨rv43,hrv43,hM⟩:=bindS hM
   refine C [v136] cf118 rfl (nfa_sorted_ok hrv43 hs.imm hRgg93) rfl ?_
   rintro v236 wv126 ⟨gg94,xs191,hvv236,hegg94⟩
   obtain ⟨gg95,hlegg95,hs⟩:=hsL1.lentOwn hegg94
   simp only [List.cons_append,List.nil_append] at hs
   have hvv236:RowRel (tInt .i64) gg95 xs191 rv43:=RowRel.flat (fun _ _ _ _ h=>h) hvv236
   refine O (r_assign (v:=v236) rfl) rfl<|OW_nil<|WP_ret ?_
   obtain rfl:=Option.some.inj hM
   refine FL_nil hds ?_
   exact ⟨_,res1 Tryz.results92 (rv_tmp (v:=v236) rfl),gg95,xs191,hvv236,(hs.sub (.cons_cons _ (.cons _ (.cons _ .slnil))))⟩
set_option maxRecDepth 100000 in
theorem dfa_key_ok {l1:(List Int)} {r:Str} (hM:M.dfa_key l1=some r) {g0:Hp} {w0:World} (hi:Imm g0 w0) {v1:Value} (hRv1:RdS (tInt .i64) g0 v1 l1) :
    CallsV Tryz.prog 93 #[v1] w0 (fun v w'=>∃g',(VRd tStr false g' v r)∧Ext g0 w0 g' w'):=by
 unfold M.dfa_key at hM
 have hs:=Sep.start hi
 refine calls_of_WP (args:=[v1]) Tryz.func93 rfl Tryz.ntmps93 rfl ?_
 have hds:(argEnv [v1]).ds=[]:=rfl
 refine WP_seq<|WP_region<|O (r_assign (v:=encS []) rfl) rfl<|OW_nil<|WP_seq<|WP_region<|O (r_assign (v:=Value.slice none 0 0) rfl) rfl<|OW_nil ?_
 obtain ⟨xv7,hx1,hKhx1⟩:=bindS hM
 refine WP_cut (fun E w=>∃(v11:Value) (xs11:List Value),E 3=v11∧E.ds=[]∧RowRel (tInt .u8) g0 xs11 xv7∧Go.Lx.Sep g0 w0 g0 w [.row v11 5 (tInt .u8).sz xv7.length xs11]) ?_ ?_
 ·have hM:=hx1
  have hag0:=Hle.refl g0
  refine WP_seq<|WP_region<|O (r_move (v:=v1) rfl) rfl ?_
  obtain ⟨a2,ca2,hva2⟩:=hRv1.shape
  refine O (r_lenSl (v:=v1) Tryz.underlying34 rfl hva2) rfl<|O (r_move (v:=Value.int .i64 0) rfl) rfl<|OW_nil<|WP_block ?_
  have hs:=hs.nilRow 5 (tInt .u8).sz
  refine WP_loop (fun (st9:(List Int)×Int) E w=>match st9 with|(xv10,xv11)=>∃(v15:Value) (xs16:List Value),E 3=v15∧E 6=v1∧E 7=Value.int .i64 (l1.length:Int)∧E 8=Value.int .i64 xv11∧E.ds=[]∧RowRel (tInt .u8) g0 xs16 xv10∧Go.Lx.Sep g0 w0 g0 w [.row v15 5 (tInt .u8).sz xv10.length xs16]) hM ⟨(Value.slice none 0 0),[],rfl,rfl,rfl,rfl,hds,RowRel.nil,hs⟩ ?_
  clear hs hM
  rintro ⟨xv10,xv11⟩ o2 E w hM ⟨v15,xs16,hE3,hE6,hE7,hE8,hds,hrelxs16,hs⟩
  obtain ⟨E,rfl⟩:=open4 (E:=E) hE3 hE6 hE7 hE8
  refine WP_seq<|WP_region<|O (r_lss rfl rfl) rfl<|OW_nil<|WP_seq ?_
  rcases condS hM with ⟨hc6,hM⟩|⟨hc6,hM⟩
  ·refine WP_true rfl hc6<|WP_skip<|WP_seq<|WP_block<|WP_seq<|WP_region ?_
   obtain ⟨e6,he6,hM⟩:=bindS hM
   obtain ⟨b9,ob9,cb9,hvb9,cs6,hcs6,hcb9⟩:=hRv1.at he6
   have hcs6:cs6=_:=hcs6; subst hcs6
   refine O (r_idxSl Tryz.underlying34 ti3 (v:=v1) rfl hvb9 rfl (idxL_some he6).1 (idxL_some he6).2.1) rfl<|O (r_loadEl (cs:=[Value.int .i64 e6]) ti3 rfl rfl (.inr rfl) (hcb9 _ hs.imm) (v:=Value.int .i64 e6) rfl) rfl<|O (r_assign (v:=Value.int .i64 e6) rfl) rfl<|OW_nil<|WP_region<|O (r_move (v:=v15) rfl) rfl<|O (r_move (v:=Value.int .i64 e6) rfl) rfl<|O (r_conv Tryz.underlying3 Tryz.underlying5 rfl) rfl<|O (r_move (v:=Value.int .i64 e6) rfl) rfl ?_
   obtain ⟨t11,ht11,hM⟩:=bindS hM
   refine O (r_shrM rfl rfl ht11) rfl<|O (r_conv Tryz.underlying3 Tryz.underlying5 rfl) rfl<|OW_lit (τ:=(tInt .u8)) [Value.int .u8 (IntKind.u8.wrap e6),Value.int .u8 (IntKind.u8.wrap t11)] [(IntKind.u8.wrap e6),(IntKind.u8.wrap t11)] Tryz.underlying98 ti5 (by decide) hs rfl rfl rfl ⟨rfl,rfl,trivial⟩ rfl ?_
   intro v19 wv11 xs20 hrelxs20 hs
   obtain ⟨b10,hb10,hM⟩:=bindS hM
   refine OW_append Tryz.underlying98 ti5 rfl (by decide) (by decide) hs (i:=1) rfl hrelxs16 (v:=v15) rfl (u:=v19) rfl (hs.rowSrc (i:=0) rfl) hrelxs20 hb10 rfl ?_
   intro v20 wv12 xs21 hrelxs21 hs
   refine O (r_assign (v:=v20) rfl) rfl<|OW_nil<|WP_region ?_
   obtain ⟨t12,ht12,hM⟩:=bindS hM
   refine O (r_addM rfl rfl ht12) rfl<|O (r_move (v:=Value.int .i64 t12) rfl) rfl<|OW_nil ?_
   obtain rfl:=Option.some.inj hM
   exact ⟨v20,xs21,rfl,rfl,rfl,rfl,hds,hrelxs21,(hs.sub (.cons _ (.cons_cons _ .slnil)))⟩
  ·refine WP_false rfl hc6<|WP_exit ?_
   obtain rfl:=Option.some.inj hM
   refine fun hr=>?_
   have hM:=congrArg some hr
   obtain rfl:=Option.some.inj hM
   exact ⟨v15,xs16,rfl,hds,hrelxs16,hs⟩
 ·clear hs
  rintro E w ⟨v11,xs11,hE3,hds,hrelxs11,hs⟩
  have hM:=hKhx1
  obtain ⟨E,rfl⟩:=open1 (E:=E) hE3
  refine WP_seq<|WP_region<|O (r_move (v:=v11) rfl) rfl<|O (r_toStr (l:=xv7) Tryz.underlying98 Tryz.underlying5 Tryz.underlying9 (v:=v11) rfl (hs.rowSrc (i:=0) rfl) hrelxs11) rfl<|O (r_assign (v:=encS (toStr xv7)) rfl) rfl<|OW_nil<|WP_ret ?_
  obtain rfl:=Option.some.inj hM
  refine FL_nil hds ?_
  exact ⟨_,res1 Tryz.results93 (rv_tmp (v:=encS (toStr xv7)) rfl),g0,⟨[encS (toStr xv7)],rfl,rfl⟩,hs.ext⟩
set_option maxRecDepth 100000 in
theorem nfa_Step_ok {nv1:T_NFA} {states1:(List Int)} {b1:Int} {r:(List Int)} (hM:M.nfa_Step nv1 states1 b1=some r) {g0:Hp} {w0:World} (hi:Imm g0 w0) {cs1:List Value} (hcs1:tT_NFA.rel g0 cs1 nv1) {v1:Value} (hRv1:RdS (tInt .i64) g0 v1 states1) :
    CallsV Tryz.prog 94 #[Value.agg cs1.toArray,v1,Value.int .u8 b1] w0 (fun v w'=>∃g' y0,(RowRel (tInt .i64) g' y0 r)∧Sep g0 w0 g' w' [.row v 3 (tInt .i64).sz r.length y0]):=by
 unfold M.nfa_Step at hM
 obtain ⟨cs2,cs3,cs4,cs5,rfl,hcs2,hcs3,hcs4,hcs5⟩:=hcs1
 have hcs2:cs2=_:=hcs2; subst hcs2
 have hcs3:cs3=_:=hcs3; subst hcs3
 obtain ⟨v2,rfl,hRv2⟩:=hcs4
 obtain ⟨v3,rfl,hRv3⟩:=hcs5
 have hs:=Sep.start hi
 refine calls_of_WP (args:=[Value.agg (List.toArray (α:=Value) [Value.int .i64 nv1.States,Value.int .i64 nv1.Start,v2,v3]),v1,Value.int .u8 b1]) Tryz.func94 rfl Tryz.ntmps94 rfl ?_
 have hds:(argEnv [Value.agg (List.toArray (α:=Value) [Value.int .i64 nv1.States,Value.int .i64 nv1.Start,v2,v3]),v1,Value.int .u8 b1]).ds=[]:=rfl
 refine WP_seq<|WP_region<|OW_box (v:=Value.agg (List.toArray (α:=Value) [Value.int .i64 nv1.States,Value.int .i64 nv1.Start,v2,v3])) rfl hs (zs:=[Value.int .i64 nv1.States,Value.int .i64 nv1.Start,v2,v3]) rfl rfl ?_
 intro b2 wv1 hs
 refine O (r_assign (v:=Value.slice none 0 0) rfl) rfl<|OW_nil<|WP_seq<|WP_region<|O (r_fieldAddr Tryz.underlying71 ti3 rfl rfl (by decide) rfl rfl) rfl<|O (r_load (v:=Value.int .i64 nv1.States) ti3 rfl (hs.cell (i:=0) (o:=0) rfl rfl)) rfl ?_
 obtain ⟨fromv1,hfromv1,hM⟩:=bindS hM
 refine OW_make (τ:=tBool) (zc:=[Value.bool false]) (zx:=false) Tryz.underlying65 ti4 rfl rfl (by decide) hs rfl rfl hfromv1 rfl ?_
 intro v4 wv2 xs1 hrelxs1 hs
 refine O (r_assign (v:=v4) rfl) rfl<|OW_nil ?_
 obtain ⟨fromv8,hx1,hKhx1⟩:=bindS hM
 refine WP_cut (fun E w=>∃(gg2:Hp) (v9:Value) (xs9:List Value),E 2=Value.int .u8 b1∧E 3=Value.pointer (some ⟨b2,0,none⟩)∧E 7=v9∧E.ds=[]∧Hle g0 gg2∧RowRel tBool gg2 xs9 fromv8∧Go.Lx.Sep g0 w0 gg2 w [.row v9 4 tBool.sz fromv8.length xs9,Go.Lx.box b2 71 ([Value.int .i64 nv1.States,Value.int .i64 nv1.Start,v2,v3])]) ?_ ?_
 ·have hM:=hx1
  have hag0:=Hle.refl g0
  refine WP_seq<|WP_region<|O (r_loadN (cs:=[Value.int .i64 nv1.States,Value.int .i64 nv1.Start,v2,v3]) ti71 rfl rfl (hs.cells (i:=1) rfl)) rfl<|O (r_move (v:=v1) rfl) rfl ?_
  obtain ⟨rv2,hrv2,hM⟩:=bindS hM
  refine C [Value.agg (List.toArray (α:=Value) [Value.int .i64 nv1.States,Value.int .i64 nv1.Start,v2,v3]),v1] cf92 rfl (nfa_Closure_ok hrv2 hs.imm (⟨[Value.int .i64 nv1.States],[Value.int .i64 nv1.Start],[v2],[v3],rfl,rfl,rfl,⟨_,rfl,hRv2⟩,⟨_,rfl,hRv3⟩⟩) hRv1) rfl ?_
  rintro v10 wv7 ⟨gg3,xs10,hvv10,hegg3⟩
  have hlegg3:=hegg3.ext.le hs.imm
  replace hs:=hs.callOwn hegg3
  simp only [List.cons_append,List.nil_append] at hs
  replace hrelxs1:=hrelxs1.mono hlegg3
  replace hag0:=hag0.trans hlegg3
  obtain ⟨a2,ca2,hva2⟩:=hs.rowShape (i:=0) rfl
  refine O (r_lenSl (v:=v10) Tryz.underlying34 rfl hva2) rfl<|O (r_move (v:=Value.int .i64 0) rfl) rfl<|OW_nil<|WP_block<|WP_loop (fun (st9:(List Bool)×Int) E w=>match st9 with|(fromv11,xv5)=>∃(v12:Value) (xs13:List Value),E 2=Value.int .u8 b1∧E 3=Value.pointer (some ⟨b2,0,none⟩)∧E 7=v12∧E 18=v10∧E 19=Value.int .i64 (rv2.length:Int)∧E 20=Value.int .i64 xv5∧E.ds=[]∧RowRel tBool gg3 xs13 fromv11∧Go.Lx.Sep g0 w0 gg3 w [.row v10 3 (tInt .i64).sz rv2.length xs10,.row v12 4 tBool.sz fromv11.length xs13,Go.Lx.box b2 71 ([Value.int .i64 nv1.States,Value.int .i64 nv1.Start,v2,v3])]) hM ⟨v4,xs1,rfl,rfl,rfl,rfl,rfl,rfl,hds,hrelxs1,hs⟩ ?_
  clear hs hM
  rintro ⟨fromv11,xv5⟩ o2 E w hM ⟨v12,xs13,hE2,hE3,hE7,hE18,hE19,hE20,hds,hrelxs13,hs⟩
  obtain ⟨E,rfl⟩:=open6 (E:=E) hE2 hE3 hE7 hE18 hE19 hE20
  refine WP_seq<|WP_region<|O (r_lss rfl rfl) rfl<|OW_nil<|WP_seq ?_
  rcases condS hM with ⟨hc6,hM⟩|⟨hc6,hM⟩
  ·refine WP_true rfl hc6<|WP_skip<|WP_seq<|WP_block<|WP_seq<|WP_region ?_
   obtain ⟨e6,he6,hM⟩:=bindS hM
   obtain ⟨b13,cb13,hvb13,cs11,hcs11,hcb13⟩:=hs.rowEl (i:=0) rfl hvv10 he6
   have hcs11:cs11=_:=hcs11; subst hcs11
   refine O (r_idxSl Tryz.underlying34 ti3 (v:=v10) rfl hvb13 rfl (idxL_some he6).1 (idxL_some he6).2.1) rfl<|O (r_loadEl (cs:=[Value.int .i64 e6]) ti3 rfl rfl (.inr rfl) (hcb13 _ (hs.at (i:=0) rfl)) (v:=Value.int .i64 e6) rfl) rfl<|O (r_assign (v:=Value.int .i64 e6) rfl) rfl<|OW_nil<|WP_region<|O (r_move (v:=v12) rfl) rfl<|O (r_move (v:=Value.int .i64 e6) rfl) rfl ?_
   obtain ⟨fromv14,hfromv14,hM⟩:=bindS hM
   obtain ⟨b14,cb14,hvb14,wv10,xs16,hstb14,hrelb14,hsb14⟩:=hs.rowPut (i:=1) rfl hrelxs13 hfromv14 (cs:=[Value.bool true]) rfl
   refine O (r_idxSl Tryz.underlying65 ti4 (v:=v12) rfl hvb14 rfl (setL_some hfromv14).1 (setL_some hfromv14).2.1) rfl<|O0 (r_store ti4 rfl (v:=Value.bool true) rfl rfl hstb14) ?_
   have hs:=hsb14
   refine OW_nil<|WP_region ?_
   obtain ⟨t6,ht6,hM⟩:=bindS hM
   refine O (r_addM rfl rfl ht6) rfl<|O (r_move (v:=Value.int .i64 t6) rfl) rfl<|OW_nil ?_
   obtain rfl:=Option.some.inj hM
   exact ⟨v12,xs16,rfl,rfl,rfl,rfl,rfl,rfl,hds,hrelb14,hs⟩
  ·refine WP_false rfl hc6<|WP_exit ?_
   obtain rfl:=Option.some.inj hM
   refine fun hr=>?_
   have hM:=congrArg some hr
   obtain rfl:=Option.some.inj hM
   exact ⟨gg3,v12,xs13,rfl,rfl,rfl,hds,hag0,hrelxs13,(hs.sub (.cons _ (.cons_cons _ (.cons_cons _ .slnil))))⟩
 ·clear hs
  rintro E w ⟨gg2,v9,xs9,hE2,hE3,hE7,hds,hlegg2,hrelxs9,hs⟩
  have hM:=hKhx1
  obtain ⟨E,rfl⟩:=open3 (E:=E) hE2 hE3 hE7
  replace hRv2:=hRv2.mono hlegg2
  replace hRv3:=hRv3.mono hlegg2
  refine WP_seq<|WP_region<|O (r_assign (v:=Value.slice none 0 0) rfl) rfl<|OW_nil ?_
  obtain ⟨xv13,hx11,hKhx11⟩:=bindS hM
  refine WP_cut (fun E w=>∃(gg28:Hp) (v50:Value) (xs43:List Value),E 3=Value.pointer (some ⟨b2,0,none⟩)∧E 10=v50∧E.ds=[]∧Hle gg2 gg28∧RowRel (tInt .i64) gg28 xs43 xv13∧Go.Lx.Sep g0 w0 gg28 w [.row v50 3 (tInt .i64).sz xv13.length xs43,Go.Lx.box b2 71 ([Value.int .i64 nv1.States,Value.int .i64 nv1.Start,v2,v3])]) ?_ ?_
  ·have hM:=hx11
   have hagg2:=Hle.refl gg2
   refine WP_seq<|WP_region<|O (r_fieldAddr Tryz.underlying71 ti69 rfl rfl (by decide) rfl rfl) rfl<|O (r_load (v:=v2) ti69 rfl (hs.cell (i:=1) (o:=2) rfl rfl)) rfl ?_
   obtain ⟨a4,ca4,hva4⟩:=hRv2.shape
   refine O (r_lenSl (v:=v2) Tryz.underlying69 rfl hva4) rfl<|O (r_move (v:=Value.int .i64 0) rfl) rfl<|OW_nil<|WP_block ?_
   have hs:=hs.nilRow 3 (tInt .i64).sz
   refine WP_loop (fun (st9:(List Int)×Int) E w=>match st9 with|(xv16,xv17)=>∃(gg37:Hp) (v64:Value) (xs55:List Value) (v63:Value) (xs54:List Value),E 2=Value.int .u8 b1∧E 3=Value.pointer (some ⟨b2,0,none⟩)∧E 7=v63∧E 10=v64∧E 29=v2∧E 30=Value.int .i64 (nv1.Arcs.length:Int)∧E 31=Value.int .i64 xv17∧E.ds=[]∧Hle gg2 gg37∧RowRel (tInt .i64) gg37 xs55 xv16∧RowRel tBool gg37 xs54 fromv8∧Go.Lx.Sep g0 w0 gg37 w [.row v64 3 (tInt .i64).sz xv16.length xs55,.row v63 4 tBool.sz fromv8.length xs54,Go.Lx.box b2 71 ([Value.int .i64 nv1.States,Value.int .i64 nv1.Start,v2,v3])]) hM ⟨gg2,(Value.slice none 0 0),[],v9,xs9,rfl,rfl,rfl,rfl,rfl,rfl,rfl,hds,(Hle.refl _),RowRel.nil,hrelxs9,hs⟩ ?_
   clear hs hM
   rintro ⟨xv16,xv17⟩ o4 E w hM ⟨gg37,v64,xs55,v63,xs54,hE2,hE3,hE7,hE10,hE29,hE30,hE31,hds,hlegg37,hrelxs55,hrelxs54,hs⟩
   obtain ⟨E,rfl⟩:=open7 (E:=E) hE2 hE3 hE7 hE10 hE29 hE30 hE31
   replace hRv2:=hRv2.mono hlegg37
   have hagg37:=Hle.refl gg37
   refine WP_seq<|WP_region<|O (r_lss rfl rfl) rfl<|OW_nil<|WP_seq ?_
   rcases condS hM with ⟨hc22,hM⟩|⟨hc22,hM⟩
   ·refine WP_true rfl hc22<|WP_skip ?_
    obtain ⟨tov11,hx19,hKhx19⟩:=bindS hM
    refine WP_cut (fun E w=>∃(gg49:Hp) (v82:Value) (xs67:List Value) (v81:Value) (xs66:List Value),E 2=Value.int .u8 b1∧E 3=Value.pointer (some ⟨b2,0,none⟩)∧E 7=v81∧E 10=v82∧E 29=v2∧E 30=Value.int .i64 (nv1.Arcs.length:Int)∧E 31=Value.int .i64 xv17∧E.ds=[]∧Hle gg37 gg49∧RowRel (tInt .i64) gg49 xs67 tov11∧RowRel tBool gg49 xs66 fromv8∧Go.Lx.Sep g0 w0 gg49 w [.row v82 3 (tInt .i64).sz tov11.length xs67,.row v81 4 tBool.sz fromv8.length xs66,Go.Lx.box b2 71 ([Value.int .i64 nv1.States,Value.int .i64 nv1.Start,v2,v3])]) ?_ ?_
    ·have hM:=hx19
     refine WP_block<|WP_seq<|WP_region ?_
     obtain ⟨e40,he40,hM⟩:=bindS hM
     obtain ⟨b59,ob59,cb59,hvb59,cs111,hcs111,hcb59⟩:=hRv2.at he40
     obtain ⟨cs112,cs113,cs114,cs115,rfl,hcs112,hcs113,hcs114,hcs115⟩:=hcs111
     have hcs112:cs112=_:=hcs112; subst hcs112
     have hcs113:cs113=_:=hcs113; subst hcs113
     have hcs114:cs114=_:=hcs114; subst hcs114
     have hcs115:cs115=_:=hcs115; subst hcs115
     refine O (r_idxSl Tryz.underlying69 ti95 (v:=v2) rfl hvb59 rfl (idxL_some he40).1 (idxL_some he40).2.1) rfl<|O (r_loadEl (cs:=([Value.int .i64 e40.From])++(([Value.int .i64 e40.To])++(([Value.bool e40.Epsilon])++(e40.Set.1.map (Value.int .u64))))) ti95 rfl (by simp [e40.Set.2]) (.inl rfl) (hcb59 _ hs.imm) (v:=Value.agg (List.toArray (α:=Value) (([Value.int .i64 e40.From])++(([Value.int .i64 e40.To])++(([Value.bool e40.Epsilon])++(e40.Set.1.map (Value.int .u64))))))) rfl) rfl<|OW_alloc ti95 hs (zs:=([Value.int .i64 0])++(([Value.int .i64 0])++(([Value.bool false])++((Vec.zero 4).1.map (Value.int .u64))))) rfl rfl ?_
     intro b60 wv77 hs
     refine OW_storeAll ti95 hs (i:=0) rfl rfl (v:=Value.agg (List.toArray (α:=Value) (([Value.int .i64 e40.From])++(([Value.int .i64 e40.To])++(([Value.bool e40.Epsilon])++(e40.Set.1.map (Value.int .u64))))))) rfl (vs:=([Value.int .i64 e40.From])++(([Value.int .i64 e40.To])++(([Value.bool e40.Epsilon])++(e40.Set.1.map (Value.int .u64))))) rfl (one_append (one_cons rfl one_nil) (one_append (one_cons rfl one_nil) (one_append (one_cons rfl one_nil) vec_one))) (by simp [e40.Set.2]) (by simp [e40.Set.2,(Vec.zero 4).2]) ?_
     intro wv78 hs
     refine OW_nil ?_
     obtain ⟨rv37,hx20,hKhx20⟩:=bindS hM
     refine WP_cut (fun E w=>∃(gg51:Hp),E 2=Value.int .u8 b1∧E 3=Value.pointer (some ⟨b2,0,none⟩)∧E 7=v63∧E 10=v64∧E 12=Value.pointer (some ⟨b60,0,none⟩)∧E 29=v2∧E 30=Value.int .i64 (nv1.Arcs.length:Int)∧E 31=Value.int .i64 xv17∧E 50=Value.bool rv37∧E.ds=[]∧Hle gg37 gg51∧Go.Lx.Sep g0 w0 gg51 w [Go.Lx.box b60 95 (([Value.int .i64 e40.From])++(([Value.int .i64 e40.To])++(([Value.bool e40.Epsilon])++(e40.Set.1.map (Value.int .u64))))),.row v64 3 (tInt .i64).sz xv16.length xs55,.row v63 4 tBool.sz fromv8.length xs54,Go.Lx.box b2 71 ([Value.int .i64 nv1.States,Value.int .i64 nv1.Start,v2,v3])]) ?_ ?_
     ·have hM:=hx20
      refine WP_region<|O (r_fieldAddr Tryz.underlying95 ti4 rfl rfl (by decide) rfl rfl) rfl<|O (r_load (v:=Value.bool e40.Epsilon) ti4 rfl (hs.cell (i:=0) (o:=2) rfl (by simp [e40.Set.2]))) rfl<|O (r_not rfl) rfl<|O (r_move (v:=Value.bool (!e40.Epsilon)) rfl) rfl ?_
      rcases condS hM with ⟨hg47,hM⟩|⟨hg47,hM⟩
      ·refine OG rfl rfl rfl (by rw [hg47]; rfl) (r_move (v:=v63) rfl) rfl<|OG rfl rfl rfl (by rw [hg47]; rfl) (r_fieldAddr Tryz.underlying95 ti3 rfl rfl (by decide) rfl rfl) rfl<|OG rfl rfl rfl (by rw [hg47]; rfl) (r_load (v:=Value.int .i64 e40.From) ti3 rfl (hs.cell (i:=0) (o:=0) rfl (by simp [e40.Set.2]))) rfl ?_
       obtain ⟨e42,he42,hM⟩:=bindS hM
       obtain ⟨b62,cb62,hvb62,cs118,hcs118,hcb62⟩:=hs.rowEl (i:=2) rfl hrelxs54 he42
       have hcs118:cs118=_:=hcs118; subst hcs118
       refine OG rfl rfl rfl (by rw [hg47]; rfl) (r_idxSl Tryz.underlying65 ti4 (v:=v63) rfl hvb62 rfl (idxL_some he42).1 (idxL_some he42).2.1) rfl<|OG rfl rfl rfl (by rw [hg47]; rfl) (r_loadEl (cs:=[Value.bool e42]) ti4 rfl rfl (.inr rfl) (hcb62 _ (hs.at (i:=2) rfl)) (v:=Value.bool e42) rfl) rfl<|O (r_pickT (v:=Value.bool e42) rfl hg47 rfl) rfl<|O (r_move (v:=Value.bool e42) rfl) rfl ?_
       rcases condS hM with ⟨hg48,hM⟩|⟨hg48,hM⟩
       ·refine OG rfl rfl rfl (by rw [hg48]; rfl) (r_fieldAddr Tryz.underlying95 ti50 rfl rfl (by decide) rfl rfl) rfl<|OG rfl rfl rfl (by rw [hg48]; rfl) (r_loadN (cs:=e40.Set.1.map (Value.int .u64)) ti50 rfl (by simp [e40.Set.2]) (hs.cellsAt (i:=0) (o:=3) rfl (by intro j u hj; exact sub_at (pre:=[Value.int .i64 e40.From,Value.int .i64 e40.To,Value.bool e40.Epsilon]) (ds:=e40.Set.1.map (Value.int .u64)) (post:=[]) rfl ((by simp)) hj))) rfl<|OG rfl rfl rfl (by rw [hg48]; rfl) (r_move (v:=Value.int .u8 b1) rfl) rfl ?_
        obtain ⟨rv38,hrv38,hM⟩:=bindS hM
        refine CG rfl rfl rfl (by rw [hg48]; rfl) [encV .u64 e40.Set,Value.int .u8 b1] cf116 rfl (byteset_Has_ok hrv38 hs.imm) rfl ?_
        rintro v84 wv80 ⟨gg52,hvv84,hegg52⟩
        have hlegg52:=hegg52.le hs.imm
        replace hs:=hs.call hegg52
        replace hagg37:=hagg37.trans hlegg52
        obtain ⟨cs119,rfl,hcs119⟩:=hvv84
        have hcs119:cs119=_:=hcs119; subst hcs119
        refine O (r_pickT (v:=Value.bool rv38) rfl hg48 rfl) rfl<|OW_nil ?_
        obtain rfl:=Option.some.inj hM
        exact ⟨gg52,rfl,rfl,rfl,rfl,rfl,rfl,rfl,rfl,rfl,hds,hagg37,hs⟩
       ·refine OK rfl rfl rfl (by rw [hg48]; rfl) rfl<|OK rfl rfl rfl (by rw [hg48]; rfl) rfl<|OK rfl rfl rfl (by rw [hg48]; rfl) rfl<|OK rfl rfl rfl (by rw [hg48]; rfl) rfl<|O (r_pickF (v:=Value.bool false) rfl hg48 rfl) rfl<|OW_nil ?_
        obtain rfl:=Option.some.inj hM
        exact ⟨gg37,rfl,rfl,rfl,rfl,rfl,rfl,rfl,rfl,rfl,hds,(Hle.refl _),hs⟩
      ·refine OK rfl rfl rfl (by rw [hg47]; rfl) rfl<|OK rfl rfl rfl (by rw [hg47]; rfl) rfl<|OK rfl rfl rfl (by rw [hg47]; rfl) rfl<|OK rfl rfl rfl (by rw [hg47]; rfl) rfl<|OK rfl rfl rfl (by rw [hg47]; rfl) rfl<|O (r_pickF (v:=Value.bool false) rfl hg47 rfl) rfl<|O (r_move (v:=Value.bool false) rfl) rfl<|OK rfl rfl rfl rfl rfl<|OK rfl rfl rfl rfl rfl<|OK rfl rfl rfl rfl rfl<|OK rfl rfl rfl rfl rfl<|O (r_pickF (v:=Value.bool false) rfl rfl rfl) rfl<|OW_nil ?_
       obtain rfl:=Option.some.inj hM
       exact ⟨gg37,rfl,rfl,rfl,rfl,rfl,rfl,rfl,rfl,rfl,hds,(Hle.refl _),hs⟩
     ·clear hs
      rintro E w ⟨gg51,hE2,hE3,hE7,hE10,hE12,hE29,hE30,hE31,hE50,hds,hlegg51,hs⟩
      have hM:=hKhx20
      obtain ⟨E,rfl⟩:=open8 (E:=E) hE2 hE3 hE7 hE10 hE12 hE29 hE30 hE31
      obtain ⟨E,rfl⟩:=open1 (E:=E) hE50
      replace hrelxs55:=hrelxs55.mono hlegg51
      replace hrelxs54:=hrelxs54.mono hlegg51
      replace hagg37:=hagg37.trans hlegg51
      rcases condS hM with ⟨hc24,hM⟩|⟨hc24,hM⟩
      ·refine WP_true rfl hc24<|WP_region<|O (r_move (v:=v64) rfl) rfl<|O (r_fieldAddr Tryz.underlying95 ti3 rfl rfl (by decide) rfl rfl) rfl<|O (r_load (v:=Value.int .i64 e40.To) ti3 rfl (hs.cell (i:=0) (o:=1) rfl (by simp [e40.Set.2]))) rfl<|OW_lit (τ:=(tInt .i64)) [Value.int .i64 e40.To] [e40.To] Tryz.underlying34 ti3 (by decide) hs rfl rfl rfl ⟨rfl,trivial⟩ rfl ?_
       intro v85 wv81 xs68 hrelxs68 hs
       obtain ⟨tov12,htov12,hM⟩:=bindS hM
       refine OW_append Tryz.underlying34 ti3 rfl (by decide) (by decide) hs (i:=2) rfl hrelxs55 (v:=v64) rfl (u:=v85) rfl (hs.rowSrc (i:=0) rfl) hrelxs68 htov12 rfl ?_
       intro v86 wv82 xs69 hrelxs69 hs
       refine O (r_assign (v:=v86) rfl) rfl<|OW_nil ?_
       obtain rfl:=Option.some.inj hM
       exact ⟨gg51,v86,xs69,v63,xs54,rfl,rfl,rfl,rfl,rfl,rfl,rfl,hds,hagg37,hrelxs69,hrelxs54,(hs.sub (.cons _ (.cons _ (.cons_cons _ (.cons_cons _ (.cons_cons _ .slnil))))))⟩
      ·refine WP_false rfl hc24<|WP_skip ?_
       obtain rfl:=Option.some.inj hM
       exact ⟨gg51,v64,xs55,v63,xs54,rfl,rfl,rfl,rfl,rfl,rfl,rfl,hds,hagg37,hrelxs55,hrelxs54,(hs.sub (.cons _ (.cons_cons _ (.cons_cons _ (.cons_cons _ .slnil)))))⟩
    ·clear hs
     rintro E w ⟨gg49,v82,xs67,v81,xs66,hE2,hE3,hE7,hE10,hE29,hE30,hE31,hds,hlegg49,hrelxs67,hrelxs66,hs⟩
     have hM:=hKhx19
     obtain ⟨E,rfl⟩:=open7 (E:=E) hE2 hE3 hE7 hE10 hE29 hE30 hE31
     replace hlegg37:=hlegg37.trans hlegg49
     refine WP_region ?_
     obtain ⟨t12,ht12,hM⟩:=bindS hM
     refine O (r_addM rfl rfl ht12) rfl<|O (r_move (v:=Value.int .i64 t12) rfl) rfl<|OW_nil ?_
     obtain rfl:=Option.some.inj hM
     exact ⟨gg49,v82,xs67,v81,xs66,rfl,rfl,rfl,rfl,rfl,rfl,rfl,hds,hlegg37,hrelxs67,hrelxs66,hs⟩
   ·refine WP_false rfl hc22<|WP_exit ?_
    obtain rfl:=Option.some.inj hM
    refine fun hr=>?_
    have hM:=congrArg some hr
    obtain rfl:=Option.some.inj hM
    exact ⟨gg37,v64,xs55,rfl,rfl,hds,hlegg37,hrelxs55,(hs.sub (.cons_cons _ (.cons _ (.cons_cons _ .slnil))))⟩
  ·clear hs
   rintro E w ⟨gg28,v50,xs43,hE3,hE10,hds,hlegg28,hrelxs43,hs⟩
   have hM:=hKhx11
   obtain ⟨E,rfl⟩:=open2 (E:=E) hE3 hE10
   replace hRv2:=hRv2.mono hlegg28
   replace hRv3:=hRv3.mono hlegg28
   refine WP_seq<|WP_region<|O (r_loadN (cs:=[Value.int .i64 nv1.States,Value.int .i64 nv1.Start,v2,v3]) ti71 rfl rfl (hs.cells (i:=1) rfl)) rfl<|O (r_move (v:=v50) rfl) rfl ?_
   have hsL1:=hs
   obtain ⟨gg53,hlegg53,hRgg53,hs⟩:=hs.relRow (i:=0) rfl hrelxs43
   replace hRv2:=hRv2.mono hlegg53
   replace hRv3:=hRv3.mono hlegg53
   obtain ⟨rv39,hrv39,hM⟩:=bindS hM
   refine C [Value.agg (List.toArray (α:=Value) [Value.int .i64 nv1.States,Value.int .i64 nv1.Start,v2,v3]),v50] cf92 rfl (nfa_Closure_ok hrv39 hs.imm (⟨[Value.int .i64 nv1.States],[Value.int .i64 nv1.Start],[v2],[v3],rfl,rfl,rfl,⟨_,rfl,hRv2⟩,⟨_,rfl,hRv3⟩⟩) hRgg53) rfl ?_
   rintro v87 wv83 ⟨gg54,xs70,hvv87,hegg54⟩
   obtain ⟨gg55,hlegg55,hs⟩:=hsL1.lentOwn hegg54
   simp only [List.cons_append,List.nil_append] at hs
   have hvv87:RowRel (tInt .i64) gg55 xs70 rv39:=RowRel.flat (fun _ _ _ _ h=>h) hvv87
   refine O (r_assign (v:=v87) rfl) rfl<|OW_nil<|WP_ret ?_
   obtain rfl:=Option.some.inj hM
   refine FL_nil hds ?_
   exact ⟨_,res1 Tryz.results94 (rv_tmp (v:=v87) rfl),gg55,xs70,hvv87,(hs.sub (.cons_cons _ (.cons _ (.cons _ .slnil))))⟩
set_option maxRecDepth 100000 in
theorem dfa_accepts_ok {nv1:T_NFA} {l1:(List Int)} {r:Int} (hM:M.dfa_accepts nv1 l1=some r) {g0:Hp} {w0:World} (hi:Imm g0 w0) {cs1:List Value} (hcs1:tT_NFA.rel g0 cs1 nv1) {v1:Value} (hRv1:RdS (tInt .i64) g0 v1 l1) :
    CallsV Tryz.prog 95 #[Value.agg cs1.toArray,v1] w0 (fun v w'=>∃g',(VRd (tInt .i64) false g' v r)∧Ext g0 w0 g' w'):=by
 unfold M.dfa_accepts at hM
 obtain ⟨cs2,cs3,cs4,cs5,rfl,hcs2,hcs3,hcs4,hcs5⟩:=hcs1
 have hcs2:cs2=_:=hcs2; subst hcs2
 have hcs3:cs3=_:=hcs3; subst hcs3
 obtain ⟨v2,rfl,hRv2⟩:=hcs4
 obtain ⟨v3,rfl,hRv3⟩:=hcs5
 have hs:=Sep.start hi
 refine calls_of_WP (args:=[Value.agg (List.toArray (α:=Value) [Value.int .i64 nv1.States,Value.int .i64 nv1.Start,v2,v3]),v1]) Tryz.func95 rfl Tryz.ntmps95 rfl ?_
 have hds:(argEnv [Value.agg (List.toArray (α:=Value) [Value.int .i64 nv1.States,Value.int .i64 nv1.Start,v2,v3]),v1]).ds=[]:=rfl
 refine WP_seq<|WP_region<|OW_box (v:=Value.agg (List.toArray (α:=Value) [Value.int .i64 nv1.States,Value.int .i64 nv1.Start,v2,v3])) rfl hs (zs:=[Value.int .i64 nv1.States,Value.int .i64 nv1.Start,v2,v3]) rfl rfl ?_
 intro b1 wv1 hs
 refine O (r_assign (v:=Value.int .i64 0) rfl) rfl<|OW_nil<|WP_seq<|WP_region<|O (r_assign (v:=Value.int .i64 (-1)) rfl) rfl<|OW_nil ?_
 obtain ⟨out7,hx10,hKhx10⟩:=bindS hM
 refine WP_cut (fun E w=>E 5=Value.int .i64 out7∧E.ds=[]∧Go.Lx.Sep g0 w0 g0 w []) ?_ ?_
 ·have hM:=hx10
  have hag0:=Hle.refl g0
  refine WP_seq<|WP_region<|O (r_move (v:=v1) rfl) rfl ?_
  obtain ⟨a2,ca2,hva2⟩:=hRv1.shape
  refine O (r_lenSl (v:=v1) Tryz.underlying34 rfl hva2) rfl<|O (r_move (v:=Value.int .i64 0) rfl) rfl<|OW_nil<|WP_block<|WP_loop (fun (st9:Int×Int) E w=>match st9 with|(out10,xv13)=>E 2=Value.pointer (some ⟨b1,0,none⟩)∧E 5=Value.int .i64 out10∧E 9=v1∧E 10=Value.int .i64 (l1.length:Int)∧E 11=Value.int .i64 xv13∧E.ds=[]∧Go.Lx.Sep g0 w0 g0 w [Go.Lx.box b1 71 ([Value.int .i64 nv1.States,Value.int .i64 nv1.Start,v2,v3])]) hM ⟨rfl,rfl,rfl,rfl,rfl,hds,hs⟩ ?_
  clear hs hM
  rintro ⟨out10,xv13⟩ o2 E w hM ⟨hE2,hE5,hE9,hE10,hE11,hds,hs⟩
  obtain ⟨E,rfl⟩:=open5 (E:=E) hE2 hE5 hE9 hE10 hE11
  refine WP_seq<|WP_region<|O (r_lss rfl rfl) rfl<|OW_nil<|WP_seq ?_
  rcases condS hM with ⟨hc16,hM⟩|⟨hc16,hM⟩
  ·refine WP_true rfl hc16<|WP_skip ?_
   obtain ⟨out13,hx18,hKhx18⟩:=bindS hM
   refine WP_cut (fun E w=>E 2=Value.pointer (some ⟨b1,0,none⟩)∧E 5=Value.int .i64 out13∧E 9=v1∧E 10=Value.int .i64 (l1.length:Int)∧E 11=Value.int .i64 xv13∧E.ds=[]∧Go.Lx.Sep g0 w0 g0 w [Go.Lx.box b1 71 ([Value.int .i64 nv1.States,Value.int .i64 nv1.Start,v2,v3])]) ?_ ?_
   ·have hM:=hx18
    refine WP_block<|WP_seq<|WP_region ?_
    obtain ⟨e23,he23,hM⟩:=bindS hM
    obtain ⟨b24,ob24,cb24,hvb24,cs28,hcs28,hcb24⟩:=hRv1.at he23
    have hcs28:cs28=_:=hcs28; subst hcs28
    refine O (r_idxSl Tryz.underlying34 ti3 (v:=v1) rfl hvb24 rfl (idxL_some he23).1 (idxL_some he23).2.1) rfl<|O (r_loadEl (cs:=[Value.int .i64 e23]) ti3 rfl rfl (.inr rfl) (hcb24 _ hs.imm) (v:=Value.int .i64 e23) rfl) rfl<|O (r_assign (v:=Value.int .i64 e23) rfl) rfl<|OW_nil<|WP_seq<|WP_region<|O (r_fieldAddr Tryz.underlying71 ti34 rfl rfl (by decide) rfl rfl) rfl<|O (r_load (v:=v3) ti34 rfl (hs.cell (i:=0) (o:=3) rfl rfl)) rfl<|O (r_move (v:=Value.int .i64 e23) rfl) rfl ?_
    obtain ⟨e24,he24,hM⟩:=bindS hM
    obtain ⟨b25,ob25,cb25,hvb25,cs29,hcs29,hcb25⟩:=hRv3.at he24
    have hcs29:cs29=_:=hcs29; subst hcs29
    refine O (r_idxSl Tryz.underlying34 ti3 (v:=v3) rfl hvb25 rfl (idxL_some he24).1 (idxL_some he24).2.1) rfl<|O (r_loadEl (cs:=[Value.int .i64 e24]) ti3 rfl rfl (.inr rfl) (hcb25 _ hs.imm) (v:=Value.int .i64 e24) rfl) rfl<|O (r_assign (v:=Value.int .i64 e24) rfl) rfl<|OW_nil ?_
    obtain ⟨xv18,hx19,hKhx19⟩:=bindS hM
    refine WP_cut (fun E w=>E 2=Value.pointer (some ⟨b1,0,none⟩)∧E 5=Value.int .i64 out10∧E 8=Value.int .i64 e24∧E 9=v1∧E 10=Value.int .i64 (l1.length:Int)∧E 11=Value.int .i64 xv13∧E 30=Value.bool xv18∧E.ds=[]∧Go.Lx.Sep g0 w0 g0 w [Go.Lx.box b1 71 ([Value.int .i64 nv1.States,Value.int .i64 nv1.Start,v2,v3])]) ?_ ?_
    ·have hM:=hx19
     refine WP_region<|O (r_move (v:=Value.int .i64 e24) rfl) rfl<|O (r_geq rfl rfl) rfl<|O (r_move (v:=Value.bool (decide (0≤e24))) rfl) rfl ?_
     rcases condS hM with ⟨hg47,hM⟩|⟨hg47,hM⟩
     ·refine OG rfl rfl rfl (by rw [hg47]; rfl) (r_move (v:=Value.int .i64 out10) rfl) rfl<|OG rfl rfl rfl (by rw [hg47]; rfl) (r_lss rfl rfl) rfl<|OG rfl rfl rfl (by rw [hg47]; rfl) (r_move (v:=Value.bool (decide (out10<0))) rfl) rfl ?_
      rcases condS hM with ⟨hg48,hM⟩|⟨hg48,hM⟩
      ·refine OK rfl rfl rfl (by rw [hg48]; rfl) rfl<|OK rfl rfl rfl (by rw [hg48]; rfl) rfl<|OK rfl rfl rfl (by rw [hg48]; rfl) rfl<|OG rfl rfl rfl (by rw [hg47]; rfl) (r_pickT (v:=Value.bool true) rfl hg48 rfl) rfl<|O (r_pickT (v:=Value.bool true) rfl hg47 rfl) rfl<|OW_nil ?_
       obtain rfl:=Option.some.inj hM
       exact ⟨rfl,rfl,rfl,rfl,rfl,rfl,rfl,hds,hs⟩
      ·refine OG rfl rfl rfl (by rw [hg48]; rfl) (r_move (v:=Value.int .i64 e24) rfl) rfl<|OG rfl rfl rfl (by rw [hg48]; rfl) (r_move (v:=Value.int .i64 out10) rfl) rfl<|OG rfl rfl rfl (by rw [hg48]; rfl) (r_lss rfl rfl) rfl<|OG rfl rfl rfl (by rw [hg47]; rfl) (r_pickF (v:=Value.bool (decide (e24<out10))) rfl hg48 rfl) rfl<|O (r_pickT (v:=Value.bool (decide (e24<out10))) rfl hg47 rfl) rfl<|OW_nil ?_
       obtain rfl:=Option.some.inj hM
       exact ⟨rfl,rfl,rfl,rfl,rfl,rfl,rfl,hds,hs⟩
     ·refine OK rfl rfl rfl (by rw [hg47]; rfl) rfl<|OK rfl rfl rfl (by rw [hg47]; rfl) rfl<|OK rfl rfl rfl (by rw [hg47]; rfl) rfl<|OKU rfl rfl rfl rfl<|OKU rfl rfl rfl rfl<|OKU rfl rfl rfl rfl<|OK rfl rfl rfl (by rw [hg47]; rfl) rfl<|O (r_pickF (v:=Value.bool false) rfl hg47 rfl) rfl<|OW_nil ?_
      obtain rfl:=Option.some.inj hM
      exact ⟨rfl,rfl,rfl,rfl,rfl,rfl,rfl,hds,hs⟩
    ·clear hs
     rintro E w ⟨hE2,hE5,hE8,hE9,hE10,hE11,hE30,hds,hs⟩
     have hM:=hKhx19
     obtain ⟨E,rfl⟩:=open7 (E:=E) hE2 hE5 hE8 hE9 hE10 hE11 hE30
     rcases condS hM with ⟨hc18,hM⟩|⟨hc18,hM⟩
     ·refine WP_true rfl hc18<|WP_region<|O (r_move (v:=Value.int .i64 e24) rfl) rfl<|O (r_assign (v:=Value.int .i64 e24) rfl) rfl<|OW_nil ?_
      obtain rfl:=Option.some.inj hM
      exact ⟨rfl,rfl,rfl,rfl,rfl,hds,hs⟩
     ·refine WP_false rfl hc18<|WP_skip ?_
      obtain rfl:=Option.some.inj hM
      exact ⟨rfl,rfl,rfl,rfl,rfl,hds,hs⟩
   ·clear hs
    rintro E w ⟨hE2,hE5,hE9,hE10,hE11,hds,hs⟩
    have hM:=hKhx18
    obtain ⟨E,rfl⟩:=open5 (E:=E) hE2 hE5 hE9 hE10 hE11
    refine WP_region ?_
    obtain ⟨t6,ht6,hM⟩:=bindS hM
    refine O (r_addM rfl rfl ht6) rfl<|O (r_move (v:=Value.int .i64 t6) rfl) rfl<|OW_nil ?_
    obtain rfl:=Option.some.inj hM
    exact ⟨rfl,rfl,rfl,rfl,rfl,hds,hs⟩
  ·refine WP_false rfl hc16<|WP_exit ?_
   obtain rfl:=Option.some.inj hM
   refine fun hr=>?_
   have hM:=congrArg some hr
   obtain rfl:=Option.some.inj hM
   exact ⟨rfl,hds,(hs.sub (.cons _ .slnil))⟩
 ·clear hs
  rintro E w ⟨hE5,hds,hs⟩
  have hM:=hKhx10
  obtain ⟨E,rfl⟩:=open1 (E:=E) hE5
  refine WP_seq<|WP_region<|O (r_move (v:=Value.int .i64 out7) rfl) rfl<|O (r_assign (v:=Value.int .i64 out7) rfl) rfl<|OW_nil<|WP_ret ?_
  obtain rfl:=Option.some.inj hM
  refine FL_nil hds ?_
  exact ⟨_,res1 Tryz.results95 (rv_tmp (v:=Value.int .i64 out7) rfl),g0,⟨[Value.int .i64 out7],rfl,rfl⟩,hs.ext⟩
set_option maxRecDepth 100000 in
theorem dfa_Determinize_ok {p1:T_NFA} {r:T_DFA×Int} (hM:M.dfa_Determinize p1=some r) {g0:Hp} {w0:World} (hi:Imm g0 w0) {cs1:List Value} (hcs1:tT_NFA.rel g0 cs1 p1) :
    CallsV Tryz.prog 65 #[Value.agg cs1.toArray] w0 (fun v w'=>∃g',(∃v1 v2,v=.tuple #[v1,v2]∧VRd tT_DFA true g' v1 r.1∧VRd (tInt .i64) false g' v2 r.2)∧Ext g0 w0 g' w'):=by
 unfold M.dfa_Determinize at hM
 obtain ⟨cs2,cs3,cs4,cs5,rfl,hcs2,hcs3,hcs4,hcs5⟩:=hcs1
 have hcs2:cs2=_:=hcs2; subst hcs2
 have hcs3:cs3=_:=hcs3; subst hcs3
 obtain ⟨v1,rfl,hRv1⟩:=hcs4
 obtain ⟨v2,rfl,hRv2⟩:=hcs5
 have hs:=Sep.start hi
 refine calls_of_WP (args:=[Value.agg (List.toArray (α:=Value) [Value.int .i64 p1.States,Value.int .i64 p1.Start,v1,v2])]) Tryz.func65 rfl Tryz.ntmps65 rfl ?_
 have hds:(argEnv [Value.agg (List.toArray (α:=Value) [Value.int .i64 p1.States,Value.int .i64 p1.Start,v1,v2])]).ds=[]:=rfl
 refine WP_seq<|WP_region<|OW_box (v:=Value.agg (List.toArray (α:=Value) [Value.int .i64 p1.States,Value.int .i64 p1.Start,v1,v2])) rfl hs (zs:=[Value.int .i64 p1.States,Value.int .i64 p1.Start,v1,v2]) rfl rfl ?_
 intro b1 wv1 hs
 refine OW_alloc ti37 hs (zs:=[Value.slice none 0 0,Value.slice none 0 0,Value.slice none 0 0]) rfl rfl ?_
 intro b2 wv2 hs
 refine O (r_assign (v:=Value.int .i64 0) rfl) rfl<|OW_nil<|WP_seq<|WP_seq<|WP_region<|O (r_loadN (cs:=[Value.int .i64 p1.States,Value.int .i64 p1.Start,v1,v2]) ti71 rfl rfl (hs.cells (i:=1) rfl)) rfl ?_
 obtain ⟨rv1,hrv1,hM⟩:=bindS hM
 refine C [Value.agg (List.toArray (α:=Value) [Value.int .i64 p1.States,Value.int .i64 p1.Start,v1,v2])] cf89 rfl (nfa_Valid_ok hrv1 hs.imm (⟨[Value.int .i64 p1.States],[Value.int .i64 p1.Start],[v1],[v2],rfl,rfl,rfl,⟨_,rfl,hRv1⟩,⟨_,rfl,hRv2⟩⟩)) rfl ?_
 rintro v3 wv3 ⟨gg1,hvv3,hegg1⟩
 have hlegg1:=hegg1.le hs.imm
 replace hs:=hs.call hegg1
 replace hRv1:=hRv1.mono hlegg1
 replace hRv2:=hRv2.mono hlegg1
 obtain ⟨cs6,rfl,hcs6⟩:=hvv3
 have hcs6:cs6=_:=hcs6; subst hcs6
 refine O (r_not rfl) rfl<|OW_nil ?_
 rcases condS hM with ⟨hc1,hM⟩|⟨hc1,hM⟩
 ·refine WP_true rfl hc1<|WP_seq<|WP_region<|O (r_build (vs:=[]) (cs:=[Value.slice none 0 0,Value.slice none 0 0,Value.slice none 0 0]) rfl (built_fill [(0,1),(1,1),(2,1)] [Value.slice none 0 0,Value.slice none 0 0,Value.slice none 0 0] (fun _=>by kernel_rfl) (fill_done))) rfl<|OW_storeAll ti37 hs (i:=0) rfl rfl (v:=Value.agg (List.toArray (α:=Value) [Value.slice none 0 0,Value.slice none 0 0,Value.slice none 0 0])) rfl (vs:=[Value.slice none 0 0,Value.slice none 0 0,Value.slice none 0 0]) rfl (one_cons rfl (one_cons rfl (one_cons rfl one_nil))) rfl rfl ?_
  intro wv4 hs
  refine O (r_assign (v:=Value.int .i64 1) rfl) rfl<|OW_nil<|WP_ret ?_
  obtain rfl:=Option.some.inj hM
  refine FL_nil hds ?_
  exact ⟨_,res2 Tryz.results65 (rv_cells (vs:=[Value.slice none 0 0,Value.slice none 0 0,Value.slice none 0 0]) ti37 rfl rfl (hs.cells (i:=0) rfl)) (rv_tmp (v:=Value.int .i64 1) rfl),gg1,⟨_,_,rfl,⟨[Value.slice none 0 0,Value.slice none 0 0,Value.slice none 0 0],rfl,⟨[Value.slice none 0 0],[Value.slice none 0 0],[Value.slice none 0 0],rfl,⟨_,rfl,RdS.nil⟩,⟨_,rfl,RdS.nil⟩,⟨_,rfl,RdS.nil⟩⟩⟩,⟨[Value.int .i64 1],rfl,rfl⟩⟩,hs.ext⟩
 ·refine WP_false rfl hc1<|WP_skip<|WP_seq<|WP_region<|O (r_assign (v:=Value.slice none 0 0) rfl) rfl<|OW_nil ?_
  obtain ⟨xv7,hx1,hKhx1⟩:=bindS hM
  refine WP_cut (fun E w=>∃(v13:Value) (xs11:List Value),E 1=Value.pointer (some ⟨b1,0,none⟩)∧E 2=Value.pointer (some ⟨b2,0,none⟩)∧E 4=v13∧E.ds=[]∧RowRel (tVec 4 .u64) gg1 xs11 xv7∧Go.Lx.Sep g0 w0 gg1 w [.row v13 50 (tVec 4 .u64).sz xv7.length xs11,Go.Lx.box b2 37 ([Value.slice none 0 0,Value.slice none 0 0,Value.slice none 0 0]),Go.Lx.box b1 71 ([Value.int .i64 p1.States,Value.int .i64 p1.Start,v1,v2])]) ?_ ?_
  ·have hM:=hx1
   have hagg1:=Hle.refl gg1
   refine WP_seq<|WP_region<|O (r_fieldAddr Tryz.underlying71 ti69 rfl rfl (by decide) rfl rfl) rfl<|O (r_load (v:=v1) ti69 rfl (hs.cell (i:=1) (o:=2) rfl rfl)) rfl ?_
   obtain ⟨a2,ca2,hva2⟩:=hRv1.shape
   refine O (r_lenSl (v:=v1) Tryz.underlying69 rfl hva2) rfl<|O (r_move (v:=Value.int .i64 0) rfl) rfl<|OW_nil<|WP_block ?_
   have hs:=hs.nilRow 50 (tVec 4 .u64).sz
   refine WP_loop (fun (st9:(List (Vec 4))×Int) E w=>match st9 with|(xv10,xv11)=>∃(v17:Value) (xs16:List Value),E 1=Value.pointer (some ⟨b1,0,none⟩)∧E 2=Value.pointer (some ⟨b2,0,none⟩)∧E 4=v17∧E 23=v1∧E 24=Value.int .i64 (p1.Arcs.length:Int)∧E 25=Value.int .i64 xv11∧E.ds=[]∧RowRel (tVec 4 .u64) gg1 xs16 xv10∧Go.Lx.Sep g0 w0 gg1 w [.row v17 50 (tVec 4 .u64).sz xv10.length xs16,Go.Lx.box b2 37 ([Value.slice none 0 0,Value.slice none 0 0,Value.slice none 0 0]),Go.Lx.box b1 71 ([Value.int .i64 p1.States,Value.int .i64 p1.Start,v1,v2])]) hM ⟨(Value.slice none 0 0),[],rfl,rfl,rfl,rfl,rfl,rfl,hds,RowRel.nil,hs⟩ ?_
   clear hs hM
   rintro ⟨xv10,xv11⟩ o2 E w hM ⟨v17,xs16,hE1,hE2,hE4,hE23,hE24,hE25,hds,hrelxs16,hs⟩
   obtain ⟨E,rfl⟩:=open6 (E:=E) hE1 hE2 hE4 hE23 hE24 hE25
   refine WP_seq<|WP_region<|O (r_lss rfl rfl) rfl<|OW_nil<|WP_seq ?_
   rcases condS hM with ⟨hc7,hM⟩|⟨hc7,hM⟩
   ·refine WP_true rfl hc7<|WP_skip<|WP_seq<|WP_block<|WP_seq<|WP_region ?_
    obtain ⟨e6,he6,hM⟩:=bindS hM
    obtain ⟨b13,ob13,cb13,hvb13,cs32,hcs32,hcb13⟩:=hRv1.at he6
    obtain ⟨cs33,cs34,cs35,cs36,rfl,hcs33,hcs34,hcs35,hcs36⟩:=hcs32
    have hcs33:cs33=_:=hcs33; subst hcs33
    have hcs34:cs34=_:=hcs34; subst hcs34
    have hcs35:cs35=_:=hcs35; subst hcs35
    have hcs36:cs36=_:=hcs36; subst hcs36
    refine O (r_idxSl Tryz.underlying69 ti95 (v:=v1) rfl hvb13 rfl (idxL_some he6).1 (idxL_some he6).2.1) rfl<|O (r_loadEl (cs:=([Value.int .i64 e6.From])++(([Value.int .i64 e6.To])++(([Value.bool e6.Epsilon])++(e6.Set.1.map (Value.int .u64))))) ti95 rfl (by simp [e6.Set.2]) (.inl rfl) (hcb13 _ hs.imm) (v:=Value.agg (List.toArray (α:=Value) (([Value.int .i64 e6.From])++(([Value.int .i64 e6.To])++(([Value.bool e6.Epsilon])++(e6.Set.1.map (Value.int .u64))))))) rfl) rfl<|OW_alloc ti95 hs (zs:=([Value.int .i64 0])++(([Value.int .i64 0])++(([Value.bool false])++((Vec.zero 4).1.map (Value.int .u64))))) rfl rfl ?_
    intro b14 wv25 hs
    refine OW_storeAll ti95 hs (i:=0) rfl rfl (v:=Value.agg (List.toArray (α:=Value) (([Value.int .i64 e6.From])++(([Value.int .i64 e6.To])++(([Value.bool e6.Epsilon])++(e6.Set.1.map (Value.int .u64))))))) rfl (vs:=([Value.int .i64 e6.From])++(([Value.int .i64 e6.To])++(([Value.bool e6.Epsilon])++(e6.Set.1.map (Value.int .u64))))) rfl (one_append (one_cons rfl one_nil) (one_append (one_cons rfl one_nil) (one_append (one_cons rfl one_nil) vec_one))) (by simp [e6.Set.2]) (by simp [e6.Set.2,(Vec.zero 4).2]) ?_
    intro wv26 hs
    refine OW_nil<|WP_region<|O (r_move (v:=v17) rfl) rfl<|O (r_fieldAddr Tryz.underlying95 ti50 rfl rfl (by decide) rfl rfl) rfl<|O (r_loadN (cs:=e6.Set.1.map (Value.int .u64)) ti50 rfl (by simp [e6.Set.2]) (hs.cellsAt (i:=0) (o:=3) rfl (by intro j u hj; exact sub_at (pre:=[Value.int .i64 e6.From,Value.int .i64 e6.To,Value.bool e6.Epsilon]) (ds:=e6.Set.1.map (Value.int .u64)) (post:=[]) rfl ((by simp)) hj))) rfl<|OW_lit (τ:=(tVec 4 .u64)) [encV .u64 e6.Set] [e6.Set] Tryz.underlying85 ti50 (by decide) hs rfl rfl rfl ⟨rfl,trivial⟩ rfl ?_
    intro v21 wv27 xs20 hrelxs20 hs
    obtain ⟨y6,hy6,hM⟩:=bindS hM
    refine OW_append Tryz.underlying85 ti50 rfl (by decide) (by decide) hs (i:=2) rfl hrelxs16 (v:=v17) rfl (u:=v21) rfl (hs.rowSrc (i:=0) rfl) hrelxs20 hy6 rfl ?_
    intro v22 wv28 xs21 hrelxs21 hs
    refine O (r_assign (v:=v22) rfl) rfl<|OW_nil<|WP_region ?_
    obtain ⟨t6,ht6,hM⟩:=bindS hM
    refine O (r_addM rfl rfl ht6) rfl<|O (r_move (v:=Value.int .i64 t6) rfl) rfl<|OW_nil ?_
    obtain rfl:=Option.some.inj hM
    exact ⟨v22,xs21,rfl,rfl,rfl,rfl,rfl,rfl,hds,hrelxs21,(hs.sub (.cons _ (.cons _ (.cons_cons _ (.cons_cons _ (.cons_cons _ .slnil))))))⟩
   ·refine WP_false rfl hc7<|WP_exit ?_
    obtain rfl:=Option.some.inj hM
    refine fun hr=>?_
    have hM:=congrArg some hr
    obtain rfl:=Option.some.inj hM
    exact ⟨v17,xs16,rfl,rfl,rfl,hds,hrelxs16,hs⟩
  ·clear hs
   rintro E w ⟨v13,xs11,hE1,hE2,hE4,hds,hrelxs11,hs⟩
   have hM:=hKhx1
   obtain ⟨E,rfl⟩:=open3 (E:=E) hE1 hE2 hE4
   refine WP_seq<|WP_region<|O (r_move (v:=v13) rfl) rfl ?_
   have hsL1:=hs
   have hRv1L1:=hRv1
   have hRv2L1:=hRv2
   obtain ⟨gg2,hlegg2,hRgg2,hs⟩:=hs.relRow (i:=0) rfl hrelxs11
   replace hRv1:=hRv1.mono hlegg2
   replace hRv2:=hRv2.mono hlegg2
   obtain ⟨rv2,hrv2,hM⟩:=bindS hM
   refine C [v13] cf90 rfl (byteset_Classes_ok hrv2 hs.imm hRgg2) rfl ?_
   rintro v23 wv29 ⟨gg3,xs22,hvv23,hegg3⟩
   obtain ⟨gg4,hlegg4,hs⟩:=hsL1.lentOwn hegg3
   simp only [List.cons_append,List.nil_append] at hs
   have hvv23:RowRel (tInt .i64) gg4 xs22 rv2:=RowRel.flat (fun _ _ _ _ h=>h) hvv23
   replace hRv1:=hRv1L1.mono hlegg4
   replace hRv2:=hRv2L1.mono hlegg4
   have ho1:=one_of_shape (hs.rowShape (i:=0) rfl)
   refine O (r_build (vs:=[(0,v23)]) (cs:=[v23,Value.slice none 0 0,Value.slice none 0 0]) rfl (built_fill [(0,1),(1,1),(2,1)] [Value.slice none 0 0,Value.slice none 0 0,Value.slice none 0 0] (fun _=>by kernel_rfl) (fill_step ([]) ([Value.slice none 0 0]) ([Value.slice none 0 0,Value.slice none 0 0]) ([v23]) rfl rfl (cells_one ho1) rfl rfl rfl<|fill_done))) rfl<|OW_alloc ti37 hs (zs:=[Value.slice none 0 0,Value.slice none 0 0,Value.slice none 0 0]) rfl rfl ?_
   intro b15 wv30 hs
   refine OW_storeAll ti37 hs (i:=0) rfl rfl (v:=Value.agg (List.toArray (α:=Value) [v23,Value.slice none 0 0,Value.slice none 0 0])) rfl (vs:=[v23,Value.slice none 0 0,Value.slice none 0 0]) rfl (one_cons (by obtain ⟨_,_,h9⟩:=hs.rowShape (i:=1) rfl; rw [h9]; rfl) (one_cons rfl (one_cons rfl one_nil))) rfl rfl ?_
   intro wv31 hs
   refine OW_nil<|WP_seq<|WP_region<|O (r_fieldAddr Tryz.underlying37 ti34 rfl rfl (by decide) rfl rfl) rfl<|O (r_load (v:=v23) ti34 rfl (hs.cell (i:=0) (o:=0) rfl rfl)) rfl ?_
   have hsL2:=hs
   have hRv1L2:=hRv1
   have hRv2L2:=hRv2
   have hvv23L2:=hvv23
   obtain ⟨gg5,hlegg5,hRgg5,hs⟩:=hs.relRow (i:=1) rfl hvv23
   replace hRv1:=hRv1.mono hlegg5
   replace hRv2:=hRv2.mono hlegg5
   obtain ⟨rv3,hrv3,hM⟩:=bindS hM
   refine C [v23] cf91 rfl (dfa_sample_ok hrv3 hs.imm hRgg5) rfl ?_
   rintro v24 wv32 ⟨gg6,xs23,hvv24,hegg6⟩
   obtain ⟨gg7,hlegg7,hs⟩:=hsL2.lentOwn hegg6
   simp only [List.cons_append,List.nil_append] at hs
   have hvv24:RowRel (tInt .u8) gg7 xs23 rv3:=RowRel.flat (fun _ _ _ _ h=>h) hvv24
   replace hRv1:=hRv1L2.mono hlegg7
   replace hRv2:=hRv2L2.mono hlegg7
   replace hvv23:=hvv23L2.mono hlegg7
   refine O (r_assign (v:=v24) rfl) rfl<|OW_nil<|WP_seq<|WP_region<|O (r_loadN (cs:=[Value.int .i64 p1.States,Value.int .i64 p1.Start,v1,v2]) ti71 rfl rfl (hs.cells (i:=5) rfl)) rfl<|O (r_fieldAddr Tryz.underlying71 ti3 rfl rfl (by decide) rfl rfl) rfl<|O (r_load (v:=Value.int .i64 p1.Start) ti3 rfl (hs.cell (i:=5) (o:=1) rfl rfl)) rfl<|OW_lit (τ:=(tInt .i64)) [Value.int .i64 p1.Start] [p1.Start] Tryz.underlying34 ti3 (by decide) hs rfl rfl rfl ⟨rfl,trivial⟩ rfl ?_
   intro v25 wv33 xs24 hrelxs24 hs
   have hsL3:=hs
   have hRv1L3:=hRv1
   have hRv2L3:=hRv2
   have hvv23L3:=hvv23
   have hvv24L3:=hvv24
   obtain ⟨gg8,hlegg8,hRgg8,hs⟩:=hs.relRow (i:=0) rfl hrelxs24
   replace hRv1:=hRv1.mono hlegg8
   replace hRv2:=hRv2.mono hlegg8
   replace hvv23:=hvv23.mono hlegg8
   replace hvv24:=hvv24.mono hlegg8
   obtain ⟨rv4,hrv4,hM⟩:=bindS hM
   refine C [Value.agg (List.toArray (α:=Value) [Value.int .i64 p1.States,Value.int .i64 p1.Start,v1,v2]),v25] cf92 rfl (nfa_Closure_ok hrv4 hs.imm (⟨[Value.int .i64 p1.States],[Value.int .i64 p1.Start],[v1],[v2],rfl,rfl,rfl,⟨_,rfl,hRv1⟩,⟨_,rfl,hRv2⟩⟩) hRgg8) rfl ?_
   rintro v26 wv34 ⟨gg9,xs25,hvv26,hegg9⟩
   obtain ⟨gg10,hlegg10,hs⟩:=hsL3.lentOwn hegg9
   simp only [List.cons_append,List.nil_append] at hs
   have hvv26:RowRel (tInt .i64) gg10 xs25 rv4:=RowRel.flat (fun _ _ _ _ h=>h) hvv26
   replace hRv1:=hRv1L3.mono hlegg10
   replace hRv2:=hRv2L3.mono hlegg10
   replace hvv23:=hvv23L3.mono hlegg10
   replace hvv24:=hvv24L3.mono hlegg10
   obtain ⟨gg11,hlegg11,hRgg11,hs⟩:=hs.relRow (i:=0) rfl hvv26
   replace hRv1:=hRv1.mono hlegg11
   replace hRv2:=hRv2.mono hlegg11
   replace hvv23:=hvv23.mono hlegg11
   replace hvv24:=hvv24.mono hlegg11
   refine OW_lit (τ:=(tSl (tInt .i64))) [v26] [rv4] Tryz.underlying35 ti34 (by decide) hs rfl rfl rfl ⟨⟨v26,cells_one (by obtain ⟨_,_,h9⟩:=hRgg11.shape; rw [h9]; rfl),hRgg11⟩,trivial⟩ rfl ?_
   intro v27 wv35 xs26 hrelxs26 hs
   refine O (r_assign (v:=v27) rfl) rfl<|OW_nil<|WP_seq<|WP_region<|OW_makeMap hs rfl ?_
   intro b16 wv36 hs
   have hmb16:MRel encS (Value.int .i64) #[] 0 []:=mrel_nil
   refine O (r_move (v:=v27) rfl) rfl ?_
   obtain ⟨e7,he7,hM⟩:=bindS hM
   obtain ⟨b17,cb17,hvb17,cs37,hcs37,hcb17⟩:=hs.rowEl (i:=1) rfl hrelxs26 he7
   obtain ⟨v28,rfl,hRv28⟩:=hcs37
   refine O (r_idxSl Tryz.underlying35 ti34 (v:=v27) rfl hvb17 rfl (idxL_some he7).1 (idxL_some he7).2.1) rfl<|O (r_loadEl (cs:=[v28]) ti34 rfl rfl (.inr rfl) (hcb17 _ (hs.at (i:=1) rfl)) (v:=v28) rfl) rfl ?_
   obtain ⟨rv5,hrv5,hM⟩:=bindS hM
   refine C [v28] cf93 rfl (dfa_key_ok hrv5 hs.imm hRv28) rfl ?_
   rintro v29 wv37 ⟨gg12,hvv29,hegg12⟩
   have hlegg12:=hegg12.le hs.imm
   replace hs:=hs.call hegg12
   replace hRv1:=hRv1.mono hlegg12
   replace hRv2:=hRv2.mono hlegg12
   replace hvv23:=hvv23.mono hlegg12
   replace hvv24:=hvv24.mono hlegg12
   replace hrelxs26:=hrelxs26.mono hlegg12
   obtain ⟨cs38,rfl,hcs38⟩:=hvv29
   have hcs38:cs38=_:=hcs38; subst hcs38
   refine OW_mapIns (kk:=rv5) (vv:=0) Tryz.underlying137 (keyLaw_str Tryz.underlying9) hs (i:=0) rfl hmb16 rfl rfl rfl ?_
   intro es1 ck1 wv38 hmes1 hs
   refine O (r_move (v:=Value.map (some b16)) rfl) rfl<|O (r_assign (v:=Value.map (some b16)) rfl) rfl<|OW_nil ?_
   obtain ⟨o263,hx119,hKhx119⟩:=stepS hM
   refine WP_cut (fun E w=>∃(xv215:(List (List Int))) (xv216:(List Int)),o263=.next (xv215,xv216)∧∃(gg1045:Hp) (v999:Value) (xs844:List Value) (v1000:Value) (xs845:List Value) (v998:Value) (xs843:List Value),E 2=Value.pointer (some ⟨b2,0,none⟩)∧E 7=Value.pointer (some ⟨b15,0,none⟩)∧E.ds=[]∧Hle gg12 gg1045∧RowRel (tSl (tInt .i64)) gg1045 xs844 xv215∧RowRel (tInt .i64) gg1045 xs845 xv216∧RowRel (tInt .i64) gg1045 xs843 rv2∧Go.Lx.Sep g0 w0 gg1045 w [.row v999 34 (tSl (tInt .i64)).sz xv215.length xs844,.row v1000 3 (tInt .i64).sz xv216.length xs845,Go.Lx.box b15 37 ([v998,v999,v1000]),.row v998 3 (tInt .i64).sz rv2.length xs843,Go.Lx.box b2 37 ([Value.slice none 0 0,Value.slice none 0 0,Value.slice none 0 0])]) ?_ ?_
   ·have hM:=hx119
    have hagg12:=Hle.refl gg12
    refine WP_seq<|WP_region<|O (r_assign (v:=Value.int .i64 0) rfl) rfl<|OW_nil<|WP_block ?_
    have hs:=hs.nilRow 34 (tSl (tInt .i64)).sz
    have hs:=hs.nilRow 3 (tInt .i64).sz
    refine WP_loop (fun (st9:(List (List Int))×(List Int)×(List (List Int))×(List (Str×Int))×Int) E w=>match st9 with|(xv284,xv285,xv286,m209,xv287)=>∃(gg1390:Hp) (v1322:Value) (xs1119:List Value) (v1323:Value) (xs1120:List Value) (es402:Array MapEntry) (ck402:Nat) (v1325:Value) (xs1122:List Value) (v1324:Value) (xs1121:List Value) (v1321:Value) (xs1118:List Value),E 1=Value.pointer (some ⟨b1,0,none⟩)∧E 2=Value.pointer (some ⟨b2,0,none⟩)∧E 7=Value.pointer (some ⟨b15,0,none⟩)∧E 8=v1324∧E 9=v1325∧E 10=Value.map (some b16)∧E 11=Value.int .i64 xv287∧E.ds=[]∧Hle gg12 gg1390∧RowRel (tSl (tInt .i64)) gg1390 xs1119 xv284∧RowRel (tInt .i64) gg1390 xs1120 xv285∧MRel encS (Value.int .i64) es402 ck402 m209∧RowRel (tSl (tInt .i64)) gg1390 xs1122 xv286∧RowRel (tInt .u8) gg1390 xs1121 rv3∧RowRel (tInt .i64) gg1390 xs1118 rv2∧Go.Lx.Sep g0 w0 gg1390 w [.row v1322 34 (tSl (tInt .i64)).sz xv284.length xs1119,.row v1323 3 (tInt .i64).sz xv285.length xs1120,.obj b16 (.map es402 ck402),.row v1325 34 (tSl (tInt .i64)).sz xv286.length xs1122,.row v1324 5 (tInt .u8).sz rv3.length xs1121,Go.Lx.box b15 37 ([v1321,v1322,v1323]),.row v1321 3 (tInt .i64).sz rv2.length xs1118,Go.Lx.box b2 37 ([Value.slice none 0 0,Value.slice none 0 0,Value.slice none 0 0]),Go.Lx.box b1 71 ([Value.int .i64 p1.States,Value.int .i64 p1.Start,v1,v2])]) hM ⟨gg12,(Value.slice none 0 0),[],(Value.slice none 0 0),[],es1,ck1,v27,xs26,v24,xs23,v23,xs22,rfl,rfl,rfl,rfl,rfl,rfl,rfl,hds,(Hle.refl _),RowRel.nil,RowRel.nil,hmes1,hrelxs26,hvv24,hvv23,(hs.sel [1,0,2,3,5,6,7,9,10] (by decide) rfl)⟩ ?_
    clear hs hM
    rintro ⟨xv284,xv285,xv286,m209,xv287⟩ o219 E w hM ⟨gg1390,v1322,xs1119,v1323,xs1120,es402,ck402,v1325,xs1122,v1324,xs1121,v1321,xs1118,hE1,hE2,hE7,hE8,hE9,hE10,hE11,hds,hlegg1390,hrelxs1119,hrelxs1120,hmes402,hrelxs1122,hrelxs1121,hrelxs1118,hs⟩
    obtain ⟨E,rfl⟩:=open7 (E:=E) hE1 hE2 hE7 hE8 hE9 hE10 hE11
    replace hRv1:=hRv1.mono hlegg1390
    replace hRv2:=hRv2.mono hlegg1390
    have hagg1390:=Hle.refl gg1390
    refine WP_seq<|WP_seq<|WP_region<|O (r_move (v:=Value.int .i64 xv287) rfl) rfl<|O (r_move (v:=v1325) rfl) rfl ?_
    obtain ⟨a398,ca398,hva398⟩:=hs.rowShape (i:=3) rfl
    refine O (r_lenSl (v:=v1325) Tryz.underlying35 rfl hva398) rfl<|O (r_lss rfl rfl) rfl<|OW_nil ?_
    rcases condS hM with ⟨hc673,hM⟩|⟨hc673,hM⟩
    ·refine WP_true rfl hc673<|WP_skip ?_
     obtain ⟨o262,hx217,hKhx217⟩:=stepS hM
     refine WP_cut (fun E w=>∃(y765:(List (List Int))) (y766:(List Int)) (xv386:(List (List Int))) (m287:(List (Str×Int))),o262=.next (y765,y766,xv386,m287)∧∃(gg1906:Hp) (v1808:Value) (xs1527:List Value) (v1809:Value) (xs1528:List Value) (es552:Array MapEntry) (ck552:Nat) (v1811:Value) (xs1530:List Value) (v1810:Value) (xs1529:List Value) (v1807:Value) (xs1526:List Value),E 1=Value.pointer (some ⟨b1,0,none⟩)∧E 2=Value.pointer (some ⟨b2,0,none⟩)∧E 7=Value.pointer (some ⟨b15,0,none⟩)∧E 8=v1810∧E 9=v1811∧E 10=Value.map (some b16)∧E 11=Value.int .i64 xv287∧E.ds=[]∧Hle gg1390 gg1906∧RowRel (tSl (tInt .i64)) gg1906 xs1527 y765∧RowRel (tInt .i64) gg1906 xs1528 y766∧MRel encS (Value.int .i64) es552 ck552 m287∧RowRel (tSl (tInt .i64)) gg1906 xs1530 xv386∧RowRel (tInt .u8) gg1906 xs1529 rv3∧RowRel (tInt .i64) gg1906 xs1526 rv2∧Go.Lx.Sep g0 w0 gg1906 w [.row v1808 34 (tSl (tInt .i64)).sz y765.length xs1527,.row v1809 3 (tInt .i64).sz y766.length xs1528,.obj b16 (.map es552 ck552),.row v1811 34 (tSl (tInt .i64)).sz xv386.length xs1530,.row v1810 5 (tInt .u8).sz rv3.length xs1529,Go.Lx.box b15 37 ([v1807,v1808,v1809]),.row v1807 3 (tInt .i64).sz rv2.length xs1526,Go.Lx.box b2 37 ([Value.slice none 0 0,Value.slice none 0 0,Value.slice none 0 0]),Go.Lx.box b1 71 ([Value.int .i64 p1.States,Value.int .i64 p1.Start,v1,v2])]) ?_ ?_
     ·have hM:=hx217
      refine WP_block<|WP_seq<|WP_region<|O (r_move (v:=v1324) rfl) rfl ?_
      obtain ⟨a438,ca438,hva438⟩:=hs.rowShape (i:=4) rfl
      refine O (r_lenSl (v:=v1324) Tryz.underlying98 rfl hva438) rfl ?_
      obtain ⟨l89,hl89,hM⟩:=bindS hM
      refine OW_make (τ:=(tInt .i64)) (zc:=[Value.int .i64 0]) (zx:=0) Tryz.underlying34 ti3 rfl rfl (by decide) hs rfl rfl hl89 rfl ?_
      intro v1812 wv1975 xs1531 hrelxs1531 hs
      refine O (r_assign (v:=v1812) rfl) rfl<|OW_nil ?_
      obtain ⟨o261,hx227,hKhx227⟩:=stepS hM
      refine WP_cut (fun E w=>∃(xv402:(List (List Int))) (m300:(List (Str×Int))) (l93:(List Int)),o261=.next (xv402,m300,l93)∧∃(gg1991:Hp) (v1890:Value) (xs1597:List Value) (v1886:Value) (xs1593:List Value) (v1887:Value) (xs1594:List Value) (es577:Array MapEntry) (ck577:Nat) (v1889:Value) (xs1596:List Value) (v1888:Value) (xs1595:List Value) (v1885:Value) (xs1592:List Value),E 1=Value.pointer (some ⟨b1,0,none⟩)∧E 2=Value.pointer (some ⟨b2,0,none⟩)∧E 7=Value.pointer (some ⟨b15,0,none⟩)∧E 8=v1888∧E 9=v1889∧E 10=Value.map (some b16)∧E 11=Value.int .i64 xv287∧E 12=v1890∧E.ds=[]∧Hle gg1390 gg1991∧RowRel (tInt .i64) gg1991 xs1597 l93∧RowRel (tSl (tInt .i64)) gg1991 xs1593 xv284∧RowRel (tInt .i64) gg1991 xs1594 xv285∧MRel encS (Value.int .i64) es577 ck577 m300∧RowRel (tSl (tInt .i64)) gg1991 xs1596 xv402∧RowRel (tInt .u8) gg1991 xs1595 rv3∧RowRel (tInt .i64) gg1991 xs1592 rv2∧Go.Lx.Sep g0 w0 gg1991 w [.row v1890 3 (tInt .i64).sz l93.length xs1597,.row v1886 34 (tSl (tInt .i64)).sz xv284.length xs1593,.row v1887 3 (tInt .i64).sz xv285.length xs1594,.obj b16 (.map es577 ck577),.row v1889 34 (tSl (tInt .i64)).sz xv402.length xs1596,.row v1888 5 (tInt .u8).sz rv3.length xs1595,Go.Lx.box b15 37 ([v1885,v1886,v1887]),.row v1885 3 (tInt .i64).sz rv2.length xs1592,Go.Lx.box b2 37 ([Value.slice none 0 0,Value.slice none 0 0,Value.slice none 0 0]),Go.Lx.box b1 71 ([Value.int .i64 p1.States,Value.int .i64 p1.Start,v1,v2])]) ?_ ?_
      ·have hM:=hx227
       refine WP_seq<|WP_region<|O (r_move (v:=v1324) rfl) rfl ?_
       obtain ⟨a458,ca458,hva458⟩:=hs.rowShape (i:=5) rfl
       refine O (r_lenSl (v:=v1324) Tryz.underlying98 rfl hva458) rfl<|O (r_move (v:=Value.int .i64 0) rfl) rfl<|OW_nil<|WP_block<|WP_loop (fun (st9:(List (List Int))×(List (Str×Int))×(List Int)×Int) E w=>match st9 with|(xv408,m305,l95,xv409)=>∃(gg2020:Hp) (v1916:Value) (xs1619:List Value) (es586:Array MapEntry) (ck586:Nat) (v1915:Value) (xs1618:List Value),E 1=Value.pointer (some ⟨b1,0,none⟩)∧E 2=Value.pointer (some ⟨b2,0,none⟩)∧E 7=Value.pointer (some ⟨b15,0,none⟩)∧E 8=v1324∧E 9=v1915∧E 10=Value.map (some b16)∧E 11=Value.int .i64 xv287∧E 12=v1916∧E 62=v1324∧E 63=Value.int .i64 (rv3.length:Int)∧E 64=Value.int .i64 xv409∧E.ds=[]∧Hle gg1390 gg2020∧RowRel (tInt .i64) gg2020 xs1619 l95∧MRel encS (Value.int .i64) es586 ck586 m305∧RowRel (tSl (tInt .i64)) gg2020 xs1618 xv408∧Go.Lx.Sep g0 w0 gg2020 w [.row v1916 3 (tInt .i64).sz l95.length xs1619,.row v1322 34 (tSl (tInt .i64)).sz xv284.length xs1119,.row v1323 3 (tInt .i64).sz xv285.length xs1120,.obj b16 (.map es586 ck586),.row v1915 34 (tSl (tInt .i64)).sz xv408.length xs1618,.row v1324 5 (tInt .u8).sz rv3.length xs1121,Go.Lx.box b15 37 ([v1321,v1322,v1323]),.row v1321 3 (tInt .i64).sz rv2.length xs1118,Go.Lx.box b2 37 ([Value.slice none 0 0,Value.slice none 0 0,Value.slice none 0 0]),Go.Lx.box b1 71 ([Value.int .i64 p1.States,Value.int .i64 p1.Start,v1,v2])]) hM ⟨gg1390,v1812,xs1531,es402,ck402,v1325,xs1122,rfl,rfl,rfl,rfl,rfl,rfl,rfl,rfl,rfl,rfl,rfl,hds,(Hle.refl _),hrelxs1531,hmes402,hrelxs1122,hs⟩ ?_
       clear hs hM
       rintro ⟨xv408,m305,l95,xv409⟩ o257 E w hM ⟨gg2020,v1916,xs1619,es586,ck586,v1915,xs1618,hE1,hE2,hE7,hE8,hE9,hE10,hE11,hE12,hE62,hE63,hE64,hds,hlegg2020,hrelxs1619,hmes586,hrelxs1618,hs⟩
       obtain ⟨E,rfl⟩:=open8 (E:=E) hE1 hE2 hE7 hE8 hE9 hE10 hE11 hE12
       obtain ⟨E,rfl⟩:=open3 (E:=E) hE62 hE63 hE64
       replace hRv1:=hRv1.mono hlegg2020
       replace hRv2:=hRv2.mono hlegg2020
       replace hrelxs1119:=hrelxs1119.mono hlegg2020
       replace hrelxs1120:=hrelxs1120.mono hlegg2020
       replace hrelxs1121:=hrelxs1121.mono hlegg2020
       replace hrelxs1118:=hrelxs1118.mono hlegg2020
       have hagg2020:=Hle.refl gg2020
       refine WP_seq<|WP_region<|O (r_lss rfl rfl) rfl<|OW_nil<|WP_seq ?_
       rcases condS hM with ⟨hc795,hM⟩|⟨hc795,hM⟩
       ·refine WP_true rfl hc795<|WP_skip ?_
        obtain ⟨o260,hx235,hKhx235⟩:=stepS hM
        refine WP_cut (fun E w=>∃(xv416:(List (List Int))) (m311:(List (Str×Int))) (y827:(List Int)),o260=.next (xv416,m311,y827)∧∃(gg2062:Hp) (v1952:Value) (xs1649:List Value) (es598:Array MapEntry) (ck598:Nat) (v1951:Value) (xs1648:List Value),E 1=Value.pointer (some ⟨b1,0,none⟩)∧E 2=Value.pointer (some ⟨b2,0,none⟩)∧E 7=Value.pointer (some ⟨b15,0,none⟩)∧E 8=v1324∧E 9=v1951∧E 10=Value.map (some b16)∧E 11=Value.int .i64 xv287∧E 12=v1952∧E 62=v1324∧E 63=Value.int .i64 (rv3.length:Int)∧E 64=Value.int .i64 xv409∧E.ds=[]∧Hle gg2020 gg2062∧RowRel (tInt .i64) gg2062 xs1649 y827∧MRel encS (Value.int .i64) es598 ck598 m311∧RowRel (tSl (tInt .i64)) gg2062 xs1648 xv416∧Go.Lx.Sep g0 w0 gg2062 w [.row v1952 3 (tInt .i64).sz y827.length xs1649,.row v1322 34 (tSl (tInt .i64)).sz xv284.length xs1119,.row v1323 3 (tInt .i64).sz xv285.length xs1120,.obj b16 (.map es598 ck598),.row v1951 34 (tSl (tInt .i64)).sz xv416.length xs1648,.row v1324 5 (tInt .u8).sz rv3.length xs1121,Go.Lx.box b15 37 ([v1321,v1322,v1323]),.row v1321 3 (tInt .i64).sz rv2.length xs1118,Go.Lx.box b2 37 ([Value.slice none 0 0,Value.slice none 0 0,Value.slice none 0 0]),Go.Lx.box b1 71 ([Value.int .i64 p1.States,Value.int .i64 p1.Start,v1,v2])]) ?_ ?_
        ·have hM:=hx235
         refine WP_block<|WP_seq<|WP_region<|O (r_move (v:=Value.int .i64 xv409) rfl) rfl ?_
         obtain ⟨e289,he289,hM⟩:=bindS hM
         obtain ⟨b601,cb601,hvb601,cs776,hcs776,hcb601⟩:=hs.rowEl (i:=5) rfl hrelxs1121 he289
         have hcs776:cs776=_:=hcs776; subst hcs776
         refine O (r_idxSl Tryz.underlying98 ti5 (v:=v1324) rfl hvb601 rfl (idxL_some he289).1 (idxL_some he289).2.1) rfl<|O (r_loadEl (cs:=[Value.int .u8 e289]) ti5 rfl rfl (.inr rfl) (hcb601 _ (hs.at (i:=5) rfl)) (v:=Value.int .u8 e289) rfl) rfl<|O (r_assign (v:=Value.int .i64 xv409) rfl) rfl<|O (r_assign (v:=Value.int .u8 e289) rfl) rfl<|OW_nil<|WP_seq<|WP_drawTail 6 mo (by decide +kernel) ?_
         have hs:=hs.drew
         refine S (r_loadN (cs:=[Value.int .i64 p1.States,Value.int .i64 p1.Start,v1,v2]) ti71 rfl rfl (hs.cells (i:=9) rfl)) rfl<|S (r_move (v:=v1915) rfl) rfl<|S (r_move (v:=Value.int .i64 xv287) rfl) rfl ?_
         obtain ⟨e290,he290,hM⟩:=bindS hM
         obtain ⟨b602,cb602,hvb602,cs777,hcs777,hcb602⟩:=hs.rowEl (i:=4) rfl hrelxs1618 he290
         obtain ⟨v1953,rfl,hRv1953⟩:=hcs777
         refine S (r_idxSl Tryz.underlying35 ti34 (v:=v1915) rfl hvb602 rfl (idxL_some he290).1 (idxL_some he290).2.1) rfl<|S (r_loadEl (cs:=[v1953]) ti34 rfl rfl (.inr rfl) (hcb602 _ (hs.at (i:=4) rfl)) (v:=v1953) rfl) rfl<|S (r_move (v:=Value.int .u8 e289) rfl) rfl<|SW_nil ?_
         obtain ⟨rv589,hrv589,hM⟩:=bindS hM
         refine C [Value.agg (List.toArray (α:=Value) [Value.int .i64 p1.States,Value.int .i64 p1.Start,v1,v2]),v1953,Value.int .u8 e289] cf94 rfl (nfa_Step_ok hrv589 hs.imm (⟨[Value.int .i64 p1.States],[Value.int .i64 p1.Start],[v1],[v2],rfl,rfl,rfl,⟨_,rfl,hRv1⟩,⟨_,rfl,hRv2⟩⟩) hRv1953) rfl ?_
         rintro v1954 wv2130 ⟨gg2063,xs1650,hvv1954,hegg2063⟩
         have hlegg2063:=hegg2063.ext.le hs.imm
         replace hs:=hs.callOwn hegg2063
         simp only [List.cons_append,List.nil_append] at hs
         replace hrelxs1619:=hrelxs1619.mono hlegg2063
         replace hrelxs1618:=hrelxs1618.mono hlegg2063
         replace hagg2020:=hagg2020.trans hlegg2063
         refine O (r_assign (v:=v1954) rfl) rfl<|OW_nil<|WP_seq<|WP_region<|O (r_move (v:=v1916) rfl) rfl<|O (r_move (v:=Value.int .i64 xv409) rfl) rfl ?_
         obtain ⟨y828,hy828,hM⟩:=bindS hM
         obtain ⟨b603,cb603,hvb603,wv2131,xs1651,hstb603,hrelb603,hsb603⟩:=hs.rowPut (i:=1) rfl hrelxs1619 hy828 (cs:=[Value.int .i64 (-1)]) rfl
         refine O (r_idxSl Tryz.underlying34 ti3 (v:=v1916) rfl hvb603 rfl (setL_some hy828).1 (setL_some hy828).2.1) rfl<|O0 (r_store ti3 rfl (v:=Value.int .i64 (-1)) rfl rfl hstb603) ?_
         have hs:=hsb603
         refine OW_nil<|WP_seq<|WP_seq<|WP_region<|O (r_move (v:=v1954) rfl) rfl ?_
         obtain ⟨a474,ca474,hva474⟩:=hs.rowShape (i:=0) rfl
         refine O (r_lenSl (v:=v1954) Tryz.underlying34 rfl hva474) rfl<|O (r_eql rfl rfl) rfl<|OW_nil ?_
         rcases condS hM with ⟨hc801,hM⟩|⟨hc801,hM⟩
         ·refine WP_true rfl hc801<|WP_exit ?_
          obtain rfl:=Option.some.inj hM
          exact ⟨xv408,m305,y828,rfl,gg2063,v1916,xs1651,es586,ck586,v1915,xs1618,rfl,rfl,rfl,rfl,rfl,rfl,rfl,rfl,rfl,rfl,rfl,hds,hagg2020,hrelb603,hmes586,hrelxs1618,(hs.sub (.cons _ (.cons_cons _ (.cons_cons _ (.cons_cons _ (.cons_cons _ (.cons_cons _ (.cons_cons _ (.cons_cons _ (.cons_cons _ (.cons_cons _ (.cons_cons _ .slnil))))))))))))⟩
         ·refine WP_false rfl hc801<|WP_skip<|WP_seq<|WP_region<|O (r_move (v:=Value.map (some b16)) rfl) rfl<|O (r_move (v:=v1954) rfl) rfl ?_
          have hsL433:=hs
          have hrelxs1618L433:=hrelxs1618
          have hvv1954L433:=hvv1954
          have hrelb603L433:=hrelb603
          have hagg2020L433:=hagg2020
          obtain ⟨gg2064,hlegg2064,hRgg2064,hs⟩:=hs.relRow (i:=0) rfl hvv1954
          replace hrelxs1618:=hrelxs1618.mono hlegg2064
          replace hrelb603:=hrelb603.mono hlegg2064
          replace hagg2020:=hagg2020.trans hlegg2064
          obtain ⟨rv590,hrv590,hM⟩:=bindS hM
          refine C [v1954] cf93 rfl (dfa_key_ok hrv590 hs.imm hRgg2064) rfl ?_
          rintro v1955 wv2132 ⟨gg2065,hvv1955,hegg2065⟩
          obtain ⟨gg2066,hlegg2066,hs⟩:=hsL433.lent hegg2065
          replace hrelxs1618:=hrelxs1618L433.mono hlegg2066
          replace hvv1954:=hvv1954L433.mono hlegg2066
          replace hrelb603:=hrelb603L433.mono hlegg2066
          replace hagg2020:=hagg2020L433.trans hlegg2066
          obtain ⟨cs778,rfl,hcs778⟩:=hvv1955
          have hcs778:cs778=_:=hcs778; subst hcs778
          refine O (r_lookup (z:=0) (kk:=rv590) Tryz.underlying137 ti3 (keyLaw_str Tryz.underlying9) hs (i:=4) rfl hmes586 rfl rfl) rfl<|O (r_move (v:=Value.tuple #[Value.int .i64 ((mget m305 rv590).getD 0),Value.bool ((mget m305 rv590).isSome)]) rfl) rfl<|O (r_extract (vs:=[Value.int .i64 ((mget m305 rv590).getD 0),Value.bool ((mget m305 rv590).isSome)]) (v:=Value.int .i64 ((mget m305 rv590).getD 0)) rfl rfl) rfl<|O (r_extract (vs:=[Value.int .i64 ((mget m305 rv590).getD 0),Value.bool ((mget m305 rv590).isSome)]) (v:=Value.bool ((mget m305 rv590).isSome)) rfl rfl) rfl<|O (r_assign (v:=Value.int .i64 ((mget m305 rv590).getD 0)) rfl) rfl<|O (r_assign (v:=Value.bool ((mget m305 rv590).isSome)) rfl) rfl ?_
          refine OW_nil ?_
          obtain ⟨o259,hx236,hKhx236⟩:=stepS hM
          refine WP_cut (fun E w=>∃(y830:(List (List Int))) (m312:(List (Str×Int))) (xv417:Int),o259=.next (y830,m312,xv417)∧∃(gg2071:Hp) (es600:Array MapEntry) (ck600:Nat) (v1959:Value) (xs1654:List Value),E 1=Value.pointer (some ⟨b1,0,none⟩)∧E 2=Value.pointer (some ⟨b2,0,none⟩)∧E 7=Value.pointer (some ⟨b15,0,none⟩)∧E 8=v1324∧E 9=v1959∧E 10=Value.map (some b16)∧E 11=Value.int .i64 xv287∧E 12=v1916∧E 13=Value.int .i64 xv409∧E 16=Value.int .i64 xv417∧E 62=v1324∧E 63=Value.int .i64 (rv3.length:Int)∧E 64=Value.int .i64 xv409∧E.ds=[]∧Hle gg2066 gg2071∧MRel encS (Value.int .i64) es600 ck600 m312∧RowRel (tSl (tInt .i64)) gg2071 xs1654 y830∧Go.Lx.Sep g0 w0 gg2071 w [.row v1916 3 (tInt .i64).sz y828.length xs1651,.row v1322 34 (tSl (tInt .i64)).sz xv284.length xs1119,.row v1323 3 (tInt .i64).sz xv285.length xs1120,.obj b16 (.map es600 ck600),.row v1959 34 (tSl (tInt .i64)).sz y830.length xs1654,.row v1324 5 (tInt .u8).sz rv3.length xs1121,Go.Lx.box b15 37 ([v1321,v1322,v1323]),.row v1321 3 (tInt .i64).sz rv2.length xs1118,Go.Lx.box b2 37 ([Value.slice none 0 0,Value.slice none 0 0,Value.slice none 0 0]),Go.Lx.box b1 71 ([Value.int .i64 p1.States,Value.int .i64 p1.Start,v1,v2])]) ?_ ?_
          ·have hM:=hx236
           have hagg2066:=Hle.refl gg2066
           refine WP_seq<|WP_region<|O (r_move (v:=Value.bool ((mget m305 rv590).isSome)) rfl) rfl<|O (r_not rfl) rfl<|OW_nil ?_
           rcases condS hM with ⟨hc804,hM⟩|⟨hc804,hM⟩
           ·refine WP_true rfl hc804<|WP_seq<|WP_region<|O (r_move (v:=v1915) rfl) rfl ?_
            obtain ⟨a476,ca476,hva476⟩:=hs.rowShape (i:=5) rfl
            refine O (r_lenSl (v:=v1915) Tryz.underlying35 rfl hva476) rfl<|O (r_assign (v:=Value.int .i64 (xv408.length:Int)) rfl) rfl<|OW_nil<|WP_seq<|WP_seq<|WP_region<|O (r_move (v:=Value.int .i64 (xv408.length:Int)) rfl) rfl<|O (r_eql rfl rfl) rfl<|OW_nil ?_
            rcases condS hM with ⟨hc805,hM⟩|⟨hc805,hM⟩
            ·refine WP_true rfl hc805<|WP_seq<|WP_region<|O (r_build (vs:=[]) (cs:=[Value.slice none 0 0,Value.slice none 0 0,Value.slice none 0 0]) rfl (built_fill [(0,1),(1,1),(2,1)] [Value.slice none 0 0,Value.slice none 0 0,Value.slice none 0 0] (fun _=>by kernel_rfl) (fill_done))) rfl<|OW_storeAll ti37 hs (i:=9) rfl rfl (v:=Value.agg (List.toArray (α:=Value) [Value.slice none 0 0,Value.slice none 0 0,Value.slice none 0 0])) rfl (vs:=[Value.slice none 0 0,Value.slice none 0 0,Value.slice none 0 0]) rfl (one_cons rfl (one_cons rfl (one_cons rfl one_nil))) rfl rfl ?_
             intro wv2138 hs
             refine O (r_assign (v:=Value.int .i64 11) rfl) rfl<|OW_nil<|WP_ret ?_
             obtain rfl:=Option.some.inj hM
             have hM:=hKhx236
             obtain rfl:=Option.some.inj hM
             have hM:=hKhx235
             obtain rfl:=Option.some.inj hM
             refine fun hr=>?_
             have hM:=congrArg some hr
             obtain rfl:=Option.some.inj hM
             have hM:=hKhx227
             obtain rfl:=Option.some.inj hM
             have hM:=hKhx217
             obtain rfl:=Option.some.inj hM
             refine fun hr=>?_
             have hM:=congrArg some hr
             obtain rfl:=Option.some.inj hM
             have hM:=hKhx119
             obtain rfl:=Option.some.inj hM
             refine FL_nil hds ?_
             exact ⟨_,res2 Tryz.results65 (rv_cells (vs:=[Value.slice none 0 0,Value.slice none 0 0,Value.slice none 0 0]) ti37 rfl rfl (hs.cells (i:=9) rfl)) (rv_tmp (v:=Value.int .i64 11) rfl),gg2066,⟨_,_,rfl,⟨[Value.slice none 0 0,Value.slice none 0 0,Value.slice none 0 0],rfl,⟨[Value.slice none 0 0],[Value.slice none 0 0],[Value.slice none 0 0],rfl,⟨_,rfl,RdS.nil⟩,⟨_,rfl,RdS.nil⟩,⟨_,rfl,RdS.nil⟩⟩⟩,⟨[Value.int .i64 11],rfl,rfl⟩⟩,hs.ext⟩
            ·refine WP_false rfl hc805<|WP_skip<|WP_seq<|WP_region<|O (r_move (v:=Value.map (some b16)) rfl) rfl<|O (r_move (v:=v1954) rfl) rfl ?_
             have hsL435:=hs
             have hrelxs1618L435:=hrelxs1618
             have hvv1954L435:=hvv1954
             have hagg2066L435:=hagg2066
             obtain ⟨gg2072,hlegg2072,hRgg2072,hs⟩:=hs.relRow (i:=0) rfl hvv1954
             replace hrelxs1618:=hrelxs1618.mono hlegg2072
             replace hagg2066:=hagg2066.trans hlegg2072
             obtain ⟨rv592,hrv592,hM⟩:=bindS hM
             refine C [v1954] cf93 rfl (dfa_key_ok hrv592 hs.imm hRgg2072) rfl ?_
             rintro v1960 wv2139 ⟨gg2073,hvv1960,hegg2073⟩
             obtain ⟨gg2074,hlegg2074,hs⟩:=hsL435.lent hegg2073
             replace hrelxs1618:=hrelxs1618L435.mono hlegg2074
             replace hvv1954:=hvv1954L435.mono hlegg2074
             replace hagg2066:=hagg2066L435.trans hlegg2074
             obtain ⟨cs780,rfl,hcs780⟩:=hvv1960
             have hcs780:cs780=_:=hcs780; subst hcs780
             refine O (r_move (v:=Value.int .i64 (xv408.length:Int)) rfl) rfl<|OW_mapSet (kk:=rv592) (vv:=(xv408.length:Int)) Tryz.underlying137 (keyLaw_str Tryz.underlying9) hs (i:=4) rfl hmes586 rfl rfl rfl ?_
             intro es601 ck601 wv2140 hmes601 hs
             refine OW_nil<|WP_region<|O (r_move (v:=v1915) rfl) rfl<|O (r_move (v:=v1954) rfl) rfl ?_
             obtain ⟨gg2075,hlegg2075,hRgg2075,hs⟩:=hs.relRow (i:=0) rfl hvv1954
             replace hrelxs1618:=hrelxs1618.mono hlegg2075
             replace hagg2066:=hagg2066.trans hlegg2075
             refine OW_lit (τ:=(tSl (tInt .i64))) [v1954] [rv589] Tryz.underlying35 ti34 (by decide) hs rfl rfl rfl ⟨⟨v1954,cells_one (by obtain ⟨_,_,h9⟩:=hRgg2075.shape; rw [h9]; rfl),hRgg2075⟩,trivial⟩ rfl ?_
             intro v1961 wv2141 xs1655 hrelxs1655 hs
             obtain ⟨y831,hy831,hM⟩:=bindS hM
             refine OW_append Tryz.underlying35 ti34 rfl (by decide) (by decide) hs (i:=5) rfl hrelxs1618 (v:=v1915) rfl (u:=v1961) rfl (hs.rowSrc (i:=0) rfl) hrelxs1655 hy831 rfl ?_
             intro v1962 wv2142 xs1656 hrelxs1656 hs
             refine O (r_assign (v:=v1962) rfl) rfl<|OW_nil ?_
             obtain rfl:=Option.some.inj hM
             exact ⟨y831,(mset m305 rv592 (xv408.length:Int)),(xv408.length:Int),rfl,gg2075,es601,ck601,v1962,xs1656,rfl,rfl,rfl,rfl,rfl,rfl,rfl,rfl,rfl,rfl,rfl,rfl,rfl,hds,hagg2066,hmes601,hrelxs1656,(hs.sub (.cons _ (.cons_cons _ (.cons_cons _ (.cons_cons _ (.cons_cons _ (.cons_cons _ (.cons_cons _ (.cons_cons _ (.cons_cons _ (.cons_cons _ (.cons_cons _ .slnil))))))))))))⟩
           ·refine WP_false rfl hc804<|WP_skip ?_
            obtain rfl:=Option.some.inj hM
            exact ⟨xv408,m305,((mget m305 rv590).getD 0),rfl,gg2066,es586,ck586,v1915,xs1618,rfl,rfl,rfl,rfl,rfl,rfl,rfl,rfl,rfl,rfl,rfl,rfl,rfl,hds,(Hle.refl _),hmes586,hrelxs1618,(hs.sub (.cons _ (.cons_cons _ (.cons_cons _ (.cons_cons _ (.cons_cons _ (.cons_cons _ (.cons_cons _ (.cons_cons _ (.cons_cons _ (.cons_cons _ (.cons_cons _ .slnil))))))))))))⟩
          ·clear hs
           rintro E w ⟨y830,m312,xv417,rfl,gg2071,es600,ck600,v1959,xs1654,hE1,hE2,hE7,hE8,hE9,hE10,hE11,hE12,hE13,hE16,hE62,hE63,hE64,hds,hlegg2071,hmes600,hrelxs1654,hs⟩
           have hM:=hKhx236
           dsimp only [onStep] at hM
           obtain ⟨E,rfl⟩:=open8 (E:=E) hE1 hE2 hE7 hE8 hE9 hE10 hE11 hE12
           obtain ⟨E,rfl⟩:=open5 (E:=E) hE13 hE16 hE62 hE63 hE64
           replace hrelb603:=hrelb603.mono hlegg2071
           replace hagg2020:=hagg2020.trans hlegg2071
           refine WP_region<|O (r_move (v:=v1916) rfl) rfl<|O (r_move (v:=Value.int .i64 xv409) rfl) rfl<|O (r_move (v:=Value.int .i64 xv417) rfl) rfl ?_
           obtain ⟨y832,hy832,hM⟩:=bindS hM
           obtain ⟨b604,cb604,hvb604,wv2143,xs1657,hstb604,hrelb604,hsb604⟩:=hs.rowPut (i:=0) rfl hrelb603 hy832 (cs:=[Value.int .i64 xv417]) rfl
           refine O (r_idxSl Tryz.underlying34 ti3 (v:=v1916) rfl hvb604 rfl (setL_some hy832).1 (setL_some hy832).2.1) rfl<|O0 (r_store ti3 rfl (v:=Value.int .i64 xv417) rfl rfl hstb604) ?_
           have hs:=hsb604
           refine OW_nil ?_
           obtain rfl:=Option.some.inj hM
           exact ⟨y830,m312,y832,rfl,gg2071,v1916,xs1657,es600,ck600,v1959,xs1654,rfl,rfl,rfl,rfl,rfl,rfl,rfl,rfl,rfl,rfl,rfl,hds,hagg2020,hrelb604,hmes600,hrelxs1654,hs⟩
        ·clear hs
         rintro E w ⟨xv416,m311,y827,rfl,gg2062,v1952,xs1649,es598,ck598,v1951,xs1648,hE1,hE2,hE7,hE8,hE9,hE10,hE11,hE12,hE62,hE63,hE64,hds,hlegg2062,hrelxs1649,hmes598,hrelxs1648,hs⟩
         have hM:=hKhx235
         dsimp only [onStep] at hM
         obtain ⟨E,rfl⟩:=open8 (E:=E) hE1 hE2 hE7 hE8 hE9 hE10 hE11 hE12
         obtain ⟨E,rfl⟩:=open3 (E:=E) hE62 hE63 hE64
         replace hlegg2020:=hlegg2020.trans hlegg2062
         refine WP_region ?_
         obtain ⟨t83,ht83,hM⟩:=bindS hM
         refine O (r_addM rfl rfl ht83) rfl<|O (r_move (v:=Value.int .i64 t83) rfl) rfl<|OW_nil ?_
         obtain rfl:=Option.some.inj hM
         exact ⟨gg2062,v1952,xs1649,es598,ck598,v1951,xs1648,rfl,rfl,rfl,rfl,rfl,rfl,rfl,rfl,rfl,rfl,rfl,hds,hlegg2020,hrelxs1649,hmes598,hrelxs1648,hs⟩
       ·refine WP_false rfl hc795<|WP_exit ?_
        obtain rfl:=Option.some.inj hM
        refine fun hr=>?_
        have hM:=congrArg some hr
        obtain rfl:=Option.some.inj hM
        exact ⟨xv408,m305,l95,rfl,gg2020,v1916,xs1619,v1322,xs1119,v1323,xs1120,es586,ck586,v1915,xs1618,v1324,xs1121,v1321,xs1118,rfl,rfl,rfl,rfl,rfl,rfl,rfl,rfl,hds,hlegg2020,hrelxs1619,hrelxs1119,hrelxs1120,hmes586,hrelxs1618,hrelxs1121,hrelxs1118,hs⟩
      ·clear hs
       rintro E w ⟨xv402,m300,l93,rfl,gg1991,v1890,xs1597,v1886,xs1593,v1887,xs1594,es577,ck577,v1889,xs1596,v1888,xs1595,v1885,xs1592,hE1,hE2,hE7,hE8,hE9,hE10,hE11,hE12,hds,hlegg1991,hrelxs1597,hrelxs1593,hrelxs1594,hmes577,hrelxs1596,hrelxs1595,hrelxs1592,hs⟩
       have hM:=hKhx227
       dsimp only [onStep] at hM
       obtain ⟨E,rfl⟩:=open8 (E:=E) hE1 hE2 hE7 hE8 hE9 hE10 hE11 hE12
       replace hRv1:=hRv1.mono hlegg1991
       replace hRv2:=hRv2.mono hlegg1991
       replace hagg1390:=hagg1390.trans hlegg1991
       refine WP_seq<|WP_region<|O (r_fieldAddr Tryz.underlying37 ti35 rfl rfl (by decide) rfl rfl) rfl<|O (r_load (v:=v1886) ti35 rfl (hs.cell (i:=6) (o:=1) rfl rfl)) rfl<|O (r_move (v:=v1890) rfl) rfl ?_
       obtain ⟨gg2076,hlegg2076,hRgg2076,hs⟩:=hs.relRow (i:=0) rfl hrelxs1597
       replace hRv1:=hRv1.mono hlegg2076
       replace hRv2:=hRv2.mono hlegg2076
       replace hrelxs1593:=hrelxs1593.mono hlegg2076
       replace hrelxs1594:=hrelxs1594.mono hlegg2076
       replace hrelxs1596:=hrelxs1596.mono hlegg2076
       replace hrelxs1595:=hrelxs1595.mono hlegg2076
       replace hrelxs1592:=hrelxs1592.mono hlegg2076
       replace hagg1390:=hagg1390.trans hlegg2076
       refine OW_lit (τ:=(tSl (tInt .i64))) [v1890] [l93] Tryz.underlying35 ti34 (by decide) hs rfl rfl rfl ⟨⟨v1890,cells_one (by obtain ⟨_,_,h9⟩:=hRgg2076.shape; rw [h9]; rfl),hRgg2076⟩,trivial⟩ rfl ?_
       intro v1963 wv2144 xs1658 hrelxs1658 hs
       obtain ⟨y833,hy833,hM⟩:=bindS hM
       refine OW_append Tryz.underlying35 ti34 rfl (by decide) (by decide) hs (i:=1) rfl hrelxs1593 (v:=v1886) rfl (u:=v1963) rfl (hs.rowSrc (i:=0) rfl) hrelxs1658 hy833 rfl ?_
       intro v1964 wv2145 xs1659 hrelxs1659 hs
       refine O (r_fieldAddr Tryz.underlying37 ti35 rfl rfl (by decide) rfl rfl) rfl<|OW_store1 ti35 hs (i:=6) rfl rfl (v:=v1964) rfl (by obtain ⟨_,_,h9⟩:=hs.rowShape (i:=1) rfl; rw [h9]; rfl) (o:=1) (by simp) ?_
       intro wv2146 hs
       refine OW_nil<|WP_any (.q 0 (.q 1 (.q 2 (.q 3 (.q 4 (.q 5 (.q 6 (.s 7 (.s 8 (.s 9 (.q 10 (.s 11 (.leaf))))))))))))) (SS g0 w0 gg2076 [.row v1963 34 (tSl (tInt .i64)).sz [l93].length xs1658,.row v1964 34 (tSl (tInt .i64)).sz y833.length xs1659,.row v1887 3 (tInt .i64).sz xv285.length xs1594,.obj b16 (.map es577 ck577),.row v1889 34 (tSl (tInt .i64)).sz xv402.length xs1596,.row v1888 5 (tInt .u8).sz rv3.length xs1595,Go.Lx.box b15 37 ([v1885,v1964,v1887]),.row v1885 3 (tInt .i64).sz rv2.length xs1592,Go.Lx.box b2 37 ([Value.slice none 0 0,Value.slice none 0 0,Value.slice none 0 0]),Go.Lx.box b1 71 ([Value.int .i64 p1.States,Value.int .i64 p1.Start,v1,v2])]) mo (by decide +kernel) ?_
       have hs:=hs.drew
       have hagg2076:=Hle.refl gg2076
       have hS:SS g0 w0 gg2076 [.row v1963 34 (tSl (tInt .i64)).sz [l93].length xs1658,.row v1964 34 (tSl (tInt .i64)).sz y833.length xs1659,.row v1887 3 (tInt .i64).sz xv285.length xs1594,.obj b16 (.map es577 ck577),.row v1889 34 (tSl (tInt .i64)).sz xv402.length xs1596,.row v1888 5 (tInt .u8).sz rv3.length xs1595,Go.Lx.box b15 37 ([v1885,v1964,v1887]),.row v1885 3 (tInt .i64).sz rv2.length xs1592,Go.Lx.box b2 37 ([Value.slice none 0 0,Value.slice none 0 0,Value.slice none 0 0]),Go.Lx.box b1 71 ([Value.int .i64 p1.States,Value.int .i64 p1.Start,v1,v2])] _:=⟨gg2076,Hle.refl _,hs⟩
       refine A rfl hS (fun w9 ⟨g9,hle9,hs⟩=>r_fieldAddr Tryz.underlying37 ti34 rfl rfl (by decide) rfl rfl) rfl<|A rfl hS (fun w9 ⟨g9,hle9,hs⟩=>r_load (v:=v1887) ti34 rfl (hs.cell (i:=6) (o:=2) rfl rfl)) rfl<|A rfl hS (fun w9 ⟨g9,hle9,hs⟩=>r_loadN (cs:=[Value.int .i64 p1.States,Value.int .i64 p1.Start,v1,v2]) ti71 rfl rfl (hs.cells (i:=9) rfl)) rfl<|A rfl hS (fun w9 ⟨g9,hle9,hs⟩=>r_move (v:=v1889) rfl) rfl<|A rfl hS (fun w9 ⟨g9,hle9,hs⟩=>r_move (v:=Value.int .i64 xv287) rfl) rfl ?_
       obtain ⟨e291,he291,hM⟩:=bindS hM
       obtain ⟨b605,cb605,hvb605,cs781,hcs781,hcb605⟩:=hs.rowEl (i:=4) rfl hrelxs1596 he291
       obtain ⟨v1965,rfl,hRv1965⟩:=hcs781
       refine A rfl hS (fun w9 ⟨g9,hle9,hs⟩=>r_idxSl Tryz.underlying35 ti34 (v:=v1889) rfl hvb605 rfl (idxL_some he291).1 (idxL_some he291).2.1) rfl<|A rfl hS (fun w9 ⟨g9,hle9,hs⟩=>r_loadEl (cs:=[v1965]) ti34 rfl rfl (.inr rfl) (hcb605 _ (hs.at (i:=4) rfl)) (v:=v1965) rfl) rfl<|A1 rfl ?_
       obtain ⟨rv593,hrv593,hM⟩:=bindS hM
       refine C [Value.agg (List.toArray (α:=Value) [Value.int .i64 p1.States,Value.int .i64 p1.Start,v1,v2]),v1965] cf95 rfl (dfa_accepts_ok hrv593 hs.imm (⟨[Value.int .i64 p1.States],[Value.int .i64 p1.Start],[v1],[v2],rfl,rfl,rfl,⟨_,rfl,hRv1⟩,⟨_,rfl,hRv2⟩⟩) hRv1965) rfl ?_
       rintro v1966 wv2147 ⟨gg2077,hvv1966,hegg2077⟩
       have hlegg2077:=hegg2077.le hs.imm
       replace hs:=hs.call hegg2077
       replace hrelxs1594:=hrelxs1594.mono hlegg2077
       replace hrelxs1596:=hrelxs1596.mono hlegg2077
       replace hrelxs1595:=hrelxs1595.mono hlegg2077
       replace hrelxs1592:=hrelxs1592.mono hlegg2077
       replace hrelxs1659:=hrelxs1659.mono hlegg2077
       replace hagg1390:=hagg1390.trans hlegg2077
       replace hagg2076:=hagg2076.trans hlegg2077
       obtain ⟨cs782,rfl,hcs782⟩:=hvv1966
       have hcs782:cs782=_:=hcs782; subst hcs782
       refine OW_nil ?_
       replace hS:=hS.to hagg2076 hs
       refine ⟨fun _=>hS,?_⟩
       refine A1 rfl<|OW_lit (τ:=(tInt .i64)) [Value.int .i64 rv593] [rv593] Tryz.underlying34 ti3 (by decide) hs rfl rfl rfl ⟨rfl,trivial⟩ rfl ?_
       intro v1967 wv2148 xs1660 hrelxs1660 hs
       refine OW_nil ?_
       replace hS:=hS.to hagg2076 (hs.sub (.cons _ (.cons_cons _ (.cons_cons _ (.cons_cons _ (.cons_cons _ (.cons_cons _ (.cons_cons _ (.cons_cons _ (.cons_cons _ (.cons_cons _ (.cons_cons _ .slnil))))))))))))
       refine ⟨fun _=>hS,?_⟩
       refine A1 rfl ?_
       obtain ⟨y834,hy834,hM⟩:=bindS hM
       refine OW_appendK Tryz.underlying34 ti3 rfl (by decide) (by decide) hs (i:=3) rfl hrelxs1594 (v:=v1887) rfl (u:=v1967) rfl (hs.rowSrc (i:=0) rfl) hrelxs1660 hy834 rfl ?_
       intro v1968 wv2149 xs1661 hrelxs1661 hsO hs
       refine OW_nil ?_
       have hsO:Go.Lx.Sep g0 w0 gg2077 _ [.row v1963 34 (tSl (tInt .i64)).sz [l93].length xs1658,.row v1964 34 (tSl (tInt .i64)).sz y833.length xs1659,.row v1887 3 (tInt .i64).sz xv285.length xs1594,.obj b16 (.map es577 ck577),.row v1889 34 (tSl (tInt .i64)).sz xv402.length xs1596,.row v1888 5 (tInt .u8).sz rv3.length xs1595,Go.Lx.box b15 37 ([v1885,v1964,v1887]),.row v1885 3 (tInt .i64).sz rv2.length xs1592,Go.Lx.box b2 37 ([Value.slice none 0 0,Value.slice none 0 0,Value.slice none 0 0]),Go.Lx.box b1 71 ([Value.int .i64 p1.States,Value.int .i64 p1.Start,v1,v2])]:=(hsO.sub (.cons _ (.cons_cons _ (.cons_cons _ (.cons_cons _ (.cons_cons _ (.cons_cons _ (.cons_cons _ (.cons_cons _ (.cons_cons _ (.cons_cons _ (.cons_cons _ .slnil))))))))))))
       replace hS:=hS.to hagg2076 hsO
       refine ⟨fun _=>hS,?_⟩
       refine A rfl hS (fun w9 ⟨g9,hle9,hs⟩=>r_fieldAddr Tryz.underlying37 ti34 rfl rfl (by decide) rfl rfl) rfl<|A1 rfl<|OW_store1 ti34 hs (i:=7) rfl rfl (v:=v1968) rfl (by obtain ⟨_,_,h9⟩:=hs.rowShape (i:=3) rfl; rw [h9]; rfl) (o:=2) (by simp) ?_
       intro wv2150 hs
       refine OW_nil ?_
       refine ⟨fun h=>absurd h (by decide +kernel),?_⟩
       refine AN ?_
       obtain rfl:=Option.some.inj hM
       exact ⟨y833,y834,xv402,m300,rfl,gg2077,v1964,xs1659,v1968,xs1661,es577,ck577,v1889,xs1596,v1888,xs1595,v1885,xs1592,rfl,rfl,rfl,rfl,rfl,rfl,rfl,hds,hagg1390,hrelxs1659,hrelxs1661,hmes577,hrelxs1596,hrelxs1595,hrelxs1592,(hs.sub (.cons _ (.cons _ (.cons_cons _ (.cons_cons _ (.cons_cons _ (.cons_cons _ (.cons_cons _ (.cons_cons _ (.cons_cons _ (.cons_cons _ (.cons_cons _ .slnil))))))))))))⟩
     ·clear hs
      rintro E w ⟨y765,y766,xv386,m287,rfl,gg1906,v1808,xs1527,v1809,xs1528,es552,ck552,v1811,xs1530,v1810,xs1529,v1807,xs1526,hE1,hE2,hE7,hE8,hE9,hE10,hE11,hds,hlegg1906,hrelxs1527,hrelxs1528,hmes552,hrelxs1530,hrelxs1529,hrelxs1526,hs⟩
      have hM:=hKhx217
      dsimp only [onStep] at hM
      obtain ⟨E,rfl⟩:=open7 (E:=E) hE1 hE2 hE7 hE8 hE9 hE10 hE11
      replace hlegg1390:=hlegg1390.trans hlegg1906
      refine WP_region<|O (r_move (v:=Value.int .i64 xv287) rfl) rfl ?_
      obtain ⟨t84,ht84,hM⟩:=bindS hM
      refine O (r_addM rfl rfl ht84) rfl<|O (r_assign (v:=Value.int .i64 t84) rfl) rfl<|OW_nil ?_
      obtain rfl:=Option.some.inj hM
      exact ⟨gg1906,v1808,xs1527,v1809,xs1528,es552,ck552,v1811,xs1530,v1810,xs1529,v1807,xs1526,rfl,rfl,rfl,rfl,rfl,rfl,rfl,hds,hlegg1390,hrelxs1527,hrelxs1528,hmes552,hrelxs1530,hrelxs1529,hrelxs1526,hs⟩
    ·refine WP_false rfl hc673<|WP_exit ?_
     obtain rfl:=Option.some.inj hM
     refine fun hr=>?_
     have hM:=congrArg some hr
     obtain rfl:=Option.some.inj hM
     exact ⟨xv284,xv285,rfl,gg1390,v1322,xs1119,v1323,xs1120,v1321,xs1118,rfl,rfl,hds,hlegg1390,hrelxs1119,hrelxs1120,hrelxs1118,(hs.sub (.cons_cons _ (.cons_cons _ (.cons _ (.cons _ (.cons _ (.cons_cons _ (.cons_cons _ (.cons_cons _ (.cons _ .slnil))))))))))⟩
   ·clear hs
    rintro E w ⟨xv215,xv216,rfl,gg1045,v999,xs844,v1000,xs845,v998,xs843,hE2,hE7,hds,hlegg1045,hrelxs844,hrelxs845,hrelxs843,hs⟩
    have hM:=hKhx119
    dsimp only [onStep] at hM
    obtain ⟨E,rfl⟩:=open2 (E:=E) hE2 hE7
    refine WP_seq<|WP_region<|O (r_loadN (cs:=[v998,v999,v1000]) ti37 rfl rfl (hs.cells (i:=2) rfl)) rfl<|OW_storeAll ti37 hs (i:=4) rfl rfl (v:=Value.agg (List.toArray (α:=Value) [v998,v999,v1000])) rfl (vs:=[v998,v999,v1000]) rfl (one_cons (by obtain ⟨_,_,h9⟩:=hs.rowShape (i:=3) rfl; rw [h9]; rfl) (one_cons (by obtain ⟨_,_,h9⟩:=hs.rowShape (i:=0) rfl; rw [h9]; rfl) (one_cons (by obtain ⟨_,_,h9⟩:=hs.rowShape (i:=1) rfl; rw [h9]; rfl) one_nil))) rfl rfl ?_
    intro wv2151 hs
    refine O (r_assign (v:=Value.int .i64 0) rfl) rfl<|OW_nil<|WP_ret ?_
    obtain rfl:=Option.some.inj hM
    obtain ⟨gg2078,hlegg2078,hRgg2078,hs⟩:=hs.relRow (i:=3) rfl hrelxs843
    replace hrelxs844:=hrelxs844.mono hlegg2078
    replace hrelxs845:=hrelxs845.mono hlegg2078
    obtain ⟨gg2079,hlegg2079,hRgg2079,hs⟩:=hs.relRow (i:=0) rfl hrelxs844
    replace hrelxs845:=hrelxs845.mono hlegg2079
    replace hRgg2078:=hRgg2078.mono hlegg2079
    obtain ⟨gg2080,hlegg2080,hRgg2080,hs⟩:=hs.relRow (i:=0) rfl hrelxs845
    replace hRgg2078:=hRgg2078.mono hlegg2080
    replace hRgg2079:=hRgg2079.mono hlegg2080
    refine FL_nil hds ?_
    exact ⟨_,res2 Tryz.results65 (rv_cells (vs:=[v998,v999,v1000]) ti37 rfl rfl (hs.cells (i:=1) rfl)) (rv_tmp (v:=Value.int .i64 0) rfl),gg2080,⟨_,_,rfl,⟨[v998,v999,v1000],rfl,⟨[v998],[v999],[v1000],rfl,⟨_,rfl,hRgg2078⟩,⟨_,rfl,hRgg2079⟩,⟨_,rfl,hRgg2080⟩⟩⟩,⟨[Value.int .i64 0],rfl,rfl⟩⟩,hs.ext⟩
set_option maxRecDepth 100000 in
theorem dfa_used_ok {p1:T_DFA} {r:T_DFA} (hM:M.dfa_used p1=some r) {g0:Hp} {w0:World} (hi:Imm g0 w0) {cs1:List Value} (hcs1:tT_DFA.rel g0 cs1 p1) :
    CallsV Tryz.prog 97 #[Value.agg cs1.toArray] w0 (fun v w'=>∃g',(VRd tT_DFA true g' v r)∧Ext g0 w0 g' w'):=by
 unfold M.dfa_used at hM
 obtain ⟨cs2,cs3,cs4,rfl,hcs2,hcs3,hcs4⟩:=hcs1
 obtain ⟨v1,rfl,hRv1⟩:=hcs2
 obtain ⟨v2,rfl,hRv2⟩:=hcs3
 obtain ⟨v3,rfl,hRv3⟩:=hcs4
 have hs:=Sep.start hi
 refine calls_of_WP (args:=[Value.agg (List.toArray (α:=Value) [v1,v2,v3])]) Tryz.func97 rfl Tryz.ntmps97 rfl ?_
 have hds:(argEnv [Value.agg (List.toArray (α:=Value) [v1,v2,v3])]).ds=[]:=rfl
 refine WP_seq<|WP_region<|OW_box (v:=Value.agg (List.toArray (α:=Value) [v1,v2,v3])) rfl hs (zs:=[v1,v2,v3]) rfl rfl ?_
 intro b1 wv1 hs
 refine OW_alloc ti37 hs (zs:=[Value.slice none 0 0,Value.slice none 0 0,Value.slice none 0 0]) rfl rfl ?_
 intro b2 wv2 hs
 refine OW_nil<|WP_seq<|WP_region<|OW_makeMap hs rfl ?_
 intro b3 wv3 hs
 have hmb3:MRel (Value.int .i64) (Value.int .i64) #[] 0 []:=mrel_nil
 refine O (r_assign (v:=Value.map (some b3)) rfl) rfl<|OW_nil<|WP_seq<|WP_region<|O (r_assign (v:=Value.slice none 0 0) rfl) rfl<|OW_nil ?_
 obtain ⟨l2,hx1,hKhx1⟩:=bindS hM
 refine WP_cut (fun E w=>∃(b6:Nat) (v6:Value) (xs3:List Value),E 1=Value.pointer (some ⟨b1,0,none⟩)∧E 2=Value.pointer (some ⟨b2,0,none⟩)∧E 3=Value.map (some b3)∧E 4=Value.slice none 0 0∧E 5=Value.pointer (some ⟨b6,0,none⟩)∧E.ds=[]∧RowRel (tInt .i64) g0 xs3 l2∧Go.Lx.Sep g0 w0 g0 w [Go.Lx.box b6 37 ([v6,Value.slice none 0 0,v3]),.row v6 3 (tInt .i64).sz l2.length xs3,.obj b3 (.map #[] 0),Go.Lx.box b2 37 ([Value.slice none 0 0,Value.slice none 0 0,Value.slice none 0 0]),Go.Lx.box b1 37 ([v1,v2,v3])]) ?_ ?_
 ·have hM:=hx1
  have hag0:=Hle.refl g0
  obtain ⟨l3,hl3,hM⟩:=bindS hM
  refine WP_any (.q 0 (.q 1 (.q 2 (.q 4 (.q 5 (.c 3 (.q 6 (.s 7 (.s 8 (.leaf)))) (.c 7 (.s 3 (.q 6 (.s 8 (.leaf)))) (.n)))))))) (SS g0 w0 g0 [.obj b3 (.map #[] 0),Go.Lx.box b2 37 ([Value.slice none 0 0,Value.slice none 0 0,Value.slice none 0 0]),Go.Lx.box b1 37 ([v1,v2,v3])]) mo (by decide +kernel) ?_
  have hs:=hs.drew
  have hS:SS g0 w0 g0 [.obj b3 (.map #[] 0),Go.Lx.box b2 37 ([Value.slice none 0 0,Value.slice none 0 0,Value.slice none 0 0]),Go.Lx.box b1 37 ([v1,v2,v3])] _:=⟨g0,Hle.refl _,hs⟩
  refine A rfl hS (fun w9 ⟨g9,hle9,hs⟩=>r_fieldAddr Tryz.underlying37 ti34 rfl rfl (by decide) rfl rfl) rfl<|A rfl hS (fun w9 ⟨g9,hle9,hs⟩=>r_load (v:=v1) ti34 rfl (hs.cell (i:=2) (o:=0) rfl rfl)) rfl ?_
  obtain ⟨a4,ca4,hva4⟩:=hRv1.shape
  refine A rfl hS (fun w9 ⟨g9,hle9,hs⟩=>r_lenSl (v:=v1) Tryz.underlying34 rfl hva4) rfl<|A rfl hS (fun w9 ⟨g9,hle9,hs⟩=>r_fieldAddr Tryz.underlying37 ti34 rfl rfl (by decide) rfl rfl) rfl<|A rfl hS (fun w9 ⟨g9,hle9,hs⟩=>r_load (v:=v3) ti34 rfl (hs.cell (i:=2) (o:=2) rfl rfl)) rfl<|A2 rfl ?_ ?_
  ·refine OW_make (τ:=(tInt .i64)) (zc:=[Value.int .i64 0]) (zx:=0) Tryz.underlying34 ti3 rfl rfl (by decide) hs rfl rfl hl3 rfl ?_
   intro v8 wv13 xs5 hrelxs5 hs
   refine OW_nil ?_
   replace hS:=hS.to (Hle.refl _) (hs.sub (.cons _ (.cons_cons _ (.cons_cons _ (.cons_cons _ .slnil)))))
   refine ⟨fun _=>hS,?_⟩
   have ho4:=one_of_shape (hs.rowShape (i:=0) rfl)
   refine A rfl hS (fun w9 ⟨g9,hle9,hs⟩=>r_build (vs:=[(0,v8),(2,v3)]) (cs:=[v8,Value.slice none 0 0,v3]) rfl (built_fill [(0,1),(1,1),(2,1)] [Value.slice none 0 0,Value.slice none 0 0,Value.slice none 0 0] (fun _=>by kernel_rfl) (fill_step ([]) ([Value.slice none 0 0]) ([Value.slice none 0 0,Value.slice none 0 0]) ([v8]) rfl rfl (cells_one ho4) rfl rfl rfl<|fill_step ([v8,Value.slice none 0 0]) ([Value.slice none 0 0]) ([]) ([v3]) rfl rfl (cells_one (by obtain ⟨_,_,h9⟩:=hRv3.shape; rw [h9]; rfl)) rfl rfl rfl<|fill_done))) rfl<|A1 rfl<|OW_alloc ti37 hs (zs:=[Value.slice none 0 0,Value.slice none 0 0,Value.slice none 0 0]) rfl rfl ?_
   intro b8 wv14 hs
   refine OW_nil ?_
   replace hS:=hS.to (Hle.refl _) (hs.sub (.cons _ (.cons _ (.cons_cons _ (.cons_cons _ (.cons_cons _ .slnil))))))
   refine ⟨fun _=>hS,?_⟩
   refine A1 rfl<|OW_storeAll ti37 hs (i:=0) rfl rfl (v:=Value.agg (List.toArray (α:=Value) [v8,Value.slice none 0 0,v3])) rfl (vs:=[v8,Value.slice none 0 0,v3]) rfl (one_cons (by obtain ⟨_,_,h9⟩:=hs.rowShape (i:=1) rfl; rw [h9]; rfl) (one_cons rfl (one_cons (by obtain ⟨_,_,h9⟩:=hRv3.shape; rw [h9]; rfl) one_nil))) rfl rfl ?_
   intro wv15 hs
   refine OW_nil ?_
   refine ⟨fun h=>absurd h (by decide +kernel),?_⟩
   refine AN ?_
   obtain rfl:=Option.some.inj hM
   exact ⟨b8,v8,xs5,rfl,rfl,rfl,rfl,rfl,hds,hrelxs5,hs⟩
  refine A2 rfl ?_ ?_
  ·refine OW_alloc ti37 hs (zs:=[Value.slice none 0 0,Value.slice none 0 0,Value.slice none 0 0]) rfl rfl ?_
   intro b8 wv13 hs
   refine OW_nil ?_
   replace hS:=hS.to (Hle.refl _) (hs.sub (.cons _ (.cons_cons _ (.cons_cons _ (.cons_cons _ .slnil)))))
   refine ⟨fun _=>hS,?_⟩
   refine A1 rfl<|OW_make (τ:=(tInt .i64)) (zc:=[Value.int .i64 0]) (zx:=0) Tryz.underlying34 ti3 rfl rfl (by decide) hs rfl rfl hl3 rfl ?_
   intro v8 wv14 xs5 hrelxs5 hs
   refine OW_nil ?_
   replace hS:=hS.to (Hle.refl _) (hs.sub (.cons _ (.cons _ (.cons_cons _ (.cons_cons _ (.cons_cons _ .slnil))))))
   refine ⟨fun _=>hS,?_⟩
   have ho4:=one_of_shape (hs.rowShape (i:=0) rfl)
   refine A rfl hS (fun w9 ⟨g9,hle9,hs⟩=>r_build (vs:=[(0,v8),(2,v3)]) (cs:=[v8,Value.slice none 0 0,v3]) rfl (built_fill [(0,1),(1,1),(2,1)] [Value.slice none 0 0,Value.slice none 0 0,Value.slice none 0 0] (fun _=>by kernel_rfl) (fill_step ([]) ([Value.slice none 0 0]) ([Value.slice none 0 0,Value.slice none 0 0]) ([v8]) rfl rfl (cells_one ho4) rfl rfl rfl<|fill_step ([v8,Value.slice none 0 0]) ([Value.slice none 0 0]) ([]) ([v3]) rfl rfl (cells_one (by obtain ⟨_,_,h9⟩:=hRv3.shape; rw [h9]; rfl)) rfl rfl rfl<|fill_done))) rfl<|A1 rfl<|OW_storeAll ti37 hs (i:=1) rfl rfl (v:=Value.agg (List.toArray (α:=Value) [v8,Value.slice none 0 0,v3])) rfl (vs:=[v8,Value.slice none 0 0,v3]) rfl (one_cons (by obtain ⟨_,_,h9⟩:=hs.rowShape (i:=0) rfl; rw [h9]; rfl) (one_cons rfl (one_cons (by obtain ⟨_,_,h9⟩:=hRv3.shape; rw [h9]; rfl) one_nil))) rfl rfl ?_
   intro wv15 hs
   refine OW_nil ?_
   refine ⟨fun h=>absurd h (by decide +kernel),?_⟩
   refine AN ?_
   obtain rfl:=Option.some.inj hM
   exact ⟨b8,v8,xs5,rfl,rfl,rfl,rfl,rfl,hds,hrelxs5,(hs.sel [1,0,2,3,4] (by decide) rfl)⟩
  trivial
 ·clear hs
  rintro E w ⟨b6,v6,xs3,hE1,hE2,hE3,hE4,hE5,hds,hrelxs3,hs⟩
  have hM:=hKhx1
  obtain ⟨E,rfl⟩:=open5 (E:=E) hE1 hE2 hE3 hE4 hE5
  obtain ⟨⟨xv10,l7⟩,hx5,hKhx5⟩:=bindS hM
  refine WP_cut (fun E w=>∃(v30:Value) (xs32:List Value) (v31:Value) (xs33:List Value),E 1=Value.pointer (some ⟨b1,0,none⟩)∧E 2=Value.pointer (some ⟨b2,0,none⟩)∧E 4=v30∧E 5=Value.pointer (some ⟨b6,0,none⟩)∧E.ds=[]∧RowRel (tInt .i64) g0 xs32 xv10∧RowRel (tInt .i64) g0 xs33 l7∧Go.Lx.Sep g0 w0 g0 w [.row v30 3 (tInt .i64).sz xv10.length xs32,Go.Lx.box b6 37 ([v31,Value.slice none 0 0,v3]),.row v31 3 (tInt .i64).sz l7.length xs33,Go.Lx.box b2 37 ([Value.slice none 0 0,Value.slice none 0 0,Value.slice none 0 0]),Go.Lx.box b1 37 ([v1,v2,v3])]) ?_ ?_
  ·have hM:=hx5
   have hag0:=Hle.refl g0
   refine WP_seq<|WP_region<|O (r_fieldAddr Tryz.underlying37 ti34 rfl rfl (by decide) rfl rfl) rfl<|O (r_load (v:=v1) ti34 rfl (hs.cell (i:=4) (o:=0) rfl rfl)) rfl ?_
   obtain ⟨a10,ca10,hva10⟩:=hRv1.shape
   refine O (r_lenSl (v:=v1) Tryz.underlying34 rfl hva10) rfl<|O (r_move (v:=Value.int .i64 0) rfl) rfl<|OW_nil<|WP_block ?_
   have hs:=hs.nilRow 3 (tInt .i64).sz
   refine WP_loop (fun (st9:(List (Int×Int))×(List Int)×(List Int)×Int) E w=>match st9 with|(m9,xv14,l9,xv15)=>∃(v39:Value) (xs44:List Value) (v40:Value) (xs45:List Value) (es17:Array MapEntry) (ck17:Nat),E 1=Value.pointer (some ⟨b1,0,none⟩)∧E 2=Value.pointer (some ⟨b2,0,none⟩)∧E 3=Value.map (some b3)∧E 4=v39∧E 5=Value.pointer (some ⟨b6,0,none⟩)∧E 24=v1∧E 25=Value.int .i64 (p1.Class.length:Int)∧E 26=Value.int .i64 xv15∧E.ds=[]∧RowRel (tInt .i64) g0 xs44 xv14∧RowRel (tInt .i64) g0 xs45 l9∧MRel (Value.int .i64) (Value.int .i64) es17 ck17 m9∧Go.Lx.Sep g0 w0 g0 w [.row v39 3 (tInt .i64).sz xv14.length xs44,Go.Lx.box b6 37 ([v40,Value.slice none 0 0,v3]),.row v40 3 (tInt .i64).sz l9.length xs45,.obj b3 (.map es17 ck17),Go.Lx.box b2 37 ([Value.slice none 0 0,Value.slice none 0 0,Value.slice none 0 0]),Go.Lx.box b1 37 ([v1,v2,v3])]) hM ⟨(Value.slice none 0 0),[],v6,xs3,#[],0,rfl,rfl,rfl,rfl,rfl,rfl,rfl,rfl,hds,RowRel.nil,hrelxs3,hmb3,hs⟩ ?_
   clear hs hM
   rintro ⟨m9,xv14,l9,xv15⟩ o2 E w hM ⟨v39,xs44,v40,xs45,es17,ck17,hE1,hE2,hE3,hE4,hE5,hE24,hE25,hE26,hds,hrelxs44,hrelxs45,hmes17,hs⟩
   obtain ⟨E,rfl⟩:=open8 (E:=E) hE1 hE2 hE3 hE4 hE5 hE24 hE25 hE26
   refine WP_seq<|WP_region<|O (r_lss rfl rfl) rfl<|OW_nil<|WP_seq ?_
   rcases condS hM with ⟨hc16,hM⟩|⟨hc16,hM⟩
   ·refine WP_true rfl hc16<|WP_skip<|WP_seq<|WP_block<|WP_seq<|WP_region<|O (r_move (v:=Value.int .i64 xv15) rfl) rfl ?_
    obtain ⟨e6,he6,hM⟩:=bindS hM
    obtain ⟨b19,ob19,cb19,hvb19,cs10,hcs10,hcb19⟩:=hRv1.at he6
    have hcs10:cs10=_:=hcs10; subst hcs10
    refine O (r_idxSl Tryz.underlying34 ti3 (v:=v1) rfl hvb19 rfl (idxL_some he6).1 (idxL_some he6).2.1) rfl<|O (r_loadEl (cs:=[Value.int .i64 e6]) ti3 rfl rfl (.inr rfl) (hcb19 _ hs.imm) (v:=Value.int .i64 e6) rfl) rfl<|O (r_assign (v:=Value.int .i64 xv15) rfl) rfl<|O (r_assign (v:=Value.int .i64 e6) rfl) rfl<|OW_nil<|WP_seq<|WP_region<|O (r_move (v:=Value.map (some b3)) rfl) rfl<|O (r_move (v:=Value.int .i64 e6) rfl) rfl<|O (r_lookup (z:=0) (kk:=e6) Tryz.underlying142 ti3 (keyLaw_int Tryz.underlying3) hs (i:=3) rfl hmes17 rfl rfl) rfl<|O (r_move (v:=Value.tuple #[Value.int .i64 ((mget m9 e6).getD 0),Value.bool ((mget m9 e6).isSome)]) rfl) rfl<|O (r_extract (vs:=[Value.int .i64 ((mget m9 e6).getD 0),Value.bool ((mget m9 e6).isSome)]) (v:=Value.int .i64 ((mget m9 e6).getD 0)) rfl rfl) rfl ?_
    refine O (r_extract (vs:=[Value.int .i64 ((mget m9 e6).getD 0),Value.bool ((mget m9 e6).isSome)]) (v:=Value.bool ((mget m9 e6).isSome)) rfl rfl) rfl<|O (r_assign (v:=Value.int .i64 ((mget m9 e6).getD 0)) rfl) rfl<|O (r_assign (v:=Value.bool ((mget m9 e6).isSome)) rfl) rfl<|OW_nil ?_
    obtain ⟨⟨m12,y22,xv19⟩,hx8,hKhx8⟩:=bindS hM
    refine WP_cut (fun E w=>∃(v50:Value) (xs56:List Value) (es23:Array MapEntry) (ck23:Nat),E 1=Value.pointer (some ⟨b1,0,none⟩)∧E 2=Value.pointer (some ⟨b2,0,none⟩)∧E 3=Value.map (some b3)∧E 4=v50∧E 5=Value.pointer (some ⟨b6,0,none⟩)∧E 6=Value.int .i64 xv15∧E 8=Value.int .i64 xv19∧E 24=v1∧E 25=Value.int .i64 (p1.Class.length:Int)∧E 26=Value.int .i64 xv15∧E.ds=[]∧RowRel (tInt .i64) g0 xs56 y22∧MRel (Value.int .i64) (Value.int .i64) es23 ck23 m12∧Go.Lx.Sep g0 w0 g0 w [.row v50 3 (tInt .i64).sz y22.length xs56,Go.Lx.box b6 37 ([v40,Value.slice none 0 0,v3]),.row v40 3 (tInt .i64).sz l9.length xs45,.obj b3 (.map es23 ck23),Go.Lx.box b2 37 ([Value.slice none 0 0,Value.slice none 0 0,Value.slice none 0 0]),Go.Lx.box b1 37 ([v1,v2,v3])]) ?_ ?_
    ·have hM:=hx8
     refine WP_seq<|WP_region<|O (r_move (v:=Value.bool ((mget m9 e6).isSome)) rfl) rfl<|O (r_not rfl) rfl<|OW_nil ?_
     rcases condS hM with ⟨hc18,hM⟩|⟨hc18,hM⟩
     ·refine WP_true rfl hc18<|WP_seq<|WP_region<|O (r_move (v:=v39) rfl) rfl ?_
      obtain ⟨a14,ca14,hva14⟩:=hs.rowShape (i:=0) rfl
      refine O (r_lenSl (v:=v39) Tryz.underlying34 rfl hva14) rfl<|O (r_assign (v:=Value.int .i64 (xv14.length:Int)) rfl) rfl<|OW_nil<|WP_seq<|WP_region<|O (r_move (v:=Value.map (some b3)) rfl) rfl<|O (r_move (v:=Value.int .i64 e6) rfl) rfl<|O (r_move (v:=Value.int .i64 (xv14.length:Int)) rfl) rfl<|OW_mapSet (kk:=e6) (vv:=(xv14.length:Int)) Tryz.underlying142 (keyLaw_int Tryz.underlying3) hs (i:=3) rfl hmes17 rfl rfl rfl ?_
      intro es24 ck24 wv54 hmes24 hs
      refine OW_nil<|WP_region<|O (r_move (v:=v39) rfl) rfl<|O (r_move (v:=Value.int .i64 e6) rfl) rfl<|OW_lit (τ:=(tInt .i64)) [Value.int .i64 e6] [e6] Tryz.underlying34 ti3 (by decide) hs rfl rfl rfl ⟨rfl,trivial⟩ rfl ?_
      intro v51 wv55 xs57 hrelxs57 hs
      obtain ⟨y23,hy23,hM⟩:=bindS hM
      refine OW_append Tryz.underlying34 ti3 rfl (by decide) (by decide) hs (i:=1) rfl hrelxs44 (v:=v39) rfl (u:=v51) rfl (hs.rowSrc (i:=0) rfl) hrelxs57 hy23 rfl ?_
      intro v52 wv56 xs58 hrelxs58 hs
      refine O (r_assign (v:=v52) rfl) rfl<|OW_nil ?_
      simp only [Option.some.injEq,Prod.mk.injEq] at hM
      obtain ⟨rfl,rfl,rfl⟩:=hM
      exact ⟨v52,xs58,es24,ck24,rfl,rfl,rfl,rfl,rfl,rfl,rfl,rfl,rfl,rfl,hds,hrelxs58,hmes24,(hs.sub (.cons _ (.cons_cons _ (.cons_cons _ (.cons_cons _ (.cons_cons _ (.cons_cons _ (.cons_cons _ .slnil))))))))⟩
     ·refine WP_false rfl hc18<|WP_skip ?_
      simp only [Option.some.injEq,Prod.mk.injEq] at hM
      obtain ⟨rfl,rfl,rfl⟩:=hM
      exact ⟨v39,xs44,es17,ck17,rfl,rfl,rfl,rfl,rfl,rfl,rfl,rfl,rfl,rfl,hds,hrelxs44,hmes17,hs⟩
    ·clear hs
     rintro E w ⟨v50,xs56,es23,ck23,hE1,hE2,hE3,hE4,hE5,hE6,hE8,hE24,hE25,hE26,hds,hrelxs56,hmes23,hs⟩
     have hM:=hKhx8
     obtain ⟨E,rfl⟩:=open8 (E:=E) hE1 hE2 hE3 hE4 hE5 hE6 hE8 hE24
     obtain ⟨E,rfl⟩:=open2 (E:=E) hE25 hE26
     refine WP_region<|O (r_fieldAddr Tryz.underlying37 ti34 rfl rfl (by decide) rfl rfl) rfl<|O (r_load (v:=v40) ti34 rfl (hs.cell (i:=1) (o:=0) rfl rfl)) rfl<|O (r_move (v:=Value.int .i64 xv15) rfl) rfl<|O (r_move (v:=Value.int .i64 xv19) rfl) rfl ?_
     obtain ⟨y24,hy24,hM⟩:=bindS hM
     obtain ⟨b20,cb20,hvb20,wv57,xs59,hstb20,hrelb20,hsb20⟩:=hs.rowPut (i:=2) rfl hrelxs45 hy24 (cs:=[Value.int .i64 xv19]) rfl
     refine O (r_idxSl Tryz.underlying34 ti3 (v:=v40) rfl hvb20 rfl (setL_some hy24).1 (setL_some hy24).2.1) rfl<|O0 (r_store ti3 rfl (v:=Value.int .i64 xv19) rfl rfl hstb20) ?_
     have hs:=hsb20
     refine OW_nil<|WP_region ?_
     obtain ⟨t6,ht6,hM⟩:=bindS hM
     refine O (r_addM rfl rfl ht6) rfl<|O (r_move (v:=Value.int .i64 t6) rfl) rfl<|OW_nil ?_
     obtain rfl:=Option.some.inj hM
     exact ⟨v50,xs56,v40,xs59,es23,ck23,rfl,rfl,rfl,rfl,rfl,rfl,rfl,rfl,hds,hrelxs56,hrelb20,hmes23,hs⟩
   ·refine WP_false rfl hc16<|WP_exit ?_
    obtain rfl:=Option.some.inj hM
    refine fun hr=>?_
    have hM:=congrArg some hr
    simp only [Option.some.injEq,Prod.mk.injEq] at hM
    obtain ⟨rfl,rfl⟩:=hM
    exact ⟨v39,xs44,v40,xs45,rfl,rfl,rfl,rfl,hds,hrelxs44,hrelxs45,(hs.sub (.cons_cons _ (.cons_cons _ (.cons_cons _ (.cons _ (.cons_cons _ (.cons_cons _ .slnil)))))))⟩
  ·clear hs
   rintro E w ⟨v30,xs32,v31,xs33,hE1,hE2,hE4,hE5,hds,hrelxs32,hrelxs33,hs⟩
   have hM:=hKhx5
   obtain ⟨E,rfl⟩:=open4 (E:=E) hE1 hE2 hE4 hE5
   obtain ⟨xv104,hx18,hKhx18⟩:=bindS hM
   refine WP_cut (fun E w=>∃(gg13:Hp) (v220:Value) (xs235:List Value) (v219:Value) (xs234:List Value),E 2=Value.pointer (some ⟨b2,0,none⟩)∧E 5=Value.pointer (some ⟨b6,0,none⟩)∧E.ds=[]∧Hle g0 gg13∧RowRel (tSl (tInt .i64)) gg13 xs235 xv104∧RowRel (tInt .i64) gg13 xs234 l7∧Go.Lx.Sep g0 w0 gg13 w [.row v220 34 (tSl (tInt .i64)).sz xv104.length xs235,Go.Lx.box b6 37 ([v219,v220,v3]),.row v219 3 (tInt .i64).sz l7.length xs234,Go.Lx.box b2 37 ([Value.slice none 0 0,Value.slice none 0 0,Value.slice none 0 0])]) ?_ ?_
   ·have hM:=hx18
    have hag0:=Hle.refl g0
    refine WP_seq<|WP_region<|O (r_fieldAddr Tryz.underlying37 ti35 rfl rfl (by decide) rfl rfl) rfl<|O (r_load (v:=v2) ti35 rfl (hs.cell (i:=4) (o:=1) rfl rfl)) rfl ?_
    obtain ⟨a28,ca28,hva28⟩:=hRv2.shape
    refine O (r_lenSl (v:=v2) Tryz.underlying35 rfl hva28) rfl<|O (r_move (v:=Value.int .i64 0) rfl) rfl<|OW_nil<|WP_block ?_
    have hs:=hs.nilRow 34 (tSl (tInt .i64)).sz
    refine WP_loop (fun (st9:(List (List Int))×Int) E w=>match st9 with|(xv133,xv134)=>∃(gg18:Hp) (v277:Value) (xs296:List Value) (v275:Value) (xs294:List Value) (v276:Value) (xs295:List Value),E 2=Value.pointer (some ⟨b2,0,none⟩)∧E 4=v275∧E 5=Value.pointer (some ⟨b6,0,none⟩)∧E 55=v2∧E 56=Value.int .i64 (p1.Next.length:Int)∧E 57=Value.int .i64 xv134∧E.ds=[]∧Hle g0 gg18∧RowRel (tSl (tInt .i64)) gg18 xs296 xv133∧RowRel (tInt .i64) gg18 xs294 xv10∧RowRel (tInt .i64) gg18 xs295 l7∧Go.Lx.Sep g0 w0 gg18 w [.row v277 34 (tSl (tInt .i64)).sz xv133.length xs296,.row v275 3 (tInt .i64).sz xv10.length xs294,Go.Lx.box b6 37 ([v276,v277,v3]),.row v276 3 (tInt .i64).sz l7.length xs295,Go.Lx.box b2 37 ([Value.slice none 0 0,Value.slice none 0 0,Value.slice none 0 0])]) hM ⟨g0,(Value.slice none 0 0),[],v30,xs32,v31,xs33,rfl,rfl,rfl,rfl,rfl,rfl,hds,(Hle.refl _),RowRel.nil,hrelxs32,hrelxs33,(hs.sub (.cons_cons _ (.cons_cons _ (.cons_cons _ (.cons_cons _ (.cons_cons _ (.cons _ .slnil)))))))⟩ ?_
    clear hs hM
    rintro ⟨xv133,xv134⟩ o24 E w hM ⟨gg18,v277,xs296,v275,xs294,v276,xs295,hE2,hE4,hE5,hE55,hE56,hE57,hds,hlegg18,hrelxs296,hrelxs294,hrelxs295,hs⟩
    obtain ⟨E,rfl⟩:=open6 (E:=E) hE2 hE4 hE5 hE55 hE56 hE57
    replace hRv2:=hRv2.mono hlegg18
    have hagg18:=Hle.refl gg18
    refine WP_seq<|WP_region<|O (r_lss rfl rfl) rfl<|OW_nil<|WP_seq ?_
    rcases condS hM with ⟨hc84,hM⟩|⟨hc84,hM⟩
    ·refine WP_true rfl hc84<|WP_skip ?_
     obtain ⟨y107,hx26,hKhx26⟩:=bindS hM
     refine WP_cut (fun E w=>∃(gg24:Hp) (v361:Value) (xs383:List Value) (v359:Value) (xs381:List Value) (v360:Value) (xs382:List Value),E 2=Value.pointer (some ⟨b2,0,none⟩)∧E 4=v359∧E 5=Value.pointer (some ⟨b6,0,none⟩)∧E 55=v2∧E 56=Value.int .i64 (p1.Next.length:Int)∧E 57=Value.int .i64 xv134∧E.ds=[]∧Hle gg18 gg24∧RowRel (tSl (tInt .i64)) gg24 xs383 y107∧RowRel (tInt .i64) gg24 xs381 xv10∧RowRel (tInt .i64) gg24 xs382 l7∧Go.Lx.Sep g0 w0 gg24 w [.row v361 34 (tSl (tInt .i64)).sz y107.length xs383,.row v359 3 (tInt .i64).sz xv10.length xs381,Go.Lx.box b6 37 ([v360,v361,v3]),.row v360 3 (tInt .i64).sz l7.length xs382,Go.Lx.box b2 37 ([Value.slice none 0 0,Value.slice none 0 0,Value.slice none 0 0])]) ?_ ?_
     ·have hM:=hx26
      refine WP_block<|WP_seq<|WP_region ?_
      obtain ⟨e150,he150,hM⟩:=bindS hM
      obtain ⟨b164,ob164,cb164,hvb164,cs154,hcs154,hcb164⟩:=hRv2.at he150
      obtain ⟨v362,rfl,hRv362⟩:=hcs154
      refine O (r_idxSl Tryz.underlying35 ti34 (v:=v2) rfl hvb164 rfl (idxL_some he150).1 (idxL_some he150).2.1) rfl<|O (r_loadEl (cs:=[v362]) ti34 rfl rfl (.inr rfl) (hcb164 _ hs.imm) (v:=v362) rfl) rfl<|O (r_assign (v:=v362) rfl) rfl<|OW_nil<|WP_seq<|WP_region<|O (r_assign (v:=Value.slice none 0 0) rfl) rfl<|OW_nil ?_
      obtain ⟨xv182,hx27,hKhx27⟩:=bindS hM
      refine WP_cut (fun E w=>∃(v375:Value) (xs397:List Value) (v374:Value) (xs396:List Value) (v372:Value) (xs394:List Value) (v373:Value) (xs395:List Value),E 2=Value.pointer (some ⟨b2,0,none⟩)∧E 4=v372∧E 5=Value.pointer (some ⟨b6,0,none⟩)∧E 12=v375∧E 55=v2∧E 56=Value.int .i64 (p1.Next.length:Int)∧E 57=Value.int .i64 xv134∧E.ds=[]∧RowRel (tInt .i64) gg18 xs397 xv182∧RowRel (tSl (tInt .i64)) gg18 xs396 xv133∧RowRel (tInt .i64) gg18 xs394 xv10∧RowRel (tInt .i64) gg18 xs395 l7∧Go.Lx.Sep g0 w0 gg18 w [.row v375 3 (tInt .i64).sz xv182.length xs397,.row v374 34 (tSl (tInt .i64)).sz xv133.length xs396,.row v372 3 (tInt .i64).sz xv10.length xs394,Go.Lx.box b6 37 ([v373,v374,v3]),.row v373 3 (tInt .i64).sz l7.length xs395,Go.Lx.box b2 37 ([Value.slice none 0 0,Value.slice none 0 0,Value.slice none 0 0])]) ?_ ?_
      ·have hM:=hx27
       refine WP_seq<|WP_region<|O (r_move (v:=v275) rfl) rfl ?_
       obtain ⟨a40,ca40,hva40⟩:=hs.rowShape (i:=1) rfl
       refine O (r_lenSl (v:=v275) Tryz.underlying34 rfl hva40) rfl<|O (r_move (v:=Value.int .i64 0) rfl) rfl<|OW_nil<|WP_block ?_
       have hs:=hs.nilRow 3 (tInt .i64).sz
       refine WP_loop (fun (st9:(List Int)×Int) E w=>match st9 with|(xv185,xv186)=>∃(v379:Value) (xs402:List Value),E 2=Value.pointer (some ⟨b2,0,none⟩)∧E 4=v275∧E 5=Value.pointer (some ⟨b6,0,none⟩)∧E 11=v362∧E 12=v379∧E 55=v2∧E 56=Value.int .i64 (p1.Next.length:Int)∧E 57=Value.int .i64 xv134∧E 61=v275∧E 62=Value.int .i64 (xv10.length:Int)∧E 63=Value.int .i64 xv186∧E.ds=[]∧RowRel (tInt .i64) gg18 xs402 xv185∧Go.Lx.Sep g0 w0 gg18 w [.row v379 3 (tInt .i64).sz xv185.length xs402,.row v277 34 (tSl (tInt .i64)).sz xv133.length xs296,.row v275 3 (tInt .i64).sz xv10.length xs294,Go.Lx.box b6 37 ([v276,v277,v3]),.row v276 3 (tInt .i64).sz l7.length xs295,Go.Lx.box b2 37 ([Value.slice none 0 0,Value.slice none 0 0,Value.slice none 0 0])]) hM ⟨(Value.slice none 0 0),[],rfl,rfl,rfl,rfl,rfl,rfl,rfl,rfl,rfl,rfl,rfl,hds,RowRel.nil,hs⟩ ?_
       clear hs hM
       rintro ⟨xv185,xv186⟩ o28 E w hM ⟨v379,xs402,hE2,hE4,hE5,hE11,hE12,hE55,hE56,hE57,hE61,hE62,hE63,hds,hrelxs402,hs⟩
       obtain ⟨E,rfl⟩:=open8 (E:=E) hE2 hE4 hE5 hE11 hE12 hE55 hE56 hE57
       obtain ⟨E,rfl⟩:=open3 (E:=E) hE61 hE62 hE63
       refine WP_seq<|WP_region<|O (r_lss rfl rfl) rfl<|OW_nil<|WP_seq ?_
       rcases condS hM with ⟨hc96,hM⟩|⟨hc96,hM⟩
       ·refine WP_true rfl hc96<|WP_skip<|WP_seq<|WP_block<|WP_seq<|WP_region ?_
        obtain ⟨e161,he161,hM⟩:=bindS hM
        obtain ⟨b175,cb175,hvb175,cs165,hcs165,hcb175⟩:=hs.rowEl (i:=2) rfl hrelxs294 he161
        have hcs165:cs165=_:=hcs165; subst hcs165
        refine O (r_idxSl Tryz.underlying34 ti3 (v:=v275) rfl hvb175 rfl (idxL_some he161).1 (idxL_some he161).2.1) rfl<|O (r_loadEl (cs:=[Value.int .i64 e161]) ti3 rfl rfl (.inr rfl) (hcb175 _ (hs.at (i:=2) rfl)) (v:=Value.int .i64 e161) rfl) rfl<|O (r_assign (v:=Value.int .i64 e161) rfl) rfl<|OW_nil<|WP_region<|O (r_move (v:=v379) rfl) rfl<|O (r_move (v:=v362) rfl) rfl<|O (r_move (v:=Value.int .i64 e161) rfl) rfl ?_
        obtain ⟨e162,he162,hM⟩:=bindS hM
        obtain ⟨b176,ob176,cb176,hvb176,cs166,hcs166,hcb176⟩:=hRv362.at he162
        have hcs166:cs166=_:=hcs166; subst hcs166
        refine O (r_idxSl Tryz.underlying34 ti3 (v:=v362) rfl hvb176 rfl (idxL_some he162).1 (idxL_some he162).2.1) rfl<|O (r_loadEl (cs:=[Value.int .i64 e162]) ti3 rfl rfl (.inr rfl) (hcb176 _ hs.imm) (v:=Value.int .i64 e162) rfl) rfl<|OW_lit (τ:=(tInt .i64)) [Value.int .i64 e162] [e162] Tryz.underlying34 ti3 (by decide) hs rfl rfl rfl ⟨rfl,trivial⟩ rfl ?_
        intro v383 wv233 xs406 hrelxs406 hs
        obtain ⟨y113,hy113,hM⟩:=bindS hM
        refine OW_append Tryz.underlying34 ti3 rfl (by decide) (by decide) hs (i:=1) rfl hrelxs402 (v:=v379) rfl (u:=v383) rfl (hs.rowSrc (i:=0) rfl) hrelxs406 hy113 rfl ?_
        intro v384 wv234 xs407 hrelxs407 hs
        refine O (r_assign (v:=v384) rfl) rfl<|OW_nil<|WP_region ?_
        obtain ⟨t83,ht83,hM⟩:=bindS hM
        refine O (r_addM rfl rfl ht83) rfl<|O (r_move (v:=Value.int .i64 t83) rfl) rfl<|OW_nil ?_
        obtain rfl:=Option.some.inj hM
        exact ⟨v384,xs407,rfl,rfl,rfl,rfl,rfl,rfl,rfl,rfl,rfl,rfl,rfl,hds,hrelxs407,(hs.sub (.cons _ (.cons_cons _ (.cons_cons _ (.cons_cons _ (.cons_cons _ (.cons_cons _ (.cons_cons _ .slnil))))))))⟩
       ·refine WP_false rfl hc96<|WP_exit ?_
        obtain rfl:=Option.some.inj hM
        refine fun hr=>?_
        have hM:=congrArg some hr
        obtain rfl:=Option.some.inj hM
        exact ⟨v379,xs402,v277,xs296,v275,xs294,v276,xs295,rfl,rfl,rfl,rfl,rfl,rfl,rfl,hds,hrelxs402,hrelxs296,hrelxs294,hrelxs295,hs⟩
      ·clear hs
       rintro E w ⟨v375,xs397,v374,xs396,v372,xs394,v373,xs395,hE2,hE4,hE5,hE12,hE55,hE56,hE57,hds,hrelxs397,hrelxs396,hrelxs394,hrelxs395,hs⟩
       have hM:=hKhx27
       obtain ⟨E,rfl⟩:=open7 (E:=E) hE2 hE4 hE5 hE12 hE55 hE56 hE57
       refine WP_region<|O (r_fieldAddr Tryz.underlying37 ti35 rfl rfl (by decide) rfl rfl) rfl<|O (r_load (v:=v374) ti35 rfl (hs.cell (i:=3) (o:=1) rfl rfl)) rfl<|O (r_move (v:=v375) rfl) rfl ?_
       obtain ⟨gg25,hlegg25,hRgg25,hs⟩:=hs.relRow (i:=0) rfl hrelxs397
       replace hrelxs396:=hrelxs396.mono hlegg25
       replace hrelxs394:=hrelxs394.mono hlegg25
       replace hrelxs395:=hrelxs395.mono hlegg25
       replace hagg18:=hagg18.trans hlegg25
       refine OW_lit (τ:=(tSl (tInt .i64))) [v375] [xv182] Tryz.underlying35 ti34 (by decide) hs rfl rfl rfl ⟨⟨v375,cells_one (by obtain ⟨_,_,h9⟩:=hRgg25.shape; rw [h9]; rfl),hRgg25⟩,trivial⟩ rfl ?_
       intro v385 wv235 xs408 hrelxs408 hs
       obtain ⟨y114,hy114,hM⟩:=bindS hM
       refine OW_append Tryz.underlying35 ti34 rfl (by decide) (by decide) hs (i:=1) rfl hrelxs396 (v:=v374) rfl (u:=v385) rfl (hs.rowSrc (i:=0) rfl) hrelxs408 hy114 rfl ?_
       intro v386 wv236 xs409 hrelxs409 hs
       refine O (r_fieldAddr Tryz.underlying37 ti35 rfl rfl (by decide) rfl rfl) rfl<|OW_store1 ti35 hs (i:=3) rfl rfl (v:=v386) rfl (by obtain ⟨_,_,h9⟩:=hs.rowShape (i:=1) rfl; rw [h9]; rfl) (o:=1) (by simp) ?_
       intro wv237 hs
       refine OW_nil ?_
       obtain rfl:=Option.some.inj hM
       exact ⟨gg25,v386,xs409,v372,xs394,v373,xs395,rfl,rfl,rfl,rfl,rfl,rfl,hds,hagg18,hrelxs409,hrelxs394,hrelxs395,(hs.sub (.cons _ (.cons_cons _ (.cons_cons _ (.cons_cons _ (.cons_cons _ (.cons_cons _ .slnil)))))))⟩
     ·clear hs
      rintro E w ⟨gg24,v361,xs383,v359,xs381,v360,xs382,hE2,hE4,hE5,hE55,hE56,hE57,hds,hlegg24,hrelxs383,hrelxs381,hrelxs382,hs⟩
      have hM:=hKhx26
      obtain ⟨E,rfl⟩:=open6 (E:=E) hE2 hE4 hE5 hE55 hE56 hE57
      replace hlegg18:=hlegg18.trans hlegg24
      refine WP_region ?_
      obtain ⟨t84,ht84,hM⟩:=bindS hM
      refine O (r_addM rfl rfl ht84) rfl<|O (r_move (v:=Value.int .i64 t84) rfl) rfl<|OW_nil ?_
      obtain rfl:=Option.some.inj hM
      exact ⟨gg24,v361,xs383,v359,xs381,v360,xs382,rfl,rfl,rfl,rfl,rfl,rfl,hds,hlegg18,hrelxs383,hrelxs381,hrelxs382,hs⟩
    ·refine WP_false rfl hc84<|WP_exit ?_
     obtain rfl:=Option.some.inj hM
     refine fun hr=>?_
     have hM:=congrArg some hr
     obtain rfl:=Option.some.inj hM
     exact ⟨gg18,v277,xs296,v276,xs295,rfl,rfl,hds,hlegg18,hrelxs296,hrelxs295,(hs.sub (.cons_cons _ (.cons _ (.cons_cons _ (.cons_cons _ (.cons_cons _ .slnil))))))⟩
   ·clear hs
    rintro E w ⟨gg13,v220,xs235,v219,xs234,hE2,hE5,hds,hlegg13,hrelxs235,hrelxs234,hs⟩
    have hM:=hKhx18
    obtain ⟨E,rfl⟩:=open2 (E:=E) hE2 hE5
    replace hRv3:=hRv3.mono hlegg13
    refine WP_seq<|WP_region<|O (r_loadN (cs:=[v219,v220,v3]) ti37 rfl rfl (hs.cells (i:=1) rfl)) rfl<|OW_storeAll ti37 hs (i:=3) rfl rfl (v:=Value.agg (List.toArray (α:=Value) [v219,v220,v3])) rfl (vs:=[v219,v220,v3]) rfl (one_cons (by obtain ⟨_,_,h9⟩:=hs.rowShape (i:=2) rfl; rw [h9]; rfl) (one_cons (by obtain ⟨_,_,h9⟩:=hs.rowShape (i:=0) rfl; rw [h9]; rfl) (one_cons (by obtain ⟨_,_,h9⟩:=hRv3.shape; rw [h9]; rfl) one_nil))) rfl rfl ?_
    intro wv238 hs
    refine OW_nil<|WP_ret ?_
    obtain rfl:=Option.some.inj hM
    obtain ⟨gg26,hlegg26,hRgg26,hs⟩:=hs.relRow (i:=2) rfl hrelxs234
    replace hRv3:=hRv3.mono hlegg26
    replace hrelxs235:=hrelxs235.mono hlegg26
    obtain ⟨gg27,hlegg27,hRgg27,hs⟩:=hs.relRow (i:=0) rfl hrelxs235
    replace hRv3:=hRv3.mono hlegg27
    replace hRgg26:=hRgg26.mono hlegg27
    refine FL_nil hds ?_
    exact ⟨_,res1 Tryz.results97 (rv_cells (vs:=[v219,v220,v3]) ti37 rfl rfl (hs.cells (i:=1) rfl)),gg27,⟨[v219,v220,v3],rfl,⟨[v219],[v220],[v3],rfl,⟨_,rfl,hRgg26⟩,⟨_,rfl,hRgg27⟩,⟨_,rfl,hRv3⟩⟩⟩,hs.ext⟩
set_option maxRecDepth 100000 in
theorem dfa_live_1_ok {t1:Int} {c1:(List Bool)} {r:Bool} (hM:M.dfa_live_1 t1 c1=some r) {g0:Hp} {w0:World} (hi:Imm g0 w0) {b1:Nat} {cs1:List Value} (hBb1:IBox 65 b1 cs1 g0) (hcs1:(tSl tBool).rel g0 cs1 c1) :
    CallsV Tryz.prog 130 #[Value.int .i64 t1,Value.pointer (some ⟨b1,0,none⟩)] w0 (fun v w'=>∃g',(VRd tBool false g' v r)∧Ext g0 w0 g' w'):=by
 unfold M.dfa_live_1 at hM
 obtain ⟨v1,rfl,hRv1⟩:=hcs1
 have hs:=Sep.start hi
 refine calls_of_WP (args:=[Value.int .i64 t1,Value.pointer (some ⟨b1,0,none⟩)]) Tryz.func130 rfl Tryz.ntmps130 rfl ?_
 have hds:(argEnv [Value.int .i64 t1,Value.pointer (some ⟨b1,0,none⟩)]).ds=[]:=rfl
 refine WP_seq<|WP_region<|O (r_assign (v:=Value.bool false) rfl) rfl<|OW_nil ?_
 obtain ⟨e2,hx1,hKhx1⟩:=bindS hM
 refine WP_cut (fun E w=>E 3=Value.bool e2∧E.ds=[]∧Go.Lx.Sep g0 w0 g0 w []) ?_ ?_
 ·have hM:=hx1
  have hag0:=Hle.refl g0
  refine WP_region<|O (r_move (v:=Value.int .i64 t1) rfl) rfl<|O (r_geq rfl rfl) rfl<|O (r_move (v:=Value.bool (decide (0≤t1))) rfl) rfl ?_
  rcases condS hM with ⟨hg2,hM⟩|⟨hg2,hM⟩
  ·refine OG rfl rfl rfl (by rw [hg2]; rfl) (r_loadEl (o:=0) (cs:=[v1]) ti65 rfl rfl (.inr rfl) (hBb1.cells hs.imm) (v:=v1) rfl) rfl<|OG rfl rfl rfl (by rw [hg2]; rfl) (r_move (v:=Value.int .i64 t1) rfl) rfl ?_
   obtain ⟨e3,he3,hM⟩:=bindS hM
   obtain ⟨b3,ob3,cb3,hvb3,cs3,hcs3,hcb3⟩:=hRv1.at he3
   have hcs3:cs3=_:=hcs3; subst hcs3
   refine OG rfl rfl rfl (by rw [hg2]; rfl) (r_idxSl Tryz.underlying65 ti4 (v:=v1) rfl hvb3 rfl (idxL_some he3).1 (idxL_some he3).2.1) rfl<|OG rfl rfl rfl (by rw [hg2]; rfl) (r_loadEl (cs:=[Value.bool e3]) ti4 rfl rfl (.inr rfl) (hcb3 _ hs.imm) (v:=Value.bool e3) rfl) rfl<|O (r_pickT (v:=Value.bool e3) rfl hg2 rfl) rfl<|O (r_assign (v:=Value.bool e3) rfl) rfl<|OW_nil ?_
   obtain rfl:=Option.some.inj hM
   exact ⟨rfl,hds,hs⟩
  ·refine OK rfl rfl rfl (by rw [hg2]; rfl) rfl<|OK rfl rfl rfl (by rw [hg2]; rfl) rfl<|OK rfl rfl rfl (by rw [hg2]; rfl) rfl<|OK rfl rfl rfl (by rw [hg2]; rfl) rfl<|O (r_pickF (v:=Value.bool false) rfl hg2 rfl) rfl<|O (r_assign (v:=Value.bool false) rfl) rfl<|OW_nil ?_
   obtain rfl:=Option.some.inj hM
   exact ⟨rfl,hds,hs⟩
 ·clear hs
  rintro E w ⟨hE3,hds,hs⟩
  have hM:=hKhx1
  obtain ⟨E,rfl⟩:=open1 (E:=E) hE3
  refine WP_ret ?_
  obtain rfl:=Option.some.inj hM
  refine FL_nil hds ?_
  exact ⟨_,res1 Tryz.results130 (rv_tmp (v:=Value.bool e2) rfl),g0,⟨[Value.bool e2],rfl,rfl⟩,hs.ext⟩
end Go.Proofs.YtggpjcdhflcfmaaGreatDoor
