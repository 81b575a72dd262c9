/- Part 8 of what the law leans on: my own layer, printed walks, plain facts. -/
import Derived.Test.YtggpjcdhflcfmaaGreatDoorKLexspecTerms7
set_option linter.unusedVariables false
set_option linter.unusedSimpArgs false
namespace Go.Proofs.YtggpjcdhflcfmaaGreatDoor
open Go.Lx Go.RowKit
set_option maxRecDepth 100000 in
theorem nfa_FromRegexes_ok {p1:(List T_Regex)} {r:T_NFA×Int} (hM:M.nfa_FromRegexes p1=some r) {g0:Hp} {w0:World} (hi:Imm g0 w0) {v1:Value} (hRv1:RdS tT_Regex g0 v1 p1) :
    CallsV Tryz.prog 64 #[v1] w0 (fun v w'=>∃g',(∃v1 v2,v=.tuple #[v1,v2]∧VRd tT_NFA true g' v1 r.1∧VRd (tInt .i64) false g' v2 r.2)∧Ext g0 w0 g' w'):=by
 unfold M.nfa_FromRegexes at hM
 have hs:=Sep.start hi
 refine calls_of_WP (args:=[v1]) Tryz.func64 rfl Tryz.ntmps64 rfl ?_
 have hds:(argEnv [v1]).ds=[]:=rfl
 refine WP_seq<|WP_region<|OW_alloc ti71 hs (zs:=[Value.int .i64 0,Value.int .i64 0,Value.slice none 0 0,Value.slice none 0 0]) rfl rfl ?_
 intro b1 wv1 hs
 refine O (r_assign (v:=Value.int .i64 0) rfl) rfl<|OW_nil<|WP_seq<|WP_region<|O (r_assign (v:=Value.int .i64 0) rfl) rfl<|OW_nil ?_
 obtain ⟨o3,hx1,hKhx1⟩:=stepS hM
 refine WP_cut (fun E w=>∃(xv7:Int),o3=.next xv7∧∃(gg10:Hp),E 0=v1∧E 2=Value.pointer (some ⟨b1,0,none⟩)∧E 4=Value.int .i64 xv7∧E.ds=[]∧Hle g0 gg10∧Go.Lx.Sep g0 w0 gg10 w [Go.Lx.box b1 71 ([Value.int .i64 0,Value.int .i64 0,Value.slice none 0 0,Value.slice none 0 0])]) ?_ ?_
 ·have hM:=hx1
  have hag0:=Hle.refl g0
  refine WP_seq<|WP_region<|O (r_move (v:=v1) rfl) rfl ?_
  obtain ⟨a2,ca2,hva2⟩:=hRv1.shape
  refine O (r_lenSl (v:=v1) Tryz.underlying51 rfl hva2) rfl<|O (r_move (v:=Value.int .i64 0) rfl) rfl<|OW_nil<|WP_block<|WP_loop (fun (st9:Int×Int) E w=>match st9 with|(xv10,xv11)=>∃(gg14:Hp),E 0=v1∧E 2=Value.pointer (some ⟨b1,0,none⟩)∧E 4=Value.int .i64 xv10∧E 19=v1∧E 20=Value.int .i64 (p1.length:Int)∧E 21=Value.int .i64 xv11∧E.ds=[]∧Hle g0 gg14∧Go.Lx.Sep g0 w0 gg14 w [Go.Lx.box b1 71 ([Value.int .i64 0,Value.int .i64 0,Value.slice none 0 0,Value.slice none 0 0])]) hM ⟨g0,rfl,rfl,rfl,rfl,rfl,rfl,hds,(Hle.refl _),hs⟩ ?_
  clear hs hM
  rintro ⟨xv10,xv11⟩ o2 E w hM ⟨gg14,hE0,hE2,hE4,hE19,hE20,hE21,hds,hlegg14,hs⟩
  obtain ⟨E,rfl⟩:=open6 (E:=E) hE0 hE2 hE4 hE19 hE20 hE21
  replace hRv1:=hRv1.mono hlegg14
  have hagg14:=Hle.refl gg14
  refine WP_seq<|WP_region<|O (r_lss rfl rfl) rfl<|OW_nil<|WP_seq ?_
  rcases condS hM with ⟨hc11,hM⟩|⟨hc11,hM⟩
  ·refine WP_true rfl hc11<|WP_skip<|WP_seq<|WP_block<|WP_seq<|WP_region ?_
   obtain ⟨e6,he6,hM⟩:=bindS hM
   obtain ⟨b12,ob12,cb12,hvb12,cs31,hcs31,hcb12⟩:=hRv1.at he6
   obtain ⟨cs32,cs33,cs34,rfl,hcs32,hcs33,hcs34⟩:=tT_Regex_iff.1 hcs31
   have hcs32:cs32=_:=hcs32; subst hcs32
   have hcs33:cs33=_:=hcs33; subst hcs33
   obtain ⟨v17,rfl,hRv17⟩:=hcs34
   refine O (r_idxSl Tryz.underlying51 ti53 (v:=v1) rfl hvb12 rfl (idxL_some he6).1 (idxL_some he6).2.1) rfl<|O (r_loadEl (cs:=([Value.int .i64 e6.Kind])++((e6.Set.1.map (Value.int .u64))++([v17]))) ti53 rfl (by simp [e6.Set.2]) (.inl rfl) (hcb12 _ hs.imm) (v:=Value.agg (List.toArray (α:=Value) (([Value.int .i64 e6.Kind])++((e6.Set.1.map (Value.int .u64))++([v17]))))) rfl) rfl<|OW_alloc ti53 hs (zs:=([Value.int .i64 0])++(((Vec.zero 4).1.map (Value.int .u64))++([Value.slice none 0 0]))) rfl rfl ?_
   intro b13 wv27 hs
   refine OW_storeAll ti53 hs (i:=0) rfl rfl (v:=Value.agg (List.toArray (α:=Value) (([Value.int .i64 e6.Kind])++((e6.Set.1.map (Value.int .u64))++([v17]))))) rfl (vs:=([Value.int .i64 e6.Kind])++((e6.Set.1.map (Value.int .u64))++([v17]))) rfl (one_append (one_cons rfl one_nil) (one_append vec_one (one_cons (by obtain ⟨_,_,h9⟩:=hRv17.shape; rw [h9]; rfl) one_nil))) (by simp [e6.Set.2]) (by simp [e6.Set.2,(Vec.zero 4).2]) ?_
   intro wv28 hs
   refine OW_nil<|WP_seq<|WP_seq<|WP_region<|O (r_loadN (cs:=([Value.int .i64 e6.Kind])++((e6.Set.1.map (Value.int .u64))++([v17]))) ti53 rfl (by simp [e6.Set.2]) (hs.cells (i:=0) rfl)) rfl ?_
   obtain ⟨rv11,hrv11,hM⟩:=bindS hM
   refine C [Value.agg (List.toArray (α:=Value) (([Value.int .i64 e6.Kind])++((e6.Set.1.map (Value.int .u64))++([v17]))))] cf63 rfl (regex_Valid_ok hrv11 hs.imm (tT_Regex_iff.2 ⟨[Value.int .i64 e6.Kind],e6.Set.1.map (Value.int .u64),[v17],rfl,rfl,rfl,⟨_,rfl,hRv17⟩⟩)) rfl ?_
   rintro v18 wv29 ⟨gg18,hvv18,hegg18⟩
   have hlegg18:=hegg18.le hs.imm
   replace hs:=hs.call hegg18
   replace hRv17:=hRv17.mono hlegg18
   replace hlegg14:=hlegg14.trans hlegg18
   obtain ⟨cs35,rfl,hcs35⟩:=hvv18
   have hcs35:cs35=_:=hcs35; subst hcs35
   refine O (r_not rfl) rfl<|OW_nil ?_
   rcases condS hM with ⟨hc12,hM⟩|⟨hc12,hM⟩
   ·refine WP_true rfl hc12<|WP_seq<|WP_region<|O (r_build (vs:=[]) (cs:=[Value.int .i64 0,Value.int .i64 0,Value.slice none 0 0,Value.slice none 0 0]) rfl (built_fill [(0,1),(1,1),(2,1),(3,1)] [Value.int .i64 0,Value.int .i64 0,Value.slice none 0 0,Value.slice none 0 0] (fun _=>by kernel_rfl) (fill_done))) rfl<|OW_storeAll ti71 hs (i:=1) rfl rfl (v:=Value.agg (List.toArray (α:=Value) [Value.int .i64 0,Value.int .i64 0,Value.slice none 0 0,Value.slice none 0 0])) rfl (vs:=[Value.int .i64 0,Value.int .i64 0,Value.slice none 0 0,Value.slice none 0 0]) rfl (one_cons rfl (one_cons rfl (one_cons rfl (one_cons rfl one_nil)))) rfl rfl ?_
    intro wv30 hs
    refine O (r_assign (v:=Value.int .i64 1) rfl) rfl<|OW_nil<|WP_ret ?_
    obtain rfl:=Option.some.inj hM
    refine fun hr=>?_
    have hM:=congrArg some hr
    obtain rfl:=Option.some.inj hM
    have hM:=hKhx1
    obtain rfl:=Option.some.inj hM
    refine FL_nil hds ?_
    exact ⟨_,res2 Tryz.results64 (rv_cells (vs:=[Value.int .i64 0,Value.int .i64 0,Value.slice none 0 0,Value.slice none 0 0]) ti71 rfl rfl (hs.cells (i:=1) rfl)) (rv_tmp (v:=Value.int .i64 1) rfl),gg18,⟨_,_,rfl,⟨[Value.int .i64 0,Value.int .i64 0,Value.slice none 0 0,Value.slice none 0 0],rfl,⟨[Value.int .i64 0],[Value.int .i64 0],[Value.slice none 0 0],[Value.slice none 0 0],rfl,rfl,rfl,⟨_,rfl,RdS.nil⟩,⟨_,rfl,RdS.nil⟩⟩⟩,⟨[Value.int .i64 1],rfl,rfl⟩⟩,hs.ext⟩
   ·refine WP_false rfl hc12<|WP_skip<|WP_region<|O (r_move (v:=Value.int .i64 xv10) rfl) rfl<|O (r_loadN (cs:=([Value.int .i64 e6.Kind])++((e6.Set.1.map (Value.int .u64))++([v17]))) ti53 rfl (by simp [e6.Set.2]) (hs.cells (i:=0) rfl)) rfl ?_
    obtain ⟨rv12,hrv12,hM⟩:=bindS hM
    refine C [Value.agg (List.toArray (α:=Value) (([Value.int .i64 e6.Kind])++((e6.Set.1.map (Value.int .u64))++([v17]))))] cf84 rfl (nfa_nodes_ok hrv12 hs.imm (tT_Regex_iff.2 ⟨[Value.int .i64 e6.Kind],e6.Set.1.map (Value.int .u64),[v17],rfl,rfl,rfl,⟨_,rfl,hRv17⟩⟩)) rfl ?_
    rintro v19 wv31 ⟨gg19,hvv19,hegg19⟩
    have hlegg19:=hegg19.le hs.imm
    replace hs:=hs.call hegg19
    replace hlegg14:=hlegg14.trans hlegg19
    obtain ⟨cs36,rfl,hcs36⟩:=hvv19
    have hcs36:cs36=_:=hcs36; subst hcs36
    obtain ⟨t11,ht11,hM⟩:=bindS hM
    refine O (r_addM rfl rfl ht11) rfl<|O (r_assign (v:=Value.int .i64 t11) rfl) rfl<|OW_nil<|WP_region ?_
    obtain ⟨t12,ht12,hM⟩:=bindS hM
    refine O (r_addM rfl rfl ht12) rfl<|O (r_move (v:=Value.int .i64 t12) rfl) rfl<|OW_nil ?_
    obtain rfl:=Option.some.inj hM
    exact ⟨gg19,rfl,rfl,rfl,rfl,rfl,rfl,hds,hlegg14,(hs.sub (.cons _ (.cons_cons _ .slnil)))⟩
  ·refine WP_false rfl hc11<|WP_exit ?_
   obtain rfl:=Option.some.inj hM
   refine fun hr=>?_
   have hM:=congrArg some hr
   obtain rfl:=Option.some.inj hM
   exact ⟨xv10,rfl,gg14,rfl,rfl,rfl,hds,hlegg14,hs⟩
 ·clear hs
  rintro E w ⟨xv7,rfl,gg10,hE0,hE2,hE4,hds,hlegg10,hs⟩
  have hM:=hKhx1
  dsimp only [onStep] at hM
  obtain ⟨E,rfl⟩:=open3 (E:=E) hE0 hE2 hE4
  replace hRv1:=hRv1.mono hlegg10
  refine WP_seq<|WP_seq<|WP_region<|O (r_move (v:=Value.int .i64 xv7) rfl) rfl<|O (r_gtr rfl rfl) rfl<|OW_nil ?_
  rcases condS hM with ⟨hc13,hM⟩|⟨hc13,hM⟩
  ·refine WP_true rfl hc13<|WP_seq<|WP_region<|O (r_build (vs:=[]) (cs:=[Value.int .i64 0,Value.int .i64 0,Value.slice none 0 0,Value.slice none 0 0]) rfl (built_fill [(0,1),(1,1),(2,1),(3,1)] [Value.int .i64 0,Value.int .i64 0,Value.slice none 0 0,Value.slice none 0 0] (fun _=>by kernel_rfl) (fill_done))) rfl<|OW_storeAll ti71 hs (i:=0) rfl rfl (v:=Value.agg (List.toArray (α:=Value) [Value.int .i64 0,Value.int .i64 0,Value.slice none 0 0,Value.slice none 0 0])) rfl (vs:=[Value.int .i64 0,Value.int .i64 0,Value.slice none 0 0,Value.slice none 0 0]) rfl (one_cons rfl (one_cons rfl (one_cons rfl (one_cons rfl one_nil)))) rfl rfl ?_
   intro wv32 hs
   refine O (r_assign (v:=Value.int .i64 11) rfl) rfl<|OW_nil<|WP_ret ?_
   obtain rfl:=Option.some.inj hM
   refine FL_nil hds ?_
   exact ⟨_,res2 Tryz.results64 (rv_cells (vs:=[Value.int .i64 0,Value.int .i64 0,Value.slice none 0 0,Value.slice none 0 0]) ti71 rfl rfl (hs.cells (i:=0) rfl)) (rv_tmp (v:=Value.int .i64 11) rfl),gg10,⟨_,_,rfl,⟨[Value.int .i64 0,Value.int .i64 0,Value.slice none 0 0,Value.slice none 0 0],rfl,⟨[Value.int .i64 0],[Value.int .i64 0],[Value.slice none 0 0],[Value.slice none 0 0],rfl,rfl,rfl,⟨_,rfl,RdS.nil⟩,⟨_,rfl,RdS.nil⟩⟩⟩,⟨[Value.int .i64 11],rfl,rfl⟩⟩,hs.ext⟩
  ·refine WP_false rfl hc13<|WP_skip<|WP_seq<|WP_region<|OW_makeMap hs rfl ?_
   intro b14 wv33 hs
   have hmb14:MRel (Value.int .i64) Value.bool #[] 0 []:=mrel_nil
   refine OW_litG (I:=(iMap (Value.int .i64) Value.bool)) (A:=[.obj b14 (.map #[] 0),Go.Lx.box b1 71 ([Value.int .i64 0,Value.int .i64 0,Value.slice none 0 0,Value.slice none 0 0])]) (B:=[]) (i:=0) (u:=Value.map (some b14)) (l:=[]) Tryz.underlying126 ti125 hs rfl ⟨b14,#[],0,rfl,rfl,hmb14⟩ rfl rfl ?_
   intro v20 wv34 xs1 G1 hGG1 hs
   replace hs:Go.Lx.Sep g0 w0 gg10 _ (.row v20 125 1 [[]].length xs1::Go.Lx.box b1 71 ([Value.int .i64 0,Value.int .i64 0,Value.slice none 0 0,Value.slice none 0 0])::(G1++[])):=hs
   have ho1:=one_of_shape (hs.rowShape (i:=0) rfl)
   refine O (r_build (vs:=[(1,v20)]) (cs:=[Value.slice none 0 0,v20]) rfl (built_fill [(0,1),(1,1)] [Value.slice none 0 0,Value.slice none 0 0] (fun _=>by kernel_rfl) (fill_step ([Value.slice none 0 0]) ([Value.slice none 0 0]) ([]) ([v20]) rfl rfl (cells_one ho1) rfl rfl rfl<|fill_done))) rfl<|OW_box (v:=Value.agg (List.toArray (α:=Value) [Value.slice none 0 0,v20])) rfl hs (zs:=[Value.slice none 0 0,v20]) rfl rfl ?_
   intro b15 wv35 hs
   refine O (r_assign (v:=Value.pointer (some ⟨b15,0,none⟩)) rfl) rfl<|OW_nil<|WP_seq<|WP_region<|OW_lit (τ:=(tInt .i64)) [Value.int .i64 (-1)] [(-1)] Tryz.underlying34 ti3 (by decide) hs rfl rfl rfl ⟨rfl,trivial⟩ rfl ?_
   intro v21 wv36 xs2 hrelxs2 hs
   refine O (r_assign (v:=v21) rfl) rfl<|OW_nil ?_
   obtain ⟨⟨xv158,xv159,xv160⟩,hx23,hKhx23⟩:=bindS hM
   refine WP_cut (fun E w=>∃(gg44:Hp) (v280:Value) (xs273:List Value) (v282:Value) (xs275:List Value) (v281:Value) (xs274:List Value) (G32:List Res),E 2=Value.pointer (some ⟨b1,0,none⟩)∧E 7=Value.pointer (some ⟨b15,0,none⟩)∧E 8=v282∧E.ds=[]∧Hle gg10 gg44∧RowRel (tVec 4 .u64) gg44 xs273 xv158∧RowRel (tInt .i64) gg44 xs275 xv160∧GRel (iMap (Value.int .i64) Value.bool) gg44 xs274 xv159 G32∧Go.Lx.Sep g0 w0 gg44 w (.row v280 50 (tVec 4 .u64).sz xv158.length xs273::.row v282 3 (tInt .i64).sz xv160.length xs275::Go.Lx.box b15 128 ([v280,v281])::.row v281 125 1 xv159.length xs274::Go.Lx.box b1 71 ([Value.int .i64 0,Value.int .i64 0,Value.slice none 0 0,Value.slice none 0 0])::(G32++[]))) ?_ ?_
   ·have hM:=hx23
    have hagg10:=Hle.refl gg10
    refine WP_seq<|WP_region<|O (r_move (v:=v1) rfl) rfl ?_
    obtain ⟨a88,ca88,hva88⟩:=hRv1.shape
    refine O (r_lenSl (v:=v1) Tryz.underlying51 rfl hva88) rfl<|O (r_move (v:=Value.int .i64 0) rfl) rfl<|OW_nil<|WP_block ?_
    have hs:=hs.nilRow 50 (tVec 4 .u64).sz
    refine WP_loop (fun (st9:(List (Vec 4))×(List (List (Int×Bool)))×(List Int)×Int) E w=>match st9 with|(xv209,xv210,xv211,xv212)=>∃(gg53:Hp) (v369:Value) (xs366:List Value) (v371:Value) (xs368:List Value) (v370:Value) (xs367:List Value) (G43:List Res),E 2=Value.pointer (some ⟨b1,0,none⟩)∧E 7=Value.pointer (some ⟨b15,0,none⟩)∧E 8=v371∧E 42=v1∧E 43=Value.int .i64 (p1.length:Int)∧E 44=Value.int .i64 xv212∧E.ds=[]∧Hle gg10 gg53∧RowRel (tVec 4 .u64) gg53 xs366 xv209∧RowRel (tInt .i64) gg53 xs368 xv211∧GRel (iMap (Value.int .i64) Value.bool) gg53 xs367 xv210 G43∧Go.Lx.Sep g0 w0 gg53 w (.row v369 50 (tVec 4 .u64).sz xv209.length xs366::.row v371 3 (tInt .i64).sz xv211.length xs368::Go.Lx.box b15 128 ([v369,v370])::.row v370 125 1 xv210.length xs367::Go.Lx.box b1 71 ([Value.int .i64 0,Value.int .i64 0,Value.slice none 0 0,Value.slice none 0 0])::(G43++[]))) hM ⟨gg10,(Value.slice none 0 0),[],v21,xs2,v20,xs1,G1,rfl,rfl,rfl,rfl,rfl,rfl,hds,(Hle.refl _),RowRel.nil,hrelxs2,hGG1,hs⟩ ?_
    clear hs hM
    rintro ⟨xv209,xv210,xv211,xv212⟩ o45 E w hM ⟨gg53,v369,xs366,v371,xs368,v370,xs367,G43,hE2,hE7,hE8,hE42,hE43,hE44,hds,hlegg53,hrelxs366,hrelxs368,hGG43,hs⟩
    obtain ⟨E,rfl⟩:=open6 (E:=E) hE2 hE7 hE8 hE42 hE43 hE44
    replace hRv1:=hRv1.mono hlegg53
    have hagg53:=Hle.refl gg53
    refine WP_seq<|WP_region<|O (r_lss rfl rfl) rfl<|OW_nil<|WP_seq ?_
    rcases condS hM with ⟨hc149,hM⟩|⟨hc149,hM⟩
    ·refine WP_true rfl hc149<|WP_skip ?_
     obtain ⟨⟨xv282,xv283,y149⟩,hx41,hKhx41⟩:=bindS hM
     refine WP_cut (fun E w=>∃(gg65:Hp) (v498:Value) (xs501:List Value) (v499:Value) (xs502:List Value) (G58:List Res) (v500:Value) (xs503:List Value),E 2=Value.pointer (some ⟨b1,0,none⟩)∧E 7=Value.pointer (some ⟨b15,0,none⟩)∧E 8=v500∧E 42=v1∧E 43=Value.int .i64 (p1.length:Int)∧E 44=Value.int .i64 xv212∧E.ds=[]∧Hle gg53 gg65∧RowRel (tVec 4 .u64) gg65 xs501 xv282∧GRel (iMap (Value.int .i64) Value.bool) gg65 xs502 xv283 G58∧RowRel (tInt .i64) gg65 xs503 y149∧Go.Lx.Sep g0 w0 gg65 w (Go.Lx.box b15 128 ([v498,v499])::.row v498 50 (tVec 4 .u64).sz xv282.length xs501::.row v499 125 1 xv283.length xs502::.row v500 3 (tInt .i64).sz y149.length xs503::Go.Lx.box b1 71 ([Value.int .i64 0,Value.int .i64 0,Value.slice none 0 0,Value.slice none 0 0])::(G58++[]))) ?_ ?_
     ·have hM:=hx41
      refine WP_block<|WP_seq<|WP_region<|O (r_move (v:=Value.int .i64 xv212) rfl) rfl ?_
      obtain ⟨e106,he106,hM⟩:=bindS hM
      obtain ⟨b214,ob214,cb214,hvb214,cs213,hcs213,hcb214⟩:=hRv1.at he106
      obtain ⟨cs214,cs215,cs216,rfl,hcs214,hcs215,hcs216⟩:=tT_Regex_iff.1 hcs213
      have hcs214:cs214=_:=hcs214; subst hcs214
      have hcs215:cs215=_:=hcs215; subst hcs215
      obtain ⟨v501,rfl,hRv501⟩:=hcs216
      refine O (r_idxSl Tryz.underlying51 ti53 (v:=v1) rfl hvb214 rfl (idxL_some he106).1 (idxL_some he106).2.1) rfl<|O (r_loadEl (cs:=([Value.int .i64 e106.Kind])++((e106.Set.1.map (Value.int .u64))++([v501]))) ti53 rfl (by simp [e106.Set.2]) (.inl rfl) (hcb214 _ hs.imm) (v:=Value.agg (List.toArray (α:=Value) (([Value.int .i64 e106.Kind])++((e106.Set.1.map (Value.int .u64))++([v501]))))) rfl) rfl<|OW_alloc ti53 hs (zs:=([Value.int .i64 0])++(((Vec.zero 4).1.map (Value.int .u64))++([Value.slice none 0 0]))) rfl rfl ?_
      intro b215 wv323 hs
      refine O (r_assign (v:=Value.int .i64 xv212) rfl) rfl<|OW_storeAll ti53 hs (i:=0) rfl rfl (v:=Value.agg (List.toArray (α:=Value) (([Value.int .i64 e106.Kind])++((e106.Set.1.map (Value.int .u64))++([v501]))))) rfl (vs:=([Value.int .i64 e106.Kind])++((e106.Set.1.map (Value.int .u64))++([v501]))) rfl (one_append (one_cons rfl one_nil) (one_append vec_one (one_cons (by obtain ⟨_,_,h9⟩:=hRv501.shape; rw [h9]; rfl) one_nil))) (by simp [e106.Set.2]) (by simp [e106.Set.2,(Vec.zero 4).2]) ?_
      intro wv324 hs
      refine OW_nil<|WP_seq<|WP_region<|O (r_move (v:=Value.pointer (some ⟨b15,0,none⟩)) rfl) rfl<|O (r_loadN (cs:=([Value.int .i64 e106.Kind])++((e106.Set.1.map (Value.int .u64))++([v501]))) ti53 rfl (by simp [e106.Set.2]) (hs.cells (i:=0) rfl)) rfl ?_
      have hs:Go.Lx.Sep g0 w0 gg53 _ (Go.Lx.box b15 128 ([v369,v370])::.row v369 50 (tVec 4 .u64).sz xv209.length xs366::.row v370 125 1 xv210.length xs367::Go.Lx.box b215 53 (([Value.int .i64 e106.Kind])++((e106.Set.1.map (Value.int .u64))++([v501])))::.row v371 3 (tInt .i64).sz xv211.length xs368::Go.Lx.box b1 71 ([Value.int .i64 0,Value.int .i64 0,Value.slice none 0 0,Value.slice none 0 0])::(G43++[])):=(Sep.selT (A:=[Go.Lx.box b215 53 (([Value.int .i64 e106.Kind])++((e106.Set.1.map (Value.int .u64))++([v501]))),.row v369 50 (tVec 4 .u64).sz xv209.length xs366,.row v371 3 (tInt .i64).sz xv211.length xs368,Go.Lx.box b15 128 ([v369,v370]),.row v370 125 1 xv210.length xs367,Go.Lx.box b1 71 ([Value.int .i64 0,Value.int .i64 0,Value.slice none 0 0,Value.slice none 0 0])]) (A':=[Go.Lx.box b15 128 ([v369,v370]),.row v369 50 (tVec 4 .u64).sz xv209.length xs366,.row v370 125 1 xv210.length xs367,Go.Lx.box b215 53 (([Value.int .i64 e106.Kind])++((e106.Set.1.map (Value.int .u64))++([v501]))),.row v371 3 (tInt .i64).sz xv211.length xs368,Go.Lx.box b1 71 ([Value.int .i64 0,Value.int .i64 0,Value.slice none 0 0,Value.slice none 0 0])]) (L:=(G43++[])) hs [3,1,4,0,2,5] (by decide) rfl)
      have hs:=hs.perm (List.Perm.cons _ (List.Perm.cons _ (List.Perm.cons _ (List.perm_append_comm_assoc [Go.Lx.box b215 53 (([Value.int .i64 e106.Kind])++((e106.Set.1.map (Value.int .u64))++([v501]))),.row v371 3 (tInt .i64).sz xv211.length xs368,Go.Lx.box b1 71 ([Value.int .i64 0,Value.int .i64 0,Value.slice none 0 0,Value.slice none 0 0])] G43 []))))
      obtain ⟨rv35,hrv35,hM⟩:=bindS hM
      refine C [Value.pointer (some ⟨b15,0,none⟩),Value.agg (List.toArray (α:=Value) (([Value.int .i64 e106.Kind])++((e106.Set.1.map (Value.int .u64))++([v501]))))] cf85 rfl (nfa_builder_expr_ok hrv35 hs (tT_Regex_iff.2 ⟨[Value.int .i64 e106.Kind],e106.Set.1.map (Value.int .u64),[v501],rfl,rfl,rfl,⟨_,rfl,hRv501⟩⟩) hrelxs366 hGG43) rfl ?_
      rintro v502 wv325 ⟨gg66,v503,xs504,v504,xs505,G59,hvv502,hlegg66,hrelxs504,hGG59,hs⟩
      replace hrelxs368:=hrelxs368.mono hlegg66
      replace hagg53:=hagg53.trans hlegg66
      have hs:=hs.perm (List.Perm.cons _ (List.Perm.cons _ (List.Perm.cons _ (List.perm_append_comm_assoc G59 [Go.Lx.box b215 53 (([Value.int .i64 e106.Kind])++((e106.Set.1.map (Value.int .u64))++([v501]))),.row v371 3 (tInt .i64).sz xv211.length xs368,Go.Lx.box b1 71 ([Value.int .i64 0,Value.int .i64 0,Value.slice none 0 0,Value.slice none 0 0])] []))))
      obtain ⟨cs217,rfl,hcs217⟩:=hvv502
      obtain ⟨cs218,cs219,cs220,rfl,hcs218,hcs219,hcs220⟩:=hcs217
      have hcs218:cs218=_:=hcs218; subst hcs218
      obtain ⟨v505,rfl,hRv505⟩:=hcs219
      obtain ⟨v506,rfl,hRv506⟩:=hcs220
      refine OW_alloc ti130 hs (zs:=[Value.bool false,Value.slice none 0 0,Value.slice none 0 0]) rfl rfl ?_
      intro b216 wv326 hs
      refine OW_storeAll ti130 hs (i:=0) rfl rfl (v:=Value.agg (List.toArray (α:=Value) [Value.bool rv35.1.nullable,v505,v506])) rfl (vs:=[Value.bool rv35.1.nullable,v505,v506]) rfl (one_cons rfl (one_cons (by obtain ⟨_,_,h9⟩:=hRv505.shape; rw [h9]; rfl) (one_cons (by obtain ⟨_,_,h9⟩:=hRv506.shape; rw [h9]; rfl) one_nil))) rfl rfl ?_
      intro wv327 hs
      refine OW_nil<|WP_seq<|WP_region<|O (r_move (v:=Value.pointer (some ⟨b15,0,none⟩)) rfl) rfl<|OW_lit (τ:=(tInt .i64)) [Value.int .i64 0] [0] Tryz.underlying34 ti3 (by decide) hs rfl rfl rfl ⟨rfl,trivial⟩ rfl ?_
      intro v507 wv328 xs506 hrelxs506 hs
      refine O (r_fieldAddr Tryz.underlying130 ti34 rfl rfl (by decide) rfl rfl) rfl<|O (r_load (v:=v505) ti34 rfl (hs.cell (i:=1) (o:=1) rfl rfl)) rfl ?_
      obtain ⟨gg67,hlegg67,hRgg67,hs⟩:=hs.relRow (i:=0) rfl hrelxs506
      replace hrelxs368:=hrelxs368.mono hlegg67
      replace hrelxs504:=hrelxs504.mono hlegg67
      replace hGG59:=hGG59.mono hlegg67
      replace hRv505:=hRv505.mono hlegg67
      replace hRv506:=hRv506.mono hlegg67
      replace hagg53:=hagg53.trans hlegg67
      have hs:Go.Lx.Sep g0 w0 gg67 _ (Go.Lx.box b15 128 ([v503,v504])::.row v503 50 (tVec 4 .u64).sz rv35.2.sets.length xs504::.row v504 125 1 rv35.2.behind.length xs505::Go.Lx.box b216 130 ([Value.bool rv35.1.nullable,v505,v506])::Go.Lx.box b215 53 (([Value.int .i64 e106.Kind])++((e106.Set.1.map (Value.int .u64))++([v501])))::.row v371 3 (tInt .i64).sz xv211.length xs368::Go.Lx.box b1 71 ([Value.int .i64 0,Value.int .i64 0,Value.slice none 0 0,Value.slice none 0 0])::(G59++[])):=(Sep.selT (A:=[Go.Lx.box b216 130 ([Value.bool rv35.1.nullable,v505,v506]),Go.Lx.box b15 128 ([v503,v504]),.row v503 50 (tVec 4 .u64).sz rv35.2.sets.length xs504,.row v504 125 1 rv35.2.behind.length xs505,Go.Lx.box b215 53 (([Value.int .i64 e106.Kind])++((e106.Set.1.map (Value.int .u64))++([v501]))),.row v371 3 (tInt .i64).sz xv211.length xs368,Go.Lx.box b1 71 ([Value.int .i64 0,Value.int .i64 0,Value.slice none 0 0,Value.slice none 0 0])]) (A':=[Go.Lx.box b15 128 ([v503,v504]),.row v503 50 (tVec 4 .u64).sz rv35.2.sets.length xs504,.row v504 125 1 rv35.2.behind.length xs505,Go.Lx.box b216 130 ([Value.bool rv35.1.nullable,v505,v506]),Go.Lx.box b215 53 (([Value.int .i64 e106.Kind])++((e106.Set.1.map (Value.int .u64))++([v501]))),.row v371 3 (tInt .i64).sz xv211.length xs368,Go.Lx.box b1 71 ([Value.int .i64 0,Value.int .i64 0,Value.slice none 0 0,Value.slice none 0 0])]) (L:=(G59++[])) hs [1,2,3,0,4,5,6] (by decide) rfl)
      have hs:=hs.perm (List.Perm.cons _ (List.Perm.cons _ (List.Perm.cons _ (List.perm_append_comm_assoc [Go.Lx.box b216 130 ([Value.bool rv35.1.nullable,v505,v506]),Go.Lx.box b215 53 (([Value.int .i64 e106.Kind])++((e106.Set.1.map (Value.int .u64))++([v501]))),.row v371 3 (tInt .i64).sz xv211.length xs368,Go.Lx.box b1 71 ([Value.int .i64 0,Value.int .i64 0,Value.slice none 0 0,Value.slice none 0 0])] G59 []))))
      obtain ⟨rv36,hrv36,hM⟩:=bindS hM
      refine C [Value.pointer (some ⟨b15,0,none⟩),v507,v505] cf86 rfl (nfa_builder_link_ok hrv36 hs hRgg67 hRv505 hrelxs504 hGG59) rfl ?_
      rintro v508 wv329 ⟨gg68,v509,xs507,v510,xs508,G60,hvv508,hlegg68,hrelxs507,hGG60,hs⟩
      replace hrelxs368:=hrelxs368.mono hlegg68
      replace hRv506:=hRv506.mono hlegg68
      replace hagg53:=hagg53.trans hlegg68
      have hs:=hs.perm (List.Perm.cons _ (List.Perm.cons _ (List.Perm.cons _ (List.perm_append_comm_assoc G60 [Go.Lx.box b216 130 ([Value.bool rv35.1.nullable,v505,v506]),Go.Lx.box b215 53 (([Value.int .i64 e106.Kind])++((e106.Set.1.map (Value.int .u64))++([v501]))),.row v371 3 (tInt .i64).sz xv211.length xs368,Go.Lx.box b1 71 ([Value.int .i64 0,Value.int .i64 0,Value.slice none 0 0,Value.slice none 0 0])] []))))
      refine OW_nil ?_
      obtain ⟨xv287,hx42,hKhx42⟩:=bindS hM
      refine WP_cut (fun E w=>∃(v520:Value) (xs518:List Value) (v521:Value) (xs519:List Value) (G61:List Res) (v522:Value) (xs520:List Value),E 2=Value.pointer (some ⟨b1,0,none⟩)∧E 7=Value.pointer (some ⟨b15,0,none⟩)∧E 8=v522∧E 9=Value.int .i64 xv212∧E 11=Value.pointer (some ⟨b216,0,none⟩)∧E 42=v1∧E 43=Value.int .i64 (p1.length:Int)∧E 44=Value.int .i64 xv212∧E.ds=[]∧RowRel (tVec 4 .u64) gg68 xs518 rv36.sets∧GRel (iMap (Value.int .i64) Value.bool) gg68 xs519 rv36.behind G61∧RowRel (tInt .i64) gg68 xs520 xv287∧Go.Lx.Sep g0 w0 gg68 w (Go.Lx.box b15 128 ([v520,v521])::.row v520 50 (tVec 4 .u64).sz rv36.sets.length xs518::.row v521 125 1 rv36.behind.length xs519::Go.Lx.box b216 130 ([Value.bool rv35.1.nullable,v505,v506])::.row v522 3 (tInt .i64).sz xv287.length xs520::Go.Lx.box b1 71 ([Value.int .i64 0,Value.int .i64 0,Value.slice none 0 0,Value.slice none 0 0])::(G61++[]))) ?_ ?_
      ·have hM:=hx42
       have hagg68:=Hle.refl gg68
       refine WP_block<|WP_loop (fun (xv289:(List Int)) E w=>∃(v526:Value) (xs524:List Value),E 2=Value.pointer (some ⟨b1,0,none⟩)∧E 7=Value.pointer (some ⟨b15,0,none⟩)∧E 8=v526∧E 9=Value.int .i64 xv212∧E 11=Value.pointer (some ⟨b216,0,none⟩)∧E 42=v1∧E 43=Value.int .i64 (p1.length:Int)∧E 44=Value.int .i64 xv212∧E.ds=[]∧RowRel (tInt .i64) gg68 xs524 xv289∧Go.Lx.Sep g0 w0 gg68 w (Go.Lx.box b15 128 ([v509,v510])::.row v509 50 (tVec 4 .u64).sz rv36.sets.length xs507::.row v510 125 1 rv36.behind.length xs508::Go.Lx.box b216 130 ([Value.bool rv35.1.nullable,v505,v506])::.row v526 3 (tInt .i64).sz xv289.length xs524::Go.Lx.box b1 71 ([Value.int .i64 0,Value.int .i64 0,Value.slice none 0 0,Value.slice none 0 0])::(G60++[]))) hM ⟨v371,xs368,rfl,rfl,rfl,rfl,rfl,rfl,rfl,rfl,hds,hrelxs368,(Sep.selT (A:=[Go.Lx.box b15 128 ([v509,v510]),.row v509 50 (tVec 4 .u64).sz rv36.sets.length xs507,.row v510 125 1 rv36.behind.length xs508,Go.Lx.box b216 130 ([Value.bool rv35.1.nullable,v505,v506]),Go.Lx.box b215 53 (([Value.int .i64 e106.Kind])++((e106.Set.1.map (Value.int .u64))++([v501]))),.row v371 3 (tInt .i64).sz xv211.length xs368,Go.Lx.box b1 71 ([Value.int .i64 0,Value.int .i64 0,Value.slice none 0 0,Value.slice none 0 0])]) (A':=[Go.Lx.box b15 128 ([v509,v510]),.row v509 50 (tVec 4 .u64).sz rv36.sets.length xs507,.row v510 125 1 rv36.behind.length xs508,Go.Lx.box b216 130 ([Value.bool rv35.1.nullable,v505,v506]),.row v371 3 (tInt .i64).sz xv211.length xs368,Go.Lx.box b1 71 ([Value.int .i64 0,Value.int .i64 0,Value.slice none 0 0,Value.slice none 0 0])]) (L:=(G60++[])) hs [0,1,2,3,5,6] (by decide) rfl)⟩ ?_
       clear hs hM
       rintro xv289 o51 E w hM ⟨v526,xs524,hE2,hE7,hE8,hE9,hE11,hE42,hE43,hE44,hds,hrelxs524,hs⟩
       obtain ⟨E,rfl⟩:=open8 (E:=E) hE2 hE7 hE8 hE9 hE11 hE42 hE43 hE44
       refine WP_seq<|WP_seq<|WP_region<|O (r_move (v:=v526) rfl) rfl ?_
       obtain ⟨a169,ca169,hva169⟩:=hs.rowShape (i:=4) rfl
       refine O (r_lenSl (v:=v526) Tryz.underlying34 rfl hva169) rfl<|O (r_move (v:=Value.pointer (some ⟨b15,0,none⟩)) rfl) rfl<|O (r_nilCheck rfl) rfl<|O (r_fieldAddr Tryz.underlying128 ti85 rfl rfl (by decide) rfl rfl) rfl<|O (r_load (v:=v509) ti85 rfl (hs.cell (i:=0) (o:=0) rfl rfl)) rfl ?_
       obtain ⟨a170,ca170,hva170⟩:=hs.rowShape (i:=1) rfl
       refine O (r_lenSl (v:=v509) Tryz.underlying85 rfl hva170) rfl<|O (r_leq rfl rfl) rfl<|OW_nil ?_
       rcases condS hM with ⟨hc168,hM⟩|⟨hc168,hM⟩
       ·refine WP_true rfl hc168<|WP_skip<|WP_block<|WP_region<|O (r_move (v:=v526) rfl) rfl<|OW_lit (τ:=(tInt .i64)) [Value.int .i64 (-1)] [(-1)] Tryz.underlying34 ti3 (by decide) hs rfl rfl rfl ⟨rfl,trivial⟩ rfl ?_
        intro v530 wv340 xs528 hrelxs528 hs
        obtain ⟨y155,hy155,hM⟩:=bindS hM
        refine OW_append Tryz.underlying34 ti3 rfl (by decide) (by decide) hs (i:=5) rfl hrelxs524 (v:=v526) rfl (u:=v530) rfl (hs.rowSrc (i:=0) rfl) hrelxs528 hy155 rfl ?_
        intro v531 wv341 xs529 hrelxs529 hs
        refine O (r_assign (v:=v531) rfl) rfl<|OW_nil ?_
        obtain rfl:=Option.some.inj hM
        exact ⟨v531,xs529,rfl,rfl,rfl,rfl,rfl,rfl,rfl,rfl,hds,hrelxs529,(Sep.selT (A:=[.row v530 3 (tInt .i64).sz [(-1)].length xs528,Go.Lx.box b15 128 ([v509,v510]),.row v509 50 (tVec 4 .u64).sz rv36.sets.length xs507,.row v510 125 1 rv36.behind.length xs508,Go.Lx.box b216 130 ([Value.bool rv35.1.nullable,v505,v506]),.row v531 3 (tInt .i64).sz y155.length xs529,Go.Lx.box b1 71 ([Value.int .i64 0,Value.int .i64 0,Value.slice none 0 0,Value.slice none 0 0])]) (A':=[Go.Lx.box b15 128 ([v509,v510]),.row v509 50 (tVec 4 .u64).sz rv36.sets.length xs507,.row v510 125 1 rv36.behind.length xs508,Go.Lx.box b216 130 ([Value.bool rv35.1.nullable,v505,v506]),.row v531 3 (tInt .i64).sz y155.length xs529,Go.Lx.box b1 71 ([Value.int .i64 0,Value.int .i64 0,Value.slice none 0 0,Value.slice none 0 0])]) (L:=(G60++[])) hs [1,2,3,4,5,6] (by decide) rfl)⟩
       ·refine WP_false rfl hc168<|WP_exit ?_
        obtain rfl:=Option.some.inj hM
        refine fun hr=>?_
        have hM:=congrArg some hr
        obtain rfl:=Option.some.inj hM
        exact ⟨v509,xs507,v510,xs508,G60,v526,xs524,rfl,rfl,rfl,rfl,rfl,rfl,rfl,rfl,hds,hrelxs507,hGG60,hrelxs524,hs⟩
      ·clear hs
       rintro E w ⟨v520,xs518,v521,xs519,G61,v522,xs520,hE2,hE7,hE8,hE9,hE11,hE42,hE43,hE44,hds,hrelxs518,hGG61,hrelxs520,hs⟩
       have hM:=hKhx42
       obtain ⟨E,rfl⟩:=open8 (E:=E) hE2 hE7 hE8 hE9 hE11 hE42 hE43 hE44
       obtain ⟨xv297,hx43,hKhx43⟩:=bindS hM
       refine WP_cut (fun E w=>∃(v535:Value) (xs536:List Value) (v536:Value) (xs537:List Value) (G62:List Res) (v537:Value) (xs538:List Value),E 2=Value.pointer (some ⟨b1,0,none⟩)∧E 7=Value.pointer (some ⟨b15,0,none⟩)∧E 8=v537∧E 9=Value.int .i64 xv212∧E 11=Value.pointer (some ⟨b216,0,none⟩)∧E 42=v1∧E 43=Value.int .i64 (p1.length:Int)∧E 44=Value.int .i64 xv212∧E.ds=[]∧RowRel (tVec 4 .u64) gg68 xs536 rv36.sets∧GRel (iMap (Value.int .i64) Value.bool) gg68 xs537 rv36.behind G62∧RowRel (tInt .i64) gg68 xs538 xv297∧Go.Lx.Sep g0 w0 gg68 w (Go.Lx.box b15 128 ([v535,v536])::.row v535 50 (tVec 4 .u64).sz rv36.sets.length xs536::.row v536 125 1 rv36.behind.length xs537::Go.Lx.box b216 130 ([Value.bool rv35.1.nullable,v505,v506])::.row v537 3 (tInt .i64).sz xv297.length xs538::Go.Lx.box b1 71 ([Value.int .i64 0,Value.int .i64 0,Value.slice none 0 0,Value.slice none 0 0])::(G62++[]))) ?_ ?_
       ·have hM:=hx43
        have hagg68:=Hle.refl gg68
        refine WP_seq<|WP_region<|O (r_fieldAddr Tryz.underlying130 ti34 rfl rfl (by decide) rfl rfl) rfl<|O (r_load (v:=v506) ti34 rfl (hs.cell (i:=3) (o:=2) rfl rfl)) rfl ?_
        obtain ⟨a172,ca172,hva172⟩:=hRv506.shape
        refine O (r_lenSl (v:=v506) Tryz.underlying34 rfl hva172) rfl<|O (r_move (v:=Value.int .i64 0) rfl) rfl<|OW_nil<|WP_block<|WP_loop (fun (st9:(List Int)×Int) E w=>match st9 with|(xv300,xv301)=>∃(v539:Value) (xs541:List Value),E 2=Value.pointer (some ⟨b1,0,none⟩)∧E 7=Value.pointer (some ⟨b15,0,none⟩)∧E 8=v539∧E 9=Value.int .i64 xv212∧E 11=Value.pointer (some ⟨b216,0,none⟩)∧E 42=v1∧E 43=Value.int .i64 (p1.length:Int)∧E 44=Value.int .i64 xv212∧E 69=v506∧E 70=Value.int .i64 (rv35.1.last.length:Int)∧E 71=Value.int .i64 xv301∧E.ds=[]∧RowRel (tInt .i64) gg68 xs541 xv300∧Go.Lx.Sep g0 w0 gg68 w (Go.Lx.box b15 128 ([v520,v521])::.row v520 50 (tVec 4 .u64).sz rv36.sets.length xs518::.row v521 125 1 rv36.behind.length xs519::Go.Lx.box b216 130 ([Value.bool rv35.1.nullable,v505,v506])::.row v539 3 (tInt .i64).sz xv300.length xs541::Go.Lx.box b1 71 ([Value.int .i64 0,Value.int .i64 0,Value.slice none 0 0,Value.slice none 0 0])::(G61++[]))) hM ⟨v522,xs520,rfl,rfl,rfl,rfl,rfl,rfl,rfl,rfl,rfl,rfl,rfl,hds,hrelxs520,hs⟩ ?_
        clear hs hM
        rintro ⟨xv300,xv301⟩ o53 E w hM ⟨v539,xs541,hE2,hE7,hE8,hE9,hE11,hE42,hE43,hE44,hE69,hE70,hE71,hds,hrelxs541,hs⟩
        obtain ⟨E,rfl⟩:=open8 (E:=E) hE2 hE7 hE8 hE9 hE11 hE42 hE43 hE44
        obtain ⟨E,rfl⟩:=open3 (E:=E) hE69 hE70 hE71
        refine WP_seq<|WP_region<|O (r_lss rfl rfl) rfl<|OW_nil<|WP_seq ?_
        rcases condS hM with ⟨hc174,hM⟩|⟨hc174,hM⟩
        ·refine WP_true rfl hc174<|WP_skip<|WP_seq<|WP_block<|WP_seq<|WP_region ?_
         obtain ⟨e112,he112,hM⟩:=bindS hM
         obtain ⟨b227,ob227,cb227,hvb227,cs226,hcs226,hcb227⟩:=hRv506.at he112
         have hcs226:cs226=_:=hcs226; subst hcs226
         refine O (r_idxSl Tryz.underlying34 ti3 (v:=v506) rfl hvb227 rfl (idxL_some he112).1 (idxL_some he112).2.1) rfl<|O (r_loadEl (cs:=[Value.int .i64 e112]) ti3 rfl rfl (.inr rfl) (hcb227 _ hs.imm) (v:=Value.int .i64 e112) rfl) rfl<|O (r_assign (v:=Value.int .i64 e112) rfl) rfl<|OW_nil<|WP_region<|O (r_move (v:=v539) rfl) rfl<|O (r_move (v:=Value.int .i64 e112) rfl) rfl<|O (r_move (v:=Value.int .i64 xv212) rfl) rfl ?_
         obtain ⟨y161,hy161,hM⟩:=bindS hM
         obtain ⟨b228,cb228,hvb228,wv347,xs544,hstb228,hrelb228,hsb228⟩:=hs.rowPut (i:=4) rfl hrelxs541 hy161 (cs:=[Value.int .i64 xv212]) rfl
         refine O (r_idxSl Tryz.underlying34 ti3 (v:=v539) rfl hvb228 rfl (setL_some hy161).1 (setL_some hy161).2.1) rfl<|O0 (r_store ti3 rfl (v:=Value.int .i64 xv212) rfl rfl hstb228) ?_
         have hs:=hsb228
         refine OW_nil<|WP_region ?_
         obtain ⟨t89,ht89,hM⟩:=bindS hM
         refine O (r_addM rfl rfl ht89) rfl<|O (r_move (v:=Value.int .i64 t89) rfl) rfl<|OW_nil ?_
         obtain rfl:=Option.some.inj hM
         exact ⟨v539,xs544,rfl,rfl,rfl,rfl,rfl,rfl,rfl,rfl,rfl,rfl,rfl,hds,hrelb228,hs⟩
        ·refine WP_false rfl hc174<|WP_exit ?_
         obtain rfl:=Option.some.inj hM
         refine fun hr=>?_
         have hM:=congrArg some hr
         obtain rfl:=Option.some.inj hM
         exact ⟨v520,xs518,v521,xs519,G61,v539,xs541,rfl,rfl,rfl,rfl,rfl,rfl,rfl,rfl,hds,hrelxs518,hGG61,hrelxs541,hs⟩
       ·clear hs
        rintro E w ⟨v535,xs536,v536,xs537,G62,v537,xs538,hE2,hE7,hE8,hE9,hE11,hE42,hE43,hE44,hds,hrelxs536,hGG62,hrelxs538,hs⟩
        have hM:=hKhx43
        obtain ⟨E,rfl⟩:=open8 (E:=E) hE2 hE7 hE8 hE9 hE11 hE42 hE43 hE44
        obtain ⟨xv304,hx44,hKhx44⟩:=bindS hM
        refine WP_cut (fun E w=>E 2=Value.pointer (some ⟨b1,0,none⟩)∧E 7=Value.pointer (some ⟨b15,0,none⟩)∧E 8=v537∧E 9=Value.int .i64 xv212∧E 42=v1∧E 43=Value.int .i64 (p1.length:Int)∧E 44=Value.int .i64 xv212∧E 87=Value.bool xv304∧E.ds=[]∧Go.Lx.Sep g0 w0 gg68 w (Go.Lx.box b15 128 ([v535,v536])::.row v535 50 (tVec 4 .u64).sz rv36.sets.length xs536::.row v536 125 1 rv36.behind.length xs537::.row v537 3 (tInt .i64).sz xv297.length xs538::Go.Lx.box b1 71 ([Value.int .i64 0,Value.int .i64 0,Value.slice none 0 0,Value.slice none 0 0])::(G62++[]))) ?_ ?_
        ·have hM:=hx44
         have hagg68:=Hle.refl gg68
         refine WP_region<|O (r_fieldAddr Tryz.underlying130 ti4 rfl rfl (by decide) rfl rfl) rfl<|O (r_load (v:=Value.bool rv35.1.nullable) ti4 rfl (hs.cell (i:=3) (o:=0) rfl rfl)) rfl<|O (r_move (v:=Value.bool rv35.1.nullable) rfl) rfl ?_
         rcases condS hM with ⟨hg24,hM⟩|⟨hg24,hM⟩
         ·refine OG rfl rfl rfl (by rw [hg24]; rfl) (r_move (v:=v537) rfl) rfl ?_
          obtain ⟨e114,he114,hM⟩:=bindS hM
          obtain ⟨b230,cb230,hvb230,cs228,hcs228,hcb230⟩:=hs.rowEl (i:=4) rfl hrelxs538 he114
          have hcs228:cs228=_:=hcs228; subst hcs228
          refine OG rfl rfl rfl (by rw [hg24]; rfl) (r_idxSl Tryz.underlying34 ti3 (v:=v537) rfl hvb230 rfl (idxL_some he114).1 (idxL_some he114).2.1) rfl<|OG rfl rfl rfl (by rw [hg24]; rfl) (r_loadEl (cs:=[Value.int .i64 e114]) ti3 rfl rfl (.inr rfl) (hcb230 _ (hs.at (i:=4) rfl)) (v:=Value.int .i64 e114) rfl) rfl<|OG rfl rfl rfl (by rw [hg24]; rfl) (r_lss rfl rfl) rfl<|O (r_pickT (v:=Value.bool (decide (e114<0))) rfl hg24 rfl) rfl<|OW_nil ?_
          obtain rfl:=Option.some.inj hM
          exact ⟨rfl,rfl,rfl,rfl,rfl,rfl,rfl,rfl,hds,(Sep.selT (A:=[Go.Lx.box b15 128 ([v535,v536]),.row v535 50 (tVec 4 .u64).sz rv36.sets.length xs536,.row v536 125 1 rv36.behind.length xs537,Go.Lx.box b216 130 ([Value.bool rv35.1.nullable,v505,v506]),.row v537 3 (tInt .i64).sz xv297.length xs538,Go.Lx.box b1 71 ([Value.int .i64 0,Value.int .i64 0,Value.slice none 0 0,Value.slice none 0 0])]) (A':=[Go.Lx.box b15 128 ([v535,v536]),.row v535 50 (tVec 4 .u64).sz rv36.sets.length xs536,.row v536 125 1 rv36.behind.length xs537,.row v537 3 (tInt .i64).sz xv297.length xs538,Go.Lx.box b1 71 ([Value.int .i64 0,Value.int .i64 0,Value.slice none 0 0,Value.slice none 0 0])]) (L:=(G62++[])) hs [0,1,2,4,5] (by decide) rfl)⟩
         ·refine OK rfl rfl rfl (by rw [hg24]; rfl) rfl<|OK rfl rfl rfl (by rw [hg24]; rfl) rfl<|OK rfl rfl rfl (by rw [hg24]; rfl) rfl<|OK rfl rfl rfl (by rw [hg24]; rfl) rfl<|O (r_pickF (v:=Value.bool false) rfl hg24 rfl) rfl<|OW_nil ?_
          obtain rfl:=Option.some.inj hM
          exact ⟨rfl,rfl,rfl,rfl,rfl,rfl,rfl,rfl,hds,(Sep.selT (A:=[Go.Lx.box b15 128 ([v535,v536]),.row v535 50 (tVec 4 .u64).sz rv36.sets.length xs536,.row v536 125 1 rv36.behind.length xs537,Go.Lx.box b216 130 ([Value.bool rv35.1.nullable,v505,v506]),.row v537 3 (tInt .i64).sz xv297.length xs538,Go.Lx.box b1 71 ([Value.int .i64 0,Value.int .i64 0,Value.slice none 0 0,Value.slice none 0 0])]) (A':=[Go.Lx.box b15 128 ([v535,v536]),.row v535 50 (tVec 4 .u64).sz rv36.sets.length xs536,.row v536 125 1 rv36.behind.length xs537,.row v537 3 (tInt .i64).sz xv297.length xs538,Go.Lx.box b1 71 ([Value.int .i64 0,Value.int .i64 0,Value.slice none 0 0,Value.slice none 0 0])]) (L:=(G62++[])) hs [0,1,2,4,5] (by decide) rfl)⟩
        ·clear hs
         rintro E w ⟨hE2,hE7,hE8,hE9,hE42,hE43,hE44,hE87,hds,hs⟩
         have hM:=hKhx44
         obtain ⟨E,rfl⟩:=open8 (E:=E) hE2 hE7 hE8 hE9 hE42 hE43 hE44 hE87
         rcases condS hM with ⟨hc175,hM⟩|⟨hc175,hM⟩
         ·refine WP_true rfl hc175<|WP_region<|O (r_move (v:=v537) rfl) rfl<|O (r_move (v:=Value.int .i64 xv212) rfl) rfl ?_
          obtain ⟨y162,hy162,hM⟩:=bindS hM
          obtain ⟨b231,cb231,hvb231,wv348,xs545,hstb231,hrelb231,hsb231⟩:=hs.rowPut (i:=3) rfl hrelxs538 hy162 (cs:=[Value.int .i64 xv212]) rfl
          refine O (r_idxSl Tryz.underlying34 ti3 (v:=v537) rfl hvb231 rfl (setL_some hy162).1 (setL_some hy162).2.1) rfl<|O0 (r_store ti3 rfl (v:=Value.int .i64 xv212) rfl rfl hstb231) ?_
          have hs:=hsb231
          refine OW_nil ?_
          simp only [Option.some.injEq,Prod.mk.injEq] at hM
          obtain ⟨rfl,rfl,rfl⟩:=hM
          exact ⟨gg68,v535,xs536,v536,xs537,G62,v537,xs545,rfl,rfl,rfl,rfl,rfl,rfl,hds,hagg53,hrelxs536,hGG62,hrelb231,hs⟩
         ·refine WP_false rfl hc175<|WP_skip ?_
          simp only [Option.some.injEq,Prod.mk.injEq] at hM
          obtain ⟨rfl,rfl,rfl⟩:=hM
          exact ⟨gg68,v535,xs536,v536,xs537,G62,v537,xs538,rfl,rfl,rfl,rfl,rfl,rfl,hds,hagg53,hrelxs536,hGG62,hrelxs538,hs⟩
     ·clear hs
      rintro E w ⟨gg65,v498,xs501,v499,xs502,G58,v500,xs503,hE2,hE7,hE8,hE42,hE43,hE44,hds,hlegg65,hrelxs501,hGG58,hrelxs503,hs⟩
      have hM:=hKhx41
      obtain ⟨E,rfl⟩:=open6 (E:=E) hE2 hE7 hE8 hE42 hE43 hE44
      replace hlegg53:=hlegg53.trans hlegg65
      refine WP_region ?_
      obtain ⟨t90,ht90,hM⟩:=bindS hM
      refine O (r_addM rfl rfl ht90) rfl<|O (r_move (v:=Value.int .i64 t90) rfl) rfl<|OW_nil ?_
      obtain rfl:=Option.some.inj hM
      exact ⟨gg65,v498,xs501,v500,xs503,v499,xs502,G58,rfl,rfl,rfl,rfl,rfl,rfl,hds,hlegg53,hrelxs501,hrelxs503,hGG58,(Sep.selT (A:=[Go.Lx.box b15 128 ([v498,v499]),.row v498 50 (tVec 4 .u64).sz xv282.length xs501,.row v499 125 1 xv283.length xs502,.row v500 3 (tInt .i64).sz y149.length xs503,Go.Lx.box b1 71 ([Value.int .i64 0,Value.int .i64 0,Value.slice none 0 0,Value.slice none 0 0])]) (A':=[.row v498 50 (tVec 4 .u64).sz xv282.length xs501,.row v500 3 (tInt .i64).sz y149.length xs503,Go.Lx.box b15 128 ([v498,v499]),.row v499 125 1 xv283.length xs502,Go.Lx.box b1 71 ([Value.int .i64 0,Value.int .i64 0,Value.slice none 0 0,Value.slice none 0 0])]) (L:=(G58++[])) hs [1,3,0,2,4] (by decide) rfl)⟩
    ·refine WP_false rfl hc149<|WP_exit ?_
     obtain rfl:=Option.some.inj hM
     refine fun hr=>?_
     have hM:=congrArg some hr
     simp only [Option.some.injEq,Prod.mk.injEq] at hM
     obtain ⟨rfl,rfl,rfl⟩:=hM
     exact ⟨gg53,v369,xs366,v371,xs368,v370,xs367,G43,rfl,rfl,rfl,hds,hlegg53,hrelxs366,hrelxs368,hGG43,hs⟩
   ·clear hs
    rintro E w ⟨gg44,v280,xs273,v282,xs275,v281,xs274,G32,hE2,hE7,hE8,hds,hlegg44,hrelxs273,hrelxs275,hGG32,hs⟩
    have hM:=hKhx23
    obtain ⟨E,rfl⟩:=open3 (E:=E) hE2 hE7 hE8
    refine WP_seq<|WP_region<|O (r_move (v:=v282) rfl) rfl ?_
    obtain ⟨a173,ca173,hva173⟩:=hs.rowShape (i:=1) rfl
    refine O (r_lenSl (v:=v282) Tryz.underlying34 rfl hva173) rfl<|O (r_move (v:=v282) rfl) rfl ?_
    have ho2:=one_of_shape (hs.rowShape (i:=1) rfl)
    refine O (r_build (vs:=[(0,Value.int .i64 (xv160.length:Int)),(3,v282)]) (cs:=[Value.int .i64 (xv160.length:Int),Value.int .i64 0,Value.slice none 0 0,v282]) rfl (built_fill [(0,1),(1,1),(2,1),(3,1)] [Value.int .i64 0,Value.int .i64 0,Value.slice none 0 0,Value.slice none 0 0] (fun _=>by kernel_rfl) (fill_step ([]) ([Value.int .i64 0]) ([Value.int .i64 0,Value.slice none 0 0,Value.slice none 0 0]) ([Value.int .i64 (xv160.length:Int)]) rfl rfl rfl rfl rfl rfl<|fill_step ([Value.int .i64 (xv160.length:Int),Value.int .i64 0,Value.slice none 0 0]) ([Value.slice none 0 0]) ([]) ([v282]) rfl rfl (cells_one ho2) rfl rfl rfl<|fill_done))) rfl<|OW_alloc ti71 hs (zs:=[Value.int .i64 0,Value.int .i64 0,Value.slice none 0 0,Value.slice none 0 0]) rfl rfl ?_
    intro b232 wv349 hs
    refine OW_storeAll ti71 hs (i:=0) rfl rfl (v:=Value.agg (List.toArray (α:=Value) [Value.int .i64 (xv160.length:Int),Value.int .i64 0,Value.slice none 0 0,v282])) rfl (vs:=[Value.int .i64 (xv160.length:Int),Value.int .i64 0,Value.slice none 0 0,v282]) rfl (one_cons rfl (one_cons rfl (one_cons rfl (one_cons (by obtain ⟨_,_,h9⟩:=hs.rowShape (i:=2) rfl; rw [h9]; rfl) one_nil)))) rfl rfl ?_
    intro wv350 hs
    refine OW_nil ?_
    obtain ⟨xv350,hx48,hKhx48⟩:=bindS hM
    refine WP_cut (fun E w=>∃(v625:Value) (xs632:List Value) (v626:Value) (xs633:List Value),E 2=Value.pointer (some ⟨b1,0,none⟩)∧E 14=Value.pointer (some ⟨b232,0,none⟩)∧E.ds=[]∧RowRel tT_NFAArc gg44 xs632 xv350∧RowRel (tInt .i64) gg44 xs633 xv160∧Go.Lx.Sep g0 w0 gg44 w [.row v625 95 tT_NFAArc.sz xv350.length xs632,Go.Lx.box b232 71 ([Value.int .i64 (xv160.length:Int),Value.int .i64 0,v625,v626]),.row v626 3 (tInt .i64).sz xv160.length xs633,Go.Lx.box b1 71 ([Value.int .i64 0,Value.int .i64 0,Value.slice none 0 0,Value.slice none 0 0])]) ?_ ?_
    ·have hM:=hx48
     have hagg44:=Hle.refl gg44
     refine WP_seq<|WP_region<|O (r_move (v:=Value.pointer (some ⟨b15,0,none⟩)) rfl) rfl<|O (r_nilCheck rfl) rfl<|O (r_fieldAddr Tryz.underlying128 ti126 rfl rfl (by decide) rfl rfl) rfl<|O (r_load (v:=v281) ti126 rfl (hs.cell (i:=3) (o:=1) rfl rfl)) rfl ?_
     obtain ⟨a181,ca181,hva181⟩:=hs.rowShape (i:=4) rfl
     refine O (r_lenSl (v:=v281) Tryz.underlying126 rfl hva181) rfl<|O (r_move (v:=Value.int .i64 0) rfl) rfl<|OW_nil<|WP_block ?_
     have hs:=hs.nilRow 95 tT_NFAArc.sz
     refine WP_loop (fun (st9:(List T_NFAArc)×Int) E w=>match st9 with|(xv366,xv367)=>∃(v657:Value) (xs666:List Value) (v655:Value) (xs664:List Value) (v658:Value) (xs667:List Value) (v656:Value) (xs665:List Value) (G71:List Res),E 2=Value.pointer (some ⟨b1,0,none⟩)∧E 7=Value.pointer (some ⟨b15,0,none⟩)∧E 14=Value.pointer (some ⟨b232,0,none⟩)∧E 99=v656∧E 100=Value.int .i64 (xv159.length:Int)∧E 101=Value.int .i64 xv367∧E.ds=[]∧RowRel tT_NFAArc gg44 xs666 xv366∧RowRel (tVec 4 .u64) gg44 xs664 xv158∧RowRel (tInt .i64) gg44 xs667 xv160∧GRel (iMap (Value.int .i64) Value.bool) gg44 xs665 xv159 G71∧Go.Lx.Sep g0 w0 gg44 w (.row v657 95 tT_NFAArc.sz xv366.length xs666::Go.Lx.box b232 71 ([Value.int .i64 (xv160.length:Int),Value.int .i64 0,v657,v658])::.row v655 50 (tVec 4 .u64).sz xv158.length xs664::.row v658 3 (tInt .i64).sz xv160.length xs667::Go.Lx.box b15 128 ([v655,v656])::.row v656 125 1 xv159.length xs665::Go.Lx.box b1 71 ([Value.int .i64 0,Value.int .i64 0,Value.slice none 0 0,Value.slice none 0 0])::(G71++[]))) hM ⟨(Value.slice none 0 0),[],v280,xs273,v282,xs275,v281,xs274,G32,rfl,rfl,rfl,rfl,rfl,rfl,hds,RowRel.nil,hrelxs273,hrelxs275,hGG32,hs⟩ ?_
     clear hs hM
     rintro ⟨xv366,xv367⟩ o65 E w hM ⟨v657,xs666,v655,xs664,v658,xs667,v656,xs665,G71,hE2,hE7,hE14,hE99,hE100,hE101,hds,hrelxs666,hrelxs664,hrelxs667,hGG71,hs⟩
     obtain ⟨E,rfl⟩:=open6 (E:=E) hE2 hE7 hE14 hE99 hE100 hE101
     refine WP_seq<|WP_region<|O (r_lss rfl rfl) rfl<|OW_nil<|WP_seq ?_
     rcases condS hM with ⟨hc211,hM⟩|⟨hc211,hM⟩
     ·refine WP_true rfl hc211<|WP_skip ?_
      obtain ⟨xv389,hx51,hKhx51⟩:=bindS hM
      refine WP_cut (fun E w=>∃(v699:Value) (xs708:List Value) (v697:Value) (xs706:List Value) (v700:Value) (xs709:List Value) (v698:Value) (xs707:List Value) (G74:List Res),E 2=Value.pointer (some ⟨b1,0,none⟩)∧E 7=Value.pointer (some ⟨b15,0,none⟩)∧E 14=Value.pointer (some ⟨b232,0,none⟩)∧E 99=v698∧E 100=Value.int .i64 (xv159.length:Int)∧E 101=Value.int .i64 xv367∧E.ds=[]∧RowRel tT_NFAArc gg44 xs708 xv389∧RowRel (tVec 4 .u64) gg44 xs706 xv158∧RowRel (tInt .i64) gg44 xs709 xv160∧GRel (iMap (Value.int .i64) Value.bool) gg44 xs707 xv159 G74∧Go.Lx.Sep g0 w0 gg44 w (.row v699 95 tT_NFAArc.sz xv389.length xs708::Go.Lx.box b232 71 ([Value.int .i64 (xv160.length:Int),Value.int .i64 0,v699,v700])::.row v697 50 (tVec 4 .u64).sz xv158.length xs706::.row v700 3 (tInt .i64).sz xv160.length xs709::Go.Lx.box b15 128 ([v697,v698])::.row v698 125 1 xv159.length xs707::Go.Lx.box b1 71 ([Value.int .i64 0,Value.int .i64 0,Value.slice none 0 0,Value.slice none 0 0])::(G74++[]))) ?_ ?_
      ·have hM:=hx51
       refine WP_block<|WP_seq<|WP_region<|O (r_move (v:=Value.int .i64 xv367) rfl) rfl ?_
       obtain ⟨e192,he192,hM⟩:=bindS hM
       obtain ⟨b332,cb332,hvb332,u12,rv48,hxu12,hguu12,hinu12,hcb332⟩:=hs.gridAt (i:=5) rfl hGG71 he192
       obtain ⟨b333,es12,ck12,rfl,rfl,hmes12⟩:=hinu12
       refine O (r_idxSl Tryz.underlying126 ti125 (v:=v656) rfl hvb332 rfl (idxL_some he192).1 (idxL_some he192).2.1) rfl<|O (r_loadEl (cs:=[Value.map (some b333)]) ti125 rfl rfl (.inr rfl) (hcb332 _ (hs.at (i:=5) rfl)) (v:=Value.map (some b333)) rfl) rfl<|O (r_assign (v:=Value.int .i64 xv367) rfl) rfl<|O (r_assign (v:=Value.map (some b333)) rfl) rfl<|OW_nil<|WP_seq<|WP_region<|O (r_move (v:=Value.map (some b333)) rfl) rfl<|OW_keys keysC88 cf88 hs (mb:=some b333) rfl rfl ?_
       intro b334 wv472 hs
       obtain ⟨l12,hl12,hM⟩:=bindS hM
       refine OW_sorted sortedC87 cf87 Tryz.underlying3 hs (i:=0) rfl (gget (A:=[Go.Lx.box b334 125 ([Value.map (some b333)]),.row v657 95 tT_NFAArc.sz xv366.length xs666,Go.Lx.box b232 71 ([Value.int .i64 (xv160.length:Int),Value.int .i64 0,v657,v658]),.row v655 50 (tVec 4 .u64).sz xv158.length xs664,.row v658 3 (tInt .i64).sz xv160.length xs667,Go.Lx.box b15 128 ([v655,v656]),.row v656 125 1 xv159.length xs665,Go.Lx.box b1 71 ([Value.int .i64 0,Value.int .i64 0,Value.slice none 0 0,Value.slice none 0 0])]) (B:=[]) hguu12) hmes12 hl12 rfl rfl ?_
       intro v701 wv473 xs710 hrelxs710 hs
       obtain ⟨a187,ca187,hva187⟩:=hs.rowShape (i:=0) rfl
       refine O (r_lenSl (v:=v701) Tryz.underlying34 rfl hva187) rfl<|O (r_move (v:=Value.int .i64 0) rfl) rfl<|OW_nil<|WP_block<|WP_loop (fun (st9:(List T_NFAArc)×Int) E w=>match st9 with|(xv392,xv393)=>∃(v705:Value) (xs714:List Value),E 2=Value.pointer (some ⟨b1,0,none⟩)∧E 7=Value.pointer (some ⟨b15,0,none⟩)∧E 14=Value.pointer (some ⟨b232,0,none⟩)∧E 15=Value.int .i64 xv367∧E 99=v656∧E 100=Value.int .i64 (xv159.length:Int)∧E 101=Value.int .i64 xv367∧E 108=v701∧E 109=Value.int .i64 (l12.length:Int)∧E 110=Value.int .i64 xv393∧E.ds=[]∧RowRel tT_NFAArc gg44 xs714 xv392∧Go.Lx.Sep g0 w0 gg44 w (.row v701 3 (tInt .i64).sz l12.length xs710::.row v705 95 tT_NFAArc.sz xv392.length xs714::Go.Lx.box b232 71 ([Value.int .i64 (xv160.length:Int),Value.int .i64 0,v705,v658])::.row v655 50 (tVec 4 .u64).sz xv158.length xs664::.row v658 3 (tInt .i64).sz xv160.length xs667::Go.Lx.box b15 128 ([v655,v656])::.row v656 125 1 xv159.length xs665::Go.Lx.box b1 71 ([Value.int .i64 0,Value.int .i64 0,Value.slice none 0 0,Value.slice none 0 0])::(G71++[]))) hM ⟨v657,xs666,rfl,rfl,rfl,rfl,rfl,rfl,rfl,rfl,rfl,rfl,hds,hrelxs666,(Sep.selT (A:=[.row v701 3 (tInt .i64).sz l12.length xs710,Go.Lx.box b334 125 ([Value.map (some b333)]),.row v657 95 tT_NFAArc.sz xv366.length xs666,Go.Lx.box b232 71 ([Value.int .i64 (xv160.length:Int),Value.int .i64 0,v657,v658]),.row v655 50 (tVec 4 .u64).sz xv158.length xs664,.row v658 3 (tInt .i64).sz xv160.length xs667,Go.Lx.box b15 128 ([v655,v656]),.row v656 125 1 xv159.length xs665,Go.Lx.box b1 71 ([Value.int .i64 0,Value.int .i64 0,Value.slice none 0 0,Value.slice none 0 0])]) (A':=[.row v701 3 (tInt .i64).sz l12.length xs710,.row v657 95 tT_NFAArc.sz xv366.length xs666,Go.Lx.box b232 71 ([Value.int .i64 (xv160.length:Int),Value.int .i64 0,v657,v658]),.row v655 50 (tVec 4 .u64).sz xv158.length xs664,.row v658 3 (tInt .i64).sz xv160.length xs667,Go.Lx.box b15 128 ([v655,v656]),.row v656 125 1 xv159.length xs665,Go.Lx.box b1 71 ([Value.int .i64 0,Value.int .i64 0,Value.slice none 0 0,Value.slice none 0 0])]) (L:=(G71++[])) hs [0,2,3,4,5,6,7,8] (by decide) rfl)⟩ ?_
       clear hs hM
       rintro ⟨xv392,xv393⟩ o67 E w hM ⟨v705,xs714,hE2,hE7,hE14,hE15,hE99,hE100,hE101,hE108,hE109,hE110,hds,hrelxs714,hs⟩
       obtain ⟨E,rfl⟩:=open8 (E:=E) hE2 hE7 hE14 hE15 hE99 hE100 hE101 hE108
       obtain ⟨E,rfl⟩:=open2 (E:=E) hE109 hE110
       refine WP_seq<|WP_region<|O (r_lss rfl rfl) rfl<|OW_nil<|WP_seq ?_
       rcases condS hM with ⟨hc217,hM⟩|⟨hc217,hM⟩
       ·refine WP_true rfl hc217<|WP_skip<|WP_seq<|WP_block<|WP_seq<|WP_region ?_
        obtain ⟨e197,he197,hM⟩:=bindS hM
        obtain ⟨b339,cb339,hvb339,cs299,hcs299,hcb339⟩:=hs.rowEl (i:=0) rfl hrelxs710 he197
        have hcs299:cs299=_:=hcs299; subst hcs299
        refine O (r_idxSl Tryz.underlying34 ti3 (v:=v701) rfl hvb339 rfl (idxL_some he197).1 (idxL_some he197).2.1) rfl<|O (r_loadEl (cs:=[Value.int .i64 e197]) ti3 rfl rfl (.inr rfl) (hcb339 _ (hs.at (i:=0) rfl)) (v:=Value.int .i64 e197) rfl) rfl<|O (r_assign (v:=Value.int .i64 e197) rfl) rfl<|OW_nil<|WP_any (.q 0 (.q 1 (.q 2 (.q 3 (.q 4 (.q 5 (.q 6 (.q 7 (.q 8 (.q 9 (.q 10 (.q 11 (.q 12 (.s 13 (.s 14 (.q 15 (.s 16 (.leaf)))))))))))))))))) (SS g0 w0 gg44 (.row v701 3 (tInt .i64).sz l12.length xs710::.row v705 95 tT_NFAArc.sz xv392.length xs714::Go.Lx.box b232 71 ([Value.int .i64 (xv160.length:Int),Value.int .i64 0,v705,v658])::.row v655 50 (tVec 4 .u64).sz xv158.length xs664::.row v658 3 (tInt .i64).sz xv160.length xs667::Go.Lx.box b15 128 ([v655,v656])::.row v656 125 1 xv159.length xs665::Go.Lx.box b1 71 ([Value.int .i64 0,Value.int .i64 0,Value.slice none 0 0,Value.slice none 0 0])::(G71++[]))) mo (by decide +kernel) ?_
        have hs:=hs.drew
        have hS:SS g0 w0 gg44 (.row v701 3 (tInt .i64).sz l12.length xs710::.row v705 95 tT_NFAArc.sz xv392.length xs714::Go.Lx.box b232 71 ([Value.int .i64 (xv160.length:Int),Value.int .i64 0,v705,v658])::.row v655 50 (tVec 4 .u64).sz xv158.length xs664::.row v658 3 (tInt .i64).sz xv160.length xs667::Go.Lx.box b15 128 ([v655,v656])::.row v656 125 1 xv159.length xs665::Go.Lx.box b1 71 ([Value.int .i64 0,Value.int .i64 0,Value.slice none 0 0,Value.slice none 0 0])::(G71++[])) _:=⟨gg44,Hle.refl _,hs⟩
        refine A rfl hS (fun w9 ⟨g9,hle9,hs⟩=>r_fieldAddr Tryz.underlying71 ti69 rfl rfl (by decide) rfl rfl) rfl<|A rfl hS (fun w9 ⟨g9,hle9,hs⟩=>r_load (v:=v705) ti69 rfl (hs.cell (i:=2) (o:=2) rfl rfl)) rfl<|A rfl hS (fun w9 ⟨g9,hle9,hs⟩=>r_move (v:=Value.int .i64 xv367) rfl) rfl<|A rfl hS (fun w9 ⟨g9,hle9,hs⟩=>r_move (v:=Value.int .i64 e197) rfl) rfl<|A rfl hS (fun w9 ⟨g9,hle9,hs⟩=>r_move (v:=Value.pointer (some ⟨b15,0,none⟩)) rfl) rfl<|A rfl hS (fun w9 ⟨g9,hle9,hs⟩=>r_nilCheck rfl) rfl<|A rfl hS (fun w9 ⟨g9,hle9,hs⟩=>r_fieldAddr Tryz.underlying128 ti85 rfl rfl (by decide) rfl rfl) rfl<|A rfl hS (fun w9 ⟨g9,hle9,hs⟩=>r_load (v:=v655) ti85 rfl (hs.cell (i:=5) (o:=0) rfl rfl)) rfl ?_
        refine A rfl hS (fun w9 ⟨g9,hle9,hs⟩=>r_move (v:=Value.int .i64 e197) rfl) rfl ?_
        obtain ⟨t166,ht166,hM⟩:=bindS hM
        refine A rfl hS (fun w9 ⟨g9,hle9,hs⟩=>r_subM rfl rfl ht166) rfl ?_
        obtain ⟨e198,he198,hM⟩:=bindS hM
        obtain ⟨b340,cb340,hvb340,cs300,hcs300,hcb340⟩:=hs.rowEl (i:=3) rfl hrelxs664 he198
        have hcs300:cs300=_:=hcs300; subst hcs300
        refine A rfl hS (fun w9 ⟨g9,hle9,hs⟩=>r_idxSl Tryz.underlying85 ti50 (v:=v655) rfl hvb340 rfl (idxL_some he198).1 (idxL_some he198).2.1) rfl<|A rfl hS (fun w9 ⟨g9,hle9,hs⟩=>r_loadEl (cs:=e198.1.map (Value.int .u64)) ti50 rfl (by simp [e198.2]) (.inl rfl) (hcb340 _ (hs.at (i:=3) rfl)) (v:=encV .u64 e198) rfl) rfl<|A rfl hS (fun w9 ⟨g9,hle9,hs⟩=>r_build (vs:=[(0,Value.int .i64 xv367),(1,Value.int .i64 e197),(3,encV .u64 e198)]) (cs:=([Value.int .i64 xv367])++(([Value.int .i64 e197])++(([Value.bool false])++(e198.1.map (Value.int .u64))))) rfl (built_fill [(0,1),(1,1),(2,1),(3,4)] (([Value.int .i64 0])++(([Value.int .i64 0])++(([Value.bool false])++((Vec.zero 4).1.map (Value.int .u64))))) (fun _=>by kernel_rfl) (fill_step ([]) ([Value.int .i64 0]) (([Value.int .i64 0])++(([Value.bool false])++((Vec.zero 4).1.map (Value.int .u64)))) ([Value.int .i64 xv367]) rfl (by simp) rfl rfl rfl rfl<|fill_step ([Value.int .i64 xv367]) ([Value.int .i64 0]) (([Value.bool false])++((Vec.zero 4).1.map (Value.int .u64))) ([Value.int .i64 e197]) rfl (by simp) rfl rfl rfl rfl<|fill_step ([Value.int .i64 xv367,Value.int .i64 e197,Value.bool false]) ((Vec.zero 4).1.map (Value.int .u64)) ([]) (e198.1.map (Value.int .u64)) rfl (by simp) rfl rfl (by simp [(Vec.zero 4).2]) (by simp [e198.2])<|fill_last (by simp)))) rfl ?_
        refine A1 rfl<|OW_lit (τ:=tT_NFAArc) [Value.agg (List.toArray (α:=Value) (([Value.int .i64 xv367])++(([Value.int .i64 e197])++(([Value.bool false])++(e198.1.map (Value.int .u64))))))] [(T_NFAArc.mk xv367 e197 false e198)] Tryz.underlying69 ti95 (by decide) hs rfl rfl rfl ⟨⟨[Value.int .i64 xv367],[Value.int .i64 e197],[Value.bool false],e198.1.map (Value.int .u64),rfl,rfl,rfl,rfl,rfl⟩,trivial⟩ rfl ?_
        intro v709 wv480 xs718 hrelxs718 hs
        refine OW_nil ?_
        replace hS:=hS.to (Hle.refl _) (Sep.selT (A:=[.row v709 95 tT_NFAArc.sz [(T_NFAArc.mk xv367 e197 false e198)].length xs718,.row v701 3 (tInt .i64).sz l12.length xs710,.row v705 95 tT_NFAArc.sz xv392.length xs714,Go.Lx.box b232 71 ([Value.int .i64 (xv160.length:Int),Value.int .i64 0,v705,v658]),.row v655 50 (tVec 4 .u64).sz xv158.length xs664,.row v658 3 (tInt .i64).sz xv160.length xs667,Go.Lx.box b15 128 ([v655,v656]),.row v656 125 1 xv159.length xs665,Go.Lx.box b1 71 ([Value.int .i64 0,Value.int .i64 0,Value.slice none 0 0,Value.slice none 0 0])]) (A':=[.row v701 3 (tInt .i64).sz l12.length xs710,.row v705 95 tT_NFAArc.sz xv392.length xs714,Go.Lx.box b232 71 ([Value.int .i64 (xv160.length:Int),Value.int .i64 0,v705,v658]),.row v655 50 (tVec 4 .u64).sz xv158.length xs664,.row v658 3 (tInt .i64).sz xv160.length xs667,Go.Lx.box b15 128 ([v655,v656]),.row v656 125 1 xv159.length xs665,Go.Lx.box b1 71 ([Value.int .i64 0,Value.int .i64 0,Value.slice none 0 0,Value.slice none 0 0])]) (L:=(G71++[])) hs [1,2,3,4,5,6,7,8] (by decide) rfl)
        refine ⟨fun _=>hS,?_⟩
        refine A1 rfl ?_
        obtain ⟨y198,hy198,hM⟩:=bindS hM
        refine OW_appendK Tryz.underlying69 ti95 rfl (by decide) (by decide) hs (i:=2) rfl hrelxs714 (v:=v705) rfl (u:=v709) rfl (hs.rowSrc (i:=0) rfl) hrelxs718 hy198 rfl ?_
        intro v710 wv481 xs719 hrelxs719 hsO hs
        refine OW_nil ?_
        have hsO:Go.Lx.Sep g0 w0 gg44 _ (.row v701 3 (tInt .i64).sz l12.length xs710::.row v705 95 tT_NFAArc.sz xv392.length xs714::Go.Lx.box b232 71 ([Value.int .i64 (xv160.length:Int),Value.int .i64 0,v705,v658])::.row v655 50 (tVec 4 .u64).sz xv158.length xs664::.row v658 3 (tInt .i64).sz xv160.length xs667::Go.Lx.box b15 128 ([v655,v656])::.row v656 125 1 xv159.length xs665::Go.Lx.box b1 71 ([Value.int .i64 0,Value.int .i64 0,Value.slice none 0 0,Value.slice none 0 0])::(G71++[])):=(Sep.selT (A:=[.row v709 95 tT_NFAArc.sz [(T_NFAArc.mk xv367 e197 false e198)].length xs718,.row v701 3 (tInt .i64).sz l12.length xs710,.row v705 95 tT_NFAArc.sz xv392.length xs714,Go.Lx.box b232 71 ([Value.int .i64 (xv160.length:Int),Value.int .i64 0,v705,v658]),.row v655 50 (tVec 4 .u64).sz xv158.length xs664,.row v658 3 (tInt .i64).sz xv160.length xs667,Go.Lx.box b15 128 ([v655,v656]),.row v656 125 1 xv159.length xs665,Go.Lx.box b1 71 ([Value.int .i64 0,Value.int .i64 0,Value.slice none 0 0,Value.slice none 0 0])]) (A':=[.row v701 3 (tInt .i64).sz l12.length xs710,.row v705 95 tT_NFAArc.sz xv392.length xs714,Go.Lx.box b232 71 ([Value.int .i64 (xv160.length:Int),Value.int .i64 0,v705,v658]),.row v655 50 (tVec 4 .u64).sz xv158.length xs664,.row v658 3 (tInt .i64).sz xv160.length xs667,Go.Lx.box b15 128 ([v655,v656]),.row v656 125 1 xv159.length xs665,Go.Lx.box b1 71 ([Value.int .i64 0,Value.int .i64 0,Value.slice none 0 0,Value.slice none 0 0])]) (L:=(G71++[])) hsO [1,2,3,4,5,6,7,8] (by decide) rfl)
        replace hS:=hS.to (Hle.refl _) hsO
        refine ⟨fun _=>hS,?_⟩
        refine A rfl hS (fun w9 ⟨g9,hle9,hs⟩=>r_fieldAddr Tryz.underlying71 ti69 rfl rfl (by decide) rfl rfl) rfl<|A1 rfl<|OW_store1 ti69 hs (i:=3) rfl rfl (v:=v710) rfl (by obtain ⟨_,_,h9⟩:=hs.rowShape (i:=2) rfl; rw [h9]; rfl) (o:=2) (by simp) ?_
        intro wv482 hs
        refine OW_nil ?_
        refine ⟨fun h=>absurd h (by decide +kernel),?_⟩
        refine AN<|WP_region ?_
        obtain ⟨t167,ht167,hM⟩:=bindS hM
        refine O (r_addM rfl rfl ht167) rfl<|O (r_move (v:=Value.int .i64 t167) rfl) rfl<|OW_nil ?_
        obtain rfl:=Option.some.inj hM
        exact ⟨v710,xs719,rfl,rfl,rfl,rfl,rfl,rfl,rfl,rfl,rfl,rfl,hds,hrelxs719,(Sep.selT (A:=[.row v709 95 tT_NFAArc.sz [(T_NFAArc.mk xv367 e197 false e198)].length xs718,.row v701 3 (tInt .i64).sz l12.length xs710,.row v710 95 tT_NFAArc.sz y198.length xs719,Go.Lx.box b232 71 ([Value.int .i64 (xv160.length:Int),Value.int .i64 0,v710,v658]),.row v655 50 (tVec 4 .u64).sz xv158.length xs664,.row v658 3 (tInt .i64).sz xv160.length xs667,Go.Lx.box b15 128 ([v655,v656]),.row v656 125 1 xv159.length xs665,Go.Lx.box b1 71 ([Value.int .i64 0,Value.int .i64 0,Value.slice none 0 0,Value.slice none 0 0])]) (A':=[.row v701 3 (tInt .i64).sz l12.length xs710,.row v710 95 tT_NFAArc.sz y198.length xs719,Go.Lx.box b232 71 ([Value.int .i64 (xv160.length:Int),Value.int .i64 0,v710,v658]),.row v655 50 (tVec 4 .u64).sz xv158.length xs664,.row v658 3 (tInt .i64).sz xv160.length xs667,Go.Lx.box b15 128 ([v655,v656]),.row v656 125 1 xv159.length xs665,Go.Lx.box b1 71 ([Value.int .i64 0,Value.int .i64 0,Value.slice none 0 0,Value.slice none 0 0])]) (L:=(G71++[])) hs [1,2,3,4,5,6,7,8] (by decide) rfl)⟩
       ·refine WP_false rfl hc217<|WP_exit ?_
        obtain rfl:=Option.some.inj hM
        refine fun hr=>?_
        have hM:=congrArg some hr
        obtain rfl:=Option.some.inj hM
        exact ⟨v705,xs714,v655,xs664,v658,xs667,v656,xs665,G71,rfl,rfl,rfl,rfl,rfl,rfl,hds,hrelxs714,hrelxs664,hrelxs667,hGG71,(Sep.selT (A:=[.row v701 3 (tInt .i64).sz l12.length xs710,.row v705 95 tT_NFAArc.sz xv392.length xs714,Go.Lx.box b232 71 ([Value.int .i64 (xv160.length:Int),Value.int .i64 0,v705,v658]),.row v655 50 (tVec 4 .u64).sz xv158.length xs664,.row v658 3 (tInt .i64).sz xv160.length xs667,Go.Lx.box b15 128 ([v655,v656]),.row v656 125 1 xv159.length xs665,Go.Lx.box b1 71 ([Value.int .i64 0,Value.int .i64 0,Value.slice none 0 0,Value.slice none 0 0])]) (A':=[.row v705 95 tT_NFAArc.sz xv392.length xs714,Go.Lx.box b232 71 ([Value.int .i64 (xv160.length:Int),Value.int .i64 0,v705,v658]),.row v655 50 (tVec 4 .u64).sz xv158.length xs664,.row v658 3 (tInt .i64).sz xv160.length xs667,Go.Lx.box b15 128 ([v655,v656]),.row v656 125 1 xv159.length xs665,Go.Lx.box b1 71 ([Value.int .i64 0,Value.int .i64 0,Value.slice none 0 0,Value.slice none 0 0])]) (L:=(G71++[])) hs [1,2,3,4,5,6,7] (by decide) rfl)⟩
      ·clear hs
       rintro E w ⟨v699,xs708,v697,xs706,v700,xs709,v698,xs707,G74,hE2,hE7,hE14,hE99,hE100,hE101,hds,hrelxs708,hrelxs706,hrelxs709,hGG74,hs⟩
       have hM:=hKhx51
       obtain ⟨E,rfl⟩:=open6 (E:=E) hE2 hE7 hE14 hE99 hE100 hE101
       refine WP_region ?_
       obtain ⟨t168,ht168,hM⟩:=bindS hM
       refine O (r_addM rfl rfl ht168) rfl<|O (r_move (v:=Value.int .i64 t168) rfl) rfl<|OW_nil ?_
       obtain rfl:=Option.some.inj hM
       exact ⟨v699,xs708,v697,xs706,v700,xs709,v698,xs707,G74,rfl,rfl,rfl,rfl,rfl,rfl,hds,hrelxs708,hrelxs706,hrelxs709,hGG74,hs⟩
     ·refine WP_false rfl hc211<|WP_exit ?_
      obtain rfl:=Option.some.inj hM
      refine fun hr=>?_
      have hM:=congrArg some hr
      obtain rfl:=Option.some.inj hM
      exact ⟨v657,xs666,v658,xs667,rfl,rfl,hds,hrelxs666,hrelxs667,(Sep.selT (A:=[.row v657 95 tT_NFAArc.sz xv366.length xs666,Go.Lx.box b232 71 ([Value.int .i64 (xv160.length:Int),Value.int .i64 0,v657,v658]),.row v655 50 (tVec 4 .u64).sz xv158.length xs664,.row v658 3 (tInt .i64).sz xv160.length xs667,Go.Lx.box b15 128 ([v655,v656]),.row v656 125 1 xv159.length xs665,Go.Lx.box b1 71 ([Value.int .i64 0,Value.int .i64 0,Value.slice none 0 0,Value.slice none 0 0])]) (A':=[.row v657 95 tT_NFAArc.sz xv366.length xs666,Go.Lx.box b232 71 ([Value.int .i64 (xv160.length:Int),Value.int .i64 0,v657,v658]),.row v658 3 (tInt .i64).sz xv160.length xs667,Go.Lx.box b1 71 ([Value.int .i64 0,Value.int .i64 0,Value.slice none 0 0,Value.slice none 0 0])]) (L:=[]) (hs.sub (.cons_cons _ (.cons_cons _ (.cons_cons _ (.cons_cons _ (.cons_cons _ (.cons_cons _ (.cons_cons _ ((List.Sublist.refl _).trans (List.sublist_append_right _ _)))))))))) [0,1,3,6] (by decide) rfl)⟩
    ·clear hs
     rintro E w ⟨v625,xs632,v626,xs633,hE2,hE14,hds,hrelxs632,hrelxs633,hs⟩
     have hM:=hKhx48
     obtain ⟨E,rfl⟩:=open2 (E:=E) hE2 hE14
     refine WP_seq<|WP_region<|O (r_loadN (cs:=[Value.int .i64 (xv160.length:Int),Value.int .i64 0,v625,v626]) ti71 rfl rfl (hs.cells (i:=1) rfl)) rfl<|OW_storeAll ti71 hs (i:=3) rfl rfl (v:=Value.agg (List.toArray (α:=Value) [Value.int .i64 (xv160.length:Int),Value.int .i64 0,v625,v626])) rfl (vs:=[Value.int .i64 (xv160.length:Int),Value.int .i64 0,v625,v626]) rfl (one_cons rfl (one_cons rfl (one_cons (by obtain ⟨_,_,h9⟩:=hs.rowShape (i:=0) rfl; rw [h9]; rfl) (one_cons (by obtain ⟨_,_,h9⟩:=hs.rowShape (i:=2) rfl; rw [h9]; rfl) one_nil)))) rfl rfl ?_
     intro wv483 hs
     refine O (r_assign (v:=Value.int .i64 0) rfl) rfl<|OW_nil<|WP_ret ?_
     obtain rfl:=Option.some.inj hM
     obtain ⟨gg69,hlegg69,hRgg69,hs⟩:=hs.relRow (i:=0) rfl hrelxs632
     replace hrelxs633:=hrelxs633.mono hlegg69
     obtain ⟨gg70,hlegg70,hRgg70,hs⟩:=hs.relRow (i:=1) rfl hrelxs633
     replace hRgg69:=hRgg69.mono hlegg70
     refine FL_nil hds ?_
     exact ⟨_,res2 Tryz.results64 (rv_cells (vs:=[Value.int .i64 (xv160.length:Int),Value.int .i64 0,v625,v626]) ti71 rfl rfl (hs.cells (i:=1) rfl)) (rv_tmp (v:=Value.int .i64 0) rfl),gg70,⟨_,_,rfl,⟨[Value.int .i64 (xv160.length:Int),Value.int .i64 0,v625,v626],rfl,⟨[Value.int .i64 (xv160.length:Int)],[Value.int .i64 0],[v625],[v626],rfl,rfl,rfl,⟨_,rfl,hRgg69⟩,⟨_,rfl,hRgg70⟩⟩⟩,⟨[Value.int .i64 0],rfl,rfl⟩⟩,hs.ext⟩
set_option maxRecDepth 100000 in
theorem nfa_Valid_1_ok {s1:Int} {c1:T_NFA} {r:Bool} (hM:M.nfa_Valid_1 s1 c1=some r) {g0:Hp} {w0:World} (hi:Imm g0 w0) {b1:Nat} {cs1:List Value} (hBb1:IBox 71 b1 cs1 g0) (hcs1:tT_NFA.rel g0 cs1 c1) :
    CallsV Tryz.prog 113 #[Value.int .i64 s1,Value.pointer (some ⟨b1,0,none⟩)] w0 (fun v w'=>∃g',(VRd tBool false g' v r)∧Ext g0 w0 g' w'):=by
 unfold M.nfa_Valid_1 at hM
 obtain ⟨cs2,cs3,cs4,cs5,rfl,hcs2,hcs3,hcs4,hcs5⟩:=hcs1
 have hcs2:cs2=_:=hcs2; subst hcs2
 have hcs3:cs3=_:=hcs3; subst hcs3
 obtain ⟨v1,rfl,hRv1⟩:=hcs4
 obtain ⟨v2,rfl,hRv2⟩:=hcs5
 have hs:=Sep.start hi
 refine calls_of_WP (args:=[Value.int .i64 s1,Value.pointer (some ⟨b1,0,none⟩)]) Tryz.func113 rfl Tryz.ntmps113 rfl ?_
 have hds:(argEnv [Value.int .i64 s1,Value.pointer (some ⟨b1,0,none⟩)]).ds=[]:=rfl
 refine WP_seq<|WP_region<|O (r_assign (v:=Value.bool false) rfl) rfl<|OW_nil ?_
 obtain ⟨xv1,hx1,hKhx1⟩:=bindS hM
 refine WP_cut (fun E w=>E 3=Value.bool xv1∧E.ds=[]∧Go.Lx.Sep g0 w0 g0 w []) ?_ ?_
 ·have hM:=hx1
  have hag0:=Hle.refl g0
  refine WP_region<|O (r_move (v:=Value.int .i64 s1) rfl) rfl<|O (r_geq rfl rfl) rfl<|O (r_move (v:=Value.bool (decide (0≤s1))) rfl) rfl ?_
  rcases condS hM with ⟨hg2,hM⟩|⟨hg2,hM⟩
  ·refine OG rfl rfl rfl (by rw [hg2]; rfl) (r_move (v:=Value.int .i64 s1) rfl) rfl<|OG rfl rfl rfl (by rw [hg2]; rfl) (r_fieldAddr Tryz.underlying71 ti3 rfl rfl (by decide) rfl rfl) rfl<|OG rfl rfl rfl (by rw [hg2]; rfl) (r_loadEl (o:=0) (cs:=[Value.int .i64 c1.States]) ti3 rfl rfl (.inr rfl) (elemField (cs:=[Value.int .i64 c1.States,Value.int .i64 c1.Start,v1,v2]) (hBb1.cells hs.imm) ([]) ([Value.int .i64 c1.States]) ([Value.int .i64 c1.Start,v1,v2]) rfl rfl) (v:=Value.int .i64 c1.States) rfl) rfl<|OG rfl rfl rfl (by rw [hg2]; rfl) (r_lss rfl rfl) rfl<|O (r_pickT (v:=Value.bool (decide (s1<c1.States))) rfl hg2 rfl) rfl<|O (r_assign (v:=Value.bool (decide (s1<c1.States))) rfl) rfl ?_
   refine OW_nil ?_
   obtain rfl:=Option.some.inj hM
   exact ⟨rfl,hds,hs⟩
  ·refine OK rfl rfl rfl (by rw [hg2]; rfl) rfl<|OK rfl rfl rfl (by rw [hg2]; rfl) rfl<|OK rfl rfl rfl (by rw [hg2]; rfl) rfl<|OK rfl rfl rfl (by rw [hg2]; rfl) rfl<|O (r_pickF (v:=Value.bool false) rfl hg2 rfl) rfl<|O (r_assign (v:=Value.bool false) rfl) rfl<|OW_nil ?_
   obtain rfl:=Option.some.inj hM
   exact ⟨rfl,hds,hs⟩
 ·clear hs
  rintro E w ⟨hE3,hds,hs⟩
  have hM:=hKhx1
  obtain ⟨E,rfl⟩:=open1 (E:=E) hE3
  refine WP_ret ?_
  obtain rfl:=Option.some.inj hM
  refine FL_nil hds ?_
  exact ⟨_,res1 Tryz.results113 (rv_tmp (v:=Value.bool xv1) rfl),g0,⟨[Value.bool xv1],rfl,rfl⟩,hs.ext⟩
set_option maxRecDepth 100000 in
theorem slices_IndexFunc_int_int_ok {s1:(List Int)} {f1:(Int→Option Bool)} {r:Int} (hM:M.slices_IndexFunc_int_int s1 f1=some r) {g0:Hp} {w0:World} (hi:Imm g0 w0) {v1:Value} (hRv1:RdS (tInt .i64) g0 v1 s1) {v2:Value} (hRv2:FnRd1 Tryz.prog (VRd (tInt .i64) false) (VRd tBool false) v2 f1 g0) :
    CallsV Tryz.prog 129 #[v1,v2] w0 (fun v w'=>∃g',(VRd (tInt .i64) false g' v r)∧Ext g0 w0 g' w'):=by
 unfold M.slices_IndexFunc_int_int at hM
 have hs:=Sep.start hi
 refine calls_of_WP (args:=[v1,v2]) Tryz.func129 rfl Tryz.ntmps129 rfl ?_
 have hds:(argEnv [v1,v2]).ds=[]:=rfl
 refine WP_seq<|WP_region<|O (r_assign (v:=Value.int .i64 0) rfl) rfl<|OW_nil ?_
 obtain ⟨o3,hx1,hKhx1⟩:=stepS hM
 refine WP_cut (fun E w=>∃u9:Unit,o3=.next u9∧∃(gg7:Hp),E.ds=[]∧Hle g0 gg7∧Go.Lx.Sep g0 w0 gg7 w []) ?_ ?_
 ·have hM:=hx1
  have hag0:=Hle.refl g0
  refine WP_seq<|WP_region<|O (r_move (v:=v1) rfl) rfl ?_
  obtain ⟨a2,ca2,hva2⟩:=hRv1.shape
  refine O (r_lenSl (v:=v1) Tryz.underlying34 rfl hva2) rfl<|O (r_move (v:=Value.int .i64 0) rfl) rfl<|OW_nil<|WP_block<|WP_loop (fun (xv5:Int) E w=>∃(gg10:Hp),E 0=v1∧E 1=v2∧E 7=Value.int .i64 (s1.length:Int)∧E 8=Value.int .i64 xv5∧E.ds=[]∧Hle g0 gg10∧Go.Lx.Sep g0 w0 gg10 w []) hM ⟨g0,rfl,rfl,rfl,rfl,hds,(Hle.refl _),hs⟩ ?_
  clear hs hM
  rintro xv5 o2 E w hM ⟨gg10,hE0,hE1,hE7,hE8,hds,hlegg10,hs⟩
  obtain ⟨E,rfl⟩:=open4 (E:=E) hE0 hE1 hE7 hE8
  replace hRv1:=hRv1.mono hlegg10
  replace hRv2:=hRv2.mono hlegg10
  have hagg10:=Hle.refl gg10
  refine WP_seq<|WP_region<|O (r_lss rfl rfl) rfl<|OW_nil<|WP_seq ?_
  rcases condS hM with ⟨hc11,hM⟩|⟨hc11,hM⟩
  ·refine WP_true rfl hc11<|WP_skip<|WP_seq<|WP_block<|WP_seq<|WP_region<|O (r_move (v:=Value.int .i64 xv5) rfl) rfl<|O (r_assign (v:=Value.int .i64 xv5) rfl) rfl<|OW_nil<|WP_seq<|WP_region<|O (r_move (v:=v2) rfl) rfl<|O (r_move (v:=v1) rfl) rfl<|O (r_move (v:=Value.int .i64 xv5) rfl) rfl ?_
   obtain ⟨e6,he6,hM⟩:=bindS hM
   obtain ⟨b6,ob6,cb6,hvb6,cs11,hcs11,hcb6⟩:=hRv1.at he6
   have hcs11:cs11=_:=hcs11; subst hcs11
   refine O (r_idxSl Tryz.underlying34 ti3 (v:=v1) rfl hvb6 rfl (idxL_some he6).1 (idxL_some he6).2.1) rfl<|O (r_loadEl (cs:=[Value.int .i64 e6]) ti3 rfl rfl (.inr rfl) (hcb6 _ hs.imm) (v:=Value.int .i64 e6) rfl) rfl ?_
   obtain ⟨rv6,hrv6,hM⟩:=bindS hM
   obtain ⟨f7,cf7,ef7,cff7,okf7⟩:=id hRv2
   refine CV [Value.int .i64 e6] cf7 cff7 ef7 rfl (okf7 _ _ _ _ _ (Hle.refl _) hs.imm (show VRd (tInt .i64) false gg10 _ _ from ⟨[Value.int .i64 e6],rfl,rfl⟩) hrv6) rfl ?_
   rintro v8 wv6 ⟨gg13,hvv8,hegg13⟩
   have hlegg13:=hegg13.le hs.imm
   replace hs:=hs.call hegg13
   replace hlegg10:=hlegg10.trans hlegg13
   obtain ⟨cs12,rfl,hcs12⟩:=hvv8
   have hcs12:cs12=_:=hcs12; subst hcs12
   refine OW_nil ?_
   rcases condS hM with ⟨hc12,hM⟩|⟨hc12,hM⟩
   ·refine WP_true rfl hc12<|WP_seq<|WP_region<|O (r_move (v:=Value.int .i64 xv5) rfl) rfl<|O (r_assign (v:=Value.int .i64 xv5) rfl) rfl<|OW_nil<|WP_ret ?_
    obtain rfl:=Option.some.inj hM
    refine fun hr=>?_
    have hM:=congrArg some hr
    obtain rfl:=Option.some.inj hM
    have hM:=hKhx1
    obtain rfl:=Option.some.inj hM
    refine FL_nil hds ?_
    exact ⟨_,res1 Tryz.results129 (rv_tmp (v:=Value.int .i64 xv5) rfl),gg13,⟨[Value.int .i64 xv5],rfl,rfl⟩,hs.ext⟩
   ·refine WP_false rfl hc12<|WP_skip<|WP_region ?_
    obtain ⟨t6,ht6,hM⟩:=bindS hM
    refine O (r_addM rfl rfl ht6) rfl<|O (r_move (v:=Value.int .i64 t6) rfl) rfl<|OW_nil ?_
    obtain rfl:=Option.some.inj hM
    exact ⟨gg13,rfl,rfl,rfl,rfl,hds,hlegg10,hs⟩
  ·refine WP_false rfl hc11<|WP_exit ?_
   obtain rfl:=Option.some.inj hM
   refine fun hr=>?_
   have hM:=congrArg some hr
   obtain rfl:=Option.some.inj hM
   exact ⟨(),rfl,gg10,hds,hlegg10,hs⟩
 ·clear hs
  rintro E w ⟨_,rfl,gg7,hds,hlegg7,hs⟩
  have hM:=hKhx1
  dsimp only [onStep] at hM
  refine WP_seq<|WP_region<|O (r_assign (v:=Value.int .i64 (-1)) rfl) rfl<|OW_nil<|WP_ret ?_
  obtain rfl:=Option.some.inj hM
  refine FL_nil hds ?_
  exact ⟨_,res1 Tryz.results129 (rv_tmp (v:=Value.int .i64 (-1)) rfl),gg7,⟨[Value.int .i64 (-1)],rfl,rfl⟩,hs.ext⟩
set_option maxRecDepth 100000 in
theorem slices_ContainsFunc_int_int_ok {s1:(List Int)} {f1:(Int→Option Bool)} {r:Bool} (hM:M.slices_ContainsFunc_int_int s1 f1=some r) {g0:Hp} {w0:World} (hi:Imm g0 w0) {v1:Value} (hRv1:RdS (tInt .i64) g0 v1 s1) {v2:Value} (hRv2:FnRd1 Tryz.prog (VRd (tInt .i64) false) (VRd tBool false) v2 f1 g0) :
    CallsV Tryz.prog 114 #[v1,v2] w0 (fun v w'=>∃g',(VRd tBool false g' v r)∧Ext g0 w0 g' w'):=by
 unfold M.slices_ContainsFunc_int_int at hM
 have hs:=Sep.start hi
 refine calls_of_WP (args:=[v1,v2]) Tryz.func114 rfl Tryz.ntmps114 rfl ?_
 have hds:(argEnv [v1,v2]).ds=[]:=rfl
 refine WP_seq<|WP_region<|O (r_assign (v:=Value.bool false) rfl) rfl<|OW_nil<|WP_seq<|WP_region<|O (r_move (v:=v1) rfl) rfl<|O (r_move (v:=v2) rfl) rfl ?_
 obtain ⟨rv1,hrv1,hM⟩:=bindS hM
 refine C [v1,v2] cf129 rfl (slices_IndexFunc_int_int_ok hrv1 hs.imm hRv1 hRv2) rfl ?_
 rintro v3 wv1 ⟨gg1,hvv3,hegg1⟩
 have hlegg1:=hegg1.le hs.imm
 replace hs:=hs.call hegg1
 obtain ⟨cs1,rfl,hcs1⟩:=hvv3
 have hcs1:cs1=_:=hcs1; subst hcs1
 refine O (r_geq rfl rfl) rfl<|O (r_assign (v:=Value.bool (decide (0≤rv1))) rfl) rfl<|OW_nil<|WP_ret ?_
 obtain rfl:=Option.some.inj hM
 refine FL_nil hds ?_
 exact ⟨_,res1 Tryz.results114 (rv_tmp (v:=Value.bool (decide (0≤rv1))) rfl),gg1,⟨[Value.bool (decide (0≤rv1))],rfl,rfl⟩,hs.ext⟩
set_option maxRecDepth 100000 in
theorem nfa_Valid_2_ok {xv1:Int} {r:Bool} (hM:M.nfa_Valid_2 xv1=some r) {g0:Hp} {w0:World} (hi:Imm g0 w0) :
    CallsV Tryz.prog 115 #[Value.int .i64 xv1] w0 (fun v w'=>∃g',(VRd tBool false g' v r)∧Ext g0 w0 g' w'):=by
 unfold M.nfa_Valid_2 at hM
 have hs:=Sep.start hi
 refine calls_of_WP (args:=[Value.int .i64 xv1]) Tryz.func115 rfl Tryz.ntmps115 rfl ?_
 have hds:(argEnv [Value.int .i64 xv1]).ds=[]:=rfl
 refine WP_seq<|WP_region<|O (r_assign (v:=Value.bool false) rfl) rfl<|OW_nil<|WP_seq<|WP_region<|O (r_move (v:=Value.int .i64 xv1) rfl) rfl<|O (r_lss rfl rfl) rfl<|O (r_assign (v:=Value.bool (decide (xv1<(-1)))) rfl) rfl<|OW_nil<|WP_ret ?_
 obtain rfl:=Option.some.inj hM
 refine FL_nil hds ?_
 exact ⟨_,res1 Tryz.results115 (rv_tmp (v:=Value.bool (decide (xv1<(-1)))) rfl),g0,⟨[Value.bool (decide (xv1<(-1)))],rfl,rfl⟩,hs.ext⟩
set_option maxRecDepth 100000 in
theorem nfa_Valid_ok {nv1:T_NFA} {r:Bool} (hM:M.nfa_Valid nv1=some r) {g0:Hp} {w0:World} (hi:Imm g0 w0) {cs1:List Value} (hcs1:tT_NFA.rel g0 cs1 nv1) :
    CallsV Tryz.prog 89 #[Value.agg cs1.toArray] w0 (fun v w'=>∃g',(VRd tBool false g' v r)∧Ext g0 w0 g' w'):=by
 unfold M.nfa_Valid at hM
 obtain ⟨cs2,cs3,cs4,cs5,rfl,hcs2,hcs3,hcs4,hcs5⟩:=hcs1
 have hcs2:cs2=_:=hcs2; subst hcs2
 have hcs3:cs3=_:=hcs3; subst hcs3
 obtain ⟨v1,rfl,hRv1⟩:=hcs4
 obtain ⟨v2,rfl,hRv2⟩:=hcs5
 have hs:=Sep.start hi
 refine calls_of_WP (args:=[Value.agg (List.toArray (α:=Value) [Value.int .i64 nv1.States,Value.int .i64 nv1.Start,v1,v2])]) Tryz.func89 rfl Tryz.ntmps89 rfl ?_
 have hds:(argEnv [Value.agg (List.toArray (α:=Value) [Value.int .i64 nv1.States,Value.int .i64 nv1.Start,v1,v2])]).ds=[]:=rfl
 refine WP_seq<|WP_region<|OW_box (v:=Value.agg (List.toArray (α:=Value) [Value.int .i64 nv1.States,Value.int .i64 nv1.Start,v1,v2])) rfl hs (zs:=[Value.int .i64 nv1.States,Value.int .i64 nv1.Start,v1,v2]) rfl rfl ?_
 intro b1 wv1 hs
 refine O (r_assign (v:=Value.bool false) rfl) rfl<|OW_nil<|WP_seq<|WP_region<|O (r_makeFunc (vs:=[Value.pointer (some ⟨b1,0,none⟩)]) rfl) rfl<|O (r_assign (v:=Value.func (.func 113) #[] (List.toArray [Value.pointer (some ⟨b1,0,none⟩)])) rfl) rfl<|OW_nil<|WP_seq ?_
 obtain ⟨xv1,hx1,hKhx1⟩:=bindS hM
 refine WP_cut (fun E w=>∃(gg4:Hp),E 1=Value.pointer (some ⟨b1,0,none⟩)∧E 3=Value.func (.func 113) #[] (List.toArray [Value.pointer (some ⟨b1,0,none⟩)])∧E 29=Value.bool xv1∧E.ds=[]∧Hle g0 gg4∧Go.Lx.Sep g0 w0 gg4 w [Go.Lx.box b1 71 ([Value.int .i64 nv1.States,Value.int .i64 nv1.Start,v1,v2])]) ?_ ?_
 ·have hM:=hx1
  have hag0:=Hle.refl g0
  refine WP_region<|O (r_fieldAddr Tryz.underlying71 ti3 rfl rfl (by decide) rfl rfl) rfl<|O (r_load (v:=Value.int .i64 nv1.States) ti3 rfl (hs.cell (i:=0) (o:=0) rfl rfl)) rfl<|O (r_lss rfl rfl) rfl<|O (r_move (v:=Value.bool (decide (nv1.States<1))) rfl) rfl ?_
  rcases condS hM with ⟨hg4,hM⟩|⟨hg4,hM⟩
  ·refine OK rfl rfl rfl (by rw [hg4]; rfl) rfl<|OK rfl rfl rfl (by rw [hg4]; rfl) rfl<|OK rfl rfl rfl (by rw [hg4]; rfl) rfl<|O (r_pickT (v:=Value.bool true) rfl hg4 rfl) rfl<|O (r_move (v:=Value.bool true) rfl) rfl<|OK rfl rfl rfl rfl rfl<|OK rfl rfl rfl rfl rfl<|OK rfl rfl rfl rfl rfl<|OK rfl rfl rfl rfl rfl<|OK rfl rfl rfl rfl rfl<|O (r_pickT (v:=Value.bool true) rfl rfl rfl) rfl<|O (r_move (v:=Value.bool true) rfl) rfl<|OK rfl rfl rfl rfl rfl<|OK rfl rfl rfl rfl rfl<|OK rfl rfl rfl rfl rfl<|OK rfl rfl rfl rfl rfl<|OK rfl rfl rfl rfl rfl<|OK rfl rfl rfl rfl rfl<|O (r_pickT (v:=Value.bool true) rfl rfl rfl) rfl<|OW_nil ?_
   obtain rfl:=Option.some.inj hM
   exact ⟨g0,rfl,rfl,rfl,hds,(Hle.refl _),hs⟩
  ·refine OG rfl rfl rfl (by rw [hg4]; rfl) (r_fieldAddr Tryz.underlying71 ti3 rfl rfl (by decide) rfl rfl) rfl<|OG rfl rfl rfl (by rw [hg4]; rfl) (r_load (v:=Value.int .i64 nv1.States) ti3 rfl (hs.cell (i:=0) (o:=0) rfl rfl)) rfl<|OG rfl rfl rfl (by rw [hg4]; rfl) (r_gtr rfl rfl) rfl<|O (r_pickF (v:=Value.bool (decide (2000<nv1.States))) rfl hg4 rfl) rfl<|O (r_move (v:=Value.bool (decide (2000<nv1.States))) rfl) rfl ?_
   rcases condS hM with ⟨hg5,hM⟩|⟨hg5,hM⟩
   ·refine OK rfl rfl rfl (by rw [hg5]; rfl) rfl<|OK rfl rfl rfl (by rw [hg5]; rfl) rfl<|OK rfl rfl rfl (by rw [hg5]; rfl) rfl<|OK rfl rfl rfl (by rw [hg5]; rfl) rfl<|OK rfl rfl rfl (by rw [hg5]; rfl) rfl<|O (r_pickT (v:=Value.bool true) rfl hg5 rfl) rfl<|O (r_move (v:=Value.bool true) rfl) rfl<|OK rfl rfl rfl rfl rfl<|OK rfl rfl rfl rfl rfl<|OK rfl rfl rfl rfl rfl<|OK rfl rfl rfl rfl rfl<|OK rfl rfl rfl rfl rfl<|OK rfl rfl rfl rfl rfl<|O (r_pickT (v:=Value.bool true) rfl rfl rfl) rfl<|OW_nil ?_
    obtain rfl:=Option.some.inj hM
    exact ⟨g0,rfl,rfl,rfl,hds,(Hle.refl _),hs⟩
   ·refine OG rfl rfl rfl (by rw [hg5]; rfl) (r_move (v:=Value.func (.func 113) #[] (List.toArray [Value.pointer (some ⟨b1,0,none⟩)])) rfl) rfl<|OG rfl rfl rfl (by rw [hg5]; rfl) (r_fieldAddr Tryz.underlying71 ti3 rfl rfl (by decide) rfl rfl) rfl<|OG rfl rfl rfl (by rw [hg5]; rfl) (r_load (v:=Value.int .i64 nv1.Start) ti3 rfl (hs.cell (i:=0) (o:=1) rfl rfl)) rfl ?_
    have hsL2:=hs
    have hRv2L2:=hRv2
    have hag0L2:=hag0
    obtain ⟨gg5,hlegg5,hBgg5,hs⟩:=hs.relBox (i:=0) rfl
    replace hRv1:=hRv1.mono hlegg5
    replace hRv2:=hRv2.mono hlegg5
    replace hag0:=hag0.trans hlegg5
    obtain ⟨rv2,hrv2,hM⟩:=bindS hM
    refine CVG rfl rfl rfl (by rw [hg5]; rfl) [Value.int .i64 nv1.Start] [Value.pointer (some ⟨b1,0,none⟩)] cf113 rfl rfl (nfa_Valid_1_ok hrv2 hs.imm hBgg5 (⟨[Value.int .i64 nv1.States],[Value.int .i64 nv1.Start],[v1],[v2],rfl,rfl,rfl,⟨_,rfl,hRv1⟩,⟨_,rfl,hRv2⟩⟩)) rfl ?_
    rintro v4 wv3 ⟨gg6,hvv4,hegg6⟩
    obtain ⟨gg7,hlegg7,hs⟩:=hsL2.lent hegg6
    replace hRv2:=hRv2L2.mono hlegg7
    replace hag0:=hag0L2.trans hlegg7
    obtain ⟨cs7,rfl,hcs7⟩:=hvv4
    have hcs7:cs7=_:=hcs7; subst hcs7
    refine OG rfl rfl rfl (by rw [hg5]; rfl) (r_not rfl) rfl<|O (r_pickF (v:=Value.bool (!rv2)) rfl hg5 rfl) rfl<|O (r_move (v:=Value.bool (!rv2)) rfl) rfl ?_
    rcases condS hM with ⟨hg6,hM⟩|⟨hg6,hM⟩
    ·refine OK rfl rfl rfl (by rw [hg6]; rfl) rfl<|OK rfl rfl rfl (by rw [hg6]; rfl) rfl<|OK rfl rfl rfl (by rw [hg6]; rfl) rfl<|OK rfl rfl rfl (by rw [hg6]; rfl) rfl<|OK rfl rfl rfl (by rw [hg6]; rfl) rfl<|OK rfl rfl rfl (by rw [hg6]; rfl) rfl<|O (r_pickT (v:=Value.bool true) rfl hg6 rfl) rfl<|OW_nil ?_
     obtain rfl:=Option.some.inj hM
     exact ⟨gg7,rfl,rfl,rfl,hds,hag0,hs⟩
    ·refine OG rfl rfl rfl (by rw [hg6]; rfl) (r_fieldAddr Tryz.underlying71 ti34 rfl rfl (by decide) rfl rfl) rfl<|OG rfl rfl rfl (by rw [hg6]; rfl) (r_load (v:=v2) ti34 rfl (hs.cell (i:=0) (o:=3) rfl rfl)) rfl ?_
     obtain ⟨a2,ca2,hva2⟩:=hRv2.shape
     refine OG rfl rfl rfl (by rw [hg6]; rfl) (r_lenSl (v:=v2) Tryz.underlying34 rfl hva2) rfl<|OG rfl rfl rfl (by rw [hg6]; rfl) (r_fieldAddr Tryz.underlying71 ti3 rfl rfl (by decide) rfl rfl) rfl<|OG rfl rfl rfl (by rw [hg6]; rfl) (r_load (v:=Value.int .i64 nv1.States) ti3 rfl (hs.cell (i:=0) (o:=0) rfl rfl)) rfl<|OG rfl rfl rfl (by rw [hg6]; rfl) (r_neq rfl rfl) rfl<|O (r_pickF (v:=Value.bool ((nv1.Accept.length:Int) != nv1.States)) rfl hg6 rfl) rfl<|OW_nil ?_
     obtain rfl:=Option.some.inj hM
     exact ⟨gg7,rfl,rfl,rfl,hds,hag0,hs⟩
 ·clear hs
  rintro E w ⟨gg4,hE1,hE3,hE29,hds,hlegg4,hs⟩
  have hM:=hKhx1
  obtain ⟨E,rfl⟩:=open3 (E:=E) hE1 hE3 hE29
  replace hRv1:=hRv1.mono hlegg4
  replace hRv2:=hRv2.mono hlegg4
  rcases condS hM with ⟨hc1,hM⟩|⟨hc1,hM⟩
  ·refine WP_true rfl hc1<|WP_seq<|WP_region<|O (r_assign (v:=Value.bool false) rfl) rfl<|OW_nil<|WP_ret ?_
   obtain rfl:=Option.some.inj hM
   refine FL_nil hds ?_
   exact ⟨_,res1 Tryz.results89 (rv_tmp (v:=Value.bool false) rfl),gg4,⟨[Value.bool false],rfl,rfl⟩,hs.ext⟩
  ·refine WP_false rfl hc1<|WP_skip ?_
   obtain ⟨o3,hx5,hKhx5⟩:=stepS hM
   refine WP_cut (fun E w=>∃u9:Unit,o3=.next u9∧∃(gg50:Hp),E 1=Value.pointer (some ⟨b1,0,none⟩)∧E.ds=[]∧Hle gg4 gg50∧Go.Lx.Sep g0 w0 gg50 w [Go.Lx.box b1 71 ([Value.int .i64 nv1.States,Value.int .i64 nv1.Start,v1,v2])]) ?_ ?_
   ·have hM:=hx5
    have hagg4:=Hle.refl gg4
    refine WP_seq<|WP_region<|O (r_fieldAddr Tryz.underlying71 ti69 rfl rfl (by decide) rfl rfl) rfl<|O (r_load (v:=v1) ti69 rfl (hs.cell (i:=0) (o:=2) rfl rfl)) rfl ?_
    obtain ⟨a4,ca4,hva4⟩:=hRv1.shape
    refine O (r_lenSl (v:=v1) Tryz.underlying69 rfl hva4) rfl<|O (r_move (v:=Value.int .i64 0) rfl) rfl<|OW_nil<|WP_block<|WP_loop (fun (xv10:Int) E w=>∃(gg65:Hp),E 1=Value.pointer (some ⟨b1,0,none⟩)∧E 3=Value.func (.func 113) #[] (List.toArray [Value.pointer (some ⟨b1,0,none⟩)])∧E 31=v1∧E 32=Value.int .i64 (nv1.Arcs.length:Int)∧E 33=Value.int .i64 xv10∧E.ds=[]∧Hle gg4 gg65∧Go.Lx.Sep g0 w0 gg65 w [Go.Lx.box b1 71 ([Value.int .i64 nv1.States,Value.int .i64 nv1.Start,v1,v2])]) hM ⟨gg4,rfl,rfl,rfl,rfl,rfl,hds,(Hle.refl _),hs⟩ ?_
    clear hs hM
    rintro xv10 o2 E w hM ⟨gg65,hE1,hE3,hE31,hE32,hE33,hds,hlegg65,hs⟩
    obtain ⟨E,rfl⟩:=open5 (E:=E) hE1 hE3 hE31 hE32 hE33
    replace hRv1:=hRv1.mono hlegg65
    replace hRv2:=hRv2.mono hlegg65
    have hagg65:=Hle.refl gg65
    refine WP_seq<|WP_region<|O (r_lss rfl rfl) rfl<|OW_nil<|WP_seq ?_
    rcases condS hM with ⟨hc12,hM⟩|⟨hc12,hM⟩
    ·refine WP_true rfl hc12<|WP_skip<|WP_seq<|WP_block<|WP_seq<|WP_region ?_
     obtain ⟨e6,he6,hM⟩:=bindS hM
     obtain ⟨b12,ob12,cb12,hvb12,cs53,hcs53,hcb12⟩:=hRv1.at he6
     obtain ⟨cs54,cs55,cs56,cs57,rfl,hcs54,hcs55,hcs56,hcs57⟩:=hcs53
     have hcs54:cs54=_:=hcs54; subst hcs54
     have hcs55:cs55=_:=hcs55; subst hcs55
     have hcs56:cs56=_:=hcs56; subst hcs56
     have hcs57:cs57=_:=hcs57; subst hcs57
     refine O (r_idxSl Tryz.underlying69 ti95 (v:=v1) rfl hvb12 rfl (idxL_some he6).1 (idxL_some he6).2.1) rfl<|O (r_loadEl (cs:=([Value.int .i64 e6.From])++(([Value.int .i64 e6.To])++(([Value.bool e6.Epsilon])++(e6.Set.1.map (Value.int .u64))))) ti95 rfl (by simp [e6.Set.2]) (.inl rfl) (hcb12 _ hs.imm) (v:=Value.agg (List.toArray (α:=Value) (([Value.int .i64 e6.From])++(([Value.int .i64 e6.To])++(([Value.bool e6.Epsilon])++(e6.Set.1.map (Value.int .u64))))))) rfl) rfl<|OW_alloc ti95 hs (zs:=([Value.int .i64 0])++(([Value.int .i64 0])++(([Value.bool false])++((Vec.zero 4).1.map (Value.int .u64))))) rfl rfl ?_
     intro b13 wv34 hs
     refine OW_storeAll ti95 hs (i:=0) rfl rfl (v:=Value.agg (List.toArray (α:=Value) (([Value.int .i64 e6.From])++(([Value.int .i64 e6.To])++(([Value.bool e6.Epsilon])++(e6.Set.1.map (Value.int .u64))))))) rfl (vs:=([Value.int .i64 e6.From])++(([Value.int .i64 e6.To])++(([Value.bool e6.Epsilon])++(e6.Set.1.map (Value.int .u64))))) rfl (one_append (one_cons rfl one_nil) (one_append (one_cons rfl one_nil) (one_append (one_cons rfl one_nil) vec_one))) (by simp [e6.Set.2]) (by simp [e6.Set.2,(Vec.zero 4).2]) ?_
     intro wv35 hs
     refine OW_nil ?_
     obtain ⟨xv13,hx8,hKhx8⟩:=bindS hM
     refine WP_cut (fun E w=>∃(gg86:Hp),E 1=Value.pointer (some ⟨b1,0,none⟩)∧E 3=Value.func (.func 113) #[] (List.toArray [Value.pointer (some ⟨b1,0,none⟩)])∧E 31=v1∧E 32=Value.int .i64 (nv1.Arcs.length:Int)∧E 33=Value.int .i64 xv10∧E 58=Value.bool xv13∧E.ds=[]∧Hle gg65 gg86∧Go.Lx.Sep g0 w0 gg86 w [Go.Lx.box b1 71 ([Value.int .i64 nv1.States,Value.int .i64 nv1.Start,v1,v2])]) ?_ ?_
     ·have hM:=hx8
      refine WP_region<|O (r_move (v:=Value.func (.func 113) #[] (List.toArray [Value.pointer (some ⟨b1,0,none⟩)])) rfl) rfl<|O (r_fieldAddr Tryz.underlying95 ti3 rfl rfl (by decide) rfl rfl) rfl<|O (r_load (v:=Value.int .i64 e6.From) ti3 rfl (hs.cell (i:=0) (o:=0) rfl (by simp [e6.Set.2]))) rfl ?_
      have hsL25:=hs
      have hRv1L25:=hRv1
      have hRv2L25:=hRv2
      have hagg65L25:=hagg65
      obtain ⟨gg87,hlegg87,hBgg87,hs⟩:=hs.relBox (i:=1) rfl
      replace hRv1:=hRv1.mono hlegg87
      replace hRv2:=hRv2.mono hlegg87
      replace hagg65:=hagg65.trans hlegg87
      obtain ⟨rv25,hrv25,hM⟩:=bindS hM
      refine CV [Value.int .i64 e6.From] [Value.pointer (some ⟨b1,0,none⟩)] cf113 rfl rfl (nfa_Valid_1_ok hrv25 hs.imm hBgg87 (⟨[Value.int .i64 nv1.States],[Value.int .i64 nv1.Start],[v1],[v2],rfl,rfl,rfl,⟨_,rfl,hRv1⟩,⟨_,rfl,hRv2⟩⟩)) rfl ?_
      rintro v27 wv38 ⟨gg88,hvv27,hegg88⟩
      obtain ⟨gg89,hlegg89,hs⟩:=hsL25.lent hegg88
      replace hRv1:=hRv1L25.mono hlegg89
      replace hRv2:=hRv2L25.mono hlegg89
      replace hagg65:=hagg65L25.trans hlegg89
      obtain ⟨cs60,rfl,hcs60⟩:=hvv27
      have hcs60:cs60=_:=hcs60; subst hcs60
      refine O (r_not rfl) rfl<|O (r_move (v:=Value.bool (!rv25)) rfl) rfl ?_
      rcases condS hM with ⟨hg40,hM⟩|⟨hg40,hM⟩
      ·refine OK rfl rfl rfl (by rw [hg40]; rfl) rfl<|OK rfl rfl rfl (by rw [hg40]; rfl) rfl<|OK rfl rfl rfl (by rw [hg40]; rfl) rfl<|OK rfl rfl rfl (by rw [hg40]; rfl) rfl<|OK rfl rfl rfl (by rw [hg40]; rfl) rfl<|O (r_pickT (v:=Value.bool true) rfl hg40 rfl) rfl<|O (r_move (v:=Value.bool true) rfl) rfl<|OK rfl rfl rfl rfl rfl<|OK rfl rfl rfl rfl rfl<|OK rfl rfl rfl rfl rfl<|OKU rfl rfl rfl rfl<|OKU rfl rfl rfl rfl<|OKU rfl rfl rfl rfl<|OKU rfl rfl rfl rfl<|OK rfl rfl rfl rfl rfl<|O (r_pickT (v:=Value.bool true) rfl rfl rfl) rfl<|OW_nil ?_
       obtain rfl:=Option.some.inj hM
       exact ⟨gg89,rfl,rfl,rfl,rfl,rfl,rfl,hds,hagg65,(hs.sub (.cons _ (.cons_cons _ .slnil)))⟩
      ·refine OG rfl rfl rfl (by rw [hg40]; rfl) (r_move (v:=Value.func (.func 113) #[] (List.toArray [Value.pointer (some ⟨b1,0,none⟩)])) rfl) rfl<|OG rfl rfl rfl (by rw [hg40]; rfl) (r_fieldAddr Tryz.underlying95 ti3 rfl rfl (by decide) rfl rfl) rfl<|OG rfl rfl rfl (by rw [hg40]; rfl) (r_load (v:=Value.int .i64 e6.To) ti3 rfl (hs.cell (i:=0) (o:=1) rfl (by simp [e6.Set.2]))) rfl ?_
       have hsL26:=hs
       have hagg65L26:=hagg65
       obtain ⟨gg90,hlegg90,hBgg90,hs⟩:=hs.relBox (i:=1) rfl
       replace hRv1:=hRv1.mono hlegg90
       replace hRv2:=hRv2.mono hlegg90
       replace hagg65:=hagg65.trans hlegg90
       obtain ⟨rv26,hrv26,hM⟩:=bindS hM
       refine CVG rfl rfl rfl (by rw [hg40]; rfl) [Value.int .i64 e6.To] [Value.pointer (some ⟨b1,0,none⟩)] cf113 rfl rfl (nfa_Valid_1_ok hrv26 hs.imm hBgg90 (⟨[Value.int .i64 nv1.States],[Value.int .i64 nv1.Start],[v1],[v2],rfl,rfl,rfl,⟨_,rfl,hRv1⟩,⟨_,rfl,hRv2⟩⟩)) rfl ?_
       rintro v28 wv39 ⟨gg91,hvv28,hegg91⟩
       obtain ⟨gg92,hlegg92,hs⟩:=hsL26.lent hegg91
       replace hagg65:=hagg65L26.trans hlegg92
       obtain ⟨cs61,rfl,hcs61⟩:=hvv28
       have hcs61:cs61=_:=hcs61; subst hcs61
       refine OG rfl rfl rfl (by rw [hg40]; rfl) (r_not rfl) rfl<|O (r_pickF (v:=Value.bool (!rv26)) rfl hg40 rfl) rfl<|O (r_move (v:=Value.bool (!rv26)) rfl) rfl ?_
       rcases condS hM with ⟨hg41,hM⟩|⟨hg41,hM⟩
       ·refine OK rfl rfl rfl (by rw [hg41]; rfl) rfl<|OK rfl rfl rfl (by rw [hg41]; rfl) rfl<|OK rfl rfl rfl (by rw [hg41]; rfl) rfl<|OKU rfl rfl rfl rfl<|OKU rfl rfl rfl rfl<|OKU rfl rfl rfl rfl<|OKU rfl rfl rfl rfl<|OK rfl rfl rfl (by rw [hg41]; rfl) rfl<|O (r_pickT (v:=Value.bool true) rfl hg41 rfl) rfl<|OW_nil ?_
        obtain rfl:=Option.some.inj hM
        exact ⟨gg92,rfl,rfl,rfl,rfl,rfl,rfl,hds,hagg65,(hs.sub (.cons _ (.cons_cons _ .slnil)))⟩
       ·refine OG rfl rfl rfl (by rw [hg41]; rfl) (r_fieldAddr Tryz.underlying95 ti4 rfl rfl (by decide) rfl rfl) rfl<|OG rfl rfl rfl (by rw [hg41]; rfl) (r_load (v:=Value.bool e6.Epsilon) ti4 rfl (hs.cell (i:=0) (o:=2) rfl (by simp [e6.Set.2]))) rfl<|OG rfl rfl rfl (by rw [hg41]; rfl) (r_move (v:=Value.bool e6.Epsilon) rfl) rfl ?_
        rcases condS hM with ⟨hg42,hM⟩|⟨hg42,hM⟩
        ·refine OG rfl rfl rfl (by rw [hg42]; rfl) (r_fieldAddr Tryz.underlying95 ti50 rfl rfl (by decide) rfl rfl) rfl<|OG rfl rfl rfl (by rw [hg42]; rfl) (r_loadN (cs:=e6.Set.1.map (Value.int .u64)) ti50 rfl (by simp [e6.Set.2]) (hs.cellsAt (i:=0) (o:=3) rfl (by intro j u hj; exact sub_at (pre:=[Value.int .i64 e6.From,Value.int .i64 e6.To,Value.bool e6.Epsilon]) (ds:=e6.Set.1.map (Value.int .u64)) (post:=[]) rfl ((by simp)) hj))) rfl<|OG rfl rfl rfl (by rw [hg42]; rfl) (r_build (vs:=[]) (cs:=(Vec.zero 4).1.map (Value.int .u64)) rfl (by kernel_rfl)) rfl<|OG rfl rfl rfl (by rw [hg42]; rfl) (r_neqV Tryz.underlying50 Tryz.underlying48 ti48 rfl rfl eg50) rfl<|OG rfl rfl rfl (by rw [hg41]; rfl) (r_pickT (v:=Value.bool (e6.Set != (Vec.zero 4))) rfl hg42 rfl) rfl ?_
         refine O (r_pickF (v:=Value.bool (e6.Set != (Vec.zero 4))) rfl hg41 rfl) rfl<|OW_nil ?_
         obtain rfl:=Option.some.inj hM
         exact ⟨gg92,rfl,rfl,rfl,rfl,rfl,rfl,hds,hagg65,(hs.sub (.cons _ (.cons_cons _ .slnil)))⟩
        ·refine OK rfl rfl rfl (by rw [hg42]; rfl) rfl<|OK rfl rfl rfl (by rw [hg42]; rfl) rfl<|OK rfl rfl rfl (by rw [hg42]; rfl) rfl<|OK rfl rfl rfl (by rw [hg42]; rfl) rfl<|OG rfl rfl rfl (by rw [hg41]; rfl) (r_pickF (v:=Value.bool false) rfl hg42 rfl) rfl<|O (r_pickF (v:=Value.bool false) rfl hg41 rfl) rfl<|OW_nil ?_
         obtain rfl:=Option.some.inj hM
         exact ⟨gg92,rfl,rfl,rfl,rfl,rfl,rfl,hds,hagg65,(hs.sub (.cons _ (.cons_cons _ .slnil)))⟩
     ·clear hs
      rintro E w ⟨gg86,hE1,hE3,hE31,hE32,hE33,hE58,hds,hlegg86,hs⟩
      have hM:=hKhx8
      obtain ⟨E,rfl⟩:=open6 (E:=E) hE1 hE3 hE31 hE32 hE33 hE58
      replace hlegg65:=hlegg65.trans hlegg86
      rcases condS hM with ⟨hc13,hM⟩|⟨hc13,hM⟩
      ·refine WP_true rfl hc13<|WP_seq<|WP_region<|O (r_assign (v:=Value.bool false) rfl) rfl<|OW_nil<|WP_ret ?_
       obtain rfl:=Option.some.inj hM
       refine fun hr=>?_
       have hM:=congrArg some hr
       obtain rfl:=Option.some.inj hM
       have hM:=hKhx5
       obtain rfl:=Option.some.inj hM
       refine FL_nil hds ?_
       exact ⟨_,res1 Tryz.results89 (rv_tmp (v:=Value.bool false) rfl),gg86,⟨[Value.bool false],rfl,rfl⟩,hs.ext⟩
      ·refine WP_false rfl hc13<|WP_skip<|WP_region ?_
       obtain ⟨t6,ht6,hM⟩:=bindS hM
       refine O (r_addM rfl rfl ht6) rfl<|O (r_move (v:=Value.int .i64 t6) rfl) rfl<|OW_nil ?_
       obtain rfl:=Option.some.inj hM
       exact ⟨gg86,rfl,rfl,rfl,rfl,rfl,hds,hlegg65,hs⟩
    ·refine WP_false rfl hc12<|WP_exit ?_
     obtain rfl:=Option.some.inj hM
     refine fun hr=>?_
     have hM:=congrArg some hr
     obtain rfl:=Option.some.inj hM
     exact ⟨(),rfl,gg65,rfl,hds,hlegg65,hs⟩
   ·clear hs
    rintro E w ⟨_,rfl,gg50,hE1,hds,hlegg50,hs⟩
    have hM:=hKhx5
    dsimp only [onStep] at hM
    obtain ⟨E,rfl⟩:=open1 (E:=E) hE1
    replace hRv2:=hRv2.mono hlegg50
    refine WP_seq<|WP_region<|O (r_fieldAddr Tryz.underlying71 ti34 rfl rfl (by decide) rfl rfl) rfl<|O (r_load (v:=v2) ti34 rfl (hs.cell (i:=0) (o:=3) rfl rfl)) rfl ?_
    obtain ⟨rv27,hrv27,hM⟩:=bindS hM
    refine C [v2,Value.func (.func 115) #[] #[]] cf114 rfl (slices_ContainsFunc_int_int_ok hrv27 hs.imm hRv2 (show FnRd1 Tryz.prog (VRd (tInt .i64) false) (VRd tBool false) (Value.func (.func 115) #[] #[]) M.nfa_Valid_2 gg50 from ⟨115,[],rfl,cf115,fun g9 w9 a90 x90 r9 hle9 hi9 ha90 hM9=>by obtain ⟨c90,rfl,ha90⟩:=ha90; have ha90:c90=_:=ha90; subst ha90; exact nfa_Valid_2_ok hM9 hi9 ⟩)) rfl ?_
    rintro v29 wv40 ⟨gg93,hvv29,hegg93⟩
    have hlegg93:=hegg93.le hs.imm
    replace hs:=hs.call hegg93
    obtain ⟨cs62,rfl,hcs62⟩:=hvv29
    have hcs62:cs62=_:=hcs62; subst hcs62
    refine O (r_not rfl) rfl<|O (r_assign (v:=Value.bool (!rv27)) rfl) rfl<|OW_nil<|WP_ret ?_
    obtain rfl:=Option.some.inj hM
    refine FL_nil hds ?_
    exact ⟨_,res1 Tryz.results89 (rv_tmp (v:=Value.bool (!rv27)) rfl),gg93,⟨[Value.bool (!rv27)],rfl,rfl⟩,hs.ext⟩
set_option maxRecDepth 100000 in
theorem byteset_Has_ok {s1:(Vec 4)} {b1:Int} {r:Bool} (hM:M.byteset_Has s1 b1=some r) {g0:Hp} {w0:World} (hi:Imm g0 w0) :
    CallsV Tryz.prog 116 #[encV .u64 s1,Value.int .u8 b1] w0 (fun v w'=>∃g',(VRd tBool false g' v r)∧Ext g0 w0 g' w'):=by
 unfold M.byteset_Has at hM
 have hs:=Sep.start hi
 refine calls_of_WP (args:=[encV .u64 s1,Value.int .u8 b1]) Tryz.func116 rfl Tryz.ntmps116 rfl ?_
 have hds:(argEnv [encV .u64 s1,Value.int .u8 b1]).ds=[]:=rfl
 refine WP_seq<|WP_region<|OW_box (v:=encV .u64 s1) rfl hs (zs:=s1.1.map (Value.int .u64)) rfl rfl ?_
 intro b2 wv1 hs
 refine O (r_assign (v:=Value.bool false) rfl) rfl<|OW_nil<|WP_seq<|WP_region<|O (r_move (v:=Value.int .u8 b1) rfl) rfl ?_
 obtain ⟨t1,ht1,hM⟩:=bindS hM
 refine O (r_quoM rfl rfl ht1) rfl ?_
 obtain ⟨c1,hc1,hM⟩:=bindS hM
 refine O (r_idxArr Tryz.underlying50 ti48 rfl rfl (vget_some hc1).1 (vget_some hc1).2.1) rfl<|O (r_load ti48 rfl (hs.cell (i:=0) rfl (vget_cell hc1))) rfl<|O (r_move (v:=Value.int .u8 b1) rfl) rfl ?_
 obtain ⟨t2,ht2,hM⟩:=bindS hM
 refine O (r_remM rfl rfl ht2) rfl ?_
 obtain ⟨t3,ht3,hM⟩:=bindS hM
 refine O (r_shrM rfl rfl ht3) rfl<|O (r_and rfl rfl) rfl<|O (r_eql rfl rfl) rfl<|O (r_assign (v:=Value.bool ((bits .and .u64 t3 1) == 1)) rfl) rfl<|OW_nil<|WP_ret ?_
 obtain rfl:=Option.some.inj hM
 refine FL_nil hds ?_
 exact ⟨_,res1 Tryz.results116 (rv_tmp (v:=Value.bool ((bits .and .u64 t3 1) == 1)) rfl),g0,⟨[Value.bool ((bits .and .u64 t3 1) == 1)],rfl,rfl⟩,hs.ext⟩
set_option maxRecDepth 100000 in
theorem byteset_Classes_ok {l1:(List (Vec 4))} {r:(List Int)} (hM:M.byteset_Classes l1=some r) {g0:Hp} {w0:World} (hi:Imm g0 w0) {v1:Value} (hRv1:RdS (tVec 4 .u64) g0 v1 l1) :
    CallsV Tryz.prog 90 #[v1] w0 (fun v w'=>∃g' y0,(RowRel (tInt .i64) g' y0 r)∧Sep g0 w0 g' w' [.row v 3 (tInt .i64).sz r.length y0]):=by
 unfold M.byteset_Classes at hM
 have hs:=Sep.start hi
 refine calls_of_WP (args:=[v1]) Tryz.func90 rfl Tryz.ntmps90 rfl ?_
 have hds:(argEnv [v1]).ds=[]:=rfl
 refine WP_seq<|WP_region<|O (r_assign (v:=Value.slice none 0 0) rfl) rfl<|OW_nil<|WP_seq<|WP_region ?_
 obtain ⟨out1,hout1,hM⟩:=bindS hM
 refine OW_make (τ:=(tInt .i64)) (zc:=[Value.int .i64 0]) (zx:=0) Tryz.underlying34 ti3 rfl rfl (by decide) hs rfl rfl hout1 rfl ?_
 intro v2 wv1 xs1 hrelxs1 hs
 refine O (r_assign (v:=v2) rfl) rfl<|OW_nil<|WP_seq<|WP_region<|OW_makeMap hs rfl ?_
 intro b1 wv2 hs
 have hmb1:MRel encS (Value.int .i64) #[] 0 []:=mrel_nil
 refine O (r_assign (v:=Value.map (some b1)) rfl) rfl<|OW_nil ?_
 obtain ⟨out14,hx52,hKhx52⟩:=bindS hM
 refine WP_cut (fun E w=>∃(gg157:Hp) (v171:Value) (xs176:List Value),E 3=v171∧E.ds=[]∧Hle g0 gg157∧RowRel (tInt .i64) gg157 xs176 out14∧Go.Lx.Sep g0 w0 gg157 w [.row v171 3 (tInt .i64).sz out14.length xs176]) ?_ ?_
 ·have hM:=hx52
  have hag0:=Hle.refl g0
  refine WP_seq<|WP_region<|O (r_move (v:=v2) rfl) rfl ?_
  obtain ⟨a20,ca20,hva20⟩:=hs.rowShape (i:=1) rfl
  refine O (r_lenSl (v:=v2) Tryz.underlying34 rfl hva20) rfl<|O (r_move (v:=Value.int .i64 0) rfl) rfl<|OW_nil<|WP_block<|WP_loop (fun (st9:(List Int)×(List (Str×Int))×Int) E w=>match st9 with|(out19,m17,xv53)=>∃(gg210:Hp) (es33:Array MapEntry) (ck33:Nat) (v228:Value) (xs235:List Value),E 0=v1∧E 3=v228∧E 4=Value.map (some b1)∧E 14=Value.int .i64 (out1.length:Int)∧E 15=Value.int .i64 xv53∧E.ds=[]∧Hle g0 gg210∧MRel encS (Value.int .i64) es33 ck33 m17∧RowRel (tInt .i64) gg210 xs235 out19∧Go.Lx.Sep g0 w0 gg210 w [.obj b1 (.map es33 ck33),.row v228 3 (tInt .i64).sz out19.length xs235]) hM ⟨g0,#[],0,v2,xs1,rfl,rfl,rfl,rfl,rfl,hds,(Hle.refl _),hmb1,hrelxs1,hs⟩ ?_
  clear hs hM
  rintro ⟨out19,m17,xv53⟩ o22 E w hM ⟨gg210,es33,ck33,v228,xs235,hE0,hE3,hE4,hE14,hE15,hds,hlegg210,hmes33,hrelxs235,hs⟩
  obtain ⟨E,rfl⟩:=open5 (E:=E) hE0 hE3 hE4 hE14 hE15
  replace hRv1:=hRv1.mono hlegg210
  have hagg210:=Hle.refl gg210
  refine WP_seq<|WP_region<|O (r_lss rfl rfl) rfl<|OW_nil<|WP_seq ?_
  rcases condS hM with ⟨hc206,hM⟩|⟨hc206,hM⟩
  ·refine WP_true rfl hc206<|WP_skip ?_
   obtain ⟨⟨out25,m23⟩,hx95,hKhx95⟩:=bindS hM
   refine WP_cut (fun E w=>∃(gg288:Hp) (es45:Array MapEntry) (ck45:Nat) (v312:Value) (xs322:List Value),E 0=v1∧E 3=v312∧E 4=Value.map (some b1)∧E 14=Value.int .i64 (out1.length:Int)∧E 15=Value.int .i64 xv53∧E.ds=[]∧Hle gg210 gg288∧MRel encS (Value.int .i64) es45 ck45 m23∧RowRel (tInt .i64) gg288 xs322 out25∧Go.Lx.Sep g0 w0 gg288 w [.obj b1 (.map es45 ck45),.row v312 3 (tInt .i64).sz out25.length xs322]) ?_ ?_
   ·have hM:=hx95
    refine WP_block<|WP_seq<|WP_region<|O (r_move (v:=Value.int .i64 xv53) rfl) rfl<|O (r_assign (v:=Value.int .i64 xv53) rfl) rfl<|OW_nil<|WP_seq<|WP_region<|O (r_move (v:=v1) rfl) rfl ?_
    obtain ⟨a36,ca36,hva36⟩:=hRv1.shape
    refine O (r_lenSl (v:=v1) Tryz.underlying85 rfl hva36) rfl ?_
    obtain ⟨key287,hkey287,hM⟩:=bindS hM
    refine OW_make (τ:=(tInt .u8)) (zc:=[Value.int .u8 0]) (zx:=0) Tryz.underlying98 ti5 rfl rfl (by decide) hs rfl rfl hkey287 rfl ?_
    intro v313 wv575 xs323 hrelxs323 hs
    refine O (r_assign (v:=v313) rfl) rfl<|OW_nil ?_
    obtain ⟨key300,hx99,hKhx99⟩:=bindS hM
    refine WP_cut (fun E w=>∃(gg301:Hp) (v327:Value) (xs337:List Value) (v326:Value) (xs336:List Value),E 0=v1∧E 3=v326∧E 4=Value.map (some b1)∧E 5=Value.int .i64 xv53∧E 6=v327∧E 14=Value.int .i64 (out1.length:Int)∧E 15=Value.int .i64 xv53∧E.ds=[]∧Hle gg210 gg301∧RowRel (tInt .u8) gg301 xs337 key300∧RowRel (tInt .i64) gg301 xs336 out19∧Go.Lx.Sep g0 w0 gg301 w [.row v327 5 (tInt .u8).sz key300.length xs337,.obj b1 (.map es33 ck33),.row v326 3 (tInt .i64).sz out19.length xs336]) ?_ ?_
    ·have hM:=hx99
     refine WP_seq<|WP_region<|O (r_move (v:=v1) rfl) rfl ?_
     obtain ⟨a38,ca38,hva38⟩:=hRv1.shape
     refine O (r_lenSl (v:=v1) Tryz.underlying85 rfl hva38) rfl<|O (r_move (v:=Value.int .i64 0) rfl) rfl<|OW_nil<|WP_block<|WP_loop (fun (st9:(List Int)×Int) E w=>match st9 with|(key305,xv77)=>∃(gg306:Hp) (v332:Value) (xs342:List Value),E 0=v1∧E 3=v228∧E 4=Value.map (some b1)∧E 5=Value.int .i64 xv53∧E 6=v332∧E 14=Value.int .i64 (out1.length:Int)∧E 15=Value.int .i64 xv53∧E 21=v1∧E 22=Value.int .i64 (l1.length:Int)∧E 23=Value.int .i64 xv77∧E.ds=[]∧Hle gg210 gg306∧RowRel (tInt .u8) gg306 xs342 key305∧Go.Lx.Sep g0 w0 gg306 w [.row v332 5 (tInt .u8).sz key305.length xs342,.obj b1 (.map es33 ck33),.row v228 3 (tInt .i64).sz out19.length xs235]) hM ⟨gg210,v313,xs323,rfl,rfl,rfl,rfl,rfl,rfl,rfl,rfl,rfl,rfl,hds,(Hle.refl _),hrelxs323,hs⟩ ?_
     clear hs hM
     rintro ⟨key305,xv77⟩ o26 E w hM ⟨gg306,v332,xs342,hE0,hE3,hE4,hE5,hE6,hE14,hE15,hE21,hE22,hE23,hds,hlegg306,hrelxs342,hs⟩
     obtain ⟨E,rfl⟩:=open8 (E:=E) hE0 hE3 hE4 hE5 hE6 hE14 hE15 hE21
     obtain ⟨E,rfl⟩:=open2 (E:=E) hE22 hE23
     replace hRv1:=hRv1.mono hlegg306
     replace hrelxs235:=hrelxs235.mono hlegg306
     have hagg306:=Hle.refl gg306
     refine WP_seq<|WP_region<|O (r_lss rfl rfl) rfl<|OW_nil<|WP_seq ?_
     rcases condS hM with ⟨hc242,hM⟩|⟨hc242,hM⟩
     ·refine WP_true rfl hc242<|WP_skip ?_
      obtain ⟨key311,hx102,hKhx102⟩:=bindS hM
      refine WP_cut (fun E w=>∃(gg312:Hp) (v338:Value) (xs348:List Value),E 0=v1∧E 3=v228∧E 4=Value.map (some b1)∧E 5=Value.int .i64 xv53∧E 6=v338∧E 14=Value.int .i64 (out1.length:Int)∧E 15=Value.int .i64 xv53∧E 21=v1∧E 22=Value.int .i64 (l1.length:Int)∧E 23=Value.int .i64 xv77∧E.ds=[]∧Hle gg306 gg312∧RowRel (tInt .u8) gg312 xs348 key311∧Go.Lx.Sep g0 w0 gg312 w [.row v338 5 (tInt .u8).sz key311.length xs348,.obj b1 (.map es33 ck33),.row v228 3 (tInt .i64).sz out19.length xs235]) ?_ ?_
      ·have hM:=hx102
       refine WP_block<|WP_seq<|WP_region<|O (r_move (v:=Value.int .i64 xv77) rfl) rfl ?_
       obtain ⟨e144,he144,hM⟩:=bindS hM
       obtain ⟨b442,ob442,cb442,hvb442,cs287,hcs287,hcb442⟩:=hRv1.at he144
       have hcs287:cs287=_:=hcs287; subst hcs287
       refine O (r_idxSl Tryz.underlying85 ti50 (v:=v1) rfl hvb442 rfl (idxL_some he144).1 (idxL_some he144).2.1) rfl<|O (r_loadEl (cs:=e144.1.map (Value.int .u64)) ti50 rfl (by simp [e144.2]) (.inl rfl) (hcb442 _ hs.imm) (v:=encV .u64 e144) rfl) rfl<|OW_alloc ti50 hs (zs:=(Vec.zero 4).1.map (Value.int .u64)) rfl rfl ?_
       intro b443 wv620 hs
       refine O (r_assign (v:=Value.int .i64 xv77) rfl) rfl<|OW_storeAll ti50 hs (i:=0) rfl rfl (v:=encV .u64 e144) rfl (vs:=e144.1.map (Value.int .u64)) rfl vec_one (by simp [e144.2]) (by simp [e144.2,(Vec.zero 4).2]) ?_
       intro wv621 hs
       refine OW_nil<|WP_seq<|WP_region<|O (r_loadN (cs:=e144.1.map (Value.int .u64)) ti50 rfl (by simp [e144.2]) (hs.cells (i:=0) rfl)) rfl<|O (r_move (v:=Value.int .i64 xv53) rfl) rfl<|O (r_conv Tryz.underlying3 Tryz.underlying5 rfl) rfl ?_
       obtain ⟨rv144,hrv144,hM⟩:=bindS hM
       refine C [encV .u64 e144,Value.int .u8 (IntKind.u8.wrap xv53)] cf116 rfl (byteset_Has_ok hrv144 hs.imm) rfl ?_
       rintro v339 wv622 ⟨gg313,hvv339,hegg313⟩
       have hlegg313:=hegg313.le hs.imm
       replace hs:=hs.call hegg313
       replace hrelxs342:=hrelxs342.mono hlegg313
       replace hagg306:=hagg306.trans hlegg313
       obtain ⟨cs288,rfl,hcs288⟩:=hvv339
       have hcs288:cs288=_:=hcs288; subst hcs288
       refine OW_nil ?_
       rcases condS hM with ⟨hc244,hM⟩|⟨hc244,hM⟩
       ·refine WP_true rfl hc244<|WP_region<|O (r_move (v:=v332) rfl) rfl<|O (r_move (v:=Value.int .i64 xv77) rfl) rfl ?_
        obtain ⟨key312,hkey312,hM⟩:=bindS hM
        obtain ⟨b444,cb444,hvb444,wv623,xs349,hstb444,hrelb444,hsb444⟩:=hs.rowPut (i:=1) rfl hrelxs342 hkey312 (cs:=[Value.int .u8 1]) rfl
        refine O (r_idxSl Tryz.underlying98 ti5 (v:=v332) rfl hvb444 rfl (setL_some hkey312).1 (setL_some hkey312).2.1) rfl<|O0 (r_store ti5 rfl (v:=Value.int .u8 1) rfl rfl hstb444) ?_
        have hs:=hsb444
        refine OW_nil ?_
        obtain rfl:=Option.some.inj hM
        exact ⟨gg313,v332,xs349,rfl,rfl,rfl,rfl,rfl,rfl,rfl,rfl,rfl,rfl,hds,hagg306,hrelb444,(hs.sub (.cons _ (.cons_cons _ (.cons_cons _ (.cons_cons _ .slnil)))))⟩
       ·refine WP_false rfl hc244<|WP_skip ?_
        obtain rfl:=Option.some.inj hM
        exact ⟨gg313,v332,xs342,rfl,rfl,rfl,rfl,rfl,rfl,rfl,rfl,rfl,rfl,hds,hagg306,hrelxs342,(hs.sub (.cons _ (.cons_cons _ (.cons_cons _ (.cons_cons _ .slnil)))))⟩
      ·clear hs
       rintro E w ⟨gg312,v338,xs348,hE0,hE3,hE4,hE5,hE6,hE14,hE15,hE21,hE22,hE23,hds,hlegg312,hrelxs348,hs⟩
       have hM:=hKhx102
       obtain ⟨E,rfl⟩:=open8 (E:=E) hE0 hE3 hE4 hE5 hE6 hE14 hE15 hE21
       obtain ⟨E,rfl⟩:=open2 (E:=E) hE22 hE23
       replace hlegg306:=hlegg306.trans hlegg312
       refine WP_region ?_
       obtain ⟨t77,ht77,hM⟩:=bindS hM
       refine O (r_addM rfl rfl ht77) rfl<|O (r_move (v:=Value.int .i64 t77) rfl) rfl<|OW_nil ?_
       obtain rfl:=Option.some.inj hM
       exact ⟨gg312,v338,xs348,rfl,rfl,rfl,rfl,rfl,rfl,rfl,rfl,rfl,rfl,hds,hlegg306,hrelxs348,hs⟩
     ·refine WP_false rfl hc242<|WP_exit ?_
      obtain rfl:=Option.some.inj hM
      refine fun hr=>?_
      have hM:=congrArg some hr
      obtain rfl:=Option.some.inj hM
      exact ⟨gg306,v332,xs342,v228,xs235,rfl,rfl,rfl,rfl,rfl,rfl,rfl,hds,hlegg306,hrelxs342,hrelxs235,hs⟩
    ·clear hs
     rintro E w ⟨gg301,v327,xs337,v326,xs336,hE0,hE3,hE4,hE5,hE6,hE14,hE15,hds,hlegg301,hrelxs337,hrelxs336,hs⟩
     have hM:=hKhx99
     obtain ⟨E,rfl⟩:=open7 (E:=E) hE0 hE3 hE4 hE5 hE6 hE14 hE15
     replace hagg210:=hagg210.trans hlegg301
     refine WP_seq<|WP_region<|O (r_move (v:=Value.map (some b1)) rfl) rfl<|O (r_move (v:=v327) rfl) rfl<|O (r_toStr (l:=key300) Tryz.underlying98 Tryz.underlying5 Tryz.underlying9 (v:=v327) rfl (hs.rowSrc (i:=0) rfl) hrelxs337) rfl<|O (r_lookup (z:=0) (kk:=(toStr key300)) Tryz.underlying137 ti3 (keyLaw_str Tryz.underlying9) hs (i:=1) rfl hmes33 rfl rfl) rfl<|O (r_move (v:=Value.tuple #[Value.int .i64 ((mget m17 (toStr key300)).getD 0),Value.bool ((mget m17 (toStr key300)).isSome)]) rfl) rfl<|O (r_extract (vs:=[Value.int .i64 ((mget m17 (toStr key300)).getD 0),Value.bool ((mget m17 (toStr key300)).isSome)]) (v:=Value.int .i64 ((mget m17 (toStr key300)).getD 0)) rfl rfl) rfl ?_
     refine O (r_extract (vs:=[Value.int .i64 ((mget m17 (toStr key300)).getD 0),Value.bool ((mget m17 (toStr key300)).isSome)]) (v:=Value.bool ((mget m17 (toStr key300)).isSome)) rfl rfl) rfl<|O (r_assign (v:=Value.int .i64 ((mget m17 (toStr key300)).getD 0)) rfl) rfl<|O (r_assign (v:=Value.bool ((mget m17 (toStr key300)).isSome)) rfl) rfl<|OW_nil ?_
     obtain ⟨⟨m24,nv12⟩,hx103,hKhx103⟩:=bindS hM
     refine WP_cut (fun E w=>∃(es47:Array MapEntry) (ck47:Nat),E 0=v1∧E 3=v326∧E 4=Value.map (some b1)∧E 5=Value.int .i64 xv53∧E 9=Value.int .i64 nv12∧E 14=Value.int .i64 (out1.length:Int)∧E 15=Value.int .i64 xv53∧E.ds=[]∧MRel encS (Value.int .i64) es47 ck47 m24∧Go.Lx.Sep g0 w0 gg301 w [.obj b1 (.map es47 ck47),.row v326 3 (tInt .i64).sz out19.length xs336]) ?_ ?_
     ·have hM:=hx103
      have hagg301:=Hle.refl gg301
      refine WP_seq<|WP_region<|O (r_move (v:=Value.bool ((mget m17 (toStr key300)).isSome)) rfl) rfl<|O (r_not rfl) rfl<|OW_nil ?_
      rcases condS hM with ⟨hc246,hM⟩|⟨hc246,hM⟩
      ·refine WP_true rfl hc246<|WP_seq<|WP_region<|O (r_move (v:=Value.map (some b1)) rfl) rfl<|O (r_lenMap Tryz.underlying137 hs (i:=1) rfl hmes33 rfl) rfl<|O (r_assign (v:=Value.int .i64 (m17.length:Int)) rfl) rfl<|OW_nil<|WP_region<|O (r_move (v:=Value.map (some b1)) rfl) rfl<|O (r_move (v:=v327) rfl) rfl<|O (r_toStr (l:=key300) Tryz.underlying98 Tryz.underlying5 Tryz.underlying9 (v:=v327) rfl (hs.rowSrc (i:=0) rfl) hrelxs337) rfl<|O (r_move (v:=Value.int .i64 (m17.length:Int)) rfl) rfl<|OW_mapSet (kk:=(toStr key300)) (vv:=(m17.length:Int)) Tryz.underlying137 (keyLaw_str Tryz.underlying9) hs (i:=1) rfl hmes33 rfl rfl rfl ?_
       intro es48 ck48 wv625 hmes48 hs
       refine OW_nil ?_
       simp only [Option.some.injEq,Prod.mk.injEq] at hM
       obtain ⟨rfl,rfl⟩:=hM
       exact ⟨es48,ck48,rfl,rfl,rfl,rfl,rfl,rfl,rfl,hds,hmes48,(hs.sub (.cons _ (.cons_cons _ (.cons_cons _ .slnil))))⟩
      ·refine WP_false rfl hc246<|WP_skip ?_
       simp only [Option.some.injEq,Prod.mk.injEq] at hM
       obtain ⟨rfl,rfl⟩:=hM
       exact ⟨es33,ck33,rfl,rfl,rfl,rfl,rfl,rfl,rfl,hds,hmes33,(hs.sub (.cons _ (.cons_cons _ (.cons_cons _ .slnil))))⟩
     ·clear hs
      rintro E w ⟨es47,ck47,hE0,hE3,hE4,hE5,hE9,hE14,hE15,hds,hmes47,hs⟩
      have hM:=hKhx103
      obtain ⟨E,rfl⟩:=open7 (E:=E) hE0 hE3 hE4 hE5 hE9 hE14 hE15
      refine WP_region<|O (r_move (v:=v326) rfl) rfl<|O (r_move (v:=Value.int .i64 xv53) rfl) rfl<|O (r_move (v:=Value.int .i64 nv12) rfl) rfl ?_
      obtain ⟨out26,hout26,hM⟩:=bindS hM
      obtain ⟨b445,cb445,hvb445,wv626,xs350,hstb445,hrelb445,hsb445⟩:=hs.rowPut (i:=1) rfl hrelxs336 hout26 (cs:=[Value.int .i64 nv12]) rfl
      refine O (r_idxSl Tryz.underlying34 ti3 (v:=v326) rfl hvb445 rfl (setL_some hout26).1 (setL_some hout26).2.1) rfl<|O0 (r_store ti3 rfl (v:=Value.int .i64 nv12) rfl rfl hstb445) ?_
      have hs:=hsb445
      refine OW_nil ?_
      simp only [Option.some.injEq,Prod.mk.injEq] at hM
      obtain ⟨rfl,rfl⟩:=hM
      exact ⟨gg301,es47,ck47,v326,xs350,rfl,rfl,rfl,rfl,rfl,hds,hagg210,hmes47,hrelb445,hs⟩
   ·clear hs
    rintro E w ⟨gg288,es45,ck45,v312,xs322,hE0,hE3,hE4,hE14,hE15,hds,hlegg288,hmes45,hrelxs322,hs⟩
    have hM:=hKhx95
    obtain ⟨E,rfl⟩:=open5 (E:=E) hE0 hE3 hE4 hE14 hE15
    replace hlegg210:=hlegg210.trans hlegg288
    refine WP_region ?_
    obtain ⟨t78,ht78,hM⟩:=bindS hM
    refine O (r_addM rfl rfl ht78) rfl<|O (r_move (v:=Value.int .i64 t78) rfl) rfl<|OW_nil ?_
    obtain rfl:=Option.some.inj hM
    exact ⟨gg288,es45,ck45,v312,xs322,rfl,rfl,rfl,rfl,rfl,hds,hlegg210,hmes45,hrelxs322,hs⟩
  ·refine WP_false rfl hc206<|WP_exit ?_
   obtain rfl:=Option.some.inj hM
   refine fun hr=>?_
   have hM:=congrArg some hr
   obtain rfl:=Option.some.inj hM
   exact ⟨gg210,v228,xs235,rfl,hds,hlegg210,hrelxs235,(hs.sub (.cons _ (.cons_cons _ .slnil)))⟩
 ·clear hs
  rintro E w ⟨gg157,v171,xs176,hE3,hds,hlegg157,hrelxs176,hs⟩
  have hM:=hKhx52
  obtain ⟨E,rfl⟩:=open1 (E:=E) hE3
  refine WP_seq<|WP_region<|O (r_move (v:=v171) rfl) rfl<|O (r_assign (v:=v171) rfl) rfl<|OW_nil<|WP_ret ?_
  obtain rfl:=Option.some.inj hM
  refine FL_nil hds ?_
  exact ⟨_,res1 Tryz.results90 (rv_tmp (v:=v171) rfl),gg157,xs176,hrelxs176,hs⟩
set_option maxRecDepth 100000 in
theorem dfa_sample_ok {classv1:(List Int)} {r:(List Int)} (hM:M.dfa_sample classv1=some r) {g0:Hp} {w0:World} (hi:Imm g0 w0) {v1:Value} (hRv1:RdS (tInt .i64) g0 v1 classv1) :
    CallsV Tryz.prog 91 #[v1] w0 (fun v w'=>∃g' y0,(RowRel (tInt .u8) g' y0 r)∧Sep g0 w0 g' w' [.row v 5 (tInt .u8).sz r.length y0]):=by
 unfold M.dfa_sample at hM
 have hs:=Sep.start hi
 refine calls_of_WP (args:=[v1]) Tryz.func91 rfl Tryz.ntmps91 rfl ?_
 have hds:(argEnv [v1]).ds=[]:=rfl
 refine WP_seq<|WP_region<|O (r_assign (v:=Value.slice none 0 0) rfl) rfl<|OW_nil<|WP_seq<|WP_region<|O (r_assign (v:=Value.slice none 0 0) rfl) rfl<|OW_nil ?_
 obtain ⟨xv7,hx4,hKhx4⟩:=bindS hM
 refine WP_cut (fun E w=>∃(v20:Value) (xs21:List Value),E 3=v20∧E.ds=[]∧RowRel (tInt .u8) g0 xs21 xv7∧Go.Lx.Sep g0 w0 g0 w [.row v20 5 (tInt .u8).sz xv7.length xs21]) ?_ ?_
 ·have hM:=hx4
  have hag0:=Hle.refl g0
  refine WP_seq<|WP_region<|O (r_move (v:=v1) rfl) rfl ?_
  obtain ⟨a6,ca6,hva6⟩:=hRv1.shape
  refine O (r_lenSl (v:=v1) Tryz.underlying34 rfl hva6) rfl<|O (r_move (v:=Value.int .i64 0) rfl) rfl<|OW_nil<|WP_block ?_
  have hs:=hs.nilRow 5 (tInt .u8).sz
  refine WP_loop (fun (st9:(List Int)×Int) E w=>match st9 with|(xv10,xv11)=>∃(v27:Value) (xs30:List Value),E 3=v27∧E 6=v1∧E 7=Value.int .i64 (classv1.length:Int)∧E 8=Value.int .i64 xv11∧E.ds=[]∧RowRel (tInt .u8) g0 xs30 xv10∧Go.Lx.Sep g0 w0 g0 w [.row v27 5 (tInt .u8).sz xv10.length xs30]) hM ⟨(Value.slice none 0 0),[],rfl,rfl,rfl,rfl,hds,RowRel.nil,hs⟩ ?_
  clear hs hM
  rintro ⟨xv10,xv11⟩ o2 E w hM ⟨v27,xs30,hE3,hE6,hE7,hE8,hds,hrelxs30,hs⟩
  obtain ⟨E,rfl⟩:=open4 (E:=E) hE3 hE6 hE7 hE8
  refine WP_seq<|WP_region<|O (r_lss rfl rfl) rfl<|OW_nil<|WP_seq ?_
  rcases condS hM with ⟨hc16,hM⟩|⟨hc16,hM⟩
  ·refine WP_true rfl hc16<|WP_skip ?_
   obtain ⟨l11,hx7,hKhx7⟩:=bindS hM
   refine WP_cut (fun E w=>∃(v36:Value) (xs39:List Value),E 3=v36∧E 6=v1∧E 7=Value.int .i64 (classv1.length:Int)∧E 8=Value.int .i64 xv11∧E.ds=[]∧RowRel (tInt .u8) g0 xs39 l11∧Go.Lx.Sep g0 w0 g0 w [.row v36 5 (tInt .u8).sz l11.length xs39]) ?_ ?_
   ·have hM:=hx7
    refine WP_block<|WP_seq<|WP_region<|O (r_move (v:=Value.int .i64 xv11) rfl) rfl ?_
    obtain ⟨e12,he12,hM⟩:=bindS hM
    obtain ⟨b12,ob12,cb12,hvb12,cs12,hcs12,hcb12⟩:=hRv1.at he12
    have hcs12:cs12=_:=hcs12; subst hcs12
    refine O (r_idxSl Tryz.underlying34 ti3 (v:=v1) rfl hvb12 rfl (idxL_some he12).1 (idxL_some he12).2.1) rfl<|O (r_loadEl (cs:=[Value.int .i64 e12]) ti3 rfl rfl (.inr rfl) (hcb12 _ hs.imm) (v:=Value.int .i64 e12) rfl) rfl<|O (r_assign (v:=Value.int .i64 xv11) rfl) rfl<|O (r_assign (v:=Value.int .i64 e12) rfl) rfl<|OW_nil<|WP_seq<|WP_region<|O (r_move (v:=Value.int .i64 e12) rfl) rfl<|O (r_move (v:=v27) rfl) rfl ?_
    obtain ⟨a10,ca10,hva10⟩:=hs.rowShape (i:=0) rfl
    refine O (r_lenSl (v:=v27) Tryz.underlying98 rfl hva10) rfl<|O (r_eql rfl rfl) rfl<|OW_nil ?_
    rcases condS hM with ⟨hc18,hM⟩|⟨hc18,hM⟩
    ·refine WP_true rfl hc18<|WP_region<|O (r_move (v:=v27) rfl) rfl<|O (r_move (v:=Value.int .i64 xv11) rfl) rfl<|O (r_conv Tryz.underlying3 Tryz.underlying5 rfl) rfl<|OW_lit (τ:=(tInt .u8)) [Value.int .u8 (IntKind.u8.wrap xv11)] [(IntKind.u8.wrap xv11)] Tryz.underlying98 ti5 (by decide) hs rfl rfl rfl ⟨rfl,trivial⟩ rfl ?_
     intro v37 wv23 xs40 hrelxs40 hs
     obtain ⟨l12,hl12,hM⟩:=bindS hM
     refine OW_append Tryz.underlying98 ti5 rfl (by decide) (by decide) hs (i:=1) rfl hrelxs30 (v:=v27) rfl (u:=v37) rfl (hs.rowSrc (i:=0) rfl) hrelxs40 hl12 rfl ?_
     intro v38 wv24 xs41 hrelxs41 hs
     refine O (r_assign (v:=v38) rfl) rfl<|OW_nil ?_
     obtain rfl:=Option.some.inj hM
     exact ⟨v38,xs41,rfl,rfl,rfl,rfl,hds,hrelxs41,(hs.sub (.cons _ (.cons_cons _ .slnil)))⟩
    ·refine WP_false rfl hc18<|WP_skip ?_
     obtain rfl:=Option.some.inj hM
     exact ⟨v27,xs30,rfl,rfl,rfl,rfl,hds,hrelxs30,hs⟩
   ·clear hs
    rintro E w ⟨v36,xs39,hE3,hE6,hE7,hE8,hds,hrelxs39,hs⟩
    have hM:=hKhx7
    obtain ⟨E,rfl⟩:=open4 (E:=E) hE3 hE6 hE7 hE8
    refine WP_region ?_
    obtain ⟨t6,ht6,hM⟩:=bindS hM
    refine O (r_addM rfl rfl ht6) rfl<|O (r_move (v:=Value.int .i64 t6) rfl) rfl<|OW_nil ?_
    obtain rfl:=Option.some.inj hM
    exact ⟨v36,xs39,rfl,rfl,rfl,rfl,hds,hrelxs39,hs⟩
  ·refine WP_false rfl hc16<|WP_exit ?_
   obtain rfl:=Option.some.inj hM
   refine fun hr=>?_
   have hM:=congrArg some hr
   obtain rfl:=Option.some.inj hM
   exact ⟨v27,xs30,rfl,hds,hrelxs30,hs⟩
 ·clear hs
  rintro E w ⟨v20,xs21,hE3,hds,hrelxs21,hs⟩
  have hM:=hKhx4
  obtain ⟨E,rfl⟩:=open1 (E:=E) hE3
  refine WP_seq<|WP_region<|O (r_move (v:=v20) rfl) rfl<|O (r_assign (v:=v20) rfl) rfl<|OW_nil<|WP_ret ?_
  obtain rfl:=Option.some.inj hM
  refine FL_nil hds ?_
  exact ⟨_,res1 Tryz.results91 (rv_tmp (v:=v20) rfl),g0,xs21,hrelxs21,hs⟩
set_option maxRecDepth 100000 in
theorem nfa_Closure_1_ok {s1:Int} {c1:T_NFA} {c2:(List Bool)} {c3:(List Int)} {r:(List Bool)×(List Int)} (hM:M.nfa_Closure_1 s1 c1 c2 c3=some r) {g0:Hp} {w0:World} {gi:Hp} {wi:World} {Lt:List Res} {b1:Nat} {b2:Nat} {b3:Nat} {v1:Value} {v2:Value} {v3:Value} {xs1:List Value} {v4:Value} {xs2:List Value} (hs:Sep g0 w0 gi wi (Go.Lx.box b1 71 ([Value.int .i64 c1.States,Value.int .i64 c1.Start,v1,v2])::Go.Lx.box b2 65 ([v3])::.row v3 4 tBool.sz c2.length xs1::Go.Lx.box b3 34 ([v4])::.row v4 3 (tInt .i64).sz c3.length xs2::Lt)) (hRv1:RdS tT_NFAArc gi v1 c1.Arcs) (hRv2:RdS (tInt .i64) gi v2 c1.Accept) (hrelxs1:RowRel tBool gi xs1 c2) (hrelxs2:RowRel (tInt .i64) gi xs2 c3) :
    CallsV Tryz.prog 117 #[Value.int .i64 s1,Value.pointer (some ⟨b1,0,none⟩),Value.pointer (some ⟨b2,0,none⟩),Value.pointer (some ⟨b3,0,none⟩)] wi (fun v w'=>∃g' v7 xs6 v8 xs7,(True)∧Hle gi g'∧RowRel tBool g' xs6 r.1∧RowRel (tInt .i64) g' xs7 r.2∧Sep g0 w0 g' w' (Go.Lx.box b1 71 ([Value.int .i64 c1.States,Value.int .i64 c1.Start,v1,v2])::Go.Lx.box b2 65 ([v7])::.row v7 4 tBool.sz r.1.length xs6::Go.Lx.box b3 34 ([v8])::.row v8 3 (tInt .i64).sz r.2.length xs7::Lt)):=by
 unfold M.nfa_Closure_1 at hM
 have hagi:=Hle.refl gi
 refine calls_of_WP (args:=[Value.int .i64 s1,Value.pointer (some ⟨b1,0,none⟩),Value.pointer (some ⟨b2,0,none⟩),Value.pointer (some ⟨b3,0,none⟩)]) Tryz.func117 rfl Tryz.ntmps117 rfl ?_
 have hds:(argEnv [Value.int .i64 s1,Value.pointer (some ⟨b1,0,none⟩),Value.pointer (some ⟨b2,0,none⟩),Value.pointer (some ⟨b3,0,none⟩)]).ds=[]:=rfl
 obtain ⟨xv1,hx1,hKhx1⟩:=bindS hM
 refine WP_cut (fun E w=>E 0=Value.int .i64 s1∧E 2=Value.pointer (some ⟨b2,0,none⟩)∧E 3=Value.pointer (some ⟨b3,0,none⟩)∧E 19=Value.bool xv1∧E.ds=[]∧Go.Lx.Sep g0 w0 gi w (Go.Lx.box b1 71 ([Value.int .i64 c1.States,Value.int .i64 c1.Start,v1,v2])::Go.Lx.box b2 65 ([v3])::.row v3 4 tBool.sz c2.length xs1::Go.Lx.box b3 34 ([v4])::.row v4 3 (tInt .i64).sz c3.length xs2::Lt)) ?_ ?_
 ·have hM:=hx1
  refine WP_region<|O (r_move (v:=Value.int .i64 s1) rfl) rfl<|O (r_geq rfl rfl) rfl<|O (r_move (v:=Value.bool (decide (0≤s1))) rfl) rfl ?_
  rcases condS hM with ⟨hg3,hM⟩|⟨hg3,hM⟩
  ·refine OG rfl rfl rfl (by rw [hg3]; rfl) (r_move (v:=Value.int .i64 s1) rfl) rfl<|OG rfl rfl rfl (by rw [hg3]; rfl) (r_fieldAddr Tryz.underlying71 ti3 rfl rfl (by decide) rfl rfl) rfl<|OG rfl rfl rfl (by rw [hg3]; rfl) (r_load (v:=Value.int .i64 c1.States) ti3 rfl (hs.cell (i:=0) (o:=0) rfl rfl)) rfl<|OG rfl rfl rfl (by rw [hg3]; rfl) (r_lss rfl rfl) rfl<|O (r_pickT (v:=Value.bool (decide (s1<c1.States))) rfl hg3 rfl) rfl<|O (r_move (v:=Value.bool (decide (s1<c1.States))) rfl) rfl ?_
   rcases condS hM with ⟨hg4,hM⟩|⟨hg4,hM⟩
   ·refine OG rfl rfl rfl (by rw [hg4]; rfl) (r_load (v:=v3) ti65 rfl (hs.cell (i:=1) (o:=0) rfl rfl)) rfl<|OG rfl rfl rfl (by rw [hg4]; rfl) (r_move (v:=Value.int .i64 s1) rfl) rfl ?_
    obtain ⟨e2,he2,hM⟩:=bindS hM
    obtain ⟨b5,cb5,hvb5,cs2,hcs2,hcb5⟩:=hs.rowEl (i:=2) rfl hrelxs1 he2
    have hcs2:cs2=_:=hcs2; subst hcs2
    refine OG rfl rfl rfl (by rw [hg4]; rfl) (r_idxSl Tryz.underlying65 ti4 (v:=v3) rfl hvb5 rfl (idxL_some he2).1 (idxL_some he2).2.1) rfl<|OG rfl rfl rfl (by rw [hg4]; rfl) (r_loadEl (cs:=[Value.bool e2]) ti4 rfl rfl (.inr rfl) (hcb5 _ (hs.at (i:=2) rfl)) (v:=Value.bool e2) rfl) rfl<|OG rfl rfl rfl (by rw [hg4]; rfl) (r_not rfl) rfl<|O (r_pickT (v:=Value.bool (!e2)) rfl hg4 rfl) rfl<|OW_nil ?_
    obtain rfl:=Option.some.inj hM
    exact ⟨rfl,rfl,rfl,rfl,hds,hs⟩
   ·refine OK rfl rfl rfl (by rw [hg4]; rfl) rfl<|OK rfl rfl rfl (by rw [hg4]; rfl) rfl<|OK rfl rfl rfl (by rw [hg4]; rfl) rfl<|OK rfl rfl rfl (by rw [hg4]; rfl) rfl<|OK rfl rfl rfl (by rw [hg4]; rfl) rfl<|O (r_pickF (v:=Value.bool false) rfl hg4 rfl) rfl<|OW_nil ?_
    obtain rfl:=Option.some.inj hM
    exact ⟨rfl,rfl,rfl,rfl,hds,hs⟩
  ·refine OK rfl rfl rfl (by rw [hg3]; rfl) rfl<|OK rfl rfl rfl (by rw [hg3]; rfl) rfl<|OK rfl rfl rfl (by rw [hg3]; rfl) rfl<|OK rfl rfl rfl (by rw [hg3]; rfl) rfl<|O (r_pickF (v:=Value.bool false) rfl hg3 rfl) rfl<|O (r_move (v:=Value.bool false) rfl) rfl<|OK rfl rfl rfl rfl rfl<|OK rfl rfl rfl rfl rfl<|OK rfl rfl rfl rfl rfl<|OK rfl rfl rfl rfl rfl<|OK rfl rfl rfl rfl rfl<|O (r_pickF (v:=Value.bool false) rfl rfl rfl) rfl<|OW_nil ?_
   obtain rfl:=Option.some.inj hM
   exact ⟨rfl,rfl,rfl,rfl,hds,hs⟩
 ·clear hs
  rintro E w ⟨hE0,hE2,hE3,hE19,hds,hs⟩
  have hM:=hKhx1
  obtain ⟨E,rfl⟩:=open4 (E:=E) hE0 hE2 hE3 hE19
  rcases condS hM with ⟨hc1,hM⟩|⟨hc1,hM⟩
  ·refine WP_true rfl hc1<|WP_seq<|WP_region<|O (r_load (v:=v3) ti65 rfl (hs.cell (i:=1) (o:=0) rfl rfl)) rfl<|O (r_move (v:=Value.int .i64 s1) rfl) rfl ?_
   obtain ⟨y1,hy1,hM⟩:=bindS hM
   obtain ⟨b6,cb6,hvb6,wv1,xs3,hstb6,hrelb6,hsb6⟩:=hs.rowPut (i:=2) rfl hrelxs1 hy1 (cs:=[Value.bool true]) rfl
   refine O (r_idxSl Tryz.underlying65 ti4 (v:=v3) rfl hvb6 rfl (setL_some hy1).1 (setL_some hy1).2.1) rfl<|O0 (r_store ti4 rfl (v:=Value.bool true) rfl rfl hstb6) ?_
   have hs:=hsb6
   refine OW_nil<|WP_region<|O (r_load (v:=v4) ti34 rfl (hs.cell (i:=3) (o:=0) rfl rfl)) rfl<|O (r_move (v:=Value.int .i64 s1) rfl) rfl<|OW_lit (τ:=(tInt .i64)) [Value.int .i64 s1] [s1] Tryz.underlying34 ti3 (by decide) hs rfl rfl rfl ⟨rfl,trivial⟩ rfl ?_
   intro v5 wv2 xs4 hrelxs4 hs
   obtain ⟨y2,hy2,hM⟩:=bindS hM
   refine OW_append Tryz.underlying34 ti3 rfl (by decide) (by decide) hs (i:=5) rfl hrelxs2 (v:=v4) rfl (u:=v5) rfl (hs.rowSrc (i:=0) rfl) hrelxs4 hy2 rfl ?_
   intro v6 wv3 xs5 hrelxs5 hs
   refine OW_store1 ti34 hs (i:=4) rfl rfl (v:=v6) rfl (by obtain ⟨_,_,h9⟩:=hs.rowShape (i:=5) rfl; rw [h9]; rfl) (o:=0) (Nat.zero_lt_succ _) ?_
   intro wv4 hs
   refine OW_nil ?_
   obtain rfl:=Option.some.inj hM
   refine FL_nil hds ?_
   exact ⟨_,res_none Tryz.results117,gi,v3,xs3,v6,xs5,trivial,(Hle.refl _),hrelb6,hrelxs5,(Sep.selT (A:=[.row v5 3 (tInt .i64).sz [s1].length xs4,Go.Lx.box b1 71 ([Value.int .i64 c1.States,Value.int .i64 c1.Start,v1,v2]),Go.Lx.box b2 65 ([v3]),.row v3 4 tBool.sz y1.length xs3,Go.Lx.box b3 34 ([v6]),.row v6 3 (tInt .i64).sz y2.length xs5]) (A':=[Go.Lx.box b1 71 ([Value.int .i64 c1.States,Value.int .i64 c1.Start,v1,v2]),Go.Lx.box b2 65 ([v3]),.row v3 4 tBool.sz y1.length xs3,Go.Lx.box b3 34 ([v6]),.row v6 3 (tInt .i64).sz y2.length xs5]) (L:=Lt) hs [1,2,3,4,5] (by decide) rfl)⟩
  ·refine WP_false rfl hc1<|WP_skip ?_
   obtain rfl:=Option.some.inj hM
   refine FL_nil hds ?_
   exact ⟨_,res_none Tryz.results117,gi,v3,xs1,v4,xs2,trivial,(Hle.refl _),hrelxs1,hrelxs2,hs⟩
set_option maxRecDepth 100000 in
theorem nfa_sorted_ok {is1:(List Bool)} {r:(List Int)} (hM:M.nfa_sorted is1=some r) {g0:Hp} {w0:World} (hi:Imm g0 w0) {v1:Value} (hRv1:RdS tBool g0 v1 is1) :
    CallsV Tryz.prog 118 #[v1] w0 (fun v w'=>∃g' y0,(RowRel (tInt .i64) g' y0 r)∧Sep g0 w0 g' w' [.row v 3 (tInt .i64).sz r.length y0]):=by
 unfold M.nfa_sorted at hM
 have hs:=Sep.start hi
 refine calls_of_WP (args:=[v1]) Tryz.func118 rfl Tryz.ntmps118 rfl ?_
 have hds:(argEnv [v1]).ds=[]:=rfl
 refine WP_seq<|WP_region<|O (r_assign (v:=Value.slice none 0 0) rfl) rfl<|OW_nil<|WP_seq<|WP_region<|O (r_assign (v:=Value.slice none 0 0) rfl) rfl<|OW_nil ?_
 obtain ⟨xv7,hx4,hKhx4⟩:=bindS hM
 refine WP_cut (fun E w=>∃(v20:Value) (xs21:List Value),E 3=v20∧E.ds=[]∧RowRel (tInt .i64) g0 xs21 xv7∧Go.Lx.Sep g0 w0 g0 w [.row v20 3 (tInt .i64).sz xv7.length xs21]) ?_ ?_
 ·have hM:=hx4
  have hag0:=Hle.refl g0
  refine WP_seq<|WP_region<|O (r_move (v:=v1) rfl) rfl ?_
  obtain ⟨a2,ca2,hva2⟩:=hRv1.shape
  refine O (r_lenSl (v:=v1) Tryz.underlying65 rfl hva2) rfl<|O (r_move (v:=Value.int .i64 0) rfl) rfl<|OW_nil<|WP_block ?_
  have hs:=hs.nilRow 3 (tInt .i64).sz
  refine WP_loop (fun (st9:(List Int)×Int) E w=>match st9 with|(xv10,xv11)=>∃(v27:Value) (xs30:List Value),E 3=v27∧E 6=v1∧E 7=Value.int .i64 (is1.length:Int)∧E 8=Value.int .i64 xv11∧E.ds=[]∧RowRel (tInt .i64) g0 xs30 xv10∧Go.Lx.Sep g0 w0 g0 w [.row v27 3 (tInt .i64).sz xv10.length xs30]) hM ⟨(Value.slice none 0 0),[],rfl,rfl,rfl,rfl,hds,RowRel.nil,hs⟩ ?_
  clear hs hM
  rintro ⟨xv10,xv11⟩ o2 E w hM ⟨v27,xs30,hE3,hE6,hE7,hE8,hds,hrelxs30,hs⟩
  obtain ⟨E,rfl⟩:=open4 (E:=E) hE3 hE6 hE7 hE8
  refine WP_seq<|WP_region<|O (r_lss rfl rfl) rfl<|OW_nil<|WP_seq ?_
  rcases condS hM with ⟨hc16,hM⟩|⟨hc16,hM⟩
  ·refine WP_true rfl hc16<|WP_skip ?_
   obtain ⟨l11,hx7,hKhx7⟩:=bindS hM
   refine WP_cut (fun E w=>∃(v36:Value) (xs39:List Value),E 3=v36∧E 6=v1∧E 7=Value.int .i64 (is1.length:Int)∧E 8=Value.int .i64 xv11∧E.ds=[]∧RowRel (tInt .i64) g0 xs39 l11∧Go.Lx.Sep g0 w0 g0 w [.row v36 3 (tInt .i64).sz l11.length xs39]) ?_ ?_
   ·have hM:=hx7
    refine WP_block<|WP_seq<|WP_region<|O (r_move (v:=Value.int .i64 xv11) rfl) rfl ?_
    obtain ⟨e12,he12,hM⟩:=bindS hM
    obtain ⟨b12,ob12,cb12,hvb12,cs12,hcs12,hcb12⟩:=hRv1.at he12
    have hcs12:cs12=_:=hcs12; subst hcs12
    refine O (r_idxSl Tryz.underlying65 ti4 (v:=v1) rfl hvb12 rfl (idxL_some he12).1 (idxL_some he12).2.1) rfl<|O (r_loadEl (cs:=[Value.bool e12]) ti4 rfl rfl (.inr rfl) (hcb12 _ hs.imm) (v:=Value.bool e12) rfl) rfl<|O (r_assign (v:=Value.int .i64 xv11) rfl) rfl<|O (r_assign (v:=Value.bool e12) rfl) rfl<|OW_nil<|WP_seq<|WP_region<|O (r_move (v:=Value.bool e12) rfl) rfl<|OW_nil ?_
    rcases condS hM with ⟨hc18,hM⟩|⟨hc18,hM⟩
    ·refine WP_true rfl hc18<|WP_region<|O (r_move (v:=v27) rfl) rfl<|O (r_move (v:=Value.int .i64 xv11) rfl) rfl<|OW_lit (τ:=(tInt .i64)) [Value.int .i64 xv11] [xv11] Tryz.underlying34 ti3 (by decide) hs rfl rfl rfl ⟨rfl,trivial⟩ rfl ?_
     intro v37 wv23 xs40 hrelxs40 hs
     obtain ⟨l12,hl12,hM⟩:=bindS hM
     refine OW_append Tryz.underlying34 ti3 rfl (by decide) (by decide) hs (i:=1) rfl hrelxs30 (v:=v27) rfl (u:=v37) rfl (hs.rowSrc (i:=0) rfl) hrelxs40 hl12 rfl ?_
     intro v38 wv24 xs41 hrelxs41 hs
     refine O (r_assign (v:=v38) rfl) rfl<|OW_nil ?_
     obtain rfl:=Option.some.inj hM
     exact ⟨v38,xs41,rfl,rfl,rfl,rfl,hds,hrelxs41,(hs.sub (.cons _ (.cons_cons _ .slnil)))⟩
    ·refine WP_false rfl hc18<|WP_skip ?_
     obtain rfl:=Option.some.inj hM
     exact ⟨v27,xs30,rfl,rfl,rfl,rfl,hds,hrelxs30,hs⟩
   ·clear hs
    rintro E w ⟨v36,xs39,hE3,hE6,hE7,hE8,hds,hrelxs39,hs⟩
    have hM:=hKhx7
    obtain ⟨E,rfl⟩:=open4 (E:=E) hE3 hE6 hE7 hE8
    refine WP_region ?_
    obtain ⟨t6,ht6,hM⟩:=bindS hM
    refine O (r_addM rfl rfl ht6) rfl<|O (r_move (v:=Value.int .i64 t6) rfl) rfl<|OW_nil ?_
    obtain rfl:=Option.some.inj hM
    exact ⟨v36,xs39,rfl,rfl,rfl,rfl,hds,hrelxs39,hs⟩
  ·refine WP_false rfl hc16<|WP_exit ?_
   obtain rfl:=Option.some.inj hM
   refine fun hr=>?_
   have hM:=congrArg some hr
   obtain rfl:=Option.some.inj hM
   exact ⟨v27,xs30,rfl,hds,hrelxs30,hs⟩
 ·clear hs
  rintro E w ⟨v20,xs21,hE3,hds,hrelxs21,hs⟩
  have hM:=hKhx4
  obtain ⟨E,rfl⟩:=open1 (E:=E) hE3
  refine WP_seq<|WP_region<|O (r_move (v:=v20) rfl) rfl<|O (r_assign (v:=v20) rfl) rfl<|OW_nil<|WP_ret ?_
  obtain rfl:=Option.some.inj hM
  refine FL_nil hds ?_
  exact ⟨_,res1 Tryz.results118 (rv_tmp (v:=v20) rfl),g0,xs21,hrelxs21,hs⟩
end Go.Proofs.YtggpjcdhflcfmaaGreatDoor
