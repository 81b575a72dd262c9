/- Part 12 of what the law leans on: my own layer, printed walks, plain facts. -/
import Derived.Test.YtggpjcdhflcfmaaGreatDoorKLexspecTerms11
set_option linter.unusedVariables false
set_option linter.unusedSimpArgs false
namespace Go.Proofs.YtggpjcdhflcfmaaGreatDoor
open Go.Lx Go.RowKit
set_option maxRecDepth 100000 in
theorem lexspec_compile_ok {p1:T_LexSpec} {r:T_DFA×Int×Int} (hM:M.lexspec_compile p1=some r) {g0:Hp} {w0:World} (hi:Imm g0 w0) {cs1:List Value} (hcs1:tT_LexSpec.rel g0 cs1 p1) (hG0:GBox 0 (M.layoutTerms.map encS) g0) :
    CallsV Tryz.prog 26 #[Value.agg cs1.toArray] w0 (fun v w'=>∃g',(∃v1 v2 v3,v=.tuple #[v1,v2,v3]∧VRd tT_DFA true g' v1 r.1∧VRd (tInt .i64) false g' v2 r.2.1∧VRd (tInt .i64) false g' v3 r.2.2)∧Ext g0 w0 g' w'):=by
 unfold M.lexspec_compile at hM
 obtain ⟨cs2,cs3,cs4,cs5,rfl,hcs2,hcs3,hcs4,hcs5⟩:=hcs1
 obtain ⟨v1,rfl,hRv1⟩:=hcs2
 have hcs3:cs3=_:=hcs3; subst hcs3
 have hcs4:cs4=_:=hcs4; subst hcs4
 have hcs5:cs5=_:=hcs5; subst hcs5
 have hs:=Sep.start hi
 refine calls_of_WP (args:=[Value.agg (List.toArray (α:=Value) [v1,Value.bool p1.Layout,Value.int .i64 p1.Misspelling,Value.int .i64 p1.Unclosed])]) Tryz.func26 rfl Tryz.ntmps26 rfl ?_
 have hds:(argEnv [Value.agg (List.toArray (α:=Value) [v1,Value.bool p1.Layout,Value.int .i64 p1.Misspelling,Value.int .i64 p1.Unclosed])]).ds=[]:=rfl
 refine WP_seq<|WP_region<|OW_box (v:=Value.agg (List.toArray (α:=Value) [v1,Value.bool p1.Layout,Value.int .i64 p1.Misspelling,Value.int .i64 p1.Unclosed])) rfl hs (zs:=[v1,Value.bool p1.Layout,Value.int .i64 p1.Misspelling,Value.int .i64 p1.Unclosed]) rfl rfl ?_
 intro b1 wv1 hs
 refine OW_alloc ti37 hs (zs:=[Value.slice none 0 0,Value.slice none 0 0,Value.slice none 0 0]) rfl rfl ?_
 intro b2 wv2 hs
 refine O (r_assign (v:=Value.int .i64 0) rfl) rfl<|O (r_assign (v:=Value.int .i64 0) rfl) rfl<|OW_nil<|WP_seq ?_
 obtain ⟨xv1,hx1,hKhx1⟩:=bindS hM
 refine WP_cut (fun E w=>E 1=Value.pointer (some ⟨b1,0,none⟩)∧E 2=Value.pointer (some ⟨b2,0,none⟩)∧E 25=Value.bool xv1∧E.ds=[]∧Go.Lx.Sep g0 w0 g0 w [Go.Lx.box b2 37 ([Value.slice none 0 0,Value.slice none 0 0,Value.slice none 0 0]),Go.Lx.box b1 24 ([v1,Value.bool p1.Layout,Value.int .i64 p1.Misspelling,Value.int .i64 p1.Unclosed])]) ?_ ?_
 ·have hM:=hx1
  have hag0:=Hle.refl g0
  refine WP_region<|O (r_fieldAddr Tryz.underlying24 ti22 rfl rfl (by decide) rfl rfl) rfl<|O (r_load (v:=v1) ti22 rfl (hs.cell (i:=1) (o:=0) rfl rfl)) rfl ?_
  obtain ⟨a3,ca3,hva3⟩:=hRv1.shape
  refine O (r_lenSl (v:=v1) Tryz.underlying22 rfl hva3) rfl<|O (r_lss rfl rfl) rfl<|O (r_move (v:=Value.bool (decide ((p1.Defs.length:Int)<1))) rfl) rfl ?_
  rcases condS hM with ⟨hg2,hM⟩|⟨hg2,hM⟩
  ·refine OK rfl rfl rfl (by rw [hg2]; rfl) rfl<|OK rfl rfl rfl (by rw [hg2]; rfl) rfl<|OK rfl rfl rfl (by rw [hg2]; rfl) rfl<|OK rfl rfl rfl (by rw [hg2]; rfl) rfl<|O (r_pickT (v:=Value.bool true) rfl hg2 rfl) rfl<|OW_nil ?_
   obtain rfl:=Option.some.inj hM
   exact ⟨rfl,rfl,rfl,hds,hs⟩
  ·refine OG rfl rfl rfl (by rw [hg2]; rfl) (r_fieldAddr Tryz.underlying24 ti22 rfl rfl (by decide) rfl rfl) rfl<|OG rfl rfl rfl (by rw [hg2]; rfl) (r_load (v:=v1) ti22 rfl (hs.cell (i:=1) (o:=0) rfl rfl)) rfl ?_
   obtain ⟨a4,ca4,hva4⟩:=hRv1.shape
   refine OG rfl rfl rfl (by rw [hg2]; rfl) (r_lenSl (v:=v1) Tryz.underlying22 rfl hva4) rfl<|OG rfl rfl rfl (by rw [hg2]; rfl) (r_gtr rfl rfl) rfl<|O (r_pickF (v:=Value.bool (decide (40<(p1.Defs.length:Int)))) rfl hg2 rfl) rfl<|OW_nil ?_
   obtain rfl:=Option.some.inj hM
   exact ⟨rfl,rfl,rfl,hds,hs⟩
 ·clear hs
  rintro E w ⟨hE1,hE2,hE25,hds,hs⟩
  have hM:=hKhx1
  obtain ⟨E,rfl⟩:=open3 (E:=E) hE1 hE2 hE25
  rcases condS hM with ⟨hc1,hM⟩|⟨hc1,hM⟩
  ·refine WP_true rfl hc1<|WP_seq<|WP_region<|O (r_build (vs:=[]) (cs:=[Value.slice none 0 0,Value.slice none 0 0,Value.slice none 0 0]) rfl (built_fill [(0,1),(1,1),(2,1)] [Value.slice none 0 0,Value.slice none 0 0,Value.slice none 0 0] (fun _=>by kernel_rfl) (fill_done))) rfl<|OW_storeAll ti37 hs (i:=0) rfl rfl (v:=Value.agg (List.toArray (α:=Value) [Value.slice none 0 0,Value.slice none 0 0,Value.slice none 0 0])) rfl (vs:=[Value.slice none 0 0,Value.slice none 0 0,Value.slice none 0 0]) rfl (one_cons rfl (one_cons rfl (one_cons rfl one_nil))) rfl rfl ?_
   intro wv3 hs
   refine O (r_assign (v:=Value.int .i64 0) rfl) rfl<|O (r_assign (v:=Value.int .i64 11) rfl) rfl<|OW_nil<|WP_ret ?_
   obtain rfl:=Option.some.inj hM
   refine FL_nil hds ?_
   exact ⟨_,res3 Tryz.results26 (rv_cells (vs:=[Value.slice none 0 0,Value.slice none 0 0,Value.slice none 0 0]) ti37 rfl rfl (hs.cells (i:=0) rfl)) (rv_tmp (v:=Value.int .i64 0) rfl) (rv_tmp (v:=Value.int .i64 11) rfl),g0,⟨_,_,_,rfl,⟨[Value.slice none 0 0,Value.slice none 0 0,Value.slice none 0 0],rfl,⟨[Value.slice none 0 0],[Value.slice none 0 0],[Value.slice none 0 0],rfl,⟨_,rfl,RdS.nil⟩,⟨_,rfl,RdS.nil⟩,⟨_,rfl,RdS.nil⟩⟩⟩,⟨[Value.int .i64 0],rfl,rfl⟩,⟨[Value.int .i64 11],rfl,rfl⟩⟩,hs.ext⟩
  ·refine WP_false rfl hc1<|WP_skip<|WP_seq<|WP_region<|O (r_assign (v:=Value.slice none 0 0) rfl) rfl<|OW_nil ?_
   obtain ⟨o3,hx2,hKhx2⟩:=stepS hM
   refine WP_cut (fun E w=>∃(xv8:(List T_Regex)),o3=.next xv8∧∃(gg10:Hp) (v29:Value) (xs11:List Value),E 1=Value.pointer (some ⟨b1,0,none⟩)∧E 2=Value.pointer (some ⟨b2,0,none⟩)∧E 5=v29∧E.ds=[]∧Hle g0 gg10∧RowRel tT_Regex gg10 xs11 xv8∧Go.Lx.Sep g0 w0 gg10 w [.row v29 53 tT_Regex.sz xv8.length xs11,Go.Lx.box b2 37 ([Value.slice none 0 0,Value.slice none 0 0,Value.slice none 0 0]),Go.Lx.box b1 24 ([v1,Value.bool p1.Layout,Value.int .i64 p1.Misspelling,Value.int .i64 p1.Unclosed])]) ?_ ?_
   ·have hM:=hx2
    have hag0:=Hle.refl g0
    refine WP_seq<|WP_region<|O (r_fieldAddr Tryz.underlying24 ti22 rfl rfl (by decide) rfl rfl) rfl<|O (r_load (v:=v1) ti22 rfl (hs.cell (i:=1) (o:=0) rfl rfl)) rfl ?_
    obtain ⟨a6,ca6,hva6⟩:=hRv1.shape
    refine O (r_lenSl (v:=v1) Tryz.underlying22 rfl hva6) rfl<|O (r_move (v:=Value.int .i64 0) rfl) rfl<|OW_nil<|WP_block ?_
    have hs:=hs.nilRow 53 tT_Regex.sz
    refine WP_loop (fun (st9:(List T_Regex)×Int) E w=>match st9 with|(xv11,xv12)=>∃(gg14:Hp) (v39:Value) (xs16:List Value),E 1=Value.pointer (some ⟨b1,0,none⟩)∧E 2=Value.pointer (some ⟨b2,0,none⟩)∧E 5=v39∧E 28=v1∧E 29=Value.int .i64 (p1.Defs.length:Int)∧E 30=Value.int .i64 xv12∧E.ds=[]∧Hle g0 gg14∧RowRel tT_Regex gg14 xs16 xv11∧Go.Lx.Sep g0 w0 gg14 w [.row v39 53 tT_Regex.sz xv11.length xs16,Go.Lx.box b2 37 ([Value.slice none 0 0,Value.slice none 0 0,Value.slice none 0 0]),Go.Lx.box b1 24 ([v1,Value.bool p1.Layout,Value.int .i64 p1.Misspelling,Value.int .i64 p1.Unclosed])]) hM ⟨g0,(Value.slice none 0 0),[],rfl,rfl,rfl,rfl,rfl,rfl,hds,(Hle.refl _),RowRel.nil,hs⟩ ?_
    clear hs hM
    rintro ⟨xv11,xv12⟩ o2 E w hM ⟨gg14,v39,xs16,hE1,hE2,hE5,hE28,hE29,hE30,hds,hlegg14,hrelxs16,hs⟩
    obtain ⟨E,rfl⟩:=open6 (E:=E) hE1 hE2 hE5 hE28 hE29 hE30
    replace hRv1:=hRv1.mono hlegg14
    replace hG0:=hG0.mono hlegg14
    have hagg14:=Hle.refl gg14
    refine WP_seq<|WP_region<|O (r_lss rfl rfl) rfl<|OW_nil<|WP_seq ?_
    rcases condS hM with ⟨hc12,hM⟩|⟨hc12,hM⟩
    ·refine WP_true rfl hc12<|WP_skip<|WP_seq<|WP_block<|WP_seq<|WP_region<|O (r_move (v:=Value.int .i64 xv12) rfl) rfl ?_
     obtain ⟨e6,he6,hM⟩:=bindS hM
     obtain ⟨b18,ob18,cb18,hvb18,cs71,hcs71,hcb18⟩:=hRv1.at he6
     obtain ⟨cs72,cs73,cs74,cs75,cs76,rfl,hcs72,hcs73,hcs74,hcs75,hcs76⟩:=hcs71
     have hcs72:cs72=_:=hcs72; subst hcs72
     have hcs73:cs73=_:=hcs73; subst hcs73
     have hcs74:cs74=_:=hcs74; subst hcs74
     have hcs75:cs75=_:=hcs75; subst hcs75
     have hcs76:cs76=_:=hcs76; subst hcs76
     refine O (r_idxSl Tryz.underlying22 ti46 (v:=v1) rfl hvb18 rfl (idxL_some he6).1 (idxL_some he6).2.1) rfl<|O (r_loadEl (cs:=[encS e6.Name,Value.int .i64 e6.Kind,encS e6.Pattern,encS e6.Sample,encS e6.Close]) ti46 rfl rfl (.inl rfl) (hcb18 _ hs.imm) (v:=Value.agg (List.toArray (α:=Value) [encS e6.Name,Value.int .i64 e6.Kind,encS e6.Pattern,encS e6.Sample,encS e6.Close])) rfl) rfl<|OW_alloc ti46 hs (zs:=[encS [],Value.int .i64 0,encS [],encS [],encS []]) rfl rfl ?_
     intro b19 wv49 hs
     refine O (r_assign (v:=Value.int .i64 xv12) rfl) rfl<|OW_storeAll ti46 hs (i:=0) rfl rfl (v:=Value.agg (List.toArray (α:=Value) [encS e6.Name,Value.int .i64 e6.Kind,encS e6.Pattern,encS e6.Sample,encS e6.Close])) rfl (vs:=[encS e6.Name,Value.int .i64 e6.Kind,encS e6.Pattern,encS e6.Sample,encS e6.Close]) rfl (one_cons rfl (one_cons rfl (one_cons rfl (one_cons rfl (one_cons rfl one_nil))))) rfl rfl ?_
     intro wv50 hs
     refine OW_nil<|WP_seq<|WP_seq<|WP_region<|O (r_fieldAddr Tryz.underlying24 ti22 rfl rfl (by decide) rfl rfl) rfl<|O (r_load (v:=v1) ti22 rfl (hs.cell (i:=3) (o:=0) rfl rfl)) rfl<|O (r_move (v:=Value.int .i64 xv12) rfl) rfl ?_
     obtain ⟨rv11,hrv11,hM⟩:=bindS hM
     refine C [v1,Value.int .i64 xv12] cf33 rfl (lexspec_definition_ok hrv11 hs.imm hRv1 hG0) rfl ?_
     rintro v49 wv51 ⟨gg18,hvv49,hegg18⟩
     have hlegg18:=hegg18.le hs.imm
     replace hs:=hs.call hegg18
     replace hrelxs16:=hrelxs16.mono hlegg18
     replace hlegg14:=hlegg14.trans hlegg18
     obtain ⟨cs77,rfl,hcs77⟩:=hvv49
     have hcs77:cs77=_:=hcs77; subst hcs77
     refine O (r_assign (v:=Value.int .i64 rv11) rfl) rfl<|OW_nil<|WP_seq<|WP_region<|O (r_move (v:=Value.int .i64 rv11) rfl) rfl<|O (r_neq rfl rfl) rfl<|OW_nil ?_
     rcases condS hM with ⟨hc13,hM⟩|⟨hc13,hM⟩
     ·refine WP_true rfl hc13<|WP_seq<|WP_region<|O (r_build (vs:=[]) (cs:=[Value.slice none 0 0,Value.slice none 0 0,Value.slice none 0 0]) rfl (built_fill [(0,1),(1,1),(2,1)] [Value.slice none 0 0,Value.slice none 0 0,Value.slice none 0 0] (fun _=>by kernel_rfl) (fill_done))) rfl<|O (r_move (v:=Value.int .i64 xv12) rfl) rfl<|O (r_move (v:=Value.int .i64 rv11) rfl) rfl<|OW_storeAll ti37 hs (i:=2) rfl rfl (v:=Value.agg (List.toArray (α:=Value) [Value.slice none 0 0,Value.slice none 0 0,Value.slice none 0 0])) rfl (vs:=[Value.slice none 0 0,Value.slice none 0 0,Value.slice none 0 0]) rfl (one_cons rfl (one_cons rfl (one_cons rfl one_nil))) rfl rfl ?_
      intro wv52 hs
      refine O (r_assign (v:=Value.int .i64 xv12) rfl) rfl<|O (r_assign (v:=Value.int .i64 rv11) rfl) rfl<|OW_nil<|WP_ret ?_
      obtain rfl:=Option.some.inj hM
      refine fun hr=>?_
      have hM:=congrArg some hr
      obtain rfl:=Option.some.inj hM
      have hM:=hKhx2
      obtain rfl:=Option.some.inj hM
      refine FL_nil hds ?_
      exact ⟨_,res3 Tryz.results26 (rv_cells (vs:=[Value.slice none 0 0,Value.slice none 0 0,Value.slice none 0 0]) ti37 rfl rfl (hs.cells (i:=2) rfl)) (rv_tmp (v:=Value.int .i64 xv12) rfl) (rv_tmp (v:=Value.int .i64 rv11) rfl),gg18,⟨_,_,_,rfl,⟨[Value.slice none 0 0,Value.slice none 0 0,Value.slice none 0 0],rfl,⟨[Value.slice none 0 0],[Value.slice none 0 0],[Value.slice none 0 0],rfl,⟨_,rfl,RdS.nil⟩,⟨_,rfl,RdS.nil⟩,⟨_,rfl,RdS.nil⟩⟩⟩,⟨[Value.int .i64 xv12],rfl,rfl⟩,⟨[Value.int .i64 rv11],rfl,rfl⟩⟩,hs.ext⟩
     ·refine WP_false rfl hc13<|WP_skip<|WP_seq<|WP_region<|O (r_fieldAddr Tryz.underlying46 ti9 rfl rfl (by decide) rfl rfl) rfl<|O (r_load (v:=encS e6.Pattern) ti9 rfl (hs.cell (i:=0) (o:=2) rfl rfl)) rfl ?_
      obtain ⟨rv12,hrv12,hM⟩:=bindS hM
      refine C [encS e6.Pattern] cf34 rfl (regex_Parse_ok hrv12 hs.imm) rfl ?_
      rintro v50 wv53 ⟨gg19,hvv50,hegg19⟩
      have hlegg19:=hegg19.le hs.imm
      replace hs:=hs.call hegg19
      replace hrelxs16:=hrelxs16.mono hlegg19
      replace hlegg14:=hlegg14.trans hlegg19
      obtain ⟨v51,v52,v53,rfl,hvv51,hvv52,hvv53⟩:=hvv50
      obtain ⟨cs78,rfl,hcs78⟩:=hvv53
      have hcs78:cs78=_:=hcs78; subst hcs78
      obtain ⟨cs79,rfl,hcs79⟩:=hvv52
      have hcs79:cs79=_:=hcs79; subst hcs79
      obtain ⟨cs80,rfl,hcs80⟩:=hvv51
      obtain ⟨cs81,cs82,cs83,rfl,hcs81,hcs82,hcs83⟩:=tT_Regex_iff.1 hcs80
      have hcs81:cs81=_:=hcs81; subst hcs81
      have hcs82:cs82=_:=hcs82; subst hcs82
      obtain ⟨v54,rfl,hRv54⟩:=hcs83
      refine O (r_move (v:=Value.tuple #[Value.agg (List.toArray (α:=Value) (([Value.int .i64 rv12.1.Kind])++((rv12.1.Set.1.map (Value.int .u64))++([v54])))),Value.int .i64 rv12.2.1,Value.int .i64 rv12.2.2]) rfl) rfl<|O (r_extract (vs:=[Value.agg (List.toArray (α:=Value) (([Value.int .i64 rv12.1.Kind])++((rv12.1.Set.1.map (Value.int .u64))++([v54])))),Value.int .i64 rv12.2.1,Value.int .i64 rv12.2.2]) (v:=Value.agg (List.toArray (α:=Value) (([Value.int .i64 rv12.1.Kind])++((rv12.1.Set.1.map (Value.int .u64))++([v54]))))) rfl rfl) rfl<|O (r_extract (vs:=[Value.agg (List.toArray (α:=Value) (([Value.int .i64 rv12.1.Kind])++((rv12.1.Set.1.map (Value.int .u64))++([v54])))),Value.int .i64 rv12.2.1,Value.int .i64 rv12.2.2]) (v:=Value.int .i64 rv12.2.1) rfl rfl) rfl ?_
      refine O (r_extract (vs:=[Value.agg (List.toArray (α:=Value) (([Value.int .i64 rv12.1.Kind])++((rv12.1.Set.1.map (Value.int .u64))++([v54])))),Value.int .i64 rv12.2.1,Value.int .i64 rv12.2.2]) (v:=Value.int .i64 rv12.2.2) rfl rfl) rfl<|OW_alloc ti53 hs (zs:=([Value.int .i64 0])++(((Vec.zero 4).1.map (Value.int .u64))++([Value.slice none 0 0]))) rfl rfl ?_
      intro b20 wv54 hs
      refine OW_storeAll ti53 hs (i:=0) rfl rfl (v:=Value.agg (List.toArray (α:=Value) (([Value.int .i64 rv12.1.Kind])++((rv12.1.Set.1.map (Value.int .u64))++([v54]))))) rfl (vs:=([Value.int .i64 rv12.1.Kind])++((rv12.1.Set.1.map (Value.int .u64))++([v54]))) rfl (one_append (one_cons rfl one_nil) (one_append vec_one (one_cons (by obtain ⟨_,_,h9⟩:=hRv54.shape; rw [h9]; rfl) one_nil))) (by simp [rv12.1.Set.2]) (by simp [rv12.1.Set.2,(Vec.zero 4).2]) ?_
      intro wv55 hs
      refine O (r_assign (v:=Value.int .i64 rv12.2.1) rfl) rfl<|O (r_assign (v:=Value.int .i64 rv12.2.2) rfl) rfl<|OW_nil<|WP_region<|O (r_move (v:=v39) rfl) rfl<|O (r_loadN (cs:=([Value.int .i64 rv12.1.Kind])++((rv12.1.Set.1.map (Value.int .u64))++([v54]))) ti53 rfl (by simp [rv12.1.Set.2]) (hs.cells (i:=0) rfl)) rfl<|OW_lit (τ:=tT_Regex) [Value.agg (List.toArray (α:=Value) (([Value.int .i64 rv12.1.Kind])++((rv12.1.Set.1.map (Value.int .u64))++([v54]))))] [rv12.1] Tryz.underlying51 ti53 (by decide) hs rfl rfl rfl ⟨(tT_Regex_iff.2 ⟨[Value.int .i64 rv12.1.Kind],rv12.1.Set.1.map (Value.int .u64),[v54],rfl,rfl,rfl,⟨_,rfl,hRv54⟩⟩),trivial⟩ rfl ?_
      intro v55 wv56 xs20 hrelxs20 hs
      obtain ⟨y6,hy6,hM⟩:=bindS hM
      refine OW_append Tryz.underlying51 ti53 rfl (by decide) (by decide) hs (i:=3) rfl hrelxs16 (v:=v39) rfl (u:=v55) rfl (hs.rowSrc (i:=0) rfl) hrelxs20 hy6 rfl ?_
      intro v56 wv57 xs21 hrelxs21 hs
      refine O (r_assign (v:=v56) rfl) rfl<|OW_nil<|WP_region ?_
      obtain ⟨t6,ht6,hM⟩:=bindS hM
      refine O (r_addM rfl rfl ht6) rfl<|O (r_move (v:=Value.int .i64 t6) rfl) rfl<|OW_nil ?_
      obtain rfl:=Option.some.inj hM
      exact ⟨gg19,v56,xs21,rfl,rfl,rfl,rfl,rfl,rfl,hds,hlegg14,hrelxs21,(hs.sub (.cons _ (.cons _ (.cons _ (.cons_cons _ (.cons_cons _ (.cons_cons _ .slnil)))))))⟩
    ·refine WP_false rfl hc12<|WP_exit ?_
     obtain rfl:=Option.some.inj hM
     refine fun hr=>?_
     have hM:=congrArg some hr
     obtain rfl:=Option.some.inj hM
     exact ⟨xv11,rfl,gg14,v39,xs16,rfl,rfl,rfl,hds,hlegg14,hrelxs16,hs⟩
   ·clear hs
    rintro E w ⟨xv8,rfl,gg10,v29,xs11,hE1,hE2,hE5,hds,hlegg10,hrelxs11,hs⟩
    have hM:=hKhx2
    dsimp only [onStep] at hM
    obtain ⟨E,rfl⟩:=open3 (E:=E) hE1 hE2 hE5
    replace hRv1:=hRv1.mono hlegg10
    refine WP_seq ?_
    obtain ⟨xv15,hx3,hKhx3⟩:=bindS hM
    refine WP_cut (fun E w=>E 1=Value.pointer (some ⟨b1,0,none⟩)∧E 2=Value.pointer (some ⟨b2,0,none⟩)∧E 5=v29∧E 73=Value.bool xv15∧E.ds=[]∧Go.Lx.Sep g0 w0 gg10 w [.row v29 53 tT_Regex.sz xv8.length xs11,Go.Lx.box b2 37 ([Value.slice none 0 0,Value.slice none 0 0,Value.slice none 0 0]),Go.Lx.box b1 24 ([v1,Value.bool p1.Layout,Value.int .i64 p1.Misspelling,Value.int .i64 p1.Unclosed])]) ?_ ?_
    ·have hM:=hx3
     have hagg10:=Hle.refl gg10
     refine WP_region<|O (r_fieldAddr Tryz.underlying24 ti3 rfl rfl (by decide) rfl rfl) rfl<|O (r_load (v:=Value.int .i64 p1.Misspelling) ti3 rfl (hs.cell (i:=2) (o:=2) rfl rfl)) rfl<|O (r_lss rfl rfl) rfl<|O (r_move (v:=Value.bool (decide (p1.Misspelling<0))) rfl) rfl ?_
     rcases condS hM with ⟨hg6,hM⟩|⟨hg6,hM⟩
     ·refine OK rfl rfl rfl (by rw [hg6]; rfl) rfl<|OK rfl rfl rfl (by rw [hg6]; rfl) rfl<|OK rfl rfl rfl (by rw [hg6]; rfl) rfl<|O (r_pickT (v:=Value.bool true) rfl hg6 rfl) rfl<|O (r_move (v:=Value.bool true) rfl) rfl<|OK rfl rfl rfl rfl rfl<|OK rfl rfl rfl rfl rfl<|OK rfl rfl rfl rfl rfl<|O (r_pickT (v:=Value.bool true) rfl rfl rfl) rfl<|O (r_move (v:=Value.bool true) rfl) rfl<|OK rfl rfl rfl rfl rfl<|OK rfl rfl rfl rfl rfl<|OK rfl rfl rfl rfl rfl<|O (r_pickT (v:=Value.bool true) rfl rfl rfl) rfl<|OW_nil ?_
      obtain rfl:=Option.some.inj hM
      exact ⟨rfl,rfl,rfl,rfl,hds,hs⟩
     ·refine OG rfl rfl rfl (by rw [hg6]; rfl) (r_fieldAddr Tryz.underlying24 ti3 rfl rfl (by decide) rfl rfl) rfl<|OG rfl rfl rfl (by rw [hg6]; rfl) (r_load (v:=Value.int .i64 p1.Misspelling) ti3 rfl (hs.cell (i:=2) (o:=2) rfl rfl)) rfl<|OG rfl rfl rfl (by rw [hg6]; rfl) (r_gtr rfl rfl) rfl<|O (r_pickF (v:=Value.bool (decide (1000<p1.Misspelling))) rfl hg6 rfl) rfl<|O (r_move (v:=Value.bool (decide (1000<p1.Misspelling))) rfl) rfl ?_
      rcases condS hM with ⟨hg7,hM⟩|⟨hg7,hM⟩
      ·refine OK rfl rfl rfl (by rw [hg7]; rfl) rfl<|OK rfl rfl rfl (by rw [hg7]; rfl) rfl<|OK rfl rfl rfl (by rw [hg7]; rfl) rfl<|O (r_pickT (v:=Value.bool true) rfl hg7 rfl) rfl<|O (r_move (v:=Value.bool true) rfl) rfl<|OK rfl rfl rfl rfl rfl<|OK rfl rfl rfl rfl rfl<|OK rfl rfl rfl rfl rfl<|O (r_pickT (v:=Value.bool true) rfl rfl rfl) rfl<|OW_nil ?_
       obtain rfl:=Option.some.inj hM
       exact ⟨rfl,rfl,rfl,rfl,hds,hs⟩
      ·refine OG rfl rfl rfl (by rw [hg7]; rfl) (r_fieldAddr Tryz.underlying24 ti3 rfl rfl (by decide) rfl rfl) rfl<|OG rfl rfl rfl (by rw [hg7]; rfl) (r_load (v:=Value.int .i64 p1.Unclosed) ti3 rfl (hs.cell (i:=2) (o:=3) rfl rfl)) rfl<|OG rfl rfl rfl (by rw [hg7]; rfl) (r_lss rfl rfl) rfl<|O (r_pickF (v:=Value.bool (decide (p1.Unclosed<0))) rfl hg7 rfl) rfl<|O (r_move (v:=Value.bool (decide (p1.Unclosed<0))) rfl) rfl ?_
       rcases condS hM with ⟨hg8,hM⟩|⟨hg8,hM⟩
       ·refine OK rfl rfl rfl (by rw [hg8]; rfl) rfl<|OK rfl rfl rfl (by rw [hg8]; rfl) rfl<|OK rfl rfl rfl (by rw [hg8]; rfl) rfl<|O (r_pickT (v:=Value.bool true) rfl hg8 rfl) rfl<|OW_nil ?_
        obtain rfl:=Option.some.inj hM
        exact ⟨rfl,rfl,rfl,rfl,hds,hs⟩
       ·refine OG rfl rfl rfl (by rw [hg8]; rfl) (r_fieldAddr Tryz.underlying24 ti3 rfl rfl (by decide) rfl rfl) rfl<|OG rfl rfl rfl (by rw [hg8]; rfl) (r_load (v:=Value.int .i64 p1.Unclosed) ti3 rfl (hs.cell (i:=2) (o:=3) rfl rfl)) rfl<|OG rfl rfl rfl (by rw [hg8]; rfl) (r_gtr rfl rfl) rfl<|O (r_pickF (v:=Value.bool (decide (1000<p1.Unclosed))) rfl hg8 rfl) rfl<|OW_nil ?_
        obtain rfl:=Option.some.inj hM
        exact ⟨rfl,rfl,rfl,rfl,hds,hs⟩
    ·clear hs
     rintro E w ⟨hE1,hE2,hE5,hE73,hds,hs⟩
     have hM:=hKhx3
     obtain ⟨E,rfl⟩:=open4 (E:=E) hE1 hE2 hE5 hE73
     rcases condS hM with ⟨hc14,hM⟩|⟨hc14,hM⟩
     ·refine WP_true rfl hc14<|WP_seq<|WP_any (.q 0 (.q 1 (.q 2 (.q 3 (.s 4 (.q 5 (.q 6 (.leaf)))))))) (SS g0 w0 gg10 [.row v29 53 tT_Regex.sz xv8.length xs11,Go.Lx.box b2 37 ([Value.slice none 0 0,Value.slice none 0 0,Value.slice none 0 0]),Go.Lx.box b1 24 ([v1,Value.bool p1.Layout,Value.int .i64 p1.Misspelling,Value.int .i64 p1.Unclosed])]) mo (by decide +kernel) ?_
      have hs:=hs.drew
      have hagg10:=Hle.refl gg10
      have hS:SS g0 w0 gg10 [.row v29 53 tT_Regex.sz xv8.length xs11,Go.Lx.box b2 37 ([Value.slice none 0 0,Value.slice none 0 0,Value.slice none 0 0]),Go.Lx.box b1 24 ([v1,Value.bool p1.Layout,Value.int .i64 p1.Misspelling,Value.int .i64 p1.Unclosed])] _:=⟨gg10,Hle.refl _,hs⟩
      refine A rfl hS (fun w9 ⟨g9,hle9,hs⟩=>r_build (vs:=[]) (cs:=[Value.slice none 0 0,Value.slice none 0 0,Value.slice none 0 0]) rfl (built_fill [(0,1),(1,1),(2,1)] [Value.slice none 0 0,Value.slice none 0 0,Value.slice none 0 0] (fun _=>by kernel_rfl) (fill_done))) rfl<|A rfl hS (fun w9 ⟨g9,hle9,hs⟩=>r_fieldAddr Tryz.underlying24 ti22 rfl rfl (by decide) rfl rfl) rfl<|A rfl hS (fun w9 ⟨g9,hle9,hs⟩=>r_load (v:=v1) ti22 rfl (hs.cell (i:=2) (o:=0) rfl rfl)) rfl ?_
      obtain ⟨a7,ca7,hva7⟩:=hRv1.shape
      refine A rfl hS (fun w9 ⟨g9,hle9,hs⟩=>r_lenSl (v:=v1) Tryz.underlying22 rfl hva7) rfl<|A1 rfl<|OW_storeAll ti37 hs (i:=1) rfl rfl (v:=Value.agg (List.toArray (α:=Value) [Value.slice none 0 0,Value.slice none 0 0,Value.slice none 0 0])) rfl (vs:=[Value.slice none 0 0,Value.slice none 0 0,Value.slice none 0 0]) rfl (one_cons rfl (one_cons rfl (one_cons rfl one_nil))) rfl rfl ?_
      intro wv58 hs
      refine OW_nil ?_
      replace hS:=hS.to (Hle.refl _) hs
      refine ⟨fun _=>hS,?_⟩
      refine A rfl hS (fun w9 ⟨g9,hle9,hs⟩=>r_assign (v:=Value.int .i64 (p1.Defs.length:Int)) rfl) rfl<|A rfl hS (fun w9 ⟨g9,hle9,hs⟩=>r_assign (v:=Value.int .i64 1) rfl) rfl<|AN<|WP_ret ?_
      obtain rfl:=Option.some.inj hM
      refine FL_nil hds ?_
      exact ⟨_,res3 Tryz.results26 (rv_cells (vs:=[Value.slice none 0 0,Value.slice none 0 0,Value.slice none 0 0]) ti37 rfl rfl (hs.cells (i:=1) rfl)) (rv_tmp (v:=Value.int .i64 (p1.Defs.length:Int)) rfl) (rv_tmp (v:=Value.int .i64 1) rfl),gg10,⟨_,_,_,rfl,⟨[Value.slice none 0 0,Value.slice none 0 0,Value.slice none 0 0],rfl,⟨[Value.slice none 0 0],[Value.slice none 0 0],[Value.slice none 0 0],rfl,⟨_,rfl,RdS.nil⟩,⟨_,rfl,RdS.nil⟩,⟨_,rfl,RdS.nil⟩⟩⟩,⟨[Value.int .i64 (p1.Defs.length:Int)],rfl,rfl⟩,⟨[Value.int .i64 1],rfl,rfl⟩⟩,hs.ext⟩
     ·refine WP_false rfl hc14<|WP_skip<|WP_seq<|WP_region<|O (r_move (v:=v29) rfl) rfl ?_
      obtain ⟨gg20,hlegg20,hRgg20,hs⟩:=hs.relRow (i:=0) rfl hrelxs11
      replace hRv1:=hRv1.mono hlegg20
      obtain ⟨rv13,hrv13,hM⟩:=bindS hM
      refine C [v29] cf35 rfl (lexspec_build_ok hrv13 hs.imm hRgg20) rfl ?_
      rintro v57 wv59 ⟨gg21,hvv57,hegg21⟩
      have hlegg21:=hegg21.le hs.imm
      replace hs:=hs.call hegg21
      replace hRv1:=hRv1.mono hlegg21
      replace hRgg20:=hRgg20.mono hlegg21
      obtain ⟨v58,v59,rfl,hvv58,hvv59⟩:=hvv57
      obtain ⟨cs84,rfl,hcs84⟩:=hvv59
      have hcs84:cs84=_:=hcs84; subst hcs84
      obtain ⟨cs85,rfl,hcs85⟩:=hvv58
      obtain ⟨cs86,cs87,cs88,rfl,hcs86,hcs87,hcs88⟩:=hcs85
      obtain ⟨v60,rfl,hRv60⟩:=hcs86
      obtain ⟨v61,rfl,hRv61⟩:=hcs87
      obtain ⟨v62,rfl,hRv62⟩:=hcs88
      refine O (r_move (v:=Value.tuple #[Value.agg (List.toArray (α:=Value) [v60,v61,v62]),Value.int .i64 rv13.2]) rfl) rfl<|O (r_extract (vs:=[Value.agg (List.toArray (α:=Value) [v60,v61,v62]),Value.int .i64 rv13.2]) (v:=Value.agg (List.toArray (α:=Value) [v60,v61,v62])) rfl rfl) rfl<|O (r_extract (vs:=[Value.agg (List.toArray (α:=Value) [v60,v61,v62]),Value.int .i64 rv13.2]) (v:=Value.int .i64 rv13.2) rfl rfl) rfl<|OW_alloc ti37 hs (zs:=[Value.slice none 0 0,Value.slice none 0 0,Value.slice none 0 0]) rfl rfl ?_
      intro b21 wv60 hs
      refine OW_storeAll ti37 hs (i:=0) rfl rfl (v:=Value.agg (List.toArray (α:=Value) [v60,v61,v62])) rfl (vs:=[v60,v61,v62]) rfl (one_cons (by obtain ⟨_,_,h9⟩:=hRv60.shape; rw [h9]; rfl) (one_cons (by obtain ⟨_,_,h9⟩:=hRv61.shape; rw [h9]; rfl) (one_cons (by obtain ⟨_,_,h9⟩:=hRv62.shape; rw [h9]; rfl) one_nil))) rfl rfl ?_
      intro wv61 hs
      refine O (r_assign (v:=Value.int .i64 rv13.2) rfl) rfl<|OW_nil<|WP_seq<|WP_seq<|WP_region<|O (r_move (v:=Value.int .i64 rv13.2) rfl) rfl<|O (r_neq rfl rfl) rfl<|OW_nil ?_
      rcases condS hM with ⟨hc15,hM⟩|⟨hc15,hM⟩
      ·refine WP_true rfl hc15<|WP_seq<|WP_region<|O (r_build (vs:=[]) (cs:=[Value.slice none 0 0,Value.slice none 0 0,Value.slice none 0 0]) rfl (built_fill [(0,1),(1,1),(2,1)] [Value.slice none 0 0,Value.slice none 0 0,Value.slice none 0 0] (fun _=>by kernel_rfl) (fill_done))) rfl<|O (r_move (v:=Value.int .i64 rv13.2) rfl) rfl<|OW_storeAll ti37 hs (i:=1) rfl rfl (v:=Value.agg (List.toArray (α:=Value) [Value.slice none 0 0,Value.slice none 0 0,Value.slice none 0 0])) rfl (vs:=[Value.slice none 0 0,Value.slice none 0 0,Value.slice none 0 0]) rfl (one_cons rfl (one_cons rfl (one_cons rfl one_nil))) rfl rfl ?_
       intro wv62 hs
       refine O (r_assign (v:=Value.int .i64 0) rfl) rfl<|O (r_assign (v:=Value.int .i64 rv13.2) rfl) rfl<|OW_nil<|WP_ret ?_
       obtain rfl:=Option.some.inj hM
       refine FL_nil hds ?_
       exact ⟨_,res3 Tryz.results26 (rv_cells (vs:=[Value.slice none 0 0,Value.slice none 0 0,Value.slice none 0 0]) ti37 rfl rfl (hs.cells (i:=1) rfl)) (rv_tmp (v:=Value.int .i64 0) rfl) (rv_tmp (v:=Value.int .i64 rv13.2) rfl),gg21,⟨_,_,_,rfl,⟨[Value.slice none 0 0,Value.slice none 0 0,Value.slice none 0 0],rfl,⟨[Value.slice none 0 0],[Value.slice none 0 0],[Value.slice none 0 0],rfl,⟨_,rfl,RdS.nil⟩,⟨_,rfl,RdS.nil⟩,⟨_,rfl,RdS.nil⟩⟩⟩,⟨[Value.int .i64 0],rfl,rfl⟩,⟨[Value.int .i64 rv13.2],rfl,rfl⟩⟩,hs.ext⟩
      ·refine WP_false rfl hc15<|WP_skip ?_
       obtain ⟨o6,hx7,hKhx7⟩:=stepS hM
       refine WP_cut (fun E w=>∃u9:Unit,o6=.next u9∧∃(gg37:Hp),E 2=Value.pointer (some ⟨b2,0,none⟩)∧E 12=Value.pointer (some ⟨b21,0,none⟩)∧E.ds=[]∧Hle gg21 gg37∧Go.Lx.Sep g0 w0 gg37 w [Go.Lx.box b21 37 ([v60,v61,v62]),Go.Lx.box b2 37 ([Value.slice none 0 0,Value.slice none 0 0,Value.slice none 0 0])]) ?_ ?_
       ·have hM:=hx7
        have hagg21:=Hle.refl gg21
        refine WP_seq<|WP_region<|O (r_fieldAddr Tryz.underlying24 ti22 rfl rfl (by decide) rfl rfl) rfl<|O (r_load (v:=v1) ti22 rfl (hs.cell (i:=2) (o:=0) rfl rfl)) rfl ?_
        obtain ⟨a9,ca9,hva9⟩:=hRv1.shape
        refine O (r_lenSl (v:=v1) Tryz.underlying22 rfl hva9) rfl<|O (r_move (v:=Value.int .i64 0) rfl) rfl<|OW_nil<|WP_block<|WP_loop (fun (xv24:Int) E w=>∃(gg43:Hp),E 2=Value.pointer (some ⟨b2,0,none⟩)∧E 5=v29∧E 12=Value.pointer (some ⟨b21,0,none⟩)∧E 88=v1∧E 89=Value.int .i64 (p1.Defs.length:Int)∧E 90=Value.int .i64 xv24∧E.ds=[]∧Hle gg21 gg43∧Go.Lx.Sep g0 w0 gg43 w [Go.Lx.box b21 37 ([v60,v61,v62]),Go.Lx.box b2 37 ([Value.slice none 0 0,Value.slice none 0 0,Value.slice none 0 0])]) hM ⟨gg21,rfl,rfl,rfl,rfl,rfl,rfl,hds,(Hle.refl _),(hs.sub (.cons_cons _ (.cons_cons _ (.cons _ .slnil))))⟩ ?_
        clear hs hM
        rintro xv24 o5 E w hM ⟨gg43,hE2,hE5,hE12,hE88,hE89,hE90,hds,hlegg43,hs⟩
        obtain ⟨E,rfl⟩:=open6 (E:=E) hE2 hE5 hE12 hE88 hE89 hE90
        replace hRgg20:=hRgg20.mono hlegg43
        replace hRv60:=hRv60.mono hlegg43
        replace hRv61:=hRv61.mono hlegg43
        replace hRv62:=hRv62.mono hlegg43
        replace hRv1:=hRv1.mono hlegg43
        have hagg43:=Hle.refl gg43
        refine WP_seq<|WP_region<|O (r_lss rfl rfl) rfl<|OW_nil<|WP_seq ?_
        rcases condS hM with ⟨hc31,hM⟩|⟨hc31,hM⟩
        ·refine WP_true rfl hc31<|WP_skip<|WP_seq<|WP_block<|WP_seq<|WP_region<|O (r_move (v:=Value.int .i64 xv24) rfl) rfl ?_
         obtain ⟨e22,he22,hM⟩:=bindS hM
         obtain ⟨b42,ob42,cb42,hvb42,cs174,hcs174,hcb42⟩:=hRv1.at he22
         obtain ⟨cs175,cs176,cs177,cs178,cs179,rfl,hcs175,hcs176,hcs177,hcs178,hcs179⟩:=hcs174
         have hcs175:cs175=_:=hcs175; subst hcs175
         have hcs176:cs176=_:=hcs176; subst hcs176
         have hcs177:cs177=_:=hcs177; subst hcs177
         have hcs178:cs178=_:=hcs178; subst hcs178
         have hcs179:cs179=_:=hcs179; subst hcs179
         refine O (r_idxSl Tryz.underlying22 ti46 (v:=v1) rfl hvb42 rfl (idxL_some he22).1 (idxL_some he22).2.1) rfl<|O (r_loadEl (cs:=[encS e22.Name,Value.int .i64 e22.Kind,encS e22.Pattern,encS e22.Sample,encS e22.Close]) ti46 rfl rfl (.inl rfl) (hcb42 _ hs.imm) (v:=Value.agg (List.toArray (α:=Value) [encS e22.Name,Value.int .i64 e22.Kind,encS e22.Pattern,encS e22.Sample,encS e22.Close])) rfl) rfl<|OW_alloc ti46 hs (zs:=[encS [],Value.int .i64 0,encS [],encS [],encS []]) rfl rfl ?_
         intro b43 wv98 hs
         refine O (r_assign (v:=Value.int .i64 xv24) rfl) rfl<|OW_storeAll ti46 hs (i:=0) rfl rfl (v:=Value.agg (List.toArray (α:=Value) [encS e22.Name,Value.int .i64 e22.Kind,encS e22.Pattern,encS e22.Sample,encS e22.Close])) rfl (vs:=[encS e22.Name,Value.int .i64 e22.Kind,encS e22.Pattern,encS e22.Sample,encS e22.Close]) rfl (one_cons rfl (one_cons rfl (one_cons rfl (one_cons rfl (one_cons rfl one_nil))))) rfl rfl ?_
         intro wv99 hs
         refine OW_nil<|WP_seq<|WP_seq<|WP_region<|O (r_loadN (cs:=[v60,v61,v62]) ti37 rfl rfl (hs.cells (i:=1) rfl)) rfl<|O (r_fieldAddr Tryz.underlying46 ti9 rfl rfl (by decide) rfl rfl) rfl<|O (r_load (v:=encS e22.Sample) ti9 rfl (hs.cell (i:=0) (o:=3) rfl rfl)) rfl ?_
         obtain ⟨rv29,hrv29,hM⟩:=bindS hM
         refine C [Value.agg (List.toArray (α:=Value) [v60,v61,v62]),encS e22.Sample] cf36 rfl (dfa_Run_ok hrv29 hs.imm (⟨[v60],[v61],[v62],rfl,⟨_,rfl,hRv60⟩,⟨_,rfl,hRv61⟩,⟨_,rfl,hRv62⟩⟩)) rfl ?_
         rintro v88 wv100 ⟨gg49,hvv88,hegg49⟩
         have hlegg49:=hegg49.le hs.imm
         replace hs:=hs.call hegg49
         replace hRgg20:=hRgg20.mono hlegg49
         replace hlegg43:=hlegg43.trans hlegg49
         obtain ⟨cs180,rfl,hcs180⟩:=hvv88
         have hcs180:cs180=_:=hcs180; subst hcs180
         refine O (r_move (v:=Value.int .i64 xv24) rfl) rfl<|O (r_neq rfl rfl) rfl<|OW_nil ?_
         rcases condS hM with ⟨hc32,hM⟩|⟨hc32,hM⟩
         ·refine WP_true rfl hc32<|WP_seq<|WP_region<|O (r_build (vs:=[]) (cs:=[Value.slice none 0 0,Value.slice none 0 0,Value.slice none 0 0]) rfl (built_fill [(0,1),(1,1),(2,1)] [Value.slice none 0 0,Value.slice none 0 0,Value.slice none 0 0] (fun _=>by kernel_rfl) (fill_done))) rfl<|O (r_move (v:=Value.int .i64 xv24) rfl) rfl<|OW_storeAll ti37 hs (i:=2) rfl rfl (v:=Value.agg (List.toArray (α:=Value) [Value.slice none 0 0,Value.slice none 0 0,Value.slice none 0 0])) rfl (vs:=[Value.slice none 0 0,Value.slice none 0 0,Value.slice none 0 0]) rfl (one_cons rfl (one_cons rfl (one_cons rfl one_nil))) rfl rfl ?_
          intro wv101 hs
          refine O (r_assign (v:=Value.int .i64 xv24) rfl) rfl<|O (r_assign (v:=Value.int .i64 13) rfl) rfl<|OW_nil<|WP_ret ?_
          obtain rfl:=Option.some.inj hM
          refine fun hr=>?_
          have hM:=congrArg some hr
          obtain rfl:=Option.some.inj hM
          have hM:=hKhx7
          obtain rfl:=Option.some.inj hM
          refine FL_nil hds ?_
          exact ⟨_,res3 Tryz.results26 (rv_cells (vs:=[Value.slice none 0 0,Value.slice none 0 0,Value.slice none 0 0]) ti37 rfl rfl (hs.cells (i:=2) rfl)) (rv_tmp (v:=Value.int .i64 xv24) rfl) (rv_tmp (v:=Value.int .i64 13) rfl),gg49,⟨_,_,_,rfl,⟨[Value.slice none 0 0,Value.slice none 0 0,Value.slice none 0 0],rfl,⟨[Value.slice none 0 0],[Value.slice none 0 0],[Value.slice none 0 0],rfl,⟨_,rfl,RdS.nil⟩,⟨_,rfl,RdS.nil⟩,⟨_,rfl,RdS.nil⟩⟩⟩,⟨[Value.int .i64 xv24],rfl,rfl⟩,⟨[Value.int .i64 13],rfl,rfl⟩⟩,hs.ext⟩
         ·refine WP_false rfl hc32<|WP_skip ?_
          obtain ⟨xv27,hx10,hKhx10⟩:=bindS hM
          refine WP_cut (fun E w=>∃(gg51:Hp),E 2=Value.pointer (some ⟨b2,0,none⟩)∧E 5=v29∧E 12=Value.pointer (some ⟨b21,0,none⟩)∧E 14=Value.int .i64 xv24∧E 88=v1∧E 89=Value.int .i64 (p1.Defs.length:Int)∧E 90=Value.int .i64 xv24∧E 115=Value.bool xv27∧E.ds=[]∧Hle gg49 gg51∧Go.Lx.Sep g0 w0 gg51 w [Go.Lx.box b21 37 ([v60,v61,v62]),Go.Lx.box b2 37 ([Value.slice none 0 0,Value.slice none 0 0,Value.slice none 0 0])]) ?_ ?_
          ·have hM:=hx10
           have hagg49:=Hle.refl gg49
           refine WP_drawTail 10 mo (by decide +kernel) ?_
           have hs:=hs.drew
           refine S (r_fieldAddr Tryz.underlying46 ti3 rfl rfl (by decide) rfl rfl) rfl<|S (r_load (v:=Value.int .i64 e22.Kind) ti3 rfl (hs.cell (i:=0) (o:=1) rfl rfl)) rfl<|S (r_eql rfl rfl) rfl<|S (r_move (v:=Value.bool (e22.Kind == 3)) rfl) rfl ?_
           rcases condS hM with ⟨hg20,hM⟩|⟨hg20,hM⟩
           ·refine SG rfl rfl rfl (by rw [hg20]; rfl) (r_move (v:=v29) rfl) rfl<|SG rfl rfl rfl (by rw [hg20]; rfl) (r_move (v:=Value.int .i64 xv24) rfl) rfl ?_
            obtain ⟨e24,he24,hM⟩:=bindS hM
            obtain ⟨b45,ob45,cb45,hvb45,cs186,hcs186,hcb45⟩:=hRgg20.at he24
            obtain ⟨cs187,cs188,cs189,rfl,hcs187,hcs188,hcs189⟩:=tT_Regex_iff.1 hcs186
            have hcs187:cs187=_:=hcs187; subst hcs187
            have hcs188:cs188=_:=hcs188; subst hcs188
            obtain ⟨v91,rfl,hRv91⟩:=hcs189
            refine SG rfl rfl rfl (by rw [hg20]; rfl) (r_idxSl Tryz.underlying51 ti53 (v:=v29) rfl hvb45 rfl (idxL_some he24).1 (idxL_some he24).2.1) rfl<|SG rfl rfl rfl (by rw [hg20]; rfl) (r_loadEl (cs:=([Value.int .i64 e24.Kind])++((e24.Set.1.map (Value.int .u64))++([v91]))) ti53 rfl (by simp [e24.Set.2]) (.inl rfl) (hcb45 _ hs.imm) (v:=Value.agg (List.toArray (α:=Value) (([Value.int .i64 e24.Kind])++((e24.Set.1.map (Value.int .u64))++([v91]))))) rfl) rfl<|SG rfl rfl rfl (by rw [hg20]; rfl) (r_fieldAddr Tryz.underlying46 ti9 rfl rfl (by decide) rfl rfl) rfl<|SG rfl rfl rfl (by rw [hg20]; rfl) (r_load (v:=encS e22.Sample) ti9 rfl (hs.cell (i:=0) (o:=3) rfl rfl)) rfl<|SW_nil ?_
            obtain ⟨rv31,hrv31,hM⟩:=bindS hM
            refine CG rfl rfl rfl (by rw [hg20]; rfl) [Value.agg (List.toArray (α:=Value) (([Value.int .i64 e24.Kind])++((e24.Set.1.map (Value.int .u64))++([v91])))),encS e22.Sample] cf37 rfl (lexspec_only_ok hrv31 hs.imm (tT_Regex_iff.2 ⟨[Value.int .i64 e24.Kind],e24.Set.1.map (Value.int .u64),[v91],rfl,rfl,rfl,⟨_,rfl,hRv91⟩⟩)) rfl ?_
            rintro v92 wv103 ⟨gg52,hvv92,hegg52⟩
            have hlegg52:=hegg52.le hs.imm
            replace hs:=hs.call hegg52
            replace hagg49:=hagg49.trans hlegg52
            obtain ⟨cs190,rfl,hcs190⟩:=hvv92
            have hcs190:cs190=_:=hcs190; subst hcs190
            refine OG rfl rfl rfl (by rw [hg20]; rfl) (r_not rfl) rfl<|O (r_pickT (v:=Value.bool (!rv31)) rfl hg20 rfl) rfl<|OW_nil ?_
            obtain rfl:=Option.some.inj hM
            exact ⟨gg52,rfl,rfl,rfl,rfl,rfl,rfl,rfl,rfl,hds,hagg49,(hs.sub (.cons _ (.cons_cons _ (.cons_cons _ .slnil))))⟩
           ·refine SK rfl rfl rfl (by rw [hg20]; rfl) rfl<|SK rfl rfl rfl (by rw [hg20]; rfl) rfl<|SK rfl rfl rfl (by rw [hg20]; rfl) rfl<|SK rfl rfl rfl (by rw [hg20]; rfl) rfl<|SK rfl rfl rfl (by rw [hg20]; rfl) rfl<|SK rfl rfl rfl (by rw [hg20]; rfl) rfl<|SW_nil<|OK rfl rfl rfl (by rw [hg20]; rfl) rfl<|OK rfl rfl rfl (by rw [hg20]; rfl) rfl<|O (r_pickF (v:=Value.bool false) rfl hg20 rfl) rfl<|OW_nil ?_
            obtain rfl:=Option.some.inj hM
            exact ⟨gg49,rfl,rfl,rfl,rfl,rfl,rfl,rfl,rfl,hds,(Hle.refl _),(hs.sub (.cons _ (.cons_cons _ (.cons_cons _ .slnil))))⟩
          ·clear hs
           rintro E w ⟨gg51,hE2,hE5,hE12,hE14,hE88,hE89,hE90,hE115,hds,hlegg51,hs⟩
           have hM:=hKhx10
           obtain ⟨E,rfl⟩:=open8 (E:=E) hE2 hE5 hE12 hE14 hE88 hE89 hE90 hE115
           replace hlegg43:=hlegg43.trans hlegg51
           rcases condS hM with ⟨hc33,hM⟩|⟨hc33,hM⟩
           ·refine WP_true rfl hc33<|WP_seq<|WP_region<|O (r_build (vs:=[]) (cs:=[Value.slice none 0 0,Value.slice none 0 0,Value.slice none 0 0]) rfl (built_fill [(0,1),(1,1),(2,1)] [Value.slice none 0 0,Value.slice none 0 0,Value.slice none 0 0] (fun _=>by kernel_rfl) (fill_done))) rfl<|O (r_move (v:=Value.int .i64 xv24) rfl) rfl<|OW_storeAll ti37 hs (i:=1) rfl rfl (v:=Value.agg (List.toArray (α:=Value) [Value.slice none 0 0,Value.slice none 0 0,Value.slice none 0 0])) rfl (vs:=[Value.slice none 0 0,Value.slice none 0 0,Value.slice none 0 0]) rfl (one_cons rfl (one_cons rfl (one_cons rfl one_nil))) rfl rfl ?_
            intro wv104 hs
            refine O (r_assign (v:=Value.int .i64 xv24) rfl) rfl<|O (r_assign (v:=Value.int .i64 14) rfl) rfl<|OW_nil<|WP_ret ?_
            obtain rfl:=Option.some.inj hM
            refine fun hr=>?_
            have hM:=congrArg some hr
            obtain rfl:=Option.some.inj hM
            have hM:=hKhx7
            obtain rfl:=Option.some.inj hM
            refine FL_nil hds ?_
            exact ⟨_,res3 Tryz.results26 (rv_cells (vs:=[Value.slice none 0 0,Value.slice none 0 0,Value.slice none 0 0]) ti37 rfl rfl (hs.cells (i:=1) rfl)) (rv_tmp (v:=Value.int .i64 xv24) rfl) (rv_tmp (v:=Value.int .i64 14) rfl),gg51,⟨_,_,_,rfl,⟨[Value.slice none 0 0,Value.slice none 0 0,Value.slice none 0 0],rfl,⟨[Value.slice none 0 0],[Value.slice none 0 0],[Value.slice none 0 0],rfl,⟨_,rfl,RdS.nil⟩,⟨_,rfl,RdS.nil⟩,⟨_,rfl,RdS.nil⟩⟩⟩,⟨[Value.int .i64 xv24],rfl,rfl⟩,⟨[Value.int .i64 14],rfl,rfl⟩⟩,hs.ext⟩
           ·refine WP_false rfl hc33<|WP_skip<|WP_region ?_
            obtain ⟨t12,ht12,hM⟩:=bindS hM
            refine O (r_addM rfl rfl ht12) rfl<|O (r_move (v:=Value.int .i64 t12) rfl) rfl<|OW_nil ?_
            obtain rfl:=Option.some.inj hM
            exact ⟨gg51,rfl,rfl,rfl,rfl,rfl,rfl,hds,hlegg43,hs⟩
        ·refine WP_false rfl hc31<|WP_exit ?_
         obtain rfl:=Option.some.inj hM
         refine fun hr=>?_
         have hM:=congrArg some hr
         obtain rfl:=Option.some.inj hM
         exact ⟨(),rfl,gg43,rfl,rfl,hds,hlegg43,hs⟩
       ·clear hs
        rintro E w ⟨_,rfl,gg37,hE2,hE12,hds,hlegg37,hs⟩
        have hM:=hKhx7
        dsimp only [onStep] at hM
        obtain ⟨E,rfl⟩:=open2 (E:=E) hE2 hE12
        replace hRv60:=hRv60.mono hlegg37
        replace hRv61:=hRv61.mono hlegg37
        replace hRv62:=hRv62.mono hlegg37
        refine WP_seq<|WP_region<|O (r_loadN (cs:=[v60,v61,v62]) ti37 rfl rfl (hs.cells (i:=0) rfl)) rfl<|OW_storeAll ti37 hs (i:=1) rfl rfl (v:=Value.agg (List.toArray (α:=Value) [v60,v61,v62])) rfl (vs:=[v60,v61,v62]) rfl (one_cons (by obtain ⟨_,_,h9⟩:=hRv60.shape; rw [h9]; rfl) (one_cons (by obtain ⟨_,_,h9⟩:=hRv61.shape; rw [h9]; rfl) (one_cons (by obtain ⟨_,_,h9⟩:=hRv62.shape; rw [h9]; rfl) one_nil))) rfl rfl ?_
        intro wv105 hs
        refine O (r_assign (v:=Value.int .i64 0) rfl) rfl<|O (r_assign (v:=Value.int .i64 0) rfl) rfl<|OW_nil<|WP_ret ?_
        obtain rfl:=Option.some.inj hM
        refine FL_nil hds ?_
        exact ⟨_,res3 Tryz.results26 (rv_cells (vs:=[v60,v61,v62]) ti37 rfl rfl (hs.cells (i:=1) rfl)) (rv_tmp (v:=Value.int .i64 0) rfl) (rv_tmp (v:=Value.int .i64 0) rfl),gg37,⟨_,_,_,rfl,⟨[v60,v61,v62],rfl,⟨[v60],[v61],[v62],rfl,⟨_,rfl,hRv60⟩,⟨_,rfl,hRv61⟩,⟨_,rfl,hRv62⟩⟩⟩,⟨[Value.int .i64 0],rfl,rfl⟩,⟨[Value.int .i64 0],rfl,rfl⟩⟩,hs.ext⟩
set_option maxRecDepth 100000 in
theorem lexspec_Check_ok {spec1:T_LexSpec} {r:Int×Int} (hM:M.lexspec_Check spec1=some r) {g0:Hp} {w0:World} (hi:Imm g0 w0) {cs1:List Value} (hcs1:tT_LexSpec.rel g0 cs1 spec1) (hG0:GBox 0 (M.layoutTerms.map encS) g0) :
    CallsV Tryz.prog 19 #[Value.agg cs1.toArray] w0 (fun v w'=>∃g',(∃v1 v2,v=.tuple #[v1,v2]∧VRd (tInt .i64) false g' v1 r.1∧VRd (tInt .i64) false g' v2 r.2)∧Ext g0 w0 g' w'):=by
 unfold M.lexspec_Check at hM
 obtain ⟨cs2,cs3,cs4,cs5,rfl,hcs2,hcs3,hcs4,hcs5⟩:=hcs1
 obtain ⟨v1,rfl,hRv1⟩:=hcs2
 have hcs3:cs3=_:=hcs3; subst hcs3
 have hcs4:cs4=_:=hcs4; subst hcs4
 have hcs5:cs5=_:=hcs5; subst hcs5
 have hs:=Sep.start hi
 refine calls_of_WP (args:=[Value.agg (List.toArray (α:=Value) [v1,Value.bool spec1.Layout,Value.int .i64 spec1.Misspelling,Value.int .i64 spec1.Unclosed])]) Tryz.func19 rfl Tryz.ntmps19 rfl ?_
 have hds:(argEnv [Value.agg (List.toArray (α:=Value) [v1,Value.bool spec1.Layout,Value.int .i64 spec1.Misspelling,Value.int .i64 spec1.Unclosed])]).ds=[]:=rfl
 refine WP_seq<|WP_region<|OW_box (v:=Value.agg (List.toArray (α:=Value) [v1,Value.bool spec1.Layout,Value.int .i64 spec1.Misspelling,Value.int .i64 spec1.Unclosed])) rfl hs (zs:=[v1,Value.bool spec1.Layout,Value.int .i64 spec1.Misspelling,Value.int .i64 spec1.Unclosed]) rfl rfl ?_
 intro b1 wv1 hs
 refine O (r_assign (v:=Value.int .i64 0) rfl) rfl<|O (r_assign (v:=Value.int .i64 0) rfl) rfl<|OW_nil<|WP_seq<|WP_region<|O (r_loadN (cs:=[v1,Value.bool spec1.Layout,Value.int .i64 spec1.Misspelling,Value.int .i64 spec1.Unclosed]) ti24 rfl rfl (hs.cells (i:=0) rfl)) rfl ?_
 obtain ⟨rv1,hrv1,hM⟩:=bindS hM
 refine C [Value.agg (List.toArray (α:=Value) [v1,Value.bool spec1.Layout,Value.int .i64 spec1.Misspelling,Value.int .i64 spec1.Unclosed])] cf26 rfl (lexspec_compile_ok hrv1 hs.imm (⟨[v1],[Value.bool spec1.Layout],[Value.int .i64 spec1.Misspelling],[Value.int .i64 spec1.Unclosed],rfl,⟨_,rfl,hRv1⟩,rfl,rfl,rfl⟩) hG0) rfl ?_
 rintro v2 wv2 ⟨gg1,hvv2,hegg1⟩
 have hlegg1:=hegg1.le hs.imm
 replace hs:=hs.call hegg1
 obtain ⟨v3,v4,v5,rfl,hvv3,hvv4,hvv5⟩:=hvv2
 obtain ⟨cs6,rfl,hcs6⟩:=hvv5
 have hcs6:cs6=_:=hcs6; subst hcs6
 obtain ⟨cs7,rfl,hcs7⟩:=hvv4
 have hcs7:cs7=_:=hcs7; subst hcs7
 obtain ⟨cs8,rfl,hcs8⟩:=hvv3
 obtain ⟨cs9,cs10,cs11,rfl,hcs9,hcs10,hcs11⟩:=hcs8
 obtain ⟨v6,rfl,hRv6⟩:=hcs9
 obtain ⟨v7,rfl,hRv7⟩:=hcs10
 obtain ⟨v8,rfl,hRv8⟩:=hcs11
 refine O (r_move (v:=Value.tuple #[Value.agg (List.toArray (α:=Value) [v6,v7,v8]),Value.int .i64 rv1.2.1,Value.int .i64 rv1.2.2]) rfl) rfl<|O (r_extract (vs:=[Value.agg (List.toArray (α:=Value) [v6,v7,v8]),Value.int .i64 rv1.2.1,Value.int .i64 rv1.2.2]) (v:=Value.agg (List.toArray (α:=Value) [v6,v7,v8])) rfl rfl) rfl<|O (r_extract (vs:=[Value.agg (List.toArray (α:=Value) [v6,v7,v8]),Value.int .i64 rv1.2.1,Value.int .i64 rv1.2.2]) (v:=Value.int .i64 rv1.2.1) rfl rfl) rfl<|O (r_extract (vs:=[Value.agg (List.toArray (α:=Value) [v6,v7,v8]),Value.int .i64 rv1.2.1,Value.int .i64 rv1.2.2]) (v:=Value.int .i64 rv1.2.2) rfl rfl) rfl<|OW_alloc ti37 hs (zs:=[Value.slice none 0 0,Value.slice none 0 0,Value.slice none 0 0]) rfl rfl ?_
 intro b2 wv3 hs
 refine OW_storeAll ti37 hs (i:=0) rfl rfl (v:=Value.agg (List.toArray (α:=Value) [v6,v7,v8])) rfl (vs:=[v6,v7,v8]) rfl (one_cons (by obtain ⟨_,_,h9⟩:=hRv6.shape; rw [h9]; rfl) (one_cons (by obtain ⟨_,_,h9⟩:=hRv7.shape; rw [h9]; rfl) (one_cons (by obtain ⟨_,_,h9⟩:=hRv8.shape; rw [h9]; rfl) one_nil))) rfl rfl ?_
 intro wv4 hs
 refine O (r_assign (v:=Value.int .i64 rv1.2.1) rfl) rfl<|O (r_assign (v:=Value.int .i64 rv1.2.2) rfl) rfl<|OW_nil<|WP_seq<|WP_region<|O (r_move (v:=Value.int .i64 rv1.2.1) rfl) rfl<|O (r_move (v:=Value.int .i64 rv1.2.2) rfl) rfl<|O (r_assign (v:=Value.int .i64 rv1.2.1) rfl) rfl<|O (r_assign (v:=Value.int .i64 rv1.2.2) rfl) rfl<|OW_nil<|WP_ret ?_
 obtain rfl:=Option.some.inj hM
 refine FL_nil hds ?_
 exact ⟨_,res2 Tryz.results19 (rv_tmp (v:=Value.int .i64 rv1.2.1) rfl) (rv_tmp (v:=Value.int .i64 rv1.2.2) rfl),gg1,⟨_,_,rfl,⟨[Value.int .i64 rv1.2.1],rfl,rfl⟩,⟨[Value.int .i64 rv1.2.2],rfl,rfl⟩⟩,hs.ext⟩
set_option maxRecDepth 100000 in
theorem lexspec_Compile_ok {spec1:T_LexSpec} {r:T_DFA×Int} (hM:M.lexspec_Compile spec1=some r) {g0:Hp} {w0:World} (hi:Imm g0 w0) {cs1:List Value} (hcs1:tT_LexSpec.rel g0 cs1 spec1) (hG0:GBox 0 (M.layoutTerms.map encS) g0) :
    CallsV Tryz.prog 16 #[Value.agg cs1.toArray] w0 (fun v w'=>∃g',(∃v1 v2,v=.tuple #[v1,v2]∧VRd tT_DFA true g' v1 r.1∧VRd (tInt .i64) false g' v2 r.2)∧Ext g0 w0 g' w'):=by
 unfold M.lexspec_Compile at hM
 obtain ⟨cs2,cs3,cs4,cs5,rfl,hcs2,hcs3,hcs4,hcs5⟩:=hcs1
 obtain ⟨v1,rfl,hRv1⟩:=hcs2
 have hcs3:cs3=_:=hcs3; subst hcs3
 have hcs4:cs4=_:=hcs4; subst hcs4
 have hcs5:cs5=_:=hcs5; subst hcs5
 have hs:=Sep.start hi
 refine calls_of_WP (args:=[Value.agg (List.toArray (α:=Value) [v1,Value.bool spec1.Layout,Value.int .i64 spec1.Misspelling,Value.int .i64 spec1.Unclosed])]) Tryz.func16 rfl Tryz.ntmps16 rfl ?_
 have hds:(argEnv [Value.agg (List.toArray (α:=Value) [v1,Value.bool spec1.Layout,Value.int .i64 spec1.Misspelling,Value.int .i64 spec1.Unclosed])]).ds=[]:=rfl
 refine WP_seq<|WP_region<|OW_box (v:=Value.agg (List.toArray (α:=Value) [v1,Value.bool spec1.Layout,Value.int .i64 spec1.Misspelling,Value.int .i64 spec1.Unclosed])) rfl hs (zs:=[v1,Value.bool spec1.Layout,Value.int .i64 spec1.Misspelling,Value.int .i64 spec1.Unclosed]) rfl rfl ?_
 intro b1 wv1 hs
 refine OW_alloc ti37 hs (zs:=[Value.slice none 0 0,Value.slice none 0 0,Value.slice none 0 0]) rfl rfl ?_
 intro b2 wv2 hs
 refine O (r_assign (v:=Value.int .i64 0) rfl) rfl<|OW_nil<|WP_seq<|WP_region<|O (r_loadN (cs:=[v1,Value.bool spec1.Layout,Value.int .i64 spec1.Misspelling,Value.int .i64 spec1.Unclosed]) ti24 rfl rfl (hs.cells (i:=1) rfl)) rfl ?_
 obtain ⟨rv1,hrv1,hM⟩:=bindS hM
 refine C [Value.agg (List.toArray (α:=Value) [v1,Value.bool spec1.Layout,Value.int .i64 spec1.Misspelling,Value.int .i64 spec1.Unclosed])] cf26 rfl (lexspec_compile_ok hrv1 hs.imm (⟨[v1],[Value.bool spec1.Layout],[Value.int .i64 spec1.Misspelling],[Value.int .i64 spec1.Unclosed],rfl,⟨_,rfl,hRv1⟩,rfl,rfl,rfl⟩) hG0) rfl ?_
 rintro v2 wv3 ⟨gg1,hvv2,hegg1⟩
 have hlegg1:=hegg1.le hs.imm
 replace hs:=hs.call hegg1
 obtain ⟨v3,v4,v5,rfl,hvv3,hvv4,hvv5⟩:=hvv2
 obtain ⟨cs6,rfl,hcs6⟩:=hvv5
 have hcs6:cs6=_:=hcs6; subst hcs6
 obtain ⟨cs7,rfl,hcs7⟩:=hvv4
 have hcs7:cs7=_:=hcs7; subst hcs7
 obtain ⟨cs8,rfl,hcs8⟩:=hvv3
 obtain ⟨cs9,cs10,cs11,rfl,hcs9,hcs10,hcs11⟩:=hcs8
 obtain ⟨v6,rfl,hRv6⟩:=hcs9
 obtain ⟨v7,rfl,hRv7⟩:=hcs10
 obtain ⟨v8,rfl,hRv8⟩:=hcs11
 refine O (r_move (v:=Value.tuple #[Value.agg (List.toArray (α:=Value) [v6,v7,v8]),Value.int .i64 rv1.2.1,Value.int .i64 rv1.2.2]) rfl) rfl<|O (r_extract (vs:=[Value.agg (List.toArray (α:=Value) [v6,v7,v8]),Value.int .i64 rv1.2.1,Value.int .i64 rv1.2.2]) (v:=Value.agg (List.toArray (α:=Value) [v6,v7,v8])) rfl rfl) rfl<|O (r_extract (vs:=[Value.agg (List.toArray (α:=Value) [v6,v7,v8]),Value.int .i64 rv1.2.1,Value.int .i64 rv1.2.2]) (v:=Value.int .i64 rv1.2.1) rfl rfl) rfl<|O (r_extract (vs:=[Value.agg (List.toArray (α:=Value) [v6,v7,v8]),Value.int .i64 rv1.2.1,Value.int .i64 rv1.2.2]) (v:=Value.int .i64 rv1.2.2) rfl rfl) rfl<|OW_alloc ti37 hs (zs:=[Value.slice none 0 0,Value.slice none 0 0,Value.slice none 0 0]) rfl rfl ?_
 intro b3 wv4 hs
 refine OW_storeAll ti37 hs (i:=0) rfl rfl (v:=Value.agg (List.toArray (α:=Value) [v6,v7,v8])) rfl (vs:=[v6,v7,v8]) rfl (one_cons (by obtain ⟨_,_,h9⟩:=hRv6.shape; rw [h9]; rfl) (one_cons (by obtain ⟨_,_,h9⟩:=hRv7.shape; rw [h9]; rfl) (one_cons (by obtain ⟨_,_,h9⟩:=hRv8.shape; rw [h9]; rfl) one_nil))) rfl rfl ?_
 intro wv5 hs
 refine O (r_assign (v:=Value.int .i64 rv1.2.1) rfl) rfl<|O (r_assign (v:=Value.int .i64 rv1.2.2) rfl) rfl<|OW_nil<|WP_seq<|WP_region<|O (r_loadN (cs:=[v6,v7,v8]) ti37 rfl rfl (hs.cells (i:=0) rfl)) rfl<|O (r_move (v:=Value.int .i64 rv1.2.2) rfl) rfl<|OW_storeAll ti37 hs (i:=1) rfl rfl (v:=Value.agg (List.toArray (α:=Value) [v6,v7,v8])) rfl (vs:=[v6,v7,v8]) rfl (one_cons (by obtain ⟨_,_,h9⟩:=hRv6.shape; rw [h9]; rfl) (one_cons (by obtain ⟨_,_,h9⟩:=hRv7.shape; rw [h9]; rfl) (one_cons (by obtain ⟨_,_,h9⟩:=hRv8.shape; rw [h9]; rfl) one_nil))) rfl rfl ?_
 intro wv6 hs
 refine O (r_assign (v:=Value.int .i64 rv1.2.2) rfl) rfl<|OW_nil<|WP_ret ?_
 obtain rfl:=Option.some.inj hM
 refine FL_nil hds ?_
 exact ⟨_,res2 Tryz.results16 (rv_cells (vs:=[v6,v7,v8]) ti37 rfl rfl (hs.cells (i:=1) rfl)) (rv_tmp (v:=Value.int .i64 rv1.2.2) rfl),gg1,⟨_,_,rfl,⟨[v6,v7,v8],rfl,⟨[v6],[v7],[v8],rfl,⟨_,rfl,hRv6⟩,⟨_,rfl,hRv7⟩,⟨_,rfl,hRv8⟩⟩⟩,⟨[Value.int .i64 rv1.2.2],rfl,rfl⟩⟩,hs.ext⟩
set_option maxRecDepth 100000 in
theorem ref11_Small_ok {r:T_LexSpec} (hM:M.ref11_Small=some r) {g0:Hp} {w0:World} (hi:Imm g0 w0) :
    CallsV Tryz.prog 23 #[] w0 (fun v w'=>∃g',(VRd tT_LexSpec true g' v r)∧Ext g0 w0 g' w'):=by
 unfold M.ref11_Small at hM
 have hs:=Sep.start hi
 refine calls_of_WP (args:=[]) Tryz.func23 rfl Tryz.ntmps23 rfl ?_
 have hds:(argEnv []).ds=[]:=rfl
 refine WP_seq<|WP_region<|OW_alloc ti24 hs (zs:=[Value.slice none 0 0,Value.bool false,Value.int .i64 0,Value.int .i64 0]) rfl rfl ?_
 intro b1 wv1 hs
 refine OW_nil<|WP_seq<|WP_region<|O (r_build (vs:=[(0,encS [105,102]),(1,Value.int .i64 3),(2,encS [105,102]),(3,encS [105,102])]) (cs:=[encS [105,102],Value.int .i64 3,encS [105,102],encS [105,102],encS []]) rfl (by kernel_rfl)) rfl<|O (r_build (vs:=[(0,encS [119,111,114,100]),(1,Value.int .i64 1),(2,encS [91,97,45,122,93,43]),(3,encS [120])]) (cs:=[encS [119,111,114,100],Value.int .i64 1,encS [91,97,45,122,93,43],encS [120],encS []]) rfl (by kernel_rfl)) rfl<|O (r_build (vs:=[(0,encS [115,112,97,99,101]),(1,Value.int .i64 2),(2,encS [32,43]),(3,encS [32])]) (cs:=[encS [115,112,97,99,101],Value.int .i64 2,encS [32,43],encS [32],encS []]) rfl (by kernel_rfl)) rfl ?_
 refine O (r_build (vs:=[(0,encS [116,101,120,116]),(1,Value.int .i64 1),(2,encS [39,91,94,39,92,110,93,42,39]),(3,encS [39,39]),(4,encS [39])]) (cs:=[encS [116,101,120,116],Value.int .i64 1,encS [39,91,94,39,92,110,93,42,39],encS [39,39],encS [39]]) rfl (by kernel_rfl)) rfl<|OW_lit (τ:=tT_TokenDef) [Value.agg (List.toArray (α:=Value) [encS [105,102],Value.int .i64 3,encS [105,102],encS [105,102],encS []]),Value.agg (List.toArray (α:=Value) [encS [119,111,114,100],Value.int .i64 1,encS [91,97,45,122,93,43],encS [120],encS []]),Value.agg (List.toArray (α:=Value) [encS [115,112,97,99,101],Value.int .i64 2,encS [32,43],encS [32],encS []]),Value.agg (List.toArray (α:=Value) [encS [116,101,120,116],Value.int .i64 1,encS [39,91,94,39,92,110,93,42,39],encS [39,39],encS [39]])] [(T_TokenDef.mk [105,102] 3 [105,102] [105,102] []),(T_TokenDef.mk [119,111,114,100] 1 [91,97,45,122,93,43] [120] []),(T_TokenDef.mk [115,112,97,99,101] 2 [32,43] [32] []),(T_TokenDef.mk [116,101,120,116] 1 [39,91,94,39,92,110,93,42,39] [39,39] [39])] Tryz.underlying22 ti46 (by decide) hs rfl rfl rfl ⟨⟨[encS [105,102]],[Value.int .i64 3],[encS [105,102]],[encS [105,102]],[encS []],rfl,rfl,rfl,rfl,rfl,rfl⟩,⟨[encS [119,111,114,100]],[Value.int .i64 1],[encS [91,97,45,122,93,43]],[encS [120]],[encS []],rfl,rfl,rfl,rfl,rfl,rfl⟩,⟨[encS [115,112,97,99,101]],[Value.int .i64 2],[encS [32,43]],[encS [32]],[encS []],rfl,rfl,rfl,rfl,rfl,rfl⟩,⟨[encS [116,101,120,116]],[Value.int .i64 1],[encS [39,91,94,39,92,110,93,42,39]],[encS [39,39]],[encS [39]],rfl,rfl,rfl,rfl,rfl,rfl⟩,trivial⟩ rfl ?_
 intro v1 wv2 xs1 hrelxs1 hs
 have ho1:=one_of_shape (hs.rowShape (i:=0) rfl)
 refine O (r_build (vs:=[(0,v1),(2,Value.int .i64 4),(3,Value.int .i64 6)]) (cs:=[v1,Value.bool false,Value.int .i64 4,Value.int .i64 6]) rfl (built_fill [(0,1),(1,1),(2,1),(3,1)] [Value.slice none 0 0,Value.bool false,Value.int .i64 0,Value.int .i64 0] (fun _=>by kernel_rfl) (fill_step ([]) ([Value.slice none 0 0]) ([Value.bool false,Value.int .i64 0,Value.int .i64 0]) ([v1]) rfl rfl (cells_one ho1) rfl rfl rfl<|fill_step ([v1,Value.bool false]) ([Value.int .i64 0]) ([Value.int .i64 0]) ([Value.int .i64 4]) rfl rfl rfl rfl rfl rfl<|fill_step ([v1,Value.bool false,Value.int .i64 4]) ([Value.int .i64 0]) ([]) ([Value.int .i64 6]) rfl rfl rfl rfl rfl rfl<|fill_done))) rfl ?_
 refine OW_storeAll ti24 hs (i:=1) rfl rfl (v:=Value.agg (List.toArray (α:=Value) [v1,Value.bool false,Value.int .i64 4,Value.int .i64 6])) rfl (vs:=[v1,Value.bool false,Value.int .i64 4,Value.int .i64 6]) rfl (one_cons (by obtain ⟨_,_,h9⟩:=hs.rowShape (i:=0) rfl; rw [h9]; rfl) (one_cons rfl (one_cons rfl (one_cons rfl one_nil)))) rfl rfl ?_
 intro wv3 hs
 refine OW_nil<|WP_ret ?_
 obtain rfl:=Option.some.inj hM
 obtain ⟨gg1,hlegg1,hRgg1,hs⟩:=hs.relRow (i:=0) rfl hrelxs1
 refine FL_nil hds ?_
 exact ⟨_,res1 Tryz.results23 (rv_cells (vs:=[v1,Value.bool false,Value.int .i64 4,Value.int .i64 6]) ti24 rfl rfl (hs.cells (i:=0) rfl)),gg1,⟨[v1,Value.bool false,Value.int .i64 4,Value.int .i64 6],rfl,⟨[v1],[Value.bool false],[Value.int .i64 4],[Value.int .i64 6],rfl,⟨_,rfl,hRgg1⟩,rfl,rfl,rfl⟩⟩,hs.ext⟩
set_option maxRecDepth 100000 in
theorem lexspec_Separator_ok {spec1:T_LexSpec} {r:Str×Bool} (hM:M.lexspec_Separator spec1=some r) {g0:Hp} {w0:World} (hi:Imm g0 w0) {cs1:List Value} (hcs1:tT_LexSpec.rel g0 cs1 spec1) :
    CallsV Tryz.prog 11 #[Value.agg cs1.toArray] w0 (fun v w'=>∃g',(∃v1 v2,v=.tuple #[v1,v2]∧VRd tStr false g' v1 r.1∧VRd tBool false g' v2 r.2)∧Ext g0 w0 g' w'):=by
 unfold M.lexspec_Separator at hM
 obtain ⟨cs2,cs3,cs4,cs5,rfl,hcs2,hcs3,hcs4,hcs5⟩:=hcs1
 obtain ⟨v1,rfl,hRv1⟩:=hcs2
 have hcs3:cs3=_:=hcs3; subst hcs3
 have hcs4:cs4=_:=hcs4; subst hcs4
 have hcs5:cs5=_:=hcs5; subst hcs5
 have hs:=Sep.start hi
 refine calls_of_WP (args:=[Value.agg (List.toArray (α:=Value) [v1,Value.bool spec1.Layout,Value.int .i64 spec1.Misspelling,Value.int .i64 spec1.Unclosed])]) Tryz.func11 rfl Tryz.ntmps11 rfl ?_
 have hds:(argEnv [Value.agg (List.toArray (α:=Value) [v1,Value.bool spec1.Layout,Value.int .i64 spec1.Misspelling,Value.int .i64 spec1.Unclosed])]).ds=[]:=rfl
 refine WP_seq<|WP_region<|OW_box (v:=Value.agg (List.toArray (α:=Value) [v1,Value.bool spec1.Layout,Value.int .i64 spec1.Misspelling,Value.int .i64 spec1.Unclosed])) rfl hs (zs:=[v1,Value.bool spec1.Layout,Value.int .i64 spec1.Misspelling,Value.int .i64 spec1.Unclosed]) rfl rfl ?_
 intro b1 wv1 hs
 refine O (r_assign (v:=encS []) rfl) rfl<|O (r_assign (v:=Value.bool false) rfl) rfl<|OW_nil ?_
 obtain ⟨o3,hx1,hKhx1⟩:=stepS hM
 refine WP_cut (fun E w=>∃u9:Unit,o3=.next u9∧E.ds=[]∧Go.Lx.Sep g0 w0 g0 w []) ?_ ?_
 ·have hM:=hx1
  have hag0:=Hle.refl g0
  refine WP_seq<|WP_region<|O (r_fieldAddr Tryz.underlying24 ti22 rfl rfl (by decide) rfl rfl) rfl<|O (r_load (v:=v1) ti22 rfl (hs.cell (i:=0) (o:=0) rfl rfl)) rfl ?_
  obtain ⟨a2,ca2,hva2⟩:=hRv1.shape
  refine O (r_lenSl (v:=v1) Tryz.underlying22 rfl hva2) rfl<|O (r_move (v:=Value.int .i64 0) rfl) rfl<|OW_nil<|WP_block<|WP_loop (fun (xv5:Int) E w=>E 7=v1∧E 8=Value.int .i64 (spec1.Defs.length:Int)∧E 9=Value.int .i64 xv5∧E.ds=[]∧Go.Lx.Sep g0 w0 g0 w []) hM ⟨rfl,rfl,rfl,hds,(hs.sub (.cons _ .slnil))⟩ ?_
  clear hs hM
  rintro xv5 o2 E w hM ⟨hE7,hE8,hE9,hds,hs⟩
  obtain ⟨E,rfl⟩:=open3 (E:=E) hE7 hE8 hE9
  refine WP_seq<|WP_region<|O (r_lss rfl rfl) rfl<|OW_nil<|WP_seq ?_
  rcases condS hM with ⟨hc11,hM⟩|⟨hc11,hM⟩
  ·refine WP_true rfl hc11<|WP_skip<|WP_seq<|WP_block<|WP_seq<|WP_region ?_
   obtain ⟨e6,he6,hM⟩:=bindS hM
   obtain ⟨b12,ob12,cb12,hvb12,cs36,hcs36,hcb12⟩:=hRv1.at he6
   obtain ⟨cs37,cs38,cs39,cs40,cs41,rfl,hcs37,hcs38,hcs39,hcs40,hcs41⟩:=hcs36
   have hcs37:cs37=_:=hcs37; subst hcs37
   have hcs38:cs38=_:=hcs38; subst hcs38
   have hcs39:cs39=_:=hcs39; subst hcs39
   have hcs40:cs40=_:=hcs40; subst hcs40
   have hcs41:cs41=_:=hcs41; subst hcs41
   refine O (r_idxSl Tryz.underlying22 ti46 (v:=v1) rfl hvb12 rfl (idxL_some he6).1 (idxL_some he6).2.1) rfl<|O (r_loadEl (cs:=[encS e6.Name,Value.int .i64 e6.Kind,encS e6.Pattern,encS e6.Sample,encS e6.Close]) ti46 rfl rfl (.inl rfl) (hcb12 _ hs.imm) (v:=Value.agg (List.toArray (α:=Value) [encS e6.Name,Value.int .i64 e6.Kind,encS e6.Pattern,encS e6.Sample,encS e6.Close])) rfl) rfl<|OW_alloc ti46 hs (zs:=[encS [],Value.int .i64 0,encS [],encS [],encS []]) rfl rfl ?_
   intro b13 wv12 hs
   refine OW_storeAll ti46 hs (i:=0) rfl rfl (v:=Value.agg (List.toArray (α:=Value) [encS e6.Name,Value.int .i64 e6.Kind,encS e6.Pattern,encS e6.Sample,encS e6.Close])) rfl (vs:=[encS e6.Name,Value.int .i64 e6.Kind,encS e6.Pattern,encS e6.Sample,encS e6.Close]) rfl (one_cons rfl (one_cons rfl (one_cons rfl (one_cons rfl (one_cons rfl one_nil))))) rfl rfl ?_
   intro wv13 hs
   refine OW_nil<|WP_seq<|WP_region<|O (r_fieldAddr Tryz.underlying46 ti3 rfl rfl (by decide) rfl rfl) rfl<|O (r_load (v:=Value.int .i64 e6.Kind) ti3 rfl (hs.cell (i:=0) (o:=1) rfl rfl)) rfl<|O (r_eql rfl rfl) rfl<|OW_nil ?_
   rcases condS hM with ⟨hc12,hM⟩|⟨hc12,hM⟩
   ·refine WP_true rfl hc12<|WP_seq<|WP_region<|O (r_fieldAddr Tryz.underlying46 ti9 rfl rfl (by decide) rfl rfl) rfl<|O (r_load (v:=encS e6.Sample) ti9 rfl (hs.cell (i:=0) (o:=3) rfl rfl)) rfl<|O (r_assign (v:=encS e6.Sample) rfl) rfl<|O (r_assign (v:=Value.bool true) rfl) rfl<|OW_nil<|WP_ret ?_
    obtain rfl:=Option.some.inj hM
    refine fun hr=>?_
    have hM:=congrArg some hr
    obtain rfl:=Option.some.inj hM
    have hM:=hKhx1
    obtain rfl:=Option.some.inj hM
    refine FL_nil hds ?_
    exact ⟨_,res2 Tryz.results11 (rv_tmp (v:=encS e6.Sample) rfl) (rv_tmp (v:=Value.bool true) rfl),g0,⟨_,_,rfl,⟨[encS e6.Sample],rfl,rfl⟩,⟨[Value.bool true],rfl,rfl⟩⟩,hs.ext⟩
   ·refine WP_false rfl hc12<|WP_skip<|WP_region ?_
    obtain ⟨t6,ht6,hM⟩:=bindS hM
    refine O (r_addM rfl rfl ht6) rfl<|O (r_move (v:=Value.int .i64 t6) rfl) rfl<|OW_nil ?_
    obtain rfl:=Option.some.inj hM
    exact ⟨rfl,rfl,rfl,hds,(hs.sub (.cons _ .slnil))⟩
  ·refine WP_false rfl hc11<|WP_exit ?_
   obtain rfl:=Option.some.inj hM
   refine fun hr=>?_
   have hM:=congrArg some hr
   obtain rfl:=Option.some.inj hM
   exact ⟨(),rfl,hds,hs⟩
 ·clear hs
  rintro E w ⟨_,rfl,hds,hs⟩
  have hM:=hKhx1
  dsimp only [onStep] at hM
  refine WP_seq<|WP_region<|O (r_assign (v:=encS []) rfl) rfl<|O (r_assign (v:=Value.bool false) rfl) rfl<|OW_nil<|WP_ret ?_
  obtain rfl:=Option.some.inj hM
  refine FL_nil hds ?_
  exact ⟨_,res2 Tryz.results11 (rv_tmp (v:=encS []) rfl) (rv_tmp (v:=Value.bool false) rfl),g0,⟨_,_,rfl,⟨[encS []],rfl,rfl⟩,⟨[Value.bool false],rfl,rfl⟩⟩,hs.ext⟩
set_option maxRecDepth 100000 in
theorem ref10_Valid_ok {p1:T_DFA} {r:Bool} (hM:M.ref10_Valid p1=some r) {g0:Hp} {w0:World} (hi:Imm g0 w0) {cs1:List Value} (hcs1:tT_DFA.rel g0 cs1 p1) :
    CallsV Tryz.prog 17 #[Value.agg cs1.toArray] w0 (fun v w'=>∃g',(VRd tBool false g' v r)∧Ext g0 w0 g' w'):=by
 unfold M.ref10_Valid at hM
 obtain ⟨cs2,cs3,cs4,rfl,hcs2,hcs3,hcs4⟩:=hcs1
 obtain ⟨v1,rfl,hRv1⟩:=hcs2
 obtain ⟨v2,rfl,hRv2⟩:=hcs3
 obtain ⟨v3,rfl,hRv3⟩:=hcs4
 have hs:=Sep.start hi
 refine calls_of_WP (args:=[Value.agg (List.toArray (α:=Value) [v1,v2,v3])]) Tryz.func17 rfl Tryz.ntmps17 rfl ?_
 have hds:(argEnv [Value.agg (List.toArray (α:=Value) [v1,v2,v3])]).ds=[]:=rfl
 refine WP_seq<|WP_region<|OW_box (v:=Value.agg (List.toArray (α:=Value) [v1,v2,v3])) rfl hs (zs:=[v1,v2,v3]) rfl rfl ?_
 intro b1 wv1 hs
 refine O (r_assign (v:=Value.bool false) rfl) rfl<|OW_nil<|WP_seq<|WP_region<|O (r_fieldAddr Tryz.underlying37 ti35 rfl rfl (by decide) rfl rfl) rfl<|O (r_load (v:=v2) ti35 rfl (hs.cell (i:=0) (o:=1) rfl rfl)) rfl ?_
 obtain ⟨a1,ca1,hva1⟩:=hRv2.shape
 refine O (r_lenSl (v:=v2) Tryz.underlying35 rfl hva1) rfl<|O (r_assign (v:=Value.int .i64 (p1.Next.length:Int)) rfl) rfl<|OW_nil<|WP_seq ?_
 obtain ⟨xv1,hx1,hKhx1⟩:=bindS hM
 refine WP_cut (fun E w=>E 1=Value.pointer (some ⟨b1,0,none⟩)∧E 3=Value.int .i64 (p1.Next.length:Int)∧E 29=Value.bool xv1∧E.ds=[]∧Go.Lx.Sep g0 w0 g0 w [Go.Lx.box b1 37 ([v1,v2,v3])]) ?_ ?_
 ·have hM:=hx1
  have hag0:=Hle.refl g0
  refine WP_region<|O (r_fieldAddr Tryz.underlying37 ti34 rfl rfl (by decide) rfl rfl) rfl<|O (r_load (v:=v1) ti34 rfl (hs.cell (i:=0) (o:=0) rfl rfl)) rfl ?_
  obtain ⟨a4,ca4,hva4⟩:=hRv1.shape
  refine O (r_lenSl (v:=v1) Tryz.underlying34 rfl hva4) rfl<|O (r_neq rfl rfl) rfl<|O (r_move (v:=Value.bool ((p1.Class.length:Int) != 256)) rfl) rfl ?_
  rcases condS hM with ⟨hg4,hM⟩|⟨hg4,hM⟩
  ·refine OK rfl rfl rfl (by rw [hg4]; rfl) rfl<|OK rfl rfl rfl (by rw [hg4]; rfl) rfl<|O (r_pickT (v:=Value.bool true) rfl hg4 rfl) rfl<|O (r_move (v:=Value.bool true) rfl) rfl<|OK rfl rfl rfl rfl rfl<|OK rfl rfl rfl rfl rfl<|O (r_pickT (v:=Value.bool true) rfl rfl rfl) rfl<|O (r_move (v:=Value.bool true) rfl) rfl<|OK rfl rfl rfl rfl rfl<|OK rfl rfl rfl rfl rfl<|OK rfl rfl rfl rfl rfl<|OK rfl rfl rfl rfl rfl<|OK rfl rfl rfl rfl rfl<|O (r_pickT (v:=Value.bool true) rfl rfl rfl) rfl<|OW_nil ?_
   obtain rfl:=Option.some.inj hM
   exact ⟨rfl,rfl,rfl,hds,hs⟩
  ·refine OG rfl rfl rfl (by rw [hg4]; rfl) (r_move (v:=Value.int .i64 (p1.Next.length:Int)) rfl) rfl<|OG rfl rfl rfl (by rw [hg4]; rfl) (r_lss rfl rfl) rfl<|O (r_pickF (v:=Value.bool (decide ((p1.Next.length:Int)<1))) rfl hg4 rfl) rfl<|O (r_move (v:=Value.bool (decide ((p1.Next.length:Int)<1))) rfl) rfl ?_
   rcases condS hM with ⟨hg5,hM⟩|⟨hg5,hM⟩
   ·refine OK rfl rfl rfl (by rw [hg5]; rfl) rfl<|OK rfl rfl rfl (by rw [hg5]; rfl) rfl<|O (r_pickT (v:=Value.bool true) rfl hg5 rfl) rfl<|O (r_move (v:=Value.bool true) rfl) rfl<|OK rfl rfl rfl rfl rfl<|OK rfl rfl rfl rfl rfl<|OK rfl rfl rfl rfl rfl<|OK rfl rfl rfl rfl rfl<|OK rfl rfl rfl rfl rfl<|O (r_pickT (v:=Value.bool true) rfl rfl rfl) rfl<|OW_nil ?_
    obtain rfl:=Option.some.inj hM
    exact ⟨rfl,rfl,rfl,hds,hs⟩
   ·refine OG rfl rfl rfl (by rw [hg5]; rfl) (r_move (v:=Value.int .i64 (p1.Next.length:Int)) rfl) rfl<|OG rfl rfl rfl (by rw [hg5]; rfl) (r_gtr rfl rfl) rfl<|O (r_pickF (v:=Value.bool (decide (500<(p1.Next.length:Int)))) rfl hg5 rfl) rfl<|O (r_move (v:=Value.bool (decide (500<(p1.Next.length:Int)))) rfl) rfl ?_
    rcases condS hM with ⟨hg6,hM⟩|⟨hg6,hM⟩
    ·refine OK rfl rfl rfl (by rw [hg6]; rfl) rfl<|OK rfl rfl rfl (by rw [hg6]; rfl) rfl<|OK rfl rfl rfl (by rw [hg6]; rfl) rfl<|OK rfl rfl rfl (by rw [hg6]; rfl) rfl<|OK rfl rfl rfl (by rw [hg6]; rfl) rfl<|O (r_pickT (v:=Value.bool true) rfl hg6 rfl) rfl<|OW_nil ?_
     obtain rfl:=Option.some.inj hM
     exact ⟨rfl,rfl,rfl,hds,hs⟩
    ·refine OG rfl rfl rfl (by rw [hg6]; rfl) (r_fieldAddr Tryz.underlying37 ti34 rfl rfl (by decide) rfl rfl) rfl<|OG rfl rfl rfl (by rw [hg6]; rfl) (r_load (v:=v3) ti34 rfl (hs.cell (i:=0) (o:=2) rfl rfl)) rfl ?_
     obtain ⟨a5,ca5,hva5⟩:=hRv3.shape
     refine OG rfl rfl rfl (by rw [hg6]; rfl) (r_lenSl (v:=v3) Tryz.underlying34 rfl hva5) rfl<|OG rfl rfl rfl (by rw [hg6]; rfl) (r_move (v:=Value.int .i64 (p1.Next.length:Int)) rfl) rfl<|OG rfl rfl rfl (by rw [hg6]; rfl) (r_neq rfl rfl) rfl<|O (r_pickF (v:=Value.bool ((p1.Accept.length:Int) != (p1.Next.length:Int))) rfl hg6 rfl) rfl<|OW_nil ?_
     obtain rfl:=Option.some.inj hM
     exact ⟨rfl,rfl,rfl,hds,hs⟩
 ·clear hs
  rintro E w ⟨hE1,hE3,hE29,hds,hs⟩
  have hM:=hKhx1
  obtain ⟨E,rfl⟩:=open3 (E:=E) hE1 hE3 hE29
  rcases condS hM with ⟨hc1,hM⟩|⟨hc1,hM⟩
  ·refine WP_true rfl hc1<|WP_seq<|WP_region<|O (r_assign (v:=Value.bool false) rfl) rfl<|OW_nil<|WP_ret ?_
   obtain rfl:=Option.some.inj hM
   refine FL_nil hds ?_
   exact ⟨_,res1 Tryz.results17 (rv_tmp (v:=Value.bool false) rfl),g0,⟨[Value.bool false],rfl,rfl⟩,hs.ext⟩
  ·refine WP_false rfl hc1<|WP_skip<|WP_seq<|WP_region<|O (r_fieldAddr Tryz.underlying37 ti35 rfl rfl (by decide) rfl rfl) rfl<|O (r_load (v:=v2) ti35 rfl (hs.cell (i:=0) (o:=1) rfl rfl)) rfl ?_
   obtain ⟨e1,he1,hM⟩:=bindS hM
   obtain ⟨b2,ob2,cb2,hvb2,cs5,hcs5,hcb2⟩:=hRv2.at he1
   obtain ⟨v4,rfl,hRv4⟩:=hcs5
   refine O (r_idxSl Tryz.underlying35 ti34 (v:=v2) rfl hvb2 rfl (idxL_some he1).1 (idxL_some he1).2.1) rfl<|O (r_loadEl (cs:=[v4]) ti34 rfl rfl (.inr rfl) (hcb2 _ hs.imm) (v:=v4) rfl) rfl ?_
   obtain ⟨a6,ca6,hva6⟩:=hRv4.shape
   refine O (r_lenSl (v:=v4) Tryz.underlying34 rfl hva6) rfl<|O (r_assign (v:=Value.int .i64 (e1.length:Int)) rfl) rfl<|OW_nil<|WP_seq<|WP_seq<|WP_region<|O (r_move (v:=Value.int .i64 (e1.length:Int)) rfl) rfl<|O (r_lss rfl rfl) rfl<|OW_nil ?_
   rcases condS hM with ⟨hc2,hM⟩|⟨hc2,hM⟩
   ·refine WP_true rfl hc2<|WP_seq<|WP_region<|O (r_assign (v:=Value.bool false) rfl) rfl<|OW_nil<|WP_ret ?_
    obtain rfl:=Option.some.inj hM
    refine FL_nil hds ?_
    exact ⟨_,res1 Tryz.results17 (rv_tmp (v:=Value.bool false) rfl),g0,⟨[Value.bool false],rfl,rfl⟩,hs.ext⟩
   ·refine WP_false rfl hc2<|WP_skip ?_
    obtain ⟨o3,hx5,hKhx5⟩:=stepS hM
    refine WP_cut (fun E w=>∃u9:Unit,o3=.next u9∧E 1=Value.pointer (some ⟨b1,0,none⟩)∧E 3=Value.int .i64 (p1.Next.length:Int)∧E 4=Value.int .i64 (e1.length:Int)∧E.ds=[]∧Go.Lx.Sep g0 w0 g0 w [Go.Lx.box b1 37 ([v1,v2,v3])]) ?_ ?_
    ·have hM:=hx5
     have hag0:=Hle.refl g0
     refine WP_seq<|WP_region<|O (r_assign (v:=Value.int .i64 0) rfl) rfl<|OW_nil<|WP_block<|WP_loop (fun (xv10:Int) E w=>E 1=Value.pointer (some ⟨b1,0,none⟩)∧E 3=Value.int .i64 (p1.Next.length:Int)∧E 4=Value.int .i64 (e1.length:Int)∧E 5=Value.int .i64 xv10∧E.ds=[]∧Go.Lx.Sep g0 w0 g0 w [Go.Lx.box b1 37 ([v1,v2,v3])]) hM ⟨rfl,rfl,rfl,rfl,hds,hs⟩ ?_
     clear hs hM
     rintro xv10 o2 E w hM ⟨hE1,hE3,hE4,hE5,hds,hs⟩
     obtain ⟨E,rfl⟩:=open4 (E:=E) hE1 hE3 hE4 hE5
     refine WP_seq<|WP_seq<|WP_region<|O (r_move (v:=Value.int .i64 xv10) rfl) rfl<|O (r_lss rfl rfl) rfl<|OW_nil ?_
     rcases condS hM with ⟨hc13,hM⟩|⟨hc13,hM⟩
     ·refine WP_true rfl hc13<|WP_skip<|WP_seq<|WP_block ?_
      obtain ⟨xv13,hx8,hKhx8⟩:=bindS hM
      refine WP_cut (fun E w=>E 1=Value.pointer (some ⟨b1,0,none⟩)∧E 3=Value.int .i64 (p1.Next.length:Int)∧E 4=Value.int .i64 (e1.length:Int)∧E 5=Value.int .i64 xv10∧E 55=Value.bool xv13∧E.ds=[]∧Go.Lx.Sep g0 w0 g0 w [Go.Lx.box b1 37 ([v1,v2,v3])]) ?_ ?_
      ·have hM:=hx8
       refine WP_region<|O (r_fieldAddr Tryz.underlying37 ti34 rfl rfl (by decide) rfl rfl) rfl<|O (r_load (v:=v1) ti34 rfl (hs.cell (i:=0) (o:=0) rfl rfl)) rfl<|O (r_move (v:=Value.int .i64 xv10) rfl) rfl ?_
       obtain ⟨e13,he13,hM⟩:=bindS hM
       obtain ⟨b25,ob25,cb25,hvb25,cs28,hcs28,hcb25⟩:=hRv1.at he13
       have hcs28:cs28=_:=hcs28; subst hcs28
       refine O (r_idxSl Tryz.underlying34 ti3 (v:=v1) rfl hvb25 rfl (idxL_some he13).1 (idxL_some he13).2.1) rfl<|O (r_loadEl (cs:=[Value.int .i64 e13]) ti3 rfl rfl (.inr rfl) (hcb25 _ hs.imm) (v:=Value.int .i64 e13) rfl) rfl<|O (r_lss rfl rfl) rfl<|O (r_move (v:=Value.bool (decide (e13<0))) rfl) rfl ?_
       rcases condS hM with ⟨hg18,hM⟩|⟨hg18,hM⟩
       ·refine OK rfl rfl rfl (by rw [hg18]; rfl) rfl<|OK rfl rfl rfl (by rw [hg18]; rfl) rfl<|OK rfl rfl rfl (by rw [hg18]; rfl) rfl<|OK rfl rfl rfl (by rw [hg18]; rfl) rfl<|OK rfl rfl rfl (by rw [hg18]; rfl) rfl<|OK rfl rfl rfl (by rw [hg18]; rfl) rfl<|OK rfl rfl rfl (by rw [hg18]; rfl) rfl<|O (r_pickT (v:=Value.bool true) rfl hg18 rfl) rfl<|OW_nil ?_
        obtain rfl:=Option.some.inj hM
        exact ⟨rfl,rfl,rfl,rfl,rfl,hds,hs⟩
       ·refine OG rfl rfl rfl (by rw [hg18]; rfl) (r_fieldAddr Tryz.underlying37 ti34 rfl rfl (by decide) rfl rfl) rfl<|OG rfl rfl rfl (by rw [hg18]; rfl) (r_load (v:=v1) ti34 rfl (hs.cell (i:=0) (o:=0) rfl rfl)) rfl<|OG rfl rfl rfl (by rw [hg18]; rfl) (r_move (v:=Value.int .i64 xv10) rfl) rfl ?_
        obtain ⟨b26,ob26,cb26,hvb26,cs29,hcs29,hcb26⟩:=hRv1.at he13
        have hcs29:cs29=_:=hcs29; subst hcs29
        refine OG rfl rfl rfl (by rw [hg18]; rfl) (r_idxSl Tryz.underlying34 ti3 (v:=v1) rfl hvb26 rfl (idxL_some he13).1 (idxL_some he13).2.1) rfl<|OG rfl rfl rfl (by rw [hg18]; rfl) (r_loadEl (cs:=[Value.int .i64 e13]) ti3 rfl rfl (.inr rfl) (hcb26 _ hs.imm) (v:=Value.int .i64 e13) rfl) rfl<|OG rfl rfl rfl (by rw [hg18]; rfl) (r_move (v:=Value.int .i64 (e1.length:Int)) rfl) rfl<|OG rfl rfl rfl (by rw [hg18]; rfl) (r_geq rfl rfl) rfl<|O (r_pickF (v:=Value.bool (decide ((e1.length:Int)≤e13))) rfl hg18 rfl) rfl<|OW_nil ?_
        obtain rfl:=Option.some.inj hM
        exact ⟨rfl,rfl,rfl,rfl,rfl,hds,hs⟩
      ·clear hs
       rintro E w ⟨hE1,hE3,hE4,hE5,hE55,hds,hs⟩
       have hM:=hKhx8
       obtain ⟨E,rfl⟩:=open5 (E:=E) hE1 hE3 hE4 hE5 hE55
       rcases condS hM with ⟨hc14,hM⟩|⟨hc14,hM⟩
       ·refine WP_true rfl hc14<|WP_seq<|WP_region<|O (r_assign (v:=Value.bool false) rfl) rfl<|OW_nil<|WP_ret ?_
        obtain rfl:=Option.some.inj hM
        refine fun hr=>?_
        have hM:=congrArg some hr
        obtain rfl:=Option.some.inj hM
        have hM:=hKhx5
        obtain rfl:=Option.some.inj hM
        refine FL_nil hds ?_
        exact ⟨_,res1 Tryz.results17 (rv_tmp (v:=Value.bool false) rfl),g0,⟨[Value.bool false],rfl,rfl⟩,hs.ext⟩
       ·refine WP_false rfl hc14<|WP_skip<|WP_region<|O (r_move (v:=Value.int .i64 xv10) rfl) rfl ?_
        obtain ⟨t6,ht6,hM⟩:=bindS hM
        refine O (r_addM rfl rfl ht6) rfl<|O (r_assign (v:=Value.int .i64 t6) rfl) rfl<|OW_nil ?_
        obtain rfl:=Option.some.inj hM
        exact ⟨rfl,rfl,rfl,rfl,hds,hs⟩
     ·refine WP_false rfl hc13<|WP_exit ?_
      obtain rfl:=Option.some.inj hM
      refine fun hr=>?_
      have hM:=congrArg some hr
      obtain rfl:=Option.some.inj hM
      exact ⟨(),rfl,rfl,rfl,rfl,hds,hs⟩
    ·clear hs
     rintro E w ⟨_,rfl,hE1,hE3,hE4,hds,hs⟩
     have hM:=hKhx5
     dsimp only [onStep] at hM
     obtain ⟨E,rfl⟩:=open3 (E:=E) hE1 hE3 hE4
     obtain ⟨o24,hx36,hKhx36⟩:=stepS hM
     refine WP_cut (fun E w=>∃u9:Unit,o24=.next u9∧E.ds=[]∧Go.Lx.Sep g0 w0 g0 w []) ?_ ?_
     ·have hM:=hx36
      have hag0:=Hle.refl g0
      refine WP_seq<|WP_region<|O (r_assign (v:=Value.int .i64 0) rfl) rfl<|OW_nil<|WP_block<|WP_loop (fun (xv74:Int) E w=>E 1=Value.pointer (some ⟨b1,0,none⟩)∧E 3=Value.int .i64 (p1.Next.length:Int)∧E 4=Value.int .i64 (e1.length:Int)∧E 6=Value.int .i64 xv74∧E.ds=[]∧Go.Lx.Sep g0 w0 g0 w [Go.Lx.box b1 37 ([v1,v2,v3])]) hM ⟨rfl,rfl,rfl,rfl,hds,hs⟩ ?_
      clear hs hM
      rintro xv74 o20 E w hM ⟨hE1,hE3,hE4,hE6,hds,hs⟩
      obtain ⟨E,rfl⟩:=open4 (E:=E) hE1 hE3 hE4 hE6
      refine WP_seq<|WP_seq<|WP_region<|O (r_move (v:=Value.int .i64 xv74) rfl) rfl<|O (r_move (v:=Value.int .i64 (p1.Next.length:Int)) rfl) rfl<|O (r_lss rfl rfl) rfl<|OW_nil ?_
      rcases condS hM with ⟨hc90,hM⟩|⟨hc90,hM⟩
      ·refine WP_true rfl hc90<|WP_skip ?_
       obtain ⟨o23,hx59,hKhx59⟩:=stepS hM
       refine WP_cut (fun E w=>∃u9:Unit,o23=.next u9∧E 1=Value.pointer (some ⟨b1,0,none⟩)∧E 3=Value.int .i64 (p1.Next.length:Int)∧E 4=Value.int .i64 (e1.length:Int)∧E 6=Value.int .i64 xv74∧E.ds=[]∧Go.Lx.Sep g0 w0 g0 w [Go.Lx.box b1 37 ([v1,v2,v3])]) ?_ ?_
       ·have hM:=hx59
        refine WP_block<|WP_seq ?_
        obtain ⟨xv97,hx60,hKhx60⟩:=bindS hM
        refine WP_cut (fun E w=>E 1=Value.pointer (some ⟨b1,0,none⟩)∧E 3=Value.int .i64 (p1.Next.length:Int)∧E 4=Value.int .i64 (e1.length:Int)∧E 6=Value.int .i64 xv74∧E 76=Value.bool xv97∧E.ds=[]∧Go.Lx.Sep g0 w0 g0 w [Go.Lx.box b1 37 ([v1,v2,v3])]) ?_ ?_
        ·have hM:=hx60
         refine WP_region<|O (r_fieldAddr Tryz.underlying37 ti35 rfl rfl (by decide) rfl rfl) rfl<|O (r_load (v:=v2) ti35 rfl (hs.cell (i:=0) (o:=1) rfl rfl)) rfl<|O (r_move (v:=Value.int .i64 xv74) rfl) rfl ?_
         obtain ⟨e160,he160,hM⟩:=bindS hM
         obtain ⟨b337,ob337,cb337,hvb337,cs340,hcs340,hcb337⟩:=hRv2.at he160
         obtain ⟨v160,rfl,hRv160⟩:=hcs340
         refine O (r_idxSl Tryz.underlying35 ti34 (v:=v2) rfl hvb337 rfl (idxL_some he160).1 (idxL_some he160).2.1) rfl<|O (r_loadEl (cs:=[v160]) ti34 rfl rfl (.inr rfl) (hcb337 _ hs.imm) (v:=v160) rfl) rfl ?_
         obtain ⟨a30,ca30,hva30⟩:=hRv160.shape
         refine O (r_lenSl (v:=v160) Tryz.underlying34 rfl hva30) rfl<|O (r_move (v:=Value.int .i64 (e1.length:Int)) rfl) rfl<|O (r_neq rfl rfl) rfl<|O (r_move (v:=Value.bool ((e160.length:Int) != (e1.length:Int))) rfl) rfl ?_
         rcases condS hM with ⟨hg108,hM⟩|⟨hg108,hM⟩
         ·refine OK rfl rfl rfl (by rw [hg108]; rfl) rfl<|OK rfl rfl rfl (by rw [hg108]; rfl) rfl<|OK rfl rfl rfl (by rw [hg108]; rfl) rfl<|OK rfl rfl rfl (by rw [hg108]; rfl) rfl<|OK rfl rfl rfl (by rw [hg108]; rfl) rfl<|OK rfl rfl rfl (by rw [hg108]; rfl) rfl<|O (r_pickT (v:=Value.bool true) rfl hg108 rfl) rfl<|OW_nil ?_
          obtain rfl:=Option.some.inj hM
          exact ⟨rfl,rfl,rfl,rfl,rfl,hds,hs⟩
         ·refine OG rfl rfl rfl (by rw [hg108]; rfl) (r_fieldAddr Tryz.underlying37 ti34 rfl rfl (by decide) rfl rfl) rfl<|OG rfl rfl rfl (by rw [hg108]; rfl) (r_load (v:=v3) ti34 rfl (hs.cell (i:=0) (o:=2) rfl rfl)) rfl<|OG rfl rfl rfl (by rw [hg108]; rfl) (r_move (v:=Value.int .i64 xv74) rfl) rfl ?_
          obtain ⟨e161,he161,hM⟩:=bindS hM
          obtain ⟨b338,ob338,cb338,hvb338,cs341,hcs341,hcb338⟩:=hRv3.at he161
          have hcs341:cs341=_:=hcs341; subst hcs341
          refine OG rfl rfl rfl (by rw [hg108]; rfl) (r_idxSl Tryz.underlying34 ti3 (v:=v3) rfl hvb338 rfl (idxL_some he161).1 (idxL_some he161).2.1) rfl<|OG rfl rfl rfl (by rw [hg108]; rfl) (r_loadEl (cs:=[Value.int .i64 e161]) ti3 rfl rfl (.inr rfl) (hcb338 _ hs.imm) (v:=Value.int .i64 e161) rfl) rfl<|OG rfl rfl rfl (by rw [hg108]; rfl) (r_lss rfl rfl) rfl<|O (r_pickF (v:=Value.bool (decide (e161<(-1)))) rfl hg108 rfl) rfl<|OW_nil ?_
          obtain rfl:=Option.some.inj hM
          exact ⟨rfl,rfl,rfl,rfl,rfl,hds,hs⟩
        ·clear hs
         rintro E w ⟨hE1,hE3,hE4,hE6,hE76,hds,hs⟩
         have hM:=hKhx60
         obtain ⟨E,rfl⟩:=open5 (E:=E) hE1 hE3 hE4 hE6 hE76
         rcases condS hM with ⟨hc98,hM⟩|⟨hc98,hM⟩
         ·refine WP_true rfl hc98<|WP_seq<|WP_region<|O (r_assign (v:=Value.bool false) rfl) rfl<|OW_nil<|WP_ret ?_
          obtain rfl:=Option.some.inj hM
          have hM:=hKhx59
          obtain rfl:=Option.some.inj hM
          refine fun hr=>?_
          have hM:=congrArg some hr
          obtain rfl:=Option.some.inj hM
          have hM:=hKhx36
          obtain rfl:=Option.some.inj hM
          refine FL_nil hds ?_
          exact ⟨_,res1 Tryz.results17 (rv_tmp (v:=Value.bool false) rfl),g0,⟨[Value.bool false],rfl,rfl⟩,hs.ext⟩
         ·refine WP_false rfl hc98<|WP_skip<|WP_seq<|WP_region<|O (r_assign (v:=Value.int .i64 0) rfl) rfl<|OW_nil<|WP_block<|WP_loop (fun (xv100:Int) E w=>E 1=Value.pointer (some ⟨b1,0,none⟩)∧E 3=Value.int .i64 (p1.Next.length:Int)∧E 4=Value.int .i64 (e1.length:Int)∧E 6=Value.int .i64 xv74∧E 7=Value.int .i64 xv100∧E.ds=[]∧Go.Lx.Sep g0 w0 g0 w [Go.Lx.box b1 37 ([v1,v2,v3])]) hM ⟨rfl,rfl,rfl,rfl,rfl,hds,hs⟩ ?_
          clear hs hM
          rintro xv100 o22 E w hM ⟨hE1,hE3,hE4,hE6,hE7,hds,hs⟩
          obtain ⟨E,rfl⟩:=open5 (E:=E) hE1 hE3 hE4 hE6 hE7
          refine WP_seq<|WP_seq<|WP_region<|O (r_move (v:=Value.int .i64 xv100) rfl) rfl<|O (r_move (v:=Value.int .i64 (e1.length:Int)) rfl) rfl<|O (r_lss rfl rfl) rfl<|OW_nil ?_
          rcases condS hM with ⟨hc103,hM⟩|⟨hc103,hM⟩
          ·refine WP_true rfl hc103<|WP_skip<|WP_seq<|WP_block ?_
           obtain ⟨xv103,hx63,hKhx63⟩:=bindS hM
           refine WP_cut (fun E w=>E 1=Value.pointer (some ⟨b1,0,none⟩)∧E 3=Value.int .i64 (p1.Next.length:Int)∧E 4=Value.int .i64 (e1.length:Int)∧E 6=Value.int .i64 xv74∧E 7=Value.int .i64 xv100∧E 102=Value.bool xv103∧E.ds=[]∧Go.Lx.Sep g0 w0 g0 w [Go.Lx.box b1 37 ([v1,v2,v3])]) ?_ ?_
           ·have hM:=hx63
            refine WP_region<|O (r_fieldAddr Tryz.underlying37 ti35 rfl rfl (by decide) rfl rfl) rfl<|O (r_load (v:=v2) ti35 rfl (hs.cell (i:=0) (o:=1) rfl rfl)) rfl<|O (r_move (v:=Value.int .i64 xv74) rfl) rfl ?_
            obtain ⟨e172,he172,hM⟩:=bindS hM
            obtain ⟨b359,ob359,cb359,hvb359,cs362,hcs362,hcb359⟩:=hRv2.at he172
            obtain ⟨v171,rfl,hRv171⟩:=hcs362
            refine O (r_idxSl Tryz.underlying35 ti34 (v:=v2) rfl hvb359 rfl (idxL_some he172).1 (idxL_some he172).2.1) rfl<|O (r_loadEl (cs:=[v171]) ti34 rfl rfl (.inr rfl) (hcb359 _ hs.imm) (v:=v171) rfl) rfl<|O (r_move (v:=Value.int .i64 xv100) rfl) rfl ?_
            obtain ⟨e173,he173,hM⟩:=bindS hM
            obtain ⟨b360,ob360,cb360,hvb360,cs363,hcs363,hcb360⟩:=hRv171.at he173
            have hcs363:cs363=_:=hcs363; subst hcs363
            refine O (r_idxSl Tryz.underlying34 ti3 (v:=v171) rfl hvb360 rfl (idxL_some he173).1 (idxL_some he173).2.1) rfl<|O (r_loadEl (cs:=[Value.int .i64 e173]) ti3 rfl rfl (.inr rfl) (hcb360 _ hs.imm) (v:=Value.int .i64 e173) rfl) rfl<|O (r_lss rfl rfl) rfl<|O (r_move (v:=Value.bool (decide (e173<(-1)))) rfl) rfl ?_
            rcases condS hM with ⟨hg114,hM⟩|⟨hg114,hM⟩
            ·refine OK rfl rfl rfl (by rw [hg114]; rfl) rfl<|OK rfl rfl rfl (by rw [hg114]; rfl) rfl<|OK rfl rfl rfl (by rw [hg114]; rfl) rfl<|OK rfl rfl rfl (by rw [hg114]; rfl) rfl<|OK rfl rfl rfl (by rw [hg114]; rfl) rfl<|OK rfl rfl rfl (by rw [hg114]; rfl) rfl<|OK rfl rfl rfl (by rw [hg114]; rfl) rfl<|OK rfl rfl rfl (by rw [hg114]; rfl) rfl<|OK rfl rfl rfl (by rw [hg114]; rfl) rfl<|OK rfl rfl rfl (by rw [hg114]; rfl) rfl<|O (r_pickT (v:=Value.bool true) rfl hg114 rfl) rfl<|OW_nil ?_
             obtain rfl:=Option.some.inj hM
             exact ⟨rfl,rfl,rfl,rfl,rfl,rfl,hds,hs⟩
            ·refine OG rfl rfl rfl (by rw [hg114]; rfl) (r_fieldAddr Tryz.underlying37 ti35 rfl rfl (by decide) rfl rfl) rfl<|OG rfl rfl rfl (by rw [hg114]; rfl) (r_load (v:=v2) ti35 rfl (hs.cell (i:=0) (o:=1) rfl rfl)) rfl<|OG rfl rfl rfl (by rw [hg114]; rfl) (r_move (v:=Value.int .i64 xv74) rfl) rfl ?_
             obtain ⟨b361,ob361,cb361,hvb361,cs364,hcs364,hcb361⟩:=hRv2.at he172
             obtain ⟨v172,rfl,hRv172⟩:=hcs364
             refine OG rfl rfl rfl (by rw [hg114]; rfl) (r_idxSl Tryz.underlying35 ti34 (v:=v2) rfl hvb361 rfl (idxL_some he172).1 (idxL_some he172).2.1) rfl<|OG rfl rfl rfl (by rw [hg114]; rfl) (r_loadEl (cs:=[v172]) ti34 rfl rfl (.inr rfl) (hcb361 _ hs.imm) (v:=v172) rfl) rfl<|OG rfl rfl rfl (by rw [hg114]; rfl) (r_move (v:=Value.int .i64 xv100) rfl) rfl ?_
             obtain ⟨b362,ob362,cb362,hvb362,cs365,hcs365,hcb362⟩:=hRv172.at he173
             have hcs365:cs365=_:=hcs365; subst hcs365
             refine OG rfl rfl rfl (by rw [hg114]; rfl) (r_idxSl Tryz.underlying34 ti3 (v:=v172) rfl hvb362 rfl (idxL_some he173).1 (idxL_some he173).2.1) rfl<|OG rfl rfl rfl (by rw [hg114]; rfl) (r_loadEl (cs:=[Value.int .i64 e173]) ti3 rfl rfl (.inr rfl) (hcb362 _ hs.imm) (v:=Value.int .i64 e173) rfl) rfl<|OG rfl rfl rfl (by rw [hg114]; rfl) (r_move (v:=Value.int .i64 (p1.Next.length:Int)) rfl) rfl<|OG rfl rfl rfl (by rw [hg114]; rfl) (r_geq rfl rfl) rfl<|O (r_pickF (v:=Value.bool (decide ((p1.Next.length:Int)≤e173))) rfl hg114 rfl) rfl<|OW_nil ?_
             obtain rfl:=Option.some.inj hM
             exact ⟨rfl,rfl,rfl,rfl,rfl,rfl,hds,hs⟩
           ·clear hs
            rintro E w ⟨hE1,hE3,hE4,hE6,hE7,hE102,hds,hs⟩
            have hM:=hKhx63
            obtain ⟨E,rfl⟩:=open6 (E:=E) hE1 hE3 hE4 hE6 hE7 hE102
            rcases condS hM with ⟨hc104,hM⟩|⟨hc104,hM⟩
            ·refine WP_true rfl hc104<|WP_seq<|WP_region<|O (r_assign (v:=Value.bool false) rfl) rfl<|OW_nil<|WP_ret ?_
             obtain rfl:=Option.some.inj hM
             refine fun hr=>?_
             have hM:=congrArg some hr
             obtain rfl:=Option.some.inj hM
             have hM:=hKhx59
             obtain rfl:=Option.some.inj hM
             refine fun hr=>?_
             have hM:=congrArg some hr
             obtain rfl:=Option.some.inj hM
             have hM:=hKhx36
             obtain rfl:=Option.some.inj hM
             refine FL_nil hds ?_
             exact ⟨_,res1 Tryz.results17 (rv_tmp (v:=Value.bool false) rfl),g0,⟨[Value.bool false],rfl,rfl⟩,hs.ext⟩
            ·refine WP_false rfl hc104<|WP_skip<|WP_region<|O (r_move (v:=Value.int .i64 xv100) rfl) rfl ?_
             obtain ⟨t47,ht47,hM⟩:=bindS hM
             refine O (r_addM rfl rfl ht47) rfl<|O (r_assign (v:=Value.int .i64 t47) rfl) rfl<|OW_nil ?_
             obtain rfl:=Option.some.inj hM
             exact ⟨rfl,rfl,rfl,rfl,rfl,hds,hs⟩
          ·refine WP_false rfl hc103<|WP_exit ?_
           obtain rfl:=Option.some.inj hM
           refine fun hr=>?_
           have hM:=congrArg some hr
           obtain rfl:=Option.some.inj hM
           exact ⟨(),rfl,rfl,rfl,rfl,rfl,hds,hs⟩
       ·clear hs
        rintro E w ⟨_,rfl,hE1,hE3,hE4,hE6,hds,hs⟩
        have hM:=hKhx59
        dsimp only [onStep] at hM
        obtain ⟨E,rfl⟩:=open4 (E:=E) hE1 hE3 hE4 hE6
        refine WP_region<|O (r_move (v:=Value.int .i64 xv74) rfl) rfl ?_
        obtain ⟨t48,ht48,hM⟩:=bindS hM
        refine O (r_addM rfl rfl ht48) rfl<|O (r_assign (v:=Value.int .i64 t48) rfl) rfl<|OW_nil ?_
        obtain rfl:=Option.some.inj hM
        exact ⟨rfl,rfl,rfl,rfl,hds,hs⟩
      ·refine WP_false rfl hc90<|WP_exit ?_
       obtain rfl:=Option.some.inj hM
       refine fun hr=>?_
       have hM:=congrArg some hr
       obtain rfl:=Option.some.inj hM
       exact ⟨(),rfl,hds,(hs.sub (.cons _ .slnil))⟩
     ·clear hs
      rintro E w ⟨_,rfl,hds,hs⟩
      have hM:=hKhx36
      dsimp only [onStep] at hM
      refine WP_seq<|WP_region<|O (r_assign (v:=Value.bool true) rfl) rfl<|OW_nil<|WP_ret ?_
      obtain rfl:=Option.some.inj hM
      refine FL_nil hds ?_
      exact ⟨_,res1 Tryz.results17 (rv_tmp (v:=Value.bool true) rfl),g0,⟨[Value.bool true],rfl,rfl⟩,hs.ext⟩
set_option maxRecDepth 100000 in
theorem ref10_Step_ok {d1:T_DFA} {s1:Int} {b1:Int} {r:Int} (hM:M.ref10_Step d1 s1 b1=some r) {g0:Hp} {w0:World} (hi:Imm g0 w0) {cs1:List Value} (hcs1:tT_DFA.rel g0 cs1 d1) :
    CallsV Tryz.prog 27 #[Value.agg cs1.toArray,Value.int .i64 s1,Value.int .u8 b1] w0 (fun v w'=>∃g',(VRd (tInt .i64) false g' v r)∧Ext g0 w0 g' w'):=by
 unfold M.ref10_Step at hM
 obtain ⟨cs2,cs3,cs4,rfl,hcs2,hcs3,hcs4⟩:=hcs1
 obtain ⟨v1,rfl,hRv1⟩:=hcs2
 obtain ⟨v2,rfl,hRv2⟩:=hcs3
 obtain ⟨v3,rfl,hRv3⟩:=hcs4
 have hs:=Sep.start hi
 refine calls_of_WP (args:=[Value.agg (List.toArray (α:=Value) [v1,v2,v3]),Value.int .i64 s1,Value.int .u8 b1]) Tryz.func27 rfl Tryz.ntmps27 rfl ?_
 have hds:(argEnv [Value.agg (List.toArray (α:=Value) [v1,v2,v3]),Value.int .i64 s1,Value.int .u8 b1]).ds=[]:=rfl
 refine WP_seq<|WP_region<|OW_box (v:=Value.agg (List.toArray (α:=Value) [v1,v2,v3])) rfl hs (zs:=[v1,v2,v3]) rfl rfl ?_
 intro b2 wv1 hs
 refine O (r_assign (v:=Value.int .i64 0) rfl) rfl<|OW_nil<|WP_seq<|WP_seq<|WP_region<|O (r_move (v:=Value.int .i64 s1) rfl) rfl<|O (r_lss rfl rfl) rfl<|OW_nil ?_
 rcases condS hM with ⟨hc1,hM⟩|⟨hc1,hM⟩
 ·refine WP_true rfl hc1<|WP_seq<|WP_region<|O (r_assign (v:=Value.int .i64 (-1)) rfl) rfl<|OW_nil<|WP_ret ?_
  obtain rfl:=Option.some.inj hM
  refine FL_nil hds ?_
  exact ⟨_,res1 Tryz.results27 (rv_tmp (v:=Value.int .i64 (-1)) rfl),g0,⟨[Value.int .i64 (-1)],rfl,rfl⟩,hs.ext⟩
 ·refine WP_false rfl hc1<|WP_skip<|WP_seq<|WP_draw mo (by decide +kernel) ?_
  have hs:=hs.drew
  refine S (r_fieldAddr Tryz.underlying37 ti35 rfl rfl (by decide) rfl rfl) rfl<|S (r_load (v:=v2) ti35 rfl (hs.cell (i:=0) (o:=1) rfl rfl)) rfl<|S (r_move (v:=Value.int .i64 s1) rfl) rfl ?_
  obtain ⟨e1,he1,hM⟩:=bindS hM
  obtain ⟨b3,ob3,cb3,hvb3,cs5,hcs5,hcb3⟩:=hRv2.at he1
  obtain ⟨v4,rfl,hRv4⟩:=hcs5
  refine S (r_idxSl Tryz.underlying35 ti34 (v:=v2) rfl hvb3 rfl (idxL_some he1).1 (idxL_some he1).2.1) rfl<|S (r_loadEl (cs:=[v4]) ti34 rfl rfl (.inr rfl) (hcb3 _ hs.imm) (v:=v4) rfl) rfl<|S (r_fieldAddr Tryz.underlying37 ti34 rfl rfl (by decide) rfl rfl) rfl<|S (r_load (v:=v1) ti34 rfl (hs.cell (i:=0) (o:=0) rfl rfl)) rfl<|S (r_move (v:=Value.int .u8 b1) rfl) rfl ?_
  obtain ⟨e2,he2,hM⟩:=bindS hM
  obtain ⟨b4,ob4,cb4,hvb4,cs6,hcs6,hcb4⟩:=hRv1.at he2
  have hcs6:cs6=_:=hcs6; subst hcs6
  refine S (r_idxSl Tryz.underlying34 ti3 (v:=v1) rfl hvb4 rfl (idxL_some he2).1 (idxL_some he2).2.1) rfl<|S (r_loadEl (cs:=[Value.int .i64 e2]) ti3 rfl rfl (.inr rfl) (hcb4 _ hs.imm) (v:=Value.int .i64 e2) rfl) rfl ?_
  obtain ⟨e3,he3,hM⟩:=bindS hM
  obtain ⟨b5,ob5,cb5,hvb5,cs7,hcs7,hcb5⟩:=hRv4.at he3
  have hcs7:cs7=_:=hcs7; subst hcs7
  refine S (r_idxSl Tryz.underlying34 ti3 (v:=v4) rfl hvb5 rfl (idxL_some he3).1 (idxL_some he3).2.1) rfl<|S (r_loadEl (cs:=[Value.int .i64 e3]) ti3 rfl rfl (.inr rfl) (hcb5 _ hs.imm) (v:=Value.int .i64 e3) rfl) rfl<|S (r_assign (v:=Value.int .i64 e3) rfl) rfl<|SW_nil<|WP_ret ?_
  obtain rfl:=Option.some.inj hM
  refine FL_nil hds ?_
  exact ⟨_,res1 Tryz.results27 (rv_tmp (v:=Value.int .i64 e3) rfl),g0,⟨[Value.int .i64 e3],rfl,rfl⟩,hs.ext⟩
set_option maxRecDepth 100000 in
theorem ref10_accept_ok {d1:T_DFA} {s1:Int} {r:Int} (hM:M.ref10_accept d1 s1=some r) {g0:Hp} {w0:World} (hi:Imm g0 w0) {cs1:List Value} (hcs1:tT_DFA.rel g0 cs1 d1) :
    CallsV Tryz.prog 28 #[Value.agg cs1.toArray,Value.int .i64 s1] w0 (fun v w'=>∃g',(VRd (tInt .i64) false g' v r)∧Ext g0 w0 g' w'):=by
 unfold M.ref10_accept at hM
 obtain ⟨cs2,cs3,cs4,rfl,hcs2,hcs3,hcs4⟩:=hcs1
 obtain ⟨v1,rfl,hRv1⟩:=hcs2
 obtain ⟨v2,rfl,hRv2⟩:=hcs3
 obtain ⟨v3,rfl,hRv3⟩:=hcs4
 have hs:=Sep.start hi
 refine calls_of_WP (args:=[Value.agg (List.toArray (α:=Value) [v1,v2,v3]),Value.int .i64 s1]) Tryz.func28 rfl Tryz.ntmps28 rfl ?_
 have hds:(argEnv [Value.agg (List.toArray (α:=Value) [v1,v2,v3]),Value.int .i64 s1]).ds=[]:=rfl
 refine WP_seq<|WP_region<|OW_box (v:=Value.agg (List.toArray (α:=Value) [v1,v2,v3])) rfl hs (zs:=[v1,v2,v3]) rfl rfl ?_
 intro b1 wv1 hs
 refine O (r_assign (v:=Value.int .i64 0) rfl) rfl<|OW_nil<|WP_seq<|WP_seq<|WP_region<|O (r_move (v:=Value.int .i64 s1) rfl) rfl<|O (r_lss rfl rfl) rfl<|OW_nil ?_
 rcases condS hM with ⟨hc1,hM⟩|⟨hc1,hM⟩
 ·refine WP_true rfl hc1<|WP_seq<|WP_region<|O (r_assign (v:=Value.int .i64 (-1)) rfl) rfl<|OW_nil<|WP_ret ?_
  obtain rfl:=Option.some.inj hM
  refine FL_nil hds ?_
  exact ⟨_,res1 Tryz.results28 (rv_tmp (v:=Value.int .i64 (-1)) rfl),g0,⟨[Value.int .i64 (-1)],rfl,rfl⟩,hs.ext⟩
 ·refine WP_false rfl hc1<|WP_skip<|WP_seq<|WP_region<|O (r_fieldAddr Tryz.underlying37 ti34 rfl rfl (by decide) rfl rfl) rfl<|O (r_load (v:=v3) ti34 rfl (hs.cell (i:=0) (o:=2) rfl rfl)) rfl<|O (r_move (v:=Value.int .i64 s1) rfl) rfl ?_
  obtain ⟨e1,he1,hM⟩:=bindS hM
  obtain ⟨b2,ob2,cb2,hvb2,cs5,hcs5,hcb2⟩:=hRv3.at he1
  have hcs5:cs5=_:=hcs5; subst hcs5
  refine O (r_idxSl Tryz.underlying34 ti3 (v:=v3) rfl hvb2 rfl (idxL_some he1).1 (idxL_some he1).2.1) rfl<|O (r_loadEl (cs:=[Value.int .i64 e1]) ti3 rfl rfl (.inr rfl) (hcb2 _ hs.imm) (v:=Value.int .i64 e1) rfl) rfl<|O (r_assign (v:=Value.int .i64 e1) rfl) rfl<|OW_nil<|WP_ret ?_
  obtain rfl:=Option.some.inj hM
  refine FL_nil hds ?_
  exact ⟨_,res1 Tryz.results28 (rv_tmp (v:=Value.int .i64 e1) rfl),g0,⟨[Value.int .i64 e1],rfl,rfl⟩,hs.ext⟩
set_option maxRecDepth 100000 in
theorem ref10_Run_ok {d1:T_DFA} {s1:Str} {r:Int} (hM:M.ref10_Run d1 s1=some r) {g0:Hp} {w0:World} (hi:Imm g0 w0) {cs1:List Value} (hcs1:tT_DFA.rel g0 cs1 d1) :
    CallsV Tryz.prog 18 #[Value.agg cs1.toArray,encS s1] w0 (fun v w'=>∃g',(VRd (tInt .i64) false g' v r)∧Ext g0 w0 g' w'):=by
 unfold M.ref10_Run at hM
 obtain ⟨cs2,cs3,cs4,rfl,hcs2,hcs3,hcs4⟩:=hcs1
 obtain ⟨v1,rfl,hRv1⟩:=hcs2
 obtain ⟨v2,rfl,hRv2⟩:=hcs3
 obtain ⟨v3,rfl,hRv3⟩:=hcs4
 have hs:=Sep.start hi
 refine calls_of_WP (args:=[Value.agg (List.toArray (α:=Value) [v1,v2,v3]),encS s1]) Tryz.func18 rfl Tryz.ntmps18 rfl ?_
 have hds:(argEnv [Value.agg (List.toArray (α:=Value) [v1,v2,v3]),encS s1]).ds=[]:=rfl
 refine WP_seq<|WP_region<|OW_box (v:=Value.agg (List.toArray (α:=Value) [v1,v2,v3])) rfl hs (zs:=[v1,v2,v3]) rfl rfl ?_
 intro b1 wv1 hs
 refine O (r_assign (v:=Value.int .i64 0) rfl) rfl<|OW_nil<|WP_seq<|WP_region<|O (r_assign (v:=Value.int .i64 0) rfl) rfl<|OW_nil ?_
 obtain ⟨atv7,hx1,hKhx1⟩:=bindS hM
 refine WP_cut (fun E w=>∃(gg7:Hp),E 2=Value.pointer (some ⟨b1,0,none⟩)∧E 5=Value.int .i64 atv7∧E.ds=[]∧Hle g0 gg7∧Go.Lx.Sep g0 w0 gg7 w [Go.Lx.box b1 37 ([v1,v2,v3])]) ?_ ?_
 ·have hM:=hx1
  have hag0:=Hle.refl g0
  refine WP_seq<|WP_region<|O (r_assign (v:=Value.int .i64 0) rfl) rfl<|OW_nil<|WP_block<|WP_loop (fun (st9:Int×Int) E w=>match st9 with|(atv10,i5)=>∃(gg10:Hp),E 1=encS s1∧E 2=Value.pointer (some ⟨b1,0,none⟩)∧E 5=Value.int .i64 atv10∧E 6=Value.int .i64 i5∧E.ds=[]∧Hle g0 gg10∧Go.Lx.Sep g0 w0 gg10 w [Go.Lx.box b1 37 ([v1,v2,v3])]) hM ⟨g0,rfl,rfl,rfl,rfl,hds,(Hle.refl _),hs⟩ ?_
  clear hs hM
  rintro ⟨atv10,i5⟩ o2 E w hM ⟨gg10,hE1,hE2,hE5,hE6,hds,hlegg10,hs⟩
  obtain ⟨E,rfl⟩:=open4 (E:=E) hE1 hE2 hE5 hE6
  replace hRv1:=hRv1.mono hlegg10
  replace hRv2:=hRv2.mono hlegg10
  replace hRv3:=hRv3.mono hlegg10
  have hagg10:=Hle.refl gg10
  refine WP_seq<|WP_seq<|WP_region<|O (r_move (v:=Value.int .i64 i5) rfl) rfl<|O (r_move (v:=encS s1) rfl) rfl<|O (r_lenStr Tryz.underlying9 rfl) rfl<|O (r_lss rfl rfl) rfl<|OW_nil ?_
  rcases condS hM with ⟨hc6,hM⟩|⟨hc6,hM⟩
  ·refine WP_true rfl hc6<|WP_skip<|WP_seq<|WP_block<|WP_drawTail 5 mo (by decide +kernel) ?_
   have hs:=hs.drew
   refine S (r_loadN (cs:=[v1,v2,v3]) ti37 rfl rfl (hs.cells (i:=0) rfl)) rfl<|S (r_move (v:=Value.int .i64 atv10) rfl) rfl<|S (r_move (v:=encS s1) rfl) rfl<|S (r_move (v:=Value.int .i64 i5) rfl) rfl ?_
   obtain ⟨c6,hc6,hM⟩:=bindS hM
   refine S (r_idxStr Tryz.underlying9 rfl rfl hc6) rfl<|SW_nil ?_
   obtain ⟨atv13,hatv13,hM⟩:=bindS hM
   refine C [Value.agg (List.toArray (α:=Value) [v1,v2,v3]),Value.int .i64 atv10,Value.int .u8 c6] cf27 rfl (ref10_Step_ok hatv13 hs.imm (⟨[v1],[v2],[v3],rfl,⟨_,rfl,hRv1⟩,⟨_,rfl,hRv2⟩,⟨_,rfl,hRv3⟩⟩)) rfl ?_
   rintro v9 wv7 ⟨gg13,hvv9,hegg13⟩
   have hlegg13:=hegg13.le hs.imm
   replace hs:=hs.call hegg13
   replace hlegg10:=hlegg10.trans hlegg13
   obtain ⟨cs10,rfl,hcs10⟩:=hvv9
   have hcs10:cs10=_:=hcs10; subst hcs10
   refine O (r_assign (v:=Value.int .i64 atv13) rfl) rfl<|OW_nil<|WP_region<|O (r_move (v:=Value.int .i64 i5) rfl) rfl ?_
   obtain ⟨t6,ht6,hM⟩:=bindS hM
   refine O (r_addM rfl rfl ht6) rfl<|O (r_assign (v:=Value.int .i64 t6) rfl) rfl<|OW_nil ?_
   obtain rfl:=Option.some.inj hM
   exact ⟨gg13,rfl,rfl,rfl,rfl,hds,hlegg10,hs⟩
  ·refine WP_false rfl hc6<|WP_exit ?_
   obtain rfl:=Option.some.inj hM
   refine fun hr=>?_
   have hM:=congrArg some hr
   obtain rfl:=Option.some.inj hM
   exact ⟨gg10,rfl,rfl,hds,hlegg10,hs⟩
 ·clear hs
  rintro E w ⟨gg7,hE2,hE5,hds,hlegg7,hs⟩
  have hM:=hKhx1
  obtain ⟨E,rfl⟩:=open2 (E:=E) hE2 hE5
  replace hRv1:=hRv1.mono hlegg7
  replace hRv2:=hRv2.mono hlegg7
  replace hRv3:=hRv3.mono hlegg7
  refine WP_seq<|WP_region<|O (r_loadN (cs:=[v1,v2,v3]) ti37 rfl rfl (hs.cells (i:=0) rfl)) rfl<|O (r_move (v:=Value.int .i64 atv7) rfl) rfl ?_
  obtain ⟨rv1,hrv1,hM⟩:=bindS hM
  refine C [Value.agg (List.toArray (α:=Value) [v1,v2,v3]),Value.int .i64 atv7] cf28 rfl (ref10_accept_ok hrv1 hs.imm (⟨[v1],[v2],[v3],rfl,⟨_,rfl,hRv1⟩,⟨_,rfl,hRv2⟩,⟨_,rfl,hRv3⟩⟩)) rfl ?_
  rintro v10 wv8 ⟨gg14,hvv10,hegg14⟩
  have hlegg14:=hegg14.le hs.imm
  replace hs:=hs.call hegg14
  obtain ⟨cs11,rfl,hcs11⟩:=hvv10
  have hcs11:cs11=_:=hcs11; subst hcs11
  refine O (r_assign (v:=Value.int .i64 rv1) rfl) rfl<|OW_nil<|WP_ret ?_
  obtain rfl:=Option.some.inj hM
  refine FL_nil hds ?_
  exact ⟨_,res1 Tryz.results18 (rv_tmp (v:=Value.int .i64 rv1) rfl),gg14,⟨[Value.int .i64 rv1],rfl,rfl⟩,hs.ext⟩
set_option maxRecDepth 100000 in
theorem lexspec_Sample_ok {spec1:T_LexSpec} {kind1:Int} {r:Str} (hM:M.lexspec_Sample spec1 kind1=some r) {g0:Hp} {w0:World} (hi:Imm g0 w0) {cs1:List Value} (hcs1:tT_LexSpec.rel g0 cs1 spec1) :
    CallsV Tryz.prog 13 #[Value.agg cs1.toArray,Value.int .i64 kind1] w0 (fun v w'=>∃g',(VRd tStr false g' v r)∧Ext g0 w0 g' w'):=by
 unfold M.lexspec_Sample at hM
 obtain ⟨cs2,cs3,cs4,cs5,rfl,hcs2,hcs3,hcs4,hcs5⟩:=hcs1
 obtain ⟨v1,rfl,hRv1⟩:=hcs2
 have hcs3:cs3=_:=hcs3; subst hcs3
 have hcs4:cs4=_:=hcs4; subst hcs4
 have hcs5:cs5=_:=hcs5; subst hcs5
 have hs:=Sep.start hi
 refine calls_of_WP (args:=[Value.agg (List.toArray (α:=Value) [v1,Value.bool spec1.Layout,Value.int .i64 spec1.Misspelling,Value.int .i64 spec1.Unclosed]),Value.int .i64 kind1]) Tryz.func13 rfl Tryz.ntmps13 rfl ?_
 have hds:(argEnv [Value.agg (List.toArray (α:=Value) [v1,Value.bool spec1.Layout,Value.int .i64 spec1.Misspelling,Value.int .i64 spec1.Unclosed]),Value.int .i64 kind1]).ds=[]:=rfl
 refine WP_seq<|WP_region<|OW_box (v:=Value.agg (List.toArray (α:=Value) [v1,Value.bool spec1.Layout,Value.int .i64 spec1.Misspelling,Value.int .i64 spec1.Unclosed])) rfl hs (zs:=[v1,Value.bool spec1.Layout,Value.int .i64 spec1.Misspelling,Value.int .i64 spec1.Unclosed]) rfl rfl ?_
 intro b1 wv1 hs
 refine O (r_assign (v:=encS []) rfl) rfl<|OW_nil<|WP_seq ?_
 obtain ⟨xv1,hx1,hKhx1⟩:=bindS hM
 refine WP_cut (fun E w=>E 1=Value.int .i64 kind1∧E 2=Value.pointer (some ⟨b1,0,none⟩)∧E 13=Value.bool xv1∧E.ds=[]∧Go.Lx.Sep g0 w0 g0 w [Go.Lx.box b1 24 ([v1,Value.bool spec1.Layout,Value.int .i64 spec1.Misspelling,Value.int .i64 spec1.Unclosed])]) ?_ ?_
 ·have hM:=hx1
  have hag0:=Hle.refl g0
  refine WP_region<|O (r_move (v:=Value.int .i64 kind1) rfl) rfl<|O (r_lss rfl rfl) rfl<|O (r_move (v:=Value.bool (decide (kind1<0))) rfl) rfl ?_
  rcases condS hM with ⟨hg2,hM⟩|⟨hg2,hM⟩
  ·refine OK rfl rfl rfl (by rw [hg2]; rfl) rfl<|OK rfl rfl rfl (by rw [hg2]; rfl) rfl<|OK rfl rfl rfl (by rw [hg2]; rfl) rfl<|OK rfl rfl rfl (by rw [hg2]; rfl) rfl<|OK rfl rfl rfl (by rw [hg2]; rfl) rfl<|O (r_pickT (v:=Value.bool true) rfl hg2 rfl) rfl<|OW_nil ?_
   obtain rfl:=Option.some.inj hM
   exact ⟨rfl,rfl,rfl,hds,hs⟩
  ·refine OG rfl rfl rfl (by rw [hg2]; rfl) (r_move (v:=Value.int .i64 kind1) rfl) rfl<|OG rfl rfl rfl (by rw [hg2]; rfl) (r_fieldAddr Tryz.underlying24 ti22 rfl rfl (by decide) rfl rfl) rfl<|OG rfl rfl rfl (by rw [hg2]; rfl) (r_load (v:=v1) ti22 rfl (hs.cell (i:=0) (o:=0) rfl rfl)) rfl ?_
   obtain ⟨a2,ca2,hva2⟩:=hRv1.shape
   refine OG rfl rfl rfl (by rw [hg2]; rfl) (r_lenSl (v:=v1) Tryz.underlying22 rfl hva2) rfl<|OG rfl rfl rfl (by rw [hg2]; rfl) (r_geq rfl rfl) rfl<|O (r_pickF (v:=Value.bool (decide ((spec1.Defs.length:Int)≤kind1))) rfl hg2 rfl) rfl<|OW_nil ?_
   obtain rfl:=Option.some.inj hM
   exact ⟨rfl,rfl,rfl,hds,hs⟩
 ·clear hs
  rintro E w ⟨hE1,hE2,hE13,hds,hs⟩
  have hM:=hKhx1
  obtain ⟨E,rfl⟩:=open3 (E:=E) hE1 hE2 hE13
  rcases condS hM with ⟨hc1,hM⟩|⟨hc1,hM⟩
  ·refine WP_true rfl hc1<|WP_seq<|WP_region<|O (r_assign (v:=encS []) rfl) rfl<|OW_nil<|WP_ret ?_
   obtain rfl:=Option.some.inj hM
   refine FL_nil hds ?_
   exact ⟨_,res1 Tryz.results13 (rv_tmp (v:=encS []) rfl),g0,⟨[encS []],rfl,rfl⟩,hs.ext⟩
  ·refine WP_false rfl hc1<|WP_skip<|WP_seq<|WP_region<|O (r_fieldAddr Tryz.underlying24 ti22 rfl rfl (by decide) rfl rfl) rfl<|O (r_load (v:=v1) ti22 rfl (hs.cell (i:=0) (o:=0) rfl rfl)) rfl<|O (r_move (v:=Value.int .i64 kind1) rfl) rfl ?_
   obtain ⟨e1,he1,hM⟩:=bindS hM
   obtain ⟨b2,ob2,cb2,hvb2,cs6,hcs6,hcb2⟩:=hRv1.at he1
   obtain ⟨cs7,cs8,cs9,cs10,cs11,rfl,hcs7,hcs8,hcs9,hcs10,hcs11⟩:=hcs6
   have hcs7:cs7=_:=hcs7; subst hcs7
   have hcs8:cs8=_:=hcs8; subst hcs8
   have hcs9:cs9=_:=hcs9; subst hcs9
   have hcs10:cs10=_:=hcs10; subst hcs10
   have hcs11:cs11=_:=hcs11; subst hcs11
   refine O (r_idxSl Tryz.underlying22 ti46 (v:=v1) rfl hvb2 rfl (idxL_some he1).1 (idxL_some he1).2.1) rfl<|O (r_fieldAddr Tryz.underlying46 ti9 rfl rfl (by decide) rfl rfl) rfl<|O (r_loadEl (cs:=[encS e1.Sample]) ti9 rfl rfl (.inr rfl) (elemField (cs:=[encS e1.Name,Value.int .i64 e1.Kind,encS e1.Pattern,encS e1.Sample,encS e1.Close]) (hcb2 _ hs.imm) ([encS e1.Name,Value.int .i64 e1.Kind,encS e1.Pattern]) ([encS e1.Sample]) ([encS e1.Close]) rfl rfl) (v:=encS e1.Sample) rfl) rfl<|O (r_assign (v:=encS e1.Sample) rfl) rfl<|OW_nil<|WP_ret ?_
   obtain rfl:=Option.some.inj hM
   refine FL_nil hds ?_
   exact ⟨_,res1 Tryz.results13 (rv_tmp (v:=encS e1.Sample) rfl),g0,⟨[encS e1.Sample],rfl,rfl⟩,hs.ext⟩
set_option maxRecDepth 100000 in
theorem lexspec_Terms_ok {spec1:T_LexSpec} {r:(List Str)} (hM:M.lexspec_Terms spec1=some r) {g0:Hp} {w0:World} (hi:Imm g0 w0) {cs1:List Value} (hcs1:tT_LexSpec.rel g0 cs1 spec1) (hG0:GBox 0 (M.layoutTerms.map encS) g0) :
    CallsV Tryz.prog 9 #[Value.agg cs1.toArray] w0 (fun v w'=>∃g' y0,(RowRel tStr g' y0 r)∧Sep g0 w0 g' w' [.row v 9 tStr.sz r.length y0]):=by
 unfold M.lexspec_Terms at hM
 obtain ⟨cs2,cs3,cs4,cs5,rfl,hcs2,hcs3,hcs4,hcs5⟩:=hcs1
 obtain ⟨v1,rfl,hRv1⟩:=hcs2
 have hcs3:cs3=_:=hcs3; subst hcs3
 have hcs4:cs4=_:=hcs4; subst hcs4
 have hcs5:cs5=_:=hcs5; subst hcs5
 have hs:=Sep.start hi
 refine calls_of_WP (args:=[Value.agg (List.toArray (α:=Value) [v1,Value.bool spec1.Layout,Value.int .i64 spec1.Misspelling,Value.int .i64 spec1.Unclosed])]) Tryz.func9 rfl Tryz.ntmps9 rfl ?_
 have hds:(argEnv [Value.agg (List.toArray (α:=Value) [v1,Value.bool spec1.Layout,Value.int .i64 spec1.Misspelling,Value.int .i64 spec1.Unclosed])]).ds=[]:=rfl
 refine WP_seq<|WP_region<|OW_box (v:=Value.agg (List.toArray (α:=Value) [v1,Value.bool spec1.Layout,Value.int .i64 spec1.Misspelling,Value.int .i64 spec1.Unclosed])) rfl hs (zs:=[v1,Value.bool spec1.Layout,Value.int .i64 spec1.Misspelling,Value.int .i64 spec1.Unclosed]) rfl rfl ?_
 intro b1 wv1 hs
 refine O (r_assign (v:=Value.slice none 0 0) rfl) rfl<|OW_nil<|WP_seq<|WP_region<|O (r_assign (v:=Value.slice none 0 0) rfl) rfl<|OW_nil ?_
 obtain ⟨xv7,hx1,hKhx1⟩:=bindS hM
 refine WP_cut (fun E w=>∃(v11:Value) (xs11:List Value),E 1=Value.pointer (some ⟨b1,0,none⟩)∧E 3=v11∧E.ds=[]∧RowRel tStr g0 xs11 xv7∧Go.Lx.Sep g0 w0 g0 w [.row v11 9 tStr.sz xv7.length xs11,Go.Lx.box b1 24 ([v1,Value.bool spec1.Layout,Value.int .i64 spec1.Misspelling,Value.int .i64 spec1.Unclosed])]) ?_ ?_
 ·have hM:=hx1
  have hag0:=Hle.refl g0
  refine WP_seq<|WP_region<|O (r_fieldAddr Tryz.underlying24 ti22 rfl rfl (by decide) rfl rfl) rfl<|O (r_load (v:=v1) ti22 rfl (hs.cell (i:=0) (o:=0) rfl rfl)) rfl ?_
  obtain ⟨a2,ca2,hva2⟩:=hRv1.shape
  refine O (r_lenSl (v:=v1) Tryz.underlying22 rfl hva2) rfl<|O (r_move (v:=Value.int .i64 0) rfl) rfl<|OW_nil<|WP_block ?_
  have hs:=hs.nilRow 9 tStr.sz
  refine WP_loop (fun (st9:(List Str)×Int) E w=>match st9 with|(xv10,xv11)=>∃(v15:Value) (xs16:List Value),E 1=Value.pointer (some ⟨b1,0,none⟩)∧E 3=v15∧E 7=v1∧E 8=Value.int .i64 (spec1.Defs.length:Int)∧E 9=Value.int .i64 xv11∧E.ds=[]∧RowRel tStr g0 xs16 xv10∧Go.Lx.Sep g0 w0 g0 w [.row v15 9 tStr.sz xv10.length xs16,Go.Lx.box b1 24 ([v1,Value.bool spec1.Layout,Value.int .i64 spec1.Misspelling,Value.int .i64 spec1.Unclosed])]) hM ⟨(Value.slice none 0 0),[],rfl,rfl,rfl,rfl,rfl,hds,RowRel.nil,hs⟩ ?_
  clear hs hM
  rintro ⟨xv10,xv11⟩ o2 E w hM ⟨v15,xs16,hE1,hE3,hE7,hE8,hE9,hds,hrelxs16,hs⟩
  obtain ⟨E,rfl⟩:=open5 (E:=E) hE1 hE3 hE7 hE8 hE9
  refine WP_seq<|WP_region<|O (r_lss rfl rfl) rfl<|OW_nil<|WP_seq ?_
  rcases condS hM with ⟨hc6,hM⟩|⟨hc6,hM⟩
  ·refine WP_true rfl hc6<|WP_skip<|WP_seq<|WP_block<|WP_seq<|WP_region ?_
   obtain ⟨e6,he6,hM⟩:=bindS hM
   obtain ⟨b12,ob12,cb12,hvb12,cs36,hcs36,hcb12⟩:=hRv1.at he6
   obtain ⟨cs37,cs38,cs39,cs40,cs41,rfl,hcs37,hcs38,hcs39,hcs40,hcs41⟩:=hcs36
   have hcs37:cs37=_:=hcs37; subst hcs37
   have hcs38:cs38=_:=hcs38; subst hcs38
   have hcs39:cs39=_:=hcs39; subst hcs39
   have hcs40:cs40=_:=hcs40; subst hcs40
   have hcs41:cs41=_:=hcs41; subst hcs41
   refine O (r_idxSl Tryz.underlying22 ti46 (v:=v1) rfl hvb12 rfl (idxL_some he6).1 (idxL_some he6).2.1) rfl<|O (r_loadEl (cs:=[encS e6.Name,Value.int .i64 e6.Kind,encS e6.Pattern,encS e6.Sample,encS e6.Close]) ti46 rfl rfl (.inl rfl) (hcb12 _ hs.imm) (v:=Value.agg (List.toArray (α:=Value) [encS e6.Name,Value.int .i64 e6.Kind,encS e6.Pattern,encS e6.Sample,encS e6.Close])) rfl) rfl<|OW_alloc ti46 hs (zs:=[encS [],Value.int .i64 0,encS [],encS [],encS []]) rfl rfl ?_
   intro b13 wv22 hs
   refine OW_storeAll ti46 hs (i:=0) rfl rfl (v:=Value.agg (List.toArray (α:=Value) [encS e6.Name,Value.int .i64 e6.Kind,encS e6.Pattern,encS e6.Sample,encS e6.Close])) rfl (vs:=[encS e6.Name,Value.int .i64 e6.Kind,encS e6.Pattern,encS e6.Sample,encS e6.Close]) rfl (one_cons rfl (one_cons rfl (one_cons rfl (one_cons rfl (one_cons rfl one_nil))))) rfl rfl ?_
   intro wv23 hs
   refine OW_nil<|WP_region<|O (r_move (v:=v15) rfl) rfl<|O (r_fieldAddr Tryz.underlying46 ti9 rfl rfl (by decide) rfl rfl) rfl<|O (r_load (v:=encS e6.Name) ti9 rfl (hs.cell (i:=0) (o:=0) rfl rfl)) rfl<|OW_lit (τ:=tStr) [encS e6.Name] [e6.Name] Tryz.underlying27 ti9 (by decide) hs rfl rfl rfl ⟨rfl,trivial⟩ rfl ?_
   intro v19 wv24 xs20 hrelxs20 hs
   obtain ⟨l4,hl4,hM⟩:=bindS hM
   refine OW_append Tryz.underlying27 ti9 rfl (by decide) (by decide) hs (i:=2) rfl hrelxs16 (v:=v15) rfl (u:=v19) rfl (hs.rowSrc (i:=0) rfl) hrelxs20 hl4 rfl ?_
   intro v20 wv25 xs21 hrelxs21 hs
   refine O (r_assign (v:=v20) rfl) rfl<|OW_nil<|WP_region ?_
   obtain ⟨t6,ht6,hM⟩:=bindS hM
   refine O (r_addM rfl rfl ht6) rfl<|O (r_move (v:=Value.int .i64 t6) rfl) rfl<|OW_nil ?_
   obtain rfl:=Option.some.inj hM
   exact ⟨v20,xs21,rfl,rfl,rfl,rfl,rfl,hds,hrelxs21,(hs.sub (.cons _ (.cons _ (.cons_cons _ (.cons_cons _ .slnil)))))⟩
  ·refine WP_false rfl hc6<|WP_exit ?_
   obtain rfl:=Option.some.inj hM
   refine fun hr=>?_
   have hM:=congrArg some hr
   obtain rfl:=Option.some.inj hM
   exact ⟨v15,xs16,rfl,rfl,hds,hrelxs16,hs⟩
 ·clear hs
  rintro E w ⟨v11,xs11,hE1,hE3,hds,hrelxs11,hs⟩
  have hM:=hKhx1
  obtain ⟨E,rfl⟩:=open2 (E:=E) hE1 hE3
  obtain ⟨l6,hx2,hKhx2⟩:=bindS hM
  refine WP_cut (fun E w=>∃(v22:Value) (xs24:List Value),E 3=v22∧E.ds=[]∧RowRel tStr g0 xs24 l6∧Go.Lx.Sep g0 w0 g0 w [.row v22 9 tStr.sz l6.length xs24]) ?_ ?_
  ·have hM:=hx2
   have hag0:=Hle.refl g0
   refine WP_seq<|WP_region<|O (r_fieldAddr Tryz.underlying24 ti4 rfl rfl (by decide) rfl rfl) rfl<|O (r_load (v:=Value.bool spec1.Layout) ti4 rfl (hs.cell (i:=1) (o:=1) rfl rfl)) rfl<|OW_nil ?_
   rcases condS hM with ⟨hc8,hM⟩|⟨hc8,hM⟩
   ·refine WP_true rfl hc8<|WP_region<|O (r_move (v:=v11) rfl) rfl ?_
    have hRg2:RdS tStr g0 (.slice (some ⟨0,0,none⟩) 3 3) M.layoutTerms:=hG0.strs
    refine O (r_sliceArr Tryz.underlying59 ti9 rfl) rfl ?_
    obtain ⟨xs25,hrxs25,hlxs25⟩:=(id hRg2)
    obtain ⟨l7,hl7,hM⟩:=bindS hM
    refine OW_append Tryz.underlying27 ti9 rfl (by decide) (by decide) hs (i:=0) rfl hrelxs11 (v:=v11) rfl (u:=(Value.slice (some ⟨0,0,none⟩) 3 3)) rfl (hlxs25.src hs.imm) hrxs25 hl7 rfl ?_
    intro v23 wv27 xs26 hrelxs26 hs
    refine O (r_assign (v:=v23) rfl) rfl<|OW_nil ?_
    obtain rfl:=Option.some.inj hM
    exact ⟨v23,xs26,rfl,hds,hrelxs26,(hs.sub (.cons_cons _ (.cons _ .slnil)))⟩
   ·refine WP_false rfl hc8<|WP_skip ?_
    obtain rfl:=Option.some.inj hM
    exact ⟨v11,xs11,rfl,hds,hrelxs11,(hs.sub (.cons_cons _ (.cons _ .slnil)))⟩
  ·clear hs
   rintro E w ⟨v22,xs24,hE3,hds,hrelxs24,hs⟩
   have hM:=hKhx2
   obtain ⟨E,rfl⟩:=open1 (E:=E) hE3
   refine WP_seq<|WP_region<|O (r_move (v:=v22) rfl) rfl<|O (r_assign (v:=v22) rfl) rfl<|OW_nil<|WP_ret ?_
   obtain rfl:=Option.some.inj hM
   refine FL_nil hds ?_
   exact ⟨_,res1 Tryz.results9 (rv_tmp (v:=v22) rfl),g0,xs24,hrelxs24,hs⟩
set_option maxRecDepth 100000 in
theorem law11_awake_ok {r:Bool} (hM:M.law11_awake=some r) {g0:Hp} {w0:World} (hi:Imm g0 w0) (hG0:GBox 0 (M.layoutTerms.map encS) g0) :
    CallsV Tryz.prog 8 #[] w0 (fun v w'=>∃g',(VRd tBool false g' v r)∧Ext g0 w0 g' w'):=by
 unfold M.law11_awake at hM
 have hs:=Sep.start hi
 refine calls_of_WP (args:=[]) Tryz.func8 rfl Tryz.ntmps8 rfl ?_
 have hds:(argEnv []).ds=[]:=rfl
 refine WP_seq<|WP_region<|O (r_assign (v:=Value.bool false) rfl) rfl<|OW_nil<|WP_seq<|WP_region ?_
 obtain ⟨rv1,hrv1,hM⟩:=bindS hM
 refine C [Value.bool false] cf22 rfl (law11_swapped_ok hrv1 hs.imm) rfl ?_
 rintro v1 wv1 ⟨gg1,hvv1,hegg1⟩
 have hlegg1:=hegg1.le hs.imm
 replace hs:=hs.call hegg1
 replace hG0:=hG0.mono hlegg1
 obtain ⟨cs1,rfl,hcs1⟩:=hvv1
 obtain ⟨cs2,cs3,cs4,cs5,rfl,hcs2,hcs3,hcs4,hcs5⟩:=hcs1
 obtain ⟨v2,rfl,hRv2⟩:=hcs2
 have hcs3:cs3=_:=hcs3; subst hcs3
 have hcs4:cs4=_:=hcs4; subst hcs4
 have hcs5:cs5=_:=hcs5; subst hcs5
 obtain ⟨rv2,hrv2,hM⟩:=bindS hM
 refine C [Value.agg (List.toArray (α:=Value) [v2,Value.bool rv1.Layout,Value.int .i64 rv1.Misspelling,Value.int .i64 rv1.Unclosed])] cf19 rfl (lexspec_Check_ok hrv2 hs.imm (⟨[v2],[Value.bool rv1.Layout],[Value.int .i64 rv1.Misspelling],[Value.int .i64 rv1.Unclosed],rfl,⟨_,rfl,hRv2⟩,rfl,rfl,rfl⟩) hG0) rfl ?_
 rintro v3 wv2 ⟨gg2,hvv3,hegg2⟩
 have hlegg2:=hegg2.le hs.imm
 replace hs:=hs.call hegg2
 replace hG0:=hG0.mono hlegg2
 obtain ⟨v4,v5,rfl,hvv4,hvv5⟩:=hvv3
 obtain ⟨cs6,rfl,hcs6⟩:=hvv5
 have hcs6:cs6=_:=hcs6; subst hcs6
 obtain ⟨cs7,rfl,hcs7⟩:=hvv4
 have hcs7:cs7=_:=hcs7; subst hcs7
 refine O (r_move (v:=Value.tuple #[Value.int .i64 rv2.1,Value.int .i64 rv2.2]) rfl) rfl<|O (r_extract (vs:=[Value.int .i64 rv2.1,Value.int .i64 rv2.2]) (v:=Value.int .i64 rv2.1) rfl rfl) rfl<|O (r_extract (vs:=[Value.int .i64 rv2.1,Value.int .i64 rv2.2]) (v:=Value.int .i64 rv2.2) rfl rfl) rfl<|O (r_assign (v:=Value.int .i64 rv2.1) rfl) rfl<|O (r_assign (v:=Value.int .i64 rv2.2) rfl) rfl<|OW_nil<|WP_seq<|WP_region ?_
 obtain ⟨rv3,hrv3,hM⟩:=bindS hM
 refine C [Value.bool true] cf22 rfl (law11_swapped_ok hrv3 hs.imm) rfl ?_
 rintro v6 wv3 ⟨gg3,hvv6,hegg3⟩
 have hlegg3:=hegg3.le hs.imm
 replace hs:=hs.call hegg3
 replace hG0:=hG0.mono hlegg3
 obtain ⟨cs8,rfl,hcs8⟩:=hvv6
 obtain ⟨cs9,cs10,cs11,cs12,rfl,hcs9,hcs10,hcs11,hcs12⟩:=hcs8
 obtain ⟨v7,rfl,hRv7⟩:=hcs9
 have hcs10:cs10=_:=hcs10; subst hcs10
 have hcs11:cs11=_:=hcs11; subst hcs11
 have hcs12:cs12=_:=hcs12; subst hcs12
 obtain ⟨rv4,hrv4,hM⟩:=bindS hM
 refine C [Value.agg (List.toArray (α:=Value) [v7,Value.bool rv3.Layout,Value.int .i64 rv3.Misspelling,Value.int .i64 rv3.Unclosed])] cf19 rfl (lexspec_Check_ok hrv4 hs.imm (⟨[v7],[Value.bool rv3.Layout],[Value.int .i64 rv3.Misspelling],[Value.int .i64 rv3.Unclosed],rfl,⟨_,rfl,hRv7⟩,rfl,rfl,rfl⟩) hG0) rfl ?_
 rintro v8 wv4 ⟨gg4,hvv8,hegg4⟩
 have hlegg4:=hegg4.le hs.imm
 replace hs:=hs.call hegg4
 replace hG0:=hG0.mono hlegg4
 obtain ⟨v9,v10,rfl,hvv9,hvv10⟩:=hvv8
 obtain ⟨cs13,rfl,hcs13⟩:=hvv10
 have hcs13:cs13=_:=hcs13; subst hcs13
 obtain ⟨cs14,rfl,hcs14⟩:=hvv9
 have hcs14:cs14=_:=hcs14; subst hcs14
 refine O (r_move (v:=Value.tuple #[Value.int .i64 rv4.1,Value.int .i64 rv4.2]) rfl) rfl<|O (r_extract (vs:=[Value.int .i64 rv4.1,Value.int .i64 rv4.2]) (v:=Value.int .i64 rv4.1) rfl rfl) rfl<|O (r_extract (vs:=[Value.int .i64 rv4.1,Value.int .i64 rv4.2]) (v:=Value.int .i64 rv4.2) rfl rfl) rfl<|O (r_assign (v:=Value.int .i64 rv4.1) rfl) rfl<|O (r_assign (v:=Value.int .i64 rv4.2) rfl) rfl<|OW_nil<|WP_seq<|WP_region ?_
 obtain ⟨rv5,hrv5,hM⟩:=bindS hM
 refine C [Value.bool true] cf22 rfl (law11_swapped_ok hrv5 hs.imm) rfl ?_
 rintro v11 wv5 ⟨gg5,hvv11,hegg5⟩
 have hlegg5:=hegg5.le hs.imm
 replace hs:=hs.call hegg5
 replace hG0:=hG0.mono hlegg5
 obtain ⟨cs15,rfl,hcs15⟩:=hvv11
 obtain ⟨cs16,cs17,cs18,cs19,rfl,hcs16,hcs17,hcs18,hcs19⟩:=hcs15
 obtain ⟨v12,rfl,hRv12⟩:=hcs16
 have hcs17:cs17=_:=hcs17; subst hcs17
 have hcs18:cs18=_:=hcs18; subst hcs18
 have hcs19:cs19=_:=hcs19; subst hcs19
 obtain ⟨rv6,hrv6,hM⟩:=bindS hM
 refine C [Value.agg (List.toArray (α:=Value) [v12,Value.bool rv5.Layout,Value.int .i64 rv5.Misspelling,Value.int .i64 rv5.Unclosed])] cf16 rfl (lexspec_Compile_ok hrv6 hs.imm (⟨[v12],[Value.bool rv5.Layout],[Value.int .i64 rv5.Misspelling],[Value.int .i64 rv5.Unclosed],rfl,⟨_,rfl,hRv12⟩,rfl,rfl,rfl⟩) hG0) rfl ?_
 rintro v13 wv6 ⟨gg6,hvv13,hegg6⟩
 have hlegg6:=hegg6.le hs.imm
 replace hs:=hs.call hegg6
 replace hG0:=hG0.mono hlegg6
 obtain ⟨v14,v15,rfl,hvv14,hvv15⟩:=hvv13
 obtain ⟨cs20,rfl,hcs20⟩:=hvv15
 have hcs20:cs20=_:=hcs20; subst hcs20
 obtain ⟨cs21,rfl,hcs21⟩:=hvv14
 obtain ⟨cs22,cs23,cs24,rfl,hcs22,hcs23,hcs24⟩:=hcs21
 obtain ⟨v16,rfl,hRv16⟩:=hcs22
 obtain ⟨v17,rfl,hRv17⟩:=hcs23
 obtain ⟨v18,rfl,hRv18⟩:=hcs24
 refine O (r_move (v:=Value.tuple #[Value.agg (List.toArray (α:=Value) [v16,v17,v18]),Value.int .i64 rv6.2]) rfl) rfl<|O (r_extract (vs:=[Value.agg (List.toArray (α:=Value) [v16,v17,v18]),Value.int .i64 rv6.2]) (v:=Value.agg (List.toArray (α:=Value) [v16,v17,v18])) rfl rfl) rfl<|O (r_extract (vs:=[Value.agg (List.toArray (α:=Value) [v16,v17,v18]),Value.int .i64 rv6.2]) (v:=Value.int .i64 rv6.2) rfl rfl) rfl<|OW_alloc ti37 hs (zs:=[Value.slice none 0 0,Value.slice none 0 0,Value.slice none 0 0]) rfl rfl ?_
 intro b1 wv7 hs
 refine OW_storeAll ti37 hs (i:=0) rfl rfl (v:=Value.agg (List.toArray (α:=Value) [v16,v17,v18])) rfl (vs:=[v16,v17,v18]) rfl (one_cons (by obtain ⟨_,_,h9⟩:=hRv16.shape; rw [h9]; rfl) (one_cons (by obtain ⟨_,_,h9⟩:=hRv17.shape; rw [h9]; rfl) (one_cons (by obtain ⟨_,_,h9⟩:=hRv18.shape; rw [h9]; rfl) one_nil))) rfl rfl ?_
 intro wv8 hs
 refine O (r_assign (v:=Value.int .i64 rv6.2) rfl) rfl<|OW_nil<|WP_seq<|WP_region ?_
 obtain ⟨rv7,hrv7,hM⟩:=bindS hM
 refine C [] cf23 rfl (ref11_Small_ok hrv7 hs.imm) rfl ?_
 rintro v19 wv9 ⟨gg7,hvv19,hegg7⟩
 have hlegg7:=hegg7.le hs.imm
 replace hs:=hs.call hegg7
 replace hG0:=hG0.mono hlegg7
 replace hRv16:=hRv16.mono hlegg7
 replace hRv17:=hRv17.mono hlegg7
 replace hRv18:=hRv18.mono hlegg7
 obtain ⟨cs25,rfl,hcs25⟩:=hvv19
 obtain ⟨cs26,cs27,cs28,cs29,rfl,hcs26,hcs27,hcs28,hcs29⟩:=hcs25
 obtain ⟨v20,rfl,hRv20⟩:=hcs26
 have hcs27:cs27=_:=hcs27; subst hcs27
 have hcs28:cs28=_:=hcs28; subst hcs28
 have hcs29:cs29=_:=hcs29; subst hcs29
 obtain ⟨rv8,hrv8,hM⟩:=bindS hM
 refine C [Value.agg (List.toArray (α:=Value) [v20,Value.bool rv7.Layout,Value.int .i64 rv7.Misspelling,Value.int .i64 rv7.Unclosed])] cf11 rfl (lexspec_Separator_ok hrv8 hs.imm (⟨[v20],[Value.bool rv7.Layout],[Value.int .i64 rv7.Misspelling],[Value.int .i64 rv7.Unclosed],rfl,⟨_,rfl,hRv20⟩,rfl,rfl,rfl⟩)) rfl ?_
 rintro v21 wv10 ⟨gg8,hvv21,hegg8⟩
 have hlegg8:=hegg8.le hs.imm
 replace hs:=hs.call hegg8
 replace hG0:=hG0.mono hlegg8
 replace hRv16:=hRv16.mono hlegg8
 replace hRv17:=hRv17.mono hlegg8
 replace hRv18:=hRv18.mono hlegg8
 obtain ⟨v22,v23,rfl,hvv22,hvv23⟩:=hvv21
 obtain ⟨cs30,rfl,hcs30⟩:=hvv23
 have hcs30:cs30=_:=hcs30; subst hcs30
 obtain ⟨cs31,rfl,hcs31⟩:=hvv22
 have hcs31:cs31=_:=hcs31; subst hcs31
 refine O (r_move (v:=Value.tuple #[encS rv8.1,Value.bool rv8.2]) rfl) rfl<|O (r_extract (vs:=[encS rv8.1,Value.bool rv8.2]) (v:=encS rv8.1) rfl rfl) rfl<|O (r_extract (vs:=[encS rv8.1,Value.bool rv8.2]) (v:=Value.bool rv8.2) rfl rfl) rfl<|O (r_assign (v:=encS rv8.1) rfl) rfl<|O (r_assign (v:=Value.bool rv8.2) rfl) rfl<|OW_nil ?_
 obtain ⟨xv1,hx1,hKhx1⟩:=bindS hM
 refine WP_cut (fun E w=>∃(gg16:Hp),E 0=Value.bool xv1∧E.ds=[]∧Hle gg8 gg16∧Go.Lx.Sep g0 w0 gg16 w []) ?_ ?_
 ·have hM:=hx1
  have hagg8:=Hle.refl gg8
  refine WP_region<|O (r_move (v:=Value.int .i64 rv2.1) rfl) rfl<|O (r_eql rfl rfl) rfl<|O (r_move (v:=Value.bool (rv2.1 == 1)) rfl) rfl ?_
  rcases condS hM with ⟨hg12,hM⟩|⟨hg12,hM⟩
  ·refine OG rfl rfl rfl (by rw [hg12]; rfl) (r_move (v:=Value.int .i64 rv2.2) rfl) rfl<|OG rfl rfl rfl (by rw [hg12]; rfl) (r_eql rfl rfl) rfl<|O (r_pickT (v:=Value.bool (rv2.2 == 13)) rfl hg12 rfl) rfl<|O (r_move (v:=Value.bool (rv2.2 == 13)) rfl) rfl ?_
   rcases condS hM with ⟨hg13,hM⟩|⟨hg13,hM⟩
   ·refine OG rfl rfl rfl (by rw [hg13]; rfl) (r_move (v:=Value.int .i64 rv4.1) rfl) rfl<|OG rfl rfl rfl (by rw [hg13]; rfl) (r_eql rfl rfl) rfl<|O (r_pickT (v:=Value.bool (rv4.1 == 0)) rfl hg13 rfl) rfl<|O (r_move (v:=Value.bool (rv4.1 == 0)) rfl) rfl ?_
    rcases condS hM with ⟨hg14,hM⟩|⟨hg14,hM⟩
    ·refine OG rfl rfl rfl (by rw [hg14]; rfl) (r_move (v:=Value.int .i64 rv4.2) rfl) rfl<|OG rfl rfl rfl (by rw [hg14]; rfl) (r_eql rfl rfl) rfl<|O (r_pickT (v:=Value.bool (rv4.2 == 0)) rfl hg14 rfl) rfl<|O (r_move (v:=Value.bool (rv4.2 == 0)) rfl) rfl ?_
     rcases condS hM with ⟨hg15,hM⟩|⟨hg15,hM⟩
     ·refine OG rfl rfl rfl (by rw [hg15]; rfl) (r_move (v:=Value.int .i64 rv6.2) rfl) rfl<|OG rfl rfl rfl (by rw [hg15]; rfl) (r_eql rfl rfl) rfl<|O (r_pickT (v:=Value.bool (rv6.2 == 0)) rfl hg15 rfl) rfl<|O (r_move (v:=Value.bool (rv6.2 == 0)) rfl) rfl ?_
      rcases condS hM with ⟨hg16,hM⟩|⟨hg16,hM⟩
      ·refine OG rfl rfl rfl (by rw [hg16]; rfl) (r_loadN (cs:=[v16,v17,v18]) ti37 rfl rfl (hs.cells (i:=0) rfl)) rfl ?_
       obtain ⟨rv16,hrv16,hM⟩:=bindS hM
       refine CG rfl rfl rfl (by rw [hg16]; rfl) [Value.agg (List.toArray (α:=Value) [v16,v17,v18])] cf17 rfl (ref10_Valid_ok hrv16 hs.imm (⟨[v16],[v17],[v18],rfl,⟨_,rfl,hRv16⟩,⟨_,rfl,hRv17⟩,⟨_,rfl,hRv18⟩⟩)) rfl ?_
       rintro v33 wv18 ⟨gg17,hvv33,hegg17⟩
       have hlegg17:=hegg17.le hs.imm
       replace hs:=hs.call hegg17
       replace hG0:=hG0.mono hlegg17
       replace hRv16:=hRv16.mono hlegg17
       replace hRv17:=hRv17.mono hlegg17
       replace hRv18:=hRv18.mono hlegg17
       replace hagg8:=hagg8.trans hlegg17
       obtain ⟨cs46,rfl,hcs46⟩:=hvv33
       have hcs46:cs46=_:=hcs46; subst hcs46
       refine O (r_pickT (v:=Value.bool rv16) rfl hg16 rfl) rfl<|O (r_move (v:=Value.bool rv16) rfl) rfl ?_
       rcases condS hM with ⟨hg17,hM⟩|⟨hg17,hM⟩
       ·refine OG rfl rfl rfl (by rw [hg17]; rfl) (r_loadN (cs:=[v16,v17,v18]) ti37 rfl rfl (hs.cells (i:=0) rfl)) rfl ?_
        obtain ⟨rv17,hrv17,hM⟩:=bindS hM
        refine CG rfl rfl rfl (by rw [hg17]; rfl) [Value.agg (List.toArray (α:=Value) [v16,v17,v18]),encS [105,102]] cf18 rfl (ref10_Run_ok hrv17 hs.imm (⟨[v16],[v17],[v18],rfl,⟨_,rfl,hRv16⟩,⟨_,rfl,hRv17⟩,⟨_,rfl,hRv18⟩⟩)) rfl ?_
        rintro v34 wv19 ⟨gg18,hvv34,hegg18⟩
        have hlegg18:=hegg18.le hs.imm
        replace hs:=hs.call hegg18
        replace hG0:=hG0.mono hlegg18
        replace hRv16:=hRv16.mono hlegg18
        replace hRv17:=hRv17.mono hlegg18
        replace hRv18:=hRv18.mono hlegg18
        replace hagg8:=hagg8.trans hlegg18
        obtain ⟨cs47,rfl,hcs47⟩:=hvv34
        have hcs47:cs47=_:=hcs47; subst hcs47
        refine OG rfl rfl rfl (by rw [hg17]; rfl) (r_eql rfl rfl) rfl<|O (r_pickT (v:=Value.bool (rv17 == 0)) rfl hg17 rfl) rfl<|O (r_move (v:=Value.bool (rv17 == 0)) rfl) rfl ?_
        rcases condS hM with ⟨hg18,hM⟩|⟨hg18,hM⟩
        ·refine OG rfl rfl rfl (by rw [hg18]; rfl) (r_loadN (cs:=[v16,v17,v18]) ti37 rfl rfl (hs.cells (i:=0) rfl)) rfl ?_
         obtain ⟨rv18,hrv18,hM⟩:=bindS hM
         refine CG rfl rfl rfl (by rw [hg18]; rfl) [Value.agg (List.toArray (α:=Value) [v16,v17,v18]),encS [105,116]] cf18 rfl (ref10_Run_ok hrv18 hs.imm (⟨[v16],[v17],[v18],rfl,⟨_,rfl,hRv16⟩,⟨_,rfl,hRv17⟩,⟨_,rfl,hRv18⟩⟩)) rfl ?_
         rintro v35 wv20 ⟨gg19,hvv35,hegg19⟩
         have hlegg19:=hegg19.le hs.imm
         replace hs:=hs.call hegg19
         replace hG0:=hG0.mono hlegg19
         replace hagg8:=hagg8.trans hlegg19
         obtain ⟨cs48,rfl,hcs48⟩:=hvv35
         have hcs48:cs48=_:=hcs48; subst hcs48
         refine OG rfl rfl rfl (by rw [hg18]; rfl) (r_eql rfl rfl) rfl<|O (r_pickT (v:=Value.bool (rv18 == 1)) rfl hg18 rfl) rfl<|O (r_move (v:=Value.bool (rv18 == 1)) rfl) rfl ?_
         rcases condS hM with ⟨hg19,hM⟩|⟨hg19,hM⟩
         ·obtain ⟨rv19,hrv19,hM⟩:=bindS hM
          refine CG rfl rfl rfl (by rw [hg19]; rfl) [Value.bool true] cf22 rfl (law11_swapped_ok hrv19 hs.imm) rfl ?_
          rintro v36 wv21 ⟨gg20,hvv36,hegg20⟩
          have hlegg20:=hegg20.le hs.imm
          replace hs:=hs.call hegg20
          replace hG0:=hG0.mono hlegg20
          replace hagg8:=hagg8.trans hlegg20
          obtain ⟨cs49,rfl,hcs49⟩:=hvv36
          obtain ⟨cs50,cs51,cs52,cs53,rfl,hcs50,hcs51,hcs52,hcs53⟩:=hcs49
          obtain ⟨v37,rfl,hRv37⟩:=hcs50
          have hcs51:cs51=_:=hcs51; subst hcs51
          have hcs52:cs52=_:=hcs52; subst hcs52
          have hcs53:cs53=_:=hcs53; subst hcs53
          obtain ⟨rv20,hrv20,hM⟩:=bindS hM
          refine CG rfl rfl rfl (by rw [hg19]; rfl) [Value.agg (List.toArray (α:=Value) [v37,Value.bool rv19.Layout,Value.int .i64 rv19.Misspelling,Value.int .i64 rv19.Unclosed]),Value.int .i64 1] cf13 rfl (lexspec_Sample_ok hrv20 hs.imm (⟨[v37],[Value.bool rv19.Layout],[Value.int .i64 rv19.Misspelling],[Value.int .i64 rv19.Unclosed],rfl,⟨_,rfl,hRv37⟩,rfl,rfl,rfl⟩)) rfl ?_
          rintro v38 wv22 ⟨gg21,hvv38,hegg21⟩
          have hlegg21:=hegg21.le hs.imm
          replace hs:=hs.call hegg21
          replace hG0:=hG0.mono hlegg21
          replace hagg8:=hagg8.trans hlegg21
          obtain ⟨cs54,rfl,hcs54⟩:=hvv38
          have hcs54:cs54=_:=hcs54; subst hcs54
          refine OG rfl rfl rfl (by rw [hg19]; rfl) (r_eqlS rfl rfl) rfl<|O (r_pickT (v:=Value.bool (rv20 == [120])) rfl hg19 rfl) rfl<|O (r_move (v:=Value.bool (rv20 == [120])) rfl) rfl ?_
          rcases condS hM with ⟨hg20,hM⟩|⟨hg20,hM⟩
          ·refine OG rfl rfl rfl (by rw [hg20]; rfl) (r_move (v:=encS rv8.1) rfl) rfl<|OG rfl rfl rfl (by rw [hg20]; rfl) (r_eqlS rfl rfl) rfl<|O (r_pickT (v:=Value.bool (rv8.1 == [32])) rfl hg20 rfl) rfl<|O (r_move (v:=Value.bool (rv8.1 == [32])) rfl) rfl ?_
           rcases condS hM with ⟨hg21,hM⟩|⟨hg21,hM⟩
           ·refine OG rfl rfl rfl (by rw [hg21]; rfl) (r_move (v:=Value.bool rv8.2) rfl) rfl<|O (r_pickT (v:=Value.bool rv8.2) rfl hg21 rfl) rfl<|O (r_move (v:=Value.bool rv8.2) rfl) rfl ?_
            rcases condS hM with ⟨hg22,hM⟩|⟨hg22,hM⟩
            ·obtain ⟨rv21,hrv21,hM⟩:=bindS hM
             refine CG rfl rfl rfl (by rw [hg22]; rfl) [Value.bool true] cf22 rfl (law11_swapped_ok hrv21 hs.imm) rfl ?_
             rintro v39 wv23 ⟨gg22,hvv39,hegg22⟩
             have hlegg22:=hegg22.le hs.imm
             replace hs:=hs.call hegg22
             replace hG0:=hG0.mono hlegg22
             replace hagg8:=hagg8.trans hlegg22
             obtain ⟨cs55,rfl,hcs55⟩:=hvv39
             obtain ⟨cs56,cs57,cs58,cs59,rfl,hcs56,hcs57,hcs58,hcs59⟩:=hcs55
             obtain ⟨v40,rfl,hRv40⟩:=hcs56
             have hcs57:cs57=_:=hcs57; subst hcs57
             have hcs58:cs58=_:=hcs58; subst hcs58
             have hcs59:cs59=_:=hcs59; subst hcs59
             obtain ⟨rv22,hrv22,hM⟩:=bindS hM
             refine CG rfl rfl rfl (by rw [hg22]; rfl) [Value.agg (List.toArray (α:=Value) [v40,Value.bool rv21.Layout,Value.int .i64 rv21.Misspelling,Value.int .i64 rv21.Unclosed])] cf9 rfl (lexspec_Terms_ok hrv22 hs.imm (⟨[v40],[Value.bool rv21.Layout],[Value.int .i64 rv21.Misspelling],[Value.int .i64 rv21.Unclosed],rfl,⟨_,rfl,hRv40⟩,rfl,rfl,rfl⟩) hG0) rfl ?_
             rintro v41 wv24 ⟨gg23,xs2,hvv41,hegg23⟩
             have hlegg23:=hegg23.ext.le hs.imm
             replace hs:=hs.callOwn hegg23
             simp only [List.cons_append,List.nil_append] at hs
             replace hagg8:=hagg8.trans hlegg23
             obtain ⟨a2,ca2,hva2⟩:=hs.rowShape (i:=0) rfl
             refine OG rfl rfl rfl (by rw [hg22]; rfl) (r_lenSl (v:=v41) Tryz.underlying27 rfl hva2) rfl<|OG rfl rfl rfl (by rw [hg22]; rfl) (r_eql rfl rfl) rfl<|O (r_pickT (v:=Value.bool ((rv22.length:Int) == 2)) rfl hg22 rfl) rfl<|O (r_assign (v:=Value.bool ((rv22.length:Int) == 2)) rfl) rfl<|OW_nil ?_
             obtain rfl:=Option.some.inj hM
             exact ⟨gg23,rfl,hds,hagg8,(hs.sub (.cons _ (.cons _ .slnil)))⟩
            ·refine OK rfl rfl rfl (by rw [hg22]; rfl) rfl<|OK rfl rfl rfl (by rw [hg22]; rfl) rfl<|OK rfl rfl rfl (by rw [hg22]; rfl) rfl<|OK rfl rfl rfl (by rw [hg22]; rfl) rfl<|O (r_pickF (v:=Value.bool false) rfl hg22 rfl) rfl<|O (r_assign (v:=Value.bool false) rfl) rfl<|OW_nil ?_
             obtain rfl:=Option.some.inj hM
             exact ⟨gg21,rfl,hds,hagg8,(hs.sub (.cons _ .slnil))⟩
           ·refine OK rfl rfl rfl (by rw [hg21]; rfl) rfl<|O (r_pickF (v:=Value.bool false) rfl hg21 rfl) rfl<|O (r_move (v:=Value.bool false) rfl) rfl<|OK rfl rfl rfl rfl rfl<|OK rfl rfl rfl rfl rfl<|OK rfl rfl rfl rfl rfl<|OK rfl rfl rfl rfl rfl<|O (r_pickF (v:=Value.bool false) rfl rfl rfl) rfl<|O (r_assign (v:=Value.bool false) rfl) rfl<|OW_nil ?_
            obtain rfl:=Option.some.inj hM
            exact ⟨gg21,rfl,hds,hagg8,(hs.sub (.cons _ .slnil))⟩
          ·refine OK rfl rfl rfl (by rw [hg20]; rfl) rfl<|OK rfl rfl rfl (by rw [hg20]; rfl) rfl<|O (r_pickF (v:=Value.bool false) rfl hg20 rfl) rfl<|O (r_move (v:=Value.bool false) rfl) rfl<|OK rfl rfl rfl rfl rfl<|O (r_pickF (v:=Value.bool false) rfl rfl rfl) rfl<|O (r_move (v:=Value.bool false) rfl) rfl<|OK rfl rfl rfl rfl rfl<|OK rfl rfl rfl rfl rfl<|OK rfl rfl rfl rfl rfl<|OK rfl rfl rfl rfl rfl<|O (r_pickF (v:=Value.bool false) rfl rfl rfl) rfl<|O (r_assign (v:=Value.bool false) rfl) rfl<|OW_nil ?_
           obtain rfl:=Option.some.inj hM
           exact ⟨gg21,rfl,hds,hagg8,(hs.sub (.cons _ .slnil))⟩
         ·refine OK rfl rfl rfl (by rw [hg19]; rfl) rfl<|OK rfl rfl rfl (by rw [hg19]; rfl) rfl<|OK rfl rfl rfl (by rw [hg19]; rfl) rfl<|O (r_pickF (v:=Value.bool false) rfl hg19 rfl) rfl<|O (r_move (v:=Value.bool false) rfl) rfl<|OK rfl rfl rfl rfl rfl<|OK rfl rfl rfl rfl rfl<|O (r_pickF (v:=Value.bool false) rfl rfl rfl) rfl<|O (r_move (v:=Value.bool false) rfl) rfl<|OK rfl rfl rfl rfl rfl<|O (r_pickF (v:=Value.bool false) rfl rfl rfl) rfl<|O (r_move (v:=Value.bool false) rfl) rfl<|OK rfl rfl rfl rfl rfl<|OK rfl rfl rfl rfl rfl<|OK rfl rfl rfl rfl rfl<|OK rfl rfl rfl rfl rfl<|O (r_pickF (v:=Value.bool false) rfl rfl rfl) rfl<|O (r_assign (v:=Value.bool false) rfl) rfl ?_
          refine OW_nil ?_
          obtain rfl:=Option.some.inj hM
          exact ⟨gg19,rfl,hds,hagg8,(hs.sub (.cons _ .slnil))⟩
        ·refine OK rfl rfl rfl (by rw [hg18]; rfl) rfl<|OK rfl rfl rfl (by rw [hg18]; rfl) rfl<|OK rfl rfl rfl (by rw [hg18]; rfl) rfl<|O (r_pickF (v:=Value.bool false) rfl hg18 rfl) rfl<|O (r_move (v:=Value.bool false) rfl) rfl<|OK rfl rfl rfl rfl rfl<|OK rfl rfl rfl rfl rfl<|OK rfl rfl rfl rfl rfl<|O (r_pickF (v:=Value.bool false) rfl rfl rfl) rfl<|O (r_move (v:=Value.bool false) rfl) rfl<|OK rfl rfl rfl rfl rfl<|OK rfl rfl rfl rfl rfl<|O (r_pickF (v:=Value.bool false) rfl rfl rfl) rfl<|O (r_move (v:=Value.bool false) rfl) rfl<|OK rfl rfl rfl rfl rfl<|O (r_pickF (v:=Value.bool false) rfl rfl rfl) rfl<|O (r_move (v:=Value.bool false) rfl) rfl<|OK rfl rfl rfl rfl rfl ?_
         refine OK rfl rfl rfl rfl rfl<|OK rfl rfl rfl rfl rfl<|OK rfl rfl rfl rfl rfl<|O (r_pickF (v:=Value.bool false) rfl rfl rfl) rfl<|O (r_assign (v:=Value.bool false) rfl) rfl<|OW_nil ?_
         obtain rfl:=Option.some.inj hM
         exact ⟨gg18,rfl,hds,hagg8,(hs.sub (.cons _ .slnil))⟩
       ·refine OK rfl rfl rfl (by rw [hg17]; rfl) rfl<|OK rfl rfl rfl (by rw [hg17]; rfl) rfl<|OK rfl rfl rfl (by rw [hg17]; rfl) rfl<|O (r_pickF (v:=Value.bool false) rfl hg17 rfl) rfl<|O (r_move (v:=Value.bool false) rfl) rfl<|OK rfl rfl rfl rfl rfl<|OK rfl rfl rfl rfl rfl<|OK rfl rfl rfl rfl rfl<|O (r_pickF (v:=Value.bool false) rfl rfl rfl) rfl<|O (r_move (v:=Value.bool false) rfl) rfl<|OK rfl rfl rfl rfl rfl<|OK rfl rfl rfl rfl rfl<|OK rfl rfl rfl rfl rfl<|O (r_pickF (v:=Value.bool false) rfl rfl rfl) rfl<|O (r_move (v:=Value.bool false) rfl) rfl<|OK rfl rfl rfl rfl rfl<|OK rfl rfl rfl rfl rfl<|O (r_pickF (v:=Value.bool false) rfl rfl rfl) rfl<|O (r_move (v:=Value.bool false) rfl) rfl ?_
        refine OK rfl rfl rfl rfl rfl<|O (r_pickF (v:=Value.bool false) rfl rfl rfl) rfl<|O (r_move (v:=Value.bool false) rfl) rfl<|OK rfl rfl rfl rfl rfl<|OK rfl rfl rfl rfl rfl<|OK rfl rfl rfl rfl rfl<|OK rfl rfl rfl rfl rfl<|O (r_pickF (v:=Value.bool false) rfl rfl rfl) rfl<|O (r_assign (v:=Value.bool false) rfl) rfl<|OW_nil ?_
        obtain rfl:=Option.some.inj hM
        exact ⟨gg17,rfl,hds,hagg8,(hs.sub (.cons _ .slnil))⟩
      ·refine OK rfl rfl rfl (by rw [hg16]; rfl) rfl<|OK rfl rfl rfl (by rw [hg16]; rfl) rfl<|O (r_pickF (v:=Value.bool false) rfl hg16 rfl) rfl<|O (r_move (v:=Value.bool false) rfl) rfl<|OK rfl rfl rfl rfl rfl<|OK rfl rfl rfl rfl rfl<|OK rfl rfl rfl rfl rfl<|O (r_pickF (v:=Value.bool false) rfl rfl rfl) rfl<|O (r_move (v:=Value.bool false) rfl) rfl<|OK rfl rfl rfl rfl rfl<|OK rfl rfl rfl rfl rfl<|OK rfl rfl rfl rfl rfl<|O (r_pickF (v:=Value.bool false) rfl rfl rfl) rfl<|O (r_move (v:=Value.bool false) rfl) rfl<|OK rfl rfl rfl rfl rfl<|OK rfl rfl rfl rfl rfl<|OK rfl rfl rfl rfl rfl<|O (r_pickF (v:=Value.bool false) rfl rfl rfl) rfl<|O (r_move (v:=Value.bool false) rfl) rfl ?_
       refine OK rfl rfl rfl rfl rfl<|OK rfl rfl rfl rfl rfl<|O (r_pickF (v:=Value.bool false) rfl rfl rfl) rfl<|O (r_move (v:=Value.bool false) rfl) rfl<|OK rfl rfl rfl rfl rfl<|O (r_pickF (v:=Value.bool false) rfl rfl rfl) rfl<|O (r_move (v:=Value.bool false) rfl) rfl<|OK rfl rfl rfl rfl rfl<|OK rfl rfl rfl rfl rfl<|OK rfl rfl rfl rfl rfl<|OK rfl rfl rfl rfl rfl<|O (r_pickF (v:=Value.bool false) rfl rfl rfl) rfl<|O (r_assign (v:=Value.bool false) rfl) rfl<|OW_nil ?_
       obtain rfl:=Option.some.inj hM
       exact ⟨gg8,rfl,hds,(Hle.refl _),(hs.sub (.cons _ .slnil))⟩
     ·refine OK rfl rfl rfl (by rw [hg15]; rfl) rfl<|OK rfl rfl rfl (by rw [hg15]; rfl) rfl<|O (r_pickF (v:=Value.bool false) rfl hg15 rfl) rfl<|O (r_move (v:=Value.bool false) rfl) rfl<|OK rfl rfl rfl rfl rfl<|OK rfl rfl rfl rfl rfl<|O (r_pickF (v:=Value.bool false) rfl rfl rfl) rfl<|O (r_move (v:=Value.bool false) rfl) rfl<|OK rfl rfl rfl rfl rfl<|OK rfl rfl rfl rfl rfl<|OK rfl rfl rfl rfl rfl<|O (r_pickF (v:=Value.bool false) rfl rfl rfl) rfl<|O (r_move (v:=Value.bool false) rfl) rfl<|OK rfl rfl rfl rfl rfl<|OK rfl rfl rfl rfl rfl<|OK rfl rfl rfl rfl rfl<|O (r_pickF (v:=Value.bool false) rfl rfl rfl) rfl<|O (r_move (v:=Value.bool false) rfl) rfl ?_
      refine OK rfl rfl rfl rfl rfl<|OK rfl rfl rfl rfl rfl<|OK rfl rfl rfl rfl rfl<|O (r_pickF (v:=Value.bool false) rfl rfl rfl) rfl<|O (r_move (v:=Value.bool false) rfl) rfl<|OK rfl rfl rfl rfl rfl<|OK rfl rfl rfl rfl rfl<|O (r_pickF (v:=Value.bool false) rfl rfl rfl) rfl<|O (r_move (v:=Value.bool false) rfl) rfl<|OK rfl rfl rfl rfl rfl<|O (r_pickF (v:=Value.bool false) rfl rfl rfl) rfl<|O (r_move (v:=Value.bool false) rfl) rfl<|OK rfl rfl rfl rfl rfl<|OK rfl rfl rfl rfl rfl<|OK rfl rfl rfl rfl rfl<|OK rfl rfl rfl rfl rfl<|O (r_pickF (v:=Value.bool false) rfl rfl rfl) rfl<|O (r_assign (v:=Value.bool false) rfl) rfl<|OW_nil ?_
      obtain rfl:=Option.some.inj hM
      exact ⟨gg8,rfl,hds,(Hle.refl _),(hs.sub (.cons _ .slnil))⟩
    ·refine OK rfl rfl rfl (by rw [hg14]; rfl) rfl<|OK rfl rfl rfl (by rw [hg14]; rfl) rfl<|O (r_pickF (v:=Value.bool false) rfl hg14 rfl) rfl<|O (r_move (v:=Value.bool false) rfl) rfl<|OK rfl rfl rfl rfl rfl<|OK rfl rfl rfl rfl rfl<|O (r_pickF (v:=Value.bool false) rfl rfl rfl) rfl<|O (r_move (v:=Value.bool false) rfl) rfl<|OK rfl rfl rfl rfl rfl<|OK rfl rfl rfl rfl rfl<|O (r_pickF (v:=Value.bool false) rfl rfl rfl) rfl<|O (r_move (v:=Value.bool false) rfl) rfl<|OK rfl rfl rfl rfl rfl<|OK rfl rfl rfl rfl rfl<|OK rfl rfl rfl rfl rfl<|O (r_pickF (v:=Value.bool false) rfl rfl rfl) rfl<|O (r_move (v:=Value.bool false) rfl) rfl<|OK rfl rfl rfl rfl rfl ?_
     refine OK rfl rfl rfl rfl rfl<|OK rfl rfl rfl rfl rfl<|O (r_pickF (v:=Value.bool false) rfl rfl rfl) rfl<|O (r_move (v:=Value.bool false) rfl) rfl<|OK rfl rfl rfl rfl rfl<|OK rfl rfl rfl rfl rfl<|OK rfl rfl rfl rfl rfl<|O (r_pickF (v:=Value.bool false) rfl rfl rfl) rfl<|O (r_move (v:=Value.bool false) rfl) rfl<|OK rfl rfl rfl rfl rfl<|OK rfl rfl rfl rfl rfl<|O (r_pickF (v:=Value.bool false) rfl rfl rfl) rfl<|O (r_move (v:=Value.bool false) rfl) rfl<|OK rfl rfl rfl rfl rfl<|O (r_pickF (v:=Value.bool false) rfl rfl rfl) rfl<|O (r_move (v:=Value.bool false) rfl) rfl<|OK rfl rfl rfl rfl rfl<|OK rfl rfl rfl rfl rfl<|OK rfl rfl rfl rfl rfl<|OK rfl rfl rfl rfl rfl ?_
     refine O (r_pickF (v:=Value.bool false) rfl rfl rfl) rfl<|O (r_assign (v:=Value.bool false) rfl) rfl<|OW_nil ?_
     obtain rfl:=Option.some.inj hM
     exact ⟨gg8,rfl,hds,(Hle.refl _),(hs.sub (.cons _ .slnil))⟩
   ·refine OK rfl rfl rfl (by rw [hg13]; rfl) rfl<|OK rfl rfl rfl (by rw [hg13]; rfl) rfl<|O (r_pickF (v:=Value.bool false) rfl hg13 rfl) rfl<|O (r_move (v:=Value.bool false) rfl) rfl<|OK rfl rfl rfl rfl rfl<|OK rfl rfl rfl rfl rfl<|O (r_pickF (v:=Value.bool false) rfl rfl rfl) rfl<|O (r_move (v:=Value.bool false) rfl) rfl<|OK rfl rfl rfl rfl rfl<|OK rfl rfl rfl rfl rfl<|O (r_pickF (v:=Value.bool false) rfl rfl rfl) rfl<|O (r_move (v:=Value.bool false) rfl) rfl<|OK rfl rfl rfl rfl rfl<|OK rfl rfl rfl rfl rfl<|O (r_pickF (v:=Value.bool false) rfl rfl rfl) rfl<|O (r_move (v:=Value.bool false) rfl) rfl<|OK rfl rfl rfl rfl rfl<|OK rfl rfl rfl rfl rfl ?_
    refine OK rfl rfl rfl rfl rfl<|O (r_pickF (v:=Value.bool false) rfl rfl rfl) rfl<|O (r_move (v:=Value.bool false) rfl) rfl<|OK rfl rfl rfl rfl rfl<|OK rfl rfl rfl rfl rfl<|OK rfl rfl rfl rfl rfl<|O (r_pickF (v:=Value.bool false) rfl rfl rfl) rfl<|O (r_move (v:=Value.bool false) rfl) rfl<|OK rfl rfl rfl rfl rfl<|OK rfl rfl rfl rfl rfl<|OK rfl rfl rfl rfl rfl<|O (r_pickF (v:=Value.bool false) rfl rfl rfl) rfl<|O (r_move (v:=Value.bool false) rfl) rfl<|OK rfl rfl rfl rfl rfl<|OK rfl rfl rfl rfl rfl<|O (r_pickF (v:=Value.bool false) rfl rfl rfl) rfl<|O (r_move (v:=Value.bool false) rfl) rfl<|OK rfl rfl rfl rfl rfl<|O (r_pickF (v:=Value.bool false) rfl rfl rfl) rfl ?_
    refine O (r_move (v:=Value.bool false) rfl) rfl<|OK rfl rfl rfl rfl rfl<|OK rfl rfl rfl rfl rfl<|OK rfl rfl rfl rfl rfl<|OK rfl rfl rfl rfl rfl<|O (r_pickF (v:=Value.bool false) rfl rfl rfl) rfl<|O (r_assign (v:=Value.bool false) rfl) rfl<|OW_nil ?_
    obtain rfl:=Option.some.inj hM
    exact ⟨gg8,rfl,hds,(Hle.refl _),(hs.sub (.cons _ .slnil))⟩
  ·refine OK rfl rfl rfl (by rw [hg12]; rfl) rfl<|OK rfl rfl rfl (by rw [hg12]; rfl) rfl<|O (r_pickF (v:=Value.bool false) rfl hg12 rfl) rfl<|O (r_move (v:=Value.bool false) rfl) rfl<|OK rfl rfl rfl rfl rfl<|OK rfl rfl rfl rfl rfl<|O (r_pickF (v:=Value.bool false) rfl rfl rfl) rfl<|O (r_move (v:=Value.bool false) rfl) rfl<|OK rfl rfl rfl rfl rfl<|OK rfl rfl rfl rfl rfl<|O (r_pickF (v:=Value.bool false) rfl rfl rfl) rfl<|O (r_move (v:=Value.bool false) rfl) rfl<|OK rfl rfl rfl rfl rfl<|OK rfl rfl rfl rfl rfl<|O (r_pickF (v:=Value.bool false) rfl rfl rfl) rfl<|O (r_move (v:=Value.bool false) rfl) rfl<|OK rfl rfl rfl rfl rfl<|OK rfl rfl rfl rfl rfl ?_
   refine O (r_pickF (v:=Value.bool false) rfl rfl rfl) rfl<|O (r_move (v:=Value.bool false) rfl) rfl<|OK rfl rfl rfl rfl rfl<|OK rfl rfl rfl rfl rfl<|OK rfl rfl rfl rfl rfl<|O (r_pickF (v:=Value.bool false) rfl rfl rfl) rfl<|O (r_move (v:=Value.bool false) rfl) rfl<|OK rfl rfl rfl rfl rfl<|OK rfl rfl rfl rfl rfl<|OK rfl rfl rfl rfl rfl<|O (r_pickF (v:=Value.bool false) rfl rfl rfl) rfl<|O (r_move (v:=Value.bool false) rfl) rfl<|OK rfl rfl rfl rfl rfl<|OK rfl rfl rfl rfl rfl<|OK rfl rfl rfl rfl rfl<|O (r_pickF (v:=Value.bool false) rfl rfl rfl) rfl<|O (r_move (v:=Value.bool false) rfl) rfl<|OK rfl rfl rfl rfl rfl<|OK rfl rfl rfl rfl rfl<|O (r_pickF (v:=Value.bool false) rfl rfl rfl) rfl ?_
   refine O (r_move (v:=Value.bool false) rfl) rfl<|OK rfl rfl rfl rfl rfl<|O (r_pickF (v:=Value.bool false) rfl rfl rfl) rfl<|O (r_move (v:=Value.bool false) rfl) rfl<|OK rfl rfl rfl rfl rfl<|OK rfl rfl rfl rfl rfl<|OK rfl rfl rfl rfl rfl<|OK rfl rfl rfl rfl rfl<|O (r_pickF (v:=Value.bool false) rfl rfl rfl) rfl<|O (r_assign (v:=Value.bool false) rfl) rfl<|OW_nil ?_
   obtain rfl:=Option.some.inj hM
   exact ⟨gg8,rfl,hds,(Hle.refl _),(hs.sub (.cons _ .slnil))⟩
 ·clear hs
  rintro E w ⟨gg16,hE0,hds,hlegg16,hs⟩
  have hM:=hKhx1
  obtain ⟨E,rfl⟩:=open1 (E:=E) hE0
  refine WP_ret ?_
  obtain rfl:=Option.some.inj hM
  refine FL_nil hds ?_
  exact ⟨_,res1 Tryz.results8 (rv_tmp (v:=Value.bool xv1) rfl),gg16,⟨[Value.bool xv1],rfl,rfl⟩,hs.ext⟩
end Go.Proofs.YtggpjcdhflcfmaaGreatDoor
set_option linter.unusedVariables false
set_option linter.unusedSimpArgs false
namespace Go.Proofs.YtggpjcdhflcfmaaGreatDoor
open Go.Lx Go.RowKit
set_option maxRecDepth 100000 in
theorem ref11_Terms_ok {spec1:T_LexSpec} {r:(List Str)} (hM:M.ref11_Terms spec1=some r) {g0:Hp} {w0:World} (hi:Imm g0 w0) {cs1:List Value} (hcs1:tT_LexSpec.rel g0 cs1 spec1) :
    CallsV Tryz.prog 10 #[Value.agg cs1.toArray] w0 (fun v w'=>∃g' y0,(RowRel tStr g' y0 r)∧Sep g0 w0 g' w' [.row v 9 tStr.sz r.length y0]):=by
 unfold M.ref11_Terms at hM
 obtain ⟨cs2,cs3,cs4,cs5,rfl,hcs2,hcs3,hcs4,hcs5⟩:=hcs1
 obtain ⟨v1,rfl,hRv1⟩:=hcs2
 have hcs3:cs3=_:=hcs3; subst hcs3
 have hcs4:cs4=_:=hcs4; subst hcs4
 have hcs5:cs5=_:=hcs5; subst hcs5
 have hs:=Sep.start hi
 refine calls_of_WP (args:=[Value.agg (List.toArray (α:=Value) [v1,Value.bool spec1.Layout,Value.int .i64 spec1.Misspelling,Value.int .i64 spec1.Unclosed])]) Tryz.func10 rfl Tryz.ntmps10 rfl ?_
 have hds:(argEnv [Value.agg (List.toArray (α:=Value) [v1,Value.bool spec1.Layout,Value.int .i64 spec1.Misspelling,Value.int .i64 spec1.Unclosed])]).ds=[]:=rfl
 refine WP_seq<|WP_region<|OW_box (v:=Value.agg (List.toArray (α:=Value) [v1,Value.bool spec1.Layout,Value.int .i64 spec1.Misspelling,Value.int .i64 spec1.Unclosed])) rfl hs (zs:=[v1,Value.bool spec1.Layout,Value.int .i64 spec1.Misspelling,Value.int .i64 spec1.Unclosed]) rfl rfl ?_
 intro b1 wv1 hs
 refine O (r_assign (v:=Value.slice none 0 0) rfl) rfl<|OW_nil<|WP_seq<|WP_region<|O (r_assign (v:=Value.slice none 0 0) rfl) rfl<|OW_nil ?_
 obtain ⟨xv4,hx1,hKhx1⟩:=bindS hM
 refine WP_cut (fun E w=>∃(v11:Value) (xs11:List Value),E 1=Value.pointer (some ⟨b1,0,none⟩)∧E 3=v11∧E.ds=[]∧RowRel tStr g0 xs11 xv4∧Go.Lx.Sep g0 w0 g0 w [.row v11 9 tStr.sz xv4.length xs11,Go.Lx.box b1 24 ([v1,Value.bool spec1.Layout,Value.int .i64 spec1.Misspelling,Value.int .i64 spec1.Unclosed])]) ?_ ?_
 ·have hM:=hx1
  have hag0:=Hle.refl g0
  refine WP_seq<|WP_region<|O (r_assign (v:=Value.int .i64 0) rfl) rfl<|OW_nil<|WP_block ?_
  have hs:=hs.nilRow 9 tStr.sz
  refine WP_loop (fun (st9:(List Str)×Int) E w=>match st9 with|(xv6,i5)=>∃(v15:Value) (xs16:List Value),E 1=Value.pointer (some ⟨b1,0,none⟩)∧E 3=v15∧E 4=Value.int .i64 i5∧E.ds=[]∧RowRel tStr g0 xs16 xv6∧Go.Lx.Sep g0 w0 g0 w [.row v15 9 tStr.sz xv6.length xs16,Go.Lx.box b1 24 ([v1,Value.bool spec1.Layout,Value.int .i64 spec1.Misspelling,Value.int .i64 spec1.Unclosed])]) hM ⟨(Value.slice none 0 0),[],rfl,rfl,rfl,hds,RowRel.nil,hs⟩ ?_
  clear hs hM
  rintro ⟨xv6,i5⟩ o2 E w hM ⟨v15,xs16,hE1,hE3,hE4,hds,hrelxs16,hs⟩
  obtain ⟨E,rfl⟩:=open3 (E:=E) hE1 hE3 hE4
  refine WP_seq<|WP_seq<|WP_region<|O (r_move (v:=Value.int .i64 i5) rfl) rfl<|O (r_fieldAddr Tryz.underlying24 ti22 rfl rfl (by decide) rfl rfl) rfl<|O (r_load (v:=v1) ti22 rfl (hs.cell (i:=1) (o:=0) rfl rfl)) rfl ?_
  obtain ⟨a6,ca6,hva6⟩:=hRv1.shape
  refine O (r_lenSl (v:=v1) Tryz.underlying22 rfl hva6) rfl<|O (r_lss rfl rfl) rfl<|OW_nil ?_
  rcases condS hM with ⟨hc6,hM⟩|⟨hc6,hM⟩
  ·refine WP_true rfl hc6<|WP_skip<|WP_seq<|WP_block<|WP_region<|O (r_move (v:=v15) rfl) rfl<|O (r_fieldAddr Tryz.underlying24 ti22 rfl rfl (by decide) rfl rfl) rfl<|O (r_load (v:=v1) ti22 rfl (hs.cell (i:=1) (o:=0) rfl rfl)) rfl<|O (r_move (v:=Value.int .i64 i5) rfl) rfl ?_
   obtain ⟨e6,he6,hM⟩:=bindS hM
   obtain ⟨b7,ob7,cb7,hvb7,cs36,hcs36,hcb7⟩:=hRv1.at he6
   obtain ⟨cs37,cs38,cs39,cs40,cs41,rfl,hcs37,hcs38,hcs39,hcs40,hcs41⟩:=hcs36
   have hcs37:cs37=_:=hcs37; subst hcs37
   have hcs38:cs38=_:=hcs38; subst hcs38
   have hcs39:cs39=_:=hcs39; subst hcs39
   have hcs40:cs40=_:=hcs40; subst hcs40
   have hcs41:cs41=_:=hcs41; subst hcs41
   refine O (r_idxSl Tryz.underlying22 ti46 (v:=v1) rfl hvb7 rfl (idxL_some he6).1 (idxL_some he6).2.1) rfl<|O (r_fieldAddr Tryz.underlying46 ti9 rfl rfl (by decide) rfl rfl) rfl<|O (r_loadEl (cs:=[encS e6.Name]) ti9 rfl rfl (.inr rfl) (elemField (cs:=[encS e6.Name,Value.int .i64 e6.Kind,encS e6.Pattern,encS e6.Sample,encS e6.Close]) (hcb7 _ hs.imm) ([]) ([encS e6.Name]) ([Value.int .i64 e6.Kind,encS e6.Pattern,encS e6.Sample,encS e6.Close]) rfl rfl) (v:=encS e6.Name) rfl) rfl<|OW_lit (τ:=tStr) [encS e6.Name] [e6.Name] Tryz.underlying27 ti9 (by decide) hs rfl rfl rfl ⟨rfl,trivial⟩ rfl ?_
   intro v19 wv12 xs20 hrelxs20 hs
   obtain ⟨l4,hl4,hM⟩:=bindS hM
   refine OW_append Tryz.underlying27 ti9 rfl (by decide) (by decide) hs (i:=1) rfl hrelxs16 (v:=v15) rfl (u:=v19) rfl (hs.rowSrc (i:=0) rfl) hrelxs20 hl4 rfl ?_
   intro v20 wv13 xs21 hrelxs21 hs
   refine O (r_assign (v:=v20) rfl) rfl<|OW_nil<|WP_region<|O (r_move (v:=Value.int .i64 i5) rfl) rfl ?_
   obtain ⟨t6,ht6,hM⟩:=bindS hM
   refine O (r_addM rfl rfl ht6) rfl<|O (r_assign (v:=Value.int .i64 t6) rfl) rfl<|OW_nil ?_
   obtain rfl:=Option.some.inj hM
   exact ⟨v20,xs21,rfl,rfl,rfl,hds,hrelxs21,(hs.sub (.cons _ (.cons_cons _ (.cons_cons _ .slnil))))⟩
  ·refine WP_false rfl hc6<|WP_exit ?_
   obtain rfl:=Option.some.inj hM
   refine fun hr=>?_
   have hM:=congrArg some hr
   obtain rfl:=Option.some.inj hM
   exact ⟨v15,xs16,rfl,rfl,hds,hrelxs16,hs⟩
 ·clear hs
  rintro E w ⟨v11,xs11,hE1,hE3,hds,hrelxs11,hs⟩
  have hM:=hKhx1
  obtain ⟨E,rfl⟩:=open2 (E:=E) hE1 hE3
  obtain ⟨l6,hx2,hKhx2⟩:=bindS hM
  refine WP_cut (fun E w=>∃(v23:Value) (xs24:List Value),E 3=v23∧E.ds=[]∧RowRel tStr g0 xs24 l6∧Go.Lx.Sep g0 w0 g0 w [.row v23 9 tStr.sz l6.length xs24]) ?_ ?_
  ·have hM:=hx2
   have hag0:=Hle.refl g0
   refine WP_seq<|WP_region<|O (r_fieldAddr Tryz.underlying24 ti4 rfl rfl (by decide) rfl rfl) rfl<|O (r_load (v:=Value.bool spec1.Layout) ti4 rfl (hs.cell (i:=1) (o:=1) rfl rfl)) rfl<|OW_nil ?_
   rcases condS hM with ⟨hc8,hM⟩|⟨hc8,hM⟩
   ·refine WP_true rfl hc8<|WP_region<|O (r_move (v:=v11) rfl) rfl<|OW_lit (τ:=tStr) [encS [110,101,119,108,105,110,101],encS [105,110,100,101,110,116],encS [100,101,100,101,110,116]] [[110,101,119,108,105,110,101],[105,110,100,101,110,116],[100,101,100,101,110,116]] Tryz.underlying27 ti9 (by decide) hs rfl rfl rfl ⟨rfl,rfl,rfl,trivial⟩ rfl ?_
    intro v24 wv16 xs25 hrelxs25 hs
    obtain ⟨l7,hl7,hM⟩:=bindS hM
    refine OW_append Tryz.underlying27 ti9 rfl (by decide) (by decide) hs (i:=1) rfl hrelxs11 (v:=v11) rfl (u:=v24) rfl (hs.rowSrc (i:=0) rfl) hrelxs25 hl7 rfl ?_
    intro v25 wv17 xs26 hrelxs26 hs
    refine O (r_assign (v:=v25) rfl) rfl<|OW_nil ?_
    obtain rfl:=Option.some.inj hM
    exact ⟨v25,xs26,rfl,hds,hrelxs26,(hs.sub (.cons _ (.cons_cons _ (.cons _ .slnil))))⟩
   ·refine WP_false rfl hc8<|WP_skip ?_
    obtain rfl:=Option.some.inj hM
    exact ⟨v11,xs11,rfl,hds,hrelxs11,(hs.sub (.cons_cons _ (.cons _ .slnil)))⟩
  ·clear hs
   rintro E w ⟨v23,xs24,hE3,hds,hrelxs24,hs⟩
   have hM:=hKhx2
   obtain ⟨E,rfl⟩:=open1 (E:=E) hE3
   refine WP_seq<|WP_region<|O (r_move (v:=v23) rfl) rfl<|O (r_assign (v:=v23) rfl) rfl<|OW_nil<|WP_ret ?_
   obtain rfl:=Option.some.inj hM
   refine FL_nil hds ?_
   exact ⟨_,res1 Tryz.results10 (rv_tmp (v:=v23) rfl),g0,xs24,hrelxs24,hs⟩
set_option maxRecDepth 100000 in
theorem ref11_Separator_ok {spec1:T_LexSpec} {r:Str×Bool} (hM:M.ref11_Separator spec1=some r) {g0:Hp} {w0:World} (hi:Imm g0 w0) {cs1:List Value} (hcs1:tT_LexSpec.rel g0 cs1 spec1) :
    CallsV Tryz.prog 12 #[Value.agg cs1.toArray] w0 (fun v w'=>∃g',(∃v1 v2,v=.tuple #[v1,v2]∧VRd tStr false g' v1 r.1∧VRd tBool false g' v2 r.2)∧Ext g0 w0 g' w'):=by
 unfold M.ref11_Separator at hM
 obtain ⟨cs2,cs3,cs4,cs5,rfl,hcs2,hcs3,hcs4,hcs5⟩:=hcs1
 obtain ⟨v1,rfl,hRv1⟩:=hcs2
 have hcs3:cs3=_:=hcs3; subst hcs3
 have hcs4:cs4=_:=hcs4; subst hcs4
 have hcs5:cs5=_:=hcs5; subst hcs5
 have hs:=Sep.start hi
 refine calls_of_WP (args:=[Value.agg (List.toArray (α:=Value) [v1,Value.bool spec1.Layout,Value.int .i64 spec1.Misspelling,Value.int .i64 spec1.Unclosed])]) Tryz.func12 rfl Tryz.ntmps12 rfl ?_
 have hds:(argEnv [Value.agg (List.toArray (α:=Value) [v1,Value.bool spec1.Layout,Value.int .i64 spec1.Misspelling,Value.int .i64 spec1.Unclosed])]).ds=[]:=rfl
 refine WP_seq<|WP_region<|OW_box (v:=Value.agg (List.toArray (α:=Value) [v1,Value.bool spec1.Layout,Value.int .i64 spec1.Misspelling,Value.int .i64 spec1.Unclosed])) rfl hs (zs:=[v1,Value.bool spec1.Layout,Value.int .i64 spec1.Misspelling,Value.int .i64 spec1.Unclosed]) rfl rfl ?_
 intro b1 wv1 hs
 refine O (r_assign (v:=encS []) rfl) rfl<|O (r_assign (v:=Value.bool false) rfl) rfl<|OW_nil ?_
 obtain ⟨o3,hx1,hKhx1⟩:=stepS hM
 refine WP_cut (fun E w=>∃u9:Unit,o3=.next u9∧E.ds=[]∧Go.Lx.Sep g0 w0 g0 w []) ?_ ?_
 ·have hM:=hx1
  have hag0:=Hle.refl g0
  refine WP_seq<|WP_region<|O (r_assign (v:=Value.int .i64 0) rfl) rfl<|OW_nil<|WP_block<|WP_loop (fun (i5:Int) E w=>E 1=Value.pointer (some ⟨b1,0,none⟩)∧E 4=Value.int .i64 i5∧E.ds=[]∧Go.Lx.Sep g0 w0 g0 w [Go.Lx.box b1 24 ([v1,Value.bool spec1.Layout,Value.int .i64 spec1.Misspelling,Value.int .i64 spec1.Unclosed])]) hM ⟨rfl,rfl,hds,hs⟩ ?_
  clear hs hM
  rintro i5 o2 E w hM ⟨hE1,hE4,hds,hs⟩
  obtain ⟨E,rfl⟩:=open2 (E:=E) hE1 hE4
  refine WP_seq<|WP_seq<|WP_region<|O (r_move (v:=Value.int .i64 i5) rfl) rfl<|O (r_fieldAddr Tryz.underlying24 ti22 rfl rfl (by decide) rfl rfl) rfl<|O (r_load (v:=v1) ti22 rfl (hs.cell (i:=0) (o:=0) rfl rfl)) rfl ?_
  obtain ⟨a6,ca6,hva6⟩:=hRv1.shape
  refine O (r_lenSl (v:=v1) Tryz.underlying22 rfl hva6) rfl<|O (r_lss rfl rfl) rfl<|OW_nil ?_
  rcases condS hM with ⟨hc11,hM⟩|⟨hc11,hM⟩
  ·refine WP_true rfl hc11<|WP_skip<|WP_seq<|WP_block<|WP_seq<|WP_region<|O (r_fieldAddr Tryz.underlying24 ti22 rfl rfl (by decide) rfl rfl) rfl<|O (r_load (v:=v1) ti22 rfl (hs.cell (i:=0) (o:=0) rfl rfl)) rfl<|O (r_move (v:=Value.int .i64 i5) rfl) rfl ?_
   obtain ⟨e6,he6,hM⟩:=bindS hM
   obtain ⟨b12,ob12,cb12,hvb12,cs66,hcs66,hcb12⟩:=hRv1.at he6
   obtain ⟨cs67,cs68,cs69,cs70,cs71,rfl,hcs67,hcs68,hcs69,hcs70,hcs71⟩:=hcs66
   have hcs67:cs67=_:=hcs67; subst hcs67
   have hcs68:cs68=_:=hcs68; subst hcs68
   have hcs69:cs69=_:=hcs69; subst hcs69
   have hcs70:cs70=_:=hcs70; subst hcs70
   have hcs71:cs71=_:=hcs71; subst hcs71
   refine O (r_idxSl Tryz.underlying22 ti46 (v:=v1) rfl hvb12 rfl (idxL_some he6).1 (idxL_some he6).2.1) rfl<|O (r_fieldAddr Tryz.underlying46 ti3 rfl rfl (by decide) rfl rfl) rfl<|O (r_loadEl (cs:=[Value.int .i64 e6.Kind]) ti3 rfl rfl (.inr rfl) (elemField (cs:=[encS e6.Name,Value.int .i64 e6.Kind,encS e6.Pattern,encS e6.Sample,encS e6.Close]) (hcb12 _ hs.imm) ([encS e6.Name]) ([Value.int .i64 e6.Kind]) ([encS e6.Pattern,encS e6.Sample,encS e6.Close]) rfl rfl) (v:=Value.int .i64 e6.Kind) rfl) rfl<|O (r_eql rfl rfl) rfl<|OW_nil ?_
   rcases condS hM with ⟨hc12,hM⟩|⟨hc12,hM⟩
   ·refine WP_true rfl hc12<|WP_seq<|WP_region<|O (r_fieldAddr Tryz.underlying24 ti22 rfl rfl (by decide) rfl rfl) rfl<|O (r_load (v:=v1) ti22 rfl (hs.cell (i:=0) (o:=0) rfl rfl)) rfl<|O (r_move (v:=Value.int .i64 i5) rfl) rfl ?_
    obtain ⟨b13,ob13,cb13,hvb13,cs72,hcs72,hcb13⟩:=hRv1.at he6
    obtain ⟨cs73,cs74,cs75,cs76,cs77,rfl,hcs73,hcs74,hcs75,hcs76,hcs77⟩:=hcs72
    have hcs73:cs73=_:=hcs73; subst hcs73
    have hcs74:cs74=_:=hcs74; subst hcs74
    have hcs75:cs75=_:=hcs75; subst hcs75
    have hcs76:cs76=_:=hcs76; subst hcs76
    have hcs77:cs77=_:=hcs77; subst hcs77
    refine O (r_idxSl Tryz.underlying22 ti46 (v:=v1) rfl hvb13 rfl (idxL_some he6).1 (idxL_some he6).2.1) rfl<|O (r_fieldAddr Tryz.underlying46 ti9 rfl rfl (by decide) rfl rfl) rfl<|O (r_loadEl (cs:=[encS e6.Sample]) ti9 rfl rfl (.inr rfl) (elemField (cs:=[encS e6.Name,Value.int .i64 e6.Kind,encS e6.Pattern,encS e6.Sample,encS e6.Close]) (hcb13 _ hs.imm) ([encS e6.Name,Value.int .i64 e6.Kind,encS e6.Pattern]) ([encS e6.Sample]) ([encS e6.Close]) rfl rfl) (v:=encS e6.Sample) rfl) rfl<|O (r_assign (v:=encS e6.Sample) rfl) rfl<|O (r_assign (v:=Value.bool true) rfl) rfl<|OW_nil<|WP_ret ?_
    obtain rfl:=Option.some.inj hM
    refine fun hr=>?_
    have hM:=congrArg some hr
    obtain rfl:=Option.some.inj hM
    have hM:=hKhx1
    obtain rfl:=Option.some.inj hM
    refine FL_nil hds ?_
    exact ⟨_,res2 Tryz.results12 (rv_tmp (v:=encS e6.Sample) rfl) (rv_tmp (v:=Value.bool true) rfl),g0,⟨_,_,rfl,⟨[encS e6.Sample],rfl,rfl⟩,⟨[Value.bool true],rfl,rfl⟩⟩,hs.ext⟩
   ·refine WP_false rfl hc12<|WP_skip<|WP_region<|O (r_move (v:=Value.int .i64 i5) rfl) rfl ?_
    obtain ⟨t6,ht6,hM⟩:=bindS hM
    refine O (r_addM rfl rfl ht6) rfl<|O (r_assign (v:=Value.int .i64 t6) rfl) rfl<|OW_nil ?_
    obtain rfl:=Option.some.inj hM
    exact ⟨rfl,rfl,hds,hs⟩
  ·refine WP_false rfl hc11<|WP_exit ?_
   obtain rfl:=Option.some.inj hM
   refine fun hr=>?_
   have hM:=congrArg some hr
   obtain rfl:=Option.some.inj hM
   exact ⟨(),rfl,hds,(hs.sub (.cons _ .slnil))⟩
 ·clear hs
  rintro E w ⟨_,rfl,hds,hs⟩
  have hM:=hKhx1
  dsimp only [onStep] at hM
  refine WP_seq<|WP_region<|O (r_assign (v:=encS []) rfl) rfl<|O (r_assign (v:=Value.bool false) rfl) rfl<|OW_nil<|WP_ret ?_
  obtain rfl:=Option.some.inj hM
  refine FL_nil hds ?_
  exact ⟨_,res2 Tryz.results12 (rv_tmp (v:=encS []) rfl) (rv_tmp (v:=Value.bool false) rfl),g0,⟨_,_,rfl,⟨[encS []],rfl,rfl⟩,⟨[Value.bool false],rfl,rfl⟩⟩,hs.ext⟩
set_option maxRecDepth 100000 in
theorem ref11_Sample_ok {spec1:T_LexSpec} {kind1:Int} {r:Str} (hM:M.ref11_Sample spec1 kind1=some r) {g0:Hp} {w0:World} (hi:Imm g0 w0) {cs1:List Value} (hcs1:tT_LexSpec.rel g0 cs1 spec1) :
    CallsV Tryz.prog 14 #[Value.agg cs1.toArray,Value.int .i64 kind1] w0 (fun v w'=>∃g',(VRd tStr false g' v r)∧Ext g0 w0 g' w'):=by
 unfold M.ref11_Sample at hM
 obtain ⟨cs2,cs3,cs4,cs5,rfl,hcs2,hcs3,hcs4,hcs5⟩:=hcs1
 obtain ⟨v1,rfl,hRv1⟩:=hcs2
 have hcs3:cs3=_:=hcs3; subst hcs3
 have hcs4:cs4=_:=hcs4; subst hcs4
 have hcs5:cs5=_:=hcs5; subst hcs5
 have hs:=Sep.start hi
 refine calls_of_WP (args:=[Value.agg (List.toArray (α:=Value) [v1,Value.bool spec1.Layout,Value.int .i64 spec1.Misspelling,Value.int .i64 spec1.Unclosed]),Value.int .i64 kind1]) Tryz.func14 rfl Tryz.ntmps14 rfl ?_
 have hds:(argEnv [Value.agg (List.toArray (α:=Value) [v1,Value.bool spec1.Layout,Value.int .i64 spec1.Misspelling,Value.int .i64 spec1.Unclosed]),Value.int .i64 kind1]).ds=[]:=rfl
 refine WP_seq<|WP_region<|OW_box (v:=Value.agg (List.toArray (α:=Value) [v1,Value.bool spec1.Layout,Value.int .i64 spec1.Misspelling,Value.int .i64 spec1.Unclosed])) rfl hs (zs:=[v1,Value.bool spec1.Layout,Value.int .i64 spec1.Misspelling,Value.int .i64 spec1.Unclosed]) rfl rfl ?_
 intro b1 wv1 hs
 refine O (r_assign (v:=encS []) rfl) rfl<|OW_nil<|WP_seq ?_
 obtain ⟨xv1,hx1,hKhx1⟩:=bindS hM
 refine WP_cut (fun E w=>E 1=Value.int .i64 kind1∧E 2=Value.pointer (some ⟨b1,0,none⟩)∧E 13=Value.bool xv1∧E.ds=[]∧Go.Lx.Sep g0 w0 g0 w [Go.Lx.box b1 24 ([v1,Value.bool spec1.Layout,Value.int .i64 spec1.Misspelling,Value.int .i64 spec1.Unclosed])]) ?_ ?_
 ·have hM:=hx1
  have hag0:=Hle.refl g0
  refine WP_region<|O (r_move (v:=Value.int .i64 kind1) rfl) rfl<|O (r_lss rfl rfl) rfl<|O (r_move (v:=Value.bool (decide (kind1<0))) rfl) rfl ?_
  rcases condS hM with ⟨hg2,hM⟩|⟨hg2,hM⟩
  ·refine OK rfl rfl rfl (by rw [hg2]; rfl) rfl<|OK rfl rfl rfl (by rw [hg2]; rfl) rfl<|OK rfl rfl rfl (by rw [hg2]; rfl) rfl<|OK rfl rfl rfl (by rw [hg2]; rfl) rfl<|OK rfl rfl rfl (by rw [hg2]; rfl) rfl<|O (r_pickT (v:=Value.bool true) rfl hg2 rfl) rfl<|OW_nil ?_
   obtain rfl:=Option.some.inj hM
   exact ⟨rfl,rfl,rfl,hds,hs⟩
  ·refine OG rfl rfl rfl (by rw [hg2]; rfl) (r_move (v:=Value.int .i64 kind1) rfl) rfl<|OG rfl rfl rfl (by rw [hg2]; rfl) (r_fieldAddr Tryz.underlying24 ti22 rfl rfl (by decide) rfl rfl) rfl<|OG rfl rfl rfl (by rw [hg2]; rfl) (r_load (v:=v1) ti22 rfl (hs.cell (i:=0) (o:=0) rfl rfl)) rfl ?_
   obtain ⟨a2,ca2,hva2⟩:=hRv1.shape
   refine OG rfl rfl rfl (by rw [hg2]; rfl) (r_lenSl (v:=v1) Tryz.underlying22 rfl hva2) rfl<|OG rfl rfl rfl (by rw [hg2]; rfl) (r_geq rfl rfl) rfl<|O (r_pickF (v:=Value.bool (decide ((spec1.Defs.length:Int)≤kind1))) rfl hg2 rfl) rfl<|OW_nil ?_
   obtain rfl:=Option.some.inj hM
   exact ⟨rfl,rfl,rfl,hds,hs⟩
 ·clear hs
  rintro E w ⟨hE1,hE2,hE13,hds,hs⟩
  have hM:=hKhx1
  obtain ⟨E,rfl⟩:=open3 (E:=E) hE1 hE2 hE13
  rcases condS hM with ⟨hc1,hM⟩|⟨hc1,hM⟩
  ·refine WP_true rfl hc1<|WP_seq<|WP_region<|O (r_assign (v:=encS []) rfl) rfl<|OW_nil<|WP_ret ?_
   obtain rfl:=Option.some.inj hM
   refine FL_nil hds ?_
   exact ⟨_,res1 Tryz.results14 (rv_tmp (v:=encS []) rfl),g0,⟨[encS []],rfl,rfl⟩,hs.ext⟩
  ·refine WP_false rfl hc1<|WP_skip<|WP_seq<|WP_region<|O (r_fieldAddr Tryz.underlying24 ti22 rfl rfl (by decide) rfl rfl) rfl<|O (r_load (v:=v1) ti22 rfl (hs.cell (i:=0) (o:=0) rfl rfl)) rfl<|O (r_move (v:=Value.int .i64 kind1) rfl) rfl ?_
   obtain ⟨e1,he1,hM⟩:=bindS hM
   obtain ⟨b2,ob2,cb2,hvb2,cs6,hcs6,hcb2⟩:=hRv1.at he1
   obtain ⟨cs7,cs8,cs9,cs10,cs11,rfl,hcs7,hcs8,hcs9,hcs10,hcs11⟩:=hcs6
   have hcs7:cs7=_:=hcs7; subst hcs7
   have hcs8:cs8=_:=hcs8; subst hcs8
   have hcs9:cs9=_:=hcs9; subst hcs9
   have hcs10:cs10=_:=hcs10; subst hcs10
   have hcs11:cs11=_:=hcs11; subst hcs11
   refine O (r_idxSl Tryz.underlying22 ti46 (v:=v1) rfl hvb2 rfl (idxL_some he1).1 (idxL_some he1).2.1) rfl<|O (r_fieldAddr Tryz.underlying46 ti9 rfl rfl (by decide) rfl rfl) rfl<|O (r_loadEl (cs:=[encS e1.Sample]) ti9 rfl rfl (.inr rfl) (elemField (cs:=[encS e1.Name,Value.int .i64 e1.Kind,encS e1.Pattern,encS e1.Sample,encS e1.Close]) (hcb2 _ hs.imm) ([encS e1.Name,Value.int .i64 e1.Kind,encS e1.Pattern]) ([encS e1.Sample]) ([encS e1.Close]) rfl rfl) (v:=encS e1.Sample) rfl) rfl<|O (r_assign (v:=encS e1.Sample) rfl) rfl<|OW_nil<|WP_ret ?_
   obtain rfl:=Option.some.inj hM
   refine FL_nil hds ?_
   exact ⟨_,res1 Tryz.results14 (rv_tmp (v:=encS e1.Sample) rfl),g0,⟨[encS e1.Sample],rfl,rfl⟩,hs.ext⟩
end Go.Proofs.YtggpjcdhflcfmaaGreatDoor
