/- Part 4 of what the law leans on: my own layer, printed walks, plain facts. -/
import Derived.Test.YtggpjcdhflcfmaaGreatDoorKLexspecTerms3
set_option linter.unusedVariables false
set_option linter.unusedSimpArgs false
namespace Go.Proofs.YtggpjcdhflcfmaaGreatDoor
open Go.Lx Go.RowKit
set_option maxRecDepth 100000 in
theorem ref11_Few_ok {spec1:T_LexSpec} {defs1:Int} {bytes1:Int} {r:Bool} (hM:M.ref11_Few spec1 defs1 bytes1=some r) {g0:Hp} {w0:World} (hi:Imm g0 w0) {cs1:List Value} (hcs1:tT_LexSpec.rel g0 cs1 spec1) :
    CallsV Tryz.prog 7 #[Value.agg cs1.toArray,Value.int .i64 defs1,Value.int .i64 bytes1] w0 (fun v w'=>∃g',(VRd tBool false g' v r)∧Ext g0 w0 g' w'):=by
 unfold M.ref11_Few at hM
 obtain ⟨cs2,cs3,cs4,cs5,rfl,hcs2,hcs3,hcs4,hcs5⟩:=hcs1
 obtain ⟨v1,rfl,hRv1⟩:=hcs2
 have hcs3:cs3=_:=hcs3; subst hcs3
 have hcs4:cs4=_:=hcs4; subst hcs4
 have hcs5:cs5=_:=hcs5; subst hcs5
 have hs:=Sep.start hi
 refine calls_of_WP (args:=[Value.agg (List.toArray (α:=Value) [v1,Value.bool spec1.Layout,Value.int .i64 spec1.Misspelling,Value.int .i64 spec1.Unclosed]),Value.int .i64 defs1,Value.int .i64 bytes1]) Tryz.func7 rfl Tryz.ntmps7 rfl ?_
 have hds:(argEnv [Value.agg (List.toArray (α:=Value) [v1,Value.bool spec1.Layout,Value.int .i64 spec1.Misspelling,Value.int .i64 spec1.Unclosed]),Value.int .i64 defs1,Value.int .i64 bytes1]).ds=[]:=rfl
 refine WP_seq<|WP_region<|OW_box (v:=Value.agg (List.toArray (α:=Value) [v1,Value.bool spec1.Layout,Value.int .i64 spec1.Misspelling,Value.int .i64 spec1.Unclosed])) rfl hs (zs:=[v1,Value.bool spec1.Layout,Value.int .i64 spec1.Misspelling,Value.int .i64 spec1.Unclosed]) rfl rfl ?_
 intro b1 wv1 hs
 refine O (r_assign (v:=Value.bool false) rfl) rfl<|OW_nil<|WP_seq<|WP_seq<|WP_region<|O (r_fieldAddr Tryz.underlying24 ti22 rfl rfl (by decide) rfl rfl) rfl<|O (r_load (v:=v1) ti22 rfl (hs.cell (i:=0) (o:=0) rfl rfl)) rfl ?_
 obtain ⟨a1,ca1,hva1⟩:=hRv1.shape
 refine O (r_lenSl (v:=v1) Tryz.underlying22 rfl hva1) rfl<|O (r_move (v:=Value.int .i64 defs1) rfl) rfl<|O (r_gtr rfl rfl) rfl<|OW_nil ?_
 rcases condS hM with ⟨hc1,hM⟩|⟨hc1,hM⟩
 ·refine WP_true rfl hc1<|WP_seq<|WP_region<|O (r_assign (v:=Value.bool false) rfl) rfl<|OW_nil<|WP_ret ?_
  obtain rfl:=Option.some.inj hM
  refine FL_nil hds ?_
  exact ⟨_,res1 Tryz.results7 (rv_tmp (v:=Value.bool false) rfl),g0,⟨[Value.bool false],rfl,rfl⟩,hs.ext⟩
 ·refine WP_false rfl hc1<|WP_skip ?_
  obtain ⟨o3,hx4,hKhx4⟩:=stepS hM
  refine WP_cut (fun E w=>∃u9:Unit,o3=.next u9∧E.ds=[]∧Go.Lx.Sep g0 w0 g0 w []) ?_ ?_
  ·have hM:=hx4
   have hag0:=Hle.refl g0
   refine WP_seq<|WP_region<|O (r_assign (v:=Value.int .i64 0) rfl) rfl<|OW_nil<|WP_block<|WP_loop (fun (i5:Int) E w=>E 2=Value.int .i64 bytes1∧E 3=Value.pointer (some ⟨b1,0,none⟩)∧E 7=Value.int .i64 i5∧E.ds=[]∧Go.Lx.Sep g0 w0 g0 w [Go.Lx.box b1 24 ([v1,Value.bool spec1.Layout,Value.int .i64 spec1.Misspelling,Value.int .i64 spec1.Unclosed])]) hM ⟨rfl,rfl,rfl,hds,hs⟩ ?_
   clear hs hM
   rintro i5 o2 E w hM ⟨hE2,hE3,hE7,hds,hs⟩
   obtain ⟨E,rfl⟩:=open3 (E:=E) hE2 hE3 hE7
   refine WP_seq<|WP_seq<|WP_region<|O (r_move (v:=Value.int .i64 i5) rfl) rfl<|O (r_fieldAddr Tryz.underlying24 ti22 rfl rfl (by decide) rfl rfl) rfl<|O (r_load (v:=v1) ti22 rfl (hs.cell (i:=0) (o:=0) rfl rfl)) rfl ?_
   obtain ⟨a7,ca7,hva7⟩:=hRv1.shape
   refine O (r_lenSl (v:=v1) Tryz.underlying22 rfl hva7) rfl<|O (r_lss rfl rfl) rfl<|OW_nil ?_
   rcases condS hM with ⟨hc12,hM⟩|⟨hc12,hM⟩
   ·refine WP_true rfl hc12<|WP_skip<|WP_seq<|WP_block<|WP_seq<|WP_region<|O (r_fieldAddr Tryz.underlying24 ti22 rfl rfl (by decide) rfl rfl) rfl<|O (r_load (v:=v1) ti22 rfl (hs.cell (i:=0) (o:=0) rfl rfl)) rfl<|O (r_move (v:=Value.int .i64 i5) rfl) rfl ?_
    obtain ⟨e6,he6,hM⟩:=bindS hM
    obtain ⟨b12,ob12,cb12,hvb12,cs36,hcs36,hcb12⟩:=hRv1.at he6
    obtain ⟨cs37,cs38,cs39,cs40,cs41,rfl,hcs37,hcs38,hcs39,hcs40,hcs41⟩:=hcs36
    have hcs37:cs37=_:=hcs37; subst hcs37
    have hcs38:cs38=_:=hcs38; subst hcs38
    have hcs39:cs39=_:=hcs39; subst hcs39
    have hcs40:cs40=_:=hcs40; subst hcs40
    have hcs41:cs41=_:=hcs41; subst hcs41
    refine O (r_idxSl Tryz.underlying22 ti46 (v:=v1) rfl hvb12 rfl (idxL_some he6).1 (idxL_some he6).2.1) rfl<|O (r_loadEl (cs:=[encS e6.Name,Value.int .i64 e6.Kind,encS e6.Pattern,encS e6.Sample,encS e6.Close]) ti46 rfl rfl (.inl rfl) (hcb12 _ hs.imm) (v:=Value.agg (List.toArray (α:=Value) [encS e6.Name,Value.int .i64 e6.Kind,encS e6.Pattern,encS e6.Sample,encS e6.Close])) rfl) rfl<|OW_alloc ti46 hs (zs:=[encS [],Value.int .i64 0,encS [],encS [],encS []]) rfl rfl ?_
    intro b13 wv12 hs
    refine OW_storeAll ti46 hs (i:=0) rfl rfl (v:=Value.agg (List.toArray (α:=Value) [encS e6.Name,Value.int .i64 e6.Kind,encS e6.Pattern,encS e6.Sample,encS e6.Close])) rfl (vs:=[encS e6.Name,Value.int .i64 e6.Kind,encS e6.Pattern,encS e6.Sample,encS e6.Close]) rfl (one_cons rfl (one_cons rfl (one_cons rfl (one_cons rfl (one_cons rfl one_nil))))) rfl rfl ?_
    intro wv13 hs
    refine OW_nil ?_
    obtain ⟨xv6,hx7,hKhx7⟩:=bindS hM
    refine WP_cut (fun E w=>E 2=Value.int .i64 bytes1∧E 3=Value.pointer (some ⟨b1,0,none⟩)∧E 7=Value.int .i64 i5∧E 50=Value.bool xv6∧E.ds=[]∧Go.Lx.Sep g0 w0 g0 w [Go.Lx.box b1 24 ([v1,Value.bool spec1.Layout,Value.int .i64 spec1.Misspelling,Value.int .i64 spec1.Unclosed])]) ?_ ?_
    ·have hM:=hx7
     refine WP_region<|O (r_fieldAddr Tryz.underlying46 ti9 rfl rfl (by decide) rfl rfl) rfl<|O (r_load (v:=encS e6.Name) ti9 rfl (hs.cell (i:=0) (o:=0) rfl rfl)) rfl<|O (r_lenStr Tryz.underlying9 rfl) rfl<|O (r_gtr rfl rfl) rfl<|O (r_move (v:=Value.bool (decide (40<(e6.Name.length:Int)))) rfl) rfl ?_
     rcases condS hM with ⟨hg34,hM⟩|⟨hg34,hM⟩
     ·refine OK rfl rfl rfl (by rw [hg34]; rfl) rfl<|OK rfl rfl rfl (by rw [hg34]; rfl) rfl<|OK rfl rfl rfl (by rw [hg34]; rfl) rfl<|OK rfl rfl rfl (by rw [hg34]; rfl) rfl<|OK rfl rfl rfl (by rw [hg34]; rfl) rfl<|O (r_pickT (v:=Value.bool true) rfl hg34 rfl) rfl<|O (r_move (v:=Value.bool true) rfl) rfl<|OK rfl rfl rfl rfl rfl<|OK rfl rfl rfl rfl rfl<|OK rfl rfl rfl rfl rfl<|OK rfl rfl rfl rfl rfl<|OK rfl rfl rfl rfl rfl<|O (r_pickT (v:=Value.bool true) rfl rfl rfl) rfl<|O (r_move (v:=Value.bool true) rfl) rfl<|OK rfl rfl rfl rfl rfl<|OK rfl rfl rfl rfl rfl<|OK rfl rfl rfl rfl rfl<|OK rfl rfl rfl rfl rfl<|OK rfl rfl rfl rfl rfl<|O (r_pickT (v:=Value.bool true) rfl rfl rfl) rfl ?_
      refine OW_nil ?_
      obtain rfl:=Option.some.inj hM
      exact ⟨rfl,rfl,rfl,rfl,hds,(hs.sub (.cons _ (.cons_cons _ .slnil)))⟩
     ·refine OG rfl rfl rfl (by rw [hg34]; rfl) (r_fieldAddr Tryz.underlying46 ti9 rfl rfl (by decide) rfl rfl) rfl<|OG rfl rfl rfl (by rw [hg34]; rfl) (r_load (v:=encS e6.Pattern) ti9 rfl (hs.cell (i:=0) (o:=2) rfl rfl)) rfl<|OG rfl rfl rfl (by rw [hg34]; rfl) (r_lenStr Tryz.underlying9 rfl) rfl<|OG rfl rfl rfl (by rw [hg34]; rfl) (r_move (v:=Value.int .i64 bytes1) rfl) rfl<|OG rfl rfl rfl (by rw [hg34]; rfl) (r_gtr rfl rfl) rfl<|O (r_pickF (v:=Value.bool (decide (bytes1<(e6.Pattern.length:Int)))) rfl hg34 rfl) rfl<|O (r_move (v:=Value.bool (decide (bytes1<(e6.Pattern.length:Int)))) rfl) rfl ?_
      rcases condS hM with ⟨hg35,hM⟩|⟨hg35,hM⟩
      ·refine OK rfl rfl rfl (by rw [hg35]; rfl) rfl<|OK rfl rfl rfl (by rw [hg35]; rfl) rfl<|OK rfl rfl rfl (by rw [hg35]; rfl) rfl<|OK rfl rfl rfl (by rw [hg35]; rfl) rfl<|OK rfl rfl rfl (by rw [hg35]; rfl) rfl<|O (r_pickT (v:=Value.bool true) rfl hg35 rfl) rfl<|O (r_move (v:=Value.bool true) rfl) rfl<|OK rfl rfl rfl rfl rfl<|OK rfl rfl rfl rfl rfl<|OK rfl rfl rfl rfl rfl<|OK rfl rfl rfl rfl rfl<|OK rfl rfl rfl rfl rfl<|O (r_pickT (v:=Value.bool true) rfl rfl rfl) rfl<|OW_nil ?_
       obtain rfl:=Option.some.inj hM
       exact ⟨rfl,rfl,rfl,rfl,hds,(hs.sub (.cons _ (.cons_cons _ .slnil)))⟩
      ·refine OG rfl rfl rfl (by rw [hg35]; rfl) (r_fieldAddr Tryz.underlying46 ti9 rfl rfl (by decide) rfl rfl) rfl<|OG rfl rfl rfl (by rw [hg35]; rfl) (r_load (v:=encS e6.Sample) ti9 rfl (hs.cell (i:=0) (o:=3) rfl rfl)) rfl<|OG rfl rfl rfl (by rw [hg35]; rfl) (r_lenStr Tryz.underlying9 rfl) rfl<|OG rfl rfl rfl (by rw [hg35]; rfl) (r_move (v:=Value.int .i64 bytes1) rfl) rfl<|OG rfl rfl rfl (by rw [hg35]; rfl) (r_gtr rfl rfl) rfl<|O (r_pickF (v:=Value.bool (decide (bytes1<(e6.Sample.length:Int)))) rfl hg35 rfl) rfl<|O (r_move (v:=Value.bool (decide (bytes1<(e6.Sample.length:Int)))) rfl) rfl ?_
       rcases condS hM with ⟨hg36,hM⟩|⟨hg36,hM⟩
       ·refine OK rfl rfl rfl (by rw [hg36]; rfl) rfl<|OK rfl rfl rfl (by rw [hg36]; rfl) rfl<|OK rfl rfl rfl (by rw [hg36]; rfl) rfl<|OK rfl rfl rfl (by rw [hg36]; rfl) rfl<|OK rfl rfl rfl (by rw [hg36]; rfl) rfl<|O (r_pickT (v:=Value.bool true) rfl hg36 rfl) rfl<|OW_nil ?_
        obtain rfl:=Option.some.inj hM
        exact ⟨rfl,rfl,rfl,rfl,hds,(hs.sub (.cons _ (.cons_cons _ .slnil)))⟩
       ·refine OG rfl rfl rfl (by rw [hg36]; rfl) (r_fieldAddr Tryz.underlying46 ti9 rfl rfl (by decide) rfl rfl) rfl<|OG rfl rfl rfl (by rw [hg36]; rfl) (r_load (v:=encS e6.Close) ti9 rfl (hs.cell (i:=0) (o:=4) rfl rfl)) rfl<|OG rfl rfl rfl (by rw [hg36]; rfl) (r_lenStr Tryz.underlying9 rfl) rfl<|OG rfl rfl rfl (by rw [hg36]; rfl) (r_move (v:=Value.int .i64 bytes1) rfl) rfl<|OG rfl rfl rfl (by rw [hg36]; rfl) (r_gtr rfl rfl) rfl<|O (r_pickF (v:=Value.bool (decide (bytes1<(e6.Close.length:Int)))) rfl hg36 rfl) rfl<|OW_nil ?_
        obtain rfl:=Option.some.inj hM
        exact ⟨rfl,rfl,rfl,rfl,hds,(hs.sub (.cons _ (.cons_cons _ .slnil)))⟩
    ·clear hs
     rintro E w ⟨hE2,hE3,hE7,hE50,hds,hs⟩
     have hM:=hKhx7
     obtain ⟨E,rfl⟩:=open4 (E:=E) hE2 hE3 hE7 hE50
     rcases condS hM with ⟨hc13,hM⟩|⟨hc13,hM⟩
     ·refine WP_true rfl hc13<|WP_seq<|WP_region<|O (r_assign (v:=Value.bool false) rfl) rfl<|OW_nil<|WP_ret ?_
      obtain rfl:=Option.some.inj hM
      refine fun hr=>?_
      have hM:=congrArg some hr
      obtain rfl:=Option.some.inj hM
      have hM:=hKhx4
      obtain rfl:=Option.some.inj hM
      refine FL_nil hds ?_
      exact ⟨_,res1 Tryz.results7 (rv_tmp (v:=Value.bool false) rfl),g0,⟨[Value.bool false],rfl,rfl⟩,hs.ext⟩
     ·refine WP_false rfl hc13<|WP_skip<|WP_region<|O (r_move (v:=Value.int .i64 i5) rfl) rfl ?_
      obtain ⟨t6,ht6,hM⟩:=bindS hM
      refine O (r_addM rfl rfl ht6) rfl<|O (r_assign (v:=Value.int .i64 t6) rfl) rfl<|OW_nil ?_
      obtain rfl:=Option.some.inj hM
      exact ⟨rfl,rfl,rfl,hds,hs⟩
   ·refine WP_false rfl hc12<|WP_exit ?_
    obtain rfl:=Option.some.inj hM
    refine fun hr=>?_
    have hM:=congrArg some hr
    obtain rfl:=Option.some.inj hM
    exact ⟨(),rfl,hds,(hs.sub (.cons _ .slnil))⟩
  ·clear hs
   rintro E w ⟨_,rfl,hds,hs⟩
   have hM:=hKhx4
   dsimp only [onStep] at hM
   refine WP_seq<|WP_region<|O (r_assign (v:=Value.bool true) rfl) rfl<|OW_nil<|WP_ret ?_
   obtain rfl:=Option.some.inj hM
   refine FL_nil hds ?_
   exact ⟨_,res1 Tryz.results7 (rv_tmp (v:=Value.bool true) rfl),g0,⟨[Value.bool true],rfl,rfl⟩,hs.ext⟩
set_option maxRecDepth 100000 in
theorem law11_swapped_ok {keywordFirst1:Bool} {r:T_LexSpec} (hM:M.law11_swapped keywordFirst1=some r) {g0:Hp} {w0:World} (hi:Imm g0 w0) :
    CallsV Tryz.prog 22 #[Value.bool keywordFirst1] w0 (fun v w'=>∃g',(VRd tT_LexSpec true g' v r)∧Ext g0 w0 g' w'):=by
 unfold M.law11_swapped at hM
 have hs:=Sep.start hi
 refine calls_of_WP (args:=[Value.bool keywordFirst1]) Tryz.func22 rfl Tryz.ntmps22 rfl ?_
 have hds:(argEnv [Value.bool keywordFirst1]).ds=[]:=rfl
 refine WP_seq<|WP_region<|OW_alloc ti24 hs (zs:=[Value.slice none 0 0,Value.bool false,Value.int .i64 0,Value.int .i64 0]) rfl rfl ?_
 intro b1 wv1 hs
 refine OW_nil<|WP_seq<|WP_region<|O (r_build (vs:=[(0,encS [119,111,114,100]),(1,Value.int .i64 1),(2,encS [91,97,45,122,93,43]),(3,encS [120])]) (cs:=[encS [119,111,114,100],Value.int .i64 1,encS [91,97,45,122,93,43],encS [120],encS []]) rfl (by kernel_rfl)) rfl<|OW_alloc ti46 hs (zs:=[encS [],Value.int .i64 0,encS [],encS [],encS []]) rfl rfl ?_
 intro b2 wv2 hs
 refine OW_storeAll ti46 hs (i:=0) rfl rfl (v:=Value.agg (List.toArray (α:=Value) [encS [119,111,114,100],Value.int .i64 1,encS [91,97,45,122,93,43],encS [120],encS []])) rfl (vs:=[encS [119,111,114,100],Value.int .i64 1,encS [91,97,45,122,93,43],encS [120],encS []]) rfl (one_cons rfl (one_cons rfl (one_cons rfl (one_cons rfl (one_cons rfl one_nil))))) rfl rfl ?_
 intro wv3 hs
 refine OW_nil<|WP_seq<|WP_region<|O (r_build (vs:=[(0,encS [105,102]),(1,Value.int .i64 3),(2,encS [105,102]),(3,encS [105,102])]) (cs:=[encS [105,102],Value.int .i64 3,encS [105,102],encS [105,102],encS []]) rfl (by kernel_rfl)) rfl<|OW_alloc ti46 hs (zs:=[encS [],Value.int .i64 0,encS [],encS [],encS []]) rfl rfl ?_
 intro b3 wv4 hs
 refine OW_storeAll ti46 hs (i:=0) rfl rfl (v:=Value.agg (List.toArray (α:=Value) [encS [105,102],Value.int .i64 3,encS [105,102],encS [105,102],encS []])) rfl (vs:=[encS [105,102],Value.int .i64 3,encS [105,102],encS [105,102],encS []]) rfl (one_cons rfl (one_cons rfl (one_cons rfl (one_cons rfl (one_cons rfl one_nil))))) rfl rfl ?_
 intro wv5 hs
 refine OW_nil<|WP_seq<|WP_seq<|WP_region<|O (r_move (v:=Value.bool keywordFirst1) rfl) rfl<|OW_nil ?_
 rcases condS hM with ⟨hc1,hM⟩|⟨hc1,hM⟩
 ·refine WP_true rfl hc1<|WP_seq<|WP_region<|O (r_loadN (cs:=[encS [105,102],Value.int .i64 3,encS [105,102],encS [105,102],encS []]) ti46 rfl rfl (hs.cells (i:=0) rfl)) rfl<|O (r_loadN (cs:=[encS [119,111,114,100],Value.int .i64 1,encS [91,97,45,122,93,43],encS [120],encS []]) ti46 rfl rfl (hs.cells (i:=1) rfl)) rfl<|OW_lit (τ:=tT_TokenDef) [Value.agg (List.toArray (α:=Value) [encS [105,102],Value.int .i64 3,encS [105,102],encS [105,102],encS []]),Value.agg (List.toArray (α:=Value) [encS [119,111,114,100],Value.int .i64 1,encS [91,97,45,122,93,43],encS [120],encS []])] [(T_TokenDef.mk [105,102] 3 [105,102] [105,102] []),(T_TokenDef.mk [119,111,114,100] 1 [91,97,45,122,93,43] [120] [])] Tryz.underlying22 ti46 (by decide) hs rfl rfl rfl ⟨⟨[encS [105,102]],[Value.int .i64 3],[encS [105,102]],[encS [105,102]],[encS []],rfl,rfl,rfl,rfl,rfl,rfl⟩,⟨[encS [119,111,114,100]],[Value.int .i64 1],[encS [91,97,45,122,93,43]],[encS [120]],[encS []],rfl,rfl,rfl,rfl,rfl,rfl⟩,trivial⟩ rfl ?_
  intro v1 wv6 xs1 hrelxs1 hs
  have ho1:=one_of_shape (hs.rowShape (i:=0) rfl)
  refine O (r_build (vs:=[(0,v1)]) (cs:=[v1,Value.bool false,Value.int .i64 0,Value.int .i64 0]) rfl (built_fill [(0,1),(1,1),(2,1),(3,1)] [Value.slice none 0 0,Value.bool false,Value.int .i64 0,Value.int .i64 0] (fun _=>by kernel_rfl) (fill_step ([]) ([Value.slice none 0 0]) ([Value.bool false,Value.int .i64 0,Value.int .i64 0]) ([v1]) rfl rfl (cells_one ho1) rfl rfl rfl<|fill_done))) rfl<|OW_storeAll ti24 hs (i:=3) rfl rfl (v:=Value.agg (List.toArray (α:=Value) [v1,Value.bool false,Value.int .i64 0,Value.int .i64 0])) rfl (vs:=[v1,Value.bool false,Value.int .i64 0,Value.int .i64 0]) rfl (one_cons (by obtain ⟨_,_,h9⟩:=hs.rowShape (i:=0) rfl; rw [h9]; rfl) (one_cons rfl (one_cons rfl (one_cons rfl one_nil)))) rfl rfl ?_
  intro wv7 hs
  refine OW_nil<|WP_ret ?_
  obtain rfl:=Option.some.inj hM
  obtain ⟨gg1,hlegg1,hRgg1,hs⟩:=hs.relRow (i:=0) rfl hrelxs1
  refine FL_nil hds ?_
  exact ⟨_,res1 Tryz.results22 (rv_cells (vs:=[v1,Value.bool false,Value.int .i64 0,Value.int .i64 0]) ti24 rfl rfl (hs.cells (i:=2) rfl)),gg1,⟨[v1,Value.bool false,Value.int .i64 0,Value.int .i64 0],rfl,⟨[v1],[Value.bool false],[Value.int .i64 0],[Value.int .i64 0],rfl,⟨_,rfl,hRgg1⟩,rfl,rfl,rfl⟩⟩,hs.ext⟩
 ·refine WP_false rfl hc1<|WP_skip<|WP_seq<|WP_region<|O (r_loadN (cs:=[encS [119,111,114,100],Value.int .i64 1,encS [91,97,45,122,93,43],encS [120],encS []]) ti46 rfl rfl (hs.cells (i:=1) rfl)) rfl<|O (r_loadN (cs:=[encS [105,102],Value.int .i64 3,encS [105,102],encS [105,102],encS []]) ti46 rfl rfl (hs.cells (i:=0) rfl)) rfl<|OW_lit (τ:=tT_TokenDef) [Value.agg (List.toArray (α:=Value) [encS [119,111,114,100],Value.int .i64 1,encS [91,97,45,122,93,43],encS [120],encS []]),Value.agg (List.toArray (α:=Value) [encS [105,102],Value.int .i64 3,encS [105,102],encS [105,102],encS []])] [(T_TokenDef.mk [119,111,114,100] 1 [91,97,45,122,93,43] [120] []),(T_TokenDef.mk [105,102] 3 [105,102] [105,102] [])] Tryz.underlying22 ti46 (by decide) hs rfl rfl rfl ⟨⟨[encS [119,111,114,100]],[Value.int .i64 1],[encS [91,97,45,122,93,43]],[encS [120]],[encS []],rfl,rfl,rfl,rfl,rfl,rfl⟩,⟨[encS [105,102]],[Value.int .i64 3],[encS [105,102]],[encS [105,102]],[encS []],rfl,rfl,rfl,rfl,rfl,rfl⟩,trivial⟩ rfl ?_
  intro v2 wv8 xs2 hrelxs2 hs
  have ho2:=one_of_shape (hs.rowShape (i:=0) rfl)
  refine O (r_build (vs:=[(0,v2)]) (cs:=[v2,Value.bool false,Value.int .i64 0,Value.int .i64 0]) rfl (built_fill [(0,1),(1,1),(2,1),(3,1)] [Value.slice none 0 0,Value.bool false,Value.int .i64 0,Value.int .i64 0] (fun _=>by kernel_rfl) (fill_step ([]) ([Value.slice none 0 0]) ([Value.bool false,Value.int .i64 0,Value.int .i64 0]) ([v2]) rfl rfl (cells_one ho2) rfl rfl rfl<|fill_done))) rfl<|OW_storeAll ti24 hs (i:=3) rfl rfl (v:=Value.agg (List.toArray (α:=Value) [v2,Value.bool false,Value.int .i64 0,Value.int .i64 0])) rfl (vs:=[v2,Value.bool false,Value.int .i64 0,Value.int .i64 0]) rfl (one_cons (by obtain ⟨_,_,h9⟩:=hs.rowShape (i:=0) rfl; rw [h9]; rfl) (one_cons rfl (one_cons rfl (one_cons rfl one_nil)))) rfl rfl ?_
  intro wv9 hs
  refine OW_nil<|WP_ret ?_
  obtain rfl:=Option.some.inj hM
  obtain ⟨gg2,hlegg2,hRgg2,hs⟩:=hs.relRow (i:=0) rfl hrelxs2
  refine FL_nil hds ?_
  exact ⟨_,res1 Tryz.results22 (rv_cells (vs:=[v2,Value.bool false,Value.int .i64 0,Value.int .i64 0]) ti24 rfl rfl (hs.cells (i:=2) rfl)),gg2,⟨[v2,Value.bool false,Value.int .i64 0,Value.int .i64 0],rfl,⟨[v2],[Value.bool false],[Value.int .i64 0],[Value.int .i64 0],rfl,⟨_,rfl,hRgg2⟩,rfl,rfl,rfl⟩⟩,hs.ext⟩
set_option maxRecDepth 100000 in
theorem regex_Parse_1_ret {c1:T_Regex} {c2:Int} {c3:Int} {g0:Hp} {w0:World} {gi:Hp} {wi:World} {Lt:List Res} {b1:Nat} {b2:Nat} {b3:Nat} {v1:Value} (hs:Sep g0 w0 gi wi (Go.Lx.box b1 53 (([Value.int .i64 c1.Kind])++((c1.Set.1.map (Value.int .u64))++([v1])))::Go.Lx.box b2 3 ([Value.int .i64 c2])::Go.Lx.box b3 38 ([Value.int .i64 c3])::Lt)) (hRv1:RdS tT_Regex gi v1 c1.Kids) :
    CallsR Tryz.prog 60 #[Value.pointer (some ⟨b1,0,none⟩),Value.pointer (some ⟨b2,0,none⟩),Value.pointer (some ⟨b3,0,none⟩)] .returning .returning wi (fun w'=>∃g',Hle gi g'∧Sep g0 w0 g' w' (Go.Lx.box b1 53 (([Value.int .i64 c1.Kind])++((c1.Set.1.map (Value.int .u64))++([v1])))::Go.Lx.box b2 3 ([Value.int .i64 c2])::Go.Lx.box b3 38 ([Value.int .i64 c3])::Lt)):=by
 have hagi:=Hle.refl gi
 refine calls_rec (args:=[Value.pointer (some ⟨b1,0,none⟩),Value.pointer (some ⟨b2,0,none⟩),Value.pointer (some ⟨b3,0,none⟩)]) (val:=Value.nilIface) (.inl ⟨rfl,rfl,rfl⟩) Tryz.func60 rfl Tryz.ntmps60 rfl rfl rfl ?_
 have hds:(argEnv [Value.pointer (some ⟨b1,0,none⟩),Value.pointer (some ⟨b2,0,none⟩),Value.pointer (some ⟨b3,0,none⟩)]).ds=[]:=rfl
 refine WP_seq<|WP_region<|O (r_move (v:=Value.nilIface) rfl) rfl<|O (r_neqNilN Tryz.underlying20 rfl rfl) rfl<|OW_nil<|WP_false rfl rfl<|WP_skip ?_
 exact ⟨hds,_,res_none Tryz.results60,gi,(Hle.refl _),hs⟩
set_option maxRecDepth 100000 in
theorem regex_Parse_1_pan {c1:T_Regex} {c2:Int} {c3:Int} {x1:Int} {r:T_Regex×Int×Int} (hM:M.regex_Parse_1 x1 c1 c2 c3=some r) {g0:Hp} {w0:World} {gi:Hp} {wi:World} {Lt:List Res} {b1:Nat} {b2:Nat} {b3:Nat} {v1:Value} (hs:Sep g0 w0 gi wi (Go.Lx.box b1 53 (([Value.int .i64 c1.Kind])++((c1.Set.1.map (Value.int .u64))++([v1])))::Go.Lx.box b2 3 ([Value.int .i64 c2])::Go.Lx.box b3 38 ([Value.int .i64 c3])::Lt)) (hRv1:RdS tT_Regex gi v1 c1.Kids) :
    CallsR Tryz.prog 60 #[Value.pointer (some ⟨b1,0,none⟩),Value.pointer (some ⟨b2,0,none⟩),Value.pointer (some ⟨b3,0,none⟩)] (.panicking (pent (.iface 107 (.int .i64 x1)))) (recd (.iface 107 (.int .i64 x1))) wi (fun w'=>∃g' v2,Hle gi g'∧RdS tT_Regex g' v2 r.1.Kids∧Sep g0 w0 g' w' (Go.Lx.box b1 53 (([Value.int .i64 r.1.Kind])++((r.1.Set.1.map (Value.int .u64))++([v2])))::Go.Lx.box b2 3 ([Value.int .i64 r.2.1])::Go.Lx.box b3 38 ([Value.int .i64 r.2.2])::Lt)):=by
 unfold M.regex_Parse_1 at hM
 have hagi:=Hle.refl gi
 refine calls_rec (args:=[Value.pointer (some ⟨b1,0,none⟩),Value.pointer (some ⟨b2,0,none⟩),Value.pointer (some ⟨b3,0,none⟩)]) (val:=Value.iface 107 (Value.int .i64 x1)) (.inr ⟨rfl,rfl⟩) Tryz.func60 rfl Tryz.ntmps60 rfl rfl rfl ?_
 have hds:(argEnv [Value.pointer (some ⟨b1,0,none⟩),Value.pointer (some ⟨b2,0,none⟩),Value.pointer (some ⟨b3,0,none⟩)]).ds=[]:=rfl
 refine WP_seq<|WP_region<|O (r_move (v:=Value.iface 107 (Value.int .i64 x1)) rfl) rfl<|O (r_neqNilI Tryz.underlying20 rfl rfl) rfl<|OW_nil<|WP_true rfl rfl<|WP_any (.q 0 (.q 1 (.q 2 (.s 3 (.s 4 (.s 5 (.leaf))))))) (SS g0 w0 gi (Lt)) mo (by decide +kernel) ?_
 have hs:=hs.drew
 have hRv1b:=hRv1
 have hS:SS g0 w0 gi (Lt) _:=⟨gi,Hle.refl _,(Sep.selT (A:=[Go.Lx.box b1 53 (([Value.int .i64 c1.Kind])++((c1.Set.1.map (Value.int .u64))++([v1]))),Go.Lx.box b2 3 ([Value.int .i64 c2]),Go.Lx.box b3 38 ([Value.int .i64 c3])]) (A':=[]) (L:=Lt) hs [] (by decide) rfl)⟩
 refine A rfl hS (fun w9 ⟨g9,hle9,hs⟩=>r_build (vs:=[]) (cs:=([Value.int .i64 0])++(((Vec.zero 4).1.map (Value.int .u64))++([Value.slice none 0 0]))) rfl (built_fill [(0,1),(1,4),(5,1)] (([Value.int .i64 0])++(((Vec.zero 4).1.map (Value.int .u64))++([Value.slice none 0 0]))) (fun _=>by kernel_rfl) (fill_done))) rfl<|A rfl hS (fun w9 ⟨g9,hle9,hs⟩=>r_move (v:=Value.iface 107 (Value.int .i64 x1)) rfl) rfl<|A rfl hS (fun w9 ⟨g9,hle9,hs⟩=>r_typeAssert Tryz.underlying107 rfl rfl) rfl<|A1 rfl<|OW_storeAll ti53 hs (i:=0) rfl rfl (v:=Value.agg (List.toArray (α:=Value) (([Value.int .i64 0])++(((Vec.zero 4).1.map (Value.int .u64))++([Value.slice none 0 0]))))) rfl (vs:=([Value.int .i64 0])++(((Vec.zero 4).1.map (Value.int .u64))++([Value.slice none 0 0]))) rfl (one_append (one_cons rfl one_nil) (one_append vec_one (one_cons rfl one_nil))) (by simp [(Vec.zero 4).2]) (by simp [(Vec.zero 4).2,c1.Set.2]) ?_
 intro wv2 hs
 refine OW_nil ?_
 replace hS:=hS.to (Hle.refl _) (Sep.selT (A:=[Go.Lx.box b1 53 (([Value.int .i64 0])++(((Vec.zero 4).1.map (Value.int .u64))++([Value.slice none 0 0]))),Go.Lx.box b2 3 ([Value.int .i64 c2]),Go.Lx.box b3 38 ([Value.int .i64 c3])]) (A':=[]) (L:=Lt) hs [] (by decide) rfl)
 refine ⟨fun _=>hS,?_⟩
 refine A1 rfl<|OW_store1 ti3 hs (i:=1) rfl rfl (v:=Value.int .i64 x1) rfl rfl (o:=0) (Nat.zero_lt_succ _) ?_
 intro wv3 hs
 refine OW_nil ?_
 refine ⟨fun h=>absurd h (by decide +kernel),?_⟩
 refine A1 rfl<|OW_store1 ti38 hs (i:=2) rfl rfl (v:=Value.int .i64 3) rfl rfl (o:=0) (Nat.zero_lt_succ _) ?_
 intro wv4 hs
 refine OW_nil ?_
 refine ⟨fun h=>absurd h (by decide +kernel),?_⟩
 refine AN ?_
 obtain rfl:=Option.some.inj hM
 exact ⟨hds,_,res_none Tryz.results60,gi,Value.slice none 0 0,(Hle.refl _),RdS.nil,hs⟩
set_option maxRecDepth 100000 in
theorem regex_reader_peek_ok {p1:T_regex_reader} {r:Int} (hM:M.regex_reader_peek p1=some r) {g0:Hp} {w0:World} {gi:Hp} {wi:World} {Lt:List Res} {b1:Nat} (hs:Sep g0 w0 gi wi (Go.Lx.box b1 110 ([encS p1.s,Value.int .i64 p1.atv])::Lt)) :
    CallsV Tryz.prog 81 #[Value.pointer (some ⟨b1,0,none⟩)] wi (fun v w'=>∃g',(VRd (tInt .u8) false g' v r)∧Hle gi g'∧Sep g0 w0 g' w' (Go.Lx.box b1 110 ([encS p1.s,Value.int .i64 p1.atv])::Lt)):=by
 unfold M.regex_reader_peek at hM
 have hagi:=Hle.refl gi
 refine calls_of_WP (args:=[Value.pointer (some ⟨b1,0,none⟩)]) Tryz.func81 rfl Tryz.ntmps81 rfl ?_
 have hds:(argEnv [Value.pointer (some ⟨b1,0,none⟩)]).ds=[]:=rfl
 refine WP_seq<|WP_region<|O (r_assign (v:=Value.int .u8 0) rfl) rfl<|OW_nil<|WP_seq<|WP_seq<|WP_draw mo (by decide +kernel) ?_
 have hs:=hs.drew
 refine S (r_move (v:=Value.pointer (some ⟨b1,0,none⟩)) rfl) rfl<|S (r_nilCheck rfl) rfl<|S (r_fieldAddr Tryz.underlying110 ti3 rfl rfl (by decide) rfl rfl) rfl<|S (r_load (v:=Value.int .i64 p1.atv) ti3 rfl (hs.cell (i:=0) (o:=1) rfl rfl)) rfl<|S (r_move (v:=Value.pointer (some ⟨b1,0,none⟩)) rfl) rfl<|S (r_nilCheck rfl) rfl<|S (r_fieldAddr Tryz.underlying110 ti9 rfl rfl (by decide) rfl rfl) rfl<|S (r_load (v:=encS p1.s) ti9 rfl (hs.cell (i:=0) (o:=0) rfl rfl)) rfl<|S (r_lenStr Tryz.underlying9 rfl) rfl<|S (r_lss rfl rfl) rfl<|SW_nil ?_
 rcases condS hM with ⟨hc1,hM⟩|⟨hc1,hM⟩
 ·refine WP_true rfl hc1<|WP_seq<|WP_draw mo (by decide +kernel) ?_
  have hs:=hs.drew
  refine S (r_move (v:=Value.pointer (some ⟨b1,0,none⟩)) rfl) rfl<|S (r_nilCheck rfl) rfl<|S (r_fieldAddr Tryz.underlying110 ti9 rfl rfl (by decide) rfl rfl) rfl<|S (r_load (v:=encS p1.s) ti9 rfl (hs.cell (i:=0) (o:=0) rfl rfl)) rfl<|S (r_move (v:=Value.pointer (some ⟨b1,0,none⟩)) rfl) rfl<|S (r_nilCheck rfl) rfl<|S (r_fieldAddr Tryz.underlying110 ti3 rfl rfl (by decide) rfl rfl) rfl<|S (r_load (v:=Value.int .i64 p1.atv) ti3 rfl (hs.cell (i:=0) (o:=1) rfl rfl)) rfl ?_
  obtain ⟨c1,hc1,hM⟩:=bindS hM
  refine S (r_idxStr Tryz.underlying9 rfl rfl hc1) rfl<|S (r_assign (v:=Value.int .u8 c1) rfl) rfl<|SW_nil<|WP_ret ?_
  obtain rfl:=Option.some.inj hM
  refine FL_nil hds ?_
  exact ⟨_,res1 Tryz.results81 (rv_tmp (v:=Value.int .u8 c1) rfl),gi,⟨[Value.int .u8 c1],rfl,rfl⟩,(Hle.refl _),hs⟩
 ·refine WP_false rfl hc1<|WP_skip<|WP_seq<|WP_region<|O (r_assign (v:=Value.int .u8 0) rfl) rfl<|OW_nil<|WP_ret ?_
  obtain rfl:=Option.some.inj hM
  refine FL_nil hds ?_
  exact ⟨_,res1 Tryz.results81 (rv_tmp (v:=Value.int .u8 0) rfl),gi,⟨[Value.int .u8 0],rfl,rfl⟩,(Hle.refl _),hs⟩
set_option maxRecDepth 100000 in
theorem regex_reader_fail_ok {p1:T_regex_reader} {r:Rt (Unit)} (hM:M.regex_reader_fail p1=some r) {g0:Hp} {w0:World} {gi:Hp} {wi:World} {Lt:List Res} {b1:Nat} (hs:Sep g0 w0 gi wi (Go.Lx.box b1 110 ([encS p1.s,Value.int .i64 p1.atv])::Lt)) :
    CallsX Tryz.prog 62 #[Value.pointer (some ⟨b1,0,none⟩)] wi 107 r (fun r v w'=>∃g',(True)∧Hle gi g'∧Sep g0 w0 g' w' (Go.Lx.box b1 110 ([encS p1.s,Value.int .i64 p1.atv])::Lt)) (fun w'=>∃g',Hle gi g'∧Sep g0 w0 g' w' Lt):=by
 unfold M.regex_reader_fail at hM
 have hagi:=Hle.refl gi
 refine calls_of_WPX (args:=[Value.pointer (some ⟨b1,0,none⟩)]) Tryz.func62 rfl Tryz.ntmps62 rfl ?_
 have hds:(argEnv [Value.pointer (some ⟨b1,0,none⟩)]).ds=[]:=rfl
 refine WP_region<|O (r_move (v:=Value.pointer (some ⟨b1,0,none⟩)) rfl) rfl<|O (r_nilCheck rfl) rfl<|O (r_fieldAddr Tryz.underlying110 ti3 rfl rfl (by decide) rfl rfl) rfl<|O (r_load (v:=Value.int .i64 p1.atv) ti3 rfl (hs.cell (i:=0) (o:=1) rfl rfl)) rfl<|O (r_makeIface (v:=Value.int .i64 p1.atv) conc107 rfl) rfl<|OW_panic rfl ?_
 obtain rfl:=Option.some.inj hM
 exact ⟨rfl,hds,gi,(Hle.refl _),Sep.tail (A:=[Go.Lx.box b1 110 ([encS p1.s,Value.int .i64 p1.atv])]) (L:=Lt) hs⟩
set_option maxRecDepth 100000 in
theorem regex_reader_expect_ok {p1:T_regex_reader} {b2:Int} {r:Rt (T_regex_reader)} (hM:M.regex_reader_expect p1 b2=some r) {g0:Hp} {w0:World} {gi:Hp} {wi:World} {Lt:List Res} {b1:Nat} (hs:Sep g0 w0 gi wi (Go.Lx.box b1 110 ([encS p1.s,Value.int .i64 p1.atv])::Lt)) :
    CallsX Tryz.prog 135 #[Value.pointer (some ⟨b1,0,none⟩),Value.int .u8 b2] wi 107 r (fun r v w'=>∃g',(True)∧Hle gi g'∧Sep g0 w0 g' w' (Go.Lx.box b1 110 ([encS r.s,Value.int .i64 r.atv])::Lt)) (fun w'=>∃g',Hle gi g'∧Sep g0 w0 g' w' Lt):=by
 unfold M.regex_reader_expect at hM
 have hagi:=Hle.refl gi
 refine calls_of_WPX (args:=[Value.pointer (some ⟨b1,0,none⟩),Value.int .u8 b2]) Tryz.func135 rfl Tryz.ntmps135 rfl ?_
 have hds:(argEnv [Value.pointer (some ⟨b1,0,none⟩),Value.int .u8 b2]).ds=[]:=rfl
 obtain ⟨o1,hx2,hKhx2⟩:=stepS hM
 refine WP_cut (fun E w=>∃u9:Unit,o1=.next u9∧∃(gg3:Hp),E 0=Value.pointer (some ⟨b1,0,none⟩)∧E.ds=[]∧Hle gi gg3∧Go.Lx.Sep g0 w0 gg3 w (Go.Lx.box b1 110 ([encS p1.s,Value.int .i64 p1.atv])::Lt)) ?_ ?_
 ·have hM:=hx2
  obtain ⟨xv2,hx3,hKhx3⟩:=bindS hM
  refine WP_cut (fun E w=>E 0=Value.pointer (some ⟨b1,0,none⟩)∧E 26=Value.bool xv2∧E.ds=[]∧Go.Lx.Sep g0 w0 gi w (Go.Lx.box b1 110 ([encS p1.s,Value.int .i64 p1.atv])::Lt)) ?_ ?_
  ·have hM:=hx3
   refine WP_draw mo (by decide +kernel) ?_
   have hs:=hs.drew
   refine S (r_move (v:=Value.pointer (some ⟨b1,0,none⟩)) rfl) rfl<|S (r_nilCheck rfl) rfl<|S (r_fieldAddr Tryz.underlying110 ti3 rfl rfl (by decide) rfl rfl) rfl<|S (r_load (v:=Value.int .i64 p1.atv) ti3 rfl (hs.cell (i:=0) (o:=1) rfl rfl)) rfl<|S (r_move (v:=Value.pointer (some ⟨b1,0,none⟩)) rfl) rfl<|S (r_nilCheck rfl) rfl<|S (r_fieldAddr Tryz.underlying110 ti9 rfl rfl (by decide) rfl rfl) rfl<|S (r_load (v:=encS p1.s) ti9 rfl (hs.cell (i:=0) (o:=0) rfl rfl)) rfl<|S (r_lenStr Tryz.underlying9 rfl) rfl<|S (r_eql rfl rfl) rfl<|S (r_move (v:=Value.bool (p1.atv == (p1.s.length:Int))) rfl) rfl ?_
   rcases condS hM with ⟨hg4,hM⟩|⟨hg4,hM⟩
   ·refine SK rfl rfl rfl (by rw [hg4]; rfl) rfl<|SK rfl rfl rfl (by rw [hg4]; rfl) rfl<|SK rfl rfl rfl (by rw [hg4]; rfl) rfl<|SK rfl rfl rfl (by rw [hg4]; rfl) rfl<|SK rfl rfl rfl (by rw [hg4]; rfl) rfl<|SK rfl rfl rfl (by rw [hg4]; rfl) rfl<|SK rfl rfl rfl (by rw [hg4]; rfl) rfl<|SK rfl rfl rfl (by rw [hg4]; rfl) rfl<|SK rfl rfl rfl (by rw [hg4]; rfl) rfl<|SK rfl rfl rfl (by rw [hg4]; rfl) rfl<|SK rfl rfl rfl (by rw [hg4]; rfl) rfl<|S (r_pickT (v:=Value.bool true) rfl hg4 rfl) rfl<|SW_nil ?_
    obtain rfl:=Option.some.inj hM
    exact ⟨rfl,rfl,hds,hs⟩
   ·refine SG rfl rfl rfl (by rw [hg4]; rfl) (r_move (v:=Value.pointer (some ⟨b1,0,none⟩)) rfl) rfl<|SG rfl rfl rfl (by rw [hg4]; rfl) (r_nilCheck rfl) rfl<|SG rfl rfl rfl (by rw [hg4]; rfl) (r_fieldAddr Tryz.underlying110 ti9 rfl rfl (by decide) rfl rfl) rfl<|SG rfl rfl rfl (by rw [hg4]; rfl) (r_load (v:=encS p1.s) ti9 rfl (hs.cell (i:=0) (o:=0) rfl rfl)) rfl<|SG rfl rfl rfl (by rw [hg4]; rfl) (r_move (v:=Value.pointer (some ⟨b1,0,none⟩)) rfl) rfl<|SG rfl rfl rfl (by rw [hg4]; rfl) (r_nilCheck rfl) rfl<|SG rfl rfl rfl (by rw [hg4]; rfl) (r_fieldAddr Tryz.underlying110 ti3 rfl rfl (by decide) rfl rfl) rfl<|SG rfl rfl rfl (by rw [hg4]; rfl) (r_load (v:=Value.int .i64 p1.atv) ti3 rfl (hs.cell (i:=0) (o:=1) rfl rfl)) rfl ?_
    obtain ⟨c4,hc4,hM⟩:=bindS hM
    refine SG rfl rfl rfl (by rw [hg4]; rfl) (r_idxStr Tryz.underlying9 rfl rfl hc4) rfl<|SG rfl rfl rfl (by rw [hg4]; rfl) (r_move (v:=Value.int .u8 b2) rfl) rfl<|SG rfl rfl rfl (by rw [hg4]; rfl) (r_neq rfl rfl) rfl<|S (r_pickF (v:=Value.bool (c4 != b2)) rfl hg4 rfl) rfl<|SW_nil ?_
    obtain rfl:=Option.some.inj hM
    exact ⟨rfl,rfl,hds,hs⟩
  ·clear hs
   rintro E w ⟨hE0,hE26,hds,hs⟩
   have hM:=hKhx3
   obtain ⟨E,rfl⟩:=open2 (E:=E) hE0 hE26
   rcases condS hM with ⟨hc2,hM⟩|⟨hc2,hM⟩
   ·refine WP_true rfl hc2<|WP_region<|O (r_move (v:=Value.pointer (some ⟨b1,0,none⟩)) rfl) rfl ?_
    rcases rtS hM with ⟨rv2,hrv2,hM⟩|⟨px2,hpx2,hM⟩
    ·refine C [Value.pointer (some ⟨b1,0,none⟩)] cf62 rfl (regex_reader_fail_ok hrv2 hs) rfl ?_
     rintro v2 wv4 ⟨gg5,hvv2,hlegg5,hs⟩
     replace hagi:=hagi.trans hlegg5
     refine OW_nil ?_
     obtain rfl:=Option.some.inj hM
     exact ⟨(),rfl,gg5,rfl,hds,hagi,hs⟩
    ·refine CN [Value.pointer (some ⟨b1,0,none⟩)] cf62 rfl (regex_reader_fail_ok hpx2 hs) ?_
     rintro wv3 ⟨gg4,hlegg4,hs⟩
     replace hagi:=hagi.trans hlegg4
     obtain rfl:=Option.some.inj hM
     have hM:=hKhx2
     obtain rfl:=Option.some.inj hM
     exact ⟨rfl,hds,gg4,hagi,Sep.tail (A:=[]) (L:=Lt) hs⟩
   ·refine WP_false rfl hc2<|WP_skip ?_
    obtain rfl:=Option.some.inj hM
    exact ⟨(),rfl,gi,rfl,hds,(Hle.refl _),hs⟩
 ·clear hs
  rintro E w ⟨_,rfl,gg3,hE0,hds,hlegg3,hs⟩
  have hM:=hKhx2
  dsimp only [onStep] at hM
  obtain ⟨E,rfl⟩:=open1 (E:=E) hE0
  replace hagi:=hagi.trans hlegg3
  refine WP_region<|O (r_move (v:=Value.pointer (some ⟨b1,0,none⟩)) rfl) rfl<|O (r_nilCheck rfl) rfl<|O (r_fieldAddr Tryz.underlying110 ti3 rfl rfl (by decide) rfl rfl) rfl<|O (r_load (v:=Value.int .i64 p1.atv) ti3 rfl (hs.cell (i:=0) (o:=1) rfl rfl)) rfl ?_
  obtain ⟨t1,ht1,hM⟩:=bindS hM
  refine O (r_addM rfl rfl ht1) rfl<|O (r_nilCheck rfl) rfl<|O (r_fieldAddr Tryz.underlying110 ti3 rfl rfl (by decide) rfl rfl) rfl<|OW_store1 ti3 hs (i:=0) rfl rfl (v:=Value.int .i64 t1) rfl rfl (o:=1) (by simp) ?_
  intro wv5 hs
  refine OW_nil ?_
  obtain rfl:=Option.some.inj hM
  refine FL_nil hds ?_
  exact ⟨_,res_none Tryz.results135,gg3,trivial,hagi,hs⟩
set_option maxRecDepth 100000 in
theorem regex_alphanumeric_ok {b1:Int} {r:Bool} (hM:M.regex_alphanumeric b1=some r) {g0:Hp} {w0:World} (hi:Imm g0 w0) :
    CallsV Tryz.prog 167 #[Value.int .u8 b1] w0 (fun v w'=>∃g',(VRd tBool false g' v r)∧Ext g0 w0 g' w'):=by
 unfold M.regex_alphanumeric at hM
 have hs:=Sep.start hi
 refine calls_of_WP (args:=[Value.int .u8 b1]) Tryz.func167 rfl Tryz.ntmps167 rfl ?_
 have hds:(argEnv [Value.int .u8 b1]).ds=[]:=rfl
 refine WP_seq<|WP_region<|O (r_assign (v:=Value.bool false) rfl) rfl<|OW_nil ?_
 obtain ⟨xv1,hx1,hKhx1⟩:=bindS hM
 refine WP_cut (fun E w=>E 2=Value.bool xv1∧E.ds=[]∧Go.Lx.Sep g0 w0 g0 w []) ?_ ?_
 ·have hM:=hx1
  have hag0:=Hle.refl g0
  refine WP_region<|O (r_move (v:=Value.int .u8 b1) rfl) rfl<|O (r_geq rfl rfl) rfl<|O (r_move (v:=Value.bool (decide (48≤b1))) rfl) rfl ?_
  rcases condS hM with ⟨hg11,hM⟩|⟨hg11,hM⟩
  ·refine OG rfl rfl rfl (by rw [hg11]; rfl) (r_move (v:=Value.int .u8 b1) rfl) rfl<|OG rfl rfl rfl (by rw [hg11]; rfl) (r_leq rfl rfl) rfl<|O (r_pickT (v:=Value.bool (decide (b1≤57))) rfl hg11 rfl) rfl<|O (r_move (v:=Value.bool (decide (b1≤57))) rfl) rfl ?_
   rcases condS hM with ⟨hg12,hM⟩|⟨hg12,hM⟩
   ·refine OK rfl rfl rfl (by rw [hg12]; rfl) rfl<|OK rfl rfl rfl (by rw [hg12]; rfl) rfl<|OK rfl rfl rfl (by rw [hg12]; rfl) rfl<|OKU rfl rfl rfl rfl<|OKU rfl rfl rfl rfl<|OK rfl rfl rfl (by rw [hg12]; rfl) rfl<|O (r_pickT (v:=Value.bool true) rfl hg12 rfl) rfl<|O (r_move (v:=Value.bool true) rfl) rfl<|OK rfl rfl rfl rfl rfl<|OK rfl rfl rfl rfl rfl<|OK rfl rfl rfl rfl rfl<|OKU rfl rfl rfl rfl<|OKU rfl rfl rfl rfl<|OK rfl rfl rfl rfl rfl<|O (r_pickT (v:=Value.bool true) rfl rfl rfl) rfl<|O (r_assign (v:=Value.bool true) rfl) rfl<|OW_nil ?_
    obtain rfl:=Option.some.inj hM
    exact ⟨rfl,hds,hs⟩
   ·refine OG rfl rfl rfl (by rw [hg12]; rfl) (r_move (v:=Value.int .u8 b1) rfl) rfl<|OG rfl rfl rfl (by rw [hg12]; rfl) (r_geq rfl rfl) rfl<|OG rfl rfl rfl (by rw [hg12]; rfl) (r_move (v:=Value.bool (decide (97≤b1))) rfl) rfl ?_
    rcases condS hM with ⟨hg13,hM⟩|⟨hg13,hM⟩
    ·refine OG rfl rfl rfl (by rw [hg13]; rfl) (r_move (v:=Value.int .u8 b1) rfl) rfl<|OG rfl rfl rfl (by rw [hg13]; rfl) (r_leq rfl rfl) rfl<|OG rfl rfl rfl (by rw [hg12]; rfl) (r_pickT (v:=Value.bool (decide (b1≤122))) rfl hg13 rfl) rfl<|O (r_pickF (v:=Value.bool (decide (b1≤122))) rfl hg12 rfl) rfl<|O (r_move (v:=Value.bool (decide (b1≤122))) rfl) rfl ?_
     rcases condS hM with ⟨hg14,hM⟩|⟨hg14,hM⟩
     ·refine OK rfl rfl rfl (by rw [hg14]; rfl) rfl<|OK rfl rfl rfl (by rw [hg14]; rfl) rfl<|OK rfl rfl rfl (by rw [hg14]; rfl) rfl<|OKU rfl rfl rfl rfl<|OKU rfl rfl rfl rfl<|OK rfl rfl rfl (by rw [hg14]; rfl) rfl<|O (r_pickT (v:=Value.bool true) rfl hg14 rfl) rfl<|O (r_assign (v:=Value.bool true) rfl) rfl<|OW_nil ?_
      obtain rfl:=Option.some.inj hM
      exact ⟨rfl,hds,hs⟩
     ·refine OG rfl rfl rfl (by rw [hg14]; rfl) (r_move (v:=Value.int .u8 b1) rfl) rfl<|OG rfl rfl rfl (by rw [hg14]; rfl) (r_geq rfl rfl) rfl<|OG rfl rfl rfl (by rw [hg14]; rfl) (r_move (v:=Value.bool (decide (65≤b1))) rfl) rfl ?_
      rcases condS hM with ⟨hg15,hM⟩|⟨hg15,hM⟩
      ·refine OG rfl rfl rfl (by rw [hg15]; rfl) (r_move (v:=Value.int .u8 b1) rfl) rfl<|OG rfl rfl rfl (by rw [hg15]; rfl) (r_leq rfl rfl) rfl<|OG rfl rfl rfl (by rw [hg14]; rfl) (r_pickT (v:=Value.bool (decide (b1≤90))) rfl hg15 rfl) rfl<|O (r_pickF (v:=Value.bool (decide (b1≤90))) rfl hg14 rfl) rfl<|O (r_assign (v:=Value.bool (decide (b1≤90))) rfl) rfl<|OW_nil ?_
       obtain rfl:=Option.some.inj hM
       exact ⟨rfl,hds,hs⟩
      ·refine OK rfl rfl rfl (by rw [hg15]; rfl) rfl<|OK rfl rfl rfl (by rw [hg15]; rfl) rfl<|OG rfl rfl rfl (by rw [hg14]; rfl) (r_pickF (v:=Value.bool false) rfl hg15 rfl) rfl<|O (r_pickF (v:=Value.bool false) rfl hg14 rfl) rfl<|O (r_assign (v:=Value.bool false) rfl) rfl<|OW_nil ?_
       obtain rfl:=Option.some.inj hM
       exact ⟨rfl,hds,hs⟩
    ·refine OK rfl rfl rfl (by rw [hg13]; rfl) rfl<|OK rfl rfl rfl (by rw [hg13]; rfl) rfl<|OG rfl rfl rfl (by rw [hg12]; rfl) (r_pickF (v:=Value.bool false) rfl hg13 rfl) rfl<|O (r_pickF (v:=Value.bool false) rfl hg12 rfl) rfl<|O (r_move (v:=Value.bool false) rfl) rfl<|OG rfl rfl rfl rfl (r_move (v:=Value.int .u8 b1) rfl) rfl<|OG rfl rfl rfl rfl (r_geq rfl rfl) rfl<|OG rfl rfl rfl rfl (r_move (v:=Value.bool (decide (65≤b1))) rfl) rfl ?_
     rcases condS hM with ⟨hg16,hM⟩|⟨hg16,hM⟩
     ·refine OG rfl rfl rfl (by rw [hg16]; rfl) (r_move (v:=Value.int .u8 b1) rfl) rfl<|OG rfl rfl rfl (by rw [hg16]; rfl) (r_leq rfl rfl) rfl<|OG rfl rfl rfl rfl (r_pickT (v:=Value.bool (decide (b1≤90))) rfl hg16 rfl) rfl<|O (r_pickF (v:=Value.bool (decide (b1≤90))) rfl rfl rfl) rfl<|O (r_assign (v:=Value.bool (decide (b1≤90))) rfl) rfl<|OW_nil ?_
      obtain rfl:=Option.some.inj hM
      exact ⟨rfl,hds,hs⟩
     ·refine OK rfl rfl rfl (by rw [hg16]; rfl) rfl<|OK rfl rfl rfl (by rw [hg16]; rfl) rfl<|OG rfl rfl rfl rfl (r_pickF (v:=Value.bool false) rfl hg16 rfl) rfl<|O (r_pickF (v:=Value.bool false) rfl rfl rfl) rfl<|O (r_assign (v:=Value.bool false) rfl) rfl<|OW_nil ?_
      obtain rfl:=Option.some.inj hM
      exact ⟨rfl,hds,hs⟩
  ·refine OK rfl rfl rfl (by rw [hg11]; rfl) rfl<|OK rfl rfl rfl (by rw [hg11]; rfl) rfl<|O (r_pickF (v:=Value.bool false) rfl hg11 rfl) rfl<|O (r_move (v:=Value.bool false) rfl) rfl<|OG rfl rfl rfl rfl (r_move (v:=Value.int .u8 b1) rfl) rfl<|OG rfl rfl rfl rfl (r_geq rfl rfl) rfl<|OG rfl rfl rfl rfl (r_move (v:=Value.bool (decide (97≤b1))) rfl) rfl ?_
   rcases condS hM with ⟨hg17,hM⟩|⟨hg17,hM⟩
   ·refine OG rfl rfl rfl (by rw [hg17]; rfl) (r_move (v:=Value.int .u8 b1) rfl) rfl<|OG rfl rfl rfl (by rw [hg17]; rfl) (r_leq rfl rfl) rfl<|OG rfl rfl rfl rfl (r_pickT (v:=Value.bool (decide (b1≤122))) rfl hg17 rfl) rfl<|O (r_pickF (v:=Value.bool (decide (b1≤122))) rfl rfl rfl) rfl<|O (r_move (v:=Value.bool (decide (b1≤122))) rfl) rfl ?_
    rcases condS hM with ⟨hg18,hM⟩|⟨hg18,hM⟩
    ·refine OK rfl rfl rfl (by rw [hg18]; rfl) rfl<|OK rfl rfl rfl (by rw [hg18]; rfl) rfl<|OK rfl rfl rfl (by rw [hg18]; rfl) rfl<|OKU rfl rfl rfl rfl<|OKU rfl rfl rfl rfl<|OK rfl rfl rfl (by rw [hg18]; rfl) rfl<|O (r_pickT (v:=Value.bool true) rfl hg18 rfl) rfl<|O (r_assign (v:=Value.bool true) rfl) rfl<|OW_nil ?_
     obtain rfl:=Option.some.inj hM
     exact ⟨rfl,hds,hs⟩
    ·refine OG rfl rfl rfl (by rw [hg18]; rfl) (r_move (v:=Value.int .u8 b1) rfl) rfl<|OG rfl rfl rfl (by rw [hg18]; rfl) (r_geq rfl rfl) rfl<|OG rfl rfl rfl (by rw [hg18]; rfl) (r_move (v:=Value.bool (decide (65≤b1))) rfl) rfl ?_
     rcases condS hM with ⟨hg19,hM⟩|⟨hg19,hM⟩
     ·refine OG rfl rfl rfl (by rw [hg19]; rfl) (r_move (v:=Value.int .u8 b1) rfl) rfl<|OG rfl rfl rfl (by rw [hg19]; rfl) (r_leq rfl rfl) rfl<|OG rfl rfl rfl (by rw [hg18]; rfl) (r_pickT (v:=Value.bool (decide (b1≤90))) rfl hg19 rfl) rfl<|O (r_pickF (v:=Value.bool (decide (b1≤90))) rfl hg18 rfl) rfl<|O (r_assign (v:=Value.bool (decide (b1≤90))) rfl) rfl<|OW_nil ?_
      obtain rfl:=Option.some.inj hM
      exact ⟨rfl,hds,hs⟩
     ·refine OK rfl rfl rfl (by rw [hg19]; rfl) rfl<|OK rfl rfl rfl (by rw [hg19]; rfl) rfl<|OG rfl rfl rfl (by rw [hg18]; rfl) (r_pickF (v:=Value.bool false) rfl hg19 rfl) rfl<|O (r_pickF (v:=Value.bool false) rfl hg18 rfl) rfl<|O (r_assign (v:=Value.bool false) rfl) rfl<|OW_nil ?_
      obtain rfl:=Option.some.inj hM
      exact ⟨rfl,hds,hs⟩
   ·refine OK rfl rfl rfl (by rw [hg17]; rfl) rfl<|OK rfl rfl rfl (by rw [hg17]; rfl) rfl<|OG rfl rfl rfl rfl (r_pickF (v:=Value.bool false) rfl hg17 rfl) rfl<|O (r_pickF (v:=Value.bool false) rfl rfl rfl) rfl<|O (r_move (v:=Value.bool false) rfl) rfl<|OG rfl rfl rfl rfl (r_move (v:=Value.int .u8 b1) rfl) rfl<|OG rfl rfl rfl rfl (r_geq rfl rfl) rfl<|OG rfl rfl rfl rfl (r_move (v:=Value.bool (decide (65≤b1))) rfl) rfl ?_
    rcases condS hM with ⟨hg20,hM⟩|⟨hg20,hM⟩
    ·refine OG rfl rfl rfl (by rw [hg20]; rfl) (r_move (v:=Value.int .u8 b1) rfl) rfl<|OG rfl rfl rfl (by rw [hg20]; rfl) (r_leq rfl rfl) rfl<|OG rfl rfl rfl rfl (r_pickT (v:=Value.bool (decide (b1≤90))) rfl hg20 rfl) rfl<|O (r_pickF (v:=Value.bool (decide (b1≤90))) rfl rfl rfl) rfl<|O (r_assign (v:=Value.bool (decide (b1≤90))) rfl) rfl<|OW_nil ?_
     obtain rfl:=Option.some.inj hM
     exact ⟨rfl,hds,hs⟩
    ·refine OK rfl rfl rfl (by rw [hg20]; rfl) rfl<|OK rfl rfl rfl (by rw [hg20]; rfl) rfl<|OG rfl rfl rfl rfl (r_pickF (v:=Value.bool false) rfl hg20 rfl) rfl<|O (r_pickF (v:=Value.bool false) rfl rfl rfl) rfl<|O (r_assign (v:=Value.bool false) rfl) rfl<|OW_nil ?_
     obtain rfl:=Option.some.inj hM
     exact ⟨rfl,hds,hs⟩
 ·clear hs
  rintro E w ⟨hE2,hds,hs⟩
  have hM:=hKhx1
  obtain ⟨E,rfl⟩:=open1 (E:=E) hE2
  refine WP_ret ?_
  obtain rfl:=Option.some.inj hM
  refine FL_nil hds ?_
  exact ⟨_,res1 Tryz.results167 (rv_tmp (v:=Value.bool xv1) rfl),g0,⟨[Value.bool xv1],rfl,rfl⟩,hs.ext⟩
set_option maxRecDepth 100000 in
theorem regex_reader_escape_ok {p1:T_regex_reader} {r:Rt (Int×T_regex_reader)} (hM:M.regex_reader_escape p1=some r) {g0:Hp} {w0:World} {gi:Hp} {wi:World} {Lt:List Res} {b1:Nat} (hs:Sep g0 w0 gi wi (Go.Lx.box b1 110 ([encS p1.s,Value.int .i64 p1.atv])::Lt)) :
    CallsX Tryz.prog 159 #[Value.pointer (some ⟨b1,0,none⟩)] wi 107 r (fun r v w'=>∃g',(VRd (tInt .u8) false g' v r.1)∧Hle gi g'∧Sep g0 w0 g' w' (Go.Lx.box b1 110 ([encS r.2.s,Value.int .i64 r.2.atv])::Lt)) (fun w'=>∃g',Hle gi g'∧Sep g0 w0 g' w' Lt):=by
 unfold M.regex_reader_escape at hM
 have hagi:=Hle.refl gi
 refine calls_of_WPX (args:=[Value.pointer (some ⟨b1,0,none⟩)]) Tryz.func159 rfl Tryz.ntmps159 rfl ?_
 have hds:(argEnv [Value.pointer (some ⟨b1,0,none⟩)]).ds=[]:=rfl
 refine WP_seq<|WP_region<|O (r_assign (v:=Value.int .u8 0) rfl) rfl<|OW_nil ?_
 obtain ⟨o1,hx1,hKhx1⟩:=stepS hM
 refine WP_cut (fun E w=>∃u9:Unit,o1=.next u9∧∃(gg3:Hp),E 0=Value.pointer (some ⟨b1,0,none⟩)∧E.ds=[]∧Hle gi gg3∧Go.Lx.Sep g0 w0 gg3 w (Go.Lx.box b1 110 ([encS p1.s,Value.int .i64 p1.atv])::Lt)) ?_ ?_
 ·have hM:=hx1
  refine WP_seq<|WP_draw mo (by decide +kernel) ?_
  have hs:=hs.drew
  refine S (r_move (v:=Value.pointer (some ⟨b1,0,none⟩)) rfl) rfl<|S (r_nilCheck rfl) rfl<|S (r_fieldAddr Tryz.underlying110 ti3 rfl rfl (by decide) rfl rfl) rfl<|S (r_load (v:=Value.int .i64 p1.atv) ti3 rfl (hs.cell (i:=0) (o:=1) rfl rfl)) rfl<|S (r_move (v:=Value.pointer (some ⟨b1,0,none⟩)) rfl) rfl<|S (r_nilCheck rfl) rfl<|S (r_fieldAddr Tryz.underlying110 ti9 rfl rfl (by decide) rfl rfl) rfl<|S (r_load (v:=encS p1.s) ti9 rfl (hs.cell (i:=0) (o:=0) rfl rfl)) rfl<|S (r_lenStr Tryz.underlying9 rfl) rfl<|S (r_eql rfl rfl) rfl<|SW_nil ?_
  rcases condS hM with ⟨hc2,hM⟩|⟨hc2,hM⟩
  ·refine WP_true rfl hc2<|WP_region<|O (r_move (v:=Value.pointer (some ⟨b1,0,none⟩)) rfl) rfl ?_
   rcases rtS hM with ⟨rv2,hrv2,hM⟩|⟨px2,hpx2,hM⟩
   ·refine C [Value.pointer (some ⟨b1,0,none⟩)] cf62 rfl (regex_reader_fail_ok hrv2 hs) rfl ?_
    rintro v2 wv4 ⟨gg5,hvv2,hlegg5,hs⟩
    replace hagi:=hagi.trans hlegg5
    refine OW_nil ?_
    obtain rfl:=Option.some.inj hM
    exact ⟨(),rfl,gg5,rfl,hds,hagi,hs⟩
   ·refine CN [Value.pointer (some ⟨b1,0,none⟩)] cf62 rfl (regex_reader_fail_ok hpx2 hs) ?_
    rintro wv3 ⟨gg4,hlegg4,hs⟩
    replace hagi:=hagi.trans hlegg4
    obtain rfl:=Option.some.inj hM
    have hM:=hKhx1
    obtain rfl:=Option.some.inj hM
    exact ⟨rfl,hds,gg4,hagi,Sep.tail (A:=[]) (L:=Lt) hs⟩
  ·refine WP_false rfl hc2<|WP_skip ?_
   obtain rfl:=Option.some.inj hM
   exact ⟨(),rfl,gi,rfl,hds,(Hle.refl _),hs⟩
 ·clear hs
  rintro E w ⟨_,rfl,gg3,hE0,hds,hlegg3,hs⟩
  have hM:=hKhx1
  dsimp only [onStep] at hM
  obtain ⟨E,rfl⟩:=open1 (E:=E) hE0
  replace hagi:=hagi.trans hlegg3
  refine WP_seq<|WP_draw mo (by decide +kernel) ?_
  have hs:=hs.drew
  refine S (r_move (v:=Value.pointer (some ⟨b1,0,none⟩)) rfl) rfl<|S (r_nilCheck rfl) rfl<|S (r_fieldAddr Tryz.underlying110 ti9 rfl rfl (by decide) rfl rfl) rfl<|S (r_load (v:=encS p1.s) ti9 rfl (hs.cell (i:=0) (o:=0) rfl rfl)) rfl<|S (r_move (v:=Value.pointer (some ⟨b1,0,none⟩)) rfl) rfl<|S (r_nilCheck rfl) rfl<|S (r_fieldAddr Tryz.underlying110 ti3 rfl rfl (by decide) rfl rfl) rfl<|S (r_load (v:=Value.int .i64 p1.atv) ti3 rfl (hs.cell (i:=0) (o:=1) rfl rfl)) rfl ?_
  obtain ⟨c1,hc1,hM⟩:=bindS hM
  refine S (r_idxStr Tryz.underlying9 rfl rfl hc1) rfl<|S (r_assign (v:=Value.int .u8 c1) rfl) rfl<|SW_nil ?_
  obtain ⟨o2,hx3,hKhx3⟩:=stepS hM
  refine WP_cut (fun E w=>∃(b2:Int),o2=.next b2∧∃(gg11:Hp),E 0=Value.pointer (some ⟨b1,0,none⟩)∧E 3=Value.int .u8 b2∧E.ds=[]∧Hle gg3 gg11∧Go.Lx.Sep g0 w0 gg11 w (Go.Lx.box b1 110 ([encS p1.s,Value.int .i64 p1.atv])::Lt)) ?_ ?_
  ·have hM:=hx3
   have hagg3:=Hle.refl gg3
   refine WP_block<|WP_seq<|WP_region<|O (r_move (v:=Value.int .u8 c1) rfl) rfl<|O (r_eql rfl rfl) rfl<|O (r_assign (v:=Value.bool (c1 == 110)) rfl) rfl<|OW_nil ?_
   rcases condS hM with ⟨hc6,hM⟩|⟨hc6,hM⟩
   ·refine WP_true rfl hc6<|WP_region<|O (r_assign (v:=Value.int .u8 10) rfl) rfl<|OW_nil ?_
    obtain rfl:=Option.some.inj hM
    exact ⟨(10:Int),rfl,gg3,rfl,rfl,hds,(Hle.refl _),hs⟩
   ·refine WP_false rfl hc6<|WP_seq<|WP_region<|O (r_move (v:=Value.int .u8 c1) rfl) rfl<|O (r_eql rfl rfl) rfl<|O (r_assign (v:=Value.bool (c1 == 116)) rfl) rfl<|OW_nil ?_
    rcases condS hM with ⟨hc7,hM⟩|⟨hc7,hM⟩
    ·refine WP_true rfl hc7<|WP_region<|O (r_assign (v:=Value.int .u8 9) rfl) rfl<|OW_nil ?_
     obtain rfl:=Option.some.inj hM
     exact ⟨(9:Int),rfl,gg3,rfl,rfl,hds,(Hle.refl _),hs⟩
    ·refine WP_false rfl hc7 ?_
     obtain ⟨xv2,hx4,hKhx4⟩:=bindS hM
     refine WP_cut (fun E w=>∃(gg13:Hp),E 0=Value.pointer (some ⟨b1,0,none⟩)∧E 3=Value.int .u8 c1∧E 31=Value.bool xv2∧E.ds=[]∧Hle gg3 gg13∧Go.Lx.Sep g0 w0 gg13 w (Go.Lx.box b1 110 ([encS p1.s,Value.int .i64 p1.atv])::Lt)) ?_ ?_
     ·have hM:=hx4
      refine WP_region<|O (r_move (v:=Value.int .u8 c1) rfl) rfl<|O (r_lss rfl rfl) rfl<|O (r_move (v:=Value.bool (decide (c1<32))) rfl) rfl ?_
      rcases condS hM with ⟨hg7,hM⟩|⟨hg7,hM⟩
      ·refine OK rfl rfl rfl (by rw [hg7]; rfl) rfl<|OK rfl rfl rfl (by rw [hg7]; rfl) rfl<|O (r_pickT (v:=Value.bool true) rfl hg7 rfl) rfl<|O (r_move (v:=Value.bool true) rfl) rfl<|OK rfl rfl rfl rfl rfl<|OK rfl rfl rfl rfl rfl<|O (r_pickT (v:=Value.bool true) rfl rfl rfl) rfl<|O (r_assign (v:=Value.bool true) rfl) rfl<|OW_nil ?_
       obtain rfl:=Option.some.inj hM
       exact ⟨gg3,rfl,rfl,rfl,hds,(Hle.refl _),hs⟩
      ·refine OG rfl rfl rfl (by rw [hg7]; rfl) (r_move (v:=Value.int .u8 c1) rfl) rfl<|OG rfl rfl rfl (by rw [hg7]; rfl) (r_gtr rfl rfl) rfl<|O (r_pickF (v:=Value.bool (decide (126<c1))) rfl hg7 rfl) rfl<|O (r_move (v:=Value.bool (decide (126<c1))) rfl) rfl ?_
       rcases condS hM with ⟨hg8,hM⟩|⟨hg8,hM⟩
       ·refine OK rfl rfl rfl (by rw [hg8]; rfl) rfl<|OK rfl rfl rfl (by rw [hg8]; rfl) rfl<|O (r_pickT (v:=Value.bool true) rfl hg8 rfl) rfl<|O (r_assign (v:=Value.bool true) rfl) rfl<|OW_nil ?_
        obtain rfl:=Option.some.inj hM
        exact ⟨gg3,rfl,rfl,rfl,hds,(Hle.refl _),hs⟩
       ·refine OG rfl rfl rfl (by rw [hg8]; rfl) (r_move (v:=Value.int .u8 c1) rfl) rfl ?_
        obtain ⟨rv7,hrv7,hM⟩:=bindS hM
        refine CG rfl rfl rfl (by rw [hg8]; rfl) [Value.int .u8 c1] cf167 rfl (regex_alphanumeric_ok hrv7 hs.imm) rfl ?_
        rintro v7 wv10 ⟨gg14,hvv7,hegg14⟩
        have hlegg14:=hegg14.le hs.imm
        replace hs:=hs.call hegg14
        replace hagg3:=hagg3.trans hlegg14
        obtain ⟨cs4,rfl,hcs4⟩:=hvv7
        have hcs4:cs4=_:=hcs4; subst hcs4
        refine O (r_pickF (v:=Value.bool rv7) rfl hg8 rfl) rfl<|O (r_assign (v:=Value.bool rv7) rfl) rfl<|OW_nil ?_
        obtain rfl:=Option.some.inj hM
        exact ⟨gg14,rfl,rfl,rfl,hds,hagg3,hs⟩
     ·clear hs
      rintro E w ⟨gg13,hE0,hE3,hE31,hds,hlegg13,hs⟩
      have hM:=hKhx4
      obtain ⟨E,rfl⟩:=open3 (E:=E) hE0 hE3 hE31
      replace hagi:=hagi.trans hlegg13
      replace hagg3:=hagg3.trans hlegg13
      rcases condS hM with ⟨hc8,hM⟩|⟨hc8,hM⟩
      ·refine WP_true rfl hc8<|WP_region<|O (r_move (v:=Value.pointer (some ⟨b1,0,none⟩)) rfl) rfl ?_
       rcases rtS hM with ⟨rv8,hrv8,hM⟩|⟨px4,hpx4,hM⟩
       ·refine C [Value.pointer (some ⟨b1,0,none⟩)] cf62 rfl (regex_reader_fail_ok hrv8 hs) rfl ?_
        rintro v8 wv12 ⟨gg16,hvv8,hlegg16,hs⟩
        replace hagg3:=hagg3.trans hlegg16
        refine OW_nil ?_
        obtain rfl:=Option.some.inj hM
        exact ⟨c1,rfl,gg16,rfl,rfl,hds,hagg3,hs⟩
       ·refine CN [Value.pointer (some ⟨b1,0,none⟩)] cf62 rfl (regex_reader_fail_ok hpx4 hs) ?_
        rintro wv11 ⟨gg15,hlegg15,hs⟩
        replace hagi:=hagi.trans hlegg15
        obtain rfl:=Option.some.inj hM
        have hM:=hKhx3
        obtain rfl:=Option.some.inj hM
        exact ⟨rfl,hds,gg15,hagi,Sep.tail (A:=[]) (L:=Lt) hs⟩
      ·refine WP_false rfl hc8<|WP_skip ?_
       obtain rfl:=Option.some.inj hM
       exact ⟨c1,rfl,gg13,rfl,rfl,hds,hagg3,hs⟩
  ·clear hs
   rintro E w ⟨b2,rfl,gg11,hE0,hE3,hds,hlegg11,hs⟩
   have hM:=hKhx3
   dsimp only [onStep] at hM
   obtain ⟨E,rfl⟩:=open2 (E:=E) hE0 hE3
   replace hagi:=hagi.trans hlegg11
   refine WP_seq<|WP_region<|O (r_move (v:=Value.pointer (some ⟨b1,0,none⟩)) rfl) rfl<|O (r_nilCheck rfl) rfl<|O (r_fieldAddr Tryz.underlying110 ti3 rfl rfl (by decide) rfl rfl) rfl<|O (r_load (v:=Value.int .i64 p1.atv) ti3 rfl (hs.cell (i:=0) (o:=1) rfl rfl)) rfl ?_
   obtain ⟨t1,ht1,hM⟩:=bindS hM
   refine O (r_addM rfl rfl ht1) rfl<|O (r_nilCheck rfl) rfl<|O (r_fieldAddr Tryz.underlying110 ti3 rfl rfl (by decide) rfl rfl) rfl<|OW_store1 ti3 hs (i:=0) rfl rfl (v:=Value.int .i64 t1) rfl rfl (o:=1) (by simp) ?_
   intro wv13 hs
   refine OW_nil<|WP_seq<|WP_region<|O (r_move (v:=Value.int .u8 b2) rfl) rfl<|O (r_assign (v:=Value.int .u8 b2) rfl) rfl<|OW_nil<|WP_ret ?_
   obtain rfl:=Option.some.inj hM
   refine FL_nil hds ?_
   exact ⟨_,res1 Tryz.results159 (rv_tmp (v:=Value.int .u8 b2) rfl),gg11,⟨[Value.int .u8 b2],rfl,rfl⟩,hagi,hs⟩
theorem strings_IndexByte_ok {s1:Str} {c1:Int} {r:Int} (hM:M.strings_IndexByte s1 c1=some r) {g0:Hp} {w0:World} (hi:Imm g0 w0) :
    CallsV Tryz.prog 160 #[encS s1,.int .u8 c1] w0 (fun v w'=>∃g',(VRd (tInt .i64) false g' v r)∧Ext g0 w0 g' w'):=by
  obtain rfl:=Option.some.inj hM
  refine (Tryz.strings_IndexByte ⟨s1.toArray⟩ c1 w0).mono ?_
  rintro e w' ⟨rfl,rfl⟩
  exact ⟨_,rfl,g0,⟨_,rfl,rfl⟩,Ext.refl hi⟩
set_option maxRecDepth 100000 in
theorem regex_reader_char_ok {p1:T_regex_reader} {not1:Str} {r:Rt (Int×T_regex_reader)} (hM:M.regex_reader_char p1 not1=some r) {g0:Hp} {w0:World} {gi:Hp} {wi:World} {Lt:List Res} {b1:Nat} (hs:Sep g0 w0 gi wi (Go.Lx.box b1 110 ([encS p1.s,Value.int .i64 p1.atv])::Lt)) :
    CallsX Tryz.prog 138 #[Value.pointer (some ⟨b1,0,none⟩),encS not1] wi 107 r (fun r v w'=>∃g',(VRd (tInt .u8) false g' v r.1)∧Hle gi g'∧Sep g0 w0 g' w' (Go.Lx.box b1 110 ([encS r.2.s,Value.int .i64 r.2.atv])::Lt)) (fun w'=>∃g',Hle gi g'∧Sep g0 w0 g' w' Lt):=by
 unfold M.regex_reader_char at hM
 have hagi:=Hle.refl gi
 refine calls_of_WPX (args:=[Value.pointer (some ⟨b1,0,none⟩),encS not1]) Tryz.func138 rfl Tryz.ntmps138 rfl ?_
 have hds:(argEnv [Value.pointer (some ⟨b1,0,none⟩),encS not1]).ds=[]:=rfl
 refine WP_seq<|WP_region<|O (r_assign (v:=Value.int .u8 0) rfl) rfl<|OW_nil ?_
 obtain ⟨o1,hx1,hKhx1⟩:=stepS hM
 refine WP_cut (fun E w=>∃u9:Unit,o1=.next u9∧∃(gg3:Hp),E 0=Value.pointer (some ⟨b1,0,none⟩)∧E 1=encS not1∧E.ds=[]∧Hle gi gg3∧Go.Lx.Sep g0 w0 gg3 w (Go.Lx.box b1 110 ([encS p1.s,Value.int .i64 p1.atv])::Lt)) ?_ ?_
 ·have hM:=hx1
  refine WP_seq<|WP_draw mo (by decide +kernel) ?_
  have hs:=hs.drew
  refine S (r_move (v:=Value.pointer (some ⟨b1,0,none⟩)) rfl) rfl<|S (r_nilCheck rfl) rfl<|S (r_fieldAddr Tryz.underlying110 ti3 rfl rfl (by decide) rfl rfl) rfl<|S (r_load (v:=Value.int .i64 p1.atv) ti3 rfl (hs.cell (i:=0) (o:=1) rfl rfl)) rfl<|S (r_move (v:=Value.pointer (some ⟨b1,0,none⟩)) rfl) rfl<|S (r_nilCheck rfl) rfl<|S (r_fieldAddr Tryz.underlying110 ti9 rfl rfl (by decide) rfl rfl) rfl<|S (r_load (v:=encS p1.s) ti9 rfl (hs.cell (i:=0) (o:=0) rfl rfl)) rfl<|S (r_lenStr Tryz.underlying9 rfl) rfl<|S (r_eql rfl rfl) rfl<|SW_nil ?_
  rcases condS hM with ⟨hc2,hM⟩|⟨hc2,hM⟩
  ·refine WP_true rfl hc2<|WP_region<|O (r_move (v:=Value.pointer (some ⟨b1,0,none⟩)) rfl) rfl ?_
   rcases rtS hM with ⟨rv2,hrv2,hM⟩|⟨px2,hpx2,hM⟩
   ·refine C [Value.pointer (some ⟨b1,0,none⟩)] cf62 rfl (regex_reader_fail_ok hrv2 hs) rfl ?_
    rintro v2 wv4 ⟨gg5,hvv2,hlegg5,hs⟩
    replace hagi:=hagi.trans hlegg5
    refine OW_nil ?_
    obtain rfl:=Option.some.inj hM
    exact ⟨(),rfl,gg5,rfl,rfl,hds,hagi,hs⟩
   ·refine CN [Value.pointer (some ⟨b1,0,none⟩)] cf62 rfl (regex_reader_fail_ok hpx2 hs) ?_
    rintro wv3 ⟨gg4,hlegg4,hs⟩
    replace hagi:=hagi.trans hlegg4
    obtain rfl:=Option.some.inj hM
    have hM:=hKhx1
    obtain rfl:=Option.some.inj hM
    exact ⟨rfl,hds,gg4,hagi,Sep.tail (A:=[]) (L:=Lt) hs⟩
  ·refine WP_false rfl hc2<|WP_skip ?_
   obtain rfl:=Option.some.inj hM
   exact ⟨(),rfl,gi,rfl,rfl,hds,(Hle.refl _),hs⟩
 ·clear hs
  rintro E w ⟨_,rfl,gg3,hE0,hE1,hds,hlegg3,hs⟩
  have hM:=hKhx1
  dsimp only [onStep] at hM
  obtain ⟨E,rfl⟩:=open2 (E:=E) hE0 hE1
  replace hagi:=hagi.trans hlegg3
  refine WP_seq<|WP_draw mo (by decide +kernel) ?_
  have hs:=hs.drew
  refine S (r_move (v:=Value.pointer (some ⟨b1,0,none⟩)) rfl) rfl<|S (r_nilCheck rfl) rfl<|S (r_fieldAddr Tryz.underlying110 ti9 rfl rfl (by decide) rfl rfl) rfl<|S (r_load (v:=encS p1.s) ti9 rfl (hs.cell (i:=0) (o:=0) rfl rfl)) rfl<|S (r_move (v:=Value.pointer (some ⟨b1,0,none⟩)) rfl) rfl<|S (r_nilCheck rfl) rfl<|S (r_fieldAddr Tryz.underlying110 ti3 rfl rfl (by decide) rfl rfl) rfl<|S (r_load (v:=Value.int .i64 p1.atv) ti3 rfl (hs.cell (i:=0) (o:=1) rfl rfl)) rfl ?_
  obtain ⟨c1,hc1,hM⟩:=bindS hM
  refine S (r_idxStr Tryz.underlying9 rfl rfl hc1) rfl<|S (r_assign (v:=Value.int .u8 c1) rfl) rfl<|SW_nil<|WP_seq<|WP_seq<|WP_region<|O (r_move (v:=Value.int .u8 c1) rfl) rfl<|O (r_eql rfl rfl) rfl<|OW_nil ?_
  rcases condS hM with ⟨hc3,hM⟩|⟨hc3,hM⟩
  ·refine WP_true rfl hc3<|WP_seq<|WP_region<|O (r_move (v:=Value.pointer (some ⟨b1,0,none⟩)) rfl) rfl<|O (r_nilCheck rfl) rfl<|O (r_fieldAddr Tryz.underlying110 ti3 rfl rfl (by decide) rfl rfl) rfl<|O (r_load (v:=Value.int .i64 p1.atv) ti3 rfl (hs.cell (i:=0) (o:=1) rfl rfl)) rfl ?_
   obtain ⟨t1,ht1,hM⟩:=bindS hM
   refine O (r_addM rfl rfl ht1) rfl<|O (r_nilCheck rfl) rfl<|O (r_fieldAddr Tryz.underlying110 ti3 rfl rfl (by decide) rfl rfl) rfl<|OW_store1 ti3 hs (i:=0) rfl rfl (v:=Value.int .i64 t1) rfl rfl (o:=1) (by simp) ?_
   intro wv5 hs
   refine OW_nil<|WP_seq<|WP_region<|O (r_move (v:=Value.pointer (some ⟨b1,0,none⟩)) rfl) rfl ?_
   rcases rtS hM with ⟨rv3,hrv3,hM⟩|⟨px3,hpx3,hM⟩
   ·refine C [Value.pointer (some ⟨b1,0,none⟩)] cf159 rfl (regex_reader_escape_ok hrv3 hs) rfl ?_
    rintro v3 wv7 ⟨gg7,hvv3,hlegg7,hs⟩
    replace hagi:=hagi.trans hlegg7
    obtain ⟨cs1,rfl,hcs1⟩:=hvv3
    have hcs1:cs1=_:=hcs1; subst hcs1
    refine O (r_assign (v:=Value.int .u8 rv3.1) rfl) rfl<|OW_nil<|WP_ret ?_
    obtain rfl:=Option.some.inj hM
    refine FL_nil hds ?_
    exact ⟨_,res1 Tryz.results138 (rv_tmp (v:=Value.int .u8 rv3.1) rfl),gg7,⟨[Value.int .u8 rv3.1],rfl,rfl⟩,hagi,hs⟩
   ·refine CN [Value.pointer (some ⟨b1,0,none⟩)] cf159 rfl (regex_reader_escape_ok hpx3 hs) ?_
    rintro wv6 ⟨gg6,hlegg6,hs⟩
    replace hagi:=hagi.trans hlegg6
    obtain rfl:=Option.some.inj hM
    exact ⟨rfl,hds,gg6,hagi,Sep.tail (A:=[]) (L:=Lt) hs⟩
  ·refine WP_false rfl hc3<|WP_skip ?_
   obtain ⟨o2,hx3,hKhx3⟩:=stepS hM
   refine WP_cut (fun E w=>∃u9:Unit,o2=.next u9∧∃(gg13:Hp),E 0=Value.pointer (some ⟨b1,0,none⟩)∧E 5=Value.int .u8 c1∧E.ds=[]∧Hle gg3 gg13∧Go.Lx.Sep g0 w0 gg13 w (Go.Lx.box b1 110 ([encS p1.s,Value.int .i64 p1.atv])::Lt)) ?_ ?_
   ·have hM:=hx3
    have hagg3:=Hle.refl gg3
    obtain ⟨xv2,hx4,hKhx4⟩:=bindS hM
    refine WP_cut (fun E w=>∃(gg15:Hp),E 0=Value.pointer (some ⟨b1,0,none⟩)∧E 5=Value.int .u8 c1∧E 49=Value.bool xv2∧E.ds=[]∧Hle gg3 gg15∧Go.Lx.Sep g0 w0 gg15 w (Go.Lx.box b1 110 ([encS p1.s,Value.int .i64 p1.atv])::Lt)) ?_ ?_
    ·have hM:=hx4
     refine WP_region<|O (r_move (v:=Value.int .u8 c1) rfl) rfl<|O (r_lss rfl rfl) rfl<|O (r_move (v:=Value.bool (decide (c1<32))) rfl) rfl ?_
     rcases condS hM with ⟨hg7,hM⟩|⟨hg7,hM⟩
     ·refine OK rfl rfl rfl (by rw [hg7]; rfl) rfl<|OK rfl rfl rfl (by rw [hg7]; rfl) rfl<|O (r_pickT (v:=Value.bool true) rfl hg7 rfl) rfl<|O (r_move (v:=Value.bool true) rfl) rfl<|OK rfl rfl rfl rfl rfl<|OK rfl rfl rfl rfl rfl<|OK rfl rfl rfl rfl rfl<|OK rfl rfl rfl rfl rfl<|O (r_pickT (v:=Value.bool true) rfl rfl rfl) rfl<|OW_nil ?_
      obtain rfl:=Option.some.inj hM
      exact ⟨gg3,rfl,rfl,rfl,hds,(Hle.refl _),hs⟩
     ·refine OG rfl rfl rfl (by rw [hg7]; rfl) (r_move (v:=Value.int .u8 c1) rfl) rfl<|OG rfl rfl rfl (by rw [hg7]; rfl) (r_gtr rfl rfl) rfl<|O (r_pickF (v:=Value.bool (decide (126<c1))) rfl hg7 rfl) rfl<|O (r_move (v:=Value.bool (decide (126<c1))) rfl) rfl ?_
      rcases condS hM with ⟨hg8,hM⟩|⟨hg8,hM⟩
      ·refine OK rfl rfl rfl (by rw [hg8]; rfl) rfl<|OK rfl rfl rfl (by rw [hg8]; rfl) rfl<|OK rfl rfl rfl (by rw [hg8]; rfl) rfl<|OK rfl rfl rfl (by rw [hg8]; rfl) rfl<|O (r_pickT (v:=Value.bool true) rfl hg8 rfl) rfl<|OW_nil ?_
       obtain rfl:=Option.some.inj hM
       exact ⟨gg3,rfl,rfl,rfl,hds,(Hle.refl _),hs⟩
      ·refine OG rfl rfl rfl (by rw [hg8]; rfl) (r_move (v:=encS not1) rfl) rfl<|OG rfl rfl rfl (by rw [hg8]; rfl) (r_move (v:=Value.int .u8 c1) rfl) rfl ?_
       obtain ⟨rv8,hrv8,hM⟩:=bindS hM
       refine CG rfl rfl rfl (by rw [hg8]; rfl) [encS not1,Value.int .u8 c1] cf160 rfl (strings_IndexByte_ok hrv8 hs.imm) rfl ?_
       rintro v8 wv13 ⟨gg16,hvv8,hegg16⟩
       have hlegg16:=hegg16.le hs.imm
       replace hs:=hs.call hegg16
       replace hagg3:=hagg3.trans hlegg16
       obtain ⟨cs5,rfl,hcs5⟩:=hvv8
       have hcs5:cs5=_:=hcs5; subst hcs5
       refine OG rfl rfl rfl (by rw [hg8]; rfl) (r_geq rfl rfl) rfl<|O (r_pickF (v:=Value.bool (decide (0≤rv8))) rfl hg8 rfl) rfl<|OW_nil ?_
       obtain rfl:=Option.some.inj hM
       exact ⟨gg16,rfl,rfl,rfl,hds,hagg3,hs⟩
    ·clear hs
     rintro E w ⟨gg15,hE0,hE5,hE49,hds,hlegg15,hs⟩
     have hM:=hKhx4
     obtain ⟨E,rfl⟩:=open3 (E:=E) hE0 hE5 hE49
     replace hagi:=hagi.trans hlegg15
     replace hagg3:=hagg3.trans hlegg15
     rcases condS hM with ⟨hc5,hM⟩|⟨hc5,hM⟩
     ·refine WP_true rfl hc5<|WP_region<|O (r_move (v:=Value.pointer (some ⟨b1,0,none⟩)) rfl) rfl ?_
      rcases rtS hM with ⟨rv9,hrv9,hM⟩|⟨px5,hpx5,hM⟩
      ·refine C [Value.pointer (some ⟨b1,0,none⟩)] cf62 rfl (regex_reader_fail_ok hrv9 hs) rfl ?_
       rintro v9 wv15 ⟨gg18,hvv9,hlegg18,hs⟩
       replace hagg3:=hagg3.trans hlegg18
       refine OW_nil ?_
       obtain rfl:=Option.some.inj hM
       exact ⟨(),rfl,gg18,rfl,rfl,hds,hagg3,hs⟩
      ·refine CN [Value.pointer (some ⟨b1,0,none⟩)] cf62 rfl (regex_reader_fail_ok hpx5 hs) ?_
       rintro wv14 ⟨gg17,hlegg17,hs⟩
       replace hagi:=hagi.trans hlegg17
       obtain rfl:=Option.some.inj hM
       have hM:=hKhx3
       obtain rfl:=Option.some.inj hM
       exact ⟨rfl,hds,gg17,hagi,Sep.tail (A:=[]) (L:=Lt) hs⟩
     ·refine WP_false rfl hc5<|WP_skip ?_
      obtain rfl:=Option.some.inj hM
      exact ⟨(),rfl,gg15,rfl,rfl,hds,hagg3,hs⟩
   ·clear hs
    rintro E w ⟨_,rfl,gg13,hE0,hE5,hds,hlegg13,hs⟩
    have hM:=hKhx3
    dsimp only [onStep] at hM
    obtain ⟨E,rfl⟩:=open2 (E:=E) hE0 hE5
    replace hagi:=hagi.trans hlegg13
    refine WP_seq<|WP_region<|O (r_move (v:=Value.pointer (some ⟨b1,0,none⟩)) rfl) rfl<|O (r_nilCheck rfl) rfl<|O (r_fieldAddr Tryz.underlying110 ti3 rfl rfl (by decide) rfl rfl) rfl<|O (r_load (v:=Value.int .i64 p1.atv) ti3 rfl (hs.cell (i:=0) (o:=1) rfl rfl)) rfl ?_
    obtain ⟨t2,ht2,hM⟩:=bindS hM
    refine O (r_addM rfl rfl ht2) rfl<|O (r_nilCheck rfl) rfl<|O (r_fieldAddr Tryz.underlying110 ti3 rfl rfl (by decide) rfl rfl) rfl<|OW_store1 ti3 hs (i:=0) rfl rfl (v:=Value.int .i64 t2) rfl rfl (o:=1) (by simp) ?_
    intro wv16 hs
    refine OW_nil<|WP_seq<|WP_region<|O (r_move (v:=Value.int .u8 c1) rfl) rfl<|O (r_assign (v:=Value.int .u8 c1) rfl) rfl<|OW_nil<|WP_ret ?_
    obtain rfl:=Option.some.inj hM
    refine FL_nil hds ?_
    exact ⟨_,res1 Tryz.results138 (rv_tmp (v:=Value.int .u8 c1) rfl),gg13,⟨[Value.int .u8 c1],rfl,rfl⟩,hagi,hs⟩
set_option maxRecDepth 100000 in
theorem byteset_Range_ok {lo1:Int} {hiv1:Int} {r:(Vec 4)} (hM:M.byteset_Range lo1 hiv1=some r) {g0:Hp} {w0:World} (hi:Imm g0 w0) :
    CallsV Tryz.prog 101 #[Value.int .u8 lo1,Value.int .u8 hiv1] w0 (fun v w'=>∃g',(VRd (tVec 4 .u64) true g' v r)∧Ext g0 w0 g' w'):=by
 unfold M.byteset_Range at hM
 have hs:=Sep.start hi
 refine calls_of_WP (args:=[Value.int .u8 lo1,Value.int .u8 hiv1]) Tryz.func101 rfl Tryz.ntmps101 rfl ?_
 have hds:(argEnv [Value.int .u8 lo1,Value.int .u8 hiv1]).ds=[]:=rfl
 refine WP_seq<|WP_region<|OW_alloc ti50 hs (zs:=(Vec.zero 4).1.map (Value.int .u64)) rfl rfl ?_
 intro b1 wv1 hs
 refine OW_nil<|WP_seq<|WP_region<|OW_alloc ti50 hs (zs:=(Vec.zero 4).1.map (Value.int .u64)) rfl rfl ?_
 intro b2 wv2 hs
 refine OW_nil ?_
 obtain ⟨xv7,hx1,hKhx1⟩:=bindS hM
 refine WP_cut (fun E w=>E 4=Value.pointer (some ⟨b1,0,none⟩)∧E 5=Value.pointer (some ⟨b2,0,none⟩)∧E.ds=[]∧Go.Lx.Sep g0 w0 g0 w [Go.Lx.box b2 50 (xv7.1.map (Value.int .u64)),Go.Lx.box b1 50 ((Vec.zero 4).1.map (Value.int .u64))]) ?_ ?_
 ·have hM:=hx1
  have hag0:=Hle.refl g0
  refine WP_seq<|WP_region<|O (r_move (v:=Value.int .u8 lo1) rfl) rfl<|O (r_conv Tryz.underlying5 Tryz.underlying3 rfl) rfl<|O (r_assign (v:=Value.int .i64 (IntKind.i64.wrap lo1)) rfl) rfl<|OW_nil<|WP_block<|WP_loop (fun (st9:(Vec 4)×Int) E w=>match st9 with|(xv10,b7)=>E 1=Value.int .u8 hiv1∧E 4=Value.pointer (some ⟨b1,0,none⟩)∧E 5=Value.pointer (some ⟨b2,0,none⟩)∧E 6=Value.int .i64 b7∧E.ds=[]∧Go.Lx.Sep g0 w0 g0 w [Go.Lx.box b2 50 (xv10.1.map (Value.int .u64)),Go.Lx.box b1 50 ((Vec.zero 4).1.map (Value.int .u64))]) hM ⟨rfl,rfl,rfl,rfl,hds,hs⟩ ?_
  clear hs hM
  rintro ⟨xv10,b7⟩ o2 E w hM ⟨hE1,hE4,hE5,hE6,hds,hs⟩
  obtain ⟨E,rfl⟩:=open4 (E:=E) hE1 hE4 hE5 hE6
  refine WP_seq<|WP_seq<|WP_region<|O (r_move (v:=Value.int .i64 b7) rfl) rfl<|O (r_move (v:=Value.int .u8 hiv1) rfl) rfl<|O (r_conv Tryz.underlying5 Tryz.underlying3 rfl) rfl<|O (r_leq rfl rfl) rfl<|OW_nil ?_
  rcases condS hM with ⟨hc6,hM⟩|⟨hc6,hM⟩
  ·refine WP_true rfl hc6<|WP_skip<|WP_seq<|WP_block<|WP_drawTail 9 mo (by decide +kernel) ?_
   have hs:=hs.drew
   refine S (r_move (v:=Value.int .i64 b7) rfl) rfl ?_
   obtain ⟨t21,ht21,hM⟩:=bindS hM
   refine S (r_quoM rfl rfl ht21) rfl ?_
   obtain ⟨c6,hc6,hM⟩:=bindS hM
   refine S (r_idxArr Tryz.underlying50 ti48 rfl rfl (vget_some hc6).1 (vget_some hc6).2.1) rfl<|S (r_load ti48 rfl (hs.cell (i:=0) rfl (vget_cell hc6))) rfl<|S (r_move (v:=Value.int .i64 b7) rfl) rfl ?_
   obtain ⟨t22,ht22,hM⟩:=bindS hM
   refine S (r_remM rfl rfl ht22) rfl ?_
   obtain ⟨t23,ht23,hM⟩:=bindS hM
   refine S (r_shlM rfl rfl ht23) rfl<|S (r_or rfl rfl) rfl ?_
   obtain ⟨xv13,hxv13,hM⟩:=bindS hM
   refine S (r_idxArr Tryz.underlying50 ti48 rfl rfl (vset_some hxv13).1 (vset_some hxv13).2.1) rfl<|SW_nil<|OW_store1 ti48 hs (i:=0) rfl rfl (v:=Value.int .u64 (bits .or .u64 c6 t23)) rfl rfl (vset_lt hxv13) ?_
   intro wv8 hs
   replace hs:Go.Lx.Sep g0 w0 g0 wv8 [Go.Lx.box b2 50 (xv13.1.map (Value.int .u64)),Go.Lx.box b1 50 ((Vec.zero 4).1.map (Value.int .u64))]:=by have h9:=hs; simp only [List.set] at h9; rw [vset_cells hxv13] at h9; exact h9
   refine OW_nil<|WP_region<|O (r_move (v:=Value.int .i64 b7) rfl) rfl ?_
   obtain ⟨t24,ht24,hM⟩:=bindS hM
   refine O (r_addM rfl rfl ht24) rfl<|O (r_assign (v:=Value.int .i64 t24) rfl) rfl<|OW_nil ?_
   obtain rfl:=Option.some.inj hM
   exact ⟨rfl,rfl,rfl,rfl,hds,hs⟩
  ·refine WP_false rfl hc6<|WP_exit ?_
   obtain rfl:=Option.some.inj hM
   refine fun hr=>?_
   have hM:=congrArg some hr
   obtain rfl:=Option.some.inj hM
   exact ⟨rfl,rfl,hds,hs⟩
 ·clear hs
  rintro E w ⟨hE4,hE5,hds,hs⟩
  have hM:=hKhx1
  obtain ⟨E,rfl⟩:=open2 (E:=E) hE4 hE5
  refine WP_seq<|WP_region<|O (r_loadN (cs:=xv7.1.map (Value.int .u64)) ti50 rfl (by simp [xv7.2]) (hs.cells (i:=0) rfl)) rfl<|OW_storeAll ti50 hs (i:=1) rfl rfl (v:=encV .u64 xv7) rfl (vs:=xv7.1.map (Value.int .u64)) rfl vec_one (by simp [xv7.2]) (by simp [xv7.2,(Vec.zero 4).2]) ?_
  intro wv9 hs
  refine OW_nil<|WP_ret ?_
  obtain rfl:=Option.some.inj hM
  refine FL_nil hds ?_
  exact ⟨_,res1 Tryz.results101 (rv_cells (vs:=xv7.1.map (Value.int .u64)) ti50 rfl (by simp [xv7.2]) (hs.cells (i:=1) rfl)),g0,⟨xv7.1.map (Value.int .u64),rfl,rfl⟩,hs.ext⟩
set_option maxRecDepth 100000 in
theorem regex_reader_element_ok {p1:T_regex_reader} {r:Rt ((Vec 4)×T_regex_reader)} (hM:M.regex_reader_element p1=some r) {g0:Hp} {w0:World} {gi:Hp} {wi:World} {Lt:List Res} {b1:Nat} (hs:Sep g0 w0 gi wi (Go.Lx.box b1 110 ([encS p1.s,Value.int .i64 p1.atv])::Lt)) :
    CallsX Tryz.prog 155 #[Value.pointer (some ⟨b1,0,none⟩)] wi 107 r (fun r v w'=>∃g',(VRd (tVec 4 .u64) true g' v r.1)∧Hle gi g'∧Sep g0 w0 g' w' (Go.Lx.box b1 110 ([encS r.2.s,Value.int .i64 r.2.atv])::Lt)) (fun w'=>∃g',Hle gi g'∧Sep g0 w0 g' w' Lt):=by
 unfold M.regex_reader_element at hM
 have hagi:=Hle.refl gi
 refine calls_of_WPX (args:=[Value.pointer (some ⟨b1,0,none⟩)]) Tryz.func155 rfl Tryz.ntmps155 rfl ?_
 have hds:(argEnv [Value.pointer (some ⟨b1,0,none⟩)]).ds=[]:=rfl
 refine WP_seq<|WP_region<|OW_alloc ti50 hs (zs:=(Vec.zero 4).1.map (Value.int .u64)) rfl rfl ?_
 intro b2 wv1 hs
 refine OW_nil<|WP_seq<|WP_region<|O (r_move (v:=Value.pointer (some ⟨b1,0,none⟩)) rfl) rfl ?_
 have hs:Go.Lx.Sep g0 w0 gi _ (Go.Lx.box b1 110 ([encS p1.s,Value.int .i64 p1.atv])::Go.Lx.box b2 50 ((Vec.zero 4).1.map (Value.int .u64))::Lt):=(Sep.selT (A:=[Go.Lx.box b2 50 ((Vec.zero 4).1.map (Value.int .u64)),Go.Lx.box b1 110 ([encS p1.s,Value.int .i64 p1.atv])]) (A':=[Go.Lx.box b1 110 ([encS p1.s,Value.int .i64 p1.atv]),Go.Lx.box b2 50 ((Vec.zero 4).1.map (Value.int .u64))]) (L:=Lt) hs [1,0] (by decide) rfl)
 rcases rtS hM with ⟨lo1,hlo1,hM⟩|⟨px1,hpx1,hM⟩
 ·refine C [Value.pointer (some ⟨b1,0,none⟩),encS [93,92,45]] cf138 rfl (regex_reader_char_ok hlo1 hs) rfl ?_
  rintro v1 wv3 ⟨gg2,hvv1,hlegg2,hs⟩
  replace hagi:=hagi.trans hlegg2
  obtain ⟨cs1,rfl,hcs1⟩:=hvv1
  have hcs1:cs1=_:=hcs1; subst hcs1
  refine O (r_assign (v:=Value.int .u8 lo1.1) rfl) rfl<|OW_nil<|WP_seq<|WP_region<|O (r_move (v:=Value.int .u8 lo1.1) rfl) rfl<|O (r_assign (v:=Value.int .u8 lo1.1) rfl) rfl<|OW_nil ?_
  obtain ⟨o1,hx1,hKhx1⟩:=stepS hM
  refine WP_cut (fun E w=>∃(hiv2:Int) (hiv3:Str) (hiv4:Int),o1=.next (hiv2,hiv3,hiv4)∧∃(gg8:Hp),E 2=Value.pointer (some ⟨b2,0,none⟩)∧E 3=Value.int .u8 lo1.1∧E 4=Value.int .u8 hiv2∧E.ds=[]∧Hle gg2 gg8∧Go.Lx.Sep g0 w0 gg8 w (Go.Lx.box b1 110 ([encS hiv3,Value.int .i64 hiv4])::Go.Lx.box b2 50 ((Vec.zero 4).1.map (Value.int .u64))::Lt)) ?_ ?_
  ·have hM:=hx1
   have hagg2:=Hle.refl gg2
   refine WP_seq<|WP_region<|O (r_move (v:=Value.pointer (some ⟨b1,0,none⟩)) rfl) rfl ?_
   obtain ⟨rv3,hrv3,hM⟩:=bindS hM
   refine C [Value.pointer (some ⟨b1,0,none⟩)] cf81 rfl (regex_reader_peek_ok hrv3 hs) rfl ?_
   rintro v5 wv11 ⟨gg9,hvv5,hlegg9,hs⟩
   replace hagi:=hagi.trans hlegg9
   replace hagg2:=hagg2.trans hlegg9
   obtain ⟨cs4,rfl,hcs4⟩:=hvv5
   have hcs4:cs4=_:=hcs4; subst hcs4
   refine O (r_eql rfl rfl) rfl<|OW_nil ?_
   rcases condS hM with ⟨hc3,hM⟩|⟨hc3,hM⟩
   ·refine WP_true rfl hc3<|WP_seq<|WP_region<|O (r_move (v:=Value.pointer (some ⟨b1,0,none⟩)) rfl) rfl<|O (r_nilCheck rfl) rfl<|O (r_fieldAddr Tryz.underlying110 ti3 rfl rfl (by decide) rfl rfl) rfl<|O (r_load (v:=Value.int .i64 lo1.2.atv) ti3 rfl (hs.cell (i:=0) (o:=1) rfl rfl)) rfl ?_
    obtain ⟨t2,ht2,hM⟩:=bindS hM
    refine O (r_addM rfl rfl ht2) rfl<|O (r_nilCheck rfl) rfl<|O (r_fieldAddr Tryz.underlying110 ti3 rfl rfl (by decide) rfl rfl) rfl<|OW_store1 ti3 hs (i:=0) rfl rfl (v:=Value.int .i64 t2) rfl rfl (o:=1) (by simp) ?_
    intro wv12 hs
    refine OW_nil<|WP_seq<|WP_region<|O (r_move (v:=Value.pointer (some ⟨b1,0,none⟩)) rfl) rfl<|O (r_nilCheck rfl) rfl<|O (r_fieldAddr Tryz.underlying110 ti3 rfl rfl (by decide) rfl rfl) rfl<|O (r_load (v:=Value.int .i64 t2) ti3 rfl (hs.cell (i:=0) (o:=1) rfl rfl)) rfl<|O (r_assign (v:=Value.int .i64 t2) rfl) rfl<|OW_nil<|WP_seq<|WP_region<|O (r_move (v:=Value.pointer (some ⟨b1,0,none⟩)) rfl) rfl ?_
    rcases rtS hM with ⟨hiv5,hhiv5,hM⟩|⟨px4,hpx4,hM⟩
    ·refine C [Value.pointer (some ⟨b1,0,none⟩),encS [93,92,45]] cf138 rfl (regex_reader_char_ok hhiv5 hs) rfl ?_
     rintro v6 wv14 ⟨gg11,hvv6,hlegg11,hs⟩
     replace hagi:=hagi.trans hlegg11
     replace hagg2:=hagg2.trans hlegg11
     obtain ⟨cs5,rfl,hcs5⟩:=hvv6
     have hcs5:cs5=_:=hcs5; subst hcs5
     refine O (r_assign (v:=Value.int .u8 hiv5.1) rfl) rfl<|OW_nil<|WP_seq<|WP_region<|O (r_move (v:=Value.int .u8 hiv5.1) rfl) rfl<|O (r_move (v:=Value.int .u8 lo1.1) rfl) rfl<|O (r_lss rfl rfl) rfl<|OW_nil ?_
     rcases condS hM with ⟨hc4,hM⟩|⟨hc4,hM⟩
     ·refine WP_true rfl hc4<|WP_seq<|WP_region<|O (r_move (v:=Value.pointer (some ⟨b1,0,none⟩)) rfl) rfl<|O (r_move (v:=Value.int .i64 t2) rfl) rfl<|O (r_nilCheck rfl) rfl<|O (r_fieldAddr Tryz.underlying110 ti3 rfl rfl (by decide) rfl rfl) rfl<|OW_store1 ti3 hs (i:=0) rfl rfl (v:=Value.int .i64 t2) rfl rfl (o:=1) (by simp) ?_
      intro wv15 hs
      refine OW_nil<|WP_region<|O (r_move (v:=Value.pointer (some ⟨b1,0,none⟩)) rfl) rfl ?_
      rcases rtS hM with ⟨rv4,hrv4,hM⟩|⟨px5,hpx5,hM⟩
      ·refine C [Value.pointer (some ⟨b1,0,none⟩)] cf62 rfl (regex_reader_fail_ok hrv4 hs) rfl ?_
       rintro v7 wv17 ⟨gg13,hvv7,hlegg13,hs⟩
       replace hagg2:=hagg2.trans hlegg13
       refine OW_nil ?_
       obtain rfl:=Option.some.inj hM
       exact ⟨hiv5.1,hiv5.2.s,t2,rfl,gg13,rfl,rfl,rfl,hds,hagg2,hs⟩
      ·refine CN [Value.pointer (some ⟨b1,0,none⟩)] cf62 rfl (regex_reader_fail_ok hpx5 hs) ?_
       rintro wv16 ⟨gg12,hlegg12,hs⟩
       replace hagi:=hagi.trans hlegg12
       obtain rfl:=Option.some.inj hM
       have hM:=hKhx1
       obtain rfl:=Option.some.inj hM
       exact ⟨rfl,hds,gg12,hagi,Sep.tail (A:=[Go.Lx.box b2 50 ((Vec.zero 4).1.map (Value.int .u64))]) (L:=Lt) hs⟩
     ·refine WP_false rfl hc4<|WP_skip ?_
      obtain rfl:=Option.some.inj hM
      exact ⟨hiv5.1,hiv5.2.s,hiv5.2.atv,rfl,gg11,rfl,rfl,rfl,hds,hagg2,hs⟩
    ·refine CN [Value.pointer (some ⟨b1,0,none⟩),encS [93,92,45]] cf138 rfl (regex_reader_char_ok hpx4 hs) ?_
     rintro wv13 ⟨gg10,hlegg10,hs⟩
     replace hagi:=hagi.trans hlegg10
     obtain rfl:=Option.some.inj hM
     have hM:=hKhx1
     obtain rfl:=Option.some.inj hM
     exact ⟨rfl,hds,gg10,hagi,Sep.tail (A:=[Go.Lx.box b2 50 ((Vec.zero 4).1.map (Value.int .u64))]) (L:=Lt) hs⟩
   ·refine WP_false rfl hc3<|WP_skip ?_
    obtain rfl:=Option.some.inj hM
    exact ⟨lo1.1,lo1.2.s,lo1.2.atv,rfl,gg9,rfl,rfl,rfl,hds,hagg2,hs⟩
  ·clear hs
   rintro E w ⟨hiv2,hiv3,hiv4,rfl,gg8,hE2,hE3,hE4,hds,hlegg8,hs⟩
   have hM:=hKhx1
   dsimp only [onStep] at hM
   obtain ⟨E,rfl⟩:=open3 (E:=E) hE2 hE3 hE4
   replace hagi:=hagi.trans hlegg8
   refine WP_seq<|WP_region<|O (r_move (v:=Value.int .u8 lo1.1) rfl) rfl<|O (r_move (v:=Value.int .u8 hiv2) rfl) rfl ?_
   obtain ⟨rv5,hrv5,hM⟩:=bindS hM
   refine C [Value.int .u8 lo1.1,Value.int .u8 hiv2] cf101 rfl (byteset_Range_ok hrv5 hs.imm) rfl ?_
   rintro v8 wv18 ⟨gg14,hvv8,hegg14⟩
   have hlegg14:=hegg14.le hs.imm
   replace hs:=hs.call hegg14
   replace hagi:=hagi.trans hlegg14
   obtain ⟨cs6,rfl,hcs6⟩:=hvv8
   have hcs6:cs6=_:=hcs6; subst hcs6
   refine OW_storeAll ti50 hs (i:=1) rfl rfl (v:=encV .u64 rv5) rfl (vs:=rv5.1.map (Value.int .u64)) rfl vec_one (by simp [rv5.2]) (by simp [rv5.2,(Vec.zero 4).2]) ?_
   intro wv19 hs
   refine OW_nil<|WP_ret ?_
   obtain rfl:=Option.some.inj hM
   refine FL_nil hds ?_
   exact ⟨_,res1 Tryz.results155 (rv_cells (vs:=rv5.1.map (Value.int .u64)) ti50 rfl (by simp [rv5.2]) (hs.cells (i:=1) rfl)),gg14,⟨rv5.1.map (Value.int .u64),rfl,rfl⟩,hagi,(Sep.selT (A:=[Go.Lx.box b1 110 ([encS hiv3,Value.int .i64 hiv4]),Go.Lx.box b2 50 (rv5.1.map (Value.int .u64))]) (A':=[Go.Lx.box b1 110 ([encS hiv3,Value.int .i64 hiv4])]) (L:=Lt) hs [0] (by decide) rfl)⟩
 ·refine CN [Value.pointer (some ⟨b1,0,none⟩),encS [93,92,45]] cf138 rfl (regex_reader_char_ok hpx1 hs) ?_
  rintro wv2 ⟨gg1,hlegg1,hs⟩
  replace hagi:=hagi.trans hlegg1
  obtain rfl:=Option.some.inj hM
  exact ⟨rfl,hds,gg1,hagi,Sep.tail (A:=[Go.Lx.box b2 50 ((Vec.zero 4).1.map (Value.int .u64))]) (L:=Lt) hs⟩
set_option maxRecDepth 100000 in
theorem byteset_Union_ok {a1:(Vec 4)} {b1:(Vec 4)} {r:(Vec 4)} (hM:M.byteset_Union a1 b1=some r) {g0:Hp} {w0:World} (hi:Imm g0 w0) :
    CallsV Tryz.prog 156 #[encV .u64 a1,encV .u64 b1] w0 (fun v w'=>∃g',(VRd (tVec 4 .u64) true g' v r)∧Ext g0 w0 g' w'):=by
 unfold M.byteset_Union at hM
 have hs:=Sep.start hi
 refine calls_of_WP (args:=[encV .u64 a1,encV .u64 b1]) Tryz.func156 rfl Tryz.ntmps156 rfl ?_
 have hds:(argEnv [encV .u64 a1,encV .u64 b1]).ds=[]:=rfl
 refine WP_seq<|WP_region<|OW_box (v:=encV .u64 a1) rfl hs (zs:=a1.1.map (Value.int .u64)) rfl rfl ?_
 intro b2 wv1 hs
 refine OW_box (v:=encV .u64 b1) rfl hs (zs:=b1.1.map (Value.int .u64)) rfl rfl ?_
 intro b3 wv2 hs
 refine OW_alloc ti50 hs (zs:=(Vec.zero 4).1.map (Value.int .u64)) rfl rfl ?_
 intro b4 wv3 hs
 refine OW_nil ?_
 obtain ⟨a8,hx1,hKhx1⟩:=bindS hM
 refine WP_cut (fun E w=>E 2=Value.pointer (some ⟨b2,0,none⟩)∧E 4=Value.pointer (some ⟨b4,0,none⟩)∧E.ds=[]∧Go.Lx.Sep g0 w0 g0 w [Go.Lx.box b4 50 ((Vec.zero 4).1.map (Value.int .u64)),Go.Lx.box b2 50 (a8.1.map (Value.int .u64))]) ?_ ?_
 ·have hM:=hx1
  have hag0:=Hle.refl g0
  refine WP_seq<|WP_region<|O (r_move (v:=Value.int .i64 0) rfl) rfl<|OW_nil<|WP_block<|WP_loop (fun (st9:(Vec 4)×Int) E w=>match st9 with|(a11,xv5)=>E 2=Value.pointer (some ⟨b2,0,none⟩)∧E 3=Value.pointer (some ⟨b3,0,none⟩)∧E 4=Value.pointer (some ⟨b4,0,none⟩)∧E 6=Value.int .i64 xv5∧E.ds=[]∧Go.Lx.Sep g0 w0 g0 w [Go.Lx.box b4 50 ((Vec.zero 4).1.map (Value.int .u64)),Go.Lx.box b3 50 (b1.1.map (Value.int .u64)),Go.Lx.box b2 50 (a11.1.map (Value.int .u64))]) hM ⟨rfl,rfl,rfl,rfl,hds,hs⟩ ?_
  clear hs hM
  rintro ⟨a11,xv5⟩ o2 E w hM ⟨hE2,hE3,hE4,hE6,hds,hs⟩
  obtain ⟨E,rfl⟩:=open4 (E:=E) hE2 hE3 hE4 hE6
  refine WP_seq<|WP_region<|O (r_lss rfl rfl) rfl<|OW_nil<|WP_seq ?_
  rcases condS hM with ⟨hc6,hM⟩|⟨hc6,hM⟩
  ·refine WP_true rfl hc6<|WP_skip<|WP_seq<|WP_block<|WP_seq<|WP_region<|O (r_move (v:=Value.int .i64 xv5) rfl) rfl<|O (r_assign (v:=Value.int .i64 xv5) rfl) rfl<|OW_nil<|WP_drawTail 8 mo (by decide +kernel) ?_
   have hs:=hs.drew
   refine S (r_move (v:=Value.int .i64 xv5) rfl) rfl ?_
   obtain ⟨c11,hc11,hM⟩:=bindS hM
   refine S (r_idxArr Tryz.underlying50 ti48 rfl rfl (vget_some hc11).1 (vget_some hc11).2.1) rfl<|S (r_load ti48 rfl (hs.cell (i:=2) rfl (vget_cell hc11))) rfl<|S (r_move (v:=Value.int .i64 xv5) rfl) rfl ?_
   obtain ⟨c12,hc12,hM⟩:=bindS hM
   refine S (r_idxArr Tryz.underlying50 ti48 rfl rfl (vget_some hc12).1 (vget_some hc12).2.1) rfl<|S (r_load ti48 rfl (hs.cell (i:=1) rfl (vget_cell hc12))) rfl<|S (r_or rfl rfl) rfl ?_
   obtain ⟨a14,ha14,hM⟩:=bindS hM
   refine S (r_idxArr Tryz.underlying50 ti48 rfl rfl (vset_some ha14).1 (vset_some ha14).2.1) rfl<|SW_nil<|OW_store1 ti48 hs (i:=2) rfl rfl (v:=Value.int .u64 (bits .or .u64 c11 c12)) rfl rfl (vset_lt ha14) ?_
   intro wv9 hs
   replace hs:Go.Lx.Sep g0 w0 g0 wv9 [Go.Lx.box b4 50 ((Vec.zero 4).1.map (Value.int .u64)),Go.Lx.box b3 50 (b1.1.map (Value.int .u64)),Go.Lx.box b2 50 (a14.1.map (Value.int .u64))]:=by have h9:=hs; simp only [List.set] at h9; rw [vset_cells ha14] at h9; exact h9
   refine OW_nil<|WP_region ?_
   obtain ⟨t6,ht6,hM⟩:=bindS hM
   refine O (r_addM rfl rfl ht6) rfl<|O (r_move (v:=Value.int .i64 t6) rfl) rfl<|OW_nil ?_
   obtain rfl:=Option.some.inj hM
   exact ⟨rfl,rfl,rfl,rfl,hds,hs⟩
  ·refine WP_false rfl hc6<|WP_exit ?_
   obtain rfl:=Option.some.inj hM
   refine fun hr=>?_
   have hM:=congrArg some hr
   obtain rfl:=Option.some.inj hM
   exact ⟨rfl,rfl,hds,(hs.sub (.cons_cons _ (.cons _ (.cons_cons _ .slnil))))⟩
 ·clear hs
  rintro E w ⟨hE2,hE4,hds,hs⟩
  have hM:=hKhx1
  obtain ⟨E,rfl⟩:=open2 (E:=E) hE2 hE4
  refine WP_seq<|WP_region<|O (r_loadN (cs:=a8.1.map (Value.int .u64)) ti50 rfl (by simp [a8.2]) (hs.cells (i:=1) rfl)) rfl<|OW_storeAll ti50 hs (i:=0) rfl rfl (v:=encV .u64 a8) rfl (vs:=a8.1.map (Value.int .u64)) rfl vec_one (by simp [a8.2]) (by simp [a8.2,(Vec.zero 4).2]) ?_
  intro wv10 hs
  refine OW_nil<|WP_ret ?_
  obtain rfl:=Option.some.inj hM
  refine FL_nil hds ?_
  exact ⟨_,res1 Tryz.results156 (rv_cells (vs:=a8.1.map (Value.int .u64)) ti50 rfl (by simp [a8.2]) (hs.cells (i:=0) rfl)),g0,⟨a8.1.map (Value.int .u64),rfl,rfl⟩,hs.ext⟩
set_option maxRecDepth 100000 in
theorem byteset_Complement_ok {s1:(Vec 4)} {r:(Vec 4)} (hM:M.byteset_Complement s1=some r) {g0:Hp} {w0:World} (hi:Imm g0 w0) :
    CallsV Tryz.prog 157 #[encV .u64 s1] w0 (fun v w'=>∃g',(VRd (tVec 4 .u64) true g' v r)∧Ext g0 w0 g' w'):=by
 unfold M.byteset_Complement at hM
 have hs:=Sep.start hi
 refine calls_of_WP (args:=[encV .u64 s1]) Tryz.func157 rfl Tryz.ntmps157 rfl ?_
 have hds:(argEnv [encV .u64 s1]).ds=[]:=rfl
 refine WP_seq<|WP_region<|OW_box (v:=encV .u64 s1) rfl hs (zs:=s1.1.map (Value.int .u64)) rfl rfl ?_
 intro b1 wv1 hs
 refine OW_alloc ti50 hs (zs:=(Vec.zero 4).1.map (Value.int .u64)) rfl rfl ?_
 intro b2 wv2 hs
 refine OW_nil ?_
 obtain ⟨s8,hx1,hKhx1⟩:=bindS hM
 refine WP_cut (fun E w=>E 1=Value.pointer (some ⟨b1,0,none⟩)∧E 2=Value.pointer (some ⟨b2,0,none⟩)∧E.ds=[]∧Go.Lx.Sep g0 w0 g0 w [Go.Lx.box b2 50 ((Vec.zero 4).1.map (Value.int .u64)),Go.Lx.box b1 50 (s8.1.map (Value.int .u64))]) ?_ ?_
 ·have hM:=hx1
  have hag0:=Hle.refl g0
  refine WP_seq<|WP_region<|O (r_move (v:=Value.int .i64 0) rfl) rfl<|OW_nil<|WP_block<|WP_loop (fun (st9:(Vec 4)×Int) E w=>match st9 with|(s11,xv5)=>E 1=Value.pointer (some ⟨b1,0,none⟩)∧E 2=Value.pointer (some ⟨b2,0,none⟩)∧E 4=Value.int .i64 xv5∧E.ds=[]∧Go.Lx.Sep g0 w0 g0 w [Go.Lx.box b2 50 ((Vec.zero 4).1.map (Value.int .u64)),Go.Lx.box b1 50 (s11.1.map (Value.int .u64))]) hM ⟨rfl,rfl,rfl,hds,hs⟩ ?_
  clear hs hM
  rintro ⟨s11,xv5⟩ o2 E w hM ⟨hE1,hE2,hE4,hds,hs⟩
  obtain ⟨E,rfl⟩:=open3 (E:=E) hE1 hE2 hE4
  refine WP_seq<|WP_region<|O (r_lss rfl rfl) rfl<|OW_nil<|WP_seq ?_
  rcases condS hM with ⟨hc6,hM⟩|⟨hc6,hM⟩
  ·refine WP_true rfl hc6<|WP_skip<|WP_seq<|WP_block<|WP_seq<|WP_region<|O (r_move (v:=Value.int .i64 xv5) rfl) rfl<|O (r_assign (v:=Value.int .i64 xv5) rfl) rfl<|OW_nil<|WP_region<|O (r_move (v:=Value.int .i64 xv5) rfl) rfl<|O (r_move (v:=Value.int .i64 xv5) rfl) rfl ?_
   obtain ⟨c6,hc6,hM⟩:=bindS hM
   refine O (r_idxArr Tryz.underlying50 ti48 rfl rfl (vget_some hc6).1 (vget_some hc6).2.1) rfl<|O (r_load ti48 rfl (hs.cell (i:=1) rfl (vget_cell hc6))) rfl<|O (r_compl rfl) rfl ?_
   obtain ⟨s14,hs14,hM⟩:=bindS hM
   refine O (r_idxArr Tryz.underlying50 ti48 rfl rfl (vset_some hs14).1 (vset_some hs14).2.1) rfl<|OW_store1 ti48 hs (i:=1) rfl rfl (v:=Value.int .u64 (complM .u64 c6)) rfl rfl (vset_lt hs14) ?_
   intro wv8 hs
   replace hs:Go.Lx.Sep g0 w0 g0 wv8 [Go.Lx.box b2 50 ((Vec.zero 4).1.map (Value.int .u64)),Go.Lx.box b1 50 (s14.1.map (Value.int .u64))]:=by have h9:=hs; simp only [List.set] at h9; rw [vset_cells hs14] at h9; exact h9
   refine OW_nil<|WP_region ?_
   obtain ⟨t6,ht6,hM⟩:=bindS hM
   refine O (r_addM rfl rfl ht6) rfl<|O (r_move (v:=Value.int .i64 t6) rfl) rfl<|OW_nil ?_
   obtain rfl:=Option.some.inj hM
   exact ⟨rfl,rfl,rfl,hds,hs⟩
  ·refine WP_false rfl hc6<|WP_exit ?_
   obtain rfl:=Option.some.inj hM
   refine fun hr=>?_
   have hM:=congrArg some hr
   obtain rfl:=Option.some.inj hM
   exact ⟨rfl,rfl,hds,hs⟩
 ·clear hs
  rintro E w ⟨hE1,hE2,hds,hs⟩
  have hM:=hKhx1
  obtain ⟨E,rfl⟩:=open2 (E:=E) hE1 hE2
  refine WP_seq<|WP_region<|O (r_loadN (cs:=s8.1.map (Value.int .u64)) ti50 rfl (by simp [s8.2]) (hs.cells (i:=1) rfl)) rfl<|OW_storeAll ti50 hs (i:=0) rfl rfl (v:=encV .u64 s8) rfl (vs:=s8.1.map (Value.int .u64)) rfl vec_one (by simp [s8.2]) (by simp [s8.2,(Vec.zero 4).2]) ?_
  intro wv9 hs
  refine OW_nil<|WP_ret ?_
  obtain rfl:=Option.some.inj hM
  refine FL_nil hds ?_
  exact ⟨_,res1 Tryz.results157 (rv_cells (vs:=s8.1.map (Value.int .u64)) ti50 rfl (by simp [s8.2]) (hs.cells (i:=0) rfl)),g0,⟨s8.1.map (Value.int .u64),rfl,rfl⟩,hs.ext⟩
set_option maxRecDepth 100000 in
theorem regex_reader_bracket_ok {p1:T_regex_reader} {r:Rt ((Vec 4)×T_regex_reader)} (hM:M.regex_reader_bracket p1=some r) {g0:Hp} {w0:World} {gi:Hp} {wi:World} {Lt:List Res} {b1:Nat} (hs:Sep g0 w0 gi wi (Go.Lx.box b1 110 ([encS p1.s,Value.int .i64 p1.atv])::Lt)) :
    CallsX Tryz.prog 136 #[Value.pointer (some ⟨b1,0,none⟩)] wi 107 r (fun r v w'=>∃g',(VRd (tVec 4 .u64) true g' v r.1)∧Hle gi g'∧Sep g0 w0 g' w' (Go.Lx.box b1 110 ([encS r.2.s,Value.int .i64 r.2.atv])::Lt)) (fun w'=>∃g',Hle gi g'∧Sep g0 w0 g' w' Lt):=by
 unfold M.regex_reader_bracket at hM
 have hagi:=Hle.refl gi
 refine calls_of_WPX (args:=[Value.pointer (some ⟨b1,0,none⟩)]) Tryz.func136 rfl Tryz.ntmps136 rfl ?_
 have hds:(argEnv [Value.pointer (some ⟨b1,0,none⟩)]).ds=[]:=rfl
 refine WP_seq<|WP_region<|OW_alloc ti50 hs (zs:=(Vec.zero 4).1.map (Value.int .u64)) rfl rfl ?_
 intro b2 wv1 hs
 refine OW_nil<|WP_seq<|WP_region<|O (r_move (v:=Value.pointer (some ⟨b1,0,none⟩)) rfl) rfl ?_
 have hs:Go.Lx.Sep g0 w0 gi _ (Go.Lx.box b1 110 ([encS p1.s,Value.int .i64 p1.atv])::Go.Lx.box b2 50 ((Vec.zero 4).1.map (Value.int .u64))::Lt):=(Sep.selT (A:=[Go.Lx.box b2 50 ((Vec.zero 4).1.map (Value.int .u64)),Go.Lx.box b1 110 ([encS p1.s,Value.int .i64 p1.atv])]) (A':=[Go.Lx.box b1 110 ([encS p1.s,Value.int .i64 p1.atv]),Go.Lx.box b2 50 ((Vec.zero 4).1.map (Value.int .u64))]) (L:=Lt) hs [1,0] (by decide) rfl)
 rcases rtS hM with ⟨rv1,hrv1,hM⟩|⟨px1,hpx1,hM⟩
 ·refine C [Value.pointer (some ⟨b1,0,none⟩),Value.int .u8 91] cf135 rfl (regex_reader_expect_ok hrv1 hs) rfl ?_
  rintro v1 wv3 ⟨gg2,hvv1,hlegg2,hs⟩
  replace hagi:=hagi.trans hlegg2
  refine OW_nil<|WP_seq<|WP_region<|O (r_move (v:=Value.pointer (some ⟨b1,0,none⟩)) rfl) rfl ?_
  obtain ⟨rv2,hrv2,hM⟩:=bindS hM
  refine C [Value.pointer (some ⟨b1,0,none⟩)] cf81 rfl (regex_reader_peek_ok hrv2 hs) rfl ?_
  rintro v2 wv4 ⟨gg3,hvv2,hlegg3,hs⟩
  replace hagi:=hagi.trans hlegg3
  obtain ⟨cs1,rfl,hcs1⟩:=hvv2
  have hcs1:cs1=_:=hcs1; subst hcs1
  refine O (r_eql rfl rfl) rfl<|O (r_assign (v:=Value.bool (rv2 == 94)) rfl) rfl<|OW_nil ?_
  obtain ⟨p2,hx1,hKhx1⟩:=bindS hM
  refine WP_cut (fun E w=>E 0=Value.pointer (some ⟨b1,0,none⟩)∧E 2=Value.pointer (some ⟨b2,0,none⟩)∧E 3=Value.bool (rv2 == 94)∧E.ds=[]∧Go.Lx.Sep g0 w0 gg3 w (Go.Lx.box b1 110 ([encS rv1.s,Value.int .i64 p2])::Go.Lx.box b2 50 ((Vec.zero 4).1.map (Value.int .u64))::Lt)) ?_ ?_
  ·have hM:=hx1
   have hagg3:=Hle.refl gg3
   refine WP_seq<|WP_region<|O (r_move (v:=Value.bool (rv2 == 94)) rfl) rfl<|OW_nil ?_
   rcases condS hM with ⟨hc2,hM⟩|⟨hc2,hM⟩
   ·refine WP_true rfl hc2<|WP_region<|O (r_move (v:=Value.pointer (some ⟨b1,0,none⟩)) rfl) rfl<|O (r_nilCheck rfl) rfl<|O (r_fieldAddr Tryz.underlying110 ti3 rfl rfl (by decide) rfl rfl) rfl<|O (r_load (v:=Value.int .i64 rv1.atv) ti3 rfl (hs.cell (i:=0) (o:=1) rfl rfl)) rfl ?_
    obtain ⟨t2,ht2,hM⟩:=bindS hM
    refine O (r_addM rfl rfl ht2) rfl<|O (r_nilCheck rfl) rfl<|O (r_fieldAddr Tryz.underlying110 ti3 rfl rfl (by decide) rfl rfl) rfl<|OW_store1 ti3 hs (i:=0) rfl rfl (v:=Value.int .i64 t2) rfl rfl (o:=1) (by simp) ?_
    intro wv6 hs
    refine OW_nil ?_
    obtain rfl:=Option.some.inj hM
    exact ⟨rfl,rfl,rfl,hds,hs⟩
   ·refine WP_false rfl hc2<|WP_skip ?_
    obtain rfl:=Option.some.inj hM
    exact ⟨rfl,rfl,rfl,hds,hs⟩
  ·clear hs
   rintro E w ⟨hE0,hE2,hE3,hds,hs⟩
   have hM:=hKhx1
   obtain ⟨E,rfl⟩:=open3 (E:=E) hE0 hE2 hE3
   refine WP_seq<|WP_region<|O (r_move (v:=Value.pointer (some ⟨b1,0,none⟩)) rfl) rfl ?_
   rcases rtS hM with ⟨rv3,hrv3,hM⟩|⟨px2,hpx2,hM⟩
   ·refine C [Value.pointer (some ⟨b1,0,none⟩)] cf155 rfl (regex_reader_element_ok hrv3 hs) rfl ?_
    rintro v3 wv8 ⟨gg5,hvv3,hlegg5,hs⟩
    replace hagi:=hagi.trans hlegg5
    obtain ⟨cs2,rfl,hcs2⟩:=hvv3
    have hcs2:cs2=_:=hcs2; subst hcs2
    refine OW_alloc ti50 hs (zs:=(Vec.zero 4).1.map (Value.int .u64)) rfl rfl ?_
    intro b3 wv9 hs
    refine OW_storeAll ti50 hs (i:=0) rfl rfl (v:=encV .u64 rv3.1) rfl (vs:=rv3.1.1.map (Value.int .u64)) rfl vec_one (by simp [rv3.1.2]) (by simp [rv3.1.2,(Vec.zero 4).2]) ?_
    intro wv10 hs
    refine OW_nil ?_
    obtain ⟨o3,hx2,hKhx2⟩:=stepS hM
    refine WP_cut (fun E w=>∃(p9:Str) (p10:Int) (setv4:(Vec 4)),o3=.next (p9,p10,setv4)∧∃(gg30:Hp),E 0=Value.pointer (some ⟨b1,0,none⟩)∧E 2=Value.pointer (some ⟨b2,0,none⟩)∧E 3=Value.bool (rv2 == 94)∧E 4=Value.pointer (some ⟨b3,0,none⟩)∧E.ds=[]∧Hle gg5 gg30∧Go.Lx.Sep g0 w0 gg30 w (Go.Lx.box b1 110 ([encS p9,Value.int .i64 p10])::Go.Lx.box b3 50 (setv4.1.map (Value.int .u64))::Go.Lx.box b2 50 ((Vec.zero 4).1.map (Value.int .u64))::Lt)) ?_ ?_
    ·have hM:=hx2
     have hagg5:=Hle.refl gg5
     refine WP_block<|WP_loop (fun (st9:Str×Int×(Vec 4)) E w=>match st9 with|(p13,p14,setv6)=>∃(gg39:Hp),E 0=Value.pointer (some ⟨b1,0,none⟩)∧E 2=Value.pointer (some ⟨b2,0,none⟩)∧E 3=Value.bool (rv2 == 94)∧E 4=Value.pointer (some ⟨b3,0,none⟩)∧E.ds=[]∧Hle gg5 gg39∧Go.Lx.Sep g0 w0 gg39 w (Go.Lx.box b3 50 (setv6.1.map (Value.int .u64))::Go.Lx.box b1 110 ([encS p13,Value.int .i64 p14])::Go.Lx.box b2 50 ((Vec.zero 4).1.map (Value.int .u64))::Lt)) hM ⟨gg5,rfl,rfl,rfl,rfl,hds,(Hle.refl _),hs⟩ ?_
     clear hs hM
     rintro ⟨p13,p14,setv6⟩ o2 E w hM ⟨gg39,hE0,hE2,hE3,hE4,hds,hlegg39,hs⟩
     obtain ⟨E,rfl⟩:=open4 (E:=E) hE0 hE2 hE3 hE4
     replace hagi:=hagi.trans hlegg39
     have hagg39:=Hle.refl gg39
     refine WP_seq<|WP_seq<|WP_region<|O (r_move (v:=Value.pointer (some ⟨b1,0,none⟩)) rfl) rfl ?_
     have hs:Go.Lx.Sep g0 w0 gg39 _ (Go.Lx.box b1 110 ([encS p13,Value.int .i64 p14])::Go.Lx.box b3 50 (setv6.1.map (Value.int .u64))::Go.Lx.box b2 50 ((Vec.zero 4).1.map (Value.int .u64))::Lt):=(Sep.selT (A:=[Go.Lx.box b3 50 (setv6.1.map (Value.int .u64)),Go.Lx.box b1 110 ([encS p13,Value.int .i64 p14]),Go.Lx.box b2 50 ((Vec.zero 4).1.map (Value.int .u64))]) (A':=[Go.Lx.box b1 110 ([encS p13,Value.int .i64 p14]),Go.Lx.box b3 50 (setv6.1.map (Value.int .u64)),Go.Lx.box b2 50 ((Vec.zero 4).1.map (Value.int .u64))]) (L:=Lt) hs [1,0,2] (by decide) rfl)
     obtain ⟨rv19,hrv19,hM⟩:=bindS hM
     refine C [Value.pointer (some ⟨b1,0,none⟩)] cf81 rfl (regex_reader_peek_ok hrv19 hs) rfl ?_
     rintro v29 wv56 ⟨gg48,hvv29,hlegg48,hs⟩
     replace hagi:=hagi.trans hlegg48
     replace hlegg39:=hlegg39.trans hlegg48
     obtain ⟨cs28,rfl,hcs28⟩:=hvv29
     have hcs28:cs28=_:=hcs28; subst hcs28
     refine O (r_neq rfl rfl) rfl<|OW_nil ?_
     rcases condS hM with ⟨hc8,hM⟩|⟨hc8,hM⟩
     ·refine WP_true rfl hc8<|WP_skip<|WP_block ?_
      rcases rtS hM with ⟨rv20,hrv20,hM⟩|⟨px8,hpx8,hM⟩
      ·obtain ⟨rv21,hrv21,hM⟩:=bindS hM
       refine WP_any (.q 0 (.q 1 (.s 2 (.s 3 (.s 4 (.leaf)))))) (SS g0 w0 gg48 (Go.Lx.box b3 50 (setv6.1.map (Value.int .u64))::Go.Lx.box b2 50 ((Vec.zero 4).1.map (Value.int .u64))::Lt)) mo (by decide +kernel) ?_
       have hs:=hs.drew
       have hagg48:=Hle.refl gg48
       have hS:SS g0 w0 gg48 (Go.Lx.box b3 50 (setv6.1.map (Value.int .u64))::Go.Lx.box b2 50 ((Vec.zero 4).1.map (Value.int .u64))::Lt) _:=⟨gg48,Hle.refl _,(Sep.selT (A:=[Go.Lx.box b1 110 ([encS p13,Value.int .i64 p14]),Go.Lx.box b3 50 (setv6.1.map (Value.int .u64)),Go.Lx.box b2 50 ((Vec.zero 4).1.map (Value.int .u64))]) (A':=[Go.Lx.box b3 50 (setv6.1.map (Value.int .u64)),Go.Lx.box b2 50 ((Vec.zero 4).1.map (Value.int .u64))]) (L:=Lt) hs [1,2] (by decide) rfl)⟩
       refine A rfl hS (fun w9 ⟨g9,hle9,hs⟩=>r_loadN (cs:=setv6.1.map (Value.int .u64)) ti50 rfl (by simp [setv6.2]) (hs.cells (i:=0) rfl)) rfl<|A rfl hS (fun w9 ⟨g9,hle9,hs⟩=>r_move (v:=Value.pointer (some ⟨b1,0,none⟩)) rfl) rfl<|A1 rfl<|C [Value.pointer (some ⟨b1,0,none⟩)] cf155 rfl (regex_reader_element_ok hrv20 hs) rfl ?_
       rintro v32 wv62 ⟨gg53,hvv32,hlegg53,hs⟩
       replace hlegg39:=hlegg39.trans hlegg53
       replace hagg48:=hagg48.trans hlegg53
       obtain ⟨cs31,rfl,hcs31⟩:=hvv32
       have hcs31:cs31=_:=hcs31; subst hcs31
       refine OW_nil ?_
       replace hS:=hS.to hagg48 (Sep.selT (A:=[Go.Lx.box b1 110 ([encS rv20.2.s,Value.int .i64 rv20.2.atv]),Go.Lx.box b3 50 (setv6.1.map (Value.int .u64)),Go.Lx.box b2 50 ((Vec.zero 4).1.map (Value.int .u64))]) (A':=[Go.Lx.box b3 50 (setv6.1.map (Value.int .u64)),Go.Lx.box b2 50 ((Vec.zero 4).1.map (Value.int .u64))]) (L:=Lt) hs [1,2] (by decide) rfl)
       refine ⟨fun _=>hS,?_⟩
       refine A1 rfl<|C [encV .u64 setv6,encV .u64 rv20.1] cf156 rfl (byteset_Union_ok hrv21 hs.imm) rfl ?_
       rintro v33 wv63 ⟨gg54,hvv33,hegg54⟩
       have hlegg54:=hegg54.le hs.imm
       replace hs:=hs.call hegg54
       replace hlegg39:=hlegg39.trans hlegg54
       obtain ⟨cs32,rfl,hcs32⟩:=hvv33
       have hcs32:cs32=_:=hcs32; subst hcs32
       refine OW_nil ?_
       refine ⟨fun h=>absurd h (by decide +kernel),?_⟩
       refine A1 rfl<|OW_storeAll ti50 hs (i:=1) rfl rfl (v:=encV .u64 rv21) rfl (vs:=rv21.1.map (Value.int .u64)) rfl vec_one (by simp [rv21.2]) (by simp [rv21.2,setv6.2]) ?_
       intro wv64 hs
       refine OW_nil ?_
       refine ⟨fun h=>absurd h (by decide +kernel),?_⟩
       refine AN ?_
       obtain rfl:=Option.some.inj hM
       exact ⟨gg54,rfl,rfl,rfl,rfl,hds,hlegg39,(Sep.selT (A:=[Go.Lx.box b1 110 ([encS rv20.2.s,Value.int .i64 rv20.2.atv]),Go.Lx.box b3 50 (rv21.1.map (Value.int .u64)),Go.Lx.box b2 50 ((Vec.zero 4).1.map (Value.int .u64))]) (A':=[Go.Lx.box b3 50 (rv21.1.map (Value.int .u64)),Go.Lx.box b1 110 ([encS rv20.2.s,Value.int .i64 rv20.2.atv]),Go.Lx.box b2 50 ((Vec.zero 4).1.map (Value.int .u64))]) (L:=Lt) hs [1,0,2] (by decide) rfl)⟩
      ·refine WP_any (.q 0 (.q 1 (.s 2 (.s 3 (.s 4 (.leaf)))))) (SS g0 w0 gg48 (Go.Lx.box b3 50 (setv6.1.map (Value.int .u64))::Go.Lx.box b2 50 ((Vec.zero 4).1.map (Value.int .u64))::Lt)) mo (by decide +kernel) ?_
       have hs:=hs.drew
       have hagg48:=Hle.refl gg48
       have hS:SS g0 w0 gg48 (Go.Lx.box b3 50 (setv6.1.map (Value.int .u64))::Go.Lx.box b2 50 ((Vec.zero 4).1.map (Value.int .u64))::Lt) _:=⟨gg48,Hle.refl _,(Sep.selT (A:=[Go.Lx.box b1 110 ([encS p13,Value.int .i64 p14]),Go.Lx.box b3 50 (setv6.1.map (Value.int .u64)),Go.Lx.box b2 50 ((Vec.zero 4).1.map (Value.int .u64))]) (A':=[Go.Lx.box b3 50 (setv6.1.map (Value.int .u64)),Go.Lx.box b2 50 ((Vec.zero 4).1.map (Value.int .u64))]) (L:=Lt) hs [1,2] (by decide) rfl)⟩
       refine A rfl hS (fun w9 ⟨g9,hle9,hs⟩=>r_loadN (cs:=setv6.1.map (Value.int .u64)) ti50 rfl (by simp [setv6.2]) (hs.cells (i:=0) rfl)) rfl<|A rfl hS (fun w9 ⟨g9,hle9,hs⟩=>r_move (v:=Value.pointer (some ⟨b1,0,none⟩)) rfl) rfl<|A1 rfl<|CN [Value.pointer (some ⟨b1,0,none⟩)] cf155 rfl (regex_reader_element_ok hpx8 hs) ?_
       rintro wv59 ⟨gg51,hlegg51,hs⟩
       replace hagi:=hagi.trans hlegg51
       obtain rfl:=Option.some.inj hM
       refine fun hr=>?_
       have hM:=congrArg some hr
       obtain rfl:=Option.some.inj hM
       have hM:=hKhx2
       obtain rfl:=Option.some.inj hM
       exact ⟨rfl,hds,gg51,hagi,Sep.tail (A:=[Go.Lx.box b3 50 (setv6.1.map (Value.int .u64)),Go.Lx.box b2 50 ((Vec.zero 4).1.map (Value.int .u64))]) (L:=Lt) hs⟩
     ·refine WP_false rfl hc8<|WP_exit ?_
      obtain rfl:=Option.some.inj hM
      refine fun hr=>?_
      have hM:=congrArg some hr
      obtain rfl:=Option.some.inj hM
      exact ⟨p13,p14,setv6,rfl,gg48,rfl,rfl,rfl,rfl,hds,hlegg39,hs⟩
    ·clear hs
     rintro E w ⟨p9,p10,setv4,rfl,gg30,hE0,hE2,hE3,hE4,hds,hlegg30,hs⟩
     have hM:=hKhx2
     dsimp only [onStep] at hM
     obtain ⟨E,rfl⟩:=open4 (E:=E) hE0 hE2 hE3 hE4
     replace hagi:=hagi.trans hlegg30
     refine WP_seq<|WP_region<|O (r_move (v:=Value.pointer (some ⟨b1,0,none⟩)) rfl) rfl<|O (r_nilCheck rfl) rfl<|O (r_fieldAddr Tryz.underlying110 ti3 rfl rfl (by decide) rfl rfl) rfl<|O (r_load (v:=Value.int .i64 p10) ti3 rfl (hs.cell (i:=0) (o:=1) rfl rfl)) rfl ?_
     obtain ⟨t3,ht3,hM⟩:=bindS hM
     refine O (r_addM rfl rfl ht3) rfl<|O (r_nilCheck rfl) rfl<|O (r_fieldAddr Tryz.underlying110 ti3 rfl rfl (by decide) rfl rfl) rfl<|OW_store1 ti3 hs (i:=0) rfl rfl (v:=Value.int .i64 t3) rfl rfl (o:=1) (by simp) ?_
     intro wv65 hs
     refine OW_nil<|WP_seq<|WP_seq<|WP_region<|O (r_move (v:=Value.bool (rv2 == 94)) rfl) rfl<|OW_nil ?_
     rcases condS hM with ⟨hc9,hM⟩|⟨hc9,hM⟩
     ·refine WP_true rfl hc9<|WP_seq<|WP_region<|O (r_loadN (cs:=setv4.1.map (Value.int .u64)) ti50 rfl (by simp [setv4.2]) (hs.cells (i:=1) rfl)) rfl ?_
      obtain ⟨rv22,hrv22,hM⟩:=bindS hM
      refine C [encV .u64 setv4] cf157 rfl (byteset_Complement_ok hrv22 hs.imm) rfl ?_
      rintro v34 wv66 ⟨gg55,hvv34,hegg55⟩
      have hlegg55:=hegg55.le hs.imm
      replace hs:=hs.call hegg55
      replace hagi:=hagi.trans hlegg55
      obtain ⟨cs33,rfl,hcs33⟩:=hvv34
      have hcs33:cs33=_:=hcs33; subst hcs33
      refine OW_storeAll ti50 hs (i:=2) rfl rfl (v:=encV .u64 rv22) rfl (vs:=rv22.1.map (Value.int .u64)) rfl vec_one (by simp [rv22.2]) (by simp [rv22.2,(Vec.zero 4).2]) ?_
      intro wv67 hs
      refine OW_nil<|WP_ret ?_
      obtain rfl:=Option.some.inj hM
      refine FL_nil hds ?_
      exact ⟨_,res1 Tryz.results136 (rv_cells (vs:=rv22.1.map (Value.int .u64)) ti50 rfl (by simp [rv22.2]) (hs.cells (i:=2) rfl)),gg55,⟨rv22.1.map (Value.int .u64),rfl,rfl⟩,hagi,(Sep.selT (A:=[Go.Lx.box b1 110 ([encS p9,Value.int .i64 t3]),Go.Lx.box b3 50 (setv4.1.map (Value.int .u64)),Go.Lx.box b2 50 (rv22.1.map (Value.int .u64))]) (A':=[Go.Lx.box b1 110 ([encS p9,Value.int .i64 t3])]) (L:=Lt) hs [0] (by decide) rfl)⟩
     ·refine WP_false rfl hc9<|WP_skip<|WP_seq<|WP_region<|O (r_loadN (cs:=setv4.1.map (Value.int .u64)) ti50 rfl (by simp [setv4.2]) (hs.cells (i:=1) rfl)) rfl<|OW_storeAll ti50 hs (i:=2) rfl rfl (v:=encV .u64 setv4) rfl (vs:=setv4.1.map (Value.int .u64)) rfl vec_one (by simp [setv4.2]) (by simp [setv4.2,(Vec.zero 4).2]) ?_
      intro wv68 hs
      refine OW_nil<|WP_ret ?_
      obtain rfl:=Option.some.inj hM
      refine FL_nil hds ?_
      exact ⟨_,res1 Tryz.results136 (rv_cells (vs:=setv4.1.map (Value.int .u64)) ti50 rfl (by simp [setv4.2]) (hs.cells (i:=2) rfl)),gg30,⟨setv4.1.map (Value.int .u64),rfl,rfl⟩,hagi,(Sep.selT (A:=[Go.Lx.box b1 110 ([encS p9,Value.int .i64 t3]),Go.Lx.box b3 50 (setv4.1.map (Value.int .u64)),Go.Lx.box b2 50 (setv4.1.map (Value.int .u64))]) (A':=[Go.Lx.box b1 110 ([encS p9,Value.int .i64 t3])]) (L:=Lt) hs [0] (by decide) rfl)⟩
   ·refine CN [Value.pointer (some ⟨b1,0,none⟩)] cf155 rfl (regex_reader_element_ok hpx2 hs) ?_
    rintro wv7 ⟨gg4,hlegg4,hs⟩
    replace hagi:=hagi.trans hlegg4
    obtain rfl:=Option.some.inj hM
    exact ⟨rfl,hds,gg4,hagi,Sep.tail (A:=[Go.Lx.box b2 50 ((Vec.zero 4).1.map (Value.int .u64))]) (L:=Lt) hs⟩
 ·refine CN [Value.pointer (some ⟨b1,0,none⟩),Value.int .u8 91] cf135 rfl (regex_reader_expect_ok hpx1 hs) ?_
  rintro wv2 ⟨gg1,hlegg1,hs⟩
  replace hagi:=hagi.trans hlegg1
  obtain rfl:=Option.some.inj hM
  exact ⟨rfl,hds,gg1,hagi,Sep.tail (A:=[Go.Lx.box b2 50 ((Vec.zero 4).1.map (Value.int .u64))]) (L:=Lt) hs⟩
set_option maxRecDepth 100000 in
theorem byteset_Of_ok {s1:Str} {r:(Vec 4)} (hM:M.byteset_Of s1=some r) {g0:Hp} {w0:World} (hi:Imm g0 w0) :
    CallsV Tryz.prog 158 #[encS s1] w0 (fun v w'=>∃g',(VRd (tVec 4 .u64) true g' v r)∧Ext g0 w0 g' w'):=by
 unfold M.byteset_Of at hM
 have hs:=Sep.start hi
 refine calls_of_WP (args:=[encS s1]) Tryz.func158 rfl Tryz.ntmps158 rfl ?_
 have hds:(argEnv [encS s1]).ds=[]:=rfl
 refine WP_seq<|WP_region<|OW_alloc ti50 hs (zs:=(Vec.zero 4).1.map (Value.int .u64)) rfl rfl ?_
 intro b1 wv1 hs
 refine OW_nil<|WP_seq<|WP_region<|OW_alloc ti50 hs (zs:=(Vec.zero 4).1.map (Value.int .u64)) rfl rfl ?_
 intro b2 wv2 hs
 refine OW_nil ?_
 obtain ⟨xv10,hx1,hKhx1⟩:=bindS hM
 refine WP_cut (fun E w=>E 2=Value.pointer (some ⟨b1,0,none⟩)∧E 3=Value.pointer (some ⟨b2,0,none⟩)∧E.ds=[]∧Go.Lx.Sep g0 w0 g0 w [Go.Lx.box b2 50 (xv10.1.map (Value.int .u64)),Go.Lx.box b1 50 ((Vec.zero 4).1.map (Value.int .u64))]) ?_ ?_
 ·have hM:=hx1
  have hag0:=Hle.refl g0
  refine WP_seq<|WP_region<|O (r_move (v:=encS s1) rfl) rfl<|O (r_lenStr Tryz.underlying9 rfl) rfl<|O (r_move (v:=Value.int .i64 0) rfl) rfl<|OW_nil<|WP_block<|WP_loop (fun (st9:(Vec 4)×Int) E w=>match st9 with|(xv14,xv15)=>E 0=encS s1∧E 2=Value.pointer (some ⟨b1,0,none⟩)∧E 3=Value.pointer (some ⟨b2,0,none⟩)∧E 6=Value.int .i64 (s1.length:Int)∧E 7=Value.int .i64 xv15∧E.ds=[]∧Go.Lx.Sep g0 w0 g0 w [Go.Lx.box b2 50 (xv14.1.map (Value.int .u64)),Go.Lx.box b1 50 ((Vec.zero 4).1.map (Value.int .u64))]) hM ⟨rfl,rfl,rfl,rfl,rfl,hds,hs⟩ ?_
  clear hs hM
  rintro ⟨xv14,xv15⟩ o2 E w hM ⟨hE0,hE2,hE3,hE6,hE7,hds,hs⟩
  obtain ⟨E,rfl⟩:=open5 (E:=E) hE0 hE2 hE3 hE6 hE7
  refine WP_seq<|WP_region<|O (r_lss rfl rfl) rfl<|OW_nil<|WP_seq ?_
  rcases condS hM with ⟨hc6,hM⟩|⟨hc6,hM⟩
  ·refine WP_true rfl hc6<|WP_skip<|WP_seq<|WP_block<|WP_seq<|WP_region<|O (r_move (v:=Value.int .i64 xv15) rfl) rfl<|O (r_assign (v:=Value.int .i64 xv15) rfl) rfl<|OW_nil<|WP_drawTail 13 mo (by decide +kernel) ?_
   have hs:=hs.drew
   refine S (r_move (v:=encS s1) rfl) rfl<|S (r_move (v:=Value.int .i64 xv15) rfl) rfl ?_
   obtain ⟨c11,hc11,hM⟩:=bindS hM
   refine S (r_idxStr Tryz.underlying9 rfl rfl hc11) rfl ?_
   obtain ⟨t21,ht21,hM⟩:=bindS hM
   refine S (r_quoM rfl rfl ht21) rfl ?_
   obtain ⟨c12,hc12,hM⟩:=bindS hM
   refine S (r_idxArr Tryz.underlying50 ti48 rfl rfl (vget_some hc12).1 (vget_some hc12).2.1) rfl<|S (r_load ti48 rfl (hs.cell (i:=0) rfl (vget_cell hc12))) rfl<|S (r_move (v:=encS s1) rfl) rfl<|S (r_move (v:=Value.int .i64 xv15) rfl) rfl<|S (r_idxStr Tryz.underlying9 rfl rfl hc11) rfl ?_
   obtain ⟨t22,ht22,hM⟩:=bindS hM
   refine S (r_remM rfl rfl ht22) rfl ?_
   obtain ⟨t23,ht23,hM⟩:=bindS hM
   refine S (r_shlM rfl rfl ht23) rfl<|S (r_or rfl rfl) rfl ?_
   obtain ⟨xv19,hxv19,hM⟩:=bindS hM
   refine S (r_idxArr Tryz.underlying50 ti48 rfl rfl (vset_some hxv19).1 (vset_some hxv19).2.1) rfl<|SW_nil<|OW_store1 ti48 hs (i:=0) rfl rfl (v:=Value.int .u64 (bits .or .u64 c12 t23)) rfl rfl (vset_lt hxv19) ?_
   intro wv8 hs
   replace hs:Go.Lx.Sep g0 w0 g0 wv8 [Go.Lx.box b2 50 (xv19.1.map (Value.int .u64)),Go.Lx.box b1 50 ((Vec.zero 4).1.map (Value.int .u64))]:=by have h9:=hs; simp only [List.set] at h9; rw [vset_cells hxv19] at h9; exact h9
   refine OW_nil<|WP_region ?_
   obtain ⟨t24,ht24,hM⟩:=bindS hM
   refine O (r_addM rfl rfl ht24) rfl<|O (r_move (v:=Value.int .i64 t24) rfl) rfl<|OW_nil ?_
   obtain rfl:=Option.some.inj hM
   exact ⟨rfl,rfl,rfl,rfl,rfl,hds,hs⟩
  ·refine WP_false rfl hc6<|WP_exit ?_
   obtain rfl:=Option.some.inj hM
   refine fun hr=>?_
   have hM:=congrArg some hr
   obtain rfl:=Option.some.inj hM
   exact ⟨rfl,rfl,hds,hs⟩
 ·clear hs
  rintro E w ⟨hE2,hE3,hds,hs⟩
  have hM:=hKhx1
  obtain ⟨E,rfl⟩:=open2 (E:=E) hE2 hE3
  refine WP_seq<|WP_region<|O (r_loadN (cs:=xv10.1.map (Value.int .u64)) ti50 rfl (by simp [xv10.2]) (hs.cells (i:=0) rfl)) rfl<|OW_storeAll ti50 hs (i:=1) rfl rfl (v:=encV .u64 xv10) rfl (vs:=xv10.1.map (Value.int .u64)) rfl vec_one (by simp [xv10.2]) (by simp [xv10.2,(Vec.zero 4).2]) ?_
  intro wv9 hs
  refine OW_nil<|WP_ret ?_
  obtain rfl:=Option.some.inj hM
  refine FL_nil hds ?_
  exact ⟨_,res1 Tryz.results158 (rv_cells (vs:=xv10.1.map (Value.int .u64)) ti50 rfl (by simp [xv10.2]) (hs.cells (i:=1) rfl)),g0,⟨xv10.1.map (Value.int .u64),rfl,rfl⟩,hs.ext⟩
set_option maxRecDepth 100000 in
theorem regex_dot_ok {r:(Vec 4)} (hM:M.regex_dot=some r) {g0:Hp} {w0:World} (hi:Imm g0 w0) :
    CallsV Tryz.prog 137 #[] w0 (fun v w'=>∃g',(VRd (tVec 4 .u64) true g' v r)∧Ext g0 w0 g' w'):=by
 unfold M.regex_dot at hM
 have hs:=Sep.start hi
 refine calls_of_WP (args:=[]) Tryz.func137 rfl Tryz.ntmps137 rfl ?_
 have hds:(argEnv []).ds=[]:=rfl
 refine WP_seq<|WP_region<|OW_alloc ti50 hs (zs:=(Vec.zero 4).1.map (Value.int .u64)) rfl rfl ?_
 intro b1 wv1 hs
 refine OW_nil<|WP_seq<|WP_region ?_
 obtain ⟨rv1,hrv1,hM⟩:=bindS hM
 refine C [encS [10]] cf158 rfl (byteset_Of_ok hrv1 hs.imm) rfl ?_
 rintro v1 wv2 ⟨gg1,hvv1,hegg1⟩
 have hlegg1:=hegg1.le hs.imm
 replace hs:=hs.call hegg1
 obtain ⟨cs1,rfl,hcs1⟩:=hvv1
 have hcs1:cs1=_:=hcs1; subst hcs1
 obtain ⟨rv2,hrv2,hM⟩:=bindS hM
 refine C [encV .u64 rv1] cf157 rfl (byteset_Complement_ok hrv2 hs.imm) rfl ?_
 rintro v2 wv3 ⟨gg2,hvv2,hegg2⟩
 have hlegg2:=hegg2.le hs.imm
 replace hs:=hs.call hegg2
 obtain ⟨cs2,rfl,hcs2⟩:=hvv2
 have hcs2:cs2=_:=hcs2; subst hcs2
 refine OW_storeAll ti50 hs (i:=0) rfl rfl (v:=encV .u64 rv2) rfl (vs:=rv2.1.map (Value.int .u64)) rfl vec_one (by simp [rv2.2]) (by simp [rv2.2,(Vec.zero 4).2]) ?_
 intro wv4 hs
 refine OW_nil<|WP_ret ?_
 obtain rfl:=Option.some.inj hM
 refine FL_nil hds ?_
 exact ⟨_,res1 Tryz.results137 (rv_cells (vs:=rv2.1.map (Value.int .u64)) ti50 rfl (by simp [rv2.2]) (hs.cells (i:=0) rfl)),gg2,⟨rv2.1.map (Value.int .u64),rfl,rfl⟩,hs.ext⟩
set_option maxRecDepth 100000 in
theorem regex_group_ok {kind1:Int} {l1:(List T_Regex)} {r:T_Regex} (hM:M.regex_group kind1 l1=some r) {g0:Hp} {w0:World} (hi:Imm g0 w0) {v1:Value} (hRv1:RdS tT_Regex g0 v1 l1) :
    CallsV Tryz.prog 82 #[Value.int .i64 kind1,v1] w0 (fun v w'=>∃g',(VRd tT_Regex true g' v r)∧Ext g0 w0 g' w'):=by
 unfold M.regex_group at hM
 have hs:=Sep.start hi
 refine calls_of_WP (args:=[Value.int .i64 kind1,v1]) Tryz.func82 rfl Tryz.ntmps82 rfl ?_
 have hds:(argEnv [Value.int .i64 kind1,v1]).ds=[]:=rfl
 refine WP_seq<|WP_region<|OW_alloc ti53 hs (zs:=([Value.int .i64 0])++(((Vec.zero 4).1.map (Value.int .u64))++([Value.slice none 0 0]))) rfl rfl ?_
 intro b1 wv1 hs
 refine OW_nil<|WP_seq<|WP_seq<|WP_region<|O (r_move (v:=v1) rfl) rfl ?_
 obtain ⟨a1,ca1,hva1⟩:=hRv1.shape
 refine O (r_lenSl (v:=v1) Tryz.underlying51 rfl hva1) rfl<|O (r_eql rfl rfl) rfl<|OW_nil ?_
 rcases condS hM with ⟨hc1,hM⟩|⟨hc1,hM⟩
 ·refine WP_true rfl hc1<|WP_seq<|WP_region<|O (r_move (v:=v1) rfl) rfl ?_
  obtain ⟨e1,he1,hM⟩:=bindS hM
  obtain ⟨b2,ob2,cb2,hvb2,cs1,hcs1,hcb2⟩:=hRv1.at he1
  obtain ⟨cs2,cs3,cs4,rfl,hcs2,hcs3,hcs4⟩:=tT_Regex_iff.1 hcs1
  have hcs2:cs2=_:=hcs2; subst hcs2
  have hcs3:cs3=_:=hcs3; subst hcs3
  obtain ⟨v2,rfl,hRv2⟩:=hcs4
  refine O (r_idxSl Tryz.underlying51 ti53 (v:=v1) rfl hvb2 rfl (idxL_some he1).1 (idxL_some he1).2.1) rfl<|O (r_loadEl (cs:=([Value.int .i64 e1.Kind])++((e1.Set.1.map (Value.int .u64))++([v2]))) ti53 rfl (by simp [e1.Set.2]) (.inl rfl) (hcb2 _ hs.imm) (v:=Value.agg (List.toArray (α:=Value) (([Value.int .i64 e1.Kind])++((e1.Set.1.map (Value.int .u64))++([v2]))))) rfl) rfl<|OW_storeAll ti53 hs (i:=0) rfl rfl (v:=Value.agg (List.toArray (α:=Value) (([Value.int .i64 e1.Kind])++((e1.Set.1.map (Value.int .u64))++([v2]))))) rfl (vs:=([Value.int .i64 e1.Kind])++((e1.Set.1.map (Value.int .u64))++([v2]))) rfl (one_append (one_cons rfl one_nil) (one_append vec_one (one_cons (by obtain ⟨_,_,h9⟩:=hRv2.shape; rw [h9]; rfl) one_nil))) (by simp [e1.Set.2]) (by simp [e1.Set.2,(Vec.zero 4).2]) ?_
  intro wv2 hs
  refine OW_nil<|WP_ret ?_
  obtain rfl:=Option.some.inj hM
  refine FL_nil hds ?_
  exact ⟨_,res1 Tryz.results82 (rv_cells (vs:=([Value.int .i64 e1.Kind])++((e1.Set.1.map (Value.int .u64))++([v2]))) ti53 rfl (by simp [e1.Set.2]) (hs.cells (i:=0) rfl)),g0,⟨([Value.int .i64 e1.Kind])++((e1.Set.1.map (Value.int .u64))++([v2])),rfl,(tT_Regex_iff.2 ⟨[Value.int .i64 e1.Kind],e1.Set.1.map (Value.int .u64),[v2],rfl,rfl,rfl,⟨_,rfl,hRv2⟩⟩)⟩,hs.ext⟩
 ·refine WP_false rfl hc1<|WP_skip<|WP_seq<|WP_region<|O (r_move (v:=Value.int .i64 kind1) rfl) rfl<|O (r_move (v:=v1) rfl) rfl<|O (r_build (vs:=[(0,Value.int .i64 kind1),(2,v1)]) (cs:=([Value.int .i64 kind1])++(((Vec.zero 4).1.map (Value.int .u64))++([v1]))) rfl (built_fill [(0,1),(1,4),(5,1)] (([Value.int .i64 0])++(((Vec.zero 4).1.map (Value.int .u64))++([Value.slice none 0 0]))) (fun _=>by kernel_rfl) (fill_step ([]) ([Value.int .i64 0]) (((Vec.zero 4).1.map (Value.int .u64))++([Value.slice none 0 0])) ([Value.int .i64 kind1]) rfl (by simp) rfl rfl rfl rfl<|fill_step (([Value.int .i64 kind1])++((Vec.zero 4).1.map (Value.int .u64))) ([Value.slice none 0 0]) ([]) ([v1]) rfl (by simp) (cells_one (by obtain ⟨_,_,h9⟩:=hRv1.shape; rw [h9]; rfl)) (by simp [(Vec.zero 4).2]) rfl rfl<|fill_done))) rfl ?_
  refine OW_storeAll ti53 hs (i:=0) rfl rfl (v:=Value.agg (List.toArray (α:=Value) (([Value.int .i64 kind1])++(((Vec.zero 4).1.map (Value.int .u64))++([v1]))))) rfl (vs:=([Value.int .i64 kind1])++(((Vec.zero 4).1.map (Value.int .u64))++([v1]))) rfl (one_append (one_cons rfl one_nil) (one_append vec_one (one_cons (by obtain ⟨_,_,h9⟩:=hRv1.shape; rw [h9]; rfl) one_nil))) (by simp [(Vec.zero 4).2]) (by simp [(Vec.zero 4).2,(Vec.zero 4).2]) ?_
  intro wv3 hs
  refine OW_nil<|WP_ret ?_
  obtain rfl:=Option.some.inj hM
  refine FL_nil hds ?_
  exact ⟨_,res1 Tryz.results82 (rv_cells (vs:=([Value.int .i64 kind1])++(((Vec.zero 4).1.map (Value.int .u64))++([v1]))) ti53 rfl (by simp [(Vec.zero 4).2]) (hs.cells (i:=0) rfl)),g0,⟨([Value.int .i64 kind1])++(((Vec.zero 4).1.map (Value.int .u64))++([v1])),rfl,(tT_Regex_iff.2 ⟨[Value.int .i64 kind1],(Vec.zero 4).1.map (Value.int .u64),[v1],rfl,rfl,rfl,⟨_,rfl,hRv1⟩⟩)⟩,hs.ext⟩
end Go.Proofs.YtggpjcdhflcfmaaGreatDoor
