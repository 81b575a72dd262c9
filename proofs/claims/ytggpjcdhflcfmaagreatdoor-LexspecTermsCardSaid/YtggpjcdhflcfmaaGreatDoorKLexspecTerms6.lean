/- Part 6 of what the law leans on: my own layer, printed walks, plain facts. -/
import Derived.Test.YtggpjcdhflcfmaaGreatDoorKLexspecTerms5
set_option linter.unusedVariables false
set_option linter.unusedSimpArgs false
namespace Go.Proofs.YtggpjcdhflcfmaaGreatDoor
open Go.Lx Go.RowKit
set_option maxRecDepth 100000 in
theorem lexspec_definition_5_ok {c1:T_Regex} {r:Bool} (hM:M.lexspec_definition_5 c1=some r) {g0:Hp} {w0:World} (hi:Imm g0 w0) {b1:Nat} {cs1:List Value} (hBb1:IBox 53 b1 cs1 g0) (hcs1:tT_Regex.rel g0 cs1 c1) :
    CallsV Tryz.prog 56 #[Value.pointer (some ⟨b1,0,none⟩)] w0 (fun v w'=>∃g',(VRd tBool false g' v r)∧Ext g0 w0 g' w'):=by
 unfold M.lexspec_definition_5 at hM
 obtain ⟨cs2,cs3,cs4,rfl,hcs2,hcs3,hcs4⟩:=tT_Regex_iff.1 hcs1
 have hcs2:cs2=_:=hcs2; subst hcs2
 have hcs3:cs3=_:=hcs3; subst hcs3
 obtain ⟨v1,rfl,hRv1⟩:=hcs4
 have hs:=Sep.start hi
 refine calls_of_WP (args:=[Value.pointer (some ⟨b1,0,none⟩)]) Tryz.func56 rfl Tryz.ntmps56 rfl ?_
 have hds:(argEnv [Value.pointer (some ⟨b1,0,none⟩)]).ds=[]:=rfl
 refine WP_seq<|WP_region<|O (r_assign (v:=Value.bool false) rfl) rfl<|OW_nil<|WP_seq<|WP_region<|O (r_loadEl (o:=0) (cs:=([Value.int .i64 c1.Kind])++((c1.Set.1.map (Value.int .u64))++([v1]))) ti53 rfl (by simp [c1.Set.2]) (.inl rfl) (hBb1.cells hs.imm) (v:=Value.agg (List.toArray (α:=Value) (([Value.int .i64 c1.Kind])++((c1.Set.1.map (Value.int .u64))++([v1]))))) rfl) rfl ?_
 obtain ⟨rv1,hrv1,hM⟩:=bindS hM
 refine C [Value.agg (List.toArray (α:=Value) (([Value.int .i64 c1.Kind])++((c1.Set.1.map (Value.int .u64))++([v1]))))] cf57 rfl (regex_Nullable_ok hrv1 hs.imm (tT_Regex_iff.2 ⟨[Value.int .i64 c1.Kind],c1.Set.1.map (Value.int .u64),[v1],rfl,rfl,rfl,⟨_,rfl,hRv1⟩⟩)) rfl ?_
 rintro v2 wv1 ⟨gg1,hvv2,hegg1⟩
 have hlegg1:=hegg1.le hs.imm
 replace hs:=hs.call hegg1
 obtain ⟨cs5,rfl,hcs5⟩:=hvv2
 have hcs5:cs5=_:=hcs5; subst hcs5
 refine O (r_assign (v:=Value.bool rv1) rfl) rfl<|OW_nil<|WP_ret ?_
 obtain rfl:=Option.some.inj hM
 refine FL_nil hds ?_
 exact ⟨_,res1 Tryz.results56 (rv_tmp (v:=Value.bool rv1) rfl),gg1,⟨[Value.bool rv1],rfl,rfl⟩,hs.ext⟩
set_option maxRecDepth 100000 in
theorem lexspec_printable_ok {s1:Str} {r:Bool} (hM:M.lexspec_printable s1=some r) {g0:Hp} {w0:World} (hi:Imm g0 w0) :
    CallsV Tryz.prog 59 #[encS s1] w0 (fun v w'=>∃g',(VRd tBool false g' v r)∧Ext g0 w0 g' w'):=by
 unfold M.lexspec_printable at hM
 have hs:=Sep.start hi
 refine calls_of_WP (args:=[encS s1]) Tryz.func59 rfl Tryz.ntmps59 rfl ?_
 have hds:(argEnv [encS s1]).ds=[]:=rfl
 refine WP_seq<|WP_region<|O (r_assign (v:=Value.bool false) rfl) rfl<|OW_nil ?_
 obtain ⟨o3,hx4,hKhx4⟩:=stepS hM
 refine WP_cut (fun E w=>∃u9:Unit,o3=.next u9∧E.ds=[]∧Go.Lx.Sep g0 w0 g0 w []) ?_ ?_
 ·have hM:=hx4
  have hag0:=Hle.refl g0
  refine WP_seq<|WP_region<|O (r_move (v:=encS s1) rfl) rfl<|O (r_lenStr Tryz.underlying9 rfl) rfl<|O (r_move (v:=Value.int .i64 0) rfl) rfl<|OW_nil<|WP_block<|WP_loop (fun (xv9:Int) E w=>E 0=encS s1∧E 5=Value.int .i64 (s1.length:Int)∧E 6=Value.int .i64 xv9∧E.ds=[]∧Go.Lx.Sep g0 w0 g0 w []) hM ⟨rfl,rfl,rfl,hds,hs⟩ ?_
  clear hs hM
  rintro xv9 o2 E w hM ⟨hE0,hE5,hE6,hds,hs⟩
  obtain ⟨E,rfl⟩:=open3 (E:=E) hE0 hE5 hE6
  refine WP_seq<|WP_region<|O (r_lss rfl rfl) rfl<|OW_nil<|WP_seq ?_
  rcases condS hM with ⟨hc11,hM⟩|⟨hc11,hM⟩
  ·refine WP_true rfl hc11<|WP_skip<|WP_seq<|WP_block<|WP_seq<|WP_region<|O (r_move (v:=Value.int .i64 xv9) rfl) rfl<|O (r_assign (v:=Value.int .i64 xv9) rfl) rfl<|OW_nil ?_
   obtain ⟨xv12,hx7,hKhx7⟩:=bindS hM
   refine WP_cut (fun E w=>E 0=encS s1∧E 5=Value.int .i64 (s1.length:Int)∧E 6=Value.int .i64 xv9∧E 18=Value.bool xv12∧E.ds=[]∧Go.Lx.Sep g0 w0 g0 w []) ?_ ?_
   ·have hM:=hx7
    refine WP_region<|O (r_move (v:=encS s1) rfl) rfl<|O (r_move (v:=Value.int .i64 xv9) rfl) rfl ?_
    obtain ⟨c12,hc12,hM⟩:=bindS hM
    refine O (r_idxStr Tryz.underlying9 rfl rfl hc12) rfl<|O (r_lss rfl rfl) rfl<|O (r_move (v:=Value.bool (decide (c12<32))) rfl) rfl ?_
    rcases condS hM with ⟨hg12,hM⟩|⟨hg12,hM⟩
    ·refine OK rfl rfl rfl (by rw [hg12]; rfl) rfl<|OK rfl rfl rfl (by rw [hg12]; rfl) rfl<|OK rfl rfl rfl (by rw [hg12]; rfl) rfl<|OK rfl rfl rfl (by rw [hg12]; rfl) rfl<|O (r_pickT (v:=Value.bool true) rfl hg12 rfl) rfl<|OW_nil ?_
     obtain rfl:=Option.some.inj hM
     exact ⟨rfl,rfl,rfl,rfl,hds,hs⟩
    ·refine OG rfl rfl rfl (by rw [hg12]; rfl) (r_move (v:=encS s1) rfl) rfl<|OG rfl rfl rfl (by rw [hg12]; rfl) (r_move (v:=Value.int .i64 xv9) rfl) rfl<|OG rfl rfl rfl (by rw [hg12]; rfl) (r_idxStr Tryz.underlying9 rfl rfl hc12) rfl<|OG rfl rfl rfl (by rw [hg12]; rfl) (r_gtr rfl rfl) rfl<|O (r_pickF (v:=Value.bool (decide (126<c12))) rfl hg12 rfl) rfl<|OW_nil ?_
     obtain rfl:=Option.some.inj hM
     exact ⟨rfl,rfl,rfl,rfl,hds,hs⟩
   ·clear hs
    rintro E w ⟨hE0,hE5,hE6,hE18,hds,hs⟩
    have hM:=hKhx7
    obtain ⟨E,rfl⟩:=open4 (E:=E) hE0 hE5 hE6 hE18
    rcases condS hM with ⟨hc12,hM⟩|⟨hc12,hM⟩
    ·refine WP_true rfl hc12<|WP_seq<|WP_region<|O (r_assign (v:=Value.bool false) rfl) rfl<|OW_nil<|WP_ret ?_
     obtain rfl:=Option.some.inj hM
     refine fun hr=>?_
     have hM:=congrArg some hr
     obtain rfl:=Option.some.inj hM
     have hM:=hKhx4
     obtain rfl:=Option.some.inj hM
     refine FL_nil hds ?_
     exact ⟨_,res1 Tryz.results59 (rv_tmp (v:=Value.bool false) rfl),g0,⟨[Value.bool false],rfl,rfl⟩,hs.ext⟩
    ·refine WP_false rfl hc12<|WP_skip<|WP_region ?_
     obtain ⟨t6,ht6,hM⟩:=bindS hM
     refine O (r_addM rfl rfl ht6) rfl<|O (r_move (v:=Value.int .i64 t6) rfl) rfl<|OW_nil ?_
     obtain rfl:=Option.some.inj hM
     exact ⟨rfl,rfl,rfl,hds,hs⟩
  ·refine WP_false rfl hc11<|WP_exit ?_
   obtain rfl:=Option.some.inj hM
   refine fun hr=>?_
   have hM:=congrArg some hr
   obtain rfl:=Option.some.inj hM
   exact ⟨(),rfl,hds,hs⟩
 ·clear hs
  rintro E w ⟨_,rfl,hds,hs⟩
  have hM:=hKhx4
  dsimp only [onStep] at hM
  refine WP_seq<|WP_region<|O (r_assign (v:=Value.bool true) rfl) rfl<|OW_nil<|WP_ret ?_
  obtain rfl:=Option.some.inj hM
  refine FL_nil hds ?_
  exact ⟨_,res1 Tryz.results59 (rv_tmp (v:=Value.bool true) rfl),g0,⟨[Value.bool true],rfl,rfl⟩,hs.ext⟩
set_option maxRecDepth 100000 in
theorem lexspec_definition_6_ok {c1:T_TokenDef} {r:Bool} (hM:M.lexspec_definition_6 c1=some r) {g0:Hp} {w0:World} (hi:Imm g0 w0) {b1:Nat} {cs1:List Value} (hBb1:IBox 46 b1 cs1 g0) (hcs1:tT_TokenDef.rel g0 cs1 c1) :
    CallsV Tryz.prog 58 #[Value.pointer (some ⟨b1,0,none⟩)] w0 (fun v w'=>∃g',(VRd tBool false g' v r)∧Ext g0 w0 g' w'):=by
 unfold M.lexspec_definition_6 at hM
 obtain ⟨cs2,cs3,cs4,cs5,cs6,rfl,hcs2,hcs3,hcs4,hcs5,hcs6⟩:=hcs1
 have hcs2:cs2=_:=hcs2; subst hcs2
 have hcs3:cs3=_:=hcs3; subst hcs3
 have hcs4:cs4=_:=hcs4; subst hcs4
 have hcs5:cs5=_:=hcs5; subst hcs5
 have hcs6:cs6=_:=hcs6; subst hcs6
 have hs:=Sep.start hi
 refine calls_of_WP (args:=[Value.pointer (some ⟨b1,0,none⟩)]) Tryz.func58 rfl Tryz.ntmps58 rfl ?_
 have hds:(argEnv [Value.pointer (some ⟨b1,0,none⟩)]).ds=[]:=rfl
 refine WP_seq<|WP_region<|O (r_assign (v:=Value.bool false) rfl) rfl<|OW_nil<|WP_seq<|WP_region<|O (r_fieldAddr Tryz.underlying46 ti9 rfl rfl (by decide) rfl rfl) rfl<|O (r_loadEl (o:=4) (cs:=[encS c1.Close]) ti9 rfl rfl (.inr rfl) (elemField (cs:=[encS c1.Name,Value.int .i64 c1.Kind,encS c1.Pattern,encS c1.Sample,encS c1.Close]) (hBb1.cells hs.imm) ([encS c1.Name,Value.int .i64 c1.Kind,encS c1.Pattern,encS c1.Sample]) ([encS c1.Close]) ([]) rfl rfl) (v:=encS c1.Close) rfl) rfl ?_
 obtain ⟨rv1,hrv1,hM⟩:=bindS hM
 refine C [encS c1.Close] cf59 rfl (lexspec_printable_ok hrv1 hs.imm) rfl ?_
 rintro v1 wv1 ⟨gg1,hvv1,hegg1⟩
 have hlegg1:=hegg1.le hs.imm
 replace hs:=hs.call hegg1
 obtain ⟨cs7,rfl,hcs7⟩:=hvv1
 have hcs7:cs7=_:=hcs7; subst hcs7
 refine O (r_not rfl) rfl<|O (r_assign (v:=Value.bool (!rv1)) rfl) rfl<|OW_nil<|WP_ret ?_
 obtain rfl:=Option.some.inj hM
 refine FL_nil hds ?_
 exact ⟨_,res1 Tryz.results58 (rv_tmp (v:=Value.bool (!rv1)) rfl),gg1,⟨[Value.bool (!rv1)],rfl,rfl⟩,hs.ext⟩
set_option maxRecDepth 100000 in
theorem lexspec_definition_ok {defs1:(List T_TokenDef)} {i1:Int} {r:Int} (hM:M.lexspec_definition defs1 i1=some r) {g0:Hp} {w0:World} (hi:Imm g0 w0) {v1:Value} (hRv1:RdS tT_TokenDef g0 v1 defs1) (hG0:GBox 0 (M.layoutTerms.map encS) g0) :
    CallsV Tryz.prog 33 #[v1,Value.int .i64 i1] w0 (fun v w'=>∃g',(VRd (tInt .i64) false g' v r)∧Ext g0 w0 g' w'):=by
 unfold M.lexspec_definition at hM
 have hs:=Sep.start hi
 refine calls_of_WP (args:=[v1,Value.int .i64 i1]) Tryz.func33 rfl Tryz.ntmps33 rfl ?_
 have hds:(argEnv [v1,Value.int .i64 i1]).ds=[]:=rfl
 refine WP_seq<|WP_region<|OW_box (v:=v1) rfl hs (zs:=[v1]) (Array.ext' (cells_one (by obtain ⟨_,_,h9⟩:=hRv1.shape; rw [h9]; rfl))) rfl ?_
 intro b1 wv1 hs
 refine OW_box (v:=Value.int .i64 i1) rfl hs (zs:=[Value.int .i64 i1]) rfl rfl ?_
 intro b2 wv2 hs
 refine O (r_assign (v:=Value.int .i64 0) rfl) rfl<|OW_nil<|WP_seq<|WP_region<|O (r_load (v:=v1) ti22 rfl (hs.cell (i:=1) (o:=0) rfl rfl)) rfl<|O (r_load (v:=Value.int .i64 i1) ti3 rfl (hs.cell (i:=0) (o:=0) rfl rfl)) rfl ?_
 obtain ⟨e1,he1,hM⟩:=bindS hM
 obtain ⟨b3,ob3,cb3,hvb3,cs1,hcs1,hcb3⟩:=hRv1.at he1
 obtain ⟨cs2,cs3,cs4,cs5,cs6,rfl,hcs2,hcs3,hcs4,hcs5,hcs6⟩:=hcs1
 have hcs2:cs2=_:=hcs2; subst hcs2
 have hcs3:cs3=_:=hcs3; subst hcs3
 have hcs4:cs4=_:=hcs4; subst hcs4
 have hcs5:cs5=_:=hcs5; subst hcs5
 have hcs6:cs6=_:=hcs6; subst hcs6
 refine O (r_idxSl Tryz.underlying22 ti46 (v:=v1) rfl hvb3 rfl (idxL_some he1).1 (idxL_some he1).2.1) rfl<|O (r_loadEl (cs:=[encS e1.Name,Value.int .i64 e1.Kind,encS e1.Pattern,encS e1.Sample,encS e1.Close]) ti46 rfl rfl (.inl rfl) (hcb3 _ hs.imm) (v:=Value.agg (List.toArray (α:=Value) [encS e1.Name,Value.int .i64 e1.Kind,encS e1.Pattern,encS e1.Sample,encS e1.Close])) rfl) rfl<|OW_alloc ti46 hs (zs:=[encS [],Value.int .i64 0,encS [],encS [],encS []]) rfl rfl ?_
 intro b4 wv3 hs
 refine OW_storeAll ti46 hs (i:=0) rfl rfl (v:=Value.agg (List.toArray (α:=Value) [encS e1.Name,Value.int .i64 e1.Kind,encS e1.Pattern,encS e1.Sample,encS e1.Close])) rfl (vs:=[encS e1.Name,Value.int .i64 e1.Kind,encS e1.Pattern,encS e1.Sample,encS e1.Close]) rfl (one_cons rfl (one_cons rfl (one_cons rfl (one_cons rfl (one_cons rfl one_nil))))) rfl rfl ?_
 intro wv4 hs
 refine OW_nil<|WP_seq<|WP_region<|O (r_fieldAddr Tryz.underlying46 ti9 rfl rfl (by decide) rfl rfl) rfl<|O (r_load (v:=encS e1.Pattern) ti9 rfl (hs.cell (i:=0) (o:=2) rfl rfl)) rfl ?_
 obtain ⟨rv1,hrv1,hM⟩:=bindS hM
 refine C [encS e1.Pattern] cf34 rfl (regex_Parse_ok hrv1 hs.imm) rfl ?_
 rintro v2 wv5 ⟨gg1,hvv2,hegg1⟩
 have hlegg1:=hegg1.le hs.imm
 replace hs:=hs.call hegg1
 replace hRv1:=hRv1.mono hlegg1
 replace hG0:=hG0.mono hlegg1
 obtain ⟨v3,v4,v5,rfl,hvv3,hvv4,hvv5⟩:=hvv2
 obtain ⟨cs7,rfl,hcs7⟩:=hvv5
 have hcs7:cs7=_:=hcs7; subst hcs7
 obtain ⟨cs8,rfl,hcs8⟩:=hvv4
 have hcs8:cs8=_:=hcs8; subst hcs8
 obtain ⟨cs9,rfl,hcs9⟩:=hvv3
 obtain ⟨cs10,cs11,cs12,rfl,hcs10,hcs11,hcs12⟩:=tT_Regex_iff.1 hcs9
 have hcs10:cs10=_:=hcs10; subst hcs10
 have hcs11:cs11=_:=hcs11; subst hcs11
 obtain ⟨v6,rfl,hRv6⟩:=hcs12
 refine O (r_move (v:=Value.tuple #[Value.agg (List.toArray (α:=Value) (([Value.int .i64 rv1.1.Kind])++((rv1.1.Set.1.map (Value.int .u64))++([v6])))),Value.int .i64 rv1.2.1,Value.int .i64 rv1.2.2]) rfl) rfl<|O (r_extract (vs:=[Value.agg (List.toArray (α:=Value) (([Value.int .i64 rv1.1.Kind])++((rv1.1.Set.1.map (Value.int .u64))++([v6])))),Value.int .i64 rv1.2.1,Value.int .i64 rv1.2.2]) (v:=Value.agg (List.toArray (α:=Value) (([Value.int .i64 rv1.1.Kind])++((rv1.1.Set.1.map (Value.int .u64))++([v6]))))) rfl rfl) rfl<|O (r_extract (vs:=[Value.agg (List.toArray (α:=Value) (([Value.int .i64 rv1.1.Kind])++((rv1.1.Set.1.map (Value.int .u64))++([v6])))),Value.int .i64 rv1.2.1,Value.int .i64 rv1.2.2]) (v:=Value.int .i64 rv1.2.1) rfl rfl) rfl ?_
 refine O (r_extract (vs:=[Value.agg (List.toArray (α:=Value) (([Value.int .i64 rv1.1.Kind])++((rv1.1.Set.1.map (Value.int .u64))++([v6])))),Value.int .i64 rv1.2.1,Value.int .i64 rv1.2.2]) (v:=Value.int .i64 rv1.2.2) rfl rfl) rfl<|OW_alloc ti53 hs (zs:=([Value.int .i64 0])++(((Vec.zero 4).1.map (Value.int .u64))++([Value.slice none 0 0]))) rfl rfl ?_
 intro b5 wv6 hs
 refine OW_alloc ti38 hs (zs:=[Value.int .i64 0]) rfl rfl ?_
 intro b6 wv7 hs
 refine OW_storeAll ti53 hs (i:=1) rfl rfl (v:=Value.agg (List.toArray (α:=Value) (([Value.int .i64 rv1.1.Kind])++((rv1.1.Set.1.map (Value.int .u64))++([v6]))))) rfl (vs:=([Value.int .i64 rv1.1.Kind])++((rv1.1.Set.1.map (Value.int .u64))++([v6]))) rfl (one_append (one_cons rfl one_nil) (one_append vec_one (one_cons (by obtain ⟨_,_,h9⟩:=hRv6.shape; rw [h9]; rfl) one_nil))) (by simp [rv1.1.Set.2]) (by simp [rv1.1.Set.2,(Vec.zero 4).2]) ?_
 intro wv8 hs
 refine O (r_assign (v:=Value.int .i64 rv1.2.1) rfl) rfl<|OW_store1 ti38 hs (i:=0) rfl rfl (v:=Value.int .i64 rv1.2.2) rfl rfl (o:=0) (Nat.zero_lt_succ _) ?_
 intro wv9 hs
 refine OW_nil<|WP_seq<|WP_region<|O (r_makeFunc (vs:=[Value.pointer (some ⟨b1,0,none⟩),Value.pointer (some ⟨b2,0,none⟩),Value.pointer (some ⟨b4,0,none⟩)]) rfl) rfl<|O (r_assign (v:=Value.func (.func 51) #[] (List.toArray [Value.pointer (some ⟨b1,0,none⟩),Value.pointer (some ⟨b2,0,none⟩),Value.pointer (some ⟨b4,0,none⟩)])) rfl) rfl<|OW_nil<|WP_seq<|WP_region<|O (r_makeFunc (vs:=[Value.pointer (some ⟨b4,0,none⟩)]) rfl) rfl ?_
 obtain ⟨gg2,hlegg2,hBgg2,hs⟩:=hs.relBox (i:=2) rfl
 replace hRv1:=hRv1.mono hlegg2
 replace hG0:=hG0.mono hlegg2
 replace hRv6:=hRv6.mono hlegg2
 refine O (r_build (vs:=[(0,Value.func (.func 52) #[] (List.toArray [Value.pointer (some ⟨b4,0,none⟩)])),(1,Value.int .i64 4)]) (cs:=[Value.func (.func 52) #[] (List.toArray [Value.pointer (some ⟨b4,0,none⟩)]),Value.int .i64 4]) rfl (by kernel_rfl)) rfl<|O (r_move (v:=Value.func (.func 51) #[] (List.toArray [Value.pointer (some ⟨b1,0,none⟩),Value.pointer (some ⟨b2,0,none⟩),Value.pointer (some ⟨b4,0,none⟩)])) rfl) rfl ?_
 obtain ⟨gg3,hlegg3,hBgg3,hs⟩:=hs.relBox (i:=3) rfl
 replace hRv1:=hRv1.mono hlegg3
 replace hG0:=hG0.mono hlegg3
 replace hRv6:=hRv6.mono hlegg3
 replace hBgg2:=hBgg2.mono hlegg3
 obtain ⟨gg4,hlegg4,hBgg4,hs⟩:=hs.relBox (i:=2) rfl
 replace hRv1:=hRv1.mono hlegg4
 replace hG0:=hG0.mono hlegg4
 replace hRv6:=hRv6.mono hlegg4
 replace hBgg2:=hBgg2.mono hlegg4
 replace hBgg3:=hBgg3.mono hlegg4
 refine O (r_build (vs:=[(0,Value.func (.func 51) #[] (List.toArray [Value.pointer (some ⟨b1,0,none⟩),Value.pointer (some ⟨b2,0,none⟩),Value.pointer (some ⟨b4,0,none⟩)])),(1,Value.int .i64 5)]) (cs:=[Value.func (.func 51) #[] (List.toArray [Value.pointer (some ⟨b1,0,none⟩),Value.pointer (some ⟨b2,0,none⟩),Value.pointer (some ⟨b4,0,none⟩)]),Value.int .i64 5]) rfl (by kernel_rfl)) rfl<|O (r_makeFunc (vs:=[Value.pointer (some ⟨b4,0,none⟩)]) rfl) rfl<|O (r_build (vs:=[(0,Value.func (.func 54) #[] (List.toArray [Value.pointer (some ⟨b4,0,none⟩)])),(1,Value.int .i64 1)]) (cs:=[Value.func (.func 54) #[] (List.toArray [Value.pointer (some ⟨b4,0,none⟩)]),Value.int .i64 1]) rfl (by kernel_rfl)) rfl ?_
 refine O (r_makeFunc (vs:=[Value.pointer (some ⟨b6,0,none⟩)]) rfl) rfl<|O (r_load (v:=Value.int .i64 rv1.2.2) ti38 rfl (hs.cell (i:=0) (o:=0) rfl rfl)) rfl ?_
 obtain ⟨gg5,hlegg5,hBgg5,hs⟩:=hs.relBox (i:=0) rfl
 replace hRv1:=hRv1.mono hlegg5
 replace hG0:=hG0.mono hlegg5
 replace hRv6:=hRv6.mono hlegg5
 replace hBgg2:=hBgg2.mono hlegg5
 replace hBgg3:=hBgg3.mono hlegg5
 replace hBgg4:=hBgg4.mono hlegg5
 refine O (r_build (vs:=[(0,Value.func (.func 55) #[] (List.toArray [Value.pointer (some ⟨b6,0,none⟩)])),(1,Value.int .i64 rv1.2.2)]) (cs:=[Value.func (.func 55) #[] (List.toArray [Value.pointer (some ⟨b6,0,none⟩)]),Value.int .i64 rv1.2.2]) rfl (by kernel_rfl)) rfl<|O (r_makeFunc (vs:=[Value.pointer (some ⟨b5,0,none⟩)]) rfl) rfl ?_
 obtain ⟨gg6,hlegg6,hBgg6,hs⟩:=hs.relBox (i:=0) rfl
 replace hRv1:=hRv1.mono hlegg6
 replace hG0:=hG0.mono hlegg6
 replace hRv6:=hRv6.mono hlegg6
 replace hBgg2:=hBgg2.mono hlegg6
 replace hBgg3:=hBgg3.mono hlegg6
 replace hBgg4:=hBgg4.mono hlegg6
 replace hBgg5:=hBgg5.mono hlegg6
 refine O (r_build (vs:=[(0,Value.func (.func 56) #[] (List.toArray [Value.pointer (some ⟨b5,0,none⟩)])),(1,Value.int .i64 10)]) (cs:=[Value.func (.func 56) #[] (List.toArray [Value.pointer (some ⟨b5,0,none⟩)]),Value.int .i64 10]) rfl (by kernel_rfl)) rfl<|O (r_makeFunc (vs:=[Value.pointer (some ⟨b4,0,none⟩)]) rfl) rfl<|O (r_build (vs:=[(0,Value.func (.func 58) #[] (List.toArray [Value.pointer (some ⟨b4,0,none⟩)])),(1,Value.int .i64 1)]) (cs:=[Value.func (.func 58) #[] (List.toArray [Value.pointer (some ⟨b4,0,none⟩)]),Value.int .i64 1]) rfl (by kernel_rfl)) rfl<|OW_lit (τ:=tT_S105) [Value.agg (List.toArray (α:=Value) [Value.func (.func 52) #[] (List.toArray [Value.pointer (some ⟨b4,0,none⟩)]),Value.int .i64 4]),Value.agg (List.toArray (α:=Value) [Value.func (.func 51) #[] (List.toArray [Value.pointer (some ⟨b1,0,none⟩),Value.pointer (some ⟨b2,0,none⟩),Value.pointer (some ⟨b4,0,none⟩)]),Value.int .i64 5]),Value.agg (List.toArray (α:=Value) [Value.func (.func 54) #[] (List.toArray [Value.pointer (some ⟨b4,0,none⟩)]),Value.int .i64 1]),Value.agg (List.toArray (α:=Value) [Value.func (.func 55) #[] (List.toArray [Value.pointer (some ⟨b6,0,none⟩)]),Value.int .i64 rv1.2.2]),Value.agg (List.toArray (α:=Value) [Value.func (.func 56) #[] (List.toArray [Value.pointer (some ⟨b5,0,none⟩)]),Value.int .i64 10]),Value.agg (List.toArray (α:=Value) [Value.func (.func 58) #[] (List.toArray [Value.pointer (some ⟨b4,0,none⟩)]),Value.int .i64 1])] [(T_S105.mk (M.lexspec_definition_2 e1) 4),(T_S105.mk (M.lexspec_definition_1 defs1 i1 e1) 5),(T_S105.mk (M.lexspec_definition_3 e1) 1),(T_S105.mk (M.lexspec_definition_4 rv1.2.2) rv1.2.2),(T_S105.mk (M.lexspec_definition_5 rv1.1) 10),(T_S105.mk (M.lexspec_definition_6 e1) 1)] Tryz.underlying106 ti105 (by decide) hs rfl rfl rfl ⟨⟨[Value.func (.func 52) #[] (List.toArray [Value.pointer (some ⟨b4,0,none⟩)])],[Value.int .i64 4],rfl,⟨_,rfl,(show FnRd0 Tryz.prog (VRd tBool false) (Value.func (.func 52) #[] (List.toArray [Value.pointer (some ⟨b4,0,none⟩)])) (M.lexspec_definition_2 e1) gg6 from ⟨52,[Value.pointer (some ⟨b4,0,none⟩)],rfl,cf52,fun g9 w9  r9 hle9 hi9  hM9=>by skip; exact lexspec_definition_2_ok hM9 hi9 (hBgg2.mono hle9) (tT_TokenDef.mono hle9 (⟨[encS e1.Name],[Value.int .i64 e1.Kind],[encS e1.Pattern],[encS e1.Sample],[encS e1.Close],rfl,rfl,rfl,rfl,rfl,rfl⟩)) (hG0.mono hle9)⟩)⟩,rfl⟩,⟨[Value.func (.func 51) #[] (List.toArray [Value.pointer (some ⟨b1,0,none⟩),Value.pointer (some ⟨b2,0,none⟩),Value.pointer (some ⟨b4,0,none⟩)])],[Value.int .i64 5],rfl,⟨_,rfl,(show FnRd0 Tryz.prog (VRd tBool false) (Value.func (.func 51) #[] (List.toArray [Value.pointer (some ⟨b1,0,none⟩),Value.pointer (some ⟨b2,0,none⟩),Value.pointer (some ⟨b4,0,none⟩)])) (M.lexspec_definition_1 defs1 i1 e1) gg6 from ⟨51,[Value.pointer (some ⟨b1,0,none⟩),Value.pointer (some ⟨b2,0,none⟩),Value.pointer (some ⟨b4,0,none⟩)],rfl,cf51,fun g9 w9  r9 hle9 hi9  hM9=>by skip; exact lexspec_definition_1_ok hM9 hi9 (hBgg3.mono hle9) ((tSl tT_TokenDef).mono hle9 (⟨_,rfl,hRv1⟩)) (hBgg4.mono hle9) ((tInt .i64).mono hle9 rfl) (hBgg2.mono hle9) (tT_TokenDef.mono hle9 (⟨[encS e1.Name],[Value.int .i64 e1.Kind],[encS e1.Pattern],[encS e1.Sample],[encS e1.Close],rfl,rfl,rfl,rfl,rfl,rfl⟩))⟩)⟩,rfl⟩,⟨[Value.func (.func 54) #[] (List.toArray [Value.pointer (some ⟨b4,0,none⟩)])],[Value.int .i64 1],rfl,⟨_,rfl,(show FnRd0 Tryz.prog (VRd tBool false) (Value.func (.func 54) #[] (List.toArray [Value.pointer (some ⟨b4,0,none⟩)])) (M.lexspec_definition_3 e1) gg6 from ⟨54,[Value.pointer (some ⟨b4,0,none⟩)],rfl,cf54,fun g9 w9  r9 hle9 hi9  hM9=>by skip; exact lexspec_definition_3_ok hM9 hi9 (hBgg2.mono hle9) (tT_TokenDef.mono hle9 (⟨[encS e1.Name],[Value.int .i64 e1.Kind],[encS e1.Pattern],[encS e1.Sample],[encS e1.Close],rfl,rfl,rfl,rfl,rfl,rfl⟩))⟩)⟩,rfl⟩,⟨[Value.func (.func 55) #[] (List.toArray [Value.pointer (some ⟨b6,0,none⟩)])],[Value.int .i64 rv1.2.2],rfl,⟨_,rfl,(show FnRd0 Tryz.prog (VRd tBool false) (Value.func (.func 55) #[] (List.toArray [Value.pointer (some ⟨b6,0,none⟩)])) (M.lexspec_definition_4 rv1.2.2) gg6 from ⟨55,[Value.pointer (some ⟨b6,0,none⟩)],rfl,cf55,fun g9 w9  r9 hle9 hi9  hM9=>by skip; exact lexspec_definition_4_ok hM9 hi9 (hBgg5.mono hle9) ((tInt .i64).mono hle9 rfl)⟩)⟩,rfl⟩,⟨[Value.func (.func 56) #[] (List.toArray [Value.pointer (some ⟨b5,0,none⟩)])],[Value.int .i64 10],rfl,⟨_,rfl,(show FnRd0 Tryz.prog (VRd tBool false) (Value.func (.func 56) #[] (List.toArray [Value.pointer (some ⟨b5,0,none⟩)])) (M.lexspec_definition_5 rv1.1) gg6 from ⟨56,[Value.pointer (some ⟨b5,0,none⟩)],rfl,cf56,fun g9 w9  r9 hle9 hi9  hM9=>by skip; exact lexspec_definition_5_ok hM9 hi9 (hBgg6.mono hle9) (tT_Regex.mono hle9 (tT_Regex_iff.2 ⟨[Value.int .i64 rv1.1.Kind],rv1.1.Set.1.map (Value.int .u64),[v6],rfl,rfl,rfl,⟨_,rfl,hRv6⟩⟩))⟩)⟩,rfl⟩,⟨[Value.func (.func 58) #[] (List.toArray [Value.pointer (some ⟨b4,0,none⟩)])],[Value.int .i64 1],rfl,⟨_,rfl,(show FnRd0 Tryz.prog (VRd tBool false) (Value.func (.func 58) #[] (List.toArray [Value.pointer (some ⟨b4,0,none⟩)])) (M.lexspec_definition_6 e1) gg6 from ⟨58,[Value.pointer (some ⟨b4,0,none⟩)],rfl,cf58,fun g9 w9  r9 hle9 hi9  hM9=>by skip; exact lexspec_definition_6_ok hM9 hi9 (hBgg2.mono hle9) (tT_TokenDef.mono hle9 (⟨[encS e1.Name],[Value.int .i64 e1.Kind],[encS e1.Pattern],[encS e1.Sample],[encS e1.Close],rfl,rfl,rfl,rfl,rfl,rfl⟩))⟩)⟩,rfl⟩,trivial⟩ rfl ?_
 intro v7 wv10 xs1 hrelxs1 hs
 refine O (r_assign (v:=v7) rfl) rfl<|OW_nil ?_
 obtain ⟨o3,hx1,hKhx1⟩:=stepS hM
 refine WP_cut (fun E w=>∃u9:Unit,o3=.next u9∧∃(gg13:Hp),E.ds=[]∧Hle gg6 gg13∧Go.Lx.Sep g0 w0 gg13 w []) ?_ ?_
 ·have hM:=hx1
  have hagg6:=Hle.refl gg6
  refine WP_seq<|WP_region<|O (r_move (v:=v7) rfl) rfl ?_
  obtain ⟨a2,ca2,hva2⟩:=hs.rowShape (i:=0) rfl
  obtain ⟨t5,ht5,hM⟩:=bindS hM
  refine O (Runs.cast (r_lenSl (v:=v7) Tryz.underlying106 rfl hva2) (congrArg (Value.int .i64) (Option.some.inj ht5))) rfl<|O (r_move (v:=Value.int .i64 0) rfl) rfl<|OW_nil<|WP_block<|WP_loop (fun (xv5:Int) E w=>∃(gg16:Hp),E 39=v7∧E 40=Value.int .i64 t5∧E 41=Value.int .i64 xv5∧E.ds=[]∧Hle gg6 gg16∧Go.Lx.Sep g0 w0 gg16 w [.row v7 105 tT_S105.sz [(T_S105.mk (M.lexspec_definition_2 e1) 4),(T_S105.mk (M.lexspec_definition_1 defs1 i1 e1) 5),(T_S105.mk (M.lexspec_definition_3 e1) 1),(T_S105.mk (M.lexspec_definition_4 rv1.2.2) rv1.2.2),(T_S105.mk (M.lexspec_definition_5 rv1.1) 10),(T_S105.mk (M.lexspec_definition_6 e1) 1)].length xs1]) hM ⟨gg6,rfl,rfl,rfl,hds,(Hle.refl _),hs⟩ ?_
  clear hs hM
  rintro xv5 o2 E w hM ⟨gg16,hE39,hE40,hE41,hds,hlegg16,hs⟩
  obtain ⟨E,rfl⟩:=open3 (E:=E) hE39 hE40 hE41
  replace hrelxs1:=hrelxs1.mono hlegg16
  have hagg16:=Hle.refl gg16
  refine WP_seq<|WP_region<|O (r_lss rfl rfl) rfl<|OW_nil<|WP_seq ?_
  rcases condS hM with ⟨hc11,hM⟩|⟨hc11,hM⟩
  ·refine WP_true rfl hc11<|WP_skip<|WP_seq<|WP_block<|WP_seq<|WP_region ?_
   obtain ⟨e7,he7,hM⟩:=bindS hM
   obtain ⟨b17,cb17,hvb17,cs33,hcs33,hcb17⟩:=hs.rowEl (i:=0) rfl hrelxs1 he7
   obtain ⟨cs34,cs35,rfl,hcs34,hcs35⟩:=hcs33
   obtain ⟨v18,rfl,hFv18⟩:=hcs34
   have hcs35:cs35=_:=hcs35; subst hcs35
   refine O (r_idxSl Tryz.underlying106 ti105 (v:=v7) rfl hvb17 rfl (idxL_some he7).1 (idxL_some he7).2.1) rfl<|O (r_loadEl (cs:=[v18,Value.int .i64 e7.err]) ti105 rfl rfl (.inl rfl) (hcb17 _ (hs.at (i:=0) rfl)) (v:=Value.agg (List.toArray (α:=Value) [v18,Value.int .i64 e7.err])) rfl) rfl<|OW_alloc ti105 hs (zs:=[Value.nilFunc,Value.int .i64 0]) rfl rfl ?_
   intro b18 wv26 hs
   refine OW_storeAll ti105 hs (i:=0) rfl rfl (v:=Value.agg (List.toArray (α:=Value) [v18,Value.int .i64 e7.err])) rfl (vs:=[v18,Value.int .i64 e7.err]) rfl (one_cons hFv18.one (one_cons rfl one_nil)) rfl rfl ?_
   intro wv27 hs
   refine OW_nil<|WP_seq<|WP_region<|O (r_fieldAddr Tryz.underlying105 ti26 rfl rfl (by decide) rfl rfl) rfl<|O (r_load (v:=v18) ti26 rfl (hs.cell (i:=0) (o:=0) rfl rfl)) rfl ?_
   obtain ⟨rv7,hrv7,hM⟩:=bindS hM
   obtain ⟨f6,cf6,ef6,cff6,okf6⟩:=id hFv18
   refine CV [] cf6 cff6 ef6 rfl (okf6 _ _ _ (Hle.refl _) hs.imm  hrv7) rfl ?_
   rintro v19 wv28 ⟨gg19,hvv19,hegg19⟩
   have hlegg19:=hegg19.le hs.imm
   replace hs:=hs.call hegg19
   replace hlegg16:=hlegg16.trans hlegg19
   obtain ⟨cs36,rfl,hcs36⟩:=hvv19
   have hcs36:cs36=_:=hcs36; subst hcs36
   refine OW_nil ?_
   rcases condS hM with ⟨hc12,hM⟩|⟨hc12,hM⟩
   ·refine WP_true rfl hc12<|WP_seq<|WP_region<|O (r_fieldAddr Tryz.underlying105 ti38 rfl rfl (by decide) rfl rfl) rfl<|O (r_load (v:=Value.int .i64 e7.err) ti38 rfl (hs.cell (i:=0) (o:=1) rfl rfl)) rfl<|O (r_assign (v:=Value.int .i64 e7.err) rfl) rfl<|OW_nil<|WP_ret ?_
    obtain rfl:=Option.some.inj hM
    refine fun hr=>?_
    have hM:=congrArg some hr
    obtain rfl:=Option.some.inj hM
    have hM:=hKhx1
    obtain rfl:=Option.some.inj hM
    refine FL_nil hds ?_
    exact ⟨_,res1 Tryz.results33 (rv_tmp (v:=Value.int .i64 e7.err) rfl),gg19,⟨[Value.int .i64 e7.err],rfl,rfl⟩,hs.ext⟩
   ·refine WP_false rfl hc12<|WP_skip<|WP_region ?_
    obtain ⟨t8,ht8,hM⟩:=bindS hM
    refine O (r_addM rfl rfl ht8) rfl<|O (r_move (v:=Value.int .i64 t8) rfl) rfl<|OW_nil ?_
    obtain rfl:=Option.some.inj hM
    exact ⟨gg19,rfl,rfl,rfl,hds,hlegg16,(hs.sub (.cons _ (.cons_cons _ .slnil)))⟩
  ·refine WP_false rfl hc11<|WP_exit ?_
   obtain rfl:=Option.some.inj hM
   refine fun hr=>?_
   have hM:=congrArg some hr
   obtain rfl:=Option.some.inj hM
   exact ⟨(),rfl,gg16,hds,hlegg16,(hs.sub (.cons _ .slnil))⟩
 ·clear hs
  rintro E w ⟨_,rfl,gg13,hds,hlegg13,hs⟩
  have hM:=hKhx1
  dsimp only [onStep] at hM
  refine WP_seq<|WP_region<|O (r_assign (v:=Value.int .i64 0) rfl) rfl<|OW_nil<|WP_ret ?_
  obtain rfl:=Option.some.inj hM
  refine FL_nil hds ?_
  exact ⟨_,res1 Tryz.results33 (rv_tmp (v:=Value.int .i64 0) rfl),gg13,⟨[Value.int .i64 0],rfl,rfl⟩,hs.ext⟩
def C.nfa_nodes (fl:Nat):Prop:=∀ {rv1:T_Regex} {r:Int} (_:M.nfa_nodes fl rv1=some r) {g0:Hp} {w0:World} (hi:Imm g0 w0) {cs1:List Value} (hcs1:tT_Regex.rel g0 cs1 rv1),
    CallsV Tryz.prog 84 #[Value.agg cs1.toArray] w0 (fun v w'=>∃g',(VRd (tInt .i64) false g' v r)∧Ext g0 w0 g' w')
set_option maxRecDepth 100000 in
theorem nfa_nodes_step {fl:Nat} (ih_nfa_nodes:C.nfa_nodes fl):C.nfa_nodes (fl+1):=by
 intro rv1 r hM g0 w0 hi cs1 hcs1
 unfold M.nfa_nodes at hM
 obtain ⟨cs2,cs3,cs4,rfl,hcs2,hcs3,hcs4⟩:=tT_Regex_iff.1 hcs1
 have hcs2:cs2=_:=hcs2; subst hcs2
 have hcs3:cs3=_:=hcs3; subst hcs3
 obtain ⟨v1,rfl,hRv1⟩:=hcs4
 have hs:=Sep.start hi
 refine calls_of_WP (args:=[Value.agg (List.toArray (α:=Value) (([Value.int .i64 rv1.Kind])++((rv1.Set.1.map (Value.int .u64))++([v1]))))]) Tryz.func84 rfl Tryz.ntmps84 rfl ?_
 have hds:(argEnv [Value.agg (List.toArray (α:=Value) (([Value.int .i64 rv1.Kind])++((rv1.Set.1.map (Value.int .u64))++([v1]))))]).ds=[]:=rfl
 refine WP_seq<|WP_region<|OW_box (v:=Value.agg (List.toArray (α:=Value) (([Value.int .i64 rv1.Kind])++((rv1.Set.1.map (Value.int .u64))++([v1]))))) rfl hs (zs:=([Value.int .i64 rv1.Kind])++((rv1.Set.1.map (Value.int .u64))++([v1]))) rfl rfl ?_
 intro b1 wv1 hs
 refine O (r_assign (v:=Value.int .i64 0) rfl) rfl<|OW_nil<|WP_seq<|WP_region<|O (r_assign (v:=Value.int .i64 1) rfl) rfl<|OW_nil ?_
 obtain ⟨nv4,hx1,hKhx1⟩:=bindS hM
 refine WP_cut (fun E w=>∃(gg7:Hp),E 3=Value.int .i64 nv4∧E.ds=[]∧Hle g0 gg7∧Go.Lx.Sep g0 w0 gg7 w []) ?_ ?_
 ·have hM:=hx1
  have hag0:=Hle.refl g0
  refine WP_seq<|WP_region<|O (r_fieldAddr Tryz.underlying53 ti51 rfl rfl (by decide) rfl rfl) rfl<|O (r_load (v:=v1) ti51 rfl (hs.cell (i:=0) (o:=5) rfl (by simp [rv1.Set.2]))) rfl ?_
  obtain ⟨a2,ca2,hva2⟩:=hRv1.shape
  refine O (r_lenSl (v:=v1) Tryz.underlying51 rfl hva2) rfl<|O (r_move (v:=Value.int .i64 0) rfl) rfl<|OW_nil<|WP_block<|WP_loop (fun (st9:Int×Int) E w=>match st9 with|(nv6,xv5)=>∃(gg10:Hp),E 3=Value.int .i64 nv6∧E 7=v1∧E 8=Value.int .i64 (rv1.Kids.length:Int)∧E 9=Value.int .i64 xv5∧E.ds=[]∧Hle g0 gg10∧Go.Lx.Sep g0 w0 gg10 w []) hM ⟨g0,rfl,rfl,rfl,rfl,hds,(Hle.refl _),(hs.sub (.cons _ .slnil))⟩ ?_
  clear hs hM
  rintro ⟨nv6,xv5⟩ o2 E w hM ⟨gg10,hE3,hE7,hE8,hE9,hds,hlegg10,hs⟩
  obtain ⟨E,rfl⟩:=open4 (E:=E) hE3 hE7 hE8 hE9
  replace hRv1:=hRv1.mono hlegg10
  have hagg10:=Hle.refl gg10
  refine WP_seq<|WP_region<|O (r_lss rfl rfl) rfl<|OW_nil<|WP_seq ?_
  rcases condS hM with ⟨hc6,hM⟩|⟨hc6,hM⟩
  ·refine WP_true rfl hc6<|WP_skip<|WP_seq<|WP_block<|WP_seq<|WP_region ?_
   obtain ⟨e6,he6,hM⟩:=bindS hM
   obtain ⟨b12,ob12,cb12,hvb12,cs30,hcs30,hcb12⟩:=hRv1.at he6
   obtain ⟨cs31,cs32,cs33,rfl,hcs31,hcs32,hcs33⟩:=tT_Regex_iff.1 hcs30
   have hcs31:cs31=_:=hcs31; subst hcs31
   have hcs32:cs32=_:=hcs32; subst hcs32
   obtain ⟨v12,rfl,hRv12⟩:=hcs33
   refine O (r_idxSl Tryz.underlying51 ti53 (v:=v1) rfl hvb12 rfl (idxL_some he6).1 (idxL_some he6).2.1) rfl<|O (r_loadEl (cs:=([Value.int .i64 e6.Kind])++((e6.Set.1.map (Value.int .u64))++([v12]))) ti53 rfl (by simp [e6.Set.2]) (.inl rfl) (hcb12 _ hs.imm) (v:=Value.agg (List.toArray (α:=Value) (([Value.int .i64 e6.Kind])++((e6.Set.1.map (Value.int .u64))++([v12]))))) rfl) rfl<|OW_alloc ti53 hs (zs:=([Value.int .i64 0])++(((Vec.zero 4).1.map (Value.int .u64))++([Value.slice none 0 0]))) rfl rfl ?_
   intro b13 wv17 hs
   refine OW_storeAll ti53 hs (i:=0) rfl rfl (v:=Value.agg (List.toArray (α:=Value) (([Value.int .i64 e6.Kind])++((e6.Set.1.map (Value.int .u64))++([v12]))))) rfl (vs:=([Value.int .i64 e6.Kind])++((e6.Set.1.map (Value.int .u64))++([v12]))) rfl (one_append (one_cons rfl one_nil) (one_append vec_one (one_cons (by obtain ⟨_,_,h9⟩:=hRv12.shape; rw [h9]; rfl) one_nil))) (by simp [e6.Set.2]) (by simp [e6.Set.2,(Vec.zero 4).2]) ?_
   intro wv18 hs
   refine OW_nil<|WP_region<|O (r_move (v:=Value.int .i64 nv6) rfl) rfl<|O (r_loadN (cs:=([Value.int .i64 e6.Kind])++((e6.Set.1.map (Value.int .u64))++([v12]))) ti53 rfl (by simp [e6.Set.2]) (hs.cells (i:=0) rfl)) rfl ?_
   obtain ⟨rv7,hrv7,hM⟩:=bindS hM
   refine C [Value.agg (List.toArray (α:=Value) (([Value.int .i64 e6.Kind])++((e6.Set.1.map (Value.int .u64))++([v12]))))] cf84 rfl (ih_nfa_nodes hrv7 hs.imm (tT_Regex_iff.2 ⟨[Value.int .i64 e6.Kind],e6.Set.1.map (Value.int .u64),[v12],rfl,rfl,rfl,⟨_,rfl,hRv12⟩⟩)) rfl ?_
   rintro v13 wv19 ⟨gg13,hvv13,hegg13⟩
   have hlegg13:=hegg13.le hs.imm
   replace hs:=hs.call hegg13
   replace hlegg10:=hlegg10.trans hlegg13
   obtain ⟨cs34,rfl,hcs34⟩:=hvv13
   have hcs34:cs34=_:=hcs34; subst hcs34
   obtain ⟨t11,ht11,hM⟩:=bindS hM
   refine O (r_addM rfl rfl ht11) rfl<|O (r_assign (v:=Value.int .i64 t11) rfl) rfl<|OW_nil<|WP_region ?_
   obtain ⟨t12,ht12,hM⟩:=bindS hM
   refine O (r_addM rfl rfl ht12) rfl<|O (r_move (v:=Value.int .i64 t12) rfl) rfl<|OW_nil ?_
   obtain rfl:=Option.some.inj hM
   exact ⟨gg13,rfl,rfl,rfl,rfl,hds,hlegg10,(hs.sub (.cons _ .slnil))⟩
  ·refine WP_false rfl hc6<|WP_exit ?_
   obtain rfl:=Option.some.inj hM
   refine fun hr=>?_
   have hM:=congrArg some hr
   obtain rfl:=Option.some.inj hM
   exact ⟨gg10,rfl,hds,hlegg10,hs⟩
 ·clear hs
  rintro E w ⟨gg7,hE3,hds,hlegg7,hs⟩
  have hM:=hKhx1
  obtain ⟨E,rfl⟩:=open1 (E:=E) hE3
  refine WP_seq<|WP_region<|O (r_move (v:=Value.int .i64 nv4) rfl) rfl<|O (r_assign (v:=Value.int .i64 nv4) rfl) rfl<|OW_nil<|WP_ret ?_
  obtain rfl:=Option.some.inj hM
  refine FL_nil hds ?_
  exact ⟨_,res1 Tryz.results84 (rv_tmp (v:=Value.int .i64 nv4) rfl),gg7,⟨[Value.int .i64 nv4],rfl,rfl⟩,hs.ext⟩
theorem nfa_nodes_zero:C.nfa_nodes 0:=by
  unfold C.nfa_nodes
  intros
  simp_all only [M.nfa_nodes,reduceCtorEq]
theorem nfa_nodes_all:∀fl,C.nfa_nodes fl:=by
  intro fl
  induction fl with
  | zero=>exact nfa_nodes_zero
  | succ fl ih=>
    exact nfa_nodes_step ih
theorem nfa_nodes_ok {fl:Nat}:C.nfa_nodes fl:=(nfa_nodes_all fl)
set_option maxRecDepth 100000 in
theorem nfa_builder_none_ok {b1:T_nfa_builder} {rv1:T_Regex} {r:T_nfa_part×T_nfa_builder} (hM:M.nfa_builder_none b1 rv1=some r) {g0:Hp} {w0:World} {gi:Hp} {wi:World} {Lt:List Res} {b2:Nat} {v1:Value} {xs1:List Value} {v2:Value} {xs2:List Value} {G1:List Res} (hs:Sep g0 w0 gi wi (Go.Lx.box b2 128 ([v1,v2])::.row v1 50 (tVec 4 .u64).sz b1.sets.length xs1::.row v2 125 1 b1.behind.length xs2::(G1++Lt))) {cs1:List Value} (hcs1:tT_Regex.rel gi cs1 rv1) (hrelxs1:RowRel (tVec 4 .u64) gi xs1 b1.sets) (hGG1:GRel (iMap (Value.int .i64) Value.bool) gi xs2 b1.behind G1) :
    CallsV Tryz.prog 104 #[Value.pointer (some ⟨b2,0,none⟩),Value.agg cs1.toArray] wi (fun v w'=>∃g' v4 xs3 v5 xs4 G2,(VRd tT_nfa_part true g' v r.1)∧Hle gi g'∧RowRel (tVec 4 .u64) g' xs3 r.2.sets∧GRel (iMap (Value.int .i64) Value.bool) g' xs4 r.2.behind G2∧Sep g0 w0 g' w' (Go.Lx.box b2 128 ([v4,v5])::.row v4 50 (tVec 4 .u64).sz r.2.sets.length xs3::.row v5 125 1 r.2.behind.length xs4::(G2++Lt))):=by
 unfold M.nfa_builder_none at hM
 obtain ⟨cs2,cs3,cs4,rfl,hcs2,hcs3,hcs4⟩:=tT_Regex_iff.1 hcs1
 have hcs2:cs2=_:=hcs2; subst hcs2
 have hcs3:cs3=_:=hcs3; subst hcs3
 obtain ⟨v3,rfl,hRv3⟩:=hcs4
 have hagi:=Hle.refl gi
 refine calls_of_WP (args:=[Value.pointer (some ⟨b2,0,none⟩),Value.agg (List.toArray (α:=Value) (([Value.int .i64 rv1.Kind])++((rv1.Set.1.map (Value.int .u64))++([v3]))))]) Tryz.func104 rfl Tryz.ntmps104 rfl ?_
 have hds:(argEnv [Value.pointer (some ⟨b2,0,none⟩),Value.agg (List.toArray (α:=Value) (([Value.int .i64 rv1.Kind])++((rv1.Set.1.map (Value.int .u64))++([v3]))))]).ds=[]:=rfl
 refine WP_seq<|WP_region<|OW_box (v:=Value.agg (List.toArray (α:=Value) (([Value.int .i64 rv1.Kind])++((rv1.Set.1.map (Value.int .u64))++([v3]))))) rfl hs (zs:=([Value.int .i64 rv1.Kind])++((rv1.Set.1.map (Value.int .u64))++([v3]))) rfl rfl ?_
 intro b3 wv1 hs
 refine OW_alloc ti130 hs (zs:=[Value.bool false,Value.slice none 0 0,Value.slice none 0 0]) rfl rfl ?_
 intro b4 wv2 hs
 refine OW_nil<|WP_seq<|WP_region<|O (r_build (vs:=[]) (cs:=[Value.bool false,Value.slice none 0 0,Value.slice none 0 0]) rfl (built_fill [(0,1),(1,1),(2,1)] [Value.bool false,Value.slice none 0 0,Value.slice none 0 0] (fun _=>by kernel_rfl) (fill_done))) rfl<|OW_storeAll ti130 hs (i:=0) rfl rfl (v:=Value.agg (List.toArray (α:=Value) [Value.bool false,Value.slice none 0 0,Value.slice none 0 0])) rfl (vs:=[Value.bool false,Value.slice none 0 0,Value.slice none 0 0]) rfl (one_cons rfl (one_cons rfl (one_cons rfl one_nil))) rfl rfl ?_
 intro wv3 hs
 refine OW_nil<|WP_ret ?_
 obtain rfl:=Option.some.inj hM
 refine FL_nil hds ?_
 exact ⟨_,res1 Tryz.results104 (rv_cells (vs:=[Value.bool false,Value.slice none 0 0,Value.slice none 0 0]) ti130 rfl rfl (hs.cells (i:=0) rfl)),gi,v1,xs1,v2,xs2,G1,⟨[Value.bool false,Value.slice none 0 0,Value.slice none 0 0],rfl,⟨[Value.bool false],[Value.slice none 0 0],[Value.slice none 0 0],rfl,rfl,⟨_,rfl,RdS.nil⟩,⟨_,rfl,RdS.nil⟩⟩⟩,(Hle.refl _),hrelxs1,hGG1,(Sep.selT (A:=[Go.Lx.box b4 130 ([Value.bool false,Value.slice none 0 0,Value.slice none 0 0]),Go.Lx.box b3 53 (([Value.int .i64 rv1.Kind])++((rv1.Set.1.map (Value.int .u64))++([v3]))),Go.Lx.box b2 128 ([v1,v2]),.row v1 50 (tVec 4 .u64).sz b1.sets.length xs1,.row v2 125 1 b1.behind.length xs2]) (A':=[Go.Lx.box b2 128 ([v1,v2]),.row v1 50 (tVec 4 .u64).sz b1.sets.length xs1,.row v2 125 1 b1.behind.length xs2]) (L:=(G1++Lt)) hs [2,3,4] (by decide) rfl)⟩
set_option maxRecDepth 100000 in
theorem nfa_builder_empty_ok {b1:T_nfa_builder} {rv1:T_Regex} {r:T_nfa_part×T_nfa_builder} (hM:M.nfa_builder_empty b1 rv1=some r) {g0:Hp} {w0:World} {gi:Hp} {wi:World} {Lt:List Res} {b2:Nat} {v1:Value} {xs1:List Value} {v2:Value} {xs2:List Value} {G1:List Res} (hs:Sep g0 w0 gi wi (Go.Lx.box b2 128 ([v1,v2])::.row v1 50 (tVec 4 .u64).sz b1.sets.length xs1::.row v2 125 1 b1.behind.length xs2::(G1++Lt))) {cs1:List Value} (hcs1:tT_Regex.rel gi cs1 rv1) (hrelxs1:RowRel (tVec 4 .u64) gi xs1 b1.sets) (hGG1:GRel (iMap (Value.int .i64) Value.bool) gi xs2 b1.behind G1) :
    CallsV Tryz.prog 105 #[Value.pointer (some ⟨b2,0,none⟩),Value.agg cs1.toArray] wi (fun v w'=>∃g' v4 xs3 v5 xs4 G2,(VRd tT_nfa_part true g' v r.1)∧Hle gi g'∧RowRel (tVec 4 .u64) g' xs3 r.2.sets∧GRel (iMap (Value.int .i64) Value.bool) g' xs4 r.2.behind G2∧Sep g0 w0 g' w' (Go.Lx.box b2 128 ([v4,v5])::.row v4 50 (tVec 4 .u64).sz r.2.sets.length xs3::.row v5 125 1 r.2.behind.length xs4::(G2++Lt))):=by
 unfold M.nfa_builder_empty at hM
 obtain ⟨cs2,cs3,cs4,rfl,hcs2,hcs3,hcs4⟩:=tT_Regex_iff.1 hcs1
 have hcs2:cs2=_:=hcs2; subst hcs2
 have hcs3:cs3=_:=hcs3; subst hcs3
 obtain ⟨v3,rfl,hRv3⟩:=hcs4
 have hagi:=Hle.refl gi
 refine calls_of_WP (args:=[Value.pointer (some ⟨b2,0,none⟩),Value.agg (List.toArray (α:=Value) (([Value.int .i64 rv1.Kind])++((rv1.Set.1.map (Value.int .u64))++([v3]))))]) Tryz.func105 rfl Tryz.ntmps105 rfl ?_
 have hds:(argEnv [Value.pointer (some ⟨b2,0,none⟩),Value.agg (List.toArray (α:=Value) (([Value.int .i64 rv1.Kind])++((rv1.Set.1.map (Value.int .u64))++([v3]))))]).ds=[]:=rfl
 refine WP_seq<|WP_region<|OW_box (v:=Value.agg (List.toArray (α:=Value) (([Value.int .i64 rv1.Kind])++((rv1.Set.1.map (Value.int .u64))++([v3]))))) rfl hs (zs:=([Value.int .i64 rv1.Kind])++((rv1.Set.1.map (Value.int .u64))++([v3]))) rfl rfl ?_
 intro b3 wv1 hs
 refine OW_alloc ti130 hs (zs:=[Value.bool false,Value.slice none 0 0,Value.slice none 0 0]) rfl rfl ?_
 intro b4 wv2 hs
 refine OW_nil<|WP_seq<|WP_region<|O (r_build (vs:=[(0,Value.bool true)]) (cs:=[Value.bool true,Value.slice none 0 0,Value.slice none 0 0]) rfl (built_fill [(0,1),(1,1),(2,1)] [Value.bool false,Value.slice none 0 0,Value.slice none 0 0] (fun _=>by kernel_rfl) (fill_step ([]) ([Value.bool false]) ([Value.slice none 0 0,Value.slice none 0 0]) ([Value.bool true]) rfl rfl rfl rfl rfl rfl<|fill_done))) rfl<|OW_storeAll ti130 hs (i:=0) rfl rfl (v:=Value.agg (List.toArray (α:=Value) [Value.bool true,Value.slice none 0 0,Value.slice none 0 0])) rfl (vs:=[Value.bool true,Value.slice none 0 0,Value.slice none 0 0]) rfl (one_cons rfl (one_cons rfl (one_cons rfl one_nil))) rfl rfl ?_
 intro wv3 hs
 refine OW_nil<|WP_ret ?_
 obtain rfl:=Option.some.inj hM
 refine FL_nil hds ?_
 exact ⟨_,res1 Tryz.results105 (rv_cells (vs:=[Value.bool true,Value.slice none 0 0,Value.slice none 0 0]) ti130 rfl rfl (hs.cells (i:=0) rfl)),gi,v1,xs1,v2,xs2,G1,⟨[Value.bool true,Value.slice none 0 0,Value.slice none 0 0],rfl,⟨[Value.bool true],[Value.slice none 0 0],[Value.slice none 0 0],rfl,rfl,⟨_,rfl,RdS.nil⟩,⟨_,rfl,RdS.nil⟩⟩⟩,(Hle.refl _),hrelxs1,hGG1,(Sep.selT (A:=[Go.Lx.box b4 130 ([Value.bool true,Value.slice none 0 0,Value.slice none 0 0]),Go.Lx.box b3 53 (([Value.int .i64 rv1.Kind])++((rv1.Set.1.map (Value.int .u64))++([v3]))),Go.Lx.box b2 128 ([v1,v2]),.row v1 50 (tVec 4 .u64).sz b1.sets.length xs1,.row v2 125 1 b1.behind.length xs2]) (A':=[Go.Lx.box b2 128 ([v1,v2]),.row v1 50 (tVec 4 .u64).sz b1.sets.length xs1,.row v2 125 1 b1.behind.length xs2]) (L:=(G1++Lt)) hs [2,3,4] (by decide) rfl)⟩
set_option maxRecDepth 100000 in
theorem nfa_builder_set_ok {b1:T_nfa_builder} {rv1:T_Regex} {r:T_nfa_part×T_nfa_builder} (hM:M.nfa_builder_set b1 rv1=some r) {g0:Hp} {w0:World} {gi:Hp} {wi:World} {Lt:List Res} {b2:Nat} {v1:Value} {xs1:List Value} {v2:Value} {xs2:List Value} {G1:List Res} (hs:Sep g0 w0 gi wi (Go.Lx.box b2 128 ([v1,v2])::.row v1 50 (tVec 4 .u64).sz b1.sets.length xs1::.row v2 125 1 b1.behind.length xs2::(G1++Lt))) {cs1:List Value} (hcs1:tT_Regex.rel gi cs1 rv1) (hrelxs1:RowRel (tVec 4 .u64) gi xs1 b1.sets) (hGG1:GRel (iMap (Value.int .i64) Value.bool) gi xs2 b1.behind G1) :
    CallsV Tryz.prog 106 #[Value.pointer (some ⟨b2,0,none⟩),Value.agg cs1.toArray] wi (fun v w'=>∃g' v9 xs8 v10 xs9 G4,(VRd tT_nfa_part true g' v r.1)∧Hle gi g'∧RowRel (tVec 4 .u64) g' xs8 r.2.sets∧GRel (iMap (Value.int .i64) Value.bool) g' xs9 r.2.behind G4∧Sep g0 w0 g' w' (Go.Lx.box b2 128 ([v9,v10])::.row v9 50 (tVec 4 .u64).sz r.2.sets.length xs8::.row v10 125 1 r.2.behind.length xs9::(G4++Lt))):=by
 unfold M.nfa_builder_set at hM
 obtain ⟨cs2,cs3,cs4,rfl,hcs2,hcs3,hcs4⟩:=tT_Regex_iff.1 hcs1
 have hcs2:cs2=_:=hcs2; subst hcs2
 have hcs3:cs3=_:=hcs3; subst hcs3
 obtain ⟨v3,rfl,hRv3⟩:=hcs4
 have hagi:=Hle.refl gi
 refine calls_of_WP (args:=[Value.pointer (some ⟨b2,0,none⟩),Value.agg (List.toArray (α:=Value) (([Value.int .i64 rv1.Kind])++((rv1.Set.1.map (Value.int .u64))++([v3]))))]) Tryz.func106 rfl Tryz.ntmps106 rfl ?_
 have hds:(argEnv [Value.pointer (some ⟨b2,0,none⟩),Value.agg (List.toArray (α:=Value) (([Value.int .i64 rv1.Kind])++((rv1.Set.1.map (Value.int .u64))++([v3]))))]).ds=[]:=rfl
 refine WP_seq<|WP_region<|OW_box (v:=Value.agg (List.toArray (α:=Value) (([Value.int .i64 rv1.Kind])++((rv1.Set.1.map (Value.int .u64))++([v3]))))) rfl hs (zs:=([Value.int .i64 rv1.Kind])++((rv1.Set.1.map (Value.int .u64))++([v3]))) rfl rfl ?_
 intro b3 wv1 hs
 refine OW_alloc ti130 hs (zs:=[Value.bool false,Value.slice none 0 0,Value.slice none 0 0]) rfl rfl ?_
 intro b4 wv2 hs
 refine OW_nil<|WP_seq<|WP_any (.q 0 (.q 1 (.q 2 (.q 3 (.q 4 (.q 5 (.q 6 (.s 7 (.s 8 (.q 9 (.q 10 (.s 11 (.leaf))))))))))))) (SS g0 w0 gi (Go.Lx.box b4 130 ([Value.bool false,Value.slice none 0 0,Value.slice none 0 0])::Go.Lx.box b3 53 (([Value.int .i64 rv1.Kind])++((rv1.Set.1.map (Value.int .u64))++([v3])))::Go.Lx.box b2 128 ([v1,v2])::.row v1 50 (tVec 4 .u64).sz b1.sets.length xs1::.row v2 125 1 b1.behind.length xs2::(G1++Lt))) mo (by decide +kernel) ?_
 have hs:=hs.drew
 have hS:SS g0 w0 gi (Go.Lx.box b4 130 ([Value.bool false,Value.slice none 0 0,Value.slice none 0 0])::Go.Lx.box b3 53 (([Value.int .i64 rv1.Kind])++((rv1.Set.1.map (Value.int .u64))++([v3])))::Go.Lx.box b2 128 ([v1,v2])::.row v1 50 (tVec 4 .u64).sz b1.sets.length xs1::.row v2 125 1 b1.behind.length xs2::(G1++Lt)) _:=⟨gi,Hle.refl _,hs⟩
 refine A rfl hS (fun w9 ⟨g9,hle9,hs⟩=>r_move (v:=Value.pointer (some ⟨b2,0,none⟩)) rfl) rfl<|A rfl hS (fun w9 ⟨g9,hle9,hs⟩=>r_move (v:=Value.pointer (some ⟨b2,0,none⟩)) rfl) rfl<|A rfl hS (fun w9 ⟨g9,hle9,hs⟩=>r_nilCheck rfl) rfl<|A rfl hS (fun w9 ⟨g9,hle9,hs⟩=>r_fieldAddr Tryz.underlying128 ti85 rfl rfl (by decide) rfl rfl) rfl<|A rfl hS (fun w9 ⟨g9,hle9,hs⟩=>r_load (v:=v1) ti85 rfl (hs.cell (i:=2) (o:=0) rfl rfl)) rfl<|A rfl hS (fun w9 ⟨g9,hle9,hs⟩=>r_fieldAddr Tryz.underlying53 ti50 rfl rfl (by decide) rfl rfl) rfl<|A rfl hS (fun w9 ⟨g9,hle9,hs⟩=>r_loadN (cs:=rv1.Set.1.map (Value.int .u64)) ti50 rfl (by simp [rv1.Set.2]) (hs.cellsAt (i:=1) (o:=1) rfl (by intro j u hj; exact sub_at (pre:=[Value.int .i64 rv1.Kind]) (ds:=rv1.Set.1.map (Value.int .u64)) (post:=[v3]) rfl ((by simp)) hj))) rfl ?_
 refine A1 rfl<|OW_lit (τ:=(tVec 4 .u64)) [encV .u64 rv1.Set] [rv1.Set] Tryz.underlying85 ti50 (by decide) hs rfl rfl rfl ⟨rfl,trivial⟩ rfl ?_
 intro v4 wv3 xs3 hrelxs3 hs
 refine OW_nil ?_
 replace hS:=hS.to (Hle.refl _) (Sep.selT (A:=[.row v4 50 (tVec 4 .u64).sz [rv1.Set].length xs3,Go.Lx.box b4 130 ([Value.bool false,Value.slice none 0 0,Value.slice none 0 0]),Go.Lx.box b3 53 (([Value.int .i64 rv1.Kind])++((rv1.Set.1.map (Value.int .u64))++([v3]))),Go.Lx.box b2 128 ([v1,v2]),.row v1 50 (tVec 4 .u64).sz b1.sets.length xs1,.row v2 125 1 b1.behind.length xs2]) (A':=[Go.Lx.box b4 130 ([Value.bool false,Value.slice none 0 0,Value.slice none 0 0]),Go.Lx.box b3 53 (([Value.int .i64 rv1.Kind])++((rv1.Set.1.map (Value.int .u64))++([v3]))),Go.Lx.box b2 128 ([v1,v2]),.row v1 50 (tVec 4 .u64).sz b1.sets.length xs1,.row v2 125 1 b1.behind.length xs2]) (L:=(G1++Lt)) hs [1,2,3,4,5] (by decide) rfl)
 refine ⟨fun _=>hS,?_⟩
 refine A1 rfl ?_
 obtain ⟨y1,hy1,hM⟩:=bindS hM
 refine OW_appendK Tryz.underlying85 ti50 rfl (by decide) (by decide) hs (i:=4) rfl hrelxs1 (v:=v1) rfl (u:=v4) rfl (hs.rowSrc (i:=0) rfl) hrelxs3 hy1 rfl ?_
 intro v5 wv4 xs4 hrelxs4 hsO hs
 refine OW_nil ?_
 have hsO:Go.Lx.Sep g0 w0 gi _ (Go.Lx.box b4 130 ([Value.bool false,Value.slice none 0 0,Value.slice none 0 0])::Go.Lx.box b3 53 (([Value.int .i64 rv1.Kind])++((rv1.Set.1.map (Value.int .u64))++([v3])))::Go.Lx.box b2 128 ([v1,v2])::.row v1 50 (tVec 4 .u64).sz b1.sets.length xs1::.row v2 125 1 b1.behind.length xs2::(G1++Lt)):=(Sep.selT (A:=[.row v4 50 (tVec 4 .u64).sz [rv1.Set].length xs3,Go.Lx.box b4 130 ([Value.bool false,Value.slice none 0 0,Value.slice none 0 0]),Go.Lx.box b3 53 (([Value.int .i64 rv1.Kind])++((rv1.Set.1.map (Value.int .u64))++([v3]))),Go.Lx.box b2 128 ([v1,v2]),.row v1 50 (tVec 4 .u64).sz b1.sets.length xs1,.row v2 125 1 b1.behind.length xs2]) (A':=[Go.Lx.box b4 130 ([Value.bool false,Value.slice none 0 0,Value.slice none 0 0]),Go.Lx.box b3 53 (([Value.int .i64 rv1.Kind])++((rv1.Set.1.map (Value.int .u64))++([v3]))),Go.Lx.box b2 128 ([v1,v2]),.row v1 50 (tVec 4 .u64).sz b1.sets.length xs1,.row v2 125 1 b1.behind.length xs2]) (L:=(G1++Lt)) hsO [1,2,3,4,5] (by decide) rfl)
 replace hS:=hS.to (Hle.refl _) hsO
 refine ⟨fun _=>hS,?_⟩
 refine A rfl hS (fun w9 ⟨g9,hle9,hs⟩=>r_nilCheck rfl) rfl<|A rfl hS (fun w9 ⟨g9,hle9,hs⟩=>r_fieldAddr Tryz.underlying128 ti85 rfl rfl (by decide) rfl rfl) rfl<|A1 rfl<|OW_store1 ti85 hs (i:=3) rfl rfl (v:=v5) rfl (by obtain ⟨_,_,h9⟩:=hs.rowShape (i:=4) rfl; rw [h9]; rfl) (o:=0) (by simp) ?_
 intro wv5 hs
 refine OW_nil ?_
 refine ⟨fun h=>absurd h (by decide +kernel),?_⟩
 refine AN<|WP_seq<|WP_region<|O (r_move (v:=Value.pointer (some ⟨b2,0,none⟩)) rfl) rfl<|O (r_move (v:=Value.pointer (some ⟨b2,0,none⟩)) rfl) rfl<|O (r_nilCheck rfl) rfl<|O (r_fieldAddr Tryz.underlying128 ti126 rfl rfl (by decide) rfl rfl) rfl<|O (r_load (v:=v2) ti126 rfl (hs.cell (i:=3) (o:=1) rfl rfl)) rfl<|OW_makeMap hs rfl ?_
 intro b5 wv6 hs
 have hmb5:MRel (Value.int .i64) Value.bool #[] 0 []:=mrel_nil
 refine OW_litG (I:=(iMap (Value.int .i64) Value.bool)) (A:=[.obj b5 (.map #[] 0),.row v4 50 (tVec 4 .u64).sz [rv1.Set].length xs3,Go.Lx.box b4 130 ([Value.bool false,Value.slice none 0 0,Value.slice none 0 0]),Go.Lx.box b3 53 (([Value.int .i64 rv1.Kind])++((rv1.Set.1.map (Value.int .u64))++([v3]))),Go.Lx.box b2 128 ([v5,v2]),.row v5 50 (tVec 4 .u64).sz y1.length xs4,.row v2 125 1 b1.behind.length xs2]) (B:=(G1++Lt)) (i:=0) (u:=Value.map (some b5)) (l:=[]) Tryz.underlying126 ti125 hs rfl ⟨b5,#[],0,rfl,rfl,hmb5⟩ rfl rfl ?_
 intro v6 wv7 xs5 G2 hGG2 hs
 replace hs:Go.Lx.Sep g0 w0 gi _ (.row v6 125 1 [[]].length xs5::.row v4 50 (tVec 4 .u64).sz [rv1.Set].length xs3::Go.Lx.box b4 130 ([Value.bool false,Value.slice none 0 0,Value.slice none 0 0])::Go.Lx.box b3 53 (([Value.int .i64 rv1.Kind])++((rv1.Set.1.map (Value.int .u64))++([v3])))::Go.Lx.box b2 128 ([v5,v2])::.row v5 50 (tVec 4 .u64).sz y1.length xs4::.row v2 125 1 b1.behind.length xs2::(G2++(G1++Lt))):=hs
 obtain ⟨y2,hy2,hM⟩:=bindS hM
 refine OW_appendG (A:=[.row v6 125 1 [[]].length xs5,.row v4 50 (tVec 4 .u64).sz [rv1.Set].length xs3,Go.Lx.box b4 130 ([Value.bool false,Value.slice none 0 0,Value.slice none 0 0]),Go.Lx.box b3 53 (([Value.int .i64 rv1.Kind])++((rv1.Set.1.map (Value.int .u64))++([v3]))),Go.Lx.box b2 128 ([v5,v2]),.row v5 50 (tVec 4 .u64).sz y1.length xs4,.row v2 125 1 b1.behind.length xs2]) (B:=Lt) Tryz.underlying126 ti125 rfl (by decide) hs (i:=6) (j:=0) rfl rfl (by decide) hGG1 hGG2 (x:=_) rfl rfl hy2 rfl ?_
 intro v7 wv8 xs6 G3 hGG3 hs
 replace hs:Go.Lx.Sep g0 w0 gi _ (.row v4 50 (tVec 4 .u64).sz [rv1.Set].length xs3::Go.Lx.box b4 130 ([Value.bool false,Value.slice none 0 0,Value.slice none 0 0])::Go.Lx.box b3 53 (([Value.int .i64 rv1.Kind])++((rv1.Set.1.map (Value.int .u64))++([v3])))::Go.Lx.box b2 128 ([v5,v2])::.row v5 50 (tVec 4 .u64).sz y1.length xs4::.row v7 125 1 y2.length xs6::(G3++Lt)):=hs
 refine O (r_nilCheck rfl) rfl<|O (r_fieldAddr Tryz.underlying128 ti126 rfl rfl (by decide) rfl rfl) rfl<|OW_store1 ti126 hs (i:=3) rfl rfl (v:=v7) rfl (by obtain ⟨_,_,h9⟩:=hs.rowShape (i:=5) rfl; rw [h9]; rfl) (o:=1) (by simp) ?_
 intro wv9 hs
 refine OW_nil<|WP_seq<|WP_region<|O (r_move (v:=Value.pointer (some ⟨b2,0,none⟩)) rfl) rfl<|O (r_nilCheck rfl) rfl<|O (r_fieldAddr Tryz.underlying128 ti85 rfl rfl (by decide) rfl rfl) rfl<|O (r_load (v:=v5) ti85 rfl (hs.cell (i:=3) (o:=0) rfl rfl)) rfl ?_
 obtain ⟨a1,ca1,hva1⟩:=hs.rowShape (i:=4) rfl
 refine O (r_lenSl (v:=v5) Tryz.underlying85 rfl hva1) rfl<|OW_lit (τ:=(tInt .i64)) [Value.int .i64 (y1.length:Int)] [(y1.length:Int)] Tryz.underlying34 ti3 (by decide) hs rfl rfl rfl ⟨rfl,trivial⟩ rfl ?_
 intro v8 wv10 xs7 hrelxs7 hs
 refine O (r_assign (v:=v8) rfl) rfl<|OW_nil<|WP_seq<|WP_region<|O (r_move (v:=v8) rfl) rfl<|O (r_move (v:=v8) rfl) rfl ?_
 have ho1:=one_of_shape (hs.rowShape (i:=0) rfl)
 have ho2:=one_of_shape (hs.rowShape (i:=0) rfl)
 refine O (r_build (vs:=[(1,v8),(2,v8)]) (cs:=[Value.bool false,v8,v8]) rfl (built_fill [(0,1),(1,1),(2,1)] [Value.bool false,Value.slice none 0 0,Value.slice none 0 0] (fun _=>by kernel_rfl) (fill_step ([Value.bool false]) ([Value.slice none 0 0]) ([Value.slice none 0 0]) ([v8]) rfl rfl (cells_one ho1) rfl rfl rfl<|fill_step ([Value.bool false,v8]) ([Value.slice none 0 0]) ([]) ([v8]) rfl rfl (cells_one ho2) rfl rfl rfl<|fill_done))) rfl<|OW_storeAll ti130 hs (i:=2) rfl rfl (v:=Value.agg (List.toArray (α:=Value) [Value.bool false,v8,v8])) rfl (vs:=[Value.bool false,v8,v8]) rfl (one_cons rfl (one_cons (by obtain ⟨_,_,h9⟩:=hs.rowShape (i:=0) rfl; rw [h9]; rfl) (one_cons (by obtain ⟨_,_,h9⟩:=hs.rowShape (i:=0) rfl; rw [h9]; rfl) one_nil))) rfl rfl ?_
 intro wv11 hs
 refine OW_nil<|WP_ret ?_
 obtain rfl:=Option.some.inj hM
 obtain ⟨gg1,hlegg1,hRgg1,hs⟩:=hs.relRow (i:=0) rfl hrelxs7
 replace hrelxs4:=hrelxs4.mono hlegg1
 replace hGG3:=hGG3.mono hlegg1
 replace hagi:=hagi.trans hlegg1
 refine FL_nil hds ?_
 exact ⟨_,res1 Tryz.results106 (rv_cells (vs:=[Value.bool false,v8,v8]) ti130 rfl rfl (hs.cells (i:=1) rfl)),gg1,v5,xs4,v7,xs6,G3,⟨[Value.bool false,v8,v8],rfl,⟨[Value.bool false],[v8],[v8],rfl,rfl,⟨_,rfl,hRgg1⟩,⟨_,rfl,hRgg1⟩⟩⟩,hagi,hrelxs4,hGG3,(Sep.selT (A:=[.row v4 50 (tVec 4 .u64).sz [rv1.Set].length xs3,Go.Lx.box b4 130 ([Value.bool false,v8,v8]),Go.Lx.box b3 53 (([Value.int .i64 rv1.Kind])++((rv1.Set.1.map (Value.int .u64))++([v3]))),Go.Lx.box b2 128 ([v5,v7]),.row v5 50 (tVec 4 .u64).sz y1.length xs4,.row v7 125 1 y2.length xs6]) (A':=[Go.Lx.box b2 128 ([v5,v7]),.row v5 50 (tVec 4 .u64).sz y1.length xs4,.row v7 125 1 y2.length xs6]) (L:=(G3++Lt)) hs [3,4,5] (by decide) rfl)⟩
set_option maxRecDepth 100000 in
theorem nfa_builder_link_ok {b1:T_nfa_builder} {fromv1:(List Int)} {tov1:(List Int)} {r:T_nfa_builder} (hM:M.nfa_builder_link b1 fromv1 tov1=some r) {g0:Hp} {w0:World} {gi:Hp} {wi:World} {Lt:List Res} {b2:Nat} {v1:Value} {xs1:List Value} {v2:Value} {xs2:List Value} {G1:List Res} (hs:Sep g0 w0 gi wi (Go.Lx.box b2 128 ([v1,v2])::.row v1 50 (tVec 4 .u64).sz b1.sets.length xs1::.row v2 125 1 b1.behind.length xs2::(G1++Lt))) {v3:Value} (hRv3:RdS (tInt .i64) gi v3 fromv1) {v4:Value} (hRv4:RdS (tInt .i64) gi v4 tov1) (hrelxs1:RowRel (tVec 4 .u64) gi xs1 b1.sets) (hGG1:GRel (iMap (Value.int .i64) Value.bool) gi xs2 b1.behind G1) :
    CallsV Tryz.prog 86 #[Value.pointer (some ⟨b2,0,none⟩),v3,v4] wi (fun v w'=>∃g' v35 xs33 v36 xs34 G44,(True)∧Hle gi g'∧RowRel (tVec 4 .u64) g' xs33 r.sets∧GRel (iMap (Value.int .i64) Value.bool) g' xs34 r.behind G44∧Sep g0 w0 g' w' (Go.Lx.box b2 128 ([v35,v36])::.row v35 50 (tVec 4 .u64).sz r.sets.length xs33::.row v36 125 1 r.behind.length xs34::(G44++Lt))):=by
 unfold M.nfa_builder_link at hM
 have hagi:=Hle.refl gi
 refine calls_of_WP (args:=[Value.pointer (some ⟨b2,0,none⟩),v3,v4]) Tryz.func86 rfl Tryz.ntmps86 rfl ?_
 have hds:(argEnv [Value.pointer (some ⟨b2,0,none⟩),v3,v4]).ds=[]:=rfl
 refine WP_seq<|WP_region<|O (r_move (v:=v3) rfl) rfl ?_
 obtain ⟨a1,ca1,hva1⟩:=hRv3.shape
 refine O (r_lenSl (v:=v3) Tryz.underlying34 rfl hva1) rfl<|O (r_move (v:=Value.int .i64 0) rfl) rfl<|OW_nil<|WP_block<|WP_loop (fun (st9:(List (List (Int×Bool)))×Int) E w=>match st9 with|(xv16,xv17)=>∃(v15:Value) (xs13:List Value) (v16:Value) (xs14:List Value) (G16:List Res),E 0=Value.pointer (some ⟨b2,0,none⟩)∧E 2=v4∧E 10=v3∧E 11=Value.int .i64 (fromv1.length:Int)∧E 12=Value.int .i64 xv17∧E.ds=[]∧RowRel (tVec 4 .u64) gi xs13 b1.sets∧GRel (iMap (Value.int .i64) Value.bool) gi xs14 xv16 G16∧Go.Lx.Sep g0 w0 gi w (Go.Lx.box b2 128 ([v15,v16])::.row v15 50 (tVec 4 .u64).sz b1.sets.length xs13::.row v16 125 1 xv16.length xs14::(G16++Lt))) hM ⟨v1,xs1,v2,xs2,G1,rfl,rfl,rfl,rfl,rfl,hds,hrelxs1,hGG1,hs⟩ ?_
 clear hs hM
 rintro ⟨xv16,xv17⟩ o5 E w hM ⟨v15,xs13,v16,xs14,G16,hE0,hE2,hE10,hE11,hE12,hds,hrelxs13,hGG16,hs⟩
 obtain ⟨E,rfl⟩:=open5 (E:=E) hE0 hE2 hE10 hE11 hE12
 refine WP_seq<|WP_region<|O (r_lss rfl rfl) rfl<|OW_nil<|WP_seq ?_
 rcases condS hM with ⟨hc15,hM⟩|⟨hc15,hM⟩
 ·refine WP_true rfl hc15<|WP_skip ?_
  obtain ⟨xv39,hx3,hKhx3⟩:=bindS hM
  refine WP_cut (fun E w=>∃(v30:Value) (xs28:List Value) (v31:Value) (xs29:List Value) (G37:List Res),E 0=Value.pointer (some ⟨b2,0,none⟩)∧E 2=v4∧E 10=v3∧E 11=Value.int .i64 (fromv1.length:Int)∧E 12=Value.int .i64 xv17∧E.ds=[]∧RowRel (tVec 4 .u64) gi xs28 b1.sets∧GRel (iMap (Value.int .i64) Value.bool) gi xs29 xv39 G37∧Go.Lx.Sep g0 w0 gi w (Go.Lx.box b2 128 ([v30,v31])::.row v30 50 (tVec 4 .u64).sz b1.sets.length xs28::.row v31 125 1 xv39.length xs29::(G37++Lt))) ?_ ?_
  ·have hM:=hx3
   refine WP_block<|WP_seq<|WP_region ?_
   obtain ⟨e36,he36,hM⟩:=bindS hM
   obtain ⟨b53,ob53,cb53,hvb53,cs21,hcs21,hcb53⟩:=hRv3.at he36
   have hcs21:cs21=_:=hcs21; subst hcs21
   refine O (r_idxSl Tryz.underlying34 ti3 (v:=v3) rfl hvb53 rfl (idxL_some he36).1 (idxL_some he36).2.1) rfl<|O (r_loadEl (cs:=[Value.int .i64 e36]) ti3 rfl rfl (.inr rfl) (hcb53 _ hs.imm) (v:=Value.int .i64 e36) rfl) rfl<|O (r_assign (v:=Value.int .i64 e36) rfl) rfl<|OW_nil<|WP_seq<|WP_region<|O (r_move (v:=v4) rfl) rfl ?_
   obtain ⟨a7,ca7,hva7⟩:=hRv4.shape
   refine O (r_lenSl (v:=v4) Tryz.underlying34 rfl hva7) rfl<|O (r_move (v:=Value.int .i64 0) rfl) rfl<|OW_nil<|WP_block<|WP_loop (fun (st9:(List (List (Int×Bool)))×Int) E w=>match st9 with|(xv42,xv43)=>∃(v33:Value) (xs31:List Value) (G40:List Res),E 0=Value.pointer (some ⟨b2,0,none⟩)∧E 2=v4∧E 7=Value.int .i64 e36∧E 10=v3∧E 11=Value.int .i64 (fromv1.length:Int)∧E 12=Value.int .i64 xv17∧E 16=v4∧E 17=Value.int .i64 (tov1.length:Int)∧E 18=Value.int .i64 xv43∧E.ds=[]∧GRel (iMap (Value.int .i64) Value.bool) gi xs31 xv42 G40∧Go.Lx.Sep g0 w0 gi w (Go.Lx.box b2 128 ([v15,v33])::.row v15 50 (tVec 4 .u64).sz b1.sets.length xs13::.row v33 125 1 xv42.length xs31::(G40++Lt))) hM ⟨v16,xs14,G16,rfl,rfl,rfl,rfl,rfl,rfl,rfl,rfl,rfl,hds,hGG16,hs⟩ ?_
   clear hs hM
   rintro ⟨xv42,xv43⟩ o7 E w hM ⟨v33,xs31,G40,hE0,hE2,hE7,hE10,hE11,hE12,hE16,hE17,hE18,hds,hGG40,hs⟩
   obtain ⟨E,rfl⟩:=open8 (E:=E) hE0 hE2 hE7 hE10 hE11 hE12 hE16 hE17
   obtain ⟨E,rfl⟩:=open1 (E:=E) hE18
   refine WP_seq<|WP_region<|O (r_lss rfl rfl) rfl<|OW_nil<|WP_seq ?_
   rcases condS hM with ⟨hc21,hM⟩|⟨hc21,hM⟩
   ·refine WP_true rfl hc21<|WP_skip<|WP_seq<|WP_block<|WP_seq<|WP_region ?_
    obtain ⟨e41,he41,hM⟩:=bindS hM
    obtain ⟨b60,ob60,cb60,hvb60,cs24,hcs24,hcb60⟩:=hRv4.at he41
    have hcs24:cs24=_:=hcs24; subst hcs24
    refine O (r_idxSl Tryz.underlying34 ti3 (v:=v4) rfl hvb60 rfl (idxL_some he41).1 (idxL_some he41).2.1) rfl<|O (r_loadEl (cs:=[Value.int .i64 e41]) ti3 rfl rfl (.inr rfl) (hcb60 _ hs.imm) (v:=Value.int .i64 e41) rfl) rfl<|O (r_assign (v:=Value.int .i64 e41) rfl) rfl<|OW_nil<|WP_region<|O (r_move (v:=Value.pointer (some ⟨b2,0,none⟩)) rfl) rfl<|O (r_nilCheck rfl) rfl<|O (r_fieldAddr Tryz.underlying128 ti126 rfl rfl (by decide) rfl rfl) rfl<|O (r_load (v:=v33) ti126 rfl (hs.cell (i:=0) (o:=1) rfl rfl)) rfl<|O (r_move (v:=Value.int .i64 e36) rfl) rfl ?_
    obtain ⟨e42,he42,hM⟩:=bindS hM
    obtain ⟨b61,cb61,hvb61,u18,rv18,hxu18,hguu18,hinu18,hcb61⟩:=hs.gridAt (i:=2) rfl hGG40 he42
    obtain ⟨b62,es35,ck35,rfl,rfl,hmes35⟩:=hinu18
    refine O (r_idxSl Tryz.underlying126 ti125 (v:=v33) rfl hvb61 rfl (idxL_some he42).1 (idxL_some he42).2.1) rfl<|O (r_loadEl (cs:=[Value.map (some b62)]) ti125 rfl rfl (.inr rfl) (hcb61 _ (hs.at (i:=2) rfl)) (v:=Value.map (some b62)) rfl) rfl<|O (r_move (v:=Value.int .i64 e41) rfl) rfl ?_
    obtain ⟨y18,hy18,hM⟩:=bindS hM
    refine OW_mapSet (kk:=e41) (vv:=true) Tryz.underlying125 (keyLaw_int Tryz.underlying3) hs (gget (A:=[Go.Lx.box b2 128 ([v15,v33]),.row v15 50 (tVec 4 .u64).sz b1.sets.length xs13,.row v33 125 1 xv42.length xs31]) (B:=Lt) hguu18) hmes35 rfl rfl rfl ?_
    intro es36 ck36 wv18 hmes36 hs
    obtain ⟨G43,hGG43,hlenG43,hs⟩:=Sep.gridMap (A:=[Go.Lx.box b2 128 ([v15,v33]),.row v15 50 (tVec 4 .u64).sz b1.sets.length xs13,.row v33 125 1 xv42.length xs31]) (B:=Lt) hGG40 hxu18 hguu18 hmes36 hy18 hs
    replace hs:Go.Lx.Sep g0 w0 gi wv18 (Go.Lx.box b2 128 ([v15,v33])::.row v15 50 (tVec 4 .u64).sz b1.sets.length xs13::.row v33 125 1 y18.length xs31::(G43++Lt)):=by rw [hlenG43]; exact hs
    refine OW_nil<|WP_region ?_
    obtain ⟨t20,ht20,hM⟩:=bindS hM
    refine O (r_addM rfl rfl ht20) rfl<|O (r_move (v:=Value.int .i64 t20) rfl) rfl<|OW_nil ?_
    obtain rfl:=Option.some.inj hM
    exact ⟨v33,xs31,G43,rfl,rfl,rfl,rfl,rfl,rfl,rfl,rfl,rfl,hds,hGG43,hs⟩
   ·refine WP_false rfl hc21<|WP_exit ?_
    obtain rfl:=Option.some.inj hM
    refine fun hr=>?_
    have hM:=congrArg some hr
    obtain rfl:=Option.some.inj hM
    exact ⟨v15,xs13,v33,xs31,G40,rfl,rfl,rfl,rfl,rfl,hds,hrelxs13,hGG40,hs⟩
  ·clear hs
   rintro E w ⟨v30,xs28,v31,xs29,G37,hE0,hE2,hE10,hE11,hE12,hds,hrelxs28,hGG37,hs⟩
   have hM:=hKhx3
   obtain ⟨E,rfl⟩:=open5 (E:=E) hE0 hE2 hE10 hE11 hE12
   refine WP_region ?_
   obtain ⟨t21,ht21,hM⟩:=bindS hM
   refine O (r_addM rfl rfl ht21) rfl<|O (r_move (v:=Value.int .i64 t21) rfl) rfl<|OW_nil ?_
   obtain rfl:=Option.some.inj hM
   exact ⟨v30,xs28,v31,xs29,G37,rfl,rfl,rfl,rfl,rfl,hds,hrelxs28,hGG37,hs⟩
 ·refine WP_false rfl hc15<|WP_exit ?_
  obtain rfl:=Option.some.inj hM
  refine fun hr=>?_
  have hM:=congrArg some hr
  obtain rfl:=Option.some.inj hM
  refine FL_nil hds ?_
  exact ⟨_,res_none Tryz.results86,gi,v15,xs13,v16,xs14,G16,trivial,(Hle.refl _),hrelxs13,hGG16,hs⟩
theorem slices_Grow_int_int_ok {l1:List Int} {n1:Int} {r:List Int} (hM:M.slices_Grow_int_int l1 n1=some r) {g0:Hp} {w0:World} (hi:Imm g0 w0) (hR:RdS (tInt .i64) g0 (Value.slice none 0 0) l1) :
    CallsV Tryz.prog 139 #[Value.slice none 0 0,.int .i64 n1] w0 (fun v w'=>∃g' xs,RowRel (tInt .i64) g' xs r∧Sep g0 w0 g' w' [.row v 3 (tInt .i64).sz r.length xs]):=
  grow_ok (ρ:=Tryz.grow139_ren) Tryz.grow139 (by kernel_rfl) hM hi
set_option maxRecDepth 100000 in
theorem slices_Concat_int_int_ok {slices1:(List (List Int))} {r:(List Int)} (hM:M.slices_Concat_int_int slices1=some r) {g0:Hp} {w0:World} (hi:Imm g0 w0) {v1:Value} (hRv1:RdS (tSl (tInt .i64)) g0 v1 slices1) :
    CallsV Tryz.prog 125 #[v1] w0 (fun v w'=>∃g',(VRd (tSl (tInt .i64)) false g' v r)∧Ext g0 w0 g' w'):=by
 unfold M.slices_Concat_int_int at hM
 have hs:=Sep.start hi
 refine calls_of_WP (args:=[v1]) Tryz.func125 rfl Tryz.ntmps125 rfl ?_
 have hds:(argEnv [v1]).ds=[]:=rfl
 refine WP_seq<|WP_region<|O (r_assign (v:=Value.slice none 0 0) rfl) rfl<|OW_nil<|WP_seq<|WP_region<|O (r_assign (v:=Value.int .i64 0) rfl) rfl<|OW_nil ?_
 obtain ⟨size7,hx4,hKhx4⟩:=bindS hM
 refine WP_cut (fun E w=>E 0=v1∧E 3=Value.int .i64 size7∧E.ds=[]∧Go.Lx.Sep g0 w0 g0 w []) ?_ ?_
 ·have hM:=hx4
  have hag0:=Hle.refl g0
  refine WP_seq<|WP_region<|O (r_move (v:=v1) rfl) rfl ?_
  obtain ⟨a8,ca8,hva8⟩:=hRv1.shape
  refine O (r_lenSl (v:=v1) Tryz.underlying35 rfl hva8) rfl<|O (r_move (v:=Value.int .i64 0) rfl) rfl<|OW_nil<|WP_block<|WP_loop (fun (st9:Int×Int) E w=>match st9 with|(size10,xv5)=>E 0=v1∧E 3=Value.int .i64 size10∧E 9=v1∧E 10=Value.int .i64 (slices1.length:Int)∧E 11=Value.int .i64 xv5∧E.ds=[]∧Go.Lx.Sep g0 w0 g0 w []) hM ⟨rfl,rfl,rfl,rfl,rfl,hds,hs⟩ ?_
  clear hs hM
  rintro ⟨size10,xv5⟩ o2 E w hM ⟨hE0,hE3,hE9,hE10,hE11,hds,hs⟩
  obtain ⟨E,rfl⟩:=open5 (E:=E) hE0 hE3 hE9 hE10 hE11
  refine WP_seq<|WP_region<|O (r_lss rfl rfl) rfl<|OW_nil<|WP_seq ?_
  rcases condS hM with ⟨hc16,hM⟩|⟨hc16,hM⟩
  ·refine WP_true rfl hc16<|WP_skip ?_
   obtain ⟨size13,hx7,hKhx7⟩:=bindS hM
   refine WP_cut (fun E w=>E 0=v1∧E 3=Value.int .i64 size13∧E 9=v1∧E 10=Value.int .i64 (slices1.length:Int)∧E 11=Value.int .i64 xv5∧E.ds=[]∧Go.Lx.Sep g0 w0 g0 w []) ?_ ?_
   ·have hM:=hx7
    refine WP_block<|WP_seq<|WP_region ?_
    obtain ⟨e12,he12,hM⟩:=bindS hM
    obtain ⟨b12,ob12,cb12,hvb12,cs12,hcs12,hcb12⟩:=hRv1.at he12
    obtain ⟨v13,rfl,hRv13⟩:=hcs12
    refine O (r_idxSl Tryz.underlying35 ti34 (v:=v1) rfl hvb12 rfl (idxL_some he12).1 (idxL_some he12).2.1) rfl<|O (r_loadEl (cs:=[v13]) ti34 rfl rfl (.inr rfl) (hcb12 _ hs.imm) (v:=v13) rfl) rfl<|O (r_assign (v:=v13) rfl) rfl<|OW_nil<|WP_seq<|WP_region<|O (r_move (v:=Value.int .i64 size10) rfl) rfl<|O (r_move (v:=v13) rfl) rfl ?_
    obtain ⟨a14,ca14,hva14⟩:=hRv13.shape
    refine O (r_lenSl (v:=v13) Tryz.underlying34 rfl hva14) rfl ?_
    obtain ⟨t17,ht17,hM⟩:=bindS hM
    refine O (r_addM rfl rfl ht17) rfl<|O (r_assign (v:=Value.int .i64 t17) rfl) rfl<|OW_nil<|WP_seq<|WP_region<|O (r_move (v:=Value.int .i64 t17) rfl) rfl<|O (r_lss rfl rfl) rfl<|OW_nil ?_
    rcases condS hM with ⟨hc18,hM⟩|⟨hc18,hM⟩
    ·refine WP_true rfl hc18<|WP_region<|O (r_makeIface (v:=encS [108,101,110,32,111,117,116,32,111,102,32,114,97,110,103,101]) conc9 rfl) rfl ?_
     exact absurd hM (by simp)
    ·refine WP_false rfl hc18<|WP_skip ?_
     obtain rfl:=Option.some.inj hM
     exact ⟨rfl,rfl,rfl,rfl,rfl,hds,hs⟩
   ·clear hs
    rintro E w ⟨hE0,hE3,hE9,hE10,hE11,hds,hs⟩
    have hM:=hKhx7
    obtain ⟨E,rfl⟩:=open5 (E:=E) hE0 hE3 hE9 hE10 hE11
    refine WP_region ?_
    obtain ⟨t18,ht18,hM⟩:=bindS hM
    refine O (r_addM rfl rfl ht18) rfl<|O (r_move (v:=Value.int .i64 t18) rfl) rfl<|OW_nil ?_
    obtain rfl:=Option.some.inj hM
    exact ⟨rfl,rfl,rfl,rfl,rfl,hds,hs⟩
  ·refine WP_false rfl hc16<|WP_exit ?_
   obtain rfl:=Option.some.inj hM
   refine fun hr=>?_
   have hM:=congrArg some hr
   obtain rfl:=Option.some.inj hM
   exact ⟨rfl,rfl,hds,hs⟩
 ·clear hs
  rintro E w ⟨hE0,hE3,hds,hs⟩
  have hM:=hKhx4
  obtain ⟨E,rfl⟩:=open2 (E:=E) hE0 hE3
  refine WP_seq<|WP_region<|O (r_move (v:=Value.int .i64 size7) rfl) rfl ?_
  obtain ⟨newslice1,hnewslice1,hM⟩:=bindS hM
  refine C [Value.slice none 0 0,Value.int .i64 size7] cf139 rfl (slices_Grow_int_int_ok hnewslice1 hs.imm RdS.nil) rfl ?_
  rintro v14 wv1 ⟨gg1,xs1,hvv14,hegg1⟩
  have hlegg1:=hegg1.ext.le hs.imm
  replace hs:=hs.callOwn hegg1
  simp only [List.cons_append,List.nil_append] at hs
  replace hRv1:=hRv1.mono hlegg1
  refine O (r_assign (v:=v14) rfl) rfl<|OW_nil ?_
  obtain ⟨newslice8,hx8,hKhx8⟩:=bindS hM
  refine WP_cut (fun E w=>∃(v24:Value) (xs11:List Value),E 6=v24∧E.ds=[]∧RowRel (tInt .i64) gg1 xs11 newslice8∧Go.Lx.Sep g0 w0 gg1 w [.row v24 3 (tInt .i64).sz newslice8.length xs11]) ?_ ?_
  ·have hM:=hx8
   have hagg1:=Hle.refl gg1
   refine WP_seq<|WP_region<|O (r_move (v:=v1) rfl) rfl ?_
   obtain ⟨a16,ca16,hva16⟩:=hRv1.shape
   refine O (r_lenSl (v:=v1) Tryz.underlying35 rfl hva16) rfl<|O (r_move (v:=Value.int .i64 0) rfl) rfl<|OW_nil<|WP_block<|WP_loop (fun (st9:(List Int)×Int) E w=>match st9 with|(newslice11,xv11)=>∃(v28:Value) (xs15:List Value),E 6=v28∧E 25=v1∧E 26=Value.int .i64 (slices1.length:Int)∧E 27=Value.int .i64 xv11∧E.ds=[]∧RowRel (tInt .i64) gg1 xs15 newslice11∧Go.Lx.Sep g0 w0 gg1 w [.row v28 3 (tInt .i64).sz newslice11.length xs15]) hM ⟨v14,xs1,rfl,rfl,rfl,rfl,hds,hvv14,hs⟩ ?_
   clear hs hM
   rintro ⟨newslice11,xv11⟩ o4 E w hM ⟨v28,xs15,hE6,hE25,hE26,hE27,hds,hrelxs15,hs⟩
   obtain ⟨E,rfl⟩:=open4 (E:=E) hE6 hE25 hE26 hE27
   refine WP_seq<|WP_region<|O (r_lss rfl rfl) rfl<|OW_nil<|WP_seq ?_
   rcases condS hM with ⟨hc24,hM⟩|⟨hc24,hM⟩
   ·refine WP_true rfl hc24<|WP_skip<|WP_seq<|WP_block<|WP_seq<|WP_region ?_
    obtain ⟨e18,he18,hM⟩:=bindS hM
    obtain ⟨b18,ob18,cb18,hvb18,cs18,hcs18,hcb18⟩:=hRv1.at he18
    obtain ⟨v32,rfl,hRv32⟩:=hcs18
    refine O (r_idxSl Tryz.underlying35 ti34 (v:=v1) rfl hvb18 rfl (idxL_some he18).1 (idxL_some he18).2.1) rfl<|O (r_loadEl (cs:=[v32]) ti34 rfl rfl (.inr rfl) (hcb18 _ hs.imm) (v:=v32) rfl) rfl<|O (r_assign (v:=v32) rfl) rfl<|OW_nil<|WP_region<|O (r_move (v:=v28) rfl) rfl<|O (r_move (v:=v32) rfl) rfl ?_
    obtain ⟨xs19,hrxs19,hlxs19⟩:=(id hRv32)
    obtain ⟨newslice14,hnewslice14,hM⟩:=bindS hM
    refine OW_append Tryz.underlying34 ti3 rfl (by decide) (by decide) hs (i:=0) rfl hrelxs15 (v:=v28) rfl (u:=v32) rfl (hlxs19.src hs.imm) hrxs19 hnewslice14 rfl ?_
    intro v33 wv7 xs20 hrelxs20 hs
    refine O (r_assign (v:=v33) rfl) rfl<|OW_nil<|WP_region ?_
    obtain ⟨t24,ht24,hM⟩:=bindS hM
    refine O (r_addM rfl rfl ht24) rfl<|O (r_move (v:=Value.int .i64 t24) rfl) rfl<|OW_nil ?_
    obtain rfl:=Option.some.inj hM
    exact ⟨v33,xs20,rfl,rfl,rfl,rfl,hds,hrelxs20,hs⟩
   ·refine WP_false rfl hc24<|WP_exit ?_
    obtain rfl:=Option.some.inj hM
    refine fun hr=>?_
    have hM:=congrArg some hr
    obtain rfl:=Option.some.inj hM
    exact ⟨v28,xs15,rfl,hds,hrelxs15,hs⟩
  ·clear hs
   rintro E w ⟨v24,xs11,hE6,hds,hrelxs11,hs⟩
   have hM:=hKhx8
   obtain ⟨E,rfl⟩:=open1 (E:=E) hE6
   refine WP_seq<|WP_region<|O (r_move (v:=v24) rfl) rfl<|O (r_assign (v:=v24) rfl) rfl<|OW_nil<|WP_ret ?_
   obtain rfl:=Option.some.inj hM
   obtain ⟨gg2,hlegg2,hRgg2,hs⟩:=hs.relRow (i:=0) rfl hrelxs11
   refine FL_nil hds ?_
   exact ⟨_,res1 Tryz.results125 (rv_tmp (v:=v24) rfl),gg2,⟨[v24],rfl,⟨_,rfl,hRgg2⟩⟩,hs.ext⟩
end Go.Proofs.YtggpjcdhflcfmaaGreatDoor
