/- Part 5 of what the law leans on: my own layer, printed walks, plain facts. -/
import Derived.Test.YtggpjcdhflcfmaaGreatDoorKLexspecTerms4
set_option linter.unusedVariables false
set_option linter.unusedSimpArgs false
namespace Go.Proofs.YtggpjcdhflcfmaaGreatDoor
open Go.Lx Go.RowKit
def C.regex_reader_atom (fl:Nat):Prop:=∀ {p1:T_regex_reader} {r:Rt (T_Regex×T_regex_reader)} (_:M.regex_reader_atom fl p1=some r) {g0:Hp} {w0:World} {gi:Hp} {wi:World} {Lt:List Res} {b1:Nat} (hs:Sep g0 w0 gi wi (Go.Lx.box b1 110 ([encS p1.s,Value.int .i64 p1.atv])::Lt)),
    CallsX Tryz.prog 124 #[Value.pointer (some ⟨b1,0,none⟩)] wi 107 r (fun r v w'=>∃g',(VRd tT_Regex true g' v r.1)∧Hle gi g'∧Sep g0 w0 g' w' (Go.Lx.box b1 110 ([encS r.2.s,Value.int .i64 r.2.atv])::Lt)) (fun w'=>∃g',Hle gi g'∧Sep g0 w0 g' w' Lt)
def C.regex_reader_repeat (fl:Nat):Prop:=∀ {p1:T_regex_reader} {r:Rt (T_Regex×T_regex_reader)} (_:M.regex_reader_repeat fl p1=some r) {g0:Hp} {w0:World} {gi:Hp} {wi:World} {Lt:List Res} {b1:Nat} (hs:Sep g0 w0 gi wi (Go.Lx.box b1 110 ([encS p1.s,Value.int .i64 p1.atv])::Lt)),
    CallsX Tryz.prog 103 #[Value.pointer (some ⟨b1,0,none⟩)] wi 107 r (fun r v w'=>∃g',(VRd tT_Regex true g' v r.1)∧Hle gi g'∧Sep g0 w0 g' w' (Go.Lx.box b1 110 ([encS r.2.s,Value.int .i64 r.2.atv])::Lt)) (fun w'=>∃g',Hle gi g'∧Sep g0 w0 g' w' Lt)
def C.regex_reader_branch (fl:Nat):Prop:=∀ {p1:T_regex_reader} {r:Rt (T_Regex×T_regex_reader)} (_:M.regex_reader_branch fl p1=some r) {g0:Hp} {w0:World} {gi:Hp} {wi:World} {Lt:List Res} {b1:Nat} (hs:Sep g0 w0 gi wi (Go.Lx.box b1 110 ([encS p1.s,Value.int .i64 p1.atv])::Lt)),
    CallsX Tryz.prog 80 #[Value.pointer (some ⟨b1,0,none⟩)] wi 107 r (fun r v w'=>∃g',(VRd tT_Regex true g' v r.1)∧Hle gi g'∧Sep g0 w0 g' w' (Go.Lx.box b1 110 ([encS r.2.s,Value.int .i64 r.2.atv])::Lt)) (fun w'=>∃g',Hle gi g'∧Sep g0 w0 g' w' Lt)
def C.regex_reader_regex (fl:Nat):Prop:=∀ {p1:T_regex_reader} {r:Rt (T_Regex×T_regex_reader)} (_:M.regex_reader_regex fl p1=some r) {g0:Hp} {w0:World} {gi:Hp} {wi:World} {Lt:List Res} {b1:Nat} (hs:Sep g0 w0 gi wi (Go.Lx.box b1 110 ([encS p1.s,Value.int .i64 p1.atv])::Lt)),
    CallsX Tryz.prog 61 #[Value.pointer (some ⟨b1,0,none⟩)] wi 107 r (fun r v w'=>∃g',(VRd tT_Regex true g' v r.1)∧Hle gi g'∧Sep g0 w0 g' w' (Go.Lx.box b1 110 ([encS r.2.s,Value.int .i64 r.2.atv])::Lt)) (fun w'=>∃g',Hle gi g'∧Sep g0 w0 g' w' Lt)
set_option maxRecDepth 100000 in
theorem regex_reader_atom_step {fl:Nat} (ih_regex_reader_regex:C.regex_reader_regex fl):C.regex_reader_atom (fl+1):=by
 intro p1 r hM g0 w0 gi wi Lt b1 hs
 unfold M.regex_reader_atom at hM
 have hagi:=Hle.refl gi
 refine calls_of_WPX (args:=[Value.pointer (some ⟨b1,0,none⟩)]) Tryz.func124 rfl Tryz.ntmps124 rfl ?_
 have hds:(argEnv [Value.pointer (some ⟨b1,0,none⟩)]).ds=[]:=rfl
 refine WP_seq<|WP_region<|OW_alloc ti53 hs (zs:=([Value.int .i64 0])++(((Vec.zero 4).1.map (Value.int .u64))++([Value.slice none 0 0]))) rfl rfl ?_
 intro b2 wv1 hs
 refine OW_nil<|WP_seq<|WP_seq<|WP_region<|O (r_move (v:=Value.pointer (some ⟨b1,0,none⟩)) rfl) rfl ?_
 have hs:Go.Lx.Sep g0 w0 gi _ (Go.Lx.box b1 110 ([encS p1.s,Value.int .i64 p1.atv])::Go.Lx.box b2 53 (([Value.int .i64 0])++(((Vec.zero 4).1.map (Value.int .u64))++([Value.slice none 0 0])))::Lt):=(Sep.selT (A:=[Go.Lx.box b2 53 (([Value.int .i64 0])++(((Vec.zero 4).1.map (Value.int .u64))++([Value.slice none 0 0]))),Go.Lx.box b1 110 ([encS p1.s,Value.int .i64 p1.atv])]) (A':=[Go.Lx.box b1 110 ([encS p1.s,Value.int .i64 p1.atv]),Go.Lx.box b2 53 (([Value.int .i64 0])++(((Vec.zero 4).1.map (Value.int .u64))++([Value.slice none 0 0])))]) (L:=Lt) hs [1,0] (by decide) rfl)
 obtain ⟨rv1,hrv1,hM⟩:=bindS hM
 refine C [Value.pointer (some ⟨b1,0,none⟩)] cf81 rfl (regex_reader_peek_ok hrv1 hs) rfl ?_
 rintro v1 wv2 ⟨gg1,hvv1,hlegg1,hs⟩
 replace hagi:=hagi.trans hlegg1
 obtain ⟨cs1,rfl,hcs1⟩:=hvv1
 have hcs1:cs1=_:=hcs1; subst hcs1
 refine OW_nil<|WP_block<|WP_seq<|WP_region<|O (r_eql rfl rfl) rfl<|O (r_assign (v:=Value.bool (rv1 == 40)) rfl) rfl<|OW_nil ?_
 rcases condS hM with ⟨hc1,hM⟩|⟨hc1,hM⟩
 ·refine WP_true rfl hc1<|WP_seq<|WP_region<|O (r_move (v:=Value.pointer (some ⟨b1,0,none⟩)) rfl) rfl<|O (r_nilCheck rfl) rfl<|O (r_fieldAddr Tryz.underlying110 ti3 rfl rfl (by decide) rfl rfl) rfl<|O (r_load (v:=Value.int .i64 p1.atv) ti3 rfl (hs.cell (i:=0) (o:=1) rfl rfl)) rfl ?_
  obtain ⟨t1,ht1,hM⟩:=bindS hM
  refine O (r_addM rfl rfl ht1) rfl<|O (r_nilCheck rfl) rfl<|O (r_fieldAddr Tryz.underlying110 ti3 rfl rfl (by decide) rfl rfl) rfl<|OW_store1 ti3 hs (i:=0) rfl rfl (v:=Value.int .i64 t1) rfl rfl (o:=1) (by simp) ?_
  intro wv3 hs
  refine OW_nil<|WP_seq<|WP_region<|O (r_move (v:=Value.pointer (some ⟨b1,0,none⟩)) rfl) rfl ?_
  rcases rtS hM with ⟨rv2,hrv2,hM⟩|⟨px1,hpx1,hM⟩
  ·refine C [Value.pointer (some ⟨b1,0,none⟩)] cf61 rfl (ih_regex_reader_regex hrv2 hs) rfl ?_
   rintro v2 wv5 ⟨gg3,hvv2,hlegg3,hs⟩
   replace hagi:=hagi.trans hlegg3
   obtain ⟨cs2,rfl,hcs2⟩:=hvv2
   obtain ⟨cs3,cs4,cs5,rfl,hcs3,hcs4,hcs5⟩:=tT_Regex_iff.1 hcs2
   have hcs3:cs3=_:=hcs3; subst hcs3
   have hcs4:cs4=_:=hcs4; subst hcs4
   obtain ⟨v3,rfl,hRv3⟩:=hcs5
   refine OW_alloc ti53 hs (zs:=([Value.int .i64 0])++(((Vec.zero 4).1.map (Value.int .u64))++([Value.slice none 0 0]))) rfl rfl ?_
   intro b3 wv6 hs
   refine OW_storeAll ti53 hs (i:=0) rfl rfl (v:=Value.agg (List.toArray (α:=Value) (([Value.int .i64 rv2.1.Kind])++((rv2.1.Set.1.map (Value.int .u64))++([v3]))))) rfl (vs:=([Value.int .i64 rv2.1.Kind])++((rv2.1.Set.1.map (Value.int .u64))++([v3]))) rfl (one_append (one_cons rfl one_nil) (one_append vec_one (one_cons (by obtain ⟨_,_,h9⟩:=hRv3.shape; rw [h9]; rfl) one_nil))) (by simp [rv2.1.Set.2]) (by simp [rv2.1.Set.2,(Vec.zero 4).2]) ?_
   intro wv7 hs
   refine OW_nil<|WP_seq<|WP_region<|O (r_move (v:=Value.pointer (some ⟨b1,0,none⟩)) rfl) rfl ?_
   have hs:Go.Lx.Sep g0 w0 gg3 _ (Go.Lx.box b1 110 ([encS rv2.2.s,Value.int .i64 rv2.2.atv])::Go.Lx.box b3 53 (([Value.int .i64 rv2.1.Kind])++((rv2.1.Set.1.map (Value.int .u64))++([v3])))::Go.Lx.box b2 53 (([Value.int .i64 0])++(((Vec.zero 4).1.map (Value.int .u64))++([Value.slice none 0 0])))::Lt):=(Sep.selT (A:=[Go.Lx.box b3 53 (([Value.int .i64 rv2.1.Kind])++((rv2.1.Set.1.map (Value.int .u64))++([v3]))),Go.Lx.box b1 110 ([encS rv2.2.s,Value.int .i64 rv2.2.atv]),Go.Lx.box b2 53 (([Value.int .i64 0])++(((Vec.zero 4).1.map (Value.int .u64))++([Value.slice none 0 0])))]) (A':=[Go.Lx.box b1 110 ([encS rv2.2.s,Value.int .i64 rv2.2.atv]),Go.Lx.box b3 53 (([Value.int .i64 rv2.1.Kind])++((rv2.1.Set.1.map (Value.int .u64))++([v3]))),Go.Lx.box b2 53 (([Value.int .i64 0])++(((Vec.zero 4).1.map (Value.int .u64))++([Value.slice none 0 0])))]) (L:=Lt) hs [1,0,2] (by decide) rfl)
   rcases rtS hM with ⟨rv3,hrv3,hM⟩|⟨px2,hpx2,hM⟩
   ·refine C [Value.pointer (some ⟨b1,0,none⟩),Value.int .u8 41] cf135 rfl (regex_reader_expect_ok hrv3 hs) rfl ?_
    rintro v4 wv9 ⟨gg5,hvv4,hlegg5,hs⟩
    replace hRv3:=hRv3.mono hlegg5
    replace hagi:=hagi.trans hlegg5
    refine OW_nil<|WP_seq<|WP_region<|O (r_loadN (cs:=([Value.int .i64 rv2.1.Kind])++((rv2.1.Set.1.map (Value.int .u64))++([v3]))) ti53 rfl (by simp [rv2.1.Set.2]) (hs.cells (i:=1) rfl)) rfl<|OW_storeAll ti53 hs (i:=2) rfl rfl (v:=Value.agg (List.toArray (α:=Value) (([Value.int .i64 rv2.1.Kind])++((rv2.1.Set.1.map (Value.int .u64))++([v3]))))) rfl (vs:=([Value.int .i64 rv2.1.Kind])++((rv2.1.Set.1.map (Value.int .u64))++([v3]))) rfl (one_append (one_cons rfl one_nil) (one_append vec_one (one_cons (by obtain ⟨_,_,h9⟩:=hRv3.shape; rw [h9]; rfl) one_nil))) (by simp [rv2.1.Set.2]) (by simp [rv2.1.Set.2,(Vec.zero 4).2]) ?_
    intro wv10 hs
    refine OW_nil<|WP_ret ?_
    obtain rfl:=Option.some.inj hM
    refine FL_nil hds ?_
    exact ⟨_,res1 Tryz.results124 (rv_cells (vs:=([Value.int .i64 rv2.1.Kind])++((rv2.1.Set.1.map (Value.int .u64))++([v3]))) ti53 rfl (by simp [rv2.1.Set.2]) (hs.cells (i:=2) rfl)),gg5,⟨([Value.int .i64 rv2.1.Kind])++((rv2.1.Set.1.map (Value.int .u64))++([v3])),rfl,(tT_Regex_iff.2 ⟨[Value.int .i64 rv2.1.Kind],rv2.1.Set.1.map (Value.int .u64),[v3],rfl,rfl,rfl,⟨_,rfl,hRv3⟩⟩)⟩,hagi,(Sep.selT (A:=[Go.Lx.box b1 110 ([encS rv3.s,Value.int .i64 rv3.atv]),Go.Lx.box b3 53 (([Value.int .i64 rv2.1.Kind])++((rv2.1.Set.1.map (Value.int .u64))++([v3]))),Go.Lx.box b2 53 (([Value.int .i64 rv2.1.Kind])++((rv2.1.Set.1.map (Value.int .u64))++([v3])))]) (A':=[Go.Lx.box b1 110 ([encS rv3.s,Value.int .i64 rv3.atv])]) (L:=Lt) hs [0] (by decide) rfl)⟩
   ·refine CN [Value.pointer (some ⟨b1,0,none⟩),Value.int .u8 41] cf135 rfl (regex_reader_expect_ok hpx2 hs) ?_
    rintro wv8 ⟨gg4,hlegg4,hs⟩
    replace hagi:=hagi.trans hlegg4
    obtain rfl:=Option.some.inj hM
    exact ⟨rfl,hds,gg4,hagi,Sep.tail (A:=[Go.Lx.box b3 53 (([Value.int .i64 rv2.1.Kind])++((rv2.1.Set.1.map (Value.int .u64))++([v3]))),Go.Lx.box b2 53 (([Value.int .i64 0])++(((Vec.zero 4).1.map (Value.int .u64))++([Value.slice none 0 0])))]) (L:=Lt) hs⟩
  ·refine CN [Value.pointer (some ⟨b1,0,none⟩)] cf61 rfl (ih_regex_reader_regex hpx1 hs) ?_
   rintro wv4 ⟨gg2,hlegg2,hs⟩
   replace hagi:=hagi.trans hlegg2
   obtain rfl:=Option.some.inj hM
   exact ⟨rfl,hds,gg2,hagi,Sep.tail (A:=[Go.Lx.box b2 53 (([Value.int .i64 0])++(((Vec.zero 4).1.map (Value.int .u64))++([Value.slice none 0 0])))]) (L:=Lt) hs⟩
 ·refine WP_false rfl hc1<|WP_seq<|WP_region<|O (r_eql rfl rfl) rfl<|O (r_assign (v:=Value.bool (rv1 == 91)) rfl) rfl<|OW_nil ?_
  rcases condS hM with ⟨hc2,hM⟩|⟨hc2,hM⟩
  ·refine WP_true rfl hc2<|WP_seq<|WP_region<|O (r_move (v:=Value.pointer (some ⟨b1,0,none⟩)) rfl) rfl ?_
   rcases rtS hM with ⟨rv4,hrv4,hM⟩|⟨px3,hpx3,hM⟩
   ·refine C [Value.pointer (some ⟨b1,0,none⟩)] cf136 rfl (regex_reader_bracket_ok hrv4 hs) rfl ?_
    rintro v5 wv12 ⟨gg7,hvv5,hlegg7,hs⟩
    replace hagi:=hagi.trans hlegg7
    obtain ⟨cs6,rfl,hcs6⟩:=hvv5
    have hcs6:cs6=_:=hcs6; subst hcs6
    refine O (r_build (vs:=[(0,Value.int .i64 3),(1,encV .u64 rv4.1)]) (cs:=([Value.int .i64 3])++((rv4.1.1.map (Value.int .u64))++([Value.slice none 0 0]))) rfl (built_fill [(0,1),(1,4),(5,1)] (([Value.int .i64 0])++(((Vec.zero 4).1.map (Value.int .u64))++([Value.slice none 0 0]))) (fun _=>by kernel_rfl) (fill_step ([]) ([Value.int .i64 0]) (((Vec.zero 4).1.map (Value.int .u64))++([Value.slice none 0 0])) ([Value.int .i64 3]) rfl (by simp) rfl rfl rfl rfl<|fill_step ([Value.int .i64 3]) ((Vec.zero 4).1.map (Value.int .u64)) ([Value.slice none 0 0]) (rv4.1.1.map (Value.int .u64)) rfl (by simp) rfl rfl (by simp [(Vec.zero 4).2]) (by simp [rv4.1.2])<|fill_done))) rfl<|OW_storeAll ti53 hs (i:=1) rfl rfl (v:=Value.agg (List.toArray (α:=Value) (([Value.int .i64 3])++((rv4.1.1.map (Value.int .u64))++([Value.slice none 0 0]))))) rfl (vs:=([Value.int .i64 3])++((rv4.1.1.map (Value.int .u64))++([Value.slice none 0 0]))) rfl (one_append (one_cons rfl one_nil) (one_append vec_one (one_cons rfl one_nil))) (by simp [rv4.1.2]) (by simp [rv4.1.2,(Vec.zero 4).2]) ?_
    intro wv13 hs
    refine OW_nil<|WP_ret ?_
    obtain rfl:=Option.some.inj hM
    refine FL_nil hds ?_
    exact ⟨_,res1 Tryz.results124 (rv_cells (vs:=([Value.int .i64 3])++((rv4.1.1.map (Value.int .u64))++([Value.slice none 0 0]))) ti53 rfl (by simp [rv4.1.2]) (hs.cells (i:=1) rfl)),gg7,⟨([Value.int .i64 3])++((rv4.1.1.map (Value.int .u64))++([Value.slice none 0 0])),rfl,(tT_Regex_iff.2 ⟨[Value.int .i64 3],rv4.1.1.map (Value.int .u64),[Value.slice none 0 0],rfl,rfl,rfl,⟨_,rfl,RdS.nil⟩⟩)⟩,hagi,(Sep.selT (A:=[Go.Lx.box b1 110 ([encS rv4.2.s,Value.int .i64 rv4.2.atv]),Go.Lx.box b2 53 (([Value.int .i64 3])++((rv4.1.1.map (Value.int .u64))++([Value.slice none 0 0])))]) (A':=[Go.Lx.box b1 110 ([encS rv4.2.s,Value.int .i64 rv4.2.atv])]) (L:=Lt) hs [0] (by decide) rfl)⟩
   ·refine CN [Value.pointer (some ⟨b1,0,none⟩)] cf136 rfl (regex_reader_bracket_ok hpx3 hs) ?_
    rintro wv11 ⟨gg6,hlegg6,hs⟩
    replace hagi:=hagi.trans hlegg6
    obtain rfl:=Option.some.inj hM
    exact ⟨rfl,hds,gg6,hagi,Sep.tail (A:=[Go.Lx.box b2 53 (([Value.int .i64 0])++(((Vec.zero 4).1.map (Value.int .u64))++([Value.slice none 0 0])))]) (L:=Lt) hs⟩
  ·refine WP_false rfl hc2<|WP_seq<|WP_region<|O (r_eql rfl rfl) rfl<|O (r_assign (v:=Value.bool (rv1 == 46)) rfl) rfl<|OW_nil ?_
   rcases condS hM with ⟨hc3,hM⟩|⟨hc3,hM⟩
   ·refine WP_true rfl hc3<|WP_seq<|WP_region<|O (r_move (v:=Value.pointer (some ⟨b1,0,none⟩)) rfl) rfl<|O (r_nilCheck rfl) rfl<|O (r_fieldAddr Tryz.underlying110 ti3 rfl rfl (by decide) rfl rfl) rfl<|O (r_load (v:=Value.int .i64 p1.atv) ti3 rfl (hs.cell (i:=0) (o:=1) rfl rfl)) rfl ?_
    obtain ⟨t2,ht2,hM⟩:=bindS hM
    refine O (r_addM rfl rfl ht2) rfl<|O (r_nilCheck rfl) rfl<|O (r_fieldAddr Tryz.underlying110 ti3 rfl rfl (by decide) rfl rfl) rfl<|OW_store1 ti3 hs (i:=0) rfl rfl (v:=Value.int .i64 t2) rfl rfl (o:=1) (by simp) ?_
    intro wv14 hs
    refine OW_nil<|WP_seq<|WP_region ?_
    obtain ⟨rv5,hrv5,hM⟩:=bindS hM
    refine C [] cf137 rfl (regex_dot_ok hrv5 hs.imm) rfl ?_
    rintro v6 wv15 ⟨gg8,hvv6,hegg8⟩
    have hlegg8:=hegg8.le hs.imm
    replace hs:=hs.call hegg8
    replace hagi:=hagi.trans hlegg8
    obtain ⟨cs7,rfl,hcs7⟩:=hvv6
    have hcs7:cs7=_:=hcs7; subst hcs7
    refine O (r_build (vs:=[(0,Value.int .i64 3),(1,encV .u64 rv5)]) (cs:=([Value.int .i64 3])++((rv5.1.map (Value.int .u64))++([Value.slice none 0 0]))) rfl (built_fill [(0,1),(1,4),(5,1)] (([Value.int .i64 0])++(((Vec.zero 4).1.map (Value.int .u64))++([Value.slice none 0 0]))) (fun _=>by kernel_rfl) (fill_step ([]) ([Value.int .i64 0]) (((Vec.zero 4).1.map (Value.int .u64))++([Value.slice none 0 0])) ([Value.int .i64 3]) rfl (by simp) rfl rfl rfl rfl<|fill_step ([Value.int .i64 3]) ((Vec.zero 4).1.map (Value.int .u64)) ([Value.slice none 0 0]) (rv5.1.map (Value.int .u64)) rfl (by simp) rfl rfl (by simp [(Vec.zero 4).2]) (by simp [rv5.2])<|fill_done))) rfl<|OW_storeAll ti53 hs (i:=1) rfl rfl (v:=Value.agg (List.toArray (α:=Value) (([Value.int .i64 3])++((rv5.1.map (Value.int .u64))++([Value.slice none 0 0]))))) rfl (vs:=([Value.int .i64 3])++((rv5.1.map (Value.int .u64))++([Value.slice none 0 0]))) rfl (one_append (one_cons rfl one_nil) (one_append vec_one (one_cons rfl one_nil))) (by simp [rv5.2]) (by simp [rv5.2,(Vec.zero 4).2]) ?_
    intro wv16 hs
    refine OW_nil<|WP_ret ?_
    obtain rfl:=Option.some.inj hM
    refine FL_nil hds ?_
    exact ⟨_,res1 Tryz.results124 (rv_cells (vs:=([Value.int .i64 3])++((rv5.1.map (Value.int .u64))++([Value.slice none 0 0]))) ti53 rfl (by simp [rv5.2]) (hs.cells (i:=1) rfl)),gg8,⟨([Value.int .i64 3])++((rv5.1.map (Value.int .u64))++([Value.slice none 0 0])),rfl,(tT_Regex_iff.2 ⟨[Value.int .i64 3],rv5.1.map (Value.int .u64),[Value.slice none 0 0],rfl,rfl,rfl,⟨_,rfl,RdS.nil⟩⟩)⟩,hagi,(Sep.selT (A:=[Go.Lx.box b1 110 ([encS p1.s,Value.int .i64 t2]),Go.Lx.box b2 53 (([Value.int .i64 3])++((rv5.1.map (Value.int .u64))++([Value.slice none 0 0])))]) (A':=[Go.Lx.box b1 110 ([encS p1.s,Value.int .i64 t2])]) (L:=Lt) hs [0] (by decide) rfl)⟩
   ·refine WP_false rfl hc3<|WP_skip<|WP_seq<|WP_region<|O (r_move (v:=Value.pointer (some ⟨b1,0,none⟩)) rfl) rfl ?_
    rcases rtS hM with ⟨b4,hb4,hM⟩|⟨px4,hpx4,hM⟩
    ·refine C [Value.pointer (some ⟨b1,0,none⟩),encS [40,41,91,93,124,42,43,63,46,92]] cf138 rfl (regex_reader_char_ok hb4 hs) rfl ?_
     rintro v7 wv18 ⟨gg10,hvv7,hlegg10,hs⟩
     replace hagi:=hagi.trans hlegg10
     obtain ⟨cs8,rfl,hcs8⟩:=hvv7
     have hcs8:cs8=_:=hcs8; subst hcs8
     refine O (r_assign (v:=Value.int .u8 b4.1) rfl) rfl<|OW_nil<|WP_seq<|WP_region<|O (r_move (v:=Value.int .u8 b4.1) rfl) rfl<|O (r_move (v:=Value.int .u8 b4.1) rfl) rfl ?_
     obtain ⟨rv6,hrv6,hM⟩:=bindS hM
     refine C [Value.int .u8 b4.1,Value.int .u8 b4.1] cf101 rfl (byteset_Range_ok hrv6 hs.imm) rfl ?_
     rintro v8 wv19 ⟨gg11,hvv8,hegg11⟩
     have hlegg11:=hegg11.le hs.imm
     replace hs:=hs.call hegg11
     replace hagi:=hagi.trans hlegg11
     obtain ⟨cs9,rfl,hcs9⟩:=hvv8
     have hcs9:cs9=_:=hcs9; subst hcs9
     refine O (r_build (vs:=[(0,Value.int .i64 3),(1,encV .u64 rv6)]) (cs:=([Value.int .i64 3])++((rv6.1.map (Value.int .u64))++([Value.slice none 0 0]))) rfl (built_fill [(0,1),(1,4),(5,1)] (([Value.int .i64 0])++(((Vec.zero 4).1.map (Value.int .u64))++([Value.slice none 0 0]))) (fun _=>by kernel_rfl) (fill_step ([]) ([Value.int .i64 0]) (((Vec.zero 4).1.map (Value.int .u64))++([Value.slice none 0 0])) ([Value.int .i64 3]) rfl (by simp) rfl rfl rfl rfl<|fill_step ([Value.int .i64 3]) ((Vec.zero 4).1.map (Value.int .u64)) ([Value.slice none 0 0]) (rv6.1.map (Value.int .u64)) rfl (by simp) rfl rfl (by simp [(Vec.zero 4).2]) (by simp [rv6.2])<|fill_done))) rfl<|OW_storeAll ti53 hs (i:=1) rfl rfl (v:=Value.agg (List.toArray (α:=Value) (([Value.int .i64 3])++((rv6.1.map (Value.int .u64))++([Value.slice none 0 0]))))) rfl (vs:=([Value.int .i64 3])++((rv6.1.map (Value.int .u64))++([Value.slice none 0 0]))) rfl (one_append (one_cons rfl one_nil) (one_append vec_one (one_cons rfl one_nil))) (by simp [rv6.2]) (by simp [rv6.2,(Vec.zero 4).2]) ?_
     intro wv20 hs
     refine OW_nil<|WP_ret ?_
     obtain rfl:=Option.some.inj hM
     refine FL_nil hds ?_
     exact ⟨_,res1 Tryz.results124 (rv_cells (vs:=([Value.int .i64 3])++((rv6.1.map (Value.int .u64))++([Value.slice none 0 0]))) ti53 rfl (by simp [rv6.2]) (hs.cells (i:=1) rfl)),gg11,⟨([Value.int .i64 3])++((rv6.1.map (Value.int .u64))++([Value.slice none 0 0])),rfl,(tT_Regex_iff.2 ⟨[Value.int .i64 3],rv6.1.map (Value.int .u64),[Value.slice none 0 0],rfl,rfl,rfl,⟨_,rfl,RdS.nil⟩⟩)⟩,hagi,(Sep.selT (A:=[Go.Lx.box b1 110 ([encS b4.2.s,Value.int .i64 b4.2.atv]),Go.Lx.box b2 53 (([Value.int .i64 3])++((rv6.1.map (Value.int .u64))++([Value.slice none 0 0])))]) (A':=[Go.Lx.box b1 110 ([encS b4.2.s,Value.int .i64 b4.2.atv])]) (L:=Lt) hs [0] (by decide) rfl)⟩
    ·refine CN [Value.pointer (some ⟨b1,0,none⟩),encS [40,41,91,93,124,42,43,63,46,92]] cf138 rfl (regex_reader_char_ok hpx4 hs) ?_
     rintro wv17 ⟨gg9,hlegg9,hs⟩
     replace hagi:=hagi.trans hlegg9
     obtain rfl:=Option.some.inj hM
     exact ⟨rfl,hds,gg9,hagi,Sep.tail (A:=[Go.Lx.box b2 53 (([Value.int .i64 0])++(((Vec.zero 4).1.map (Value.int .u64))++([Value.slice none 0 0])))]) (L:=Lt) hs⟩
set_option maxRecDepth 100000 in
theorem regex_reader_repeat_step {fl:Nat} (ih_regex_reader_atom:C.regex_reader_atom fl):C.regex_reader_repeat (fl+1):=by
 intro p1 r hM g0 w0 gi wi Lt b1 hs
 unfold M.regex_reader_repeat at hM
 have hagi:=Hle.refl gi
 refine calls_of_WPX (args:=[Value.pointer (some ⟨b1,0,none⟩)]) Tryz.func103 rfl Tryz.ntmps103 rfl ?_
 have hds:(argEnv [Value.pointer (some ⟨b1,0,none⟩)]).ds=[]:=rfl
 refine WP_seq<|WP_region<|OW_alloc ti53 hs (zs:=([Value.int .i64 0])++(((Vec.zero 4).1.map (Value.int .u64))++([Value.slice none 0 0]))) rfl rfl ?_
 intro b2 wv1 hs
 refine OW_nil<|WP_seq<|WP_region<|O (r_move (v:=Value.pointer (some ⟨b1,0,none⟩)) rfl) rfl ?_
 have hs:Go.Lx.Sep g0 w0 gi _ (Go.Lx.box b1 110 ([encS p1.s,Value.int .i64 p1.atv])::Go.Lx.box b2 53 (([Value.int .i64 0])++(((Vec.zero 4).1.map (Value.int .u64))++([Value.slice none 0 0])))::Lt):=(Sep.selT (A:=[Go.Lx.box b2 53 (([Value.int .i64 0])++(((Vec.zero 4).1.map (Value.int .u64))++([Value.slice none 0 0]))),Go.Lx.box b1 110 ([encS p1.s,Value.int .i64 p1.atv])]) (A':=[Go.Lx.box b1 110 ([encS p1.s,Value.int .i64 p1.atv]),Go.Lx.box b2 53 (([Value.int .i64 0])++(((Vec.zero 4).1.map (Value.int .u64))++([Value.slice none 0 0])))]) (L:=Lt) hs [1,0] (by decide) rfl)
 rcases rtS hM with ⟨rv1,hrv1,hM⟩|⟨px1,hpx1,hM⟩
 ·refine C [Value.pointer (some ⟨b1,0,none⟩)] cf124 rfl (ih_regex_reader_atom hrv1 hs) rfl ?_
  rintro v1 wv3 ⟨gg2,hvv1,hlegg2,hs⟩
  replace hagi:=hagi.trans hlegg2
  obtain ⟨cs1,rfl,hcs1⟩:=hvv1
  obtain ⟨cs2,cs3,cs4,rfl,hcs2,hcs3,hcs4⟩:=tT_Regex_iff.1 hcs1
  have hcs2:cs2=_:=hcs2; subst hcs2
  have hcs3:cs3=_:=hcs3; subst hcs3
  obtain ⟨v2,rfl,hRv2⟩:=hcs4
  refine OW_alloc ti53 hs (zs:=([Value.int .i64 0])++(((Vec.zero 4).1.map (Value.int .u64))++([Value.slice none 0 0]))) rfl rfl ?_
  intro b3 wv4 hs
  refine OW_storeAll ti53 hs (i:=0) rfl rfl (v:=Value.agg (List.toArray (α:=Value) (([Value.int .i64 rv1.1.Kind])++((rv1.1.Set.1.map (Value.int .u64))++([v2]))))) rfl (vs:=([Value.int .i64 rv1.1.Kind])++((rv1.1.Set.1.map (Value.int .u64))++([v2]))) rfl (one_append (one_cons rfl one_nil) (one_append vec_one (one_cons (by obtain ⟨_,_,h9⟩:=hRv2.shape; rw [h9]; rfl) one_nil))) (by simp [rv1.1.Set.2]) (by simp [rv1.1.Set.2,(Vec.zero 4).2]) ?_
  intro wv5 hs
  refine OW_nil<|WP_block ?_
  have hagg2:=Hle.refl gg2
  refine WP_loop (fun (st9:Int×Int×(Vec 4)×(List T_Regex)) E w=>match st9 with|(p3,rv8,rv9,rv10)=>∃(gg9:Hp) (v12:Value),E 0=Value.pointer (some ⟨b1,0,none⟩)∧E 2=Value.pointer (some ⟨b2,0,none⟩)∧E 3=Value.pointer (some ⟨b3,0,none⟩)∧E.ds=[]∧Hle gg2 gg9∧RdS tT_Regex gg9 v12 rv10∧Go.Lx.Sep g0 w0 gg9 w (Go.Lx.box b3 53 (([Value.int .i64 rv8])++((rv9.1.map (Value.int .u64))++([v12])))::Go.Lx.box b1 110 ([encS rv1.2.s,Value.int .i64 p3])::Go.Lx.box b2 53 (([Value.int .i64 0])++(((Vec.zero 4).1.map (Value.int .u64))++([Value.slice none 0 0])))::Lt)) hM ⟨gg2,v2,rfl,rfl,rfl,hds,(Hle.refl _),hRv2,hs⟩ ?_
  clear hs hM
  rintro ⟨p3,rv8,rv9,rv10⟩ o3 E w hM ⟨gg9,v12,hE0,hE2,hE3,hds,hlegg9,hRv12,hs⟩
  obtain ⟨E,rfl⟩:=open3 (E:=E) hE0 hE2 hE3
  replace hagi:=hagi.trans hlegg9
  have hagg9:=Hle.refl gg9
  refine WP_block<|WP_seq<|WP_region<|O (r_loadN (cs:=([Value.int .i64 rv8])++((rv9.1.map (Value.int .u64))++([v12]))) ti53 rfl (by simp [rv9.2]) (hs.cells (i:=0) rfl)) rfl<|OW_lit (τ:=tT_Regex) [Value.agg (List.toArray (α:=Value) (([Value.int .i64 rv8])++((rv9.1.map (Value.int .u64))++([v12]))))] [(T_Regex.mk rv8 rv9 rv10)] Tryz.underlying51 ti53 (by decide) hs rfl rfl rfl ⟨(tT_Regex_iff.2 ⟨[Value.int .i64 rv8],rv9.1.map (Value.int .u64),[v12],rfl,rfl,rfl,⟨_,rfl,hRv12⟩⟩),trivial⟩ rfl ?_
  intro v22 wv42 xs13 hrelxs13 hs
  have ho11:=one_of_shape (hs.rowShape (i:=0) rfl)
  refine O (r_build (vs:=[(0,Value.int .i64 6),(2,v22)]) (cs:=([Value.int .i64 6])++(((Vec.zero 4).1.map (Value.int .u64))++([v22]))) rfl (built_fill [(0,1),(1,4),(5,1)] (([Value.int .i64 0])++(((Vec.zero 4).1.map (Value.int .u64))++([Value.slice none 0 0]))) (fun _=>by kernel_rfl) (fill_step ([]) ([Value.int .i64 0]) (((Vec.zero 4).1.map (Value.int .u64))++([Value.slice none 0 0])) ([Value.int .i64 6]) rfl (by simp) rfl rfl rfl rfl<|fill_step (([Value.int .i64 6])++((Vec.zero 4).1.map (Value.int .u64))) ([Value.slice none 0 0]) ([]) ([v22]) rfl (by simp) (cells_one ho11) (by simp [(Vec.zero 4).2]) rfl rfl<|fill_done))) rfl<|OW_alloc ti53 hs (zs:=([Value.int .i64 0])++(((Vec.zero 4).1.map (Value.int .u64))++([Value.slice none 0 0]))) rfl rfl ?_
  intro b6 wv43 hs
  refine OW_storeAll ti53 hs (i:=0) rfl rfl (v:=Value.agg (List.toArray (α:=Value) (([Value.int .i64 6])++(((Vec.zero 4).1.map (Value.int .u64))++([v22]))))) rfl (vs:=([Value.int .i64 6])++(((Vec.zero 4).1.map (Value.int .u64))++([v22]))) rfl (one_append (one_cons rfl one_nil) (one_append vec_one (one_cons (by obtain ⟨_,_,h9⟩:=hs.rowShape (i:=1) rfl; rw [h9]; rfl) one_nil))) (by simp [(Vec.zero 4).2]) (by simp [(Vec.zero 4).2,(Vec.zero 4).2]) ?_
  intro wv44 hs
  refine OW_nil ?_
  obtain ⟨o4,hx3,hKhx3⟩:=stepS hM
  refine WP_cut (fun E w=>∃(rv18:Int) (xv3:(List T_Regex)),o4=.next (rv18,xv3)∧∃(gg18:Hp) (v26:Value) (xs16:List Value),E 0=Value.pointer (some ⟨b1,0,none⟩)∧E 2=Value.pointer (some ⟨b2,0,none⟩)∧E 3=Value.pointer (some ⟨b3,0,none⟩)∧E.ds=[]∧Hle gg9 gg18∧RowRel tT_Regex gg18 xs16 xv3∧Go.Lx.Sep g0 w0 gg18 w (Go.Lx.box b1 110 ([encS rv1.2.s,Value.int .i64 p3])::.row v26 53 tT_Regex.sz xv3.length xs16::Go.Lx.box b3 53 (([Value.int .i64 rv18])++(((Vec.zero 4).1.map (Value.int .u64))++([v26])))::Go.Lx.box b2 53 (([Value.int .i64 0])++(((Vec.zero 4).1.map (Value.int .u64))++([Value.slice none 0 0])))::Lt)) ?_ ?_
  ·have hM:=hx3
   refine WP_seq<|WP_region<|O (r_move (v:=Value.pointer (some ⟨b1,0,none⟩)) rfl) rfl ?_
   have hs:Go.Lx.Sep g0 w0 gg9 _ (Go.Lx.box b1 110 ([encS rv1.2.s,Value.int .i64 p3])::Go.Lx.box b6 53 (([Value.int .i64 6])++(((Vec.zero 4).1.map (Value.int .u64))++([v22])))::.row v22 53 tT_Regex.sz [(T_Regex.mk rv8 rv9 rv10)].length xs13::Go.Lx.box b3 53 (([Value.int .i64 rv8])++((rv9.1.map (Value.int .u64))++([v12])))::Go.Lx.box b2 53 (([Value.int .i64 0])++(((Vec.zero 4).1.map (Value.int .u64))++([Value.slice none 0 0])))::Lt):=(Sep.selT (A:=[Go.Lx.box b6 53 (([Value.int .i64 6])++(((Vec.zero 4).1.map (Value.int .u64))++([v22]))),.row v22 53 tT_Regex.sz [(T_Regex.mk rv8 rv9 rv10)].length xs13,Go.Lx.box b3 53 (([Value.int .i64 rv8])++((rv9.1.map (Value.int .u64))++([v12]))),Go.Lx.box b1 110 ([encS rv1.2.s,Value.int .i64 p3]),Go.Lx.box b2 53 (([Value.int .i64 0])++(((Vec.zero 4).1.map (Value.int .u64))++([Value.slice none 0 0])))]) (A':=[Go.Lx.box b1 110 ([encS rv1.2.s,Value.int .i64 p3]),Go.Lx.box b6 53 (([Value.int .i64 6])++(((Vec.zero 4).1.map (Value.int .u64))++([v22]))),.row v22 53 tT_Regex.sz [(T_Regex.mk rv8 rv9 rv10)].length xs13,Go.Lx.box b3 53 (([Value.int .i64 rv8])++((rv9.1.map (Value.int .u64))++([v12]))),Go.Lx.box b2 53 (([Value.int .i64 0])++(((Vec.zero 4).1.map (Value.int .u64))++([Value.slice none 0 0])))]) (L:=Lt) hs [3,0,1,2,4] (by decide) rfl)
   obtain ⟨rv19,hrv19,hM⟩:=bindS hM
   refine C [Value.pointer (some ⟨b1,0,none⟩)] cf81 rfl (regex_reader_peek_ok hrv19 hs) rfl ?_
   rintro v27 wv52 ⟨gg19,hvv27,hlegg19,hs⟩
   replace hRv12:=hRv12.mono hlegg19
   replace hrelxs13:=hrelxs13.mono hlegg19
   replace hagi:=hagi.trans hlegg19
   replace hagg9:=hagg9.trans hlegg19
   obtain ⟨cs10,rfl,hcs10⟩:=hvv27
   have hcs10:cs10=_:=hcs10; subst hcs10
   refine OW_nil<|WP_block<|WP_seq<|WP_region<|O (r_eql rfl rfl) rfl<|O (r_assign (v:=Value.bool (rv19 == 42)) rfl) rfl<|OW_nil ?_
   rcases condS hM with ⟨hc16,hM⟩|⟨hc16,hM⟩
   ·refine WP_true rfl hc16<|WP_region<|O (r_loadN (cs:=([Value.int .i64 6])++(((Vec.zero 4).1.map (Value.int .u64))++([v22]))) ti53 rfl (by simp [(Vec.zero 4).2]) (hs.cells (i:=1) rfl)) rfl<|OW_storeAll ti53 hs (i:=3) rfl rfl (v:=Value.agg (List.toArray (α:=Value) (([Value.int .i64 6])++(((Vec.zero 4).1.map (Value.int .u64))++([v22]))))) rfl (vs:=([Value.int .i64 6])++(((Vec.zero 4).1.map (Value.int .u64))++([v22]))) rfl (one_append (one_cons rfl one_nil) (one_append vec_one (one_cons (by obtain ⟨_,_,h9⟩:=hs.rowShape (i:=2) rfl; rw [h9]; rfl) one_nil))) (by simp [(Vec.zero 4).2]) (by simp [(Vec.zero 4).2,rv9.2]) ?_
    intro wv53 hs
    refine OW_nil ?_
    obtain rfl:=Option.some.inj hM
    exact ⟨(6:Int),([(T_Regex.mk rv8 rv9 rv10)]:(List T_Regex)),rfl,gg19,v22,xs13,rfl,rfl,rfl,hds,hagg9,hrelxs13,(Sep.selT (A:=[Go.Lx.box b1 110 ([encS rv1.2.s,Value.int .i64 p3]),Go.Lx.box b6 53 (([Value.int .i64 6])++(((Vec.zero 4).1.map (Value.int .u64))++([v22]))),.row v22 53 tT_Regex.sz [(T_Regex.mk rv8 rv9 rv10)].length xs13,Go.Lx.box b3 53 (([Value.int .i64 6])++(((Vec.zero 4).1.map (Value.int .u64))++([v22]))),Go.Lx.box b2 53 (([Value.int .i64 0])++(((Vec.zero 4).1.map (Value.int .u64))++([Value.slice none 0 0])))]) (A':=[Go.Lx.box b1 110 ([encS rv1.2.s,Value.int .i64 p3]),.row v22 53 tT_Regex.sz [(T_Regex.mk rv8 rv9 rv10)].length xs13,Go.Lx.box b3 53 (([Value.int .i64 6])++(((Vec.zero 4).1.map (Value.int .u64))++([v22]))),Go.Lx.box b2 53 (([Value.int .i64 0])++(((Vec.zero 4).1.map (Value.int .u64))++([Value.slice none 0 0])))]) (L:=Lt) hs [0,2,3,4] (by decide) rfl)⟩
   ·refine WP_false rfl hc16<|WP_seq<|WP_region<|O (r_eql rfl rfl) rfl<|O (r_assign (v:=Value.bool (rv19 == 43)) rfl) rfl<|OW_nil ?_
    rcases condS hM with ⟨hc17,hM⟩|⟨hc17,hM⟩
    ·refine WP_true rfl hc17<|WP_region<|O (r_loadN (cs:=([Value.int .i64 rv8])++((rv9.1.map (Value.int .u64))++([v12]))) ti53 rfl (by simp [rv9.2]) (hs.cells (i:=3) rfl)) rfl<|O (r_loadN (cs:=([Value.int .i64 6])++(((Vec.zero 4).1.map (Value.int .u64))++([v22]))) ti53 rfl (by simp [(Vec.zero 4).2]) (hs.cells (i:=1) rfl)) rfl ?_
     obtain ⟨gg20,hlegg20,hRgg20,hs⟩:=hs.relRow (i:=2) rfl hrelxs13
     replace hRv12:=hRv12.mono hlegg20
     replace hagg9:=hagg9.trans hlegg20
     refine OW_lit (τ:=tT_Regex) [Value.agg (List.toArray (α:=Value) (([Value.int .i64 rv8])++((rv9.1.map (Value.int .u64))++([v12])))),Value.agg (List.toArray (α:=Value) (([Value.int .i64 6])++(((Vec.zero 4).1.map (Value.int .u64))++([v22]))))] [(T_Regex.mk rv8 rv9 rv10),(T_Regex.mk 6 (Vec.zero 4) [(T_Regex.mk rv8 rv9 rv10)])] Tryz.underlying51 ti53 (by decide) hs rfl rfl rfl ⟨(tT_Regex_iff.2 ⟨[Value.int .i64 rv8],rv9.1.map (Value.int .u64),[v12],rfl,rfl,rfl,⟨_,rfl,hRv12⟩⟩),(tT_Regex_iff.2 ⟨[Value.int .i64 6],(Vec.zero 4).1.map (Value.int .u64),[v22],rfl,rfl,rfl,⟨_,rfl,hRgg20⟩⟩),trivial⟩ rfl ?_
     intro v28 wv54 xs17 hrelxs17 hs
     have ho14:=one_of_shape (hs.rowShape (i:=0) rfl)
     refine O (r_build (vs:=[(0,Value.int .i64 4),(2,v28)]) (cs:=([Value.int .i64 4])++(((Vec.zero 4).1.map (Value.int .u64))++([v28]))) rfl (built_fill [(0,1),(1,4),(5,1)] (([Value.int .i64 0])++(((Vec.zero 4).1.map (Value.int .u64))++([Value.slice none 0 0]))) (fun _=>by kernel_rfl) (fill_step ([]) ([Value.int .i64 0]) (((Vec.zero 4).1.map (Value.int .u64))++([Value.slice none 0 0])) ([Value.int .i64 4]) rfl (by simp) rfl rfl rfl rfl<|fill_step (([Value.int .i64 4])++((Vec.zero 4).1.map (Value.int .u64))) ([Value.slice none 0 0]) ([]) ([v28]) rfl (by simp) (cells_one ho14) (by simp [(Vec.zero 4).2]) rfl rfl<|fill_done))) rfl<|OW_storeAll ti53 hs (i:=3) rfl rfl (v:=Value.agg (List.toArray (α:=Value) (([Value.int .i64 4])++(((Vec.zero 4).1.map (Value.int .u64))++([v28]))))) rfl (vs:=([Value.int .i64 4])++(((Vec.zero 4).1.map (Value.int .u64))++([v28]))) rfl (one_append (one_cons rfl one_nil) (one_append vec_one (one_cons (by obtain ⟨_,_,h9⟩:=hs.rowShape (i:=0) rfl; rw [h9]; rfl) one_nil))) (by simp [(Vec.zero 4).2]) (by simp [(Vec.zero 4).2,rv9.2]) ?_
     intro wv55 hs
     refine OW_nil ?_
     obtain rfl:=Option.some.inj hM
     exact ⟨(4:Int),([(T_Regex.mk rv8 rv9 rv10),(T_Regex.mk 6 (Vec.zero 4) [(T_Regex.mk rv8 rv9 rv10)])]:(List T_Regex)),rfl,gg20,v28,xs17,rfl,rfl,rfl,hds,hagg9,hrelxs17,(Sep.selT (A:=[.row v28 53 tT_Regex.sz [(T_Regex.mk rv8 rv9 rv10),(T_Regex.mk 6 (Vec.zero 4) [(T_Regex.mk rv8 rv9 rv10)])].length xs17,Go.Lx.box b1 110 ([encS rv1.2.s,Value.int .i64 p3]),Go.Lx.box b6 53 (([Value.int .i64 6])++(((Vec.zero 4).1.map (Value.int .u64))++([v22]))),Go.Lx.box b3 53 (([Value.int .i64 4])++(((Vec.zero 4).1.map (Value.int .u64))++([v28]))),Go.Lx.box b2 53 (([Value.int .i64 0])++(((Vec.zero 4).1.map (Value.int .u64))++([Value.slice none 0 0])))]) (A':=[Go.Lx.box b1 110 ([encS rv1.2.s,Value.int .i64 p3]),.row v28 53 tT_Regex.sz [(T_Regex.mk rv8 rv9 rv10),(T_Regex.mk 6 (Vec.zero 4) [(T_Regex.mk rv8 rv9 rv10)])].length xs17,Go.Lx.box b3 53 (([Value.int .i64 4])++(((Vec.zero 4).1.map (Value.int .u64))++([v28]))),Go.Lx.box b2 53 (([Value.int .i64 0])++(((Vec.zero 4).1.map (Value.int .u64))++([Value.slice none 0 0])))]) (L:=Lt) hs [1,0,3,4] (by decide) rfl)⟩
    ·refine WP_false rfl hc17<|WP_seq<|WP_region<|O (r_eql rfl rfl) rfl<|O (r_assign (v:=Value.bool (rv19 == 63)) rfl) rfl<|OW_nil ?_
     rcases condS hM with ⟨hc18,hM⟩|⟨hc18,hM⟩
     ·refine WP_true rfl hc18<|WP_region<|O (r_loadN (cs:=([Value.int .i64 rv8])++((rv9.1.map (Value.int .u64))++([v12]))) ti53 rfl (by simp [rv9.2]) (hs.cells (i:=3) rfl)) rfl<|O (r_build (vs:=[(0,Value.int .i64 2)]) (cs:=([Value.int .i64 2])++(((Vec.zero 4).1.map (Value.int .u64))++([Value.slice none 0 0]))) rfl (built_fill [(0,1),(1,4),(5,1)] (([Value.int .i64 0])++(((Vec.zero 4).1.map (Value.int .u64))++([Value.slice none 0 0]))) (fun _=>by kernel_rfl) (fill_step ([]) ([Value.int .i64 0]) (((Vec.zero 4).1.map (Value.int .u64))++([Value.slice none 0 0])) ([Value.int .i64 2]) rfl (by simp) rfl rfl rfl rfl<|fill_done))) rfl<|OW_lit (τ:=tT_Regex) [Value.agg (List.toArray (α:=Value) (([Value.int .i64 rv8])++((rv9.1.map (Value.int .u64))++([v12])))),Value.agg (List.toArray (α:=Value) (([Value.int .i64 2])++(((Vec.zero 4).1.map (Value.int .u64))++([Value.slice none 0 0]))))] [(T_Regex.mk rv8 rv9 rv10),(T_Regex.mk 2 (Vec.zero 4) [])] Tryz.underlying51 ti53 (by decide) hs rfl rfl rfl ⟨(tT_Regex_iff.2 ⟨[Value.int .i64 rv8],rv9.1.map (Value.int .u64),[v12],rfl,rfl,rfl,⟨_,rfl,hRv12⟩⟩),(tT_Regex_iff.2 ⟨[Value.int .i64 2],(Vec.zero 4).1.map (Value.int .u64),[Value.slice none 0 0],rfl,rfl,rfl,⟨_,rfl,RdS.nil⟩⟩),trivial⟩ rfl ?_
      intro v29 wv56 xs18 hrelxs18 hs
      have ho15:=one_of_shape (hs.rowShape (i:=0) rfl)
      refine O (r_build (vs:=[(0,Value.int .i64 5),(2,v29)]) (cs:=([Value.int .i64 5])++(((Vec.zero 4).1.map (Value.int .u64))++([v29]))) rfl (built_fill [(0,1),(1,4),(5,1)] (([Value.int .i64 0])++(((Vec.zero 4).1.map (Value.int .u64))++([Value.slice none 0 0]))) (fun _=>by kernel_rfl) (fill_step ([]) ([Value.int .i64 0]) (((Vec.zero 4).1.map (Value.int .u64))++([Value.slice none 0 0])) ([Value.int .i64 5]) rfl (by simp) rfl rfl rfl rfl<|fill_step (([Value.int .i64 5])++((Vec.zero 4).1.map (Value.int .u64))) ([Value.slice none 0 0]) ([]) ([v29]) rfl (by simp) (cells_one ho15) (by simp [(Vec.zero 4).2]) rfl rfl<|fill_done))) rfl<|OW_storeAll ti53 hs (i:=4) rfl rfl (v:=Value.agg (List.toArray (α:=Value) (([Value.int .i64 5])++(((Vec.zero 4).1.map (Value.int .u64))++([v29]))))) rfl (vs:=([Value.int .i64 5])++(((Vec.zero 4).1.map (Value.int .u64))++([v29]))) rfl (one_append (one_cons rfl one_nil) (one_append vec_one (one_cons (by obtain ⟨_,_,h9⟩:=hs.rowShape (i:=0) rfl; rw [h9]; rfl) one_nil))) (by simp [(Vec.zero 4).2]) (by simp [(Vec.zero 4).2,rv9.2]) ?_
      intro wv57 hs
      refine OW_nil ?_
      obtain rfl:=Option.some.inj hM
      exact ⟨(5:Int),([(T_Regex.mk rv8 rv9 rv10),(T_Regex.mk 2 (Vec.zero 4) [])]:(List T_Regex)),rfl,gg19,v29,xs18,rfl,rfl,rfl,hds,hagg9,hrelxs18,(Sep.selT (A:=[.row v29 53 tT_Regex.sz [(T_Regex.mk rv8 rv9 rv10),(T_Regex.mk 2 (Vec.zero 4) [])].length xs18,Go.Lx.box b1 110 ([encS rv1.2.s,Value.int .i64 p3]),Go.Lx.box b6 53 (([Value.int .i64 6])++(((Vec.zero 4).1.map (Value.int .u64))++([v22]))),.row v22 53 tT_Regex.sz [(T_Regex.mk rv8 rv9 rv10)].length xs13,Go.Lx.box b3 53 (([Value.int .i64 5])++(((Vec.zero 4).1.map (Value.int .u64))++([v29]))),Go.Lx.box b2 53 (([Value.int .i64 0])++(((Vec.zero 4).1.map (Value.int .u64))++([Value.slice none 0 0])))]) (A':=[Go.Lx.box b1 110 ([encS rv1.2.s,Value.int .i64 p3]),.row v29 53 tT_Regex.sz [(T_Regex.mk rv8 rv9 rv10),(T_Regex.mk 2 (Vec.zero 4) [])].length xs18,Go.Lx.box b3 53 (([Value.int .i64 5])++(((Vec.zero 4).1.map (Value.int .u64))++([v29]))),Go.Lx.box b2 53 (([Value.int .i64 0])++(((Vec.zero 4).1.map (Value.int .u64))++([Value.slice none 0 0])))]) (L:=Lt) hs [1,0,4,5] (by decide) rfl)⟩
     ·refine WP_false rfl hc18<|WP_seq<|WP_region<|O (r_loadN (cs:=([Value.int .i64 rv8])++((rv9.1.map (Value.int .u64))++([v12]))) ti53 rfl (by simp [rv9.2]) (hs.cells (i:=3) rfl)) rfl<|OW_storeAll ti53 hs (i:=4) rfl rfl (v:=Value.agg (List.toArray (α:=Value) (([Value.int .i64 rv8])++((rv9.1.map (Value.int .u64))++([v12]))))) rfl (vs:=([Value.int .i64 rv8])++((rv9.1.map (Value.int .u64))++([v12]))) rfl (one_append (one_cons rfl one_nil) (one_append vec_one (one_cons (by obtain ⟨_,_,h9⟩:=hRv12.shape; rw [h9]; rfl) one_nil))) (by simp [rv9.2]) (by simp [rv9.2,(Vec.zero 4).2]) ?_
      intro wv58 hs
      refine OW_nil<|WP_ret ?_
      obtain rfl:=Option.some.inj hM
      have hM:=hKhx3
      obtain rfl:=Option.some.inj hM
      refine fun hr=>?_
      have hM:=congrArg some hr
      obtain rfl:=Option.some.inj hM
      refine FL_nil hds ?_
      exact ⟨_,res1 Tryz.results103 (rv_cells (vs:=([Value.int .i64 rv8])++((rv9.1.map (Value.int .u64))++([v12]))) ti53 rfl (by simp [rv9.2]) (hs.cells (i:=4) rfl)),gg19,⟨([Value.int .i64 rv8])++((rv9.1.map (Value.int .u64))++([v12])),rfl,(tT_Regex_iff.2 ⟨[Value.int .i64 rv8],rv9.1.map (Value.int .u64),[v12],rfl,rfl,rfl,⟨_,rfl,hRv12⟩⟩)⟩,hagi,(Sep.selT (A:=[Go.Lx.box b1 110 ([encS rv1.2.s,Value.int .i64 p3]),Go.Lx.box b6 53 (([Value.int .i64 6])++(((Vec.zero 4).1.map (Value.int .u64))++([v22]))),.row v22 53 tT_Regex.sz [(T_Regex.mk rv8 rv9 rv10)].length xs13,Go.Lx.box b3 53 (([Value.int .i64 rv8])++((rv9.1.map (Value.int .u64))++([v12]))),Go.Lx.box b2 53 (([Value.int .i64 rv8])++((rv9.1.map (Value.int .u64))++([v12])))]) (A':=[Go.Lx.box b1 110 ([encS rv1.2.s,Value.int .i64 p3])]) (L:=Lt) hs [0] (by decide) rfl)⟩
  ·clear hs
   rintro E w ⟨rv18,xv3,rfl,gg18,v26,xs16,hE0,hE2,hE3,hds,hlegg18,hrelxs16,hs⟩
   have hM:=hKhx3
   dsimp only [onStep] at hM
   obtain ⟨E,rfl⟩:=open3 (E:=E) hE0 hE2 hE3
   replace hlegg9:=hlegg9.trans hlegg18
   refine WP_region<|O (r_move (v:=Value.pointer (some ⟨b1,0,none⟩)) rfl) rfl<|O (r_nilCheck rfl) rfl<|O (r_fieldAddr Tryz.underlying110 ti3 rfl rfl (by decide) rfl rfl) rfl<|O (r_load (v:=Value.int .i64 p3) ti3 rfl (hs.cell (i:=0) (o:=1) rfl rfl)) rfl ?_
   obtain ⟨t3,ht3,hM⟩:=bindS hM
   refine O (r_addM rfl rfl ht3) rfl<|O (r_nilCheck rfl) rfl<|O (r_fieldAddr Tryz.underlying110 ti3 rfl rfl (by decide) rfl rfl) rfl<|OW_store1 ti3 hs (i:=0) rfl rfl (v:=Value.int .i64 t3) rfl rfl (o:=1) (by simp) ?_
   intro wv59 hs
   refine OW_nil ?_
   obtain rfl:=Option.some.inj hM
   obtain ⟨gg21,hlegg21,hRgg21,hs⟩:=hs.relRow (i:=1) rfl hrelxs16
   replace hlegg9:=hlegg9.trans hlegg21
   exact ⟨gg21,v26,rfl,rfl,rfl,hds,hlegg9,hRgg21,(Sep.selT (A:=[Go.Lx.box b1 110 ([encS rv1.2.s,Value.int .i64 t3]),Go.Lx.box b3 53 (([Value.int .i64 rv18])++(((Vec.zero 4).1.map (Value.int .u64))++([v26]))),Go.Lx.box b2 53 (([Value.int .i64 0])++(((Vec.zero 4).1.map (Value.int .u64))++([Value.slice none 0 0])))]) (A':=[Go.Lx.box b3 53 (([Value.int .i64 rv18])++(((Vec.zero 4).1.map (Value.int .u64))++([v26]))),Go.Lx.box b1 110 ([encS rv1.2.s,Value.int .i64 t3]),Go.Lx.box b2 53 (([Value.int .i64 0])++(((Vec.zero 4).1.map (Value.int .u64))++([Value.slice none 0 0])))]) (L:=Lt) hs [1,0,2] (by decide) rfl)⟩
 ·refine CN [Value.pointer (some ⟨b1,0,none⟩)] cf124 rfl (ih_regex_reader_atom hpx1 hs) ?_
  rintro wv2 ⟨gg1,hlegg1,hs⟩
  replace hagi:=hagi.trans hlegg1
  obtain rfl:=Option.some.inj hM
  exact ⟨rfl,hds,gg1,hagi,Sep.tail (A:=[Go.Lx.box b2 53 (([Value.int .i64 0])++(((Vec.zero 4).1.map (Value.int .u64))++([Value.slice none 0 0])))]) (L:=Lt) hs⟩
set_option maxRecDepth 100000 in
theorem regex_reader_branch_step {fl:Nat} (ih_regex_reader_repeat:C.regex_reader_repeat fl):C.regex_reader_branch (fl+1):=by
 intro p1 r hM g0 w0 gi wi Lt b1 hs
 unfold M.regex_reader_branch at hM
 have hagi:=Hle.refl gi
 refine calls_of_WPX (args:=[Value.pointer (some ⟨b1,0,none⟩)]) Tryz.func80 rfl Tryz.ntmps80 rfl ?_
 have hds:(argEnv [Value.pointer (some ⟨b1,0,none⟩)]).ds=[]:=rfl
 refine WP_seq<|WP_region<|OW_alloc ti53 hs (zs:=([Value.int .i64 0])++(((Vec.zero 4).1.map (Value.int .u64))++([Value.slice none 0 0]))) rfl rfl ?_
 intro b2 wv1 hs
 refine OW_nil<|WP_seq<|WP_region<|O (r_assign (v:=Value.slice none 0 0) rfl) rfl<|OW_nil ?_
 obtain ⟨o3,hx4,hKhx4⟩:=stepS hM
 refine WP_cut (fun E w=>∃(xv7:(List T_Regex)) (l3:Str) (l4:Int),o3=.next (xv7,l3,l4)∧∃(gg10:Hp) (v16:Value) (xs11:List Value),E 2=Value.pointer (some ⟨b2,0,none⟩)∧E 3=v16∧E.ds=[]∧Hle gi gg10∧RowRel tT_Regex gg10 xs11 xv7∧Go.Lx.Sep g0 w0 gg10 w (.row v16 53 tT_Regex.sz xv7.length xs11::Go.Lx.box b2 53 (([Value.int .i64 0])++(((Vec.zero 4).1.map (Value.int .u64))++([Value.slice none 0 0])))::Go.Lx.box b1 110 ([encS l3,Value.int .i64 l4])::Lt)) ?_ ?_
 ·have hM:=hx4
  refine WP_block ?_
  have hs:=hs.nilRow 53 tT_Regex.sz
  refine WP_loop (fun (st9:Str×Int×(List T_Regex)) E w=>match st9 with|(p10,p11,xv10)=>∃(gg14:Hp) (v22:Value) (xs16:List Value),E 0=Value.pointer (some ⟨b1,0,none⟩)∧E 2=Value.pointer (some ⟨b2,0,none⟩)∧E 3=v22∧E.ds=[]∧Hle gi gg14∧RowRel tT_Regex gg14 xs16 xv10∧Go.Lx.Sep g0 w0 gg14 w (.row v22 53 tT_Regex.sz xv10.length xs16::Go.Lx.box b2 53 (([Value.int .i64 0])++(((Vec.zero 4).1.map (Value.int .u64))++([Value.slice none 0 0])))::Go.Lx.box b1 110 ([encS p10,Value.int .i64 p11])::Lt)) hM ⟨gi,(Value.slice none 0 0),[],rfl,rfl,rfl,hds,(Hle.refl _),RowRel.nil,hs⟩ ?_
  clear hs hM
  rintro ⟨p10,p11,xv10⟩ o2 E w hM ⟨gg14,v22,xs16,hE0,hE2,hE3,hds,hlegg14,hrelxs16,hs⟩
  obtain ⟨E,rfl⟩:=open3 (E:=E) hE0 hE2 hE3
  have hagg14:=Hle.refl gg14
  refine WP_seq ?_
  obtain ⟨xv13,hx7,hKhx7⟩:=bindS hM
  refine WP_cut (fun E w=>E 0=Value.pointer (some ⟨b1,0,none⟩)∧E 2=Value.pointer (some ⟨b2,0,none⟩)∧E 3=v22∧E 37=Value.bool xv13∧E.ds=[]∧Go.Lx.Sep g0 w0 gg14 w (.row v22 53 tT_Regex.sz xv10.length xs16::Go.Lx.box b2 53 (([Value.int .i64 0])++(((Vec.zero 4).1.map (Value.int .u64))++([Value.slice none 0 0])))::Go.Lx.box b1 110 ([encS p10,Value.int .i64 p11])::Lt)) ?_ ?_
  ·have hM:=hx7
   refine WP_draw mo (by decide +kernel) ?_
   have hs:=hs.drew
   refine S (r_move (v:=Value.pointer (some ⟨b1,0,none⟩)) rfl) rfl<|S (r_nilCheck rfl) rfl<|S (r_fieldAddr Tryz.underlying110 ti3 rfl rfl (by decide) rfl rfl) rfl<|S (r_load (v:=Value.int .i64 p11) ti3 rfl (hs.cell (i:=2) (o:=1) rfl rfl)) rfl<|S (r_move (v:=Value.pointer (some ⟨b1,0,none⟩)) rfl) rfl<|S (r_nilCheck rfl) rfl<|S (r_fieldAddr Tryz.underlying110 ti9 rfl rfl (by decide) rfl rfl) rfl<|S (r_load (v:=encS p10) ti9 rfl (hs.cell (i:=2) (o:=0) rfl rfl)) rfl<|S (r_lenStr Tryz.underlying9 rfl) rfl<|S (r_lss rfl rfl) rfl<|S (r_move (v:=Value.bool (decide (p11<(p10.length:Int)))) rfl) rfl ?_
   rcases condS hM with ⟨hg23,hM⟩|⟨hg23,hM⟩
   ·refine SG rfl rfl rfl (by rw [hg23]; rfl) (r_move (v:=Value.pointer (some ⟨b1,0,none⟩)) rfl) rfl<|SG rfl rfl rfl (by rw [hg23]; rfl) (r_nilCheck rfl) rfl<|SG rfl rfl rfl (by rw [hg23]; rfl) (r_fieldAddr Tryz.underlying110 ti9 rfl rfl (by decide) rfl rfl) rfl<|SG rfl rfl rfl (by rw [hg23]; rfl) (r_load (v:=encS p10) ti9 rfl (hs.cell (i:=2) (o:=0) rfl rfl)) rfl<|SG rfl rfl rfl (by rw [hg23]; rfl) (r_move (v:=Value.pointer (some ⟨b1,0,none⟩)) rfl) rfl<|SG rfl rfl rfl (by rw [hg23]; rfl) (r_nilCheck rfl) rfl<|SG rfl rfl rfl (by rw [hg23]; rfl) (r_fieldAddr Tryz.underlying110 ti3 rfl rfl (by decide) rfl rfl) rfl<|SG rfl rfl rfl (by rw [hg23]; rfl) (r_load (v:=Value.int .i64 p11) ti3 rfl (hs.cell (i:=2) (o:=1) rfl rfl)) rfl ?_
    obtain ⟨c12,hc12,hM⟩:=bindS hM
    refine SG rfl rfl rfl (by rw [hg23]; rfl) (r_idxStr Tryz.underlying9 rfl rfl hc12) rfl<|SG rfl rfl rfl (by rw [hg23]; rfl) (r_neq rfl rfl) rfl<|S (r_pickT (v:=Value.bool (c12 != 124)) rfl hg23 rfl) rfl<|S (r_move (v:=Value.bool (c12 != 124)) rfl) rfl ?_
    rcases condS hM with ⟨hg24,hM⟩|⟨hg24,hM⟩
    ·refine SG rfl rfl rfl (by rw [hg24]; rfl) (r_move (v:=Value.pointer (some ⟨b1,0,none⟩)) rfl) rfl<|SG rfl rfl rfl (by rw [hg24]; rfl) (r_nilCheck rfl) rfl<|SG rfl rfl rfl (by rw [hg24]; rfl) (r_fieldAddr Tryz.underlying110 ti9 rfl rfl (by decide) rfl rfl) rfl<|SG rfl rfl rfl (by rw [hg24]; rfl) (r_load (v:=encS p10) ti9 rfl (hs.cell (i:=2) (o:=0) rfl rfl)) rfl<|SG rfl rfl rfl (by rw [hg24]; rfl) (r_move (v:=Value.pointer (some ⟨b1,0,none⟩)) rfl) rfl<|SG rfl rfl rfl (by rw [hg24]; rfl) (r_nilCheck rfl) rfl<|SG rfl rfl rfl (by rw [hg24]; rfl) (r_fieldAddr Tryz.underlying110 ti3 rfl rfl (by decide) rfl rfl) rfl<|SG rfl rfl rfl (by rw [hg24]; rfl) (r_load (v:=Value.int .i64 p11) ti3 rfl (hs.cell (i:=2) (o:=1) rfl rfl)) rfl ?_
     refine SG rfl rfl rfl (by rw [hg24]; rfl) (r_idxStr Tryz.underlying9 rfl rfl hc12) rfl<|SG rfl rfl rfl (by rw [hg24]; rfl) (r_neq rfl rfl) rfl<|S (r_pickT (v:=Value.bool (c12 != 41)) rfl hg24 rfl) rfl<|SW_nil ?_
     obtain rfl:=Option.some.inj hM
     exact ⟨rfl,rfl,rfl,rfl,hds,hs⟩
    ·refine SK rfl rfl rfl (by rw [hg24]; rfl) rfl<|SK rfl rfl rfl (by rw [hg24]; rfl) rfl<|SK rfl rfl rfl (by rw [hg24]; rfl) rfl<|SK rfl rfl rfl (by rw [hg24]; rfl) rfl<|SK rfl rfl rfl (by rw [hg24]; rfl) rfl<|SK rfl rfl rfl (by rw [hg24]; rfl) rfl<|SK rfl rfl rfl (by rw [hg24]; rfl) rfl<|SK rfl rfl rfl (by rw [hg24]; rfl) rfl<|SK rfl rfl rfl (by rw [hg24]; rfl) rfl<|SK rfl rfl rfl (by rw [hg24]; rfl) rfl<|S (r_pickF (v:=Value.bool false) rfl hg24 rfl) rfl<|SW_nil ?_
     obtain rfl:=Option.some.inj hM
     exact ⟨rfl,rfl,rfl,rfl,hds,hs⟩
   ·refine SK rfl rfl rfl (by rw [hg23]; rfl) rfl<|SK rfl rfl rfl (by rw [hg23]; rfl) rfl<|SK rfl rfl rfl (by rw [hg23]; rfl) rfl<|SK rfl rfl rfl (by rw [hg23]; rfl) rfl<|SK rfl rfl rfl (by rw [hg23]; rfl) rfl<|SK rfl rfl rfl (by rw [hg23]; rfl) rfl<|SK rfl rfl rfl (by rw [hg23]; rfl) rfl<|SK rfl rfl rfl (by rw [hg23]; rfl) rfl<|SK rfl rfl rfl (by rw [hg23]; rfl) rfl<|SK rfl rfl rfl (by rw [hg23]; rfl) rfl<|S (r_pickF (v:=Value.bool false) rfl hg23 rfl) rfl<|S (r_move (v:=Value.bool false) rfl) rfl<|SK rfl rfl rfl rfl rfl<|SK rfl rfl rfl rfl rfl<|SK rfl rfl rfl rfl rfl<|SK rfl rfl rfl rfl rfl<|SK rfl rfl rfl rfl rfl<|SK rfl rfl rfl rfl rfl<|SK rfl rfl rfl rfl rfl ?_
    refine SK rfl rfl rfl rfl rfl<|SK rfl rfl rfl rfl rfl<|SK rfl rfl rfl rfl rfl<|S (r_pickF (v:=Value.bool false) rfl rfl rfl) rfl<|SW_nil ?_
    obtain rfl:=Option.some.inj hM
    exact ⟨rfl,rfl,rfl,rfl,hds,hs⟩
  ·clear hs
   rintro E w ⟨hE0,hE2,hE3,hE37,hds,hs⟩
   have hM:=hKhx7
   obtain ⟨E,rfl⟩:=open4 (E:=E) hE0 hE2 hE3 hE37
   rcases condS hM with ⟨hc6,hM⟩|⟨hc6,hM⟩
   ·refine WP_true rfl hc6<|WP_skip<|WP_block<|WP_region<|O (r_move (v:=v22) rfl) rfl<|O (r_move (v:=Value.pointer (some ⟨b1,0,none⟩)) rfl) rfl ?_
    have hs:Go.Lx.Sep g0 w0 gg14 _ (Go.Lx.box b1 110 ([encS p10,Value.int .i64 p11])::.row v22 53 tT_Regex.sz xv10.length xs16::Go.Lx.box b2 53 (([Value.int .i64 0])++(((Vec.zero 4).1.map (Value.int .u64))++([Value.slice none 0 0])))::Lt):=(Sep.selT (A:=[.row v22 53 tT_Regex.sz xv10.length xs16,Go.Lx.box b2 53 (([Value.int .i64 0])++(((Vec.zero 4).1.map (Value.int .u64))++([Value.slice none 0 0]))),Go.Lx.box b1 110 ([encS p10,Value.int .i64 p11])]) (A':=[Go.Lx.box b1 110 ([encS p10,Value.int .i64 p11]),.row v22 53 tT_Regex.sz xv10.length xs16,Go.Lx.box b2 53 (([Value.int .i64 0])++(((Vec.zero 4).1.map (Value.int .u64))++([Value.slice none 0 0])))]) (L:=Lt) hs [2,0,1] (by decide) rfl)
    rcases rtS hM with ⟨rv6,hrv6,hM⟩|⟨px6,hpx6,hM⟩
    ·refine C [Value.pointer (some ⟨b1,0,none⟩)] cf103 rfl (ih_regex_reader_repeat hrv6 hs) rfl ?_
     rintro v28 wv23 ⟨gg19,hvv28,hlegg19,hs⟩
     replace hrelxs16:=hrelxs16.mono hlegg19
     replace hlegg14:=hlegg14.trans hlegg19
     obtain ⟨cs21,rfl,hcs21⟩:=hvv28
     obtain ⟨cs22,cs23,cs24,rfl,hcs22,hcs23,hcs24⟩:=tT_Regex_iff.1 hcs21
     have hcs22:cs22=_:=hcs22; subst hcs22
     have hcs23:cs23=_:=hcs23; subst hcs23
     obtain ⟨v29,rfl,hRv29⟩:=hcs24
     refine OW_lit (τ:=tT_Regex) [Value.agg (List.toArray (α:=Value) (([Value.int .i64 rv6.1.Kind])++((rv6.1.Set.1.map (Value.int .u64))++([v29]))))] [rv6.1] Tryz.underlying51 ti53 (by decide) hs rfl rfl rfl ⟨(tT_Regex_iff.2 ⟨[Value.int .i64 rv6.1.Kind],rv6.1.Set.1.map (Value.int .u64),[v29],rfl,rfl,rfl,⟨_,rfl,hRv29⟩⟩),trivial⟩ rfl ?_
     intro v30 wv24 xs20 hrelxs20 hs
     obtain ⟨l6,hl6,hM⟩:=bindS hM
     refine OW_append Tryz.underlying51 ti53 rfl (by decide) (by decide) hs (i:=2) rfl hrelxs16 (v:=v22) rfl (u:=v30) rfl (hs.rowSrc (i:=0) rfl) hrelxs20 hl6 rfl ?_
     intro v31 wv25 xs21 hrelxs21 hs
     refine O (r_assign (v:=v31) rfl) rfl<|OW_nil ?_
     obtain rfl:=Option.some.inj hM
     exact ⟨gg19,v31,xs21,rfl,rfl,rfl,hds,hlegg14,hrelxs21,(Sep.selT (A:=[.row v30 53 tT_Regex.sz [rv6.1].length xs20,Go.Lx.box b1 110 ([encS rv6.2.s,Value.int .i64 rv6.2.atv]),.row v31 53 tT_Regex.sz l6.length xs21,Go.Lx.box b2 53 (([Value.int .i64 0])++(((Vec.zero 4).1.map (Value.int .u64))++([Value.slice none 0 0])))]) (A':=[.row v31 53 tT_Regex.sz l6.length xs21,Go.Lx.box b2 53 (([Value.int .i64 0])++(((Vec.zero 4).1.map (Value.int .u64))++([Value.slice none 0 0]))),Go.Lx.box b1 110 ([encS rv6.2.s,Value.int .i64 rv6.2.atv])]) (L:=Lt) hs [2,3,1] (by decide) rfl)⟩
    ·refine CN [Value.pointer (some ⟨b1,0,none⟩)] cf103 rfl (ih_regex_reader_repeat hpx6 hs) ?_
     rintro wv22 ⟨gg18,hlegg18,hs⟩
     replace hlegg14:=hlegg14.trans hlegg18
     obtain rfl:=Option.some.inj hM
     refine fun hr=>?_
     have hM:=congrArg some hr
     obtain rfl:=Option.some.inj hM
     have hM:=hKhx4
     obtain rfl:=Option.some.inj hM
     exact ⟨rfl,hds,gg18,hlegg14,Sep.tail (A:=[.row v22 53 tT_Regex.sz xv10.length xs16,Go.Lx.box b2 53 (([Value.int .i64 0])++(((Vec.zero 4).1.map (Value.int .u64))++([Value.slice none 0 0])))]) (L:=Lt) hs⟩
   ·refine WP_false rfl hc6<|WP_exit ?_
    obtain rfl:=Option.some.inj hM
    refine fun hr=>?_
    have hM:=congrArg some hr
    obtain rfl:=Option.some.inj hM
    exact ⟨xv10,p10,p11,rfl,gg14,v22,xs16,rfl,rfl,hds,hlegg14,hrelxs16,hs⟩
 ·clear hs
  rintro E w ⟨xv7,l3,l4,rfl,gg10,v16,xs11,hE2,hE3,hds,hlegg10,hrelxs11,hs⟩
  have hM:=hKhx4
  dsimp only [onStep] at hM
  obtain ⟨E,rfl⟩:=open2 (E:=E) hE2 hE3
  replace hagi:=hagi.trans hlegg10
  refine WP_seq<|WP_seq<|WP_region<|O (r_move (v:=v16) rfl) rfl ?_
  obtain ⟨a1,ca1,hva1⟩:=hs.rowShape (i:=0) rfl
  refine O (r_lenSl (v:=v16) Tryz.underlying51 rfl hva1) rfl<|O (r_eql rfl rfl) rfl<|OW_nil ?_
  rcases condS hM with ⟨hc7,hM⟩|⟨hc7,hM⟩
  ·refine WP_true rfl hc7<|WP_seq<|WP_region<|O (r_build (vs:=[(0,Value.int .i64 2)]) (cs:=([Value.int .i64 2])++(((Vec.zero 4).1.map (Value.int .u64))++([Value.slice none 0 0]))) rfl (built_fill [(0,1),(1,4),(5,1)] (([Value.int .i64 0])++(((Vec.zero 4).1.map (Value.int .u64))++([Value.slice none 0 0]))) (fun _=>by kernel_rfl) (fill_step ([]) ([Value.int .i64 0]) (((Vec.zero 4).1.map (Value.int .u64))++([Value.slice none 0 0])) ([Value.int .i64 2]) rfl (by simp) rfl rfl rfl rfl<|fill_done))) rfl<|OW_storeAll ti53 hs (i:=1) rfl rfl (v:=Value.agg (List.toArray (α:=Value) (([Value.int .i64 2])++(((Vec.zero 4).1.map (Value.int .u64))++([Value.slice none 0 0]))))) rfl (vs:=([Value.int .i64 2])++(((Vec.zero 4).1.map (Value.int .u64))++([Value.slice none 0 0]))) rfl (one_append (one_cons rfl one_nil) (one_append vec_one (one_cons rfl one_nil))) (by simp [(Vec.zero 4).2]) (by simp [(Vec.zero 4).2,(Vec.zero 4).2]) ?_
   intro wv26 hs
   refine OW_nil<|WP_ret ?_
   obtain rfl:=Option.some.inj hM
   refine FL_nil hds ?_
   exact ⟨_,res1 Tryz.results80 (rv_cells (vs:=([Value.int .i64 2])++(((Vec.zero 4).1.map (Value.int .u64))++([Value.slice none 0 0]))) ti53 rfl (by simp [(Vec.zero 4).2]) (hs.cells (i:=1) rfl)),gg10,⟨([Value.int .i64 2])++(((Vec.zero 4).1.map (Value.int .u64))++([Value.slice none 0 0])),rfl,(tT_Regex_iff.2 ⟨[Value.int .i64 2],(Vec.zero 4).1.map (Value.int .u64),[Value.slice none 0 0],rfl,rfl,rfl,⟨_,rfl,RdS.nil⟩⟩)⟩,hagi,(Sep.selT (A:=[.row v16 53 tT_Regex.sz xv7.length xs11,Go.Lx.box b2 53 (([Value.int .i64 2])++(((Vec.zero 4).1.map (Value.int .u64))++([Value.slice none 0 0]))),Go.Lx.box b1 110 ([encS l3,Value.int .i64 l4])]) (A':=[Go.Lx.box b1 110 ([encS l3,Value.int .i64 l4])]) (L:=Lt) hs [2] (by decide) rfl)⟩
  ·refine WP_false rfl hc7<|WP_skip<|WP_seq<|WP_region<|O (r_move (v:=v16) rfl) rfl ?_
   obtain ⟨gg20,hlegg20,hRgg20,hs⟩:=hs.relRow (i:=0) rfl hrelxs11
   replace hagi:=hagi.trans hlegg20
   obtain ⟨rv7,hrv7,hM⟩:=bindS hM
   refine C [Value.int .i64 4,v16] cf82 rfl (regex_group_ok hrv7 hs.imm hRgg20) rfl ?_
   rintro v32 wv27 ⟨gg21,hvv32,hegg21⟩
   have hlegg21:=hegg21.le hs.imm
   replace hs:=hs.call hegg21
   replace hagi:=hagi.trans hlegg21
   obtain ⟨cs25,rfl,hcs25⟩:=hvv32
   obtain ⟨cs26,cs27,cs28,rfl,hcs26,hcs27,hcs28⟩:=tT_Regex_iff.1 hcs25
   have hcs26:cs26=_:=hcs26; subst hcs26
   have hcs27:cs27=_:=hcs27; subst hcs27
   obtain ⟨v33,rfl,hRv33⟩:=hcs28
   refine OW_storeAll ti53 hs (i:=0) rfl rfl (v:=Value.agg (List.toArray (α:=Value) (([Value.int .i64 rv7.Kind])++((rv7.Set.1.map (Value.int .u64))++([v33]))))) rfl (vs:=([Value.int .i64 rv7.Kind])++((rv7.Set.1.map (Value.int .u64))++([v33]))) rfl (one_append (one_cons rfl one_nil) (one_append vec_one (one_cons (by obtain ⟨_,_,h9⟩:=hRv33.shape; rw [h9]; rfl) one_nil))) (by simp [rv7.Set.2]) (by simp [rv7.Set.2,(Vec.zero 4).2]) ?_
   intro wv28 hs
   refine OW_nil<|WP_ret ?_
   obtain rfl:=Option.some.inj hM
   refine FL_nil hds ?_
   exact ⟨_,res1 Tryz.results80 (rv_cells (vs:=([Value.int .i64 rv7.Kind])++((rv7.Set.1.map (Value.int .u64))++([v33]))) ti53 rfl (by simp [rv7.Set.2]) (hs.cells (i:=0) rfl)),gg21,⟨([Value.int .i64 rv7.Kind])++((rv7.Set.1.map (Value.int .u64))++([v33])),rfl,(tT_Regex_iff.2 ⟨[Value.int .i64 rv7.Kind],rv7.Set.1.map (Value.int .u64),[v33],rfl,rfl,rfl,⟨_,rfl,hRv33⟩⟩)⟩,hagi,(Sep.selT (A:=[Go.Lx.box b2 53 (([Value.int .i64 rv7.Kind])++((rv7.Set.1.map (Value.int .u64))++([v33]))),Go.Lx.box b1 110 ([encS l3,Value.int .i64 l4])]) (A':=[Go.Lx.box b1 110 ([encS l3,Value.int .i64 l4])]) (L:=Lt) hs [1] (by decide) rfl)⟩
set_option maxRecDepth 100000 in
theorem regex_reader_regex_step {fl:Nat} (ih_regex_reader_branch:C.regex_reader_branch fl):C.regex_reader_regex (fl+1):=by
 intro p1 r hM g0 w0 gi wi Lt b1 hs
 unfold M.regex_reader_regex at hM
 have hagi:=Hle.refl gi
 refine calls_of_WPX (args:=[Value.pointer (some ⟨b1,0,none⟩)]) Tryz.func61 rfl Tryz.ntmps61 rfl ?_
 have hds:(argEnv [Value.pointer (some ⟨b1,0,none⟩)]).ds=[]:=rfl
 refine WP_seq<|WP_region<|OW_alloc ti53 hs (zs:=([Value.int .i64 0])++(((Vec.zero 4).1.map (Value.int .u64))++([Value.slice none 0 0]))) rfl rfl ?_
 intro b2 wv1 hs
 refine OW_nil<|WP_seq<|WP_region<|O (r_move (v:=Value.pointer (some ⟨b1,0,none⟩)) rfl) rfl ?_
 have hs:Go.Lx.Sep g0 w0 gi _ (Go.Lx.box b1 110 ([encS p1.s,Value.int .i64 p1.atv])::Go.Lx.box b2 53 (([Value.int .i64 0])++(((Vec.zero 4).1.map (Value.int .u64))++([Value.slice none 0 0])))::Lt):=(Sep.selT (A:=[Go.Lx.box b2 53 (([Value.int .i64 0])++(((Vec.zero 4).1.map (Value.int .u64))++([Value.slice none 0 0]))),Go.Lx.box b1 110 ([encS p1.s,Value.int .i64 p1.atv])]) (A':=[Go.Lx.box b1 110 ([encS p1.s,Value.int .i64 p1.atv]),Go.Lx.box b2 53 (([Value.int .i64 0])++(((Vec.zero 4).1.map (Value.int .u64))++([Value.slice none 0 0])))]) (L:=Lt) hs [1,0] (by decide) rfl)
 rcases rtS hM with ⟨rv1,hrv1,hM⟩|⟨px1,hpx1,hM⟩
 ·refine C [Value.pointer (some ⟨b1,0,none⟩)] cf80 rfl (ih_regex_reader_branch hrv1 hs) rfl ?_
  rintro v1 wv3 ⟨gg2,hvv1,hlegg2,hs⟩
  replace hagi:=hagi.trans hlegg2
  obtain ⟨cs1,rfl,hcs1⟩:=hvv1
  obtain ⟨cs2,cs3,cs4,rfl,hcs2,hcs3,hcs4⟩:=tT_Regex_iff.1 hcs1
  have hcs2:cs2=_:=hcs2; subst hcs2
  have hcs3:cs3=_:=hcs3; subst hcs3
  obtain ⟨v2,rfl,hRv2⟩:=hcs4
  refine OW_lit (τ:=tT_Regex) [Value.agg (List.toArray (α:=Value) (([Value.int .i64 rv1.1.Kind])++((rv1.1.Set.1.map (Value.int .u64))++([v2]))))] [rv1.1] Tryz.underlying51 ti53 (by decide) hs rfl rfl rfl ⟨(tT_Regex_iff.2 ⟨[Value.int .i64 rv1.1.Kind],rv1.1.Set.1.map (Value.int .u64),[v2],rfl,rfl,rfl,⟨_,rfl,hRv2⟩⟩),trivial⟩ rfl ?_
  intro v3 wv4 xs1 hrelxs1 hs
  refine O (r_assign (v:=v3) rfl) rfl<|OW_nil ?_
  obtain ⟨o3,hx1,hKhx1⟩:=stepS hM
  refine WP_cut (fun E w=>∃(xv4:(List T_Regex)) (l4:Str) (l5:Int),o3=.next (xv4,l4,l5)∧∃(gg15:Hp) (v22:Value) (xs11:List Value),E 2=Value.pointer (some ⟨b2,0,none⟩)∧E 3=v22∧E.ds=[]∧Hle gg2 gg15∧RowRel tT_Regex gg15 xs11 xv4∧Go.Lx.Sep g0 w0 gg15 w (Go.Lx.box b1 110 ([encS l4,Value.int .i64 l5])::.row v22 53 tT_Regex.sz xv4.length xs11::Go.Lx.box b2 53 (([Value.int .i64 0])++(((Vec.zero 4).1.map (Value.int .u64))++([Value.slice none 0 0])))::Lt)) ?_ ?_
  ·have hM:=hx1
   have hagg2:=Hle.refl gg2
   refine WP_block<|WP_loop (fun (st9:Str×Int×(List T_Regex)) E w=>match st9 with|(p10,p11,xv6)=>∃(gg20:Hp) (v29:Value) (xs15:List Value),E 0=Value.pointer (some ⟨b1,0,none⟩)∧E 2=Value.pointer (some ⟨b2,0,none⟩)∧E 3=v29∧E.ds=[]∧Hle gg2 gg20∧RowRel tT_Regex gg20 xs15 xv6∧Go.Lx.Sep g0 w0 gg20 w (.row v29 53 tT_Regex.sz xv6.length xs15::Go.Lx.box b1 110 ([encS p10,Value.int .i64 p11])::Go.Lx.box b2 53 (([Value.int .i64 0])++(((Vec.zero 4).1.map (Value.int .u64))++([Value.slice none 0 0])))::Lt)) hM ⟨gg2,v3,xs1,rfl,rfl,rfl,hds,(Hle.refl _),hrelxs1,hs⟩ ?_
   clear hs hM
   rintro ⟨p10,p11,xv6⟩ o2 E w hM ⟨gg20,v29,xs15,hE0,hE2,hE3,hds,hlegg20,hrelxs15,hs⟩
   obtain ⟨E,rfl⟩:=open3 (E:=E) hE0 hE2 hE3
   replace hagi:=hagi.trans hlegg20
   have hagg20:=Hle.refl gg20
   refine WP_seq<|WP_seq<|WP_region<|O (r_move (v:=Value.pointer (some ⟨b1,0,none⟩)) rfl) rfl ?_
   have hs:Go.Lx.Sep g0 w0 gg20 _ (Go.Lx.box b1 110 ([encS p10,Value.int .i64 p11])::.row v29 53 tT_Regex.sz xv6.length xs15::Go.Lx.box b2 53 (([Value.int .i64 0])++(((Vec.zero 4).1.map (Value.int .u64))++([Value.slice none 0 0])))::Lt):=(Sep.selT (A:=[.row v29 53 tT_Regex.sz xv6.length xs15,Go.Lx.box b1 110 ([encS p10,Value.int .i64 p11]),Go.Lx.box b2 53 (([Value.int .i64 0])++(((Vec.zero 4).1.map (Value.int .u64))++([Value.slice none 0 0])))]) (A':=[Go.Lx.box b1 110 ([encS p10,Value.int .i64 p11]),.row v29 53 tT_Regex.sz xv6.length xs15,Go.Lx.box b2 53 (([Value.int .i64 0])++(((Vec.zero 4).1.map (Value.int .u64))++([Value.slice none 0 0])))]) (L:=Lt) hs [1,0,2] (by decide) rfl)
   obtain ⟨rv12,hrv12,hM⟩:=bindS hM
   refine C [Value.pointer (some ⟨b1,0,none⟩)] cf81 rfl (regex_reader_peek_ok hrv12 hs) rfl ?_
   rintro v36 wv35 ⟨gg25,hvv36,hlegg25,hs⟩
   replace hrelxs15:=hrelxs15.mono hlegg25
   replace hagi:=hagi.trans hlegg25
   replace hlegg20:=hlegg20.trans hlegg25
   obtain ⟨cs30,rfl,hcs30⟩:=hvv36
   have hcs30:cs30=_:=hcs30; subst hcs30
   refine O (r_eql rfl rfl) rfl<|OW_nil ?_
   rcases condS hM with ⟨hc6,hM⟩|⟨hc6,hM⟩
   ·refine WP_true rfl hc6<|WP_skip<|WP_block<|WP_seq<|WP_region<|O (r_move (v:=Value.pointer (some ⟨b1,0,none⟩)) rfl) rfl<|O (r_nilCheck rfl) rfl<|O (r_fieldAddr Tryz.underlying110 ti3 rfl rfl (by decide) rfl rfl) rfl<|O (r_load (v:=Value.int .i64 p11) ti3 rfl (hs.cell (i:=0) (o:=1) rfl rfl)) rfl ?_
    obtain ⟨t6,ht6,hM⟩:=bindS hM
    refine O (r_addM rfl rfl ht6) rfl<|O (r_nilCheck rfl) rfl<|O (r_fieldAddr Tryz.underlying110 ti3 rfl rfl (by decide) rfl rfl) rfl<|OW_store1 ti3 hs (i:=0) rfl rfl (v:=Value.int .i64 t6) rfl rfl (o:=1) (by simp) ?_
    intro wv36 hs
    refine OW_nil<|WP_region<|O (r_move (v:=v29) rfl) rfl<|O (r_move (v:=Value.pointer (some ⟨b1,0,none⟩)) rfl) rfl ?_
    rcases rtS hM with ⟨rv13,hrv13,hM⟩|⟨px7,hpx7,hM⟩
    ·refine C [Value.pointer (some ⟨b1,0,none⟩)] cf80 rfl (ih_regex_reader_branch hrv13 hs) rfl ?_
     rintro v37 wv38 ⟨gg27,hvv37,hlegg27,hs⟩
     replace hrelxs15:=hrelxs15.mono hlegg27
     replace hlegg20:=hlegg20.trans hlegg27
     obtain ⟨cs31,rfl,hcs31⟩:=hvv37
     obtain ⟨cs32,cs33,cs34,rfl,hcs32,hcs33,hcs34⟩:=tT_Regex_iff.1 hcs31
     have hcs32:cs32=_:=hcs32; subst hcs32
     have hcs33:cs33=_:=hcs33; subst hcs33
     obtain ⟨v38,rfl,hRv38⟩:=hcs34
     refine OW_lit (τ:=tT_Regex) [Value.agg (List.toArray (α:=Value) (([Value.int .i64 rv13.1.Kind])++((rv13.1.Set.1.map (Value.int .u64))++([v38]))))] [rv13.1] Tryz.underlying51 ti53 (by decide) hs rfl rfl rfl ⟨(tT_Regex_iff.2 ⟨[Value.int .i64 rv13.1.Kind],rv13.1.Set.1.map (Value.int .u64),[v38],rfl,rfl,rfl,⟨_,rfl,hRv38⟩⟩),trivial⟩ rfl ?_
     intro v39 wv39 xs19 hrelxs19 hs
     obtain ⟨l8,hl8,hM⟩:=bindS hM
     refine OW_append Tryz.underlying51 ti53 rfl (by decide) (by decide) hs (i:=2) rfl hrelxs15 (v:=v29) rfl (u:=v39) rfl (hs.rowSrc (i:=0) rfl) hrelxs19 hl8 rfl ?_
     intro v40 wv40 xs20 hrelxs20 hs
     refine O (r_assign (v:=v40) rfl) rfl<|OW_nil ?_
     obtain rfl:=Option.some.inj hM
     exact ⟨gg27,v40,xs20,rfl,rfl,rfl,hds,hlegg20,hrelxs20,(Sep.selT (A:=[.row v39 53 tT_Regex.sz [rv13.1].length xs19,Go.Lx.box b1 110 ([encS rv13.2.s,Value.int .i64 rv13.2.atv]),.row v40 53 tT_Regex.sz l8.length xs20,Go.Lx.box b2 53 (([Value.int .i64 0])++(((Vec.zero 4).1.map (Value.int .u64))++([Value.slice none 0 0])))]) (A':=[.row v40 53 tT_Regex.sz l8.length xs20,Go.Lx.box b1 110 ([encS rv13.2.s,Value.int .i64 rv13.2.atv]),Go.Lx.box b2 53 (([Value.int .i64 0])++(((Vec.zero 4).1.map (Value.int .u64))++([Value.slice none 0 0])))]) (L:=Lt) hs [2,1,3] (by decide) rfl)⟩
    ·refine CN [Value.pointer (some ⟨b1,0,none⟩)] cf80 rfl (ih_regex_reader_branch hpx7 hs) ?_
     rintro wv37 ⟨gg26,hlegg26,hs⟩
     replace hagi:=hagi.trans hlegg26
     obtain rfl:=Option.some.inj hM
     refine fun hr=>?_
     have hM:=congrArg some hr
     obtain rfl:=Option.some.inj hM
     have hM:=hKhx1
     obtain rfl:=Option.some.inj hM
     exact ⟨rfl,hds,gg26,hagi,Sep.tail (A:=[.row v29 53 tT_Regex.sz xv6.length xs15,Go.Lx.box b2 53 (([Value.int .i64 0])++(((Vec.zero 4).1.map (Value.int .u64))++([Value.slice none 0 0])))]) (L:=Lt) hs⟩
   ·refine WP_false rfl hc6<|WP_exit ?_
    obtain rfl:=Option.some.inj hM
    refine fun hr=>?_
    have hM:=congrArg some hr
    obtain rfl:=Option.some.inj hM
    exact ⟨xv6,p10,p11,rfl,gg25,v29,xs15,rfl,rfl,hds,hlegg20,hrelxs15,hs⟩
  ·clear hs
   rintro E w ⟨xv4,l4,l5,rfl,gg15,v22,xs11,hE2,hE3,hds,hlegg15,hrelxs11,hs⟩
   have hM:=hKhx1
   dsimp only [onStep] at hM
   obtain ⟨E,rfl⟩:=open2 (E:=E) hE2 hE3
   replace hagi:=hagi.trans hlegg15
   refine WP_seq<|WP_region<|O (r_move (v:=v22) rfl) rfl ?_
   obtain ⟨gg28,hlegg28,hRgg28,hs⟩:=hs.relRow (i:=1) rfl hrelxs11
   replace hagi:=hagi.trans hlegg28
   obtain ⟨rv14,hrv14,hM⟩:=bindS hM
   refine C [Value.int .i64 5,v22] cf82 rfl (regex_group_ok hrv14 hs.imm hRgg28) rfl ?_
   rintro v41 wv41 ⟨gg29,hvv41,hegg29⟩
   have hlegg29:=hegg29.le hs.imm
   replace hs:=hs.call hegg29
   replace hagi:=hagi.trans hlegg29
   obtain ⟨cs35,rfl,hcs35⟩:=hvv41
   obtain ⟨cs36,cs37,cs38,rfl,hcs36,hcs37,hcs38⟩:=tT_Regex_iff.1 hcs35
   have hcs36:cs36=_:=hcs36; subst hcs36
   have hcs37:cs37=_:=hcs37; subst hcs37
   obtain ⟨v42,rfl,hRv42⟩:=hcs38
   refine OW_storeAll ti53 hs (i:=1) rfl rfl (v:=Value.agg (List.toArray (α:=Value) (([Value.int .i64 rv14.Kind])++((rv14.Set.1.map (Value.int .u64))++([v42]))))) rfl (vs:=([Value.int .i64 rv14.Kind])++((rv14.Set.1.map (Value.int .u64))++([v42]))) rfl (one_append (one_cons rfl one_nil) (one_append vec_one (one_cons (by obtain ⟨_,_,h9⟩:=hRv42.shape; rw [h9]; rfl) one_nil))) (by simp [rv14.Set.2]) (by simp [rv14.Set.2,(Vec.zero 4).2]) ?_
   intro wv42 hs
   refine OW_nil<|WP_ret ?_
   obtain rfl:=Option.some.inj hM
   refine FL_nil hds ?_
   exact ⟨_,res1 Tryz.results61 (rv_cells (vs:=([Value.int .i64 rv14.Kind])++((rv14.Set.1.map (Value.int .u64))++([v42]))) ti53 rfl (by simp [rv14.Set.2]) (hs.cells (i:=1) rfl)),gg29,⟨([Value.int .i64 rv14.Kind])++((rv14.Set.1.map (Value.int .u64))++([v42])),rfl,(tT_Regex_iff.2 ⟨[Value.int .i64 rv14.Kind],rv14.Set.1.map (Value.int .u64),[v42],rfl,rfl,rfl,⟨_,rfl,hRv42⟩⟩)⟩,hagi,(Sep.selT (A:=[Go.Lx.box b1 110 ([encS l4,Value.int .i64 l5]),Go.Lx.box b2 53 (([Value.int .i64 rv14.Kind])++((rv14.Set.1.map (Value.int .u64))++([v42])))]) (A':=[Go.Lx.box b1 110 ([encS l4,Value.int .i64 l5])]) (L:=Lt) hs [0] (by decide) rfl)⟩
 ·refine CN [Value.pointer (some ⟨b1,0,none⟩)] cf80 rfl (ih_regex_reader_branch hpx1 hs) ?_
  rintro wv2 ⟨gg1,hlegg1,hs⟩
  replace hagi:=hagi.trans hlegg1
  obtain rfl:=Option.some.inj hM
  exact ⟨rfl,hds,gg1,hagi,Sep.tail (A:=[Go.Lx.box b2 53 (([Value.int .i64 0])++(((Vec.zero 4).1.map (Value.int .u64))++([Value.slice none 0 0])))]) (L:=Lt) hs⟩
theorem regex_reader_atom_zero:C.regex_reader_atom 0:=by
  unfold C.regex_reader_atom
  intros
  simp_all only [M.regex_reader_atom,reduceCtorEq]
theorem regex_reader_repeat_zero:C.regex_reader_repeat 0:=by
  unfold C.regex_reader_repeat
  intros
  simp_all only [M.regex_reader_repeat,reduceCtorEq]
theorem regex_reader_branch_zero:C.regex_reader_branch 0:=by
  unfold C.regex_reader_branch
  intros
  simp_all only [M.regex_reader_branch,reduceCtorEq]
theorem regex_reader_regex_zero:C.regex_reader_regex 0:=by
  unfold C.regex_reader_regex
  intros
  simp_all only [M.regex_reader_regex,reduceCtorEq]
theorem regex_reader_atom_all:∀fl,C.regex_reader_atom fl∧C.regex_reader_repeat fl∧C.regex_reader_branch fl∧C.regex_reader_regex fl:=by
  intro fl
  induction fl with
  | zero=>exact ⟨regex_reader_atom_zero,regex_reader_repeat_zero,regex_reader_branch_zero,regex_reader_regex_zero⟩
  | succ fl ih=>
    obtain ⟨ih_regex_reader_atom,ih_regex_reader_repeat,ih_regex_reader_branch,ih_regex_reader_regex⟩:=ih
    exact ⟨regex_reader_atom_step ih_regex_reader_regex,regex_reader_repeat_step ih_regex_reader_atom,regex_reader_branch_step ih_regex_reader_repeat,regex_reader_regex_step ih_regex_reader_branch⟩
theorem regex_reader_regex_ok {fl:Nat}:C.regex_reader_regex fl:=(regex_reader_atom_all fl).2.2.2
def C.regex_valid (fl:Nat):Prop:=∀ {rv1:T_Regex} {depth1:Int} {r:Bool} (_:M.regex_valid fl rv1 depth1=some r) {g0:Hp} {w0:World} (hi:Imm g0 w0) {cs1:List Value} (hcs1:tT_Regex.rel g0 cs1 rv1),
    CallsV Tryz.prog 83 #[Value.agg cs1.toArray,Value.int .i64 depth1] w0 (fun v w'=>∃g',(VRd tBool false g' v r)∧Ext g0 w0 g' w')
set_option maxRecDepth 100000 in
theorem regex_valid_step {fl:Nat} (ih_regex_valid:C.regex_valid fl):C.regex_valid (fl+1):=by
 intro rv1 depth1 r hM g0 w0 hi cs1 hcs1
 unfold M.regex_valid at hM
 obtain ⟨cs2,cs3,cs4,rfl,hcs2,hcs3,hcs4⟩:=tT_Regex_iff.1 hcs1
 have hcs2:cs2=_:=hcs2; subst hcs2
 have hcs3:cs3=_:=hcs3; subst hcs3
 obtain ⟨v1,rfl,hRv1⟩:=hcs4
 have hs:=Sep.start hi
 refine calls_of_WP (args:=[Value.agg (List.toArray (α:=Value) (([Value.int .i64 rv1.Kind])++((rv1.Set.1.map (Value.int .u64))++([v1])))),Value.int .i64 depth1]) Tryz.func83 rfl Tryz.ntmps83 rfl ?_
 have hds:(argEnv [Value.agg (List.toArray (α:=Value) (([Value.int .i64 rv1.Kind])++((rv1.Set.1.map (Value.int .u64))++([v1])))),Value.int .i64 depth1]).ds=[]:=rfl
 refine WP_seq<|WP_region<|OW_box (v:=Value.agg (List.toArray (α:=Value) (([Value.int .i64 rv1.Kind])++((rv1.Set.1.map (Value.int .u64))++([v1]))))) rfl hs (zs:=([Value.int .i64 rv1.Kind])++((rv1.Set.1.map (Value.int .u64))++([v1]))) rfl rfl ?_
 intro b1 wv1 hs
 refine O (r_assign (v:=Value.bool false) rfl) rfl<|OW_nil<|WP_seq ?_
 obtain ⟨xv1,hx1,hKhx1⟩:=bindS hM
 refine WP_cut (fun E w=>E 1=Value.int .i64 depth1∧E 2=Value.pointer (some ⟨b1,0,none⟩)∧E 20=Value.bool xv1∧E.ds=[]∧Go.Lx.Sep g0 w0 g0 w [Go.Lx.box b1 53 (([Value.int .i64 rv1.Kind])++((rv1.Set.1.map (Value.int .u64))++([v1])))]) ?_ ?_
 ·have hM:=hx1
  have hag0:=Hle.refl g0
  refine WP_draw mo (by decide +kernel) ?_
  have hs:=hs.drew
  refine S (r_move (v:=Value.int .i64 depth1) rfl) rfl<|S (r_eql rfl rfl) rfl<|S (r_move (v:=Value.bool (depth1 == 0)) rfl) rfl ?_
  rcases condS hM with ⟨hg2,hM⟩|⟨hg2,hM⟩
  ·refine SK rfl rfl rfl (by rw [hg2]; rfl) rfl<|SK rfl rfl rfl (by rw [hg2]; rfl) rfl<|SK rfl rfl rfl (by rw [hg2]; rfl) rfl<|SK rfl rfl rfl (by rw [hg2]; rfl) rfl<|SK rfl rfl rfl (by rw [hg2]; rfl) rfl<|SK rfl rfl rfl (by rw [hg2]; rfl) rfl<|SK rfl rfl rfl (by rw [hg2]; rfl) rfl<|SK rfl rfl rfl (by rw [hg2]; rfl) rfl<|S (r_pickT (v:=Value.bool true) rfl hg2 rfl) rfl<|SW_nil ?_
   obtain rfl:=Option.some.inj hM
   exact ⟨rfl,rfl,rfl,hds,hs⟩
  ·refine SG rfl rfl rfl (by rw [hg2]; rfl) (r_fieldAddr Tryz.underlying53 ti3 rfl rfl (by decide) rfl rfl) rfl<|SG rfl rfl rfl (by rw [hg2]; rfl) (r_load (v:=Value.int .i64 rv1.Kind) ti3 rfl (hs.cell (i:=0) (o:=0) rfl (by simp [rv1.Set.2]))) rfl<|SG rfl rfl rfl (by rw [hg2]; rfl) (r_eql rfl rfl) rfl<|SG rfl rfl rfl (by rw [hg2]; rfl) (r_fieldAddr Tryz.underlying53 ti50 rfl rfl (by decide) rfl rfl) rfl<|SG rfl rfl rfl (by rw [hg2]; rfl) (r_loadN (cs:=rv1.Set.1.map (Value.int .u64)) ti50 rfl (by simp [rv1.Set.2]) (hs.cellsAt (i:=0) (o:=1) rfl (by intro j u hj; exact sub_at (pre:=[Value.int .i64 rv1.Kind]) (ds:=rv1.Set.1.map (Value.int .u64)) (post:=[v1]) rfl ((by simp)) hj))) rfl ?_
   refine SG rfl rfl rfl (by rw [hg2]; rfl) (r_build (vs:=[]) (cs:=(Vec.zero 4).1.map (Value.int .u64)) rfl (by kernel_rfl)) rfl<|SG rfl rfl rfl (by rw [hg2]; rfl) (r_eqlV Tryz.underlying50 Tryz.underlying48 ti48 rfl rfl eg50) rfl<|SG rfl rfl rfl (by rw [hg2]; rfl) (r_eqlB Tryz.underlying4 rfl rfl) rfl<|S (r_pickF (v:=Value.bool ((rv1.Kind == 3) == (rv1.Set == (Vec.zero 4)))) rfl hg2 rfl) rfl<|SW_nil ?_
   obtain rfl:=Option.some.inj hM
   exact ⟨rfl,rfl,rfl,hds,hs⟩
 ·clear hs
  rintro E w ⟨hE1,hE2,hE20,hds,hs⟩
  have hM:=hKhx1
  obtain ⟨E,rfl⟩:=open3 (E:=E) hE1 hE2 hE20
  rcases condS hM with ⟨hc1,hM⟩|⟨hc1,hM⟩
  ·refine WP_true rfl hc1<|WP_seq<|WP_region<|O (r_assign (v:=Value.bool false) rfl) rfl<|OW_nil<|WP_ret ?_
   obtain rfl:=Option.some.inj hM
   refine FL_nil hds ?_
   exact ⟨_,res1 Tryz.results83 (rv_tmp (v:=Value.bool false) rfl),g0,⟨[Value.bool false],rfl,rfl⟩,hs.ext⟩
  ·refine WP_false rfl hc1<|WP_skip<|WP_seq<|WP_region<|O (r_assign (v:=Value.int .i64 0) rfl) rfl<|O (r_assign (v:=Value.int .i64 0) rfl) rfl<|OW_nil ?_
   obtain ⟨o1,hx4,hKhx4⟩:=stepS hM
   refine WP_cut (fun E w=>∃(least1:Int) (most1:Int),o1=.next (least1,most1)∧E 1=Value.int .i64 depth1∧E 2=Value.pointer (some ⟨b1,0,none⟩)∧E 5=Value.int .i64 least1∧E 6=Value.int .i64 most1∧E.ds=[]∧Go.Lx.Sep g0 w0 g0 w [Go.Lx.box b1 53 (([Value.int .i64 rv1.Kind])++((rv1.Set.1.map (Value.int .u64))++([v1])))]) ?_ ?_
   ·have hM:=hx4
    have hag0:=Hle.refl g0
    refine WP_seq<|WP_region<|O (r_fieldAddr Tryz.underlying53 ti3 rfl rfl (by decide) rfl rfl) rfl<|O (r_load (v:=Value.int .i64 rv1.Kind) ti3 rfl (hs.cell (i:=0) (o:=0) rfl (by simp [rv1.Set.2]))) rfl<|OW_nil<|WP_block ?_
    obtain ⟨xv4,hx5,hKhx5⟩:=bindS hM
    refine WP_cut (fun E w=>E 1=Value.int .i64 depth1∧E 2=Value.pointer (some ⟨b1,0,none⟩)∧E 5=Value.int .i64 0∧E 6=Value.int .i64 0∧E 22=Value.int .i64 rv1.Kind∧E 23=Value.bool xv4∧E.ds=[]∧Go.Lx.Sep g0 w0 g0 w [Go.Lx.box b1 53 (([Value.int .i64 rv1.Kind])++((rv1.Set.1.map (Value.int .u64))++([v1])))]) ?_ ?_
    ·have hM:=hx5
     refine WP_seq<|WP_region<|O (r_eql rfl rfl) rfl<|O (r_assign (v:=Value.bool (rv1.Kind == 1)) rfl) rfl<|OW_nil ?_
     rcases condS hM with ⟨hc13,hM⟩|⟨hc13,hM⟩
     ·refine WP_true rfl hc13<|WP_skip ?_
      obtain rfl:=Option.some.inj hM
      exact ⟨rfl,rfl,rfl,rfl,rfl,rfl,hds,hs⟩
     ·refine WP_false rfl hc13<|WP_seq<|WP_region<|O (r_eql rfl rfl) rfl<|O (r_assign (v:=Value.bool (rv1.Kind == 2)) rfl) rfl<|OW_nil ?_
      rcases condS hM with ⟨hc14,hM⟩|⟨hc14,hM⟩
      ·refine WP_true rfl hc14<|WP_skip ?_
       obtain rfl:=Option.some.inj hM
       exact ⟨rfl,rfl,rfl,rfl,rfl,rfl,hds,hs⟩
      ·refine WP_false rfl hc14<|WP_region<|O (r_eql rfl rfl) rfl<|O (r_assign (v:=Value.bool (rv1.Kind == 3)) rfl) rfl<|OW_nil ?_
       obtain rfl:=Option.some.inj hM
       exact ⟨rfl,rfl,rfl,rfl,rfl,rfl,hds,hs⟩
    ·clear hs
     rintro E w ⟨hE1,hE2,hE5,hE6,hE22,hE23,hds,hs⟩
     have hM:=hKhx5
     obtain ⟨E,rfl⟩:=open6 (E:=E) hE1 hE2 hE5 hE6 hE22 hE23
     rcases condS hM with ⟨hc15,hM⟩|⟨hc15,hM⟩
     ·refine WP_true rfl hc15<|WP_skip ?_
      obtain rfl:=Option.some.inj hM
      exact ⟨(0:Int),(0:Int),rfl,rfl,rfl,rfl,rfl,hds,hs⟩
     ·refine WP_false rfl hc15 ?_
      obtain ⟨xv5,hx6,hKhx6⟩:=bindS hM
      refine WP_cut (fun E w=>E 1=Value.int .i64 depth1∧E 2=Value.pointer (some ⟨b1,0,none⟩)∧E 22=Value.int .i64 rv1.Kind∧E 27=Value.bool xv5∧E.ds=[]∧Go.Lx.Sep g0 w0 g0 w [Go.Lx.box b1 53 (([Value.int .i64 rv1.Kind])++((rv1.Set.1.map (Value.int .u64))++([v1])))]) ?_ ?_
      ·have hM:=hx6
       refine WP_seq<|WP_region<|O (r_eql rfl rfl) rfl<|O (r_assign (v:=Value.bool (rv1.Kind == 4)) rfl) rfl<|OW_nil ?_
       rcases condS hM with ⟨hc17,hM⟩|⟨hc17,hM⟩
       ·refine WP_true rfl hc17<|WP_skip ?_
        obtain rfl:=Option.some.inj hM
        exact ⟨rfl,rfl,rfl,rfl,hds,hs⟩
       ·refine WP_false rfl hc17<|WP_region<|O (r_eql rfl rfl) rfl<|O (r_assign (v:=Value.bool (rv1.Kind == 5)) rfl) rfl<|OW_nil ?_
        obtain rfl:=Option.some.inj hM
        exact ⟨rfl,rfl,rfl,rfl,hds,hs⟩
      ·clear hs
       rintro E w ⟨hE1,hE2,hE22,hE27,hds,hs⟩
       have hM:=hKhx6
       obtain ⟨E,rfl⟩:=open4 (E:=E) hE1 hE2 hE22 hE27
       rcases condS hM with ⟨hc18,hM⟩|⟨hc18,hM⟩
       ·refine WP_true rfl hc18<|WP_draw mo (by decide +kernel) ?_
        have hs:=hs.drew
        refine S (r_fieldAddr Tryz.underlying53 ti51 rfl rfl (by decide) rfl rfl) rfl<|S (r_load (v:=v1) ti51 rfl (hs.cell (i:=0) (o:=5) rfl (by simp [rv1.Set.2]))) rfl ?_
        obtain ⟨a2,ca2,hva2⟩:=hRv1.shape
        refine S (r_lenSl (v:=v1) Tryz.underlying51 rfl hva2) rfl<|S (r_assign (v:=Value.int .i64 2) rfl) rfl<|S (r_assign (v:=Value.int .i64 (rv1.Kids.length:Int)) rfl) rfl<|SW_nil ?_
        obtain rfl:=Option.some.inj hM
        exact ⟨(2:Int),(rv1.Kids.length:Int),rfl,rfl,rfl,rfl,rfl,hds,hs⟩
       ·refine WP_false rfl hc18<|WP_seq<|WP_region<|O (r_eql rfl rfl) rfl<|O (r_assign (v:=Value.bool (rv1.Kind == 6)) rfl) rfl<|OW_nil ?_
        rcases condS hM with ⟨hc19,hM⟩|⟨hc19,hM⟩
        ·refine WP_true rfl hc19<|WP_region<|O (r_assign (v:=Value.int .i64 1) rfl) rfl<|O (r_assign (v:=Value.int .i64 1) rfl) rfl<|OW_nil ?_
         obtain rfl:=Option.some.inj hM
         exact ⟨(1:Int),(1:Int),rfl,rfl,rfl,rfl,rfl,hds,hs⟩
        ·refine WP_false rfl hc19<|WP_seq<|WP_region<|O (r_assign (v:=Value.bool false) rfl) rfl<|OW_nil<|WP_ret ?_
         obtain rfl:=Option.some.inj hM
         have hM:=hKhx4
         obtain rfl:=Option.some.inj hM
         refine FL_nil hds ?_
         exact ⟨_,res1 Tryz.results83 (rv_tmp (v:=Value.bool false) rfl),g0,⟨[Value.bool false],rfl,rfl⟩,hs.ext⟩
   ·clear hs
    rintro E w ⟨least1,most1,rfl,hE1,hE2,hE5,hE6,hds,hs⟩
    have hM:=hKhx4
    dsimp only [onStep] at hM
    obtain ⟨E,rfl⟩:=open4 (E:=E) hE1 hE2 hE5 hE6
    refine WP_seq ?_
    obtain ⟨xv6,hx7,hKhx7⟩:=bindS hM
    refine WP_cut (fun E w=>E 1=Value.int .i64 depth1∧E 2=Value.pointer (some ⟨b1,0,none⟩)∧E 46=Value.bool xv6∧E.ds=[]∧Go.Lx.Sep g0 w0 g0 w [Go.Lx.box b1 53 (([Value.int .i64 rv1.Kind])++((rv1.Set.1.map (Value.int .u64))++([v1])))]) ?_ ?_
    ·have hM:=hx7
     have hag0:=Hle.refl g0
     refine WP_region<|O (r_fieldAddr Tryz.underlying53 ti51 rfl rfl (by decide) rfl rfl) rfl<|O (r_load (v:=v1) ti51 rfl (hs.cell (i:=0) (o:=5) rfl (by simp [rv1.Set.2]))) rfl ?_
     obtain ⟨a5,ca5,hva5⟩:=hRv1.shape
     refine O (r_lenSl (v:=v1) Tryz.underlying51 rfl hva5) rfl<|O (r_move (v:=Value.int .i64 least1) rfl) rfl<|O (r_lss rfl rfl) rfl<|O (r_move (v:=Value.bool (decide ((rv1.Kids.length:Int)<least1))) rfl) rfl ?_
     rcases condS hM with ⟨hg4,hM⟩|⟨hg4,hM⟩
     ·refine OK rfl rfl rfl (by rw [hg4]; rfl) rfl<|OK rfl rfl rfl (by rw [hg4]; rfl) rfl<|OK rfl rfl rfl (by rw [hg4]; rfl) rfl<|OK rfl rfl rfl (by rw [hg4]; rfl) rfl<|OK rfl rfl rfl (by rw [hg4]; rfl) rfl<|O (r_pickT (v:=Value.bool true) rfl hg4 rfl) rfl<|OW_nil ?_
      obtain rfl:=Option.some.inj hM
      exact ⟨rfl,rfl,rfl,hds,hs⟩
     ·refine OG rfl rfl rfl (by rw [hg4]; rfl) (r_fieldAddr Tryz.underlying53 ti51 rfl rfl (by decide) rfl rfl) rfl<|OG rfl rfl rfl (by rw [hg4]; rfl) (r_load (v:=v1) ti51 rfl (hs.cell (i:=0) (o:=5) rfl (by simp [rv1.Set.2]))) rfl ?_
      obtain ⟨a6,ca6,hva6⟩:=hRv1.shape
      refine OG rfl rfl rfl (by rw [hg4]; rfl) (r_lenSl (v:=v1) Tryz.underlying51 rfl hva6) rfl<|OG rfl rfl rfl (by rw [hg4]; rfl) (r_move (v:=Value.int .i64 most1) rfl) rfl<|OG rfl rfl rfl (by rw [hg4]; rfl) (r_gtr rfl rfl) rfl<|O (r_pickF (v:=Value.bool (decide (most1<(rv1.Kids.length:Int)))) rfl hg4 rfl) rfl<|OW_nil ?_
      obtain rfl:=Option.some.inj hM
      exact ⟨rfl,rfl,rfl,hds,hs⟩
    ·clear hs
     rintro E w ⟨hE1,hE2,hE46,hds,hs⟩
     have hM:=hKhx7
     obtain ⟨E,rfl⟩:=open3 (E:=E) hE1 hE2 hE46
     rcases condS hM with ⟨hc20,hM⟩|⟨hc20,hM⟩
     ·refine WP_true rfl hc20<|WP_seq<|WP_region<|O (r_assign (v:=Value.bool false) rfl) rfl<|OW_nil<|WP_ret ?_
      obtain rfl:=Option.some.inj hM
      refine FL_nil hds ?_
      exact ⟨_,res1 Tryz.results83 (rv_tmp (v:=Value.bool false) rfl),g0,⟨[Value.bool false],rfl,rfl⟩,hs.ext⟩
     ·refine WP_false rfl hc20<|WP_skip ?_
      obtain ⟨o4,hx8,hKhx8⟩:=stepS hM
      refine WP_cut (fun E w=>∃u9:Unit,o4=.next u9∧∃(gg7:Hp),E.ds=[]∧Hle g0 gg7∧Go.Lx.Sep g0 w0 gg7 w []) ?_ ?_
      ·have hM:=hx8
       have hag0:=Hle.refl g0
       refine WP_seq<|WP_region<|O (r_fieldAddr Tryz.underlying53 ti51 rfl rfl (by decide) rfl rfl) rfl<|O (r_load (v:=v1) ti51 rfl (hs.cell (i:=0) (o:=5) rfl (by simp [rv1.Set.2]))) rfl ?_
       obtain ⟨a8,ca8,hva8⟩:=hRv1.shape
       refine O (r_lenSl (v:=v1) Tryz.underlying51 rfl hva8) rfl<|O (r_move (v:=Value.int .i64 0) rfl) rfl<|OW_nil<|WP_block<|WP_loop (fun (xv11:Int) E w=>∃(gg10:Hp),E 1=Value.int .i64 depth1∧E 48=v1∧E 49=Value.int .i64 (rv1.Kids.length:Int)∧E 50=Value.int .i64 xv11∧E.ds=[]∧Hle g0 gg10∧Go.Lx.Sep g0 w0 gg10 w []) hM ⟨g0,rfl,rfl,rfl,rfl,hds,(Hle.refl _),(hs.sub (.cons _ .slnil))⟩ ?_
       clear hs hM
       rintro xv11 o3 E w hM ⟨gg10,hE1,hE48,hE49,hE50,hds,hlegg10,hs⟩
       obtain ⟨E,rfl⟩:=open4 (E:=E) hE1 hE48 hE49 hE50
       replace hRv1:=hRv1.mono hlegg10
       have hagg10:=Hle.refl gg10
       refine WP_seq<|WP_region<|O (r_lss rfl rfl) rfl<|OW_nil<|WP_seq ?_
       rcases condS hM with ⟨hc31,hM⟩|⟨hc31,hM⟩
       ·refine WP_true rfl hc31<|WP_skip<|WP_seq<|WP_block<|WP_seq<|WP_region ?_
        obtain ⟨e6,he6,hM⟩:=bindS hM
        obtain ⟨b12,ob12,cb12,hvb12,cs30,hcs30,hcb12⟩:=hRv1.at he6
        obtain ⟨cs31,cs32,cs33,rfl,hcs31,hcs32,hcs33⟩:=tT_Regex_iff.1 hcs30
        have hcs31:cs31=_:=hcs31; subst hcs31
        have hcs32:cs32=_:=hcs32; subst hcs32
        obtain ⟨v12,rfl,hRv12⟩:=hcs33
        refine O (r_idxSl Tryz.underlying51 ti53 (v:=v1) rfl hvb12 rfl (idxL_some he6).1 (idxL_some he6).2.1) rfl<|O (r_loadEl (cs:=([Value.int .i64 e6.Kind])++((e6.Set.1.map (Value.int .u64))++([v12]))) ti53 rfl (by simp [e6.Set.2]) (.inl rfl) (hcb12 _ hs.imm) (v:=Value.agg (List.toArray (α:=Value) (([Value.int .i64 e6.Kind])++((e6.Set.1.map (Value.int .u64))++([v12]))))) rfl) rfl<|OW_alloc ti53 hs (zs:=([Value.int .i64 0])++(((Vec.zero 4).1.map (Value.int .u64))++([Value.slice none 0 0]))) rfl rfl ?_
        intro b13 wv17 hs
        refine OW_storeAll ti53 hs (i:=0) rfl rfl (v:=Value.agg (List.toArray (α:=Value) (([Value.int .i64 e6.Kind])++((e6.Set.1.map (Value.int .u64))++([v12]))))) rfl (vs:=([Value.int .i64 e6.Kind])++((e6.Set.1.map (Value.int .u64))++([v12]))) rfl (one_append (one_cons rfl one_nil) (one_append vec_one (one_cons (by obtain ⟨_,_,h9⟩:=hRv12.shape; rw [h9]; rfl) one_nil))) (by simp [e6.Set.2]) (by simp [e6.Set.2,(Vec.zero 4).2]) ?_
        intro wv18 hs
        refine OW_nil<|WP_seq<|WP_region<|O (r_loadN (cs:=([Value.int .i64 e6.Kind])++((e6.Set.1.map (Value.int .u64))++([v12]))) ti53 rfl (by simp [e6.Set.2]) (hs.cells (i:=0) rfl)) rfl<|O (r_move (v:=Value.int .i64 depth1) rfl) rfl ?_
        obtain ⟨t11,ht11,hM⟩:=bindS hM
        refine O (r_subM rfl rfl ht11) rfl ?_
        obtain ⟨rv7,hrv7,hM⟩:=bindS hM
        refine C [Value.agg (List.toArray (α:=Value) (([Value.int .i64 e6.Kind])++((e6.Set.1.map (Value.int .u64))++([v12])))),Value.int .i64 t11] cf83 rfl (ih_regex_valid hrv7 hs.imm (tT_Regex_iff.2 ⟨[Value.int .i64 e6.Kind],e6.Set.1.map (Value.int .u64),[v12],rfl,rfl,rfl,⟨_,rfl,hRv12⟩⟩)) rfl ?_
        rintro v13 wv19 ⟨gg13,hvv13,hegg13⟩
        have hlegg13:=hegg13.le hs.imm
        replace hs:=hs.call hegg13
        replace hlegg10:=hlegg10.trans hlegg13
        obtain ⟨cs34,rfl,hcs34⟩:=hvv13
        have hcs34:cs34=_:=hcs34; subst hcs34
        refine O (r_not rfl) rfl<|OW_nil ?_
        rcases condS hM with ⟨hc32,hM⟩|⟨hc32,hM⟩
        ·refine WP_true rfl hc32<|WP_seq<|WP_region<|O (r_assign (v:=Value.bool false) rfl) rfl<|OW_nil<|WP_ret ?_
         obtain rfl:=Option.some.inj hM
         refine fun hr=>?_
         have hM:=congrArg some hr
         obtain rfl:=Option.some.inj hM
         have hM:=hKhx8
         obtain rfl:=Option.some.inj hM
         refine FL_nil hds ?_
         exact ⟨_,res1 Tryz.results83 (rv_tmp (v:=Value.bool false) rfl),gg13,⟨[Value.bool false],rfl,rfl⟩,hs.ext⟩
        ·refine WP_false rfl hc32<|WP_skip<|WP_region ?_
         obtain ⟨t12,ht12,hM⟩:=bindS hM
         refine O (r_addM rfl rfl ht12) rfl<|O (r_move (v:=Value.int .i64 t12) rfl) rfl<|OW_nil ?_
         obtain rfl:=Option.some.inj hM
         exact ⟨gg13,rfl,rfl,rfl,rfl,hds,hlegg10,(hs.sub (.cons _ .slnil))⟩
       ·refine WP_false rfl hc31<|WP_exit ?_
        obtain rfl:=Option.some.inj hM
        refine fun hr=>?_
        have hM:=congrArg some hr
        obtain rfl:=Option.some.inj hM
        exact ⟨(),rfl,gg10,hds,hlegg10,hs⟩
      ·clear hs
       rintro E w ⟨_,rfl,gg7,hds,hlegg7,hs⟩
       have hM:=hKhx8
       dsimp only [onStep] at hM
       refine WP_seq<|WP_region<|O (r_assign (v:=Value.bool true) rfl) rfl<|OW_nil<|WP_ret ?_
       obtain rfl:=Option.some.inj hM
       refine FL_nil hds ?_
       exact ⟨_,res1 Tryz.results83 (rv_tmp (v:=Value.bool true) rfl),gg7,⟨[Value.bool true],rfl,rfl⟩,hs.ext⟩
theorem regex_valid_zero:C.regex_valid 0:=by
  unfold C.regex_valid
  intros
  simp_all only [M.regex_valid,reduceCtorEq]
theorem regex_valid_all:∀fl,C.regex_valid fl:=by
  intro fl
  induction fl with
  | zero=>exact regex_valid_zero
  | succ fl ih=>
    exact regex_valid_step ih
theorem regex_valid_ok {fl:Nat}:C.regex_valid fl:=(regex_valid_all fl)
set_option maxRecDepth 100000 in
theorem regex_Valid_ok {rv1:T_Regex} {r:Bool} (hM:M.regex_Valid rv1=some r) {g0:Hp} {w0:World} (hi:Imm g0 w0) {cs1:List Value} (hcs1:tT_Regex.rel g0 cs1 rv1) :
    CallsV Tryz.prog 63 #[Value.agg cs1.toArray] w0 (fun v w'=>∃g',(VRd tBool false g' v r)∧Ext g0 w0 g' w'):=by
 unfold M.regex_Valid at hM
 obtain ⟨cs2,cs3,cs4,rfl,hcs2,hcs3,hcs4⟩:=tT_Regex_iff.1 hcs1
 have hcs2:cs2=_:=hcs2; subst hcs2
 have hcs3:cs3=_:=hcs3; subst hcs3
 obtain ⟨v1,rfl,hRv1⟩:=hcs4
 have hs:=Sep.start hi
 refine calls_of_WP (args:=[Value.agg (List.toArray (α:=Value) (([Value.int .i64 rv1.Kind])++((rv1.Set.1.map (Value.int .u64))++([v1]))))]) Tryz.func63 rfl Tryz.ntmps63 rfl ?_
 have hds:(argEnv [Value.agg (List.toArray (α:=Value) (([Value.int .i64 rv1.Kind])++((rv1.Set.1.map (Value.int .u64))++([v1]))))]).ds=[]:=rfl
 refine WP_seq<|WP_region<|OW_box (v:=Value.agg (List.toArray (α:=Value) (([Value.int .i64 rv1.Kind])++((rv1.Set.1.map (Value.int .u64))++([v1]))))) rfl hs (zs:=([Value.int .i64 rv1.Kind])++((rv1.Set.1.map (Value.int .u64))++([v1]))) rfl rfl ?_
 intro b1 wv1 hs
 refine O (r_assign (v:=Value.bool false) rfl) rfl<|OW_nil<|WP_seq<|WP_region<|O (r_loadN (cs:=([Value.int .i64 rv1.Kind])++((rv1.Set.1.map (Value.int .u64))++([v1]))) ti53 rfl (by simp [rv1.Set.2]) (hs.cells (i:=0) rfl)) rfl ?_
 obtain ⟨rv2,hrv2,hM⟩:=bindS hM
 refine C [Value.agg (List.toArray (α:=Value) (([Value.int .i64 rv1.Kind])++((rv1.Set.1.map (Value.int .u64))++([v1])))),Value.int .i64 30] cf83 rfl (regex_valid_ok hrv2 hs.imm (tT_Regex_iff.2 ⟨[Value.int .i64 rv1.Kind],rv1.Set.1.map (Value.int .u64),[v1],rfl,rfl,rfl,⟨_,rfl,hRv1⟩⟩)) rfl ?_
 rintro v2 wv2 ⟨gg1,hvv2,hegg1⟩
 have hlegg1:=hegg1.le hs.imm
 replace hs:=hs.call hegg1
 obtain ⟨cs5,rfl,hcs5⟩:=hvv2
 have hcs5:cs5=_:=hcs5; subst hcs5
 refine O (r_assign (v:=Value.bool rv2) rfl) rfl<|OW_nil<|WP_ret ?_
 obtain rfl:=Option.some.inj hM
 refine FL_nil hds ?_
 exact ⟨_,res1 Tryz.results63 (rv_tmp (v:=Value.bool rv2) rfl),gg1,⟨[Value.bool rv2],rfl,rfl⟩,hs.ext⟩
set_option maxRecDepth 100000 in
theorem regex_Parse_ok {s1:Str} {r:T_Regex×Int×Int} (hM:M.regex_Parse s1=some r) {g0:Hp} {w0:World} (hi:Imm g0 w0) :
    CallsV Tryz.prog 34 #[encS s1] w0 (fun v w'=>∃g',(∃v1 v2 v3,v=.tuple #[v1,v2,v3]∧VRd tT_Regex true g' v1 r.1∧VRd (tInt .i64) false g' v2 r.2.1∧VRd (tInt .i64) false g' v3 r.2.2)∧Ext g0 w0 g' w'):=by
 unfold M.regex_Parse at hM
 have hs:=Sep.start hi
 refine calls_of_WPV (args:=[encS s1]) Tryz.func34 rfl Tryz.ntmps34 rfl ?_
 have hds:(argEnv [encS s1]).ds=[]:=rfl
 refine WP_seq<|WP_region<|OW_alloc ti53 hs (zs:=([Value.int .i64 0])++(((Vec.zero 4).1.map (Value.int .u64))++([Value.slice none 0 0]))) rfl rfl ?_
 intro b1 wv1 hs
 refine OW_alloc ti3 hs (zs:=[Value.int .i64 0]) rfl rfl ?_
 intro b2 wv2 hs
 refine OW_alloc ti38 hs (zs:=[Value.int .i64 0]) rfl rfl ?_
 intro b3 wv3 hs
 refine OW_nil<|WP_seq<|WP_region<|O (r_makeFunc (vs:=[Value.pointer (some ⟨b1,0,none⟩),Value.pointer (some ⟨b2,0,none⟩),Value.pointer (some ⟨b3,0,none⟩)]) rfl) rfl<|OW_defer [Value.pointer (some ⟨b1,0,none⟩),Value.pointer (some ⟨b2,0,none⟩),Value.pointer (some ⟨b3,0,none⟩)] rfl rfl ?_
 have hds:=congrArg (List.cons (deferD 60 [Value.pointer (some ⟨b1,0,none⟩),Value.pointer (some ⟨b2,0,none⟩),Value.pointer (some ⟨b3,0,none⟩)])) hds
 refine OW_nil<|WP_seq<|WP_region<|O (r_move (v:=encS s1) rfl) rfl<|O (r_build (vs:=[(0,encS s1)]) (cs:=[encS s1,Value.int .i64 0]) rfl (by kernel_rfl)) rfl<|OW_box (v:=Value.agg (List.toArray (α:=Value) [encS s1,Value.int .i64 0])) rfl hs (zs:=[encS s1,Value.int .i64 0]) rfl rfl ?_
 intro b4 wv4 hs
 refine O (r_assign (v:=Value.pointer (some ⟨b4,0,none⟩)) rfl) rfl<|OW_nil<|WP_seq<|WP_region<|O (r_move (v:=Value.pointer (some ⟨b4,0,none⟩)) rfl) rfl ?_
 rcases rtS hM with ⟨rv1,hrv1,hM⟩|⟨px1,hpx1,hM⟩
 ·refine C [Value.pointer (some ⟨b4,0,none⟩)] cf61 rfl (regex_reader_regex_ok hrv1 hs) rfl ?_
  rintro v2 wv7 ⟨gg3,hvv2,hlegg3,hs⟩
  obtain ⟨cs1,rfl,hcs1⟩:=hvv2
  obtain ⟨cs2,cs3,cs4,rfl,hcs2,hcs3,hcs4⟩:=tT_Regex_iff.1 hcs1
  have hcs2:cs2=_:=hcs2; subst hcs2
  have hcs3:cs3=_:=hcs3; subst hcs3
  obtain ⟨v3,rfl,hRv3⟩:=hcs4
  refine OW_storeAll ti53 hs (i:=3) rfl rfl (v:=Value.agg (List.toArray (α:=Value) (([Value.int .i64 rv1.1.Kind])++((rv1.1.Set.1.map (Value.int .u64))++([v3]))))) rfl (vs:=([Value.int .i64 rv1.1.Kind])++((rv1.1.Set.1.map (Value.int .u64))++([v3]))) rfl (one_append (one_cons rfl one_nil) (one_append vec_one (one_cons (by obtain ⟨_,_,h9⟩:=hRv3.shape; rw [h9]; rfl) one_nil))) (by simp [rv1.1.Set.2]) (by simp [rv1.1.Set.2,(Vec.zero 4).2]) ?_
  intro wv8 hs
  refine OW_nil ?_
  obtain ⟨o1,hx1,hKhx1⟩:=stepS hM
  refine WP_cut (fun E w=>∃u9:Unit,o1=.next u9∧∃(gg6:Hp),E 2=Value.pointer (some ⟨b1,0,none⟩)∧E 3=Value.pointer (some ⟨b2,0,none⟩)∧E 4=Value.pointer (some ⟨b3,0,none⟩)∧E.ds=[deferD 60 [Value.pointer (some ⟨b1,0,none⟩),Value.pointer (some ⟨b2,0,none⟩),Value.pointer (some ⟨b3,0,none⟩)]]∧Hle gg3 gg6∧Go.Lx.Sep g0 w0 gg6 w [Go.Lx.box b3 38 ([Value.int .i64 0]),Go.Lx.box b2 3 ([Value.int .i64 0]),Go.Lx.box b1 53 (([Value.int .i64 rv1.1.Kind])++((rv1.1.Set.1.map (Value.int .u64))++([v3])))]) ?_ ?_
  ·have hM:=hx1
   have hagg3:=Hle.refl gg3
   refine WP_seq<|WP_region<|O (r_move (v:=Value.pointer (some ⟨b4,0,none⟩)) rfl) rfl<|O (r_nilCheck rfl) rfl<|O (r_fieldAddr Tryz.underlying110 ti3 rfl rfl (by decide) rfl rfl) rfl<|O (r_load (v:=Value.int .i64 rv1.2.atv) ti3 rfl (hs.cell (i:=0) (o:=1) rfl rfl)) rfl<|O (r_move (v:=encS s1) rfl) rfl<|O (r_lenStr Tryz.underlying9 rfl) rfl<|O (r_lss rfl rfl) rfl<|OW_nil ?_
   rcases condS hM with ⟨hc2,hM⟩|⟨hc2,hM⟩
   ·refine WP_true rfl hc2<|WP_region<|O (r_move (v:=Value.pointer (some ⟨b4,0,none⟩)) rfl) rfl ?_
    rcases rtS hM with ⟨rv3,hrv3,hM⟩|⟨px3,hpx3,hM⟩
    ·refine C [Value.pointer (some ⟨b4,0,none⟩)] cf62 rfl (regex_reader_fail_ok hrv3 hs) rfl ?_
     rintro v6 wv13 ⟨gg9,hvv6,hlegg9,hs⟩
     replace hagg3:=hagg3.trans hlegg9
     refine OW_nil ?_
     obtain rfl:=Option.some.inj hM
     exact ⟨(),rfl,gg9,rfl,rfl,rfl,hds,hagg3,(hs.sub (.cons _ (.cons_cons _ (.cons_cons _ (.cons_cons _ .slnil)))))⟩
    ·refine CN [Value.pointer (some ⟨b4,0,none⟩)] cf62 rfl (regex_reader_fail_ok hpx3 hs) ?_
     rintro wv11 ⟨gg7,hlegg7,hs⟩
     replace hRv3:=hRv3.mono hlegg7
     obtain rfl:=Option.some.inj hM
     have hM:=hKhx1
     obtain rfl:=Option.some.inj hM
     have hs:Go.Lx.Sep g0 w0 gg7 _ [Go.Lx.box b1 53 (([Value.int .i64 rv1.1.Kind])++((rv1.1.Set.1.map (Value.int .u64))++([v3]))),Go.Lx.box b2 3 ([Value.int .i64 0]),Go.Lx.box b3 38 ([Value.int .i64 0])]:=(hs.sel [2,1,0] (by decide) rfl)
     refine LV_cons hds (fun h=>(by cases h)) cf60 (regex_Parse_1_pan (x1:=px3) (c1:=rv1.1) (c2:=0) (c3:=0) rfl hs hRv3) ?_
     rintro wv12 ⟨gg8,v5,hlegg8,hRv5,hs⟩
     refine LV_nil rfl rfl ?_
     exact ⟨_,res3 Tryz.results34 (rv_cells (vs:=([Value.int .i64 ((T_Regex.mk 0 (Vec.zero 4) []).Kind)])++((((T_Regex.mk 0 (Vec.zero 4) []).Set).1.map (Value.int .u64))++([v5]))) ti53 rfl (by simp [((T_Regex.mk 0 (Vec.zero 4) []).Set).2]) (hs.cells (i:=0) rfl)) (rv_cell (v:=Value.int .i64 px3) ti3 rfl (hs.cell (i:=1) (o:=0) rfl rfl)) (rv_cell (v:=Value.int .i64 3) ti38 rfl (hs.cell (i:=2) (o:=0) rfl rfl)),gg8,⟨_,_,_,rfl,⟨([Value.int .i64 ((T_Regex.mk 0 (Vec.zero 4) []).Kind)])++((((T_Regex.mk 0 (Vec.zero 4) []).Set).1.map (Value.int .u64))++([v5])),rfl,(tT_Regex_iff.2 ⟨[Value.int .i64 ((T_Regex.mk 0 (Vec.zero 4) []).Kind)],((T_Regex.mk 0 (Vec.zero 4) []).Set).1.map (Value.int .u64),[v5],rfl,rfl,rfl,⟨_,rfl,hRv5⟩⟩)⟩,⟨[Value.int .i64 px3],rfl,rfl⟩,⟨[Value.int .i64 3],rfl,rfl⟩⟩,hs.ext⟩
   ·refine WP_false rfl hc2<|WP_skip ?_
    obtain rfl:=Option.some.inj hM
    exact ⟨(),rfl,gg3,rfl,rfl,rfl,hds,(Hle.refl _),(hs.sub (.cons _ (.cons_cons _ (.cons_cons _ (.cons_cons _ .slnil)))))⟩
  ·clear hs
   rintro E w ⟨_,rfl,gg6,hE2,hE3,hE4,hds,hlegg6,hs⟩
   have hM:=hKhx1
   dsimp only [onStep] at hM
   obtain ⟨E,rfl⟩:=open3 (E:=E) hE2 hE3 hE4
   replace hRv3:=hRv3.mono hlegg6
   refine WP_seq<|WP_seq<|WP_region<|O (r_loadN (cs:=([Value.int .i64 rv1.1.Kind])++((rv1.1.Set.1.map (Value.int .u64))++([v3]))) ti53 rfl (by simp [rv1.1.Set.2]) (hs.cells (i:=2) rfl)) rfl ?_
   obtain ⟨rv4,hrv4,hM⟩:=bindS hM
   refine C [Value.agg (List.toArray (α:=Value) (([Value.int .i64 rv1.1.Kind])++((rv1.1.Set.1.map (Value.int .u64))++([v3]))))] cf63 rfl (regex_Valid_ok hrv4 hs.imm (tT_Regex_iff.2 ⟨[Value.int .i64 rv1.1.Kind],rv1.1.Set.1.map (Value.int .u64),[v3],rfl,rfl,rfl,⟨_,rfl,hRv3⟩⟩)) rfl ?_
   rintro v7 wv14 ⟨gg10,hvv7,hegg10⟩
   have hlegg10:=hegg10.le hs.imm
   replace hs:=hs.call hegg10
   replace hRv3:=hRv3.mono hlegg10
   obtain ⟨cs5,rfl,hcs5⟩:=hvv7
   have hcs5:cs5=_:=hcs5; subst hcs5
   refine O (r_not rfl) rfl<|OW_nil ?_
   rcases condS hM with ⟨hc3,hM⟩|⟨hc3,hM⟩
   ·refine WP_true rfl hc3<|WP_seq<|WP_region<|O (r_build (vs:=[]) (cs:=([Value.int .i64 0])++(((Vec.zero 4).1.map (Value.int .u64))++([Value.slice none 0 0]))) rfl (built_fill [(0,1),(1,4),(5,1)] (([Value.int .i64 0])++(((Vec.zero 4).1.map (Value.int .u64))++([Value.slice none 0 0]))) (fun _=>by kernel_rfl) (fill_done))) rfl<|OW_storeAll ti53 hs (i:=2) rfl rfl (v:=Value.agg (List.toArray (α:=Value) (([Value.int .i64 0])++(((Vec.zero 4).1.map (Value.int .u64))++([Value.slice none 0 0]))))) rfl (vs:=([Value.int .i64 0])++(((Vec.zero 4).1.map (Value.int .u64))++([Value.slice none 0 0]))) rfl (one_append (one_cons rfl one_nil) (one_append vec_one (one_cons rfl one_nil))) (by simp [(Vec.zero 4).2]) (by simp [(Vec.zero 4).2,rv1.1.Set.2]) ?_
    intro wv15 hs
    refine OW_store1 ti3 hs (i:=1) rfl rfl (v:=Value.int .i64 0) rfl rfl (o:=0) (Nat.zero_lt_succ _) ?_
    intro wv16 hs
    refine OW_store1 ti38 hs (i:=0) rfl rfl (v:=Value.int .i64 11) rfl rfl (o:=0) (Nat.zero_lt_succ _) ?_
    intro wv17 hs
    refine OW_nil<|WP_ret ?_
    obtain rfl:=Option.some.inj hM
    have hs:Go.Lx.Sep g0 w0 gg10 _ [Go.Lx.box b1 53 (([Value.int .i64 0])++(((Vec.zero 4).1.map (Value.int .u64))++([Value.slice none 0 0]))),Go.Lx.box b2 3 ([Value.int .i64 0]),Go.Lx.box b3 38 ([Value.int .i64 11])]:=(hs.sel [2,1,0] (by decide) rfl)
    refine LV_cons hds (fun h=>(by cases h)) cf60 (regex_Parse_1_ret (c1:=(T_Regex.mk 0 (Vec.zero 4) [])) (c2:=0) (c3:=11) hs (RdS.nil (τ:=tT_Regex) (g:=gg10))) ?_
    rintro wv18 ⟨gg11,hlegg11,hs⟩
    refine LV_nil rfl rfl ?_
    exact ⟨_,res3 Tryz.results34 (rv_cells (vs:=([Value.int .i64 0])++(((Vec.zero 4).1.map (Value.int .u64))++([Value.slice none 0 0]))) ti53 rfl (by simp [(Vec.zero 4).2]) (hs.cells (i:=0) rfl)) (rv_cell (v:=Value.int .i64 0) ti3 rfl (hs.cell (i:=1) (o:=0) rfl rfl)) (rv_cell (v:=Value.int .i64 11) ti38 rfl (hs.cell (i:=2) (o:=0) rfl rfl)),gg11,⟨_,_,_,rfl,⟨([Value.int .i64 0])++(((Vec.zero 4).1.map (Value.int .u64))++([Value.slice none 0 0])),rfl,(tT_Regex_iff.2 ⟨[Value.int .i64 0],(Vec.zero 4).1.map (Value.int .u64),[Value.slice none 0 0],rfl,rfl,rfl,⟨_,rfl,RdS.nil⟩⟩)⟩,⟨[Value.int .i64 0],rfl,rfl⟩,⟨[Value.int .i64 11],rfl,rfl⟩⟩,hs.ext⟩
   ·refine WP_false rfl hc3<|WP_skip<|WP_seq<|WP_region<|O (r_loadN (cs:=([Value.int .i64 rv1.1.Kind])++((rv1.1.Set.1.map (Value.int .u64))++([v3]))) ti53 rfl (by simp [rv1.1.Set.2]) (hs.cells (i:=2) rfl)) rfl<|OW_storeAll ti53 hs (i:=2) rfl rfl (v:=Value.agg (List.toArray (α:=Value) (([Value.int .i64 rv1.1.Kind])++((rv1.1.Set.1.map (Value.int .u64))++([v3]))))) rfl (vs:=([Value.int .i64 rv1.1.Kind])++((rv1.1.Set.1.map (Value.int .u64))++([v3]))) rfl (one_append (one_cons rfl one_nil) (one_append vec_one (one_cons (by obtain ⟨_,_,h9⟩:=hRv3.shape; rw [h9]; rfl) one_nil))) (by simp [rv1.1.Set.2]) (by simp [rv1.1.Set.2,rv1.1.Set.2]) ?_
    intro wv19 hs
    refine OW_store1 ti3 hs (i:=1) rfl rfl (v:=Value.int .i64 0) rfl rfl (o:=0) (Nat.zero_lt_succ _) ?_
    intro wv20 hs
    refine OW_store1 ti38 hs (i:=0) rfl rfl (v:=Value.int .i64 0) rfl rfl (o:=0) (Nat.zero_lt_succ _) ?_
    intro wv21 hs
    refine OW_nil<|WP_ret ?_
    obtain rfl:=Option.some.inj hM
    have hs:Go.Lx.Sep g0 w0 gg10 _ [Go.Lx.box b1 53 (([Value.int .i64 rv1.1.Kind])++((rv1.1.Set.1.map (Value.int .u64))++([v3]))),Go.Lx.box b2 3 ([Value.int .i64 0]),Go.Lx.box b3 38 ([Value.int .i64 0])]:=(hs.sel [2,1,0] (by decide) rfl)
    refine LV_cons hds (fun h=>(by cases h)) cf60 (regex_Parse_1_ret (c1:=rv1.1) (c2:=0) (c3:=0) hs hRv3) ?_
    rintro wv22 ⟨gg12,hlegg12,hs⟩
    replace hRv3:=hRv3.mono hlegg12
    refine LV_nil rfl rfl ?_
    exact ⟨_,res3 Tryz.results34 (rv_cells (vs:=([Value.int .i64 rv1.1.Kind])++((rv1.1.Set.1.map (Value.int .u64))++([v3]))) ti53 rfl (by simp [rv1.1.Set.2]) (hs.cells (i:=0) rfl)) (rv_cell (v:=Value.int .i64 0) ti3 rfl (hs.cell (i:=1) (o:=0) rfl rfl)) (rv_cell (v:=Value.int .i64 0) ti38 rfl (hs.cell (i:=2) (o:=0) rfl rfl)),gg12,⟨_,_,_,rfl,⟨([Value.int .i64 rv1.1.Kind])++((rv1.1.Set.1.map (Value.int .u64))++([v3])),rfl,(tT_Regex_iff.2 ⟨[Value.int .i64 rv1.1.Kind],rv1.1.Set.1.map (Value.int .u64),[v3],rfl,rfl,rfl,⟨_,rfl,hRv3⟩⟩)⟩,⟨[Value.int .i64 0],rfl,rfl⟩,⟨[Value.int .i64 0],rfl,rfl⟩⟩,hs.ext⟩
 ·refine CN [Value.pointer (some ⟨b4,0,none⟩)] cf61 rfl (regex_reader_regex_ok hpx1 hs) ?_
  rintro wv5 ⟨gg1,hlegg1,hs⟩
  obtain rfl:=Option.some.inj hM
  have hs:Go.Lx.Sep g0 w0 gg1 _ [Go.Lx.box b1 53 (([Value.int .i64 0])++(((Vec.zero 4).1.map (Value.int .u64))++([Value.slice none 0 0]))),Go.Lx.box b2 3 ([Value.int .i64 0]),Go.Lx.box b3 38 ([Value.int .i64 0])]:=(hs.sel [2,1,0] (by decide) rfl)
  refine LV_cons hds (fun h=>(by cases h)) cf60 (regex_Parse_1_pan (x1:=px1) (c1:=(T_Regex.mk 0 (Vec.zero 4) [])) (c2:=0) (c3:=0) rfl hs (RdS.nil (τ:=tT_Regex) (g:=gg1))) ?_
  rintro wv6 ⟨gg2,v1,hlegg2,hRv1,hs⟩
  refine LV_nil rfl rfl ?_
  exact ⟨_,res3 Tryz.results34 (rv_cells (vs:=([Value.int .i64 ((T_Regex.mk 0 (Vec.zero 4) []).Kind)])++((((T_Regex.mk 0 (Vec.zero 4) []).Set).1.map (Value.int .u64))++([v1]))) ti53 rfl (by simp [((T_Regex.mk 0 (Vec.zero 4) []).Set).2]) (hs.cells (i:=0) rfl)) (rv_cell (v:=Value.int .i64 px1) ti3 rfl (hs.cell (i:=1) (o:=0) rfl rfl)) (rv_cell (v:=Value.int .i64 3) ti38 rfl (hs.cell (i:=2) (o:=0) rfl rfl)),gg2,⟨_,_,_,rfl,⟨([Value.int .i64 ((T_Regex.mk 0 (Vec.zero 4) []).Kind)])++((((T_Regex.mk 0 (Vec.zero 4) []).Set).1.map (Value.int .u64))++([v1])),rfl,(tT_Regex_iff.2 ⟨[Value.int .i64 ((T_Regex.mk 0 (Vec.zero 4) []).Kind)],((T_Regex.mk 0 (Vec.zero 4) []).Set).1.map (Value.int .u64),[v1],rfl,rfl,rfl,⟨_,rfl,hRv1⟩⟩)⟩,⟨[Value.int .i64 px1],rfl,rfl⟩,⟨[Value.int .i64 3],rfl,rfl⟩⟩,hs.ext⟩
set_option maxRecDepth 100000 in
theorem lexspec_definition_1_ok {c1:(List T_TokenDef)} {c2:Int} {c3:T_TokenDef} {r:Bool} (hM:M.lexspec_definition_1 c1 c2 c3=some r) {g0:Hp} {w0:World} (hi:Imm g0 w0) {b1:Nat} {cs1:List Value} (hBb1:IBox 22 b1 cs1 g0) (hcs1:(tSl tT_TokenDef).rel g0 cs1 c1) {b2:Nat} {cs2:List Value} (hBb2:IBox 3 b2 cs2 g0) (hcs2:(tInt .i64).rel g0 cs2 c2) {b3:Nat} {cs3:List Value} (hBb3:IBox 46 b3 cs3 g0) (hcs3:tT_TokenDef.rel g0 cs3 c3) :
    CallsV Tryz.prog 51 #[Value.pointer (some ⟨b1,0,none⟩),Value.pointer (some ⟨b2,0,none⟩),Value.pointer (some ⟨b3,0,none⟩)] w0 (fun v w'=>∃g',(VRd tBool false g' v r)∧Ext g0 w0 g' w'):=by
 unfold M.lexspec_definition_1 at hM
 obtain ⟨v1,rfl,hRv1⟩:=hcs1
 have hcs2:cs2=_:=hcs2; subst hcs2
 obtain ⟨cs4,cs5,cs6,cs7,cs8,rfl,hcs4,hcs5,hcs6,hcs7,hcs8⟩:=hcs3
 have hcs4:cs4=_:=hcs4; subst hcs4
 have hcs5:cs5=_:=hcs5; subst hcs5
 have hcs6:cs6=_:=hcs6; subst hcs6
 have hcs7:cs7=_:=hcs7; subst hcs7
 have hcs8:cs8=_:=hcs8; subst hcs8
 have hs:=Sep.start hi
 refine calls_of_WP (args:=[Value.pointer (some ⟨b1,0,none⟩),Value.pointer (some ⟨b2,0,none⟩),Value.pointer (some ⟨b3,0,none⟩)]) Tryz.func51 rfl Tryz.ntmps51 rfl ?_
 have hds:(argEnv [Value.pointer (some ⟨b1,0,none⟩),Value.pointer (some ⟨b2,0,none⟩),Value.pointer (some ⟨b3,0,none⟩)]).ds=[]:=rfl
 refine WP_seq<|WP_region<|O (r_assign (v:=Value.bool false) rfl) rfl<|OW_nil ?_
 obtain ⟨o3,hx1,hKhx1⟩:=stepS hM
 refine WP_cut (fun E w=>∃u9:Unit,o3=.next u9∧E.ds=[]∧Go.Lx.Sep g0 w0 g0 w []) ?_ ?_
 ·have hM:=hx1
  have hag0:=Hle.refl g0
  refine WP_seq<|WP_region<|O (r_loadEl (o:=0) (cs:=[v1]) ti22 rfl rfl (.inr rfl) (hBb1.cells hs.imm) (v:=v1) rfl) rfl<|O (r_loadEl (o:=0) (cs:=[Value.int .i64 c2]) ti3 rfl rfl (.inr rfl) (hBb2.cells hs.imm) (v:=Value.int .i64 c2) rfl) rfl ?_
  obtain ⟨l2,hl2,hM⟩:=bindS hM
  obtain ⟨v3,hRv3,hrunv3⟩:=RdS.slice hRv1 hl2
  refine O (hrunv3 Tryz.underlying22 ti46 rfl Bnd.none (Bnd.some rfl)) rfl ?_
  obtain ⟨a2,ca2,hva2⟩:=hRv3.shape
  refine O (r_lenSl (v:=v3) Tryz.underlying22 rfl hva2) rfl<|O (r_move (v:=Value.int .i64 0) rfl) rfl<|OW_nil<|WP_block<|WP_loop (fun (xv5:Int) E w=>E 2=Value.pointer (some ⟨b3,0,none⟩)∧E 8=v3∧E 9=Value.int .i64 (l2.length:Int)∧E 10=Value.int .i64 xv5∧E.ds=[]∧Go.Lx.Sep g0 w0 g0 w []) hM ⟨rfl,rfl,rfl,rfl,hds,hs⟩ ?_
  clear hs hM
  rintro xv5 o2 E w hM ⟨hE2,hE8,hE9,hE10,hds,hs⟩
  obtain ⟨E,rfl⟩:=open4 (E:=E) hE2 hE8 hE9 hE10
  refine WP_seq<|WP_region<|O (r_lss rfl rfl) rfl<|OW_nil<|WP_seq ?_
  rcases condS hM with ⟨hc11,hM⟩|⟨hc11,hM⟩
  ·refine WP_true rfl hc11<|WP_skip<|WP_seq<|WP_block<|WP_seq<|WP_region ?_
   obtain ⟨e6,he6,hM⟩:=bindS hM
   obtain ⟨b14,ob14,cb14,hvb14,cs39,hcs39,hcb14⟩:=hRv3.at he6
   obtain ⟨cs40,cs41,cs42,cs43,cs44,rfl,hcs40,hcs41,hcs42,hcs43,hcs44⟩:=hcs39
   have hcs40:cs40=_:=hcs40; subst hcs40
   have hcs41:cs41=_:=hcs41; subst hcs41
   have hcs42:cs42=_:=hcs42; subst hcs42
   have hcs43:cs43=_:=hcs43; subst hcs43
   have hcs44:cs44=_:=hcs44; subst hcs44
   refine O (r_idxSl Tryz.underlying22 ti46 (v:=v3) rfl hvb14 rfl (idxL_some he6).1 (idxL_some he6).2.1) rfl<|O (r_loadEl (cs:=[encS e6.Name,Value.int .i64 e6.Kind,encS e6.Pattern,encS e6.Sample,encS e6.Close]) ti46 rfl rfl (.inl rfl) (hcb14 _ hs.imm) (v:=Value.agg (List.toArray (α:=Value) [encS e6.Name,Value.int .i64 e6.Kind,encS e6.Pattern,encS e6.Sample,encS e6.Close])) rfl) rfl<|OW_alloc ti46 hs (zs:=[encS [],Value.int .i64 0,encS [],encS [],encS []]) rfl rfl ?_
   intro b15 wv11 hs
   refine OW_storeAll ti46 hs (i:=0) rfl rfl (v:=Value.agg (List.toArray (α:=Value) [encS e6.Name,Value.int .i64 e6.Kind,encS e6.Pattern,encS e6.Sample,encS e6.Close])) rfl (vs:=[encS e6.Name,Value.int .i64 e6.Kind,encS e6.Pattern,encS e6.Sample,encS e6.Close]) rfl (one_cons rfl (one_cons rfl (one_cons rfl (one_cons rfl (one_cons rfl one_nil))))) rfl rfl ?_
   intro wv12 hs
   refine OW_nil<|WP_seq<|WP_region<|O (r_fieldAddr Tryz.underlying46 ti9 rfl rfl (by decide) rfl rfl) rfl<|O (r_load (v:=encS e6.Name) ti9 rfl (hs.cell (i:=0) (o:=0) rfl rfl)) rfl<|O (r_fieldAddr Tryz.underlying46 ti9 rfl rfl (by decide) rfl rfl) rfl<|O (r_loadEl (o:=0) (cs:=[encS c3.Name]) ti9 rfl rfl (.inr rfl) (elemField (cs:=[encS c3.Name,Value.int .i64 c3.Kind,encS c3.Pattern,encS c3.Sample,encS c3.Close]) (hBb3.cells hs.imm) ([]) ([encS c3.Name]) ([Value.int .i64 c3.Kind,encS c3.Pattern,encS c3.Sample,encS c3.Close]) rfl rfl) (v:=encS c3.Name) rfl) rfl<|O (r_eqlS rfl rfl) rfl<|OW_nil ?_
   rcases condS hM with ⟨hc12,hM⟩|⟨hc12,hM⟩
   ·refine WP_true rfl hc12<|WP_seq<|WP_region<|O (r_assign (v:=Value.bool true) rfl) rfl<|OW_nil<|WP_ret ?_
    obtain rfl:=Option.some.inj hM
    refine fun hr=>?_
    have hM:=congrArg some hr
    obtain rfl:=Option.some.inj hM
    have hM:=hKhx1
    obtain rfl:=Option.some.inj hM
    refine FL_nil hds ?_
    exact ⟨_,res1 Tryz.results51 (rv_tmp (v:=Value.bool true) rfl),g0,⟨[Value.bool true],rfl,rfl⟩,hs.ext⟩
   ·refine WP_false rfl hc12<|WP_skip<|WP_region ?_
    obtain ⟨t6,ht6,hM⟩:=bindS hM
    refine O (r_addM rfl rfl ht6) rfl<|O (r_move (v:=Value.int .i64 t6) rfl) rfl<|OW_nil ?_
    obtain rfl:=Option.some.inj hM
    exact ⟨rfl,rfl,rfl,rfl,hds,(hs.sub (.cons _ .slnil))⟩
  ·refine WP_false rfl hc11<|WP_exit ?_
   obtain rfl:=Option.some.inj hM
   refine fun hr=>?_
   have hM:=congrArg some hr
   obtain rfl:=Option.some.inj hM
   exact ⟨(),rfl,hds,hs⟩
 ·clear hs
  rintro E w ⟨_,rfl,hds,hs⟩
  have hM:=hKhx1
  dsimp only [onStep] at hM
  refine WP_seq<|WP_region<|O (r_assign (v:=Value.bool false) rfl) rfl<|OW_nil<|WP_ret ?_
  obtain rfl:=Option.some.inj hM
  refine FL_nil hds ?_
  exact ⟨_,res1 Tryz.results51 (rv_tmp (v:=Value.bool false) rfl),g0,⟨[Value.bool false],rfl,rfl⟩,hs.ext⟩
set_option maxRecDepth 100000 in
theorem lexspec_isName_ok {p1:Str} {r:Bool} (hM:M.lexspec_isName p1=some r) {g0:Hp} {w0:World} (hi:Imm g0 w0) (hG0:GBox 0 (M.layoutTerms.map encS) g0) :
    CallsV Tryz.prog 53 #[encS p1] w0 (fun v w'=>∃g',(VRd tBool false g' v r)∧Ext g0 w0 g' w'):=by
 unfold M.lexspec_isName at hM
 have hs:=Sep.start hi
 refine calls_of_WP (args:=[encS p1]) Tryz.func53 rfl Tryz.ntmps53 rfl ?_
 have hds:(argEnv [encS p1]).ds=[]:=rfl
 refine WP_seq<|WP_region<|O (r_assign (v:=Value.bool false) rfl) rfl<|OW_nil<|WP_seq ?_
 obtain ⟨xv1,hx1,hKhx1⟩:=bindS hM
 refine WP_cut (fun E w=>E 0=encS p1∧E 30=Value.bool xv1∧E.ds=[]∧Go.Lx.Sep g0 w0 g0 w []) ?_ ?_
 ·have hM:=hx1
  have hag0:=Hle.refl g0
  refine WP_region<|O (r_move (v:=encS p1) rfl) rfl<|O (r_eqlS rfl rfl) rfl<|O (r_move (v:=Value.bool (p1 == [])) rfl) rfl ?_
  rcases condS hM with ⟨hg5,hM⟩|⟨hg5,hM⟩
  ·refine OK rfl rfl rfl (by rw [hg5]; rfl) rfl<|OK rfl rfl rfl (by rw [hg5]; rfl) rfl<|OK rfl rfl rfl (by rw [hg5]; rfl) rfl<|O (r_pickT (v:=Value.bool true) rfl hg5 rfl) rfl<|O (r_move (v:=Value.bool true) rfl) rfl<|OK rfl rfl rfl rfl rfl<|OK rfl rfl rfl rfl rfl<|OK rfl rfl rfl rfl rfl<|OK rfl rfl rfl rfl rfl<|O (r_pickT (v:=Value.bool true) rfl rfl rfl) rfl<|O (r_move (v:=Value.bool true) rfl) rfl<|OK rfl rfl rfl rfl rfl<|OK rfl rfl rfl rfl rfl<|OK rfl rfl rfl rfl rfl<|OK rfl rfl rfl rfl rfl<|O (r_pickT (v:=Value.bool true) rfl rfl rfl) rfl<|O (r_move (v:=Value.bool true) rfl) rfl<|OK rfl rfl rfl rfl rfl<|OK rfl rfl rfl rfl rfl<|OK rfl rfl rfl rfl rfl ?_
   refine OK rfl rfl rfl rfl rfl<|O (r_pickT (v:=Value.bool true) rfl rfl rfl) rfl<|OW_nil ?_
   obtain rfl:=Option.some.inj hM
   exact ⟨rfl,rfl,hds,hs⟩
  ·refine OG rfl rfl rfl (by rw [hg5]; rfl) (r_move (v:=encS p1) rfl) rfl<|OG rfl rfl rfl (by rw [hg5]; rfl) (r_lenStr Tryz.underlying9 rfl) rfl<|OG rfl rfl rfl (by rw [hg5]; rfl) (r_gtr rfl rfl) rfl<|O (r_pickF (v:=Value.bool (decide (24<(p1.length:Int)))) rfl hg5 rfl) rfl<|O (r_move (v:=Value.bool (decide (24<(p1.length:Int)))) rfl) rfl ?_
   rcases condS hM with ⟨hg6,hM⟩|⟨hg6,hM⟩
   ·refine OK rfl rfl rfl (by rw [hg6]; rfl) rfl<|OK rfl rfl rfl (by rw [hg6]; rfl) rfl<|OK rfl rfl rfl (by rw [hg6]; rfl) rfl<|OK rfl rfl rfl (by rw [hg6]; rfl) rfl<|O (r_pickT (v:=Value.bool true) rfl hg6 rfl) rfl<|O (r_move (v:=Value.bool true) rfl) rfl<|OK rfl rfl rfl rfl rfl<|OK rfl rfl rfl rfl rfl<|OK rfl rfl rfl rfl rfl<|OK rfl rfl rfl rfl rfl<|O (r_pickT (v:=Value.bool true) rfl rfl rfl) rfl<|O (r_move (v:=Value.bool true) rfl) rfl<|OK rfl rfl rfl rfl rfl<|OK rfl rfl rfl rfl rfl<|OK rfl rfl rfl rfl rfl<|OK rfl rfl rfl rfl rfl<|O (r_pickT (v:=Value.bool true) rfl rfl rfl) rfl<|OW_nil ?_
    obtain rfl:=Option.some.inj hM
    exact ⟨rfl,rfl,hds,hs⟩
   ·refine OG rfl rfl rfl (by rw [hg6]; rfl) (r_move (v:=encS p1) rfl) rfl ?_
    obtain ⟨s4,hs4,hM⟩:=bindS hM
    refine OG rfl rfl rfl (by rw [hg6]; rfl) (r_idxArr Tryz.underlying59 ti9 rfl rfl (idxL_some hs4).1 (idxL_some hs4).2.1) rfl<|OG rfl rfl rfl (by rw [hg6]; rfl) (r_loadEl (cs:=[encS s4]) ti9 rfl rfl (.inr rfl) (sarrEl (hG0.cells hs.imm) hs4) (v:=encS s4) rfl) rfl<|OG rfl rfl rfl (by rw [hg6]; rfl) (r_eqlS rfl rfl) rfl<|O (r_pickF (v:=Value.bool (p1 == s4)) rfl hg6 rfl) rfl<|O (r_move (v:=Value.bool (p1 == s4)) rfl) rfl ?_
    rcases condS hM with ⟨hg7,hM⟩|⟨hg7,hM⟩
    ·refine OK rfl rfl rfl (by rw [hg7]; rfl) rfl<|OK rfl rfl rfl (by rw [hg7]; rfl) rfl<|OK rfl rfl rfl (by rw [hg7]; rfl) rfl<|OK rfl rfl rfl (by rw [hg7]; rfl) rfl<|O (r_pickT (v:=Value.bool true) rfl hg7 rfl) rfl<|O (r_move (v:=Value.bool true) rfl) rfl<|OK rfl rfl rfl rfl rfl<|OK rfl rfl rfl rfl rfl<|OK rfl rfl rfl rfl rfl<|OK rfl rfl rfl rfl rfl<|O (r_pickT (v:=Value.bool true) rfl rfl rfl) rfl<|OW_nil ?_
     obtain rfl:=Option.some.inj hM
     exact ⟨rfl,rfl,hds,hs⟩
    ·refine OG rfl rfl rfl (by rw [hg7]; rfl) (r_move (v:=encS p1) rfl) rfl ?_
     obtain ⟨s5,hs5,hM⟩:=bindS hM
     refine OG rfl rfl rfl (by rw [hg7]; rfl) (r_idxArr Tryz.underlying59 ti9 rfl rfl (idxL_some hs5).1 (idxL_some hs5).2.1) rfl<|OG rfl rfl rfl (by rw [hg7]; rfl) (r_loadEl (cs:=[encS s5]) ti9 rfl rfl (.inr rfl) (sarrEl (hG0.cells hs.imm) hs5) (v:=encS s5) rfl) rfl<|OG rfl rfl rfl (by rw [hg7]; rfl) (r_eqlS rfl rfl) rfl<|O (r_pickF (v:=Value.bool (p1 == s5)) rfl hg7 rfl) rfl<|O (r_move (v:=Value.bool (p1 == s5)) rfl) rfl ?_
     rcases condS hM with ⟨hg8,hM⟩|⟨hg8,hM⟩
     ·refine OK rfl rfl rfl (by rw [hg8]; rfl) rfl<|OK rfl rfl rfl (by rw [hg8]; rfl) rfl<|OK rfl rfl rfl (by rw [hg8]; rfl) rfl<|OK rfl rfl rfl (by rw [hg8]; rfl) rfl<|O (r_pickT (v:=Value.bool true) rfl hg8 rfl) rfl<|OW_nil ?_
      obtain rfl:=Option.some.inj hM
      exact ⟨rfl,rfl,hds,hs⟩
     ·refine OG rfl rfl rfl (by rw [hg8]; rfl) (r_move (v:=encS p1) rfl) rfl ?_
      obtain ⟨s6,hs6,hM⟩:=bindS hM
      refine OG rfl rfl rfl (by rw [hg8]; rfl) (r_idxArr Tryz.underlying59 ti9 rfl rfl (idxL_some hs6).1 (idxL_some hs6).2.1) rfl<|OG rfl rfl rfl (by rw [hg8]; rfl) (r_loadEl (cs:=[encS s6]) ti9 rfl rfl (.inr rfl) (sarrEl (hG0.cells hs.imm) hs6) (v:=encS s6) rfl) rfl<|OG rfl rfl rfl (by rw [hg8]; rfl) (r_eqlS rfl rfl) rfl<|O (r_pickF (v:=Value.bool (p1 == s6)) rfl hg8 rfl) rfl<|OW_nil ?_
      obtain rfl:=Option.some.inj hM
      exact ⟨rfl,rfl,hds,hs⟩
 ·clear hs
  rintro E w ⟨hE0,hE30,hds,hs⟩
  have hM:=hKhx1
  obtain ⟨E,rfl⟩:=open2 (E:=E) hE0 hE30
  rcases condS hM with ⟨hc1,hM⟩|⟨hc1,hM⟩
  ·refine WP_true rfl hc1<|WP_seq<|WP_region<|O (r_assign (v:=Value.bool false) rfl) rfl<|OW_nil<|WP_ret ?_
   obtain rfl:=Option.some.inj hM
   refine FL_nil hds ?_
   exact ⟨_,res1 Tryz.results53 (rv_tmp (v:=Value.bool false) rfl),g0,⟨[Value.bool false],rfl,rfl⟩,hs.ext⟩
  ·refine WP_false rfl hc1<|WP_skip ?_
   obtain ⟨o3,hx8,hKhx8⟩:=stepS hM
   refine WP_cut (fun E w=>∃u9:Unit,o3=.next u9∧E.ds=[]∧Go.Lx.Sep g0 w0 g0 w []) ?_ ?_
   ·have hM:=hx8
    have hag0:=Hle.refl g0
    refine WP_seq<|WP_region<|O (r_move (v:=encS p1) rfl) rfl<|O (r_lenStr Tryz.underlying9 rfl) rfl<|O (r_move (v:=Value.int .i64 0) rfl) rfl<|OW_nil<|WP_block<|WP_loop (fun (xv14:Int) E w=>E 0=encS p1∧E 32=Value.int .i64 (p1.length:Int)∧E 33=Value.int .i64 xv14∧E.ds=[]∧Go.Lx.Sep g0 w0 g0 w []) hM ⟨rfl,rfl,rfl,hds,hs⟩ ?_
    clear hs hM
    rintro xv14 o2 E w hM ⟨hE0,hE32,hE33,hds,hs⟩
    obtain ⟨E,rfl⟩:=open3 (E:=E) hE0 hE32 hE33
    refine WP_seq<|WP_region<|O (r_lss rfl rfl) rfl<|OW_nil<|WP_seq ?_
    rcases condS hM with ⟨hc12,hM⟩|⟨hc12,hM⟩
    ·refine WP_true rfl hc12<|WP_skip<|WP_seq<|WP_block<|WP_seq<|WP_region<|O (r_move (v:=Value.int .i64 xv14) rfl) rfl<|O (r_assign (v:=Value.int .i64 xv14) rfl) rfl<|OW_nil<|WP_seq<|WP_region<|O (r_move (v:=encS p1) rfl) rfl<|O (r_move (v:=Value.int .i64 xv14) rfl) rfl ?_
     obtain ⟨c6,hc6,hM⟩:=bindS hM
     refine O (r_idxStr Tryz.underlying9 rfl rfl hc6) rfl<|O (r_assign (v:=Value.int .u8 c6) rfl) rfl<|OW_nil ?_
     obtain ⟨xv18,hx13,hKhx13⟩:=bindS hM
     refine WP_cut (fun E w=>E 0=encS p1∧E 3=Value.int .i64 xv14∧E 4=Value.int .u8 c6∧E 5=Value.bool xv18∧E 32=Value.int .i64 (p1.length:Int)∧E 33=Value.int .i64 xv14∧E.ds=[]∧Go.Lx.Sep g0 w0 g0 w []) ?_ ?_
     ·have hM:=hx13
      refine WP_region<|O (r_move (v:=Value.int .u8 c6) rfl) rfl<|O (r_geq rfl rfl) rfl<|O (r_move (v:=Value.bool (decide (97≤c6))) rfl) rfl ?_
      rcases condS hM with ⟨hg93,hM⟩|⟨hg93,hM⟩
      ·refine OG rfl rfl rfl (by rw [hg93]; rfl) (r_move (v:=Value.int .u8 c6) rfl) rfl<|OG rfl rfl rfl (by rw [hg93]; rfl) (r_leq rfl rfl) rfl<|O (r_pickT (v:=Value.bool (decide (c6≤122))) rfl hg93 rfl) rfl<|O (r_move (v:=Value.bool (decide (c6≤122))) rfl) rfl ?_
       rcases condS hM with ⟨hg94,hM⟩|⟨hg94,hM⟩
       ·refine OK rfl rfl rfl (by rw [hg94]; rfl) rfl<|OK rfl rfl rfl (by rw [hg94]; rfl) rfl<|OK rfl rfl rfl (by rw [hg94]; rfl) rfl<|OKU rfl rfl rfl rfl<|OKU rfl rfl rfl rfl<|OK rfl rfl rfl (by rw [hg94]; rfl) rfl<|O (r_pickT (v:=Value.bool true) rfl hg94 rfl) rfl<|O (r_assign (v:=Value.bool true) rfl) rfl<|OW_nil ?_
        obtain rfl:=Option.some.inj hM
        exact ⟨rfl,rfl,rfl,rfl,rfl,rfl,hds,hs⟩
       ·refine OG rfl rfl rfl (by rw [hg94]; rfl) (r_move (v:=Value.int .u8 c6) rfl) rfl<|OG rfl rfl rfl (by rw [hg94]; rfl) (r_geq rfl rfl) rfl<|OG rfl rfl rfl (by rw [hg94]; rfl) (r_move (v:=Value.bool (decide (65≤c6))) rfl) rfl ?_
        rcases condS hM with ⟨hg95,hM⟩|⟨hg95,hM⟩
        ·refine OG rfl rfl rfl (by rw [hg95]; rfl) (r_move (v:=Value.int .u8 c6) rfl) rfl<|OG rfl rfl rfl (by rw [hg95]; rfl) (r_leq rfl rfl) rfl<|OG rfl rfl rfl (by rw [hg94]; rfl) (r_pickT (v:=Value.bool (decide (c6≤90))) rfl hg95 rfl) rfl<|O (r_pickF (v:=Value.bool (decide (c6≤90))) rfl hg94 rfl) rfl<|O (r_assign (v:=Value.bool (decide (c6≤90))) rfl) rfl<|OW_nil ?_
         obtain rfl:=Option.some.inj hM
         exact ⟨rfl,rfl,rfl,rfl,rfl,rfl,hds,hs⟩
        ·refine OK rfl rfl rfl (by rw [hg95]; rfl) rfl<|OK rfl rfl rfl (by rw [hg95]; rfl) rfl<|OG rfl rfl rfl (by rw [hg94]; rfl) (r_pickF (v:=Value.bool false) rfl hg95 rfl) rfl<|O (r_pickF (v:=Value.bool false) rfl hg94 rfl) rfl<|O (r_assign (v:=Value.bool false) rfl) rfl<|OW_nil ?_
         obtain rfl:=Option.some.inj hM
         exact ⟨rfl,rfl,rfl,rfl,rfl,rfl,hds,hs⟩
      ·refine OK rfl rfl rfl (by rw [hg93]; rfl) rfl<|OK rfl rfl rfl (by rw [hg93]; rfl) rfl<|O (r_pickF (v:=Value.bool false) rfl hg93 rfl) rfl<|O (r_move (v:=Value.bool false) rfl) rfl<|OG rfl rfl rfl rfl (r_move (v:=Value.int .u8 c6) rfl) rfl<|OG rfl rfl rfl rfl (r_geq rfl rfl) rfl<|OG rfl rfl rfl rfl (r_move (v:=Value.bool (decide (65≤c6))) rfl) rfl ?_
       rcases condS hM with ⟨hg96,hM⟩|⟨hg96,hM⟩
       ·refine OG rfl rfl rfl (by rw [hg96]; rfl) (r_move (v:=Value.int .u8 c6) rfl) rfl<|OG rfl rfl rfl (by rw [hg96]; rfl) (r_leq rfl rfl) rfl<|OG rfl rfl rfl rfl (r_pickT (v:=Value.bool (decide (c6≤90))) rfl hg96 rfl) rfl<|O (r_pickF (v:=Value.bool (decide (c6≤90))) rfl rfl rfl) rfl<|O (r_assign (v:=Value.bool (decide (c6≤90))) rfl) rfl<|OW_nil ?_
        obtain rfl:=Option.some.inj hM
        exact ⟨rfl,rfl,rfl,rfl,rfl,rfl,hds,hs⟩
       ·refine OK rfl rfl rfl (by rw [hg96]; rfl) rfl<|OK rfl rfl rfl (by rw [hg96]; rfl) rfl<|OG rfl rfl rfl rfl (r_pickF (v:=Value.bool false) rfl hg96 rfl) rfl<|O (r_pickF (v:=Value.bool false) rfl rfl rfl) rfl<|O (r_assign (v:=Value.bool false) rfl) rfl<|OW_nil ?_
        obtain rfl:=Option.some.inj hM
        exact ⟨rfl,rfl,rfl,rfl,rfl,rfl,hds,hs⟩
     ·clear hs
      rintro E w ⟨hE0,hE3,hE4,hE5,hE32,hE33,hds,hs⟩
      have hM:=hKhx13
      obtain ⟨E,rfl⟩:=open6 (E:=E) hE0 hE3 hE4 hE5 hE32 hE33
      obtain ⟨xv19,hx14,hKhx14⟩:=bindS hM
      refine WP_cut (fun E w=>E 0=encS p1∧E 32=Value.int .i64 (p1.length:Int)∧E 33=Value.int .i64 xv14∧E 70=Value.bool xv19∧E.ds=[]∧Go.Lx.Sep g0 w0 g0 w []) ?_ ?_
      ·have hM:=hx14
       refine WP_region<|O (r_move (v:=Value.bool xv18) rfl) rfl<|O (r_not rfl) rfl<|O (r_move (v:=Value.bool (!xv18)) rfl) rfl ?_
       rcases condS hM with ⟨hg101,hM⟩|⟨hg101,hM⟩
       ·refine OG rfl rfl rfl (by rw [hg101]; rfl) (r_move (v:=Value.int .i64 xv14) rfl) rfl<|OG rfl rfl rfl (by rw [hg101]; rfl) (r_eql rfl rfl) rfl<|OG rfl rfl rfl (by rw [hg101]; rfl) (r_move (v:=Value.bool (xv14 == 0)) rfl) rfl ?_
        rcases condS hM with ⟨hg102,hM⟩|⟨hg102,hM⟩
        ·refine OK rfl rfl rfl (by rw [hg102]; rfl) rfl<|OK rfl rfl rfl (by rw [hg102]; rfl) rfl<|OK rfl rfl rfl (by rw [hg102]; rfl) rfl<|OKU rfl rfl rfl rfl<|OKU rfl rfl rfl rfl<|OKU rfl rfl rfl rfl<|OKU rfl rfl rfl rfl<|OKU rfl rfl rfl rfl<|OKU rfl rfl rfl rfl<|OK rfl rfl rfl (by rw [hg102]; rfl) rfl<|OG rfl rfl rfl (by rw [hg101]; rfl) (r_pickT (v:=Value.bool true) rfl hg102 rfl) rfl<|O (r_pickT (v:=Value.bool true) rfl hg101 rfl) rfl<|OW_nil ?_
         obtain rfl:=Option.some.inj hM
         exact ⟨rfl,rfl,rfl,rfl,hds,hs⟩
        ·refine OG rfl rfl rfl (by rw [hg102]; rfl) (r_move (v:=Value.int .u8 c6) rfl) rfl<|OG rfl rfl rfl (by rw [hg102]; rfl) (r_neq rfl rfl) rfl<|OG rfl rfl rfl (by rw [hg102]; rfl) (r_move (v:=Value.bool (c6 != 95)) rfl) rfl ?_
         rcases condS hM with ⟨hg103,hM⟩|⟨hg103,hM⟩
         ·refine OG rfl rfl rfl (by rw [hg103]; rfl) (r_move (v:=Value.int .u8 c6) rfl) rfl<|OG rfl rfl rfl (by rw [hg103]; rfl) (r_lss rfl rfl) rfl<|OG rfl rfl rfl (by rw [hg103]; rfl) (r_move (v:=Value.bool (decide (c6<48))) rfl) rfl ?_
          rcases condS hM with ⟨hg104,hM⟩|⟨hg104,hM⟩
          ·refine OK rfl rfl rfl (by rw [hg104]; rfl) rfl<|OK rfl rfl rfl (by rw [hg104]; rfl) rfl<|OG rfl rfl rfl (by rw [hg103]; rfl) (r_pickT (v:=Value.bool true) rfl hg104 rfl) rfl<|OG rfl rfl rfl (by rw [hg102]; rfl) (r_pickT (v:=Value.bool true) rfl hg103 rfl) rfl<|OG rfl rfl rfl (by rw [hg101]; rfl) (r_pickF (v:=Value.bool true) rfl hg102 rfl) rfl<|O (r_pickT (v:=Value.bool true) rfl hg101 rfl) rfl<|OW_nil ?_
           obtain rfl:=Option.some.inj hM
           exact ⟨rfl,rfl,rfl,rfl,hds,hs⟩
          ·refine OG rfl rfl rfl (by rw [hg104]; rfl) (r_move (v:=Value.int .u8 c6) rfl) rfl<|OG rfl rfl rfl (by rw [hg104]; rfl) (r_gtr rfl rfl) rfl<|OG rfl rfl rfl (by rw [hg103]; rfl) (r_pickF (v:=Value.bool (decide (57<c6))) rfl hg104 rfl) rfl<|OG rfl rfl rfl (by rw [hg102]; rfl) (r_pickT (v:=Value.bool (decide (57<c6))) rfl hg103 rfl) rfl<|OG rfl rfl rfl (by rw [hg101]; rfl) (r_pickF (v:=Value.bool (decide (57<c6))) rfl hg102 rfl) rfl<|O (r_pickT (v:=Value.bool (decide (57<c6))) rfl hg101 rfl) rfl<|OW_nil ?_
           obtain rfl:=Option.some.inj hM
           exact ⟨rfl,rfl,rfl,rfl,hds,hs⟩
         ·refine OK rfl rfl rfl (by rw [hg103]; rfl) rfl<|OK rfl rfl rfl (by rw [hg103]; rfl) rfl<|OK rfl rfl rfl (by rw [hg103]; rfl) rfl<|OKU rfl rfl rfl rfl<|OKU rfl rfl rfl rfl<|OK rfl rfl rfl (by rw [hg103]; rfl) rfl<|OG rfl rfl rfl (by rw [hg102]; rfl) (r_pickF (v:=Value.bool false) rfl hg103 rfl) rfl<|OG rfl rfl rfl (by rw [hg101]; rfl) (r_pickF (v:=Value.bool false) rfl hg102 rfl) rfl<|O (r_pickT (v:=Value.bool false) rfl hg101 rfl) rfl<|OW_nil ?_
          obtain rfl:=Option.some.inj hM
          exact ⟨rfl,rfl,rfl,rfl,hds,hs⟩
       ·refine OK rfl rfl rfl (by rw [hg101]; rfl) rfl<|OK rfl rfl rfl (by rw [hg101]; rfl) rfl<|OK rfl rfl rfl (by rw [hg101]; rfl) rfl<|OKU rfl rfl rfl rfl<|OKU rfl rfl rfl rfl<|OKU rfl rfl rfl rfl<|OKU rfl rfl rfl rfl<|OKU rfl rfl rfl rfl<|OKU rfl rfl rfl rfl<|OKU rfl rfl rfl rfl<|OKU rfl rfl rfl rfl<|OKU rfl rfl rfl rfl<|OKU rfl rfl rfl rfl<|OK rfl rfl rfl (by rw [hg101]; rfl) rfl<|O (r_pickF (v:=Value.bool false) rfl hg101 rfl) rfl<|OW_nil ?_
        obtain rfl:=Option.some.inj hM
        exact ⟨rfl,rfl,rfl,rfl,hds,hs⟩
      ·clear hs
       rintro E w ⟨hE0,hE32,hE33,hE70,hds,hs⟩
       have hM:=hKhx14
       obtain ⟨E,rfl⟩:=open4 (E:=E) hE0 hE32 hE33 hE70
       rcases condS hM with ⟨hc13,hM⟩|⟨hc13,hM⟩
       ·refine WP_true rfl hc13<|WP_seq<|WP_region<|O (r_assign (v:=Value.bool false) rfl) rfl<|OW_nil<|WP_ret ?_
        obtain rfl:=Option.some.inj hM
        refine fun hr=>?_
        have hM:=congrArg some hr
        obtain rfl:=Option.some.inj hM
        have hM:=hKhx8
        obtain rfl:=Option.some.inj hM
        refine FL_nil hds ?_
        exact ⟨_,res1 Tryz.results53 (rv_tmp (v:=Value.bool false) rfl),g0,⟨[Value.bool false],rfl,rfl⟩,hs.ext⟩
       ·refine WP_false rfl hc13<|WP_skip<|WP_region ?_
        obtain ⟨t6,ht6,hM⟩:=bindS hM
        refine O (r_addM rfl rfl ht6) rfl<|O (r_move (v:=Value.int .i64 t6) rfl) rfl<|OW_nil ?_
        obtain rfl:=Option.some.inj hM
        exact ⟨rfl,rfl,rfl,hds,hs⟩
    ·refine WP_false rfl hc12<|WP_exit ?_
     obtain rfl:=Option.some.inj hM
     refine fun hr=>?_
     have hM:=congrArg some hr
     obtain rfl:=Option.some.inj hM
     exact ⟨(),rfl,hds,hs⟩
   ·clear hs
    rintro E w ⟨_,rfl,hds,hs⟩
    have hM:=hKhx8
    dsimp only [onStep] at hM
    refine WP_seq<|WP_region<|O (r_assign (v:=Value.bool true) rfl) rfl<|OW_nil<|WP_ret ?_
    obtain rfl:=Option.some.inj hM
    refine FL_nil hds ?_
    exact ⟨_,res1 Tryz.results53 (rv_tmp (v:=Value.bool true) rfl),g0,⟨[Value.bool true],rfl,rfl⟩,hs.ext⟩
set_option maxRecDepth 100000 in
theorem lexspec_definition_2_ok {c1:T_TokenDef} {r:Bool} (hM:M.lexspec_definition_2 c1=some r) {g0:Hp} {w0:World} (hi:Imm g0 w0) {b1:Nat} {cs1:List Value} (hBb1:IBox 46 b1 cs1 g0) (hcs1:tT_TokenDef.rel g0 cs1 c1) (hG0:GBox 0 (M.layoutTerms.map encS) g0) :
    CallsV Tryz.prog 52 #[Value.pointer (some ⟨b1,0,none⟩)] w0 (fun v w'=>∃g',(VRd tBool false g' v r)∧Ext g0 w0 g' w'):=by
 unfold M.lexspec_definition_2 at hM
 obtain ⟨cs2,cs3,cs4,cs5,cs6,rfl,hcs2,hcs3,hcs4,hcs5,hcs6⟩:=hcs1
 have hcs2:cs2=_:=hcs2; subst hcs2
 have hcs3:cs3=_:=hcs3; subst hcs3
 have hcs4:cs4=_:=hcs4; subst hcs4
 have hcs5:cs5=_:=hcs5; subst hcs5
 have hcs6:cs6=_:=hcs6; subst hcs6
 have hs:=Sep.start hi
 refine calls_of_WP (args:=[Value.pointer (some ⟨b1,0,none⟩)]) Tryz.func52 rfl Tryz.ntmps52 rfl ?_
 have hds:(argEnv [Value.pointer (some ⟨b1,0,none⟩)]).ds=[]:=rfl
 refine WP_seq<|WP_region<|O (r_assign (v:=Value.bool false) rfl) rfl<|OW_nil<|WP_seq<|WP_region<|O (r_fieldAddr Tryz.underlying46 ti9 rfl rfl (by decide) rfl rfl) rfl<|O (r_loadEl (o:=0) (cs:=[encS c1.Name]) ti9 rfl rfl (.inr rfl) (elemField (cs:=[encS c1.Name,Value.int .i64 c1.Kind,encS c1.Pattern,encS c1.Sample,encS c1.Close]) (hBb1.cells hs.imm) ([]) ([encS c1.Name]) ([Value.int .i64 c1.Kind,encS c1.Pattern,encS c1.Sample,encS c1.Close]) rfl rfl) (v:=encS c1.Name) rfl) rfl ?_
 obtain ⟨rv1,hrv1,hM⟩:=bindS hM
 refine C [encS c1.Name] cf53 rfl (lexspec_isName_ok hrv1 hs.imm hG0) rfl ?_
 rintro v1 wv1 ⟨gg1,hvv1,hegg1⟩
 have hlegg1:=hegg1.le hs.imm
 replace hs:=hs.call hegg1
 obtain ⟨cs7,rfl,hcs7⟩:=hvv1
 have hcs7:cs7=_:=hcs7; subst hcs7
 refine O (r_not rfl) rfl<|O (r_assign (v:=Value.bool (!rv1)) rfl) rfl<|OW_nil<|WP_ret ?_
 obtain rfl:=Option.some.inj hM
 refine FL_nil hds ?_
 exact ⟨_,res1 Tryz.results52 (rv_tmp (v:=Value.bool (!rv1)) rfl),gg1,⟨[Value.bool (!rv1)],rfl,rfl⟩,hs.ext⟩
set_option maxRecDepth 100000 in
theorem lexspec_definition_3_ok {c1:T_TokenDef} {r:Bool} (hM:M.lexspec_definition_3 c1=some r) {g0:Hp} {w0:World} (hi:Imm g0 w0) {b1:Nat} {cs1:List Value} (hBb1:IBox 46 b1 cs1 g0) (hcs1:tT_TokenDef.rel g0 cs1 c1) :
    CallsV Tryz.prog 54 #[Value.pointer (some ⟨b1,0,none⟩)] w0 (fun v w'=>∃g',(VRd tBool false g' v r)∧Ext g0 w0 g' w'):=by
 unfold M.lexspec_definition_3 at hM
 obtain ⟨cs2,cs3,cs4,cs5,cs6,rfl,hcs2,hcs3,hcs4,hcs5,hcs6⟩:=hcs1
 have hcs2:cs2=_:=hcs2; subst hcs2
 have hcs3:cs3=_:=hcs3; subst hcs3
 have hcs4:cs4=_:=hcs4; subst hcs4
 have hcs5:cs5=_:=hcs5; subst hcs5
 have hcs6:cs6=_:=hcs6; subst hcs6
 have hs:=Sep.start hi
 refine calls_of_WP (args:=[Value.pointer (some ⟨b1,0,none⟩)]) Tryz.func54 rfl Tryz.ntmps54 rfl ?_
 have hds:(argEnv [Value.pointer (some ⟨b1,0,none⟩)]).ds=[]:=rfl
 refine WP_seq<|WP_region<|O (r_assign (v:=Value.bool false) rfl) rfl<|OW_nil ?_
 obtain ⟨xv1,hx1,hKhx1⟩:=bindS hM
 refine WP_cut (fun E w=>E 1=Value.bool xv1∧E.ds=[]∧Go.Lx.Sep g0 w0 g0 w []) ?_ ?_
 ·have hM:=hx1
  have hag0:=Hle.refl g0
  refine WP_region<|O (r_fieldAddr Tryz.underlying46 ti3 rfl rfl (by decide) rfl rfl) rfl<|O (r_loadEl (o:=1) (cs:=[Value.int .i64 c1.Kind]) ti3 rfl rfl (.inr rfl) (elemField (cs:=[encS c1.Name,Value.int .i64 c1.Kind,encS c1.Pattern,encS c1.Sample,encS c1.Close]) (hBb1.cells hs.imm) ([encS c1.Name]) ([Value.int .i64 c1.Kind]) ([encS c1.Pattern,encS c1.Sample,encS c1.Close]) rfl rfl) (v:=Value.int .i64 c1.Kind) rfl) rfl<|O (r_lss rfl rfl) rfl<|O (r_move (v:=Value.bool (decide (c1.Kind<1))) rfl) rfl ?_
  rcases condS hM with ⟨hg2,hM⟩|⟨hg2,hM⟩
  ·refine OK rfl rfl rfl (by rw [hg2]; rfl) rfl<|OK rfl rfl rfl (by rw [hg2]; rfl) rfl<|OK rfl rfl rfl (by rw [hg2]; rfl) rfl<|O (r_pickT (v:=Value.bool true) rfl hg2 rfl) rfl<|O (r_assign (v:=Value.bool true) rfl) rfl<|OW_nil ?_
   obtain rfl:=Option.some.inj hM
   exact ⟨rfl,hds,hs⟩
  ·refine OG rfl rfl rfl (by rw [hg2]; rfl) (r_fieldAddr Tryz.underlying46 ti3 rfl rfl (by decide) rfl rfl) rfl<|OG rfl rfl rfl (by rw [hg2]; rfl) (r_loadEl (o:=1) (cs:=[Value.int .i64 c1.Kind]) ti3 rfl rfl (.inr rfl) (elemField (cs:=[encS c1.Name,Value.int .i64 c1.Kind,encS c1.Pattern,encS c1.Sample,encS c1.Close]) (hBb1.cells hs.imm) ([encS c1.Name]) ([Value.int .i64 c1.Kind]) ([encS c1.Pattern,encS c1.Sample,encS c1.Close]) rfl rfl) (v:=Value.int .i64 c1.Kind) rfl) rfl<|OG rfl rfl rfl (by rw [hg2]; rfl) (r_gtr rfl rfl) rfl<|O (r_pickF (v:=Value.bool (decide (3<c1.Kind))) rfl hg2 rfl) rfl<|O (r_assign (v:=Value.bool (decide (3<c1.Kind))) rfl) rfl<|OW_nil ?_
   obtain rfl:=Option.some.inj hM
   exact ⟨rfl,hds,hs⟩
 ·clear hs
  rintro E w ⟨hE1,hds,hs⟩
  have hM:=hKhx1
  obtain ⟨E,rfl⟩:=open1 (E:=E) hE1
  refine WP_ret ?_
  obtain rfl:=Option.some.inj hM
  refine FL_nil hds ?_
  exact ⟨_,res1 Tryz.results54 (rv_tmp (v:=Value.bool xv1) rfl),g0,⟨[Value.bool xv1],rfl,rfl⟩,hs.ext⟩
set_option maxRecDepth 100000 in
theorem lexspec_definition_4_ok {c1:Int} {r:Bool} (hM:M.lexspec_definition_4 c1=some r) {g0:Hp} {w0:World} (hi:Imm g0 w0) {b1:Nat} {cs1:List Value} (hBb1:IBox 38 b1 cs1 g0) (hcs1:(tInt .i64).rel g0 cs1 c1) :
    CallsV Tryz.prog 55 #[Value.pointer (some ⟨b1,0,none⟩)] w0 (fun v w'=>∃g',(VRd tBool false g' v r)∧Ext g0 w0 g' w'):=by
 unfold M.lexspec_definition_4 at hM
 have hcs1:cs1=_:=hcs1; subst hcs1
 have hs:=Sep.start hi
 refine calls_of_WP (args:=[Value.pointer (some ⟨b1,0,none⟩)]) Tryz.func55 rfl Tryz.ntmps55 rfl ?_
 have hds:(argEnv [Value.pointer (some ⟨b1,0,none⟩)]).ds=[]:=rfl
 refine WP_seq<|WP_region<|O (r_assign (v:=Value.bool false) rfl) rfl<|OW_nil<|WP_seq<|WP_region<|O (r_loadEl (o:=0) (cs:=[Value.int .i64 c1]) ti38 rfl rfl (.inr rfl) (hBb1.cells hs.imm) (v:=Value.int .i64 c1) rfl) rfl<|O (r_neq rfl rfl) rfl<|O (r_assign (v:=Value.bool (c1 != 0)) rfl) rfl<|OW_nil<|WP_ret ?_
 obtain rfl:=Option.some.inj hM
 refine FL_nil hds ?_
 exact ⟨_,res1 Tryz.results55 (rv_tmp (v:=Value.bool (c1 != 0)) rfl),g0,⟨[Value.bool (c1 != 0)],rfl,rfl⟩,hs.ext⟩
def C.regex_Nullable (fl:Nat):Prop:=∀ {rv1:T_Regex} {r:Bool} (_:M.regex_Nullable fl rv1=some r) {g0:Hp} {w0:World} (hi:Imm g0 w0) {cs1:List Value} (hcs1:tT_Regex.rel g0 cs1 rv1),
    CallsV Tryz.prog 57 #[Value.agg cs1.toArray] w0 (fun v w'=>∃g',(VRd tBool false g' v r)∧Ext g0 w0 g' w')
set_option maxRecDepth 100000 in
theorem regex_Nullable_step {fl:Nat} (ih_regex_Nullable:C.regex_Nullable fl):C.regex_Nullable (fl+1):=by
 intro rv1 r hM g0 w0 hi cs1 hcs1
 unfold M.regex_Nullable at hM
 obtain ⟨cs2,cs3,cs4,rfl,hcs2,hcs3,hcs4⟩:=tT_Regex_iff.1 hcs1
 have hcs2:cs2=_:=hcs2; subst hcs2
 have hcs3:cs3=_:=hcs3; subst hcs3
 obtain ⟨v1,rfl,hRv1⟩:=hcs4
 have hs:=Sep.start hi
 refine calls_of_WP (args:=[Value.agg (List.toArray (α:=Value) (([Value.int .i64 rv1.Kind])++((rv1.Set.1.map (Value.int .u64))++([v1]))))]) Tryz.func57 rfl Tryz.ntmps57 rfl ?_
 have hds:(argEnv [Value.agg (List.toArray (α:=Value) (([Value.int .i64 rv1.Kind])++((rv1.Set.1.map (Value.int .u64))++([v1]))))]).ds=[]:=rfl
 refine WP_seq<|WP_region<|OW_box (v:=Value.agg (List.toArray (α:=Value) (([Value.int .i64 rv1.Kind])++((rv1.Set.1.map (Value.int .u64))++([v1]))))) rfl hs (zs:=([Value.int .i64 rv1.Kind])++((rv1.Set.1.map (Value.int .u64))++([v1]))) rfl rfl ?_
 intro b1 wv1 hs
 refine O (r_assign (v:=Value.bool false) rfl) rfl<|OW_nil ?_
 obtain ⟨o9,hx3,hKhx3⟩:=stepS hM
 refine WP_cut (fun E w=>∃u9:Unit,o9=.next u9∧∃(gg20:Hp),E.ds=[]∧Hle g0 gg20∧Go.Lx.Sep g0 w0 gg20 w []) ?_ ?_
 ·have hM:=hx3
  have hag0:=Hle.refl g0
  refine WP_seq<|WP_region<|O (r_fieldAddr Tryz.underlying53 ti3 rfl rfl (by decide) rfl rfl) rfl<|O (r_load (v:=Value.int .i64 rv1.Kind) ti3 rfl (hs.cell (i:=0) (o:=0) rfl (by simp [rv1.Set.2]))) rfl<|OW_nil<|WP_block ?_
  obtain ⟨xv11,hx4,hKhx4⟩:=bindS hM
  refine WP_cut (fun E w=>E 1=Value.pointer (some ⟨b1,0,none⟩)∧E 8=Value.int .i64 rv1.Kind∧E 9=Value.bool xv11∧E.ds=[]∧Go.Lx.Sep g0 w0 g0 w [Go.Lx.box b1 53 (([Value.int .i64 rv1.Kind])++((rv1.Set.1.map (Value.int .u64))++([v1])))]) ?_ ?_
  ·have hM:=hx4
   refine WP_seq<|WP_region<|O (r_eql rfl rfl) rfl<|O (r_assign (v:=Value.bool (rv1.Kind == 2)) rfl) rfl<|OW_nil ?_
   rcases condS hM with ⟨hc25,hM⟩|⟨hc25,hM⟩
   ·refine WP_true rfl hc25<|WP_skip ?_
    obtain rfl:=Option.some.inj hM
    exact ⟨rfl,rfl,rfl,hds,hs⟩
   ·refine WP_false rfl hc25<|WP_region<|O (r_eql rfl rfl) rfl<|O (r_assign (v:=Value.bool (rv1.Kind == 6)) rfl) rfl<|OW_nil ?_
    obtain rfl:=Option.some.inj hM
    exact ⟨rfl,rfl,rfl,hds,hs⟩
  ·clear hs
   rintro E w ⟨hE1,hE8,hE9,hds,hs⟩
   have hM:=hKhx4
   obtain ⟨E,rfl⟩:=open3 (E:=E) hE1 hE8 hE9
   rcases condS hM with ⟨hc26,hM⟩|⟨hc26,hM⟩
   ·refine WP_true rfl hc26<|WP_seq<|WP_region<|O (r_assign (v:=Value.bool true) rfl) rfl<|OW_nil<|WP_ret ?_
    obtain rfl:=Option.some.inj hM
    have hM:=hKhx3
    obtain rfl:=Option.some.inj hM
    refine FL_nil hds ?_
    exact ⟨_,res1 Tryz.results57 (rv_tmp (v:=Value.bool true) rfl),g0,⟨[Value.bool true],rfl,rfl⟩,hs.ext⟩
   ·refine WP_false rfl hc26<|WP_seq<|WP_region<|O (r_eql rfl rfl) rfl<|O (r_assign (v:=Value.bool (rv1.Kind == 4)) rfl) rfl<|OW_nil ?_
    rcases condS hM with ⟨hc27,hM⟩|⟨hc27,hM⟩
    ·refine WP_true rfl hc27 ?_
     obtain ⟨o7,hx5,hKhx5⟩:=stepS hM
     refine WP_cut (fun E w=>∃u9:Unit,o7=.next u9∧∃(gg27:Hp),E.ds=[]∧Hle g0 gg27∧Go.Lx.Sep g0 w0 gg27 w []) ?_ ?_
     ·have hM:=hx5
      refine WP_seq<|WP_region<|O (r_fieldAddr Tryz.underlying53 ti51 rfl rfl (by decide) rfl rfl) rfl<|O (r_load (v:=v1) ti51 rfl (hs.cell (i:=0) (o:=5) rfl (by simp [rv1.Set.2]))) rfl ?_
      obtain ⟨a5,ca5,hva5⟩:=hRv1.shape
      refine O (r_lenSl (v:=v1) Tryz.underlying51 rfl hva5) rfl<|O (r_move (v:=Value.int .i64 0) rfl) rfl<|OW_nil<|WP_block<|WP_loop (fun (xv16:Int) E w=>∃(gg30:Hp),E 15=v1∧E 16=Value.int .i64 (rv1.Kids.length:Int)∧E 17=Value.int .i64 xv16∧E.ds=[]∧Hle g0 gg30∧Go.Lx.Sep g0 w0 gg30 w []) hM ⟨g0,rfl,rfl,rfl,hds,(Hle.refl _),(hs.sub (.cons _ .slnil))⟩ ?_
      clear hs hM
      rintro xv16 o6 E w hM ⟨gg30,hE15,hE16,hE17,hds,hlegg30,hs⟩
      obtain ⟨E,rfl⟩:=open3 (E:=E) hE15 hE16 hE17
      replace hRv1:=hRv1.mono hlegg30
      have hagg30:=Hle.refl gg30
      refine WP_seq<|WP_region<|O (r_lss rfl rfl) rfl<|OW_nil<|WP_seq ?_
      rcases condS hM with ⟨hc38,hM⟩|⟨hc38,hM⟩
      ·refine WP_true rfl hc38<|WP_skip<|WP_seq<|WP_block<|WP_seq<|WP_region ?_
       obtain ⟨e15,he15,hM⟩:=bindS hM
       obtain ⟨b30,ob30,cb30,hvb30,cs75,hcs75,hcb30⟩:=hRv1.at he15
       obtain ⟨cs76,cs77,cs78,rfl,hcs76,hcs77,hcs78⟩:=tT_Regex_iff.1 hcs75
       have hcs76:cs76=_:=hcs76; subst hcs76
       have hcs77:cs77=_:=hcs77; subst hcs77
       obtain ⟨v30,rfl,hRv30⟩:=hcs78
       refine O (r_idxSl Tryz.underlying51 ti53 (v:=v1) rfl hvb30 rfl (idxL_some he15).1 (idxL_some he15).2.1) rfl<|O (r_loadEl (cs:=([Value.int .i64 e15.Kind])++((e15.Set.1.map (Value.int .u64))++([v30]))) ti53 rfl (by simp [e15.Set.2]) (.inl rfl) (hcb30 _ hs.imm) (v:=Value.agg (List.toArray (α:=Value) (([Value.int .i64 e15.Kind])++((e15.Set.1.map (Value.int .u64))++([v30]))))) rfl) rfl<|OW_alloc ti53 hs (zs:=([Value.int .i64 0])++(((Vec.zero 4).1.map (Value.int .u64))++([Value.slice none 0 0]))) rfl rfl ?_
       intro b31 wv44 hs
       refine OW_storeAll ti53 hs (i:=0) rfl rfl (v:=Value.agg (List.toArray (α:=Value) (([Value.int .i64 e15.Kind])++((e15.Set.1.map (Value.int .u64))++([v30]))))) rfl (vs:=([Value.int .i64 e15.Kind])++((e15.Set.1.map (Value.int .u64))++([v30]))) rfl (one_append (one_cons rfl one_nil) (one_append vec_one (one_cons (by obtain ⟨_,_,h9⟩:=hRv30.shape; rw [h9]; rfl) one_nil))) (by simp [e15.Set.2]) (by simp [e15.Set.2,(Vec.zero 4).2]) ?_
       intro wv45 hs
       refine OW_nil<|WP_seq<|WP_region<|O (r_loadN (cs:=([Value.int .i64 e15.Kind])++((e15.Set.1.map (Value.int .u64))++([v30]))) ti53 rfl (by simp [e15.Set.2]) (hs.cells (i:=0) rfl)) rfl ?_
       obtain ⟨rv16,hrv16,hM⟩:=bindS hM
       refine C [Value.agg (List.toArray (α:=Value) (([Value.int .i64 e15.Kind])++((e15.Set.1.map (Value.int .u64))++([v30]))))] cf57 rfl (ih_regex_Nullable hrv16 hs.imm (tT_Regex_iff.2 ⟨[Value.int .i64 e15.Kind],e15.Set.1.map (Value.int .u64),[v30],rfl,rfl,rfl,⟨_,rfl,hRv30⟩⟩)) rfl ?_
       rintro v31 wv46 ⟨gg33,hvv31,hegg33⟩
       have hlegg33:=hegg33.le hs.imm
       replace hs:=hs.call hegg33
       replace hlegg30:=hlegg30.trans hlegg33
       obtain ⟨cs79,rfl,hcs79⟩:=hvv31
       have hcs79:cs79=_:=hcs79; subst hcs79
       refine O (r_not rfl) rfl<|OW_nil ?_
       rcases condS hM with ⟨hc39,hM⟩|⟨hc39,hM⟩
       ·refine WP_true rfl hc39<|WP_seq<|WP_region<|O (r_assign (v:=Value.bool false) rfl) rfl<|OW_nil<|WP_ret ?_
        obtain rfl:=Option.some.inj hM
        refine fun hr=>?_
        have hM:=congrArg some hr
        obtain rfl:=Option.some.inj hM
        have hM:=hKhx5
        obtain rfl:=Option.some.inj hM
        have hM:=hKhx3
        obtain rfl:=Option.some.inj hM
        refine FL_nil hds ?_
        exact ⟨_,res1 Tryz.results57 (rv_tmp (v:=Value.bool false) rfl),gg33,⟨[Value.bool false],rfl,rfl⟩,hs.ext⟩
       ·refine WP_false rfl hc39<|WP_skip<|WP_region ?_
        obtain ⟨t15,ht15,hM⟩:=bindS hM
        refine O (r_addM rfl rfl ht15) rfl<|O (r_move (v:=Value.int .i64 t15) rfl) rfl<|OW_nil ?_
        obtain rfl:=Option.some.inj hM
        exact ⟨gg33,rfl,rfl,rfl,hds,hlegg30,(hs.sub (.cons _ .slnil))⟩
      ·refine WP_false rfl hc38<|WP_exit ?_
       obtain rfl:=Option.some.inj hM
       refine fun hr=>?_
       have hM:=congrArg some hr
       obtain rfl:=Option.some.inj hM
       exact ⟨(),rfl,gg30,hds,hlegg30,hs⟩
     ·clear hs
      rintro E w ⟨_,rfl,gg27,hds,hlegg27,hs⟩
      have hM:=hKhx5
      dsimp only [onStep] at hM
      refine WP_seq<|WP_region<|O (r_assign (v:=Value.bool true) rfl) rfl<|OW_nil<|WP_ret ?_
      obtain rfl:=Option.some.inj hM
      have hM:=hKhx3
      obtain rfl:=Option.some.inj hM
      refine FL_nil hds ?_
      exact ⟨_,res1 Tryz.results57 (rv_tmp (v:=Value.bool true) rfl),gg27,⟨[Value.bool true],rfl,rfl⟩,hs.ext⟩
    ·refine WP_false rfl hc27<|WP_seq<|WP_region<|O (r_eql rfl rfl) rfl<|O (r_assign (v:=Value.bool (rv1.Kind == 5)) rfl) rfl<|OW_nil ?_
     rcases condS hM with ⟨hc40,hM⟩|⟨hc40,hM⟩
     ·refine WP_true rfl hc40<|WP_seq<|WP_region<|O (r_fieldAddr Tryz.underlying53 ti51 rfl rfl (by decide) rfl rfl) rfl<|O (r_load (v:=v1) ti51 rfl (hs.cell (i:=0) (o:=5) rfl (by simp [rv1.Set.2]))) rfl ?_
      obtain ⟨a6,ca6,hva6⟩:=hRv1.shape
      refine O (r_lenSl (v:=v1) Tryz.underlying51 rfl hva6) rfl<|O (r_move (v:=Value.int .i64 0) rfl) rfl<|OW_nil<|WP_block<|WP_loop (fun (xv19:Int) E w=>∃(gg36:Hp),E 28=v1∧E 29=Value.int .i64 (rv1.Kids.length:Int)∧E 30=Value.int .i64 xv19∧E.ds=[]∧Hle g0 gg36∧Go.Lx.Sep g0 w0 gg36 w []) hM ⟨g0,rfl,rfl,rfl,hds,(Hle.refl _),(hs.sub (.cons _ .slnil))⟩ ?_
      clear hs hM
      rintro xv19 o8 E w hM ⟨gg36,hE28,hE29,hE30,hds,hlegg36,hs⟩
      obtain ⟨E,rfl⟩:=open3 (E:=E) hE28 hE29 hE30
      replace hRv1:=hRv1.mono hlegg36
      have hagg36:=Hle.refl gg36
      refine WP_seq<|WP_region<|O (r_lss rfl rfl) rfl<|OW_nil<|WP_seq ?_
      rcases condS hM with ⟨hc45,hM⟩|⟨hc45,hM⟩
      ·refine WP_true rfl hc45<|WP_skip<|WP_seq<|WP_block<|WP_seq<|WP_region ?_
       obtain ⟨e18,he18,hM⟩:=bindS hM
       obtain ⟨b36,ob36,cb36,hvb36,cs90,hcs90,hcb36⟩:=hRv1.at he18
       obtain ⟨cs91,cs92,cs93,rfl,hcs91,hcs92,hcs93⟩:=tT_Regex_iff.1 hcs90
       have hcs91:cs91=_:=hcs91; subst hcs91
       have hcs92:cs92=_:=hcs92; subst hcs92
       obtain ⟨v36,rfl,hRv36⟩:=hcs93
       refine O (r_idxSl Tryz.underlying51 ti53 (v:=v1) rfl hvb36 rfl (idxL_some he18).1 (idxL_some he18).2.1) rfl<|O (r_loadEl (cs:=([Value.int .i64 e18.Kind])++((e18.Set.1.map (Value.int .u64))++([v36]))) ti53 rfl (by simp [e18.Set.2]) (.inl rfl) (hcb36 _ hs.imm) (v:=Value.agg (List.toArray (α:=Value) (([Value.int .i64 e18.Kind])++((e18.Set.1.map (Value.int .u64))++([v36]))))) rfl) rfl<|OW_alloc ti53 hs (zs:=([Value.int .i64 0])++(((Vec.zero 4).1.map (Value.int .u64))++([Value.slice none 0 0]))) rfl rfl ?_
       intro b37 wv53 hs
       refine OW_storeAll ti53 hs (i:=0) rfl rfl (v:=Value.agg (List.toArray (α:=Value) (([Value.int .i64 e18.Kind])++((e18.Set.1.map (Value.int .u64))++([v36]))))) rfl (vs:=([Value.int .i64 e18.Kind])++((e18.Set.1.map (Value.int .u64))++([v36]))) rfl (one_append (one_cons rfl one_nil) (one_append vec_one (one_cons (by obtain ⟨_,_,h9⟩:=hRv36.shape; rw [h9]; rfl) one_nil))) (by simp [e18.Set.2]) (by simp [e18.Set.2,(Vec.zero 4).2]) ?_
       intro wv54 hs
       refine OW_nil<|WP_seq<|WP_region<|O (r_loadN (cs:=([Value.int .i64 e18.Kind])++((e18.Set.1.map (Value.int .u64))++([v36]))) ti53 rfl (by simp [e18.Set.2]) (hs.cells (i:=0) rfl)) rfl ?_
       obtain ⟨rv19,hrv19,hM⟩:=bindS hM
       refine C [Value.agg (List.toArray (α:=Value) (([Value.int .i64 e18.Kind])++((e18.Set.1.map (Value.int .u64))++([v36]))))] cf57 rfl (ih_regex_Nullable hrv19 hs.imm (tT_Regex_iff.2 ⟨[Value.int .i64 e18.Kind],e18.Set.1.map (Value.int .u64),[v36],rfl,rfl,rfl,⟨_,rfl,hRv36⟩⟩)) rfl ?_
       rintro v37 wv55 ⟨gg39,hvv37,hegg39⟩
       have hlegg39:=hegg39.le hs.imm
       replace hs:=hs.call hegg39
       replace hlegg36:=hlegg36.trans hlegg39
       obtain ⟨cs94,rfl,hcs94⟩:=hvv37
       have hcs94:cs94=_:=hcs94; subst hcs94
       refine OW_nil ?_
       rcases condS hM with ⟨hc46,hM⟩|⟨hc46,hM⟩
       ·refine WP_true rfl hc46<|WP_seq<|WP_region<|O (r_assign (v:=Value.bool true) rfl) rfl<|OW_nil<|WP_ret ?_
        obtain rfl:=Option.some.inj hM
        refine fun hr=>?_
        have hM:=congrArg some hr
        obtain rfl:=Option.some.inj hM
        have hM:=hKhx3
        obtain rfl:=Option.some.inj hM
        refine FL_nil hds ?_
        exact ⟨_,res1 Tryz.results57 (rv_tmp (v:=Value.bool true) rfl),gg39,⟨[Value.bool true],rfl,rfl⟩,hs.ext⟩
       ·refine WP_false rfl hc46<|WP_skip<|WP_region ?_
        obtain ⟨t18,ht18,hM⟩:=bindS hM
        refine O (r_addM rfl rfl ht18) rfl<|O (r_move (v:=Value.int .i64 t18) rfl) rfl<|OW_nil ?_
        obtain rfl:=Option.some.inj hM
        exact ⟨gg39,rfl,rfl,rfl,hds,hlegg36,(hs.sub (.cons _ .slnil))⟩
      ·refine WP_false rfl hc45<|WP_exit ?_
       obtain rfl:=Option.some.inj hM
       refine fun hr=>?_
       have hM:=congrArg some hr
       obtain rfl:=Option.some.inj hM
       exact ⟨(),rfl,gg36,hds,hlegg36,hs⟩
     ·refine WP_false rfl hc40<|WP_skip ?_
      obtain rfl:=Option.some.inj hM
      exact ⟨(),rfl,g0,hds,(Hle.refl _),(hs.sub (.cons _ .slnil))⟩
 ·clear hs
  rintro E w ⟨_,rfl,gg20,hds,hlegg20,hs⟩
  have hM:=hKhx3
  dsimp only [onStep] at hM
  refine WP_seq<|WP_region<|O (r_assign (v:=Value.bool false) rfl) rfl<|OW_nil<|WP_ret ?_
  obtain rfl:=Option.some.inj hM
  refine FL_nil hds ?_
  exact ⟨_,res1 Tryz.results57 (rv_tmp (v:=Value.bool false) rfl),gg20,⟨[Value.bool false],rfl,rfl⟩,hs.ext⟩
theorem regex_Nullable_zero:C.regex_Nullable 0:=by
  unfold C.regex_Nullable
  intros
  simp_all only [M.regex_Nullable,reduceCtorEq]
theorem regex_Nullable_all:∀fl,C.regex_Nullable fl:=by
  intro fl
  induction fl with
  | zero=>exact regex_Nullable_zero
  | succ fl ih=>
    exact regex_Nullable_step ih
theorem regex_Nullable_ok {fl:Nat}:C.regex_Nullable fl:=(regex_Nullable_all fl)
end Go.Proofs.YtggpjcdhflcfmaaGreatDoor
