/- Part 7 of what the law leans on: my own layer, printed walks, plain facts. -/
import Derived.Test.YtggpjcdhflcfmaaGreatDoorKLexspecTerms6
set_option linter.unusedVariables false
set_option linter.unusedSimpArgs false
namespace Go.Proofs.YtggpjcdhflcfmaaGreatDoor
open Go.Lx Go.RowKit
def C.nfa_builder_concat (fl:Nat):Prop:=∀ {b1:T_nfa_builder} {rv1:T_Regex} {r:T_nfa_part×T_nfa_builder} (_:M.nfa_builder_concat fl b1 rv1=some r) {g0:Hp} {w0:World} {gi:Hp} {wi:World} {Lt:List Res} {b2:Nat} {v1:Value} {xs1:List Value} {v2:Value} {xs2:List Value} {G1:List Res} (hs:Sep g0 w0 gi wi (Go.Lx.box b2 128 ([v1,v2])::.row v1 50 (tVec 4 .u64).sz b1.sets.length xs1::.row v2 125 1 b1.behind.length xs2::(G1++Lt))) {cs1:List Value} (hcs1:tT_Regex.rel gi cs1 rv1) (hrelxs1:RowRel (tVec 4 .u64) gi xs1 b1.sets) (hGG1:GRel (iMap (Value.int .i64) Value.bool) gi xs2 b1.behind G1),
    CallsV Tryz.prog 107 #[Value.pointer (some ⟨b2,0,none⟩),Value.agg cs1.toArray] wi (fun v w'=>∃g' v170 xs65 v171 xs66 G21,(VRd tT_nfa_part true g' v r.1)∧Hle gi g'∧RowRel (tVec 4 .u64) g' xs65 r.2.sets∧GRel (iMap (Value.int .i64) Value.bool) g' xs66 r.2.behind G21∧Sep g0 w0 g' w' (Go.Lx.box b2 128 ([v170,v171])::.row v170 50 (tVec 4 .u64).sz r.2.sets.length xs65::.row v171 125 1 r.2.behind.length xs66::(G21++Lt)))
def C.nfa_builder_union (fl:Nat):Prop:=∀ {b1:T_nfa_builder} {rv1:T_Regex} {r:T_nfa_part×T_nfa_builder} (_:M.nfa_builder_union fl b1 rv1=some r) {g0:Hp} {w0:World} {gi:Hp} {wi:World} {Lt:List Res} {b2:Nat} {v1:Value} {xs1:List Value} {v2:Value} {xs2:List Value} {G1:List Res} (hs:Sep g0 w0 gi wi (Go.Lx.box b2 128 ([v1,v2])::.row v1 50 (tVec 4 .u64).sz b1.sets.length xs1::.row v2 125 1 b1.behind.length xs2::(G1++Lt))) {cs1:List Value} (hcs1:tT_Regex.rel gi cs1 rv1) (hrelxs1:RowRel (tVec 4 .u64) gi xs1 b1.sets) (hGG1:GRel (iMap (Value.int .i64) Value.bool) gi xs2 b1.behind G1),
    CallsV Tryz.prog 108 #[Value.pointer (some ⟨b2,0,none⟩),Value.agg cs1.toArray] wi (fun v w'=>∃g' v188 xs69 v189 xs70 G15,(VRd tT_nfa_part true g' v r.1)∧Hle gi g'∧RowRel (tVec 4 .u64) g' xs69 r.2.sets∧GRel (iMap (Value.int .i64) Value.bool) g' xs70 r.2.behind G15∧Sep g0 w0 g' w' (Go.Lx.box b2 128 ([v188,v189])::.row v188 50 (tVec 4 .u64).sz r.2.sets.length xs69::.row v189 125 1 r.2.behind.length xs70::(G15++Lt)))
def C.nfa_builder_star (fl:Nat):Prop:=∀ {b1:T_nfa_builder} {rv1:T_Regex} {r:T_nfa_part×T_nfa_builder} (_:M.nfa_builder_star fl b1 rv1=some r) {g0:Hp} {w0:World} {gi:Hp} {wi:World} {Lt:List Res} {b2:Nat} {v1:Value} {xs1:List Value} {v2:Value} {xs2:List Value} {G1:List Res} (hs:Sep g0 w0 gi wi (Go.Lx.box b2 128 ([v1,v2])::.row v1 50 (tVec 4 .u64).sz b1.sets.length xs1::.row v2 125 1 b1.behind.length xs2::(G1++Lt))) {cs1:List Value} (hcs1:tT_Regex.rel gi cs1 rv1) (hrelxs1:RowRel (tVec 4 .u64) gi xs1 b1.sets) (hGG1:GRel (iMap (Value.int .i64) Value.bool) gi xs2 b1.behind G1),
    CallsV Tryz.prog 109 #[Value.pointer (some ⟨b2,0,none⟩),Value.agg cs1.toArray] wi (fun v w'=>∃g' v13 xs7 v14 xs8 G4,(VRd tT_nfa_part true g' v r.1)∧Hle gi g'∧RowRel (tVec 4 .u64) g' xs7 r.2.sets∧GRel (iMap (Value.int .i64) Value.bool) g' xs8 r.2.behind G4∧Sep g0 w0 g' w' (Go.Lx.box b2 128 ([v13,v14])::.row v13 50 (tVec 4 .u64).sz r.2.sets.length xs7::.row v14 125 1 r.2.behind.length xs8::(G4++Lt)))
def C.nfa_builder_expr (fl:Nat):Prop:=∀ {b1:T_nfa_builder} {rv1:T_Regex} {r:T_nfa_part×T_nfa_builder} (_:M.nfa_builder_expr fl b1 rv1=some r) {g0:Hp} {w0:World} {gi:Hp} {wi:World} {Lt:List Res} {b2:Nat} {v1:Value} {xs1:List Value} {v2:Value} {xs2:List Value} {G1:List Res} (hs:Sep g0 w0 gi wi (Go.Lx.box b2 128 ([v1,v2])::.row v1 50 (tVec 4 .u64).sz b1.sets.length xs1::.row v2 125 1 b1.behind.length xs2::(G1++Lt))) {cs1:List Value} (hcs1:tT_Regex.rel gi cs1 rv1) (hrelxs1:RowRel (tVec 4 .u64) gi xs1 b1.sets) (hGG1:GRel (iMap (Value.int .i64) Value.bool) gi xs2 b1.behind G1),
    CallsV Tryz.prog 85 #[Value.pointer (some ⟨b2,0,none⟩),Value.agg cs1.toArray] wi (fun v w'=>∃g' v34 xs15 v35 xs16 G8,(VRd tT_nfa_part true g' v r.1)∧Hle gi g'∧RowRel (tVec 4 .u64) g' xs15 r.2.sets∧GRel (iMap (Value.int .i64) Value.bool) g' xs16 r.2.behind G8∧Sep g0 w0 g' w' (Go.Lx.box b2 128 ([v34,v35])::.row v34 50 (tVec 4 .u64).sz r.2.sets.length xs15::.row v35 125 1 r.2.behind.length xs16::(G8++Lt)))
set_option maxRecDepth 100000 in
theorem nfa_builder_concat_step {fl:Nat} (ih_nfa_builder_expr:C.nfa_builder_expr fl):C.nfa_builder_concat (fl+1):=by
 intro b1 rv1 r hM g0 w0 gi wi Lt b2 v1 xs1 v2 xs2 G1 hs cs1 hcs1 hrelxs1 hGG1
 unfold M.nfa_builder_concat at hM
 obtain ⟨cs2,cs3,cs4,rfl,hcs2,hcs3,hcs4⟩:=tT_Regex_iff.1 hcs1
 have hcs2:cs2=_:=hcs2; subst hcs2
 have hcs3:cs3=_:=hcs3; subst hcs3
 obtain ⟨v3,rfl,hRv3⟩:=hcs4
 have hagi:=Hle.refl gi
 refine calls_of_WP (args:=[Value.pointer (some ⟨b2,0,none⟩),Value.agg (List.toArray (α:=Value) (([Value.int .i64 rv1.Kind])++((rv1.Set.1.map (Value.int .u64))++([v3]))))]) Tryz.func107 rfl Tryz.ntmps107 rfl ?_
 have hds:(argEnv [Value.pointer (some ⟨b2,0,none⟩),Value.agg (List.toArray (α:=Value) (([Value.int .i64 rv1.Kind])++((rv1.Set.1.map (Value.int .u64))++([v3]))))]).ds=[]:=rfl
 refine WP_seq<|WP_region<|OW_box (v:=Value.agg (List.toArray (α:=Value) (([Value.int .i64 rv1.Kind])++((rv1.Set.1.map (Value.int .u64))++([v3]))))) rfl hs (zs:=([Value.int .i64 rv1.Kind])++((rv1.Set.1.map (Value.int .u64))++([v3]))) rfl rfl ?_
 intro b3 wv1 hs
 refine OW_alloc ti130 hs (zs:=[Value.bool false,Value.slice none 0 0,Value.slice none 0 0]) rfl rfl ?_
 intro b4 wv2 hs
 refine OW_nil<|WP_seq<|WP_region<|O (r_build (vs:=[(0,Value.bool true)]) (cs:=[Value.bool true,Value.slice none 0 0,Value.slice none 0 0]) rfl (built_fill [(0,1),(1,1),(2,1)] [Value.bool false,Value.slice none 0 0,Value.slice none 0 0] (fun _=>by kernel_rfl) (fill_step ([]) ([Value.bool false]) ([Value.slice none 0 0,Value.slice none 0 0]) ([Value.bool true]) rfl rfl rfl rfl rfl rfl<|fill_done))) rfl<|OW_alloc ti130 hs (zs:=[Value.bool false,Value.slice none 0 0,Value.slice none 0 0]) rfl rfl ?_
 intro b5 wv3 hs
 refine OW_storeAll ti130 hs (i:=0) rfl rfl (v:=Value.agg (List.toArray (α:=Value) [Value.bool true,Value.slice none 0 0,Value.slice none 0 0])) rfl (vs:=[Value.bool true,Value.slice none 0 0,Value.slice none 0 0]) rfl (one_cons rfl (one_cons rfl (one_cons rfl one_nil))) rfl rfl ?_
 intro wv4 hs
 refine OW_nil ?_
 obtain ⟨⟨xv25,xv26,xv27,xv28,xv29⟩,hx7,hKhx7⟩:=bindS hM
 refine WP_cut (fun E w=>∃(gg40:Hp) (v87:Value) (xs33:List Value) (v88:Value) (xs34:List Value) (G11:List Res) (v85:Value) (v86:Value),E 4=Value.pointer (some ⟨b4,0,none⟩)∧E 5=Value.pointer (some ⟨b5,0,none⟩)∧E.ds=[]∧Hle gi gg40∧RowRel (tVec 4 .u64) gg40 xs33 xv28∧GRel (iMap (Value.int .i64) Value.bool) gg40 xs34 xv29 G11∧RdS (tInt .i64) gg40 v85 xv26∧RdS (tInt .i64) gg40 v86 xv27∧Go.Lx.Sep g0 w0 gg40 w (Go.Lx.box b5 130 ([Value.bool xv25,v85,v86])::Go.Lx.box b4 130 ([Value.bool false,Value.slice none 0 0,Value.slice none 0 0])::Go.Lx.box b2 128 ([v87,v88])::.row v87 50 (tVec 4 .u64).sz xv28.length xs33::.row v88 125 1 xv29.length xs34::(G11++Lt))) ?_ ?_
 ·have hM:=hx7
  refine WP_seq<|WP_region<|O (r_fieldAddr Tryz.underlying53 ti51 rfl rfl (by decide) rfl rfl) rfl<|O (r_load (v:=v3) ti51 rfl (hs.cell (i:=2) (o:=5) rfl (by simp [rv1.Set.2]))) rfl ?_
  obtain ⟨a2,ca2,hva2⟩:=hRv3.shape
  refine O (r_lenSl (v:=v3) Tryz.underlying51 rfl hva2) rfl<|O (r_move (v:=Value.int .i64 0) rfl) rfl<|OW_nil<|WP_block<|WP_loop (fun (st9:(List (Vec 4))×(List (List (Int×Bool)))×Bool×(List Int)×(List Int)×Int) E w=>match st9 with|(xv38,xv39,xv40,xv41,xv42,xv43)=>∃(gg54:Hp) (v116:Value) (xs45:List Value) (v117:Value) (xs46:List Value) (G15:List Res) (v118:Value) (v119:Value),E 0=Value.pointer (some ⟨b2,0,none⟩)∧E 4=Value.pointer (some ⟨b4,0,none⟩)∧E 5=Value.pointer (some ⟨b5,0,none⟩)∧E 11=v3∧E 12=Value.int .i64 (rv1.Kids.length:Int)∧E 13=Value.int .i64 xv43∧E.ds=[]∧Hle gi gg54∧RowRel (tVec 4 .u64) gg54 xs45 xv38∧GRel (iMap (Value.int .i64) Value.bool) gg54 xs46 xv39 G15∧RdS (tInt .i64) gg54 v118 xv41∧RdS (tInt .i64) gg54 v119 xv42∧Go.Lx.Sep g0 w0 gg54 w (Go.Lx.box b5 130 ([Value.bool xv40,v118,v119])::Go.Lx.box b4 130 ([Value.bool false,Value.slice none 0 0,Value.slice none 0 0])::Go.Lx.box b2 128 ([v116,v117])::.row v116 50 (tVec 4 .u64).sz xv38.length xs45::.row v117 125 1 xv39.length xs46::(G15++Lt))) hM ⟨gi,v1,xs1,v2,xs2,G1,Value.slice none 0 0,Value.slice none 0 0,rfl,rfl,rfl,rfl,rfl,rfl,hds,(Hle.refl _),hrelxs1,hGG1,RdS.nil,RdS.nil,(Sep.selT (A:=[Go.Lx.box b5 130 ([Value.bool true,Value.slice none 0 0,Value.slice none 0 0]),Go.Lx.box b4 130 ([Value.bool false,Value.slice none 0 0,Value.slice none 0 0]),Go.Lx.box b3 53 (([Value.int .i64 rv1.Kind])++((rv1.Set.1.map (Value.int .u64))++([v3]))),Go.Lx.box b2 128 ([v1,v2]),.row v1 50 (tVec 4 .u64).sz b1.sets.length xs1,.row v2 125 1 b1.behind.length xs2]) (A':=[Go.Lx.box b5 130 ([Value.bool true,Value.slice none 0 0,Value.slice none 0 0]),Go.Lx.box b4 130 ([Value.bool false,Value.slice none 0 0,Value.slice none 0 0]),Go.Lx.box b2 128 ([v1,v2]),.row v1 50 (tVec 4 .u64).sz b1.sets.length xs1,.row v2 125 1 b1.behind.length xs2]) (L:=(G1++Lt)) hs [0,1,3,4,5] (by decide) rfl)⟩ ?_
  clear hs hM
  rintro ⟨xv38,xv39,xv40,xv41,xv42,xv43⟩ o2 E w hM ⟨gg54,v116,xs45,v117,xs46,G15,v118,v119,hE0,hE4,hE5,hE11,hE12,hE13,hds,hlegg54,hrelxs45,hGG15,hRv118,hRv119,hs⟩
  obtain ⟨E,rfl⟩:=open6 (E:=E) hE0 hE4 hE5 hE11 hE12 hE13
  replace hRv3:=hRv3.mono hlegg54
  have hagg54:=Hle.refl gg54
  refine WP_seq<|WP_region<|O (r_lss rfl rfl) rfl<|OW_nil<|WP_seq ?_
  rcases condS hM with ⟨hc22,hM⟩|⟨hc22,hM⟩
  ·refine WP_true rfl hc22<|WP_skip<|WP_seq<|WP_block<|WP_seq<|WP_region ?_
   obtain ⟨e6,he6,hM⟩:=bindS hM
   obtain ⟨b21,ob21,cb21,hvb21,cs65,hcs65,hcb21⟩:=hRv3.at he6
   obtain ⟨cs66,cs67,cs68,rfl,hcs66,hcs67,hcs68⟩:=tT_Regex_iff.1 hcs65
   have hcs66:cs66=_:=hcs66; subst hcs66
   have hcs67:cs67=_:=hcs67; subst hcs67
   obtain ⟨v147,rfl,hRv147⟩:=hcs68
   refine O (r_idxSl Tryz.underlying51 ti53 (v:=v3) rfl hvb21 rfl (idxL_some he6).1 (idxL_some he6).2.1) rfl<|O (r_loadEl (cs:=([Value.int .i64 e6.Kind])++((e6.Set.1.map (Value.int .u64))++([v147]))) ti53 rfl (by simp [e6.Set.2]) (.inl rfl) (hcb21 _ hs.imm) (v:=Value.agg (List.toArray (α:=Value) (([Value.int .i64 e6.Kind])++((e6.Set.1.map (Value.int .u64))++([v147]))))) rfl) rfl<|OW_alloc ti53 hs (zs:=([Value.int .i64 0])++(((Vec.zero 4).1.map (Value.int .u64))++([Value.slice none 0 0]))) rfl rfl ?_
   intro b22 wv113 hs
   refine OW_storeAll ti53 hs (i:=0) rfl rfl (v:=Value.agg (List.toArray (α:=Value) (([Value.int .i64 e6.Kind])++((e6.Set.1.map (Value.int .u64))++([v147]))))) rfl (vs:=([Value.int .i64 e6.Kind])++((e6.Set.1.map (Value.int .u64))++([v147]))) rfl (one_append (one_cons rfl one_nil) (one_append vec_one (one_cons (by obtain ⟨_,_,h9⟩:=hRv147.shape; rw [h9]; rfl) one_nil))) (by simp [e6.Set.2]) (by simp [e6.Set.2,(Vec.zero 4).2]) ?_
   intro wv114 hs
   refine OW_nil<|WP_seq<|WP_region<|O (r_move (v:=Value.pointer (some ⟨b2,0,none⟩)) rfl) rfl<|O (r_loadN (cs:=([Value.int .i64 e6.Kind])++((e6.Set.1.map (Value.int .u64))++([v147]))) ti53 rfl (by simp [e6.Set.2]) (hs.cells (i:=0) rfl)) rfl ?_
   have hs:Go.Lx.Sep g0 w0 gg54 _ (Go.Lx.box b2 128 ([v116,v117])::.row v116 50 (tVec 4 .u64).sz xv38.length xs45::.row v117 125 1 xv39.length xs46::Go.Lx.box b22 53 (([Value.int .i64 e6.Kind])++((e6.Set.1.map (Value.int .u64))++([v147])))::Go.Lx.box b5 130 ([Value.bool xv40,v118,v119])::Go.Lx.box b4 130 ([Value.bool false,Value.slice none 0 0,Value.slice none 0 0])::(G15++Lt)):=(Sep.selT (A:=[Go.Lx.box b22 53 (([Value.int .i64 e6.Kind])++((e6.Set.1.map (Value.int .u64))++([v147]))),Go.Lx.box b5 130 ([Value.bool xv40,v118,v119]),Go.Lx.box b4 130 ([Value.bool false,Value.slice none 0 0,Value.slice none 0 0]),Go.Lx.box b2 128 ([v116,v117]),.row v116 50 (tVec 4 .u64).sz xv38.length xs45,.row v117 125 1 xv39.length xs46]) (A':=[Go.Lx.box b2 128 ([v116,v117]),.row v116 50 (tVec 4 .u64).sz xv38.length xs45,.row v117 125 1 xv39.length xs46,Go.Lx.box b22 53 (([Value.int .i64 e6.Kind])++((e6.Set.1.map (Value.int .u64))++([v147]))),Go.Lx.box b5 130 ([Value.bool xv40,v118,v119]),Go.Lx.box b4 130 ([Value.bool false,Value.slice none 0 0,Value.slice none 0 0])]) (L:=(G15++Lt)) hs [3,4,5,0,1,2] (by decide) rfl)
   have hs:=hs.perm (List.Perm.cons _ (List.Perm.cons _ (List.Perm.cons _ (List.perm_append_comm_assoc [Go.Lx.box b22 53 (([Value.int .i64 e6.Kind])++((e6.Set.1.map (Value.int .u64))++([v147]))),Go.Lx.box b5 130 ([Value.bool xv40,v118,v119]),Go.Lx.box b4 130 ([Value.bool false,Value.slice none 0 0,Value.slice none 0 0])] G15 Lt))))
   obtain ⟨rv32,hrv32,hM⟩:=bindS hM
   refine C [Value.pointer (some ⟨b2,0,none⟩),Value.agg (List.toArray (α:=Value) (([Value.int .i64 e6.Kind])++((e6.Set.1.map (Value.int .u64))++([v147]))))] cf85 rfl (ih_nfa_builder_expr hrv32 hs (tT_Regex_iff.2 ⟨[Value.int .i64 e6.Kind],e6.Set.1.map (Value.int .u64),[v147],rfl,rfl,rfl,⟨_,rfl,hRv147⟩⟩) hrelxs45 hGG15) rfl ?_
   rintro v148 wv115 ⟨gg68,v149,xs57,v150,xs58,G19,hvv148,hlegg68,hrelxs57,hGG19,hs⟩
   replace hRv118:=hRv118.mono hlegg68
   replace hRv119:=hRv119.mono hlegg68
   replace hlegg54:=hlegg54.trans hlegg68
   have hs:=hs.perm (List.Perm.cons _ (List.Perm.cons _ (List.Perm.cons _ (List.perm_append_comm_assoc G19 [Go.Lx.box b22 53 (([Value.int .i64 e6.Kind])++((e6.Set.1.map (Value.int .u64))++([v147]))),Go.Lx.box b5 130 ([Value.bool xv40,v118,v119]),Go.Lx.box b4 130 ([Value.bool false,Value.slice none 0 0,Value.slice none 0 0])] Lt))))
   obtain ⟨cs69,rfl,hcs69⟩:=hvv148
   obtain ⟨cs70,cs71,cs72,rfl,hcs70,hcs71,hcs72⟩:=hcs69
   have hcs70:cs70=_:=hcs70; subst hcs70
   obtain ⟨v151,rfl,hRv151⟩:=hcs71
   obtain ⟨v152,rfl,hRv152⟩:=hcs72
   refine OW_alloc ti130 hs (zs:=[Value.bool false,Value.slice none 0 0,Value.slice none 0 0]) rfl rfl ?_
   intro b23 wv116 hs
   refine OW_storeAll ti130 hs (i:=0) rfl rfl (v:=Value.agg (List.toArray (α:=Value) [Value.bool rv32.1.nullable,v151,v152])) rfl (vs:=[Value.bool rv32.1.nullable,v151,v152]) rfl (one_cons rfl (one_cons (by obtain ⟨_,_,h9⟩:=hRv151.shape; rw [h9]; rfl) (one_cons (by obtain ⟨_,_,h9⟩:=hRv152.shape; rw [h9]; rfl) one_nil))) rfl rfl ?_
   intro wv117 hs
   refine OW_nil<|WP_seq<|WP_region<|O (r_move (v:=Value.pointer (some ⟨b2,0,none⟩)) rfl) rfl<|O (r_fieldAddr Tryz.underlying130 ti34 rfl rfl (by decide) rfl rfl) rfl<|O (r_load (v:=v119) ti34 rfl (hs.cell (i:=5) (o:=2) rfl rfl)) rfl<|O (r_fieldAddr Tryz.underlying130 ti34 rfl rfl (by decide) rfl rfl) rfl<|O (r_load (v:=v151) ti34 rfl (hs.cell (i:=0) (o:=1) rfl rfl)) rfl ?_
   have hs:Go.Lx.Sep g0 w0 gg68 _ (Go.Lx.box b2 128 ([v149,v150])::.row v149 50 (tVec 4 .u64).sz rv32.2.sets.length xs57::.row v150 125 1 rv32.2.behind.length xs58::Go.Lx.box b23 130 ([Value.bool rv32.1.nullable,v151,v152])::Go.Lx.box b22 53 (([Value.int .i64 e6.Kind])++((e6.Set.1.map (Value.int .u64))++([v147])))::Go.Lx.box b5 130 ([Value.bool xv40,v118,v119])::Go.Lx.box b4 130 ([Value.bool false,Value.slice none 0 0,Value.slice none 0 0])::(G19++Lt)):=(Sep.selT (A:=[Go.Lx.box b23 130 ([Value.bool rv32.1.nullable,v151,v152]),Go.Lx.box b2 128 ([v149,v150]),.row v149 50 (tVec 4 .u64).sz rv32.2.sets.length xs57,.row v150 125 1 rv32.2.behind.length xs58,Go.Lx.box b22 53 (([Value.int .i64 e6.Kind])++((e6.Set.1.map (Value.int .u64))++([v147]))),Go.Lx.box b5 130 ([Value.bool xv40,v118,v119]),Go.Lx.box b4 130 ([Value.bool false,Value.slice none 0 0,Value.slice none 0 0])]) (A':=[Go.Lx.box b2 128 ([v149,v150]),.row v149 50 (tVec 4 .u64).sz rv32.2.sets.length xs57,.row v150 125 1 rv32.2.behind.length xs58,Go.Lx.box b23 130 ([Value.bool rv32.1.nullable,v151,v152]),Go.Lx.box b22 53 (([Value.int .i64 e6.Kind])++((e6.Set.1.map (Value.int .u64))++([v147]))),Go.Lx.box b5 130 ([Value.bool xv40,v118,v119]),Go.Lx.box b4 130 ([Value.bool false,Value.slice none 0 0,Value.slice none 0 0])]) (L:=(G19++Lt)) hs [1,2,3,0,4,5,6] (by decide) rfl)
   have hs:=hs.perm (List.Perm.cons _ (List.Perm.cons _ (List.Perm.cons _ (List.perm_append_comm_assoc [Go.Lx.box b23 130 ([Value.bool rv32.1.nullable,v151,v152]),Go.Lx.box b22 53 (([Value.int .i64 e6.Kind])++((e6.Set.1.map (Value.int .u64))++([v147]))),Go.Lx.box b5 130 ([Value.bool xv40,v118,v119]),Go.Lx.box b4 130 ([Value.bool false,Value.slice none 0 0,Value.slice none 0 0])] G19 Lt))))
   obtain ⟨rv33,hrv33,hM⟩:=bindS hM
   refine C [Value.pointer (some ⟨b2,0,none⟩),v119,v151] cf86 rfl (nfa_builder_link_ok hrv33 hs hRv119 hRv151 hrelxs57 hGG19) rfl ?_
   rintro v153 wv118 ⟨gg69,v154,xs59,v155,xs60,G20,hvv153,hlegg69,hrelxs59,hGG20,hs⟩
   replace hRv118:=hRv118.mono hlegg69
   replace hRv119:=hRv119.mono hlegg69
   replace hRv151:=hRv151.mono hlegg69
   replace hRv152:=hRv152.mono hlegg69
   replace hlegg54:=hlegg54.trans hlegg69
   have hs:=hs.perm (List.Perm.cons _ (List.Perm.cons _ (List.Perm.cons _ (List.perm_append_comm_assoc G20 [Go.Lx.box b23 130 ([Value.bool rv32.1.nullable,v151,v152]),Go.Lx.box b22 53 (([Value.int .i64 e6.Kind])++((e6.Set.1.map (Value.int .u64))++([v147]))),Go.Lx.box b5 130 ([Value.bool xv40,v118,v119]),Go.Lx.box b4 130 ([Value.bool false,Value.slice none 0 0,Value.slice none 0 0])] Lt))))
   refine OW_nil ?_
   obtain ⟨xv52,hx12,hKhx12⟩:=bindS hM
   refine WP_cut (fun E w=>∃(gg72:Hp) (v159:Value),E 0=Value.pointer (some ⟨b2,0,none⟩)∧E 4=Value.pointer (some ⟨b4,0,none⟩)∧E 5=Value.pointer (some ⟨b5,0,none⟩)∧E 8=Value.pointer (some ⟨b23,0,none⟩)∧E 11=v3∧E 12=Value.int .i64 (rv1.Kids.length:Int)∧E 13=Value.int .i64 xv43∧E.ds=[]∧Hle gg69 gg72∧RdS (tInt .i64) gg72 v159 xv52∧Go.Lx.Sep g0 w0 gg72 w (Go.Lx.box b2 128 ([v154,v155])::.row v154 50 (tVec 4 .u64).sz rv33.sets.length xs59::.row v155 125 1 rv33.behind.length xs60::Go.Lx.box b23 130 ([Value.bool rv32.1.nullable,v151,v152])::Go.Lx.box b5 130 ([Value.bool xv40,v159,v119])::Go.Lx.box b4 130 ([Value.bool false,Value.slice none 0 0,Value.slice none 0 0])::(G20++Lt))) ?_ ?_
   ·have hM:=hx12
    have hagg69:=Hle.refl gg69
    refine WP_seq<|WP_region<|O (r_fieldAddr Tryz.underlying130 ti4 rfl rfl (by decide) rfl rfl) rfl<|O (r_load (v:=Value.bool xv40) ti4 rfl (hs.cell (i:=5) (o:=0) rfl rfl)) rfl<|OW_nil ?_
    rcases condS hM with ⟨hc24,hM⟩|⟨hc24,hM⟩
    ·refine WP_true rfl hc24<|WP_region<|O (r_fieldAddr Tryz.underlying130 ti34 rfl rfl (by decide) rfl rfl) rfl<|O (r_load (v:=v118) ti34 rfl (hs.cell (i:=5) (o:=1) rfl rfl)) rfl<|O (r_fieldAddr Tryz.underlying130 ti34 rfl rfl (by decide) rfl rfl) rfl<|O (r_load (v:=v151) ti34 rfl (hs.cell (i:=3) (o:=1) rfl rfl)) rfl<|OW_lit (τ:=(tSl (tInt .i64))) [v118,v151] [xv41,rv32.1.first] Tryz.underlying35 ti34 (by decide) hs rfl rfl rfl ⟨⟨v118,cells_one (by obtain ⟨_,_,h9⟩:=hRv118.shape; rw [h9]; rfl),hRv118⟩,⟨v151,cells_one (by obtain ⟨_,_,h9⟩:=hRv151.shape; rw [h9]; rfl),hRv151⟩,trivial⟩ rfl ?_
     intro v160 wv122 xs62 hrelxs62 hs
     obtain ⟨gg73,hlegg73,hRgg73,hs⟩:=hs.relRow (i:=0) rfl hrelxs62
     replace hagg69:=hagg69.trans hlegg73
     obtain ⟨rv35,hrv35,hM⟩:=bindS hM
     refine C [v160] cf125 rfl (slices_Concat_int_int_ok hrv35 hs.imm hRgg73) rfl ?_
     rintro v161 wv123 ⟨gg74,hvv161,hegg74⟩
     have hlegg74:=hegg74.le hs.imm
     replace hs:=hs.call hegg74
     replace hagg69:=hagg69.trans hlegg74
     obtain ⟨cs74,rfl,hcs74⟩:=hvv161
     obtain ⟨v162,rfl,hRv162⟩:=hcs74
     refine O (r_fieldAddr Tryz.underlying130 ti34 rfl rfl (by decide) rfl rfl) rfl<|OW_store1 ti34 hs (i:=5) rfl rfl (v:=v162) rfl (by obtain ⟨_,_,h9⟩:=hRv162.shape; rw [h9]; rfl) (o:=1) (by simp) ?_
     intro wv124 hs
     refine OW_nil ?_
     obtain rfl:=Option.some.inj hM
     exact ⟨gg74,v162,rfl,rfl,rfl,rfl,rfl,rfl,rfl,hds,hagg69,hRv162,(Sep.selT (A:=[Go.Lx.box b2 128 ([v154,v155]),.row v154 50 (tVec 4 .u64).sz rv33.sets.length xs59,.row v155 125 1 rv33.behind.length xs60,Go.Lx.box b23 130 ([Value.bool rv32.1.nullable,v151,v152]),Go.Lx.box b22 53 (([Value.int .i64 e6.Kind])++((e6.Set.1.map (Value.int .u64))++([v147]))),Go.Lx.box b5 130 ([Value.bool xv40,v162,v119]),Go.Lx.box b4 130 ([Value.bool false,Value.slice none 0 0,Value.slice none 0 0])]) (A':=[Go.Lx.box b2 128 ([v154,v155]),.row v154 50 (tVec 4 .u64).sz rv33.sets.length xs59,.row v155 125 1 rv33.behind.length xs60,Go.Lx.box b23 130 ([Value.bool rv32.1.nullable,v151,v152]),Go.Lx.box b5 130 ([Value.bool xv40,v162,v119]),Go.Lx.box b4 130 ([Value.bool false,Value.slice none 0 0,Value.slice none 0 0])]) (L:=(G20++Lt)) hs [0,1,2,3,5,6] (by decide) rfl)⟩
    ·refine WP_false rfl hc24<|WP_skip ?_
     obtain rfl:=Option.some.inj hM
     exact ⟨gg69,v118,rfl,rfl,rfl,rfl,rfl,rfl,rfl,hds,(Hle.refl _),hRv118,(Sep.selT (A:=[Go.Lx.box b2 128 ([v154,v155]),.row v154 50 (tVec 4 .u64).sz rv33.sets.length xs59,.row v155 125 1 rv33.behind.length xs60,Go.Lx.box b23 130 ([Value.bool rv32.1.nullable,v151,v152]),Go.Lx.box b22 53 (([Value.int .i64 e6.Kind])++((e6.Set.1.map (Value.int .u64))++([v147]))),Go.Lx.box b5 130 ([Value.bool xv40,v118,v119]),Go.Lx.box b4 130 ([Value.bool false,Value.slice none 0 0,Value.slice none 0 0])]) (A':=[Go.Lx.box b2 128 ([v154,v155]),.row v154 50 (tVec 4 .u64).sz rv33.sets.length xs59,.row v155 125 1 rv33.behind.length xs60,Go.Lx.box b23 130 ([Value.bool rv32.1.nullable,v151,v152]),Go.Lx.box b5 130 ([Value.bool xv40,v118,v119]),Go.Lx.box b4 130 ([Value.bool false,Value.slice none 0 0,Value.slice none 0 0])]) (L:=(G20++Lt)) hs [0,1,2,3,5,6] (by decide) rfl)⟩
   ·clear hs
    rintro E w ⟨gg72,v159,hE0,hE4,hE5,hE8,hE11,hE12,hE13,hds,hlegg72,hRv159,hs⟩
    have hM:=hKhx12
    obtain ⟨E,rfl⟩:=open7 (E:=E) hE0 hE4 hE5 hE8 hE11 hE12 hE13
    replace hRv119:=hRv119.mono hlegg72
    replace hRv152:=hRv152.mono hlegg72
    replace hGG20:=hGG20.mono hlegg72
    replace hrelxs59:=hrelxs59.mono hlegg72
    replace hlegg54:=hlegg54.trans hlegg72
    obtain ⟨xv53,hx13,hKhx13⟩:=bindS hM
    refine WP_cut (fun E w=>∃(gg77:Hp) (v166:Value),E 0=Value.pointer (some ⟨b2,0,none⟩)∧E 4=Value.pointer (some ⟨b4,0,none⟩)∧E 5=Value.pointer (some ⟨b5,0,none⟩)∧E 8=Value.pointer (some ⟨b23,0,none⟩)∧E 11=v3∧E 12=Value.int .i64 (rv1.Kids.length:Int)∧E 13=Value.int .i64 xv43∧E.ds=[]∧Hle gg72 gg77∧RdS (tInt .i64) gg77 v166 xv53∧Go.Lx.Sep g0 w0 gg77 w (Go.Lx.box b2 128 ([v154,v155])::.row v154 50 (tVec 4 .u64).sz rv33.sets.length xs59::.row v155 125 1 rv33.behind.length xs60::Go.Lx.box b23 130 ([Value.bool rv32.1.nullable,v151,v152])::Go.Lx.box b5 130 ([Value.bool xv40,v159,v166])::Go.Lx.box b4 130 ([Value.bool false,Value.slice none 0 0,Value.slice none 0 0])::(G20++Lt))) ?_ ?_
    ·have hM:=hx13
     have hagg72:=Hle.refl gg72
     refine WP_seq<|WP_region<|O (r_fieldAddr Tryz.underlying130 ti4 rfl rfl (by decide) rfl rfl) rfl<|O (r_load (v:=Value.bool rv32.1.nullable) ti4 rfl (hs.cell (i:=3) (o:=0) rfl rfl)) rfl<|OW_nil ?_
     rcases condS hM with ⟨hc26,hM⟩|⟨hc26,hM⟩
     ·refine WP_true rfl hc26<|WP_region<|O (r_fieldAddr Tryz.underlying130 ti34 rfl rfl (by decide) rfl rfl) rfl<|O (r_load (v:=v119) ti34 rfl (hs.cell (i:=4) (o:=2) rfl rfl)) rfl<|O (r_fieldAddr Tryz.underlying130 ti34 rfl rfl (by decide) rfl rfl) rfl<|O (r_load (v:=v152) ti34 rfl (hs.cell (i:=3) (o:=2) rfl rfl)) rfl<|OW_lit (τ:=(tSl (tInt .i64))) [v119,v152] [xv42,rv32.1.last] Tryz.underlying35 ti34 (by decide) hs rfl rfl rfl ⟨⟨v119,cells_one (by obtain ⟨_,_,h9⟩:=hRv119.shape; rw [h9]; rfl),hRv119⟩,⟨v152,cells_one (by obtain ⟨_,_,h9⟩:=hRv152.shape; rw [h9]; rfl),hRv152⟩,trivial⟩ rfl ?_
      intro v167 wv129 xs64 hrelxs64 hs
      obtain ⟨gg78,hlegg78,hRgg78,hs⟩:=hs.relRow (i:=0) rfl hrelxs64
      replace hagg72:=hagg72.trans hlegg78
      obtain ⟨rv37,hrv37,hM⟩:=bindS hM
      refine C [v167] cf125 rfl (slices_Concat_int_int_ok hrv37 hs.imm hRgg78) rfl ?_
      rintro v168 wv130 ⟨gg79,hvv168,hegg79⟩
      have hlegg79:=hegg79.le hs.imm
      replace hs:=hs.call hegg79
      replace hagg72:=hagg72.trans hlegg79
      obtain ⟨cs76,rfl,hcs76⟩:=hvv168
      obtain ⟨v169,rfl,hRv169⟩:=hcs76
      refine O (r_fieldAddr Tryz.underlying130 ti34 rfl rfl (by decide) rfl rfl) rfl<|OW_store1 ti34 hs (i:=4) rfl rfl (v:=v169) rfl (by obtain ⟨_,_,h9⟩:=hRv169.shape; rw [h9]; rfl) (o:=2) (by simp) ?_
      intro wv131 hs
      refine OW_nil ?_
      obtain rfl:=Option.some.inj hM
      exact ⟨gg79,v169,rfl,rfl,rfl,rfl,rfl,rfl,rfl,hds,hagg72,hRv169,hs⟩
     ·refine WP_false rfl hc26<|WP_region<|O (r_fieldAddr Tryz.underlying130 ti34 rfl rfl (by decide) rfl rfl) rfl<|O (r_load (v:=v152) ti34 rfl (hs.cell (i:=3) (o:=2) rfl rfl)) rfl<|O (r_fieldAddr Tryz.underlying130 ti34 rfl rfl (by decide) rfl rfl) rfl<|OW_store1 ti34 hs (i:=4) rfl rfl (v:=v152) rfl (by obtain ⟨_,_,h9⟩:=hRv152.shape; rw [h9]; rfl) (o:=2) (by simp) ?_
      intro wv132 hs
      refine OW_nil ?_
      obtain rfl:=Option.some.inj hM
      exact ⟨gg72,v152,rfl,rfl,rfl,rfl,rfl,rfl,rfl,hds,(Hle.refl _),hRv152,hs⟩
    ·clear hs
     rintro E w ⟨gg77,v166,hE0,hE4,hE5,hE8,hE11,hE12,hE13,hds,hlegg77,hRv166,hs⟩
     have hM:=hKhx13
     obtain ⟨E,rfl⟩:=open7 (E:=E) hE0 hE4 hE5 hE8 hE11 hE12 hE13
     replace hRv159:=hRv159.mono hlegg77
     replace hGG20:=hGG20.mono hlegg77
     replace hrelxs59:=hrelxs59.mono hlegg77
     replace hlegg54:=hlegg54.trans hlegg77
     refine WP_region<|O (r_fieldAddr Tryz.underlying130 ti4 rfl rfl (by decide) rfl rfl) rfl<|O (r_load (v:=Value.bool xv40) ti4 rfl (hs.cell (i:=4) (o:=0) rfl rfl)) rfl<|O (r_move (v:=Value.bool xv40) rfl) rfl ?_
     rcases condS hM with ⟨hg4,hM⟩|⟨hg4,hM⟩
     ·refine OG rfl rfl rfl (by rw [hg4]; rfl) (r_fieldAddr Tryz.underlying130 ti4 rfl rfl (by decide) rfl rfl) rfl<|OG rfl rfl rfl (by rw [hg4]; rfl) (r_load (v:=Value.bool rv32.1.nullable) ti4 rfl (hs.cell (i:=3) (o:=0) rfl rfl)) rfl<|O (r_pickT (v:=Value.bool rv32.1.nullable) rfl hg4 rfl) rfl<|O (r_fieldAddr Tryz.underlying130 ti4 rfl rfl (by decide) rfl rfl) rfl<|OW_store1 ti4 hs (i:=4) rfl rfl (v:=Value.bool rv32.1.nullable) rfl rfl (o:=0) (by simp) ?_
      intro wv133 hs
      refine OW_nil<|WP_region ?_
      obtain ⟨t9,ht9,hM⟩:=bindS hM
      refine O (r_addM rfl rfl ht9) rfl<|O (r_move (v:=Value.int .i64 t9) rfl) rfl<|OW_nil ?_
      obtain rfl:=Option.some.inj hM
      exact ⟨gg77,v154,xs59,v155,xs60,G20,v159,v166,rfl,rfl,rfl,rfl,rfl,rfl,hds,hlegg54,hrelxs59,hGG20,hRv159,hRv166,(Sep.selT (A:=[Go.Lx.box b2 128 ([v154,v155]),.row v154 50 (tVec 4 .u64).sz rv33.sets.length xs59,.row v155 125 1 rv33.behind.length xs60,Go.Lx.box b23 130 ([Value.bool rv32.1.nullable,v151,v152]),Go.Lx.box b5 130 ([Value.bool rv32.1.nullable,v159,v166]),Go.Lx.box b4 130 ([Value.bool false,Value.slice none 0 0,Value.slice none 0 0])]) (A':=[Go.Lx.box b5 130 ([Value.bool rv32.1.nullable,v159,v166]),Go.Lx.box b4 130 ([Value.bool false,Value.slice none 0 0,Value.slice none 0 0]),Go.Lx.box b2 128 ([v154,v155]),.row v154 50 (tVec 4 .u64).sz rv33.sets.length xs59,.row v155 125 1 rv33.behind.length xs60]) (L:=(G20++Lt)) hs [4,5,0,1,2] (by decide) rfl)⟩
     ·refine OK rfl rfl rfl (by rw [hg4]; rfl) rfl<|OK rfl rfl rfl (by rw [hg4]; rfl) rfl<|O (r_pickF (v:=Value.bool false) rfl hg4 rfl) rfl<|O (r_fieldAddr Tryz.underlying130 ti4 rfl rfl (by decide) rfl rfl) rfl<|OW_store1 ti4 hs (i:=4) rfl rfl (v:=Value.bool false) rfl rfl (o:=0) (by simp) ?_
      intro wv134 hs
      refine OW_nil<|WP_region ?_
      obtain ⟨t10,ht10,hM⟩:=bindS hM
      refine O (r_addM rfl rfl ht10) rfl<|O (r_move (v:=Value.int .i64 t10) rfl) rfl<|OW_nil ?_
      obtain rfl:=Option.some.inj hM
      exact ⟨gg77,v154,xs59,v155,xs60,G20,v159,v166,rfl,rfl,rfl,rfl,rfl,rfl,hds,hlegg54,hrelxs59,hGG20,hRv159,hRv166,(Sep.selT (A:=[Go.Lx.box b2 128 ([v154,v155]),.row v154 50 (tVec 4 .u64).sz rv33.sets.length xs59,.row v155 125 1 rv33.behind.length xs60,Go.Lx.box b23 130 ([Value.bool rv32.1.nullable,v151,v152]),Go.Lx.box b5 130 ([Value.bool false,v159,v166]),Go.Lx.box b4 130 ([Value.bool false,Value.slice none 0 0,Value.slice none 0 0])]) (A':=[Go.Lx.box b5 130 ([Value.bool false,v159,v166]),Go.Lx.box b4 130 ([Value.bool false,Value.slice none 0 0,Value.slice none 0 0]),Go.Lx.box b2 128 ([v154,v155]),.row v154 50 (tVec 4 .u64).sz rv33.sets.length xs59,.row v155 125 1 rv33.behind.length xs60]) (L:=(G20++Lt)) hs [4,5,0,1,2] (by decide) rfl)⟩
  ·refine WP_false rfl hc22<|WP_exit ?_
   obtain rfl:=Option.some.inj hM
   refine fun hr=>?_
   have hM:=congrArg some hr
   simp only [Option.some.injEq,Prod.mk.injEq] at hM
   obtain ⟨rfl,rfl,rfl,rfl,rfl⟩:=hM
   exact ⟨gg54,v116,xs45,v117,xs46,G15,v118,v119,rfl,rfl,hds,hlegg54,hrelxs45,hGG15,hRv118,hRv119,hs⟩
 ·clear hs
  rintro E w ⟨gg40,v87,xs33,v88,xs34,G11,v85,v86,hE4,hE5,hds,hlegg40,hrelxs33,hGG11,hRv85,hRv86,hs⟩
  have hM:=hKhx7
  obtain ⟨E,rfl⟩:=open2 (E:=E) hE4 hE5
  replace hagi:=hagi.trans hlegg40
  refine WP_seq<|WP_region<|O (r_loadN (cs:=[Value.bool xv25,v85,v86]) ti130 rfl rfl (hs.cells (i:=0) rfl)) rfl<|OW_storeAll ti130 hs (i:=1) rfl rfl (v:=Value.agg (List.toArray (α:=Value) [Value.bool xv25,v85,v86])) rfl (vs:=[Value.bool xv25,v85,v86]) rfl (one_cons rfl (one_cons (by obtain ⟨_,_,h9⟩:=hRv85.shape; rw [h9]; rfl) (one_cons (by obtain ⟨_,_,h9⟩:=hRv86.shape; rw [h9]; rfl) one_nil))) rfl rfl ?_
  intro wv135 hs
  refine OW_nil<|WP_ret ?_
  obtain rfl:=Option.some.inj hM
  refine FL_nil hds ?_
  exact ⟨_,res1 Tryz.results107 (rv_cells (vs:=[Value.bool xv25,v85,v86]) ti130 rfl rfl (hs.cells (i:=1) rfl)),gg40,v87,xs33,v88,xs34,G11,⟨[Value.bool xv25,v85,v86],rfl,⟨[Value.bool xv25],[v85],[v86],rfl,rfl,⟨_,rfl,hRv85⟩,⟨_,rfl,hRv86⟩⟩⟩,hagi,hrelxs33,hGG11,(Sep.selT (A:=[Go.Lx.box b5 130 ([Value.bool xv25,v85,v86]),Go.Lx.box b4 130 ([Value.bool xv25,v85,v86]),Go.Lx.box b2 128 ([v87,v88]),.row v87 50 (tVec 4 .u64).sz xv28.length xs33,.row v88 125 1 xv29.length xs34]) (A':=[Go.Lx.box b2 128 ([v87,v88]),.row v87 50 (tVec 4 .u64).sz xv28.length xs33,.row v88 125 1 xv29.length xs34]) (L:=(G11++Lt)) hs [2,3,4] (by decide) rfl)⟩
set_option maxRecDepth 100000 in
theorem nfa_builder_union_step {fl:Nat} (ih_nfa_builder_expr:C.nfa_builder_expr fl):C.nfa_builder_union (fl+1):=by
 intro b1 rv1 r hM g0 w0 gi wi Lt b2 v1 xs1 v2 xs2 G1 hs cs1 hcs1 hrelxs1 hGG1
 unfold M.nfa_builder_union at hM
 obtain ⟨cs2,cs3,cs4,rfl,hcs2,hcs3,hcs4⟩:=tT_Regex_iff.1 hcs1
 have hcs2:cs2=_:=hcs2; subst hcs2
 have hcs3:cs3=_:=hcs3; subst hcs3
 obtain ⟨v3,rfl,hRv3⟩:=hcs4
 have hagi:=Hle.refl gi
 refine calls_of_WP (args:=[Value.pointer (some ⟨b2,0,none⟩),Value.agg (List.toArray (α:=Value) (([Value.int .i64 rv1.Kind])++((rv1.Set.1.map (Value.int .u64))++([v3]))))]) Tryz.func108 rfl Tryz.ntmps108 rfl ?_
 have hds:(argEnv [Value.pointer (some ⟨b2,0,none⟩),Value.agg (List.toArray (α:=Value) (([Value.int .i64 rv1.Kind])++((rv1.Set.1.map (Value.int .u64))++([v3]))))]).ds=[]:=rfl
 refine WP_seq<|WP_region<|OW_box (v:=Value.agg (List.toArray (α:=Value) (([Value.int .i64 rv1.Kind])++((rv1.Set.1.map (Value.int .u64))++([v3]))))) rfl hs (zs:=([Value.int .i64 rv1.Kind])++((rv1.Set.1.map (Value.int .u64))++([v3]))) rfl rfl ?_
 intro b3 wv1 hs
 refine OW_alloc ti130 hs (zs:=[Value.bool false,Value.slice none 0 0,Value.slice none 0 0]) rfl rfl ?_
 intro b4 wv2 hs
 refine OW_nil<|WP_seq<|WP_region<|OW_alloc ti130 hs (zs:=[Value.bool false,Value.slice none 0 0,Value.slice none 0 0]) rfl rfl ?_
 intro b5 wv3 hs
 refine OW_nil ?_
 obtain ⟨⟨xv19,xv20,xv21,xv22,xv23⟩,hx1,hKhx1⟩:=bindS hM
 refine WP_cut (fun E w=>∃(gg47:Hp) (v96:Value) (xs35:List Value) (v97:Value) (xs36:List Value) (G8:List Res) (v94:Value) (v95:Value),E 4=Value.pointer (some ⟨b4,0,none⟩)∧E 5=Value.pointer (some ⟨b5,0,none⟩)∧E.ds=[]∧Hle gi gg47∧RowRel (tVec 4 .u64) gg47 xs35 xv22∧GRel (iMap (Value.int .i64) Value.bool) gg47 xs36 xv23 G8∧RdS (tInt .i64) gg47 v94 xv20∧RdS (tInt .i64) gg47 v95 xv21∧Go.Lx.Sep g0 w0 gg47 w (Go.Lx.box b5 130 ([Value.bool xv19,v94,v95])::Go.Lx.box b4 130 ([Value.bool false,Value.slice none 0 0,Value.slice none 0 0])::Go.Lx.box b2 128 ([v96,v97])::.row v96 50 (tVec 4 .u64).sz xv22.length xs35::.row v97 125 1 xv23.length xs36::(G8++Lt))) ?_ ?_
 ·have hM:=hx1
  refine WP_seq<|WP_region<|O (r_fieldAddr Tryz.underlying53 ti51 rfl rfl (by decide) rfl rfl) rfl<|O (r_load (v:=v3) ti51 rfl (hs.cell (i:=2) (o:=5) rfl (by simp [rv1.Set.2]))) rfl ?_
  obtain ⟨a2,ca2,hva2⟩:=hRv3.shape
  refine O (r_lenSl (v:=v3) Tryz.underlying51 rfl hva2) rfl<|O (r_move (v:=Value.int .i64 0) rfl) rfl<|OW_nil<|WP_block<|WP_loop (fun (st9:(List (Vec 4))×(List (List (Int×Bool)))×Bool×(List Int)×(List Int)×Int) E w=>match st9 with|(xv30,xv31,xv32,xv33,xv34,xv35)=>∃(gg58:Hp) (v120:Value) (xs45:List Value) (v121:Value) (xs46:List Value) (G11:List Res) (v122:Value) (v123:Value),E 0=Value.pointer (some ⟨b2,0,none⟩)∧E 4=Value.pointer (some ⟨b4,0,none⟩)∧E 5=Value.pointer (some ⟨b5,0,none⟩)∧E 10=v3∧E 11=Value.int .i64 (rv1.Kids.length:Int)∧E 12=Value.int .i64 xv35∧E.ds=[]∧Hle gi gg58∧RowRel (tVec 4 .u64) gg58 xs45 xv30∧GRel (iMap (Value.int .i64) Value.bool) gg58 xs46 xv31 G11∧RdS (tInt .i64) gg58 v122 xv33∧RdS (tInt .i64) gg58 v123 xv34∧Go.Lx.Sep g0 w0 gg58 w (Go.Lx.box b5 130 ([Value.bool xv32,v122,v123])::Go.Lx.box b4 130 ([Value.bool false,Value.slice none 0 0,Value.slice none 0 0])::Go.Lx.box b2 128 ([v120,v121])::.row v120 50 (tVec 4 .u64).sz xv30.length xs45::.row v121 125 1 xv31.length xs46::(G11++Lt))) hM ⟨gi,v1,xs1,v2,xs2,G1,Value.slice none 0 0,Value.slice none 0 0,rfl,rfl,rfl,rfl,rfl,rfl,hds,(Hle.refl _),hrelxs1,hGG1,RdS.nil,RdS.nil,(Sep.selT (A:=[Go.Lx.box b5 130 ([Value.bool false,Value.slice none 0 0,Value.slice none 0 0]),Go.Lx.box b4 130 ([Value.bool false,Value.slice none 0 0,Value.slice none 0 0]),Go.Lx.box b3 53 (([Value.int .i64 rv1.Kind])++((rv1.Set.1.map (Value.int .u64))++([v3]))),Go.Lx.box b2 128 ([v1,v2]),.row v1 50 (tVec 4 .u64).sz b1.sets.length xs1,.row v2 125 1 b1.behind.length xs2]) (A':=[Go.Lx.box b5 130 ([Value.bool false,Value.slice none 0 0,Value.slice none 0 0]),Go.Lx.box b4 130 ([Value.bool false,Value.slice none 0 0,Value.slice none 0 0]),Go.Lx.box b2 128 ([v1,v2]),.row v1 50 (tVec 4 .u64).sz b1.sets.length xs1,.row v2 125 1 b1.behind.length xs2]) (L:=(G1++Lt)) hs [0,1,3,4,5] (by decide) rfl)⟩ ?_
  clear hs hM
  rintro ⟨xv30,xv31,xv32,xv33,xv34,xv35⟩ o2 E w hM ⟨gg58,v120,xs45,v121,xs46,G11,v122,v123,hE0,hE4,hE5,hE10,hE11,hE12,hds,hlegg58,hrelxs45,hGG11,hRv122,hRv123,hs⟩
  obtain ⟨E,rfl⟩:=open6 (E:=E) hE0 hE4 hE5 hE10 hE11 hE12
  replace hRv3:=hRv3.mono hlegg58
  have hagg58:=Hle.refl gg58
  refine WP_seq<|WP_region<|O (r_lss rfl rfl) rfl<|OW_nil<|WP_seq ?_
  rcases condS hM with ⟨hc6,hM⟩|⟨hc6,hM⟩
  ·refine WP_true rfl hc6<|WP_skip<|WP_seq<|WP_block<|WP_seq<|WP_region ?_
   obtain ⟨e6,he6,hM⟩:=bindS hM
   obtain ⟨b21,ob21,cb21,hvb21,cs77,hcs77,hcb21⟩:=hRv3.at he6
   obtain ⟨cs78,cs79,cs80,rfl,hcs78,hcs79,hcs80⟩:=tT_Regex_iff.1 hcs77
   have hcs78:cs78=_:=hcs78; subst hcs78
   have hcs79:cs79=_:=hcs79; subst hcs79
   obtain ⟨v158,rfl,hRv158⟩:=hcs80
   refine O (r_idxSl Tryz.underlying51 ti53 (v:=v3) rfl hvb21 rfl (idxL_some he6).1 (idxL_some he6).2.1) rfl<|O (r_loadEl (cs:=([Value.int .i64 e6.Kind])++((e6.Set.1.map (Value.int .u64))++([v158]))) ti53 rfl (by simp [e6.Set.2]) (.inl rfl) (hcb21 _ hs.imm) (v:=Value.agg (List.toArray (α:=Value) (([Value.int .i64 e6.Kind])++((e6.Set.1.map (Value.int .u64))++([v158]))))) rfl) rfl<|OW_alloc ti53 hs (zs:=([Value.int .i64 0])++(((Vec.zero 4).1.map (Value.int .u64))++([Value.slice none 0 0]))) rfl rfl ?_
   intro b22 wv109 hs
   refine OW_storeAll ti53 hs (i:=0) rfl rfl (v:=Value.agg (List.toArray (α:=Value) (([Value.int .i64 e6.Kind])++((e6.Set.1.map (Value.int .u64))++([v158]))))) rfl (vs:=([Value.int .i64 e6.Kind])++((e6.Set.1.map (Value.int .u64))++([v158]))) rfl (one_append (one_cons rfl one_nil) (one_append vec_one (one_cons (by obtain ⟨_,_,h9⟩:=hRv158.shape; rw [h9]; rfl) one_nil))) (by simp [e6.Set.2]) (by simp [e6.Set.2,(Vec.zero 4).2]) ?_
   intro wv110 hs
   refine OW_nil<|WP_seq<|WP_region<|O (r_move (v:=Value.pointer (some ⟨b2,0,none⟩)) rfl) rfl<|O (r_loadN (cs:=([Value.int .i64 e6.Kind])++((e6.Set.1.map (Value.int .u64))++([v158]))) ti53 rfl (by simp [e6.Set.2]) (hs.cells (i:=0) rfl)) rfl ?_
   have hs:Go.Lx.Sep g0 w0 gg58 _ (Go.Lx.box b2 128 ([v120,v121])::.row v120 50 (tVec 4 .u64).sz xv30.length xs45::.row v121 125 1 xv31.length xs46::Go.Lx.box b22 53 (([Value.int .i64 e6.Kind])++((e6.Set.1.map (Value.int .u64))++([v158])))::Go.Lx.box b5 130 ([Value.bool xv32,v122,v123])::Go.Lx.box b4 130 ([Value.bool false,Value.slice none 0 0,Value.slice none 0 0])::(G11++Lt)):=(Sep.selT (A:=[Go.Lx.box b22 53 (([Value.int .i64 e6.Kind])++((e6.Set.1.map (Value.int .u64))++([v158]))),Go.Lx.box b5 130 ([Value.bool xv32,v122,v123]),Go.Lx.box b4 130 ([Value.bool false,Value.slice none 0 0,Value.slice none 0 0]),Go.Lx.box b2 128 ([v120,v121]),.row v120 50 (tVec 4 .u64).sz xv30.length xs45,.row v121 125 1 xv31.length xs46]) (A':=[Go.Lx.box b2 128 ([v120,v121]),.row v120 50 (tVec 4 .u64).sz xv30.length xs45,.row v121 125 1 xv31.length xs46,Go.Lx.box b22 53 (([Value.int .i64 e6.Kind])++((e6.Set.1.map (Value.int .u64))++([v158]))),Go.Lx.box b5 130 ([Value.bool xv32,v122,v123]),Go.Lx.box b4 130 ([Value.bool false,Value.slice none 0 0,Value.slice none 0 0])]) (L:=(G11++Lt)) hs [3,4,5,0,1,2] (by decide) rfl)
   have hs:=hs.perm (List.Perm.cons _ (List.Perm.cons _ (List.Perm.cons _ (List.perm_append_comm_assoc [Go.Lx.box b22 53 (([Value.int .i64 e6.Kind])++((e6.Set.1.map (Value.int .u64))++([v158]))),Go.Lx.box b5 130 ([Value.bool xv32,v122,v123]),Go.Lx.box b4 130 ([Value.bool false,Value.slice none 0 0,Value.slice none 0 0])] G11 Lt))))
   obtain ⟨rv23,hrv23,hM⟩:=bindS hM
   refine C [Value.pointer (some ⟨b2,0,none⟩),Value.agg (List.toArray (α:=Value) (([Value.int .i64 e6.Kind])++((e6.Set.1.map (Value.int .u64))++([v158]))))] cf85 rfl (ih_nfa_builder_expr hrv23 hs (tT_Regex_iff.2 ⟨[Value.int .i64 e6.Kind],e6.Set.1.map (Value.int .u64),[v158],rfl,rfl,rfl,⟨_,rfl,hRv158⟩⟩) hrelxs45 hGG11) rfl ?_
   rintro v159 wv111 ⟨gg77,v160,xs59,v161,xs60,G14,hvv159,hlegg77,hrelxs59,hGG14,hs⟩
   replace hRv122:=hRv122.mono hlegg77
   replace hRv123:=hRv123.mono hlegg77
   replace hlegg58:=hlegg58.trans hlegg77
   have hs:=hs.perm (List.Perm.cons _ (List.Perm.cons _ (List.Perm.cons _ (List.perm_append_comm_assoc G14 [Go.Lx.box b22 53 (([Value.int .i64 e6.Kind])++((e6.Set.1.map (Value.int .u64))++([v158]))),Go.Lx.box b5 130 ([Value.bool xv32,v122,v123]),Go.Lx.box b4 130 ([Value.bool false,Value.slice none 0 0,Value.slice none 0 0])] Lt))))
   obtain ⟨cs81,rfl,hcs81⟩:=hvv159
   obtain ⟨cs82,cs83,cs84,rfl,hcs82,hcs83,hcs84⟩:=hcs81
   have hcs82:cs82=_:=hcs82; subst hcs82
   obtain ⟨v162,rfl,hRv162⟩:=hcs83
   obtain ⟨v163,rfl,hRv163⟩:=hcs84
   refine OW_alloc ti130 hs (zs:=[Value.bool false,Value.slice none 0 0,Value.slice none 0 0]) rfl rfl ?_
   intro b23 wv112 hs
   refine OW_storeAll ti130 hs (i:=0) rfl rfl (v:=Value.agg (List.toArray (α:=Value) [Value.bool rv23.1.nullable,v162,v163])) rfl (vs:=[Value.bool rv23.1.nullable,v162,v163]) rfl (one_cons rfl (one_cons (by obtain ⟨_,_,h9⟩:=hRv162.shape; rw [h9]; rfl) (one_cons (by obtain ⟨_,_,h9⟩:=hRv163.shape; rw [h9]; rfl) one_nil))) rfl rfl ?_
   intro wv113 hs
   refine OW_nil ?_
   rcases condS hM with ⟨hg4,hM⟩|⟨hg4,hM⟩
   ·obtain ⟨rv24,hrv24,hM⟩:=bindS hM
    obtain ⟨rv25,hrv25,hM⟩:=bindS hM
    refine WP_any (.q 0 (.q 1 (.q 2 (.q 3 (.q 4 (.q 5 (.q 6 (.q 7 (.q 8 (.q 9 (.q 12 (.q 13 (.q 14 (.q 15 (.c 10 (.c 11 (.s 16 (.s 17 (.q 18 (.s 19 (.leaf))))) (.c 16 (.s 11 (.s 17 (.q 18 (.s 19 (.leaf))))) (.n))) (.c 16 (.s 10 (.s 11 (.s 17 (.q 18 (.s 19 (.leaf)))))) (.n))))))))))))))))) (SS g0 w0 gg77 (Go.Lx.box b23 130 ([Value.bool rv23.1.nullable,v162,v163])::Go.Lx.box b2 128 ([v160,v161])::.row v160 50 (tVec 4 .u64).sz rv23.2.sets.length xs59::.row v161 125 1 rv23.2.behind.length xs60::Go.Lx.box b22 53 (([Value.int .i64 e6.Kind])++((e6.Set.1.map (Value.int .u64))++([v158])))::Go.Lx.box b5 130 ([Value.bool xv32,v122,v123])::Go.Lx.box b4 130 ([Value.bool false,Value.slice none 0 0,Value.slice none 0 0])::(G14++Lt))) mo (by decide +kernel) ?_
    have hs:=hs.drew
    have hagg77:=Hle.refl gg77
    have hS:SS g0 w0 gg77 (Go.Lx.box b23 130 ([Value.bool rv23.1.nullable,v162,v163])::Go.Lx.box b2 128 ([v160,v161])::.row v160 50 (tVec 4 .u64).sz rv23.2.sets.length xs59::.row v161 125 1 rv23.2.behind.length xs60::Go.Lx.box b22 53 (([Value.int .i64 e6.Kind])++((e6.Set.1.map (Value.int .u64))++([v158])))::Go.Lx.box b5 130 ([Value.bool xv32,v122,v123])::Go.Lx.box b4 130 ([Value.bool false,Value.slice none 0 0,Value.slice none 0 0])::(G14++Lt)) _:=⟨gg77,Hle.refl _,hs⟩
    refine A rfl hS (fun w9 ⟨g9,hle9,hs⟩=>r_fieldAddr Tryz.underlying130 ti4 rfl rfl (by decide) rfl rfl) rfl<|A rfl hS (fun w9 ⟨g9,hle9,hs⟩=>r_load (v:=Value.bool xv32) ti4 rfl (hs.cell (i:=5) (o:=0) rfl rfl)) rfl<|A rfl hS (fun w9 ⟨g9,hle9,hs⟩=>r_move (v:=Value.bool xv32) rfl) rfl<|AK rfl rfl rfl rfl (by rw [hg4]; rfl) hS rfl<|AK rfl rfl rfl rfl (by rw [hg4]; rfl) hS rfl<|A rfl hS (fun w9 ⟨g9,hle9,hs⟩=>r_pickT (v:=Value.bool true) rfl hg4 rfl) rfl<|A rfl hS (fun w9 ⟨g9,hle9,hs⟩=>r_fieldAddr Tryz.underlying130 ti34 rfl rfl (by decide) rfl rfl) rfl<|A rfl hS (fun w9 ⟨g9,hle9,hs⟩=>r_load (v:=v122) ti34 rfl (hs.cell (i:=5) (o:=1) rfl rfl)) rfl ?_
    refine A rfl hS (fun w9 ⟨g9,hle9,hs⟩=>r_fieldAddr Tryz.underlying130 ti34 rfl rfl (by decide) rfl rfl) rfl<|A rfl hS (fun w9 ⟨g9,hle9,hs⟩=>r_load (v:=v162) ti34 rfl (hs.cell (i:=0) (o:=1) rfl rfl)) rfl<|A rfl hS (fun w9 ⟨g9,hle9,hs⟩=>r_fieldAddr Tryz.underlying130 ti34 rfl rfl (by decide) rfl rfl) rfl<|A rfl hS (fun w9 ⟨g9,hle9,hs⟩=>r_load (v:=v123) ti34 rfl (hs.cell (i:=5) (o:=2) rfl rfl)) rfl<|A rfl hS (fun w9 ⟨g9,hle9,hs⟩=>r_fieldAddr Tryz.underlying130 ti34 rfl rfl (by decide) rfl rfl) rfl<|A rfl hS (fun w9 ⟨g9,hle9,hs⟩=>r_load (v:=v163) ti34 rfl (hs.cell (i:=0) (o:=2) rfl rfl)) rfl<|A2 rfl ?_ ?_
    ·refine OW_lit (τ:=(tSl (tInt .i64))) [v122,v162] [xv33,rv23.1.first] Tryz.underlying35 ti34 (by decide) hs rfl rfl rfl ⟨⟨v122,cells_one (by obtain ⟨_,_,h9⟩:=hRv122.shape; rw [h9]; rfl),hRv122⟩,⟨v162,cells_one (by obtain ⟨_,_,h9⟩:=hRv162.shape; rw [h9]; rfl),hRv162⟩,trivial⟩ rfl ?_
     intro v170 wv119 xs63 hrelxs63 hs
     refine OW_nil ?_
     replace hS:=hS.to (Hle.refl _) (Sep.selT (A:=[.row v170 34 (tSl (tInt .i64)).sz [xv33,rv23.1.first].length xs63,Go.Lx.box b23 130 ([Value.bool rv23.1.nullable,v162,v163]),Go.Lx.box b2 128 ([v160,v161]),.row v160 50 (tVec 4 .u64).sz rv23.2.sets.length xs59,.row v161 125 1 rv23.2.behind.length xs60,Go.Lx.box b22 53 (([Value.int .i64 e6.Kind])++((e6.Set.1.map (Value.int .u64))++([v158]))),Go.Lx.box b5 130 ([Value.bool xv32,v122,v123]),Go.Lx.box b4 130 ([Value.bool false,Value.slice none 0 0,Value.slice none 0 0])]) (A':=[Go.Lx.box b23 130 ([Value.bool rv23.1.nullable,v162,v163]),Go.Lx.box b2 128 ([v160,v161]),.row v160 50 (tVec 4 .u64).sz rv23.2.sets.length xs59,.row v161 125 1 rv23.2.behind.length xs60,Go.Lx.box b22 53 (([Value.int .i64 e6.Kind])++((e6.Set.1.map (Value.int .u64))++([v158]))),Go.Lx.box b5 130 ([Value.bool xv32,v122,v123]),Go.Lx.box b4 130 ([Value.bool false,Value.slice none 0 0,Value.slice none 0 0])]) (L:=(G14++Lt)) hs [1,2,3,4,5,6,7] (by decide) rfl)
     refine ⟨fun _=>hS,?_⟩
     refine A2 rfl ?_ ?_
     ·obtain ⟨gg82,hlegg82,hRgg82,hs⟩:=hs.relRow (i:=0) rfl hrelxs63
      replace hRv123:=hRv123.mono hlegg82
      replace hrelxs59:=hrelxs59.mono hlegg82
      replace hGG14:=hGG14.mono hlegg82
      replace hRv163:=hRv163.mono hlegg82
      replace hlegg58:=hlegg58.trans hlegg82
      replace hagg77:=hagg77.trans hlegg82
      refine C [v170] cf125 rfl (slices_Concat_int_int_ok hrv24 hs.imm hRgg82) rfl ?_
      rintro v171 wv120 ⟨gg83,hvv171,hegg83⟩
      have hlegg83:=hegg83.le hs.imm
      replace hs:=hs.call hegg83
      replace hRv123:=hRv123.mono hlegg83
      replace hrelxs59:=hrelxs59.mono hlegg83
      replace hGG14:=hGG14.mono hlegg83
      replace hRv163:=hRv163.mono hlegg83
      replace hlegg58:=hlegg58.trans hlegg83
      replace hagg77:=hagg77.trans hlegg83
      obtain ⟨cs87,rfl,hcs87⟩:=hvv171
      obtain ⟨v172,rfl,hRv172⟩:=hcs87
      refine OW_nil ?_
      replace hS:=hS.to hagg77 hs
      refine ⟨fun _=>hS,?_⟩
      refine A1 rfl<|OW_lit (τ:=(tSl (tInt .i64))) [v123,v163] [xv34,rv23.1.last] Tryz.underlying35 ti34 (by decide) hs rfl rfl rfl ⟨⟨v123,cells_one (by obtain ⟨_,_,h9⟩:=hRv123.shape; rw [h9]; rfl),hRv123⟩,⟨v163,cells_one (by obtain ⟨_,_,h9⟩:=hRv163.shape; rw [h9]; rfl),hRv163⟩,trivial⟩ rfl ?_
      intro v173 wv121 xs64 hrelxs64 hs
      refine OW_nil ?_
      replace hS:=hS.to hagg77 (Sep.selT (A:=[.row v173 34 (tSl (tInt .i64)).sz [xv34,rv23.1.last].length xs64,Go.Lx.box b23 130 ([Value.bool rv23.1.nullable,v162,v163]),Go.Lx.box b2 128 ([v160,v161]),.row v160 50 (tVec 4 .u64).sz rv23.2.sets.length xs59,.row v161 125 1 rv23.2.behind.length xs60,Go.Lx.box b22 53 (([Value.int .i64 e6.Kind])++((e6.Set.1.map (Value.int .u64))++([v158]))),Go.Lx.box b5 130 ([Value.bool xv32,v122,v123]),Go.Lx.box b4 130 ([Value.bool false,Value.slice none 0 0,Value.slice none 0 0])]) (A':=[Go.Lx.box b23 130 ([Value.bool rv23.1.nullable,v162,v163]),Go.Lx.box b2 128 ([v160,v161]),.row v160 50 (tVec 4 .u64).sz rv23.2.sets.length xs59,.row v161 125 1 rv23.2.behind.length xs60,Go.Lx.box b22 53 (([Value.int .i64 e6.Kind])++((e6.Set.1.map (Value.int .u64))++([v158]))),Go.Lx.box b5 130 ([Value.bool xv32,v122,v123]),Go.Lx.box b4 130 ([Value.bool false,Value.slice none 0 0,Value.slice none 0 0])]) (L:=(G14++Lt)) hs [1,2,3,4,5,6,7] (by decide) rfl)
      refine ⟨fun _=>hS,?_⟩
      refine A1 rfl ?_
      obtain ⟨gg84,hlegg84,hRgg84,hs⟩:=hs.relRow (i:=0) rfl hrelxs64
      replace hrelxs59:=hrelxs59.mono hlegg84
      replace hGG14:=hGG14.mono hlegg84
      replace hRv172:=hRv172.mono hlegg84
      replace hlegg58:=hlegg58.trans hlegg84
      replace hagg77:=hagg77.trans hlegg84
      refine C [v173] cf125 rfl (slices_Concat_int_int_ok hrv25 hs.imm hRgg84) rfl ?_
      rintro v174 wv122 ⟨gg85,hvv174,hegg85⟩
      have hlegg85:=hegg85.le hs.imm
      replace hs:=hs.call hegg85
      replace hrelxs59:=hrelxs59.mono hlegg85
      replace hGG14:=hGG14.mono hlegg85
      replace hRv172:=hRv172.mono hlegg85
      replace hlegg58:=hlegg58.trans hlegg85
      replace hagg77:=hagg77.trans hlegg85
      obtain ⟨cs88,rfl,hcs88⟩:=hvv174
      obtain ⟨v175,rfl,hRv175⟩:=hcs88
      refine OW_nil ?_
      replace hS:=hS.to hagg77 hs
      refine ⟨fun _=>hS,?_⟩
      refine A rfl hS (fun w9 ⟨g9,hle9,hs⟩=>r_build (vs:=[(0,Value.bool true),(1,v172),(2,v175)]) (cs:=[Value.bool true,v172,v175]) rfl (built_fill [(0,1),(1,1),(2,1)] [Value.bool false,Value.slice none 0 0,Value.slice none 0 0] (fun _=>by kernel_rfl) (fill_step ([]) ([Value.bool false]) ([Value.slice none 0 0,Value.slice none 0 0]) ([Value.bool true]) rfl rfl rfl rfl rfl rfl<|fill_step ([Value.bool true]) ([Value.slice none 0 0]) ([Value.slice none 0 0]) ([v172]) rfl rfl (cells_one (by obtain ⟨_,_,h9⟩:=hRv172.shape; rw [h9]; rfl)) rfl rfl rfl<|fill_step ([Value.bool true,v172]) ([Value.slice none 0 0]) ([]) ([v175]) rfl rfl (cells_one (by obtain ⟨_,_,h9⟩:=hRv175.shape; rw [h9]; rfl)) rfl rfl rfl<|fill_done))) rfl ?_
      refine A1 rfl<|OW_storeAll ti130 hs (i:=5) rfl rfl (v:=Value.agg (List.toArray (α:=Value) [Value.bool true,v172,v175])) rfl (vs:=[Value.bool true,v172,v175]) rfl (one_cons rfl (one_cons (by obtain ⟨_,_,h9⟩:=hRv172.shape; rw [h9]; rfl) (one_cons (by obtain ⟨_,_,h9⟩:=hRv175.shape; rw [h9]; rfl) one_nil))) rfl rfl ?_
      intro wv123 hs
      refine OW_nil ?_
      refine ⟨fun h=>absurd h (by decide +kernel),?_⟩
      refine AN<|WP_region ?_
      obtain ⟨t9,ht9,hM⟩:=bindS hM
      refine O (r_addM rfl rfl ht9) rfl<|O (r_move (v:=Value.int .i64 t9) rfl) rfl<|OW_nil ?_
      obtain rfl:=Option.some.inj hM
      exact ⟨gg85,v160,xs59,v161,xs60,G14,v172,v175,rfl,rfl,rfl,rfl,rfl,rfl,hds,hlegg58,hrelxs59,hGG14,hRv172,hRv175,(Sep.selT (A:=[Go.Lx.box b23 130 ([Value.bool rv23.1.nullable,v162,v163]),Go.Lx.box b2 128 ([v160,v161]),.row v160 50 (tVec 4 .u64).sz rv23.2.sets.length xs59,.row v161 125 1 rv23.2.behind.length xs60,Go.Lx.box b22 53 (([Value.int .i64 e6.Kind])++((e6.Set.1.map (Value.int .u64))++([v158]))),Go.Lx.box b5 130 ([Value.bool true,v172,v175]),Go.Lx.box b4 130 ([Value.bool false,Value.slice none 0 0,Value.slice none 0 0])]) (A':=[Go.Lx.box b5 130 ([Value.bool true,v172,v175]),Go.Lx.box b4 130 ([Value.bool false,Value.slice none 0 0,Value.slice none 0 0]),Go.Lx.box b2 128 ([v160,v161]),.row v160 50 (tVec 4 .u64).sz rv23.2.sets.length xs59,.row v161 125 1 rv23.2.behind.length xs60]) (L:=(G14++Lt)) hs [5,6,1,2,3] (by decide) rfl)⟩
     refine A2 rfl ?_ ?_
     ·refine OW_lit (τ:=(tSl (tInt .i64))) [v123,v163] [xv34,rv23.1.last] Tryz.underlying35 ti34 (by decide) hs rfl rfl rfl ⟨⟨v123,cells_one (by obtain ⟨_,_,h9⟩:=hRv123.shape; rw [h9]; rfl),hRv123⟩,⟨v163,cells_one (by obtain ⟨_,_,h9⟩:=hRv163.shape; rw [h9]; rfl),hRv163⟩,trivial⟩ rfl ?_
      intro v171 wv120 xs64 hrelxs64 hs
      refine OW_nil ?_
      replace hS:=hS.to (Hle.refl _) (Sep.selT (A:=[.row v171 34 (tSl (tInt .i64)).sz [xv34,rv23.1.last].length xs64,.row v170 34 (tSl (tInt .i64)).sz [xv33,rv23.1.first].length xs63,Go.Lx.box b23 130 ([Value.bool rv23.1.nullable,v162,v163]),Go.Lx.box b2 128 ([v160,v161]),.row v160 50 (tVec 4 .u64).sz rv23.2.sets.length xs59,.row v161 125 1 rv23.2.behind.length xs60,Go.Lx.box b22 53 (([Value.int .i64 e6.Kind])++((e6.Set.1.map (Value.int .u64))++([v158]))),Go.Lx.box b5 130 ([Value.bool xv32,v122,v123]),Go.Lx.box b4 130 ([Value.bool false,Value.slice none 0 0,Value.slice none 0 0])]) (A':=[Go.Lx.box b23 130 ([Value.bool rv23.1.nullable,v162,v163]),Go.Lx.box b2 128 ([v160,v161]),.row v160 50 (tVec 4 .u64).sz rv23.2.sets.length xs59,.row v161 125 1 rv23.2.behind.length xs60,Go.Lx.box b22 53 (([Value.int .i64 e6.Kind])++((e6.Set.1.map (Value.int .u64))++([v158]))),Go.Lx.box b5 130 ([Value.bool xv32,v122,v123]),Go.Lx.box b4 130 ([Value.bool false,Value.slice none 0 0,Value.slice none 0 0])]) (L:=(G14++Lt)) hs [2,3,4,5,6,7,8] (by decide) rfl)
      refine ⟨fun _=>hS,?_⟩
      refine A1 rfl ?_
      obtain ⟨gg82,hlegg82,hRgg82,hs⟩:=hs.relRow (i:=1) rfl hrelxs63
      replace hrelxs59:=hrelxs59.mono hlegg82
      replace hGG14:=hGG14.mono hlegg82
      replace hrelxs64:=hrelxs64.mono hlegg82
      replace hlegg58:=hlegg58.trans hlegg82
      replace hagg77:=hagg77.trans hlegg82
      refine C [v170] cf125 rfl (slices_Concat_int_int_ok hrv24 hs.imm hRgg82) rfl ?_
      rintro v172 wv121 ⟨gg83,hvv172,hegg83⟩
      have hlegg83:=hegg83.le hs.imm
      replace hs:=hs.call hegg83
      replace hrelxs59:=hrelxs59.mono hlegg83
      replace hGG14:=hGG14.mono hlegg83
      replace hrelxs64:=hrelxs64.mono hlegg83
      replace hlegg58:=hlegg58.trans hlegg83
      replace hagg77:=hagg77.trans hlegg83
      obtain ⟨cs87,rfl,hcs87⟩:=hvv172
      obtain ⟨v173,rfl,hRv173⟩:=hcs87
      refine OW_nil ?_
      replace hS:=hS.to hagg77 (Sep.selT (A:=[.row v171 34 (tSl (tInt .i64)).sz [xv34,rv23.1.last].length xs64,Go.Lx.box b23 130 ([Value.bool rv23.1.nullable,v162,v163]),Go.Lx.box b2 128 ([v160,v161]),.row v160 50 (tVec 4 .u64).sz rv23.2.sets.length xs59,.row v161 125 1 rv23.2.behind.length xs60,Go.Lx.box b22 53 (([Value.int .i64 e6.Kind])++((e6.Set.1.map (Value.int .u64))++([v158]))),Go.Lx.box b5 130 ([Value.bool xv32,v122,v123]),Go.Lx.box b4 130 ([Value.bool false,Value.slice none 0 0,Value.slice none 0 0])]) (A':=[Go.Lx.box b23 130 ([Value.bool rv23.1.nullable,v162,v163]),Go.Lx.box b2 128 ([v160,v161]),.row v160 50 (tVec 4 .u64).sz rv23.2.sets.length xs59,.row v161 125 1 rv23.2.behind.length xs60,Go.Lx.box b22 53 (([Value.int .i64 e6.Kind])++((e6.Set.1.map (Value.int .u64))++([v158]))),Go.Lx.box b5 130 ([Value.bool xv32,v122,v123]),Go.Lx.box b4 130 ([Value.bool false,Value.slice none 0 0,Value.slice none 0 0])]) (L:=(G14++Lt)) hs [1,2,3,4,5,6,7] (by decide) rfl)
      refine ⟨fun _=>hS,?_⟩
      refine A1 rfl ?_
      obtain ⟨gg84,hlegg84,hRgg84,hs⟩:=hs.relRow (i:=0) rfl hrelxs64
      replace hrelxs59:=hrelxs59.mono hlegg84
      replace hGG14:=hGG14.mono hlegg84
      replace hRv173:=hRv173.mono hlegg84
      replace hlegg58:=hlegg58.trans hlegg84
      replace hagg77:=hagg77.trans hlegg84
      refine C [v171] cf125 rfl (slices_Concat_int_int_ok hrv25 hs.imm hRgg84) rfl ?_
      rintro v174 wv122 ⟨gg85,hvv174,hegg85⟩
      have hlegg85:=hegg85.le hs.imm
      replace hs:=hs.call hegg85
      replace hrelxs59:=hrelxs59.mono hlegg85
      replace hGG14:=hGG14.mono hlegg85
      replace hRv173:=hRv173.mono hlegg85
      replace hlegg58:=hlegg58.trans hlegg85
      replace hagg77:=hagg77.trans hlegg85
      obtain ⟨cs88,rfl,hcs88⟩:=hvv174
      obtain ⟨v175,rfl,hRv175⟩:=hcs88
      refine OW_nil ?_
      replace hS:=hS.to hagg77 hs
      refine ⟨fun _=>hS,?_⟩
      refine A rfl hS (fun w9 ⟨g9,hle9,hs⟩=>r_build (vs:=[(0,Value.bool true),(1,v173),(2,v175)]) (cs:=[Value.bool true,v173,v175]) rfl (built_fill [(0,1),(1,1),(2,1)] [Value.bool false,Value.slice none 0 0,Value.slice none 0 0] (fun _=>by kernel_rfl) (fill_step ([]) ([Value.bool false]) ([Value.slice none 0 0,Value.slice none 0 0]) ([Value.bool true]) rfl rfl rfl rfl rfl rfl<|fill_step ([Value.bool true]) ([Value.slice none 0 0]) ([Value.slice none 0 0]) ([v173]) rfl rfl (cells_one (by obtain ⟨_,_,h9⟩:=hRv173.shape; rw [h9]; rfl)) rfl rfl rfl<|fill_step ([Value.bool true,v173]) ([Value.slice none 0 0]) ([]) ([v175]) rfl rfl (cells_one (by obtain ⟨_,_,h9⟩:=hRv175.shape; rw [h9]; rfl)) rfl rfl rfl<|fill_done))) rfl ?_
      refine A1 rfl<|OW_storeAll ti130 hs (i:=5) rfl rfl (v:=Value.agg (List.toArray (α:=Value) [Value.bool true,v173,v175])) rfl (vs:=[Value.bool true,v173,v175]) rfl (one_cons rfl (one_cons (by obtain ⟨_,_,h9⟩:=hRv173.shape; rw [h9]; rfl) (one_cons (by obtain ⟨_,_,h9⟩:=hRv175.shape; rw [h9]; rfl) one_nil))) rfl rfl ?_
      intro wv123 hs
      refine OW_nil ?_
      refine ⟨fun h=>absurd h (by decide +kernel),?_⟩
      refine AN<|WP_region ?_
      obtain ⟨t9,ht9,hM⟩:=bindS hM
      refine O (r_addM rfl rfl ht9) rfl<|O (r_move (v:=Value.int .i64 t9) rfl) rfl<|OW_nil ?_
      obtain rfl:=Option.some.inj hM
      exact ⟨gg85,v160,xs59,v161,xs60,G14,v173,v175,rfl,rfl,rfl,rfl,rfl,rfl,hds,hlegg58,hrelxs59,hGG14,hRv173,hRv175,(Sep.selT (A:=[Go.Lx.box b23 130 ([Value.bool rv23.1.nullable,v162,v163]),Go.Lx.box b2 128 ([v160,v161]),.row v160 50 (tVec 4 .u64).sz rv23.2.sets.length xs59,.row v161 125 1 rv23.2.behind.length xs60,Go.Lx.box b22 53 (([Value.int .i64 e6.Kind])++((e6.Set.1.map (Value.int .u64))++([v158]))),Go.Lx.box b5 130 ([Value.bool true,v173,v175]),Go.Lx.box b4 130 ([Value.bool false,Value.slice none 0 0,Value.slice none 0 0])]) (A':=[Go.Lx.box b5 130 ([Value.bool true,v173,v175]),Go.Lx.box b4 130 ([Value.bool false,Value.slice none 0 0,Value.slice none 0 0]),Go.Lx.box b2 128 ([v160,v161]),.row v160 50 (tVec 4 .u64).sz rv23.2.sets.length xs59,.row v161 125 1 rv23.2.behind.length xs60]) (L:=(G14++Lt)) hs [5,6,1,2,3] (by decide) rfl)⟩
     trivial
    refine A2 rfl ?_ ?_
    ·refine OW_lit (τ:=(tSl (tInt .i64))) [v123,v163] [xv34,rv23.1.last] Tryz.underlying35 ti34 (by decide) hs rfl rfl rfl ⟨⟨v123,cells_one (by obtain ⟨_,_,h9⟩:=hRv123.shape; rw [h9]; rfl),hRv123⟩,⟨v163,cells_one (by obtain ⟨_,_,h9⟩:=hRv163.shape; rw [h9]; rfl),hRv163⟩,trivial⟩ rfl ?_
     intro v170 wv119 xs63 hrelxs63 hs
     refine OW_nil ?_
     replace hS:=hS.to (Hle.refl _) (Sep.selT (A:=[.row v170 34 (tSl (tInt .i64)).sz [xv34,rv23.1.last].length xs63,Go.Lx.box b23 130 ([Value.bool rv23.1.nullable,v162,v163]),Go.Lx.box b2 128 ([v160,v161]),.row v160 50 (tVec 4 .u64).sz rv23.2.sets.length xs59,.row v161 125 1 rv23.2.behind.length xs60,Go.Lx.box b22 53 (([Value.int .i64 e6.Kind])++((e6.Set.1.map (Value.int .u64))++([v158]))),Go.Lx.box b5 130 ([Value.bool xv32,v122,v123]),Go.Lx.box b4 130 ([Value.bool false,Value.slice none 0 0,Value.slice none 0 0])]) (A':=[Go.Lx.box b23 130 ([Value.bool rv23.1.nullable,v162,v163]),Go.Lx.box b2 128 ([v160,v161]),.row v160 50 (tVec 4 .u64).sz rv23.2.sets.length xs59,.row v161 125 1 rv23.2.behind.length xs60,Go.Lx.box b22 53 (([Value.int .i64 e6.Kind])++((e6.Set.1.map (Value.int .u64))++([v158]))),Go.Lx.box b5 130 ([Value.bool xv32,v122,v123]),Go.Lx.box b4 130 ([Value.bool false,Value.slice none 0 0,Value.slice none 0 0])]) (L:=(G14++Lt)) hs [1,2,3,4,5,6,7] (by decide) rfl)
     refine ⟨fun _=>hS,?_⟩
     refine A1 rfl<|OW_lit (τ:=(tSl (tInt .i64))) [v122,v162] [xv33,rv23.1.first] Tryz.underlying35 ti34 (by decide) hs rfl rfl rfl ⟨⟨v122,cells_one (by obtain ⟨_,_,h9⟩:=hRv122.shape; rw [h9]; rfl),hRv122⟩,⟨v162,cells_one (by obtain ⟨_,_,h9⟩:=hRv162.shape; rw [h9]; rfl),hRv162⟩,trivial⟩ rfl ?_
     intro v171 wv120 xs64 hrelxs64 hs
     refine OW_nil ?_
     replace hS:=hS.to (Hle.refl _) (Sep.selT (A:=[.row v171 34 (tSl (tInt .i64)).sz [xv33,rv23.1.first].length xs64,.row v170 34 (tSl (tInt .i64)).sz [xv34,rv23.1.last].length xs63,Go.Lx.box b23 130 ([Value.bool rv23.1.nullable,v162,v163]),Go.Lx.box b2 128 ([v160,v161]),.row v160 50 (tVec 4 .u64).sz rv23.2.sets.length xs59,.row v161 125 1 rv23.2.behind.length xs60,Go.Lx.box b22 53 (([Value.int .i64 e6.Kind])++((e6.Set.1.map (Value.int .u64))++([v158]))),Go.Lx.box b5 130 ([Value.bool xv32,v122,v123]),Go.Lx.box b4 130 ([Value.bool false,Value.slice none 0 0,Value.slice none 0 0])]) (A':=[Go.Lx.box b23 130 ([Value.bool rv23.1.nullable,v162,v163]),Go.Lx.box b2 128 ([v160,v161]),.row v160 50 (tVec 4 .u64).sz rv23.2.sets.length xs59,.row v161 125 1 rv23.2.behind.length xs60,Go.Lx.box b22 53 (([Value.int .i64 e6.Kind])++((e6.Set.1.map (Value.int .u64))++([v158]))),Go.Lx.box b5 130 ([Value.bool xv32,v122,v123]),Go.Lx.box b4 130 ([Value.bool false,Value.slice none 0 0,Value.slice none 0 0])]) (L:=(G14++Lt)) hs [2,3,4,5,6,7,8] (by decide) rfl)
     refine ⟨fun _=>hS,?_⟩
     refine A1 rfl ?_
     obtain ⟨gg82,hlegg82,hRgg82,hs⟩:=hs.relRow (i:=0) rfl hrelxs64
     replace hrelxs59:=hrelxs59.mono hlegg82
     replace hGG14:=hGG14.mono hlegg82
     replace hrelxs63:=hrelxs63.mono hlegg82
     replace hlegg58:=hlegg58.trans hlegg82
     replace hagg77:=hagg77.trans hlegg82
     refine C [v171] cf125 rfl (slices_Concat_int_int_ok hrv24 hs.imm hRgg82) rfl ?_
     rintro v172 wv121 ⟨gg83,hvv172,hegg83⟩
     have hlegg83:=hegg83.le hs.imm
     replace hs:=hs.call hegg83
     replace hrelxs59:=hrelxs59.mono hlegg83
     replace hGG14:=hGG14.mono hlegg83
     replace hrelxs63:=hrelxs63.mono hlegg83
     replace hlegg58:=hlegg58.trans hlegg83
     replace hagg77:=hagg77.trans hlegg83
     obtain ⟨cs87,rfl,hcs87⟩:=hvv172
     obtain ⟨v173,rfl,hRv173⟩:=hcs87
     refine OW_nil ?_
     replace hS:=hS.to hagg77 (Sep.selT (A:=[.row v170 34 (tSl (tInt .i64)).sz [xv34,rv23.1.last].length xs63,Go.Lx.box b23 130 ([Value.bool rv23.1.nullable,v162,v163]),Go.Lx.box b2 128 ([v160,v161]),.row v160 50 (tVec 4 .u64).sz rv23.2.sets.length xs59,.row v161 125 1 rv23.2.behind.length xs60,Go.Lx.box b22 53 (([Value.int .i64 e6.Kind])++((e6.Set.1.map (Value.int .u64))++([v158]))),Go.Lx.box b5 130 ([Value.bool xv32,v122,v123]),Go.Lx.box b4 130 ([Value.bool false,Value.slice none 0 0,Value.slice none 0 0])]) (A':=[Go.Lx.box b23 130 ([Value.bool rv23.1.nullable,v162,v163]),Go.Lx.box b2 128 ([v160,v161]),.row v160 50 (tVec 4 .u64).sz rv23.2.sets.length xs59,.row v161 125 1 rv23.2.behind.length xs60,Go.Lx.box b22 53 (([Value.int .i64 e6.Kind])++((e6.Set.1.map (Value.int .u64))++([v158]))),Go.Lx.box b5 130 ([Value.bool xv32,v122,v123]),Go.Lx.box b4 130 ([Value.bool false,Value.slice none 0 0,Value.slice none 0 0])]) (L:=(G14++Lt)) hs [1,2,3,4,5,6,7] (by decide) rfl)
     refine ⟨fun _=>hS,?_⟩
     refine A1 rfl ?_
     obtain ⟨gg84,hlegg84,hRgg84,hs⟩:=hs.relRow (i:=0) rfl hrelxs63
     replace hrelxs59:=hrelxs59.mono hlegg84
     replace hGG14:=hGG14.mono hlegg84
     replace hRv173:=hRv173.mono hlegg84
     replace hlegg58:=hlegg58.trans hlegg84
     replace hagg77:=hagg77.trans hlegg84
     refine C [v170] cf125 rfl (slices_Concat_int_int_ok hrv25 hs.imm hRgg84) rfl ?_
     rintro v174 wv122 ⟨gg85,hvv174,hegg85⟩
     have hlegg85:=hegg85.le hs.imm
     replace hs:=hs.call hegg85
     replace hrelxs59:=hrelxs59.mono hlegg85
     replace hGG14:=hGG14.mono hlegg85
     replace hRv173:=hRv173.mono hlegg85
     replace hlegg58:=hlegg58.trans hlegg85
     replace hagg77:=hagg77.trans hlegg85
     obtain ⟨cs88,rfl,hcs88⟩:=hvv174
     obtain ⟨v175,rfl,hRv175⟩:=hcs88
     refine OW_nil ?_
     replace hS:=hS.to hagg77 hs
     refine ⟨fun _=>hS,?_⟩
     refine A rfl hS (fun w9 ⟨g9,hle9,hs⟩=>r_build (vs:=[(0,Value.bool true),(1,v173),(2,v175)]) (cs:=[Value.bool true,v173,v175]) rfl (built_fill [(0,1),(1,1),(2,1)] [Value.bool false,Value.slice none 0 0,Value.slice none 0 0] (fun _=>by kernel_rfl) (fill_step ([]) ([Value.bool false]) ([Value.slice none 0 0,Value.slice none 0 0]) ([Value.bool true]) rfl rfl rfl rfl rfl rfl<|fill_step ([Value.bool true]) ([Value.slice none 0 0]) ([Value.slice none 0 0]) ([v173]) rfl rfl (cells_one (by obtain ⟨_,_,h9⟩:=hRv173.shape; rw [h9]; rfl)) rfl rfl rfl<|fill_step ([Value.bool true,v173]) ([Value.slice none 0 0]) ([]) ([v175]) rfl rfl (cells_one (by obtain ⟨_,_,h9⟩:=hRv175.shape; rw [h9]; rfl)) rfl rfl rfl<|fill_done))) rfl ?_
     refine A1 rfl<|OW_storeAll ti130 hs (i:=5) rfl rfl (v:=Value.agg (List.toArray (α:=Value) [Value.bool true,v173,v175])) rfl (vs:=[Value.bool true,v173,v175]) rfl (one_cons rfl (one_cons (by obtain ⟨_,_,h9⟩:=hRv173.shape; rw [h9]; rfl) (one_cons (by obtain ⟨_,_,h9⟩:=hRv175.shape; rw [h9]; rfl) one_nil))) rfl rfl ?_
     intro wv123 hs
     refine OW_nil ?_
     refine ⟨fun h=>absurd h (by decide +kernel),?_⟩
     refine AN<|WP_region ?_
     obtain ⟨t9,ht9,hM⟩:=bindS hM
     refine O (r_addM rfl rfl ht9) rfl<|O (r_move (v:=Value.int .i64 t9) rfl) rfl<|OW_nil ?_
     obtain rfl:=Option.some.inj hM
     exact ⟨gg85,v160,xs59,v161,xs60,G14,v173,v175,rfl,rfl,rfl,rfl,rfl,rfl,hds,hlegg58,hrelxs59,hGG14,hRv173,hRv175,(Sep.selT (A:=[Go.Lx.box b23 130 ([Value.bool rv23.1.nullable,v162,v163]),Go.Lx.box b2 128 ([v160,v161]),.row v160 50 (tVec 4 .u64).sz rv23.2.sets.length xs59,.row v161 125 1 rv23.2.behind.length xs60,Go.Lx.box b22 53 (([Value.int .i64 e6.Kind])++((e6.Set.1.map (Value.int .u64))++([v158]))),Go.Lx.box b5 130 ([Value.bool true,v173,v175]),Go.Lx.box b4 130 ([Value.bool false,Value.slice none 0 0,Value.slice none 0 0])]) (A':=[Go.Lx.box b5 130 ([Value.bool true,v173,v175]),Go.Lx.box b4 130 ([Value.bool false,Value.slice none 0 0,Value.slice none 0 0]),Go.Lx.box b2 128 ([v160,v161]),.row v160 50 (tVec 4 .u64).sz rv23.2.sets.length xs59,.row v161 125 1 rv23.2.behind.length xs60]) (L:=(G14++Lt)) hs [5,6,1,2,3] (by decide) rfl)⟩
    trivial
   ·obtain ⟨rv26,hrv26,hM⟩:=bindS hM
    obtain ⟨rv27,hrv27,hM⟩:=bindS hM
    refine WP_any (.q 0 (.q 1 (.q 2 (.q 3 (.q 4 (.q 5 (.q 6 (.q 7 (.q 8 (.q 9 (.q 12 (.q 13 (.q 14 (.q 15 (.c 10 (.c 11 (.s 16 (.s 17 (.q 18 (.s 19 (.leaf))))) (.c 16 (.s 11 (.s 17 (.q 18 (.s 19 (.leaf))))) (.n))) (.c 16 (.s 10 (.s 11 (.s 17 (.q 18 (.s 19 (.leaf)))))) (.n))))))))))))))))) (SS g0 w0 gg77 (Go.Lx.box b23 130 ([Value.bool rv23.1.nullable,v162,v163])::Go.Lx.box b2 128 ([v160,v161])::.row v160 50 (tVec 4 .u64).sz rv23.2.sets.length xs59::.row v161 125 1 rv23.2.behind.length xs60::Go.Lx.box b22 53 (([Value.int .i64 e6.Kind])++((e6.Set.1.map (Value.int .u64))++([v158])))::Go.Lx.box b5 130 ([Value.bool xv32,v122,v123])::Go.Lx.box b4 130 ([Value.bool false,Value.slice none 0 0,Value.slice none 0 0])::(G14++Lt))) mo (by decide +kernel) ?_
    have hs:=hs.drew
    have hagg77:=Hle.refl gg77
    have hS:SS g0 w0 gg77 (Go.Lx.box b23 130 ([Value.bool rv23.1.nullable,v162,v163])::Go.Lx.box b2 128 ([v160,v161])::.row v160 50 (tVec 4 .u64).sz rv23.2.sets.length xs59::.row v161 125 1 rv23.2.behind.length xs60::Go.Lx.box b22 53 (([Value.int .i64 e6.Kind])++((e6.Set.1.map (Value.int .u64))++([v158])))::Go.Lx.box b5 130 ([Value.bool xv32,v122,v123])::Go.Lx.box b4 130 ([Value.bool false,Value.slice none 0 0,Value.slice none 0 0])::(G14++Lt)) _:=⟨gg77,Hle.refl _,hs⟩
    refine A rfl hS (fun w9 ⟨g9,hle9,hs⟩=>r_fieldAddr Tryz.underlying130 ti4 rfl rfl (by decide) rfl rfl) rfl<|A rfl hS (fun w9 ⟨g9,hle9,hs⟩=>r_load (v:=Value.bool xv32) ti4 rfl (hs.cell (i:=5) (o:=0) rfl rfl)) rfl<|A rfl hS (fun w9 ⟨g9,hle9,hs⟩=>r_move (v:=Value.bool xv32) rfl) rfl<|AG rfl rfl rfl rfl (by rw [hg4]; rfl) hS (fun w9 ⟨g9,hle9,hs⟩=>r_fieldAddr Tryz.underlying130 ti4 rfl rfl (by decide) rfl rfl) rfl<|AG rfl rfl rfl rfl (by rw [hg4]; rfl) hS (fun w9 ⟨g9,hle9,hs⟩=>r_load (v:=Value.bool rv23.1.nullable) ti4 rfl (hs.cell (i:=0) (o:=0) rfl rfl)) rfl<|A rfl hS (fun w9 ⟨g9,hle9,hs⟩=>r_pickF (v:=Value.bool rv23.1.nullable) rfl hg4 rfl) rfl ?_
    refine A rfl hS (fun w9 ⟨g9,hle9,hs⟩=>r_fieldAddr Tryz.underlying130 ti34 rfl rfl (by decide) rfl rfl) rfl<|A rfl hS (fun w9 ⟨g9,hle9,hs⟩=>r_load (v:=v122) ti34 rfl (hs.cell (i:=5) (o:=1) rfl rfl)) rfl<|A rfl hS (fun w9 ⟨g9,hle9,hs⟩=>r_fieldAddr Tryz.underlying130 ti34 rfl rfl (by decide) rfl rfl) rfl<|A rfl hS (fun w9 ⟨g9,hle9,hs⟩=>r_load (v:=v162) ti34 rfl (hs.cell (i:=0) (o:=1) rfl rfl)) rfl<|A rfl hS (fun w9 ⟨g9,hle9,hs⟩=>r_fieldAddr Tryz.underlying130 ti34 rfl rfl (by decide) rfl rfl) rfl<|A rfl hS (fun w9 ⟨g9,hle9,hs⟩=>r_load (v:=v123) ti34 rfl (hs.cell (i:=5) (o:=2) rfl rfl)) rfl<|A rfl hS (fun w9 ⟨g9,hle9,hs⟩=>r_fieldAddr Tryz.underlying130 ti34 rfl rfl (by decide) rfl rfl) rfl ?_
    refine A rfl hS (fun w9 ⟨g9,hle9,hs⟩=>r_load (v:=v163) ti34 rfl (hs.cell (i:=0) (o:=2) rfl rfl)) rfl<|A2 rfl ?_ ?_
    ·refine OW_lit (τ:=(tSl (tInt .i64))) [v122,v162] [xv33,rv23.1.first] Tryz.underlying35 ti34 (by decide) hs rfl rfl rfl ⟨⟨v122,cells_one (by obtain ⟨_,_,h9⟩:=hRv122.shape; rw [h9]; rfl),hRv122⟩,⟨v162,cells_one (by obtain ⟨_,_,h9⟩:=hRv162.shape; rw [h9]; rfl),hRv162⟩,trivial⟩ rfl ?_
     intro v182 wv129 xs67 hrelxs67 hs
     refine OW_nil ?_
     replace hS:=hS.to (Hle.refl _) (Sep.selT (A:=[.row v182 34 (tSl (tInt .i64)).sz [xv33,rv23.1.first].length xs67,Go.Lx.box b23 130 ([Value.bool rv23.1.nullable,v162,v163]),Go.Lx.box b2 128 ([v160,v161]),.row v160 50 (tVec 4 .u64).sz rv23.2.sets.length xs59,.row v161 125 1 rv23.2.behind.length xs60,Go.Lx.box b22 53 (([Value.int .i64 e6.Kind])++((e6.Set.1.map (Value.int .u64))++([v158]))),Go.Lx.box b5 130 ([Value.bool xv32,v122,v123]),Go.Lx.box b4 130 ([Value.bool false,Value.slice none 0 0,Value.slice none 0 0])]) (A':=[Go.Lx.box b23 130 ([Value.bool rv23.1.nullable,v162,v163]),Go.Lx.box b2 128 ([v160,v161]),.row v160 50 (tVec 4 .u64).sz rv23.2.sets.length xs59,.row v161 125 1 rv23.2.behind.length xs60,Go.Lx.box b22 53 (([Value.int .i64 e6.Kind])++((e6.Set.1.map (Value.int .u64))++([v158]))),Go.Lx.box b5 130 ([Value.bool xv32,v122,v123]),Go.Lx.box b4 130 ([Value.bool false,Value.slice none 0 0,Value.slice none 0 0])]) (L:=(G14++Lt)) hs [1,2,3,4,5,6,7] (by decide) rfl)
     refine ⟨fun _=>hS,?_⟩
     refine A2 rfl ?_ ?_
     ·obtain ⟨gg90,hlegg90,hRgg90,hs⟩:=hs.relRow (i:=0) rfl hrelxs67
      replace hRv123:=hRv123.mono hlegg90
      replace hrelxs59:=hrelxs59.mono hlegg90
      replace hGG14:=hGG14.mono hlegg90
      replace hRv163:=hRv163.mono hlegg90
      replace hlegg58:=hlegg58.trans hlegg90
      replace hagg77:=hagg77.trans hlegg90
      refine C [v182] cf125 rfl (slices_Concat_int_int_ok hrv26 hs.imm hRgg90) rfl ?_
      rintro v183 wv130 ⟨gg91,hvv183,hegg91⟩
      have hlegg91:=hegg91.le hs.imm
      replace hs:=hs.call hegg91
      replace hRv123:=hRv123.mono hlegg91
      replace hrelxs59:=hrelxs59.mono hlegg91
      replace hGG14:=hGG14.mono hlegg91
      replace hRv163:=hRv163.mono hlegg91
      replace hlegg58:=hlegg58.trans hlegg91
      replace hagg77:=hagg77.trans hlegg91
      obtain ⟨cs91,rfl,hcs91⟩:=hvv183
      obtain ⟨v184,rfl,hRv184⟩:=hcs91
      refine OW_nil ?_
      replace hS:=hS.to hagg77 hs
      refine ⟨fun _=>hS,?_⟩
      refine A1 rfl<|OW_lit (τ:=(tSl (tInt .i64))) [v123,v163] [xv34,rv23.1.last] Tryz.underlying35 ti34 (by decide) hs rfl rfl rfl ⟨⟨v123,cells_one (by obtain ⟨_,_,h9⟩:=hRv123.shape; rw [h9]; rfl),hRv123⟩,⟨v163,cells_one (by obtain ⟨_,_,h9⟩:=hRv163.shape; rw [h9]; rfl),hRv163⟩,trivial⟩ rfl ?_
      intro v185 wv131 xs68 hrelxs68 hs
      refine OW_nil ?_
      replace hS:=hS.to hagg77 (Sep.selT (A:=[.row v185 34 (tSl (tInt .i64)).sz [xv34,rv23.1.last].length xs68,Go.Lx.box b23 130 ([Value.bool rv23.1.nullable,v162,v163]),Go.Lx.box b2 128 ([v160,v161]),.row v160 50 (tVec 4 .u64).sz rv23.2.sets.length xs59,.row v161 125 1 rv23.2.behind.length xs60,Go.Lx.box b22 53 (([Value.int .i64 e6.Kind])++((e6.Set.1.map (Value.int .u64))++([v158]))),Go.Lx.box b5 130 ([Value.bool xv32,v122,v123]),Go.Lx.box b4 130 ([Value.bool false,Value.slice none 0 0,Value.slice none 0 0])]) (A':=[Go.Lx.box b23 130 ([Value.bool rv23.1.nullable,v162,v163]),Go.Lx.box b2 128 ([v160,v161]),.row v160 50 (tVec 4 .u64).sz rv23.2.sets.length xs59,.row v161 125 1 rv23.2.behind.length xs60,Go.Lx.box b22 53 (([Value.int .i64 e6.Kind])++((e6.Set.1.map (Value.int .u64))++([v158]))),Go.Lx.box b5 130 ([Value.bool xv32,v122,v123]),Go.Lx.box b4 130 ([Value.bool false,Value.slice none 0 0,Value.slice none 0 0])]) (L:=(G14++Lt)) hs [1,2,3,4,5,6,7] (by decide) rfl)
      refine ⟨fun _=>hS,?_⟩
      refine A1 rfl ?_
      obtain ⟨gg92,hlegg92,hRgg92,hs⟩:=hs.relRow (i:=0) rfl hrelxs68
      replace hrelxs59:=hrelxs59.mono hlegg92
      replace hGG14:=hGG14.mono hlegg92
      replace hRv184:=hRv184.mono hlegg92
      replace hlegg58:=hlegg58.trans hlegg92
      replace hagg77:=hagg77.trans hlegg92
      refine C [v185] cf125 rfl (slices_Concat_int_int_ok hrv27 hs.imm hRgg92) rfl ?_
      rintro v186 wv132 ⟨gg93,hvv186,hegg93⟩
      have hlegg93:=hegg93.le hs.imm
      replace hs:=hs.call hegg93
      replace hrelxs59:=hrelxs59.mono hlegg93
      replace hGG14:=hGG14.mono hlegg93
      replace hRv184:=hRv184.mono hlegg93
      replace hlegg58:=hlegg58.trans hlegg93
      replace hagg77:=hagg77.trans hlegg93
      obtain ⟨cs92,rfl,hcs92⟩:=hvv186
      obtain ⟨v187,rfl,hRv187⟩:=hcs92
      refine OW_nil ?_
      replace hS:=hS.to hagg77 hs
      refine ⟨fun _=>hS,?_⟩
      refine A rfl hS (fun w9 ⟨g9,hle9,hs⟩=>r_build (vs:=[(0,Value.bool rv23.1.nullable),(1,v184),(2,v187)]) (cs:=[Value.bool rv23.1.nullable,v184,v187]) rfl (built_fill [(0,1),(1,1),(2,1)] [Value.bool false,Value.slice none 0 0,Value.slice none 0 0] (fun _=>by kernel_rfl) (fill_step ([]) ([Value.bool false]) ([Value.slice none 0 0,Value.slice none 0 0]) ([Value.bool rv23.1.nullable]) rfl rfl rfl rfl rfl rfl<|fill_step ([Value.bool rv23.1.nullable]) ([Value.slice none 0 0]) ([Value.slice none 0 0]) ([v184]) rfl rfl (cells_one (by obtain ⟨_,_,h9⟩:=hRv184.shape; rw [h9]; rfl)) rfl rfl rfl<|fill_step ([Value.bool rv23.1.nullable,v184]) ([Value.slice none 0 0]) ([]) ([v187]) rfl rfl (cells_one (by obtain ⟨_,_,h9⟩:=hRv187.shape; rw [h9]; rfl)) rfl rfl rfl<|fill_done))) rfl ?_
      refine A1 rfl<|OW_storeAll ti130 hs (i:=5) rfl rfl (v:=Value.agg (List.toArray (α:=Value) [Value.bool rv23.1.nullable,v184,v187])) rfl (vs:=[Value.bool rv23.1.nullable,v184,v187]) rfl (one_cons rfl (one_cons (by obtain ⟨_,_,h9⟩:=hRv184.shape; rw [h9]; rfl) (one_cons (by obtain ⟨_,_,h9⟩:=hRv187.shape; rw [h9]; rfl) one_nil))) rfl rfl ?_
      intro wv133 hs
      refine OW_nil ?_
      refine ⟨fun h=>absurd h (by decide +kernel),?_⟩
      refine AN<|WP_region ?_
      obtain ⟨t10,ht10,hM⟩:=bindS hM
      refine O (r_addM rfl rfl ht10) rfl<|O (r_move (v:=Value.int .i64 t10) rfl) rfl<|OW_nil ?_
      obtain rfl:=Option.some.inj hM
      exact ⟨gg93,v160,xs59,v161,xs60,G14,v184,v187,rfl,rfl,rfl,rfl,rfl,rfl,hds,hlegg58,hrelxs59,hGG14,hRv184,hRv187,(Sep.selT (A:=[Go.Lx.box b23 130 ([Value.bool rv23.1.nullable,v162,v163]),Go.Lx.box b2 128 ([v160,v161]),.row v160 50 (tVec 4 .u64).sz rv23.2.sets.length xs59,.row v161 125 1 rv23.2.behind.length xs60,Go.Lx.box b22 53 (([Value.int .i64 e6.Kind])++((e6.Set.1.map (Value.int .u64))++([v158]))),Go.Lx.box b5 130 ([Value.bool rv23.1.nullable,v184,v187]),Go.Lx.box b4 130 ([Value.bool false,Value.slice none 0 0,Value.slice none 0 0])]) (A':=[Go.Lx.box b5 130 ([Value.bool rv23.1.nullable,v184,v187]),Go.Lx.box b4 130 ([Value.bool false,Value.slice none 0 0,Value.slice none 0 0]),Go.Lx.box b2 128 ([v160,v161]),.row v160 50 (tVec 4 .u64).sz rv23.2.sets.length xs59,.row v161 125 1 rv23.2.behind.length xs60]) (L:=(G14++Lt)) hs [5,6,1,2,3] (by decide) rfl)⟩
     refine A2 rfl ?_ ?_
     ·refine OW_lit (τ:=(tSl (tInt .i64))) [v123,v163] [xv34,rv23.1.last] Tryz.underlying35 ti34 (by decide) hs rfl rfl rfl ⟨⟨v123,cells_one (by obtain ⟨_,_,h9⟩:=hRv123.shape; rw [h9]; rfl),hRv123⟩,⟨v163,cells_one (by obtain ⟨_,_,h9⟩:=hRv163.shape; rw [h9]; rfl),hRv163⟩,trivial⟩ rfl ?_
      intro v183 wv130 xs68 hrelxs68 hs
      refine OW_nil ?_
      replace hS:=hS.to (Hle.refl _) (Sep.selT (A:=[.row v183 34 (tSl (tInt .i64)).sz [xv34,rv23.1.last].length xs68,.row v182 34 (tSl (tInt .i64)).sz [xv33,rv23.1.first].length xs67,Go.Lx.box b23 130 ([Value.bool rv23.1.nullable,v162,v163]),Go.Lx.box b2 128 ([v160,v161]),.row v160 50 (tVec 4 .u64).sz rv23.2.sets.length xs59,.row v161 125 1 rv23.2.behind.length xs60,Go.Lx.box b22 53 (([Value.int .i64 e6.Kind])++((e6.Set.1.map (Value.int .u64))++([v158]))),Go.Lx.box b5 130 ([Value.bool xv32,v122,v123]),Go.Lx.box b4 130 ([Value.bool false,Value.slice none 0 0,Value.slice none 0 0])]) (A':=[Go.Lx.box b23 130 ([Value.bool rv23.1.nullable,v162,v163]),Go.Lx.box b2 128 ([v160,v161]),.row v160 50 (tVec 4 .u64).sz rv23.2.sets.length xs59,.row v161 125 1 rv23.2.behind.length xs60,Go.Lx.box b22 53 (([Value.int .i64 e6.Kind])++((e6.Set.1.map (Value.int .u64))++([v158]))),Go.Lx.box b5 130 ([Value.bool xv32,v122,v123]),Go.Lx.box b4 130 ([Value.bool false,Value.slice none 0 0,Value.slice none 0 0])]) (L:=(G14++Lt)) hs [2,3,4,5,6,7,8] (by decide) rfl)
      refine ⟨fun _=>hS,?_⟩
      refine A1 rfl ?_
      obtain ⟨gg90,hlegg90,hRgg90,hs⟩:=hs.relRow (i:=1) rfl hrelxs67
      replace hrelxs59:=hrelxs59.mono hlegg90
      replace hGG14:=hGG14.mono hlegg90
      replace hrelxs68:=hrelxs68.mono hlegg90
      replace hlegg58:=hlegg58.trans hlegg90
      replace hagg77:=hagg77.trans hlegg90
      refine C [v182] cf125 rfl (slices_Concat_int_int_ok hrv26 hs.imm hRgg90) rfl ?_
      rintro v184 wv131 ⟨gg91,hvv184,hegg91⟩
      have hlegg91:=hegg91.le hs.imm
      replace hs:=hs.call hegg91
      replace hrelxs59:=hrelxs59.mono hlegg91
      replace hGG14:=hGG14.mono hlegg91
      replace hrelxs68:=hrelxs68.mono hlegg91
      replace hlegg58:=hlegg58.trans hlegg91
      replace hagg77:=hagg77.trans hlegg91
      obtain ⟨cs91,rfl,hcs91⟩:=hvv184
      obtain ⟨v185,rfl,hRv185⟩:=hcs91
      refine OW_nil ?_
      replace hS:=hS.to hagg77 (Sep.selT (A:=[.row v183 34 (tSl (tInt .i64)).sz [xv34,rv23.1.last].length xs68,Go.Lx.box b23 130 ([Value.bool rv23.1.nullable,v162,v163]),Go.Lx.box b2 128 ([v160,v161]),.row v160 50 (tVec 4 .u64).sz rv23.2.sets.length xs59,.row v161 125 1 rv23.2.behind.length xs60,Go.Lx.box b22 53 (([Value.int .i64 e6.Kind])++((e6.Set.1.map (Value.int .u64))++([v158]))),Go.Lx.box b5 130 ([Value.bool xv32,v122,v123]),Go.Lx.box b4 130 ([Value.bool false,Value.slice none 0 0,Value.slice none 0 0])]) (A':=[Go.Lx.box b23 130 ([Value.bool rv23.1.nullable,v162,v163]),Go.Lx.box b2 128 ([v160,v161]),.row v160 50 (tVec 4 .u64).sz rv23.2.sets.length xs59,.row v161 125 1 rv23.2.behind.length xs60,Go.Lx.box b22 53 (([Value.int .i64 e6.Kind])++((e6.Set.1.map (Value.int .u64))++([v158]))),Go.Lx.box b5 130 ([Value.bool xv32,v122,v123]),Go.Lx.box b4 130 ([Value.bool false,Value.slice none 0 0,Value.slice none 0 0])]) (L:=(G14++Lt)) hs [1,2,3,4,5,6,7] (by decide) rfl)
      refine ⟨fun _=>hS,?_⟩
      refine A1 rfl ?_
      obtain ⟨gg92,hlegg92,hRgg92,hs⟩:=hs.relRow (i:=0) rfl hrelxs68
      replace hrelxs59:=hrelxs59.mono hlegg92
      replace hGG14:=hGG14.mono hlegg92
      replace hRv185:=hRv185.mono hlegg92
      replace hlegg58:=hlegg58.trans hlegg92
      replace hagg77:=hagg77.trans hlegg92
      refine C [v183] cf125 rfl (slices_Concat_int_int_ok hrv27 hs.imm hRgg92) rfl ?_
      rintro v186 wv132 ⟨gg93,hvv186,hegg93⟩
      have hlegg93:=hegg93.le hs.imm
      replace hs:=hs.call hegg93
      replace hrelxs59:=hrelxs59.mono hlegg93
      replace hGG14:=hGG14.mono hlegg93
      replace hRv185:=hRv185.mono hlegg93
      replace hlegg58:=hlegg58.trans hlegg93
      replace hagg77:=hagg77.trans hlegg93
      obtain ⟨cs92,rfl,hcs92⟩:=hvv186
      obtain ⟨v187,rfl,hRv187⟩:=hcs92
      refine OW_nil ?_
      replace hS:=hS.to hagg77 hs
      refine ⟨fun _=>hS,?_⟩
      refine A rfl hS (fun w9 ⟨g9,hle9,hs⟩=>r_build (vs:=[(0,Value.bool rv23.1.nullable),(1,v185),(2,v187)]) (cs:=[Value.bool rv23.1.nullable,v185,v187]) rfl (built_fill [(0,1),(1,1),(2,1)] [Value.bool false,Value.slice none 0 0,Value.slice none 0 0] (fun _=>by kernel_rfl) (fill_step ([]) ([Value.bool false]) ([Value.slice none 0 0,Value.slice none 0 0]) ([Value.bool rv23.1.nullable]) rfl rfl rfl rfl rfl rfl<|fill_step ([Value.bool rv23.1.nullable]) ([Value.slice none 0 0]) ([Value.slice none 0 0]) ([v185]) rfl rfl (cells_one (by obtain ⟨_,_,h9⟩:=hRv185.shape; rw [h9]; rfl)) rfl rfl rfl<|fill_step ([Value.bool rv23.1.nullable,v185]) ([Value.slice none 0 0]) ([]) ([v187]) rfl rfl (cells_one (by obtain ⟨_,_,h9⟩:=hRv187.shape; rw [h9]; rfl)) rfl rfl rfl<|fill_done))) rfl ?_
      refine A1 rfl<|OW_storeAll ti130 hs (i:=5) rfl rfl (v:=Value.agg (List.toArray (α:=Value) [Value.bool rv23.1.nullable,v185,v187])) rfl (vs:=[Value.bool rv23.1.nullable,v185,v187]) rfl (one_cons rfl (one_cons (by obtain ⟨_,_,h9⟩:=hRv185.shape; rw [h9]; rfl) (one_cons (by obtain ⟨_,_,h9⟩:=hRv187.shape; rw [h9]; rfl) one_nil))) rfl rfl ?_
      intro wv133 hs
      refine OW_nil ?_
      refine ⟨fun h=>absurd h (by decide +kernel),?_⟩
      refine AN<|WP_region ?_
      obtain ⟨t10,ht10,hM⟩:=bindS hM
      refine O (r_addM rfl rfl ht10) rfl<|O (r_move (v:=Value.int .i64 t10) rfl) rfl<|OW_nil ?_
      obtain rfl:=Option.some.inj hM
      exact ⟨gg93,v160,xs59,v161,xs60,G14,v185,v187,rfl,rfl,rfl,rfl,rfl,rfl,hds,hlegg58,hrelxs59,hGG14,hRv185,hRv187,(Sep.selT (A:=[Go.Lx.box b23 130 ([Value.bool rv23.1.nullable,v162,v163]),Go.Lx.box b2 128 ([v160,v161]),.row v160 50 (tVec 4 .u64).sz rv23.2.sets.length xs59,.row v161 125 1 rv23.2.behind.length xs60,Go.Lx.box b22 53 (([Value.int .i64 e6.Kind])++((e6.Set.1.map (Value.int .u64))++([v158]))),Go.Lx.box b5 130 ([Value.bool rv23.1.nullable,v185,v187]),Go.Lx.box b4 130 ([Value.bool false,Value.slice none 0 0,Value.slice none 0 0])]) (A':=[Go.Lx.box b5 130 ([Value.bool rv23.1.nullable,v185,v187]),Go.Lx.box b4 130 ([Value.bool false,Value.slice none 0 0,Value.slice none 0 0]),Go.Lx.box b2 128 ([v160,v161]),.row v160 50 (tVec 4 .u64).sz rv23.2.sets.length xs59,.row v161 125 1 rv23.2.behind.length xs60]) (L:=(G14++Lt)) hs [5,6,1,2,3] (by decide) rfl)⟩
     trivial
    refine A2 rfl ?_ ?_
    ·refine OW_lit (τ:=(tSl (tInt .i64))) [v123,v163] [xv34,rv23.1.last] Tryz.underlying35 ti34 (by decide) hs rfl rfl rfl ⟨⟨v123,cells_one (by obtain ⟨_,_,h9⟩:=hRv123.shape; rw [h9]; rfl),hRv123⟩,⟨v163,cells_one (by obtain ⟨_,_,h9⟩:=hRv163.shape; rw [h9]; rfl),hRv163⟩,trivial⟩ rfl ?_
     intro v182 wv129 xs67 hrelxs67 hs
     refine OW_nil ?_
     replace hS:=hS.to (Hle.refl _) (Sep.selT (A:=[.row v182 34 (tSl (tInt .i64)).sz [xv34,rv23.1.last].length xs67,Go.Lx.box b23 130 ([Value.bool rv23.1.nullable,v162,v163]),Go.Lx.box b2 128 ([v160,v161]),.row v160 50 (tVec 4 .u64).sz rv23.2.sets.length xs59,.row v161 125 1 rv23.2.behind.length xs60,Go.Lx.box b22 53 (([Value.int .i64 e6.Kind])++((e6.Set.1.map (Value.int .u64))++([v158]))),Go.Lx.box b5 130 ([Value.bool xv32,v122,v123]),Go.Lx.box b4 130 ([Value.bool false,Value.slice none 0 0,Value.slice none 0 0])]) (A':=[Go.Lx.box b23 130 ([Value.bool rv23.1.nullable,v162,v163]),Go.Lx.box b2 128 ([v160,v161]),.row v160 50 (tVec 4 .u64).sz rv23.2.sets.length xs59,.row v161 125 1 rv23.2.behind.length xs60,Go.Lx.box b22 53 (([Value.int .i64 e6.Kind])++((e6.Set.1.map (Value.int .u64))++([v158]))),Go.Lx.box b5 130 ([Value.bool xv32,v122,v123]),Go.Lx.box b4 130 ([Value.bool false,Value.slice none 0 0,Value.slice none 0 0])]) (L:=(G14++Lt)) hs [1,2,3,4,5,6,7] (by decide) rfl)
     refine ⟨fun _=>hS,?_⟩
     refine A1 rfl<|OW_lit (τ:=(tSl (tInt .i64))) [v122,v162] [xv33,rv23.1.first] Tryz.underlying35 ti34 (by decide) hs rfl rfl rfl ⟨⟨v122,cells_one (by obtain ⟨_,_,h9⟩:=hRv122.shape; rw [h9]; rfl),hRv122⟩,⟨v162,cells_one (by obtain ⟨_,_,h9⟩:=hRv162.shape; rw [h9]; rfl),hRv162⟩,trivial⟩ rfl ?_
     intro v183 wv130 xs68 hrelxs68 hs
     refine OW_nil ?_
     replace hS:=hS.to (Hle.refl _) (Sep.selT (A:=[.row v183 34 (tSl (tInt .i64)).sz [xv33,rv23.1.first].length xs68,.row v182 34 (tSl (tInt .i64)).sz [xv34,rv23.1.last].length xs67,Go.Lx.box b23 130 ([Value.bool rv23.1.nullable,v162,v163]),Go.Lx.box b2 128 ([v160,v161]),.row v160 50 (tVec 4 .u64).sz rv23.2.sets.length xs59,.row v161 125 1 rv23.2.behind.length xs60,Go.Lx.box b22 53 (([Value.int .i64 e6.Kind])++((e6.Set.1.map (Value.int .u64))++([v158]))),Go.Lx.box b5 130 ([Value.bool xv32,v122,v123]),Go.Lx.box b4 130 ([Value.bool false,Value.slice none 0 0,Value.slice none 0 0])]) (A':=[Go.Lx.box b23 130 ([Value.bool rv23.1.nullable,v162,v163]),Go.Lx.box b2 128 ([v160,v161]),.row v160 50 (tVec 4 .u64).sz rv23.2.sets.length xs59,.row v161 125 1 rv23.2.behind.length xs60,Go.Lx.box b22 53 (([Value.int .i64 e6.Kind])++((e6.Set.1.map (Value.int .u64))++([v158]))),Go.Lx.box b5 130 ([Value.bool xv32,v122,v123]),Go.Lx.box b4 130 ([Value.bool false,Value.slice none 0 0,Value.slice none 0 0])]) (L:=(G14++Lt)) hs [2,3,4,5,6,7,8] (by decide) rfl)
     refine ⟨fun _=>hS,?_⟩
     refine A1 rfl ?_
     obtain ⟨gg90,hlegg90,hRgg90,hs⟩:=hs.relRow (i:=0) rfl hrelxs68
     replace hrelxs59:=hrelxs59.mono hlegg90
     replace hGG14:=hGG14.mono hlegg90
     replace hrelxs67:=hrelxs67.mono hlegg90
     replace hlegg58:=hlegg58.trans hlegg90
     replace hagg77:=hagg77.trans hlegg90
     refine C [v183] cf125 rfl (slices_Concat_int_int_ok hrv26 hs.imm hRgg90) rfl ?_
     rintro v184 wv131 ⟨gg91,hvv184,hegg91⟩
     have hlegg91:=hegg91.le hs.imm
     replace hs:=hs.call hegg91
     replace hrelxs59:=hrelxs59.mono hlegg91
     replace hGG14:=hGG14.mono hlegg91
     replace hrelxs67:=hrelxs67.mono hlegg91
     replace hlegg58:=hlegg58.trans hlegg91
     replace hagg77:=hagg77.trans hlegg91
     obtain ⟨cs91,rfl,hcs91⟩:=hvv184
     obtain ⟨v185,rfl,hRv185⟩:=hcs91
     refine OW_nil ?_
     replace hS:=hS.to hagg77 (Sep.selT (A:=[.row v182 34 (tSl (tInt .i64)).sz [xv34,rv23.1.last].length xs67,Go.Lx.box b23 130 ([Value.bool rv23.1.nullable,v162,v163]),Go.Lx.box b2 128 ([v160,v161]),.row v160 50 (tVec 4 .u64).sz rv23.2.sets.length xs59,.row v161 125 1 rv23.2.behind.length xs60,Go.Lx.box b22 53 (([Value.int .i64 e6.Kind])++((e6.Set.1.map (Value.int .u64))++([v158]))),Go.Lx.box b5 130 ([Value.bool xv32,v122,v123]),Go.Lx.box b4 130 ([Value.bool false,Value.slice none 0 0,Value.slice none 0 0])]) (A':=[Go.Lx.box b23 130 ([Value.bool rv23.1.nullable,v162,v163]),Go.Lx.box b2 128 ([v160,v161]),.row v160 50 (tVec 4 .u64).sz rv23.2.sets.length xs59,.row v161 125 1 rv23.2.behind.length xs60,Go.Lx.box b22 53 (([Value.int .i64 e6.Kind])++((e6.Set.1.map (Value.int .u64))++([v158]))),Go.Lx.box b5 130 ([Value.bool xv32,v122,v123]),Go.Lx.box b4 130 ([Value.bool false,Value.slice none 0 0,Value.slice none 0 0])]) (L:=(G14++Lt)) hs [1,2,3,4,5,6,7] (by decide) rfl)
     refine ⟨fun _=>hS,?_⟩
     refine A1 rfl ?_
     obtain ⟨gg92,hlegg92,hRgg92,hs⟩:=hs.relRow (i:=0) rfl hrelxs67
     replace hrelxs59:=hrelxs59.mono hlegg92
     replace hGG14:=hGG14.mono hlegg92
     replace hRv185:=hRv185.mono hlegg92
     replace hlegg58:=hlegg58.trans hlegg92
     replace hagg77:=hagg77.trans hlegg92
     refine C [v182] cf125 rfl (slices_Concat_int_int_ok hrv27 hs.imm hRgg92) rfl ?_
     rintro v186 wv132 ⟨gg93,hvv186,hegg93⟩
     have hlegg93:=hegg93.le hs.imm
     replace hs:=hs.call hegg93
     replace hrelxs59:=hrelxs59.mono hlegg93
     replace hGG14:=hGG14.mono hlegg93
     replace hRv185:=hRv185.mono hlegg93
     replace hlegg58:=hlegg58.trans hlegg93
     replace hagg77:=hagg77.trans hlegg93
     obtain ⟨cs92,rfl,hcs92⟩:=hvv186
     obtain ⟨v187,rfl,hRv187⟩:=hcs92
     refine OW_nil ?_
     replace hS:=hS.to hagg77 hs
     refine ⟨fun _=>hS,?_⟩
     refine A rfl hS (fun w9 ⟨g9,hle9,hs⟩=>r_build (vs:=[(0,Value.bool rv23.1.nullable),(1,v185),(2,v187)]) (cs:=[Value.bool rv23.1.nullable,v185,v187]) rfl (built_fill [(0,1),(1,1),(2,1)] [Value.bool false,Value.slice none 0 0,Value.slice none 0 0] (fun _=>by kernel_rfl) (fill_step ([]) ([Value.bool false]) ([Value.slice none 0 0,Value.slice none 0 0]) ([Value.bool rv23.1.nullable]) rfl rfl rfl rfl rfl rfl<|fill_step ([Value.bool rv23.1.nullable]) ([Value.slice none 0 0]) ([Value.slice none 0 0]) ([v185]) rfl rfl (cells_one (by obtain ⟨_,_,h9⟩:=hRv185.shape; rw [h9]; rfl)) rfl rfl rfl<|fill_step ([Value.bool rv23.1.nullable,v185]) ([Value.slice none 0 0]) ([]) ([v187]) rfl rfl (cells_one (by obtain ⟨_,_,h9⟩:=hRv187.shape; rw [h9]; rfl)) rfl rfl rfl<|fill_done))) rfl ?_
     refine A1 rfl<|OW_storeAll ti130 hs (i:=5) rfl rfl (v:=Value.agg (List.toArray (α:=Value) [Value.bool rv23.1.nullable,v185,v187])) rfl (vs:=[Value.bool rv23.1.nullable,v185,v187]) rfl (one_cons rfl (one_cons (by obtain ⟨_,_,h9⟩:=hRv185.shape; rw [h9]; rfl) (one_cons (by obtain ⟨_,_,h9⟩:=hRv187.shape; rw [h9]; rfl) one_nil))) rfl rfl ?_
     intro wv133 hs
     refine OW_nil ?_
     refine ⟨fun h=>absurd h (by decide +kernel),?_⟩
     refine AN<|WP_region ?_
     obtain ⟨t10,ht10,hM⟩:=bindS hM
     refine O (r_addM rfl rfl ht10) rfl<|O (r_move (v:=Value.int .i64 t10) rfl) rfl<|OW_nil ?_
     obtain rfl:=Option.some.inj hM
     exact ⟨gg93,v160,xs59,v161,xs60,G14,v185,v187,rfl,rfl,rfl,rfl,rfl,rfl,hds,hlegg58,hrelxs59,hGG14,hRv185,hRv187,(Sep.selT (A:=[Go.Lx.box b23 130 ([Value.bool rv23.1.nullable,v162,v163]),Go.Lx.box b2 128 ([v160,v161]),.row v160 50 (tVec 4 .u64).sz rv23.2.sets.length xs59,.row v161 125 1 rv23.2.behind.length xs60,Go.Lx.box b22 53 (([Value.int .i64 e6.Kind])++((e6.Set.1.map (Value.int .u64))++([v158]))),Go.Lx.box b5 130 ([Value.bool rv23.1.nullable,v185,v187]),Go.Lx.box b4 130 ([Value.bool false,Value.slice none 0 0,Value.slice none 0 0])]) (A':=[Go.Lx.box b5 130 ([Value.bool rv23.1.nullable,v185,v187]),Go.Lx.box b4 130 ([Value.bool false,Value.slice none 0 0,Value.slice none 0 0]),Go.Lx.box b2 128 ([v160,v161]),.row v160 50 (tVec 4 .u64).sz rv23.2.sets.length xs59,.row v161 125 1 rv23.2.behind.length xs60]) (L:=(G14++Lt)) hs [5,6,1,2,3] (by decide) rfl)⟩
    trivial
  ·refine WP_false rfl hc6<|WP_exit ?_
   obtain rfl:=Option.some.inj hM
   refine fun hr=>?_
   have hM:=congrArg some hr
   simp only [Option.some.injEq,Prod.mk.injEq] at hM
   obtain ⟨rfl,rfl,rfl,rfl,rfl⟩:=hM
   exact ⟨gg58,v120,xs45,v121,xs46,G11,v122,v123,rfl,rfl,hds,hlegg58,hrelxs45,hGG11,hRv122,hRv123,hs⟩
 ·clear hs
  rintro E w ⟨gg47,v96,xs35,v97,xs36,G8,v94,v95,hE4,hE5,hds,hlegg47,hrelxs35,hGG8,hRv94,hRv95,hs⟩
  have hM:=hKhx1
  obtain ⟨E,rfl⟩:=open2 (E:=E) hE4 hE5
  replace hagi:=hagi.trans hlegg47
  refine WP_seq<|WP_region<|O (r_loadN (cs:=[Value.bool xv19,v94,v95]) ti130 rfl rfl (hs.cells (i:=0) rfl)) rfl<|OW_storeAll ti130 hs (i:=1) rfl rfl (v:=Value.agg (List.toArray (α:=Value) [Value.bool xv19,v94,v95])) rfl (vs:=[Value.bool xv19,v94,v95]) rfl (one_cons rfl (one_cons (by obtain ⟨_,_,h9⟩:=hRv94.shape; rw [h9]; rfl) (one_cons (by obtain ⟨_,_,h9⟩:=hRv95.shape; rw [h9]; rfl) one_nil))) rfl rfl ?_
  intro wv134 hs
  refine OW_nil<|WP_ret ?_
  obtain rfl:=Option.some.inj hM
  refine FL_nil hds ?_
  exact ⟨_,res1 Tryz.results108 (rv_cells (vs:=[Value.bool xv19,v94,v95]) ti130 rfl rfl (hs.cells (i:=1) rfl)),gg47,v96,xs35,v97,xs36,G8,⟨[Value.bool xv19,v94,v95],rfl,⟨[Value.bool xv19],[v94],[v95],rfl,rfl,⟨_,rfl,hRv94⟩,⟨_,rfl,hRv95⟩⟩⟩,hagi,hrelxs35,hGG8,(Sep.selT (A:=[Go.Lx.box b5 130 ([Value.bool xv19,v94,v95]),Go.Lx.box b4 130 ([Value.bool xv19,v94,v95]),Go.Lx.box b2 128 ([v96,v97]),.row v96 50 (tVec 4 .u64).sz xv22.length xs35,.row v97 125 1 xv23.length xs36]) (A':=[Go.Lx.box b2 128 ([v96,v97]),.row v96 50 (tVec 4 .u64).sz xv22.length xs35,.row v97 125 1 xv23.length xs36]) (L:=(G8++Lt)) hs [2,3,4] (by decide) rfl)⟩
set_option maxRecDepth 100000 in
theorem nfa_builder_star_step {fl:Nat} (ih_nfa_builder_expr:C.nfa_builder_expr fl):C.nfa_builder_star (fl+1):=by
 intro b1 rv1 r hM g0 w0 gi wi Lt b2 v1 xs1 v2 xs2 G1 hs cs1 hcs1 hrelxs1 hGG1
 unfold M.nfa_builder_star at hM
 obtain ⟨cs2,cs3,cs4,rfl,hcs2,hcs3,hcs4⟩:=tT_Regex_iff.1 hcs1
 have hcs2:cs2=_:=hcs2; subst hcs2
 have hcs3:cs3=_:=hcs3; subst hcs3
 obtain ⟨v3,rfl,hRv3⟩:=hcs4
 have hagi:=Hle.refl gi
 refine calls_of_WP (args:=[Value.pointer (some ⟨b2,0,none⟩),Value.agg (List.toArray (α:=Value) (([Value.int .i64 rv1.Kind])++((rv1.Set.1.map (Value.int .u64))++([v3]))))]) Tryz.func109 rfl Tryz.ntmps109 rfl ?_
 have hds:(argEnv [Value.pointer (some ⟨b2,0,none⟩),Value.agg (List.toArray (α:=Value) (([Value.int .i64 rv1.Kind])++((rv1.Set.1.map (Value.int .u64))++([v3]))))]).ds=[]:=rfl
 refine WP_seq<|WP_region<|OW_box (v:=Value.agg (List.toArray (α:=Value) (([Value.int .i64 rv1.Kind])++((rv1.Set.1.map (Value.int .u64))++([v3]))))) rfl hs (zs:=([Value.int .i64 rv1.Kind])++((rv1.Set.1.map (Value.int .u64))++([v3]))) rfl rfl ?_
 intro b3 wv1 hs
 refine OW_alloc ti130 hs (zs:=[Value.bool false,Value.slice none 0 0,Value.slice none 0 0]) rfl rfl ?_
 intro b4 wv2 hs
 refine OW_nil<|WP_seq<|WP_region<|O (r_move (v:=Value.pointer (some ⟨b2,0,none⟩)) rfl) rfl<|O (r_fieldAddr Tryz.underlying53 ti51 rfl rfl (by decide) rfl rfl) rfl<|O (r_load (v:=v3) ti51 rfl (hs.cell (i:=1) (o:=5) rfl (by simp [rv1.Set.2]))) rfl ?_
 obtain ⟨e1,he1,hM⟩:=bindS hM
 obtain ⟨b5,ob5,cb5,hvb5,cs5,hcs5,hcb5⟩:=hRv3.at he1
 obtain ⟨cs6,cs7,cs8,rfl,hcs6,hcs7,hcs8⟩:=tT_Regex_iff.1 hcs5
 have hcs6:cs6=_:=hcs6; subst hcs6
 have hcs7:cs7=_:=hcs7; subst hcs7
 obtain ⟨v4,rfl,hRv4⟩:=hcs8
 refine O (r_idxSl Tryz.underlying51 ti53 (v:=v3) rfl hvb5 rfl (idxL_some he1).1 (idxL_some he1).2.1) rfl<|O (r_loadEl (cs:=([Value.int .i64 e1.Kind])++((e1.Set.1.map (Value.int .u64))++([v4]))) ti53 rfl (by simp [e1.Set.2]) (.inl rfl) (hcb5 _ hs.imm) (v:=Value.agg (List.toArray (α:=Value) (([Value.int .i64 e1.Kind])++((e1.Set.1.map (Value.int .u64))++([v4]))))) rfl) rfl ?_
 have hs:Go.Lx.Sep g0 w0 gi _ (Go.Lx.box b2 128 ([v1,v2])::.row v1 50 (tVec 4 .u64).sz b1.sets.length xs1::.row v2 125 1 b1.behind.length xs2::Go.Lx.box b4 130 ([Value.bool false,Value.slice none 0 0,Value.slice none 0 0])::Go.Lx.box b3 53 (([Value.int .i64 rv1.Kind])++((rv1.Set.1.map (Value.int .u64))++([v3])))::(G1++Lt)):=(Sep.selT (A:=[Go.Lx.box b4 130 ([Value.bool false,Value.slice none 0 0,Value.slice none 0 0]),Go.Lx.box b3 53 (([Value.int .i64 rv1.Kind])++((rv1.Set.1.map (Value.int .u64))++([v3]))),Go.Lx.box b2 128 ([v1,v2]),.row v1 50 (tVec 4 .u64).sz b1.sets.length xs1,.row v2 125 1 b1.behind.length xs2]) (A':=[Go.Lx.box b2 128 ([v1,v2]),.row v1 50 (tVec 4 .u64).sz b1.sets.length xs1,.row v2 125 1 b1.behind.length xs2,Go.Lx.box b4 130 ([Value.bool false,Value.slice none 0 0,Value.slice none 0 0]),Go.Lx.box b3 53 (([Value.int .i64 rv1.Kind])++((rv1.Set.1.map (Value.int .u64))++([v3])))]) (L:=(G1++Lt)) hs [2,3,4,0,1] (by decide) rfl)
 have hs:=hs.perm (List.Perm.cons _ (List.Perm.cons _ (List.Perm.cons _ (List.perm_append_comm_assoc [Go.Lx.box b4 130 ([Value.bool false,Value.slice none 0 0,Value.slice none 0 0]),Go.Lx.box b3 53 (([Value.int .i64 rv1.Kind])++((rv1.Set.1.map (Value.int .u64))++([v3])))] G1 Lt))))
 obtain ⟨rv2,hrv2,hM⟩:=bindS hM
 refine C [Value.pointer (some ⟨b2,0,none⟩),Value.agg (List.toArray (α:=Value) (([Value.int .i64 e1.Kind])++((e1.Set.1.map (Value.int .u64))++([v4]))))] cf85 rfl (ih_nfa_builder_expr hrv2 hs (tT_Regex_iff.2 ⟨[Value.int .i64 e1.Kind],e1.Set.1.map (Value.int .u64),[v4],rfl,rfl,rfl,⟨_,rfl,hRv4⟩⟩) hrelxs1 hGG1) rfl ?_
 rintro v5 wv3 ⟨gg1,v6,xs3,v7,xs4,G2,hvv5,hlegg1,hrelxs3,hGG2,hs⟩
 replace hagi:=hagi.trans hlegg1
 have hs:=hs.perm (List.Perm.cons _ (List.Perm.cons _ (List.Perm.cons _ (List.perm_append_comm_assoc G2 [Go.Lx.box b4 130 ([Value.bool false,Value.slice none 0 0,Value.slice none 0 0]),Go.Lx.box b3 53 (([Value.int .i64 rv1.Kind])++((rv1.Set.1.map (Value.int .u64))++([v3])))] Lt))))
 obtain ⟨cs9,rfl,hcs9⟩:=hvv5
 obtain ⟨cs10,cs11,cs12,rfl,hcs10,hcs11,hcs12⟩:=hcs9
 have hcs10:cs10=_:=hcs10; subst hcs10
 obtain ⟨v8,rfl,hRv8⟩:=hcs11
 obtain ⟨v9,rfl,hRv9⟩:=hcs12
 refine OW_alloc ti130 hs (zs:=[Value.bool false,Value.slice none 0 0,Value.slice none 0 0]) rfl rfl ?_
 intro b6 wv4 hs
 refine OW_storeAll ti130 hs (i:=0) rfl rfl (v:=Value.agg (List.toArray (α:=Value) [Value.bool rv2.1.nullable,v8,v9])) rfl (vs:=[Value.bool rv2.1.nullable,v8,v9]) rfl (one_cons rfl (one_cons (by obtain ⟨_,_,h9⟩:=hRv8.shape; rw [h9]; rfl) (one_cons (by obtain ⟨_,_,h9⟩:=hRv9.shape; rw [h9]; rfl) one_nil))) rfl rfl ?_
 intro wv5 hs
 refine OW_nil<|WP_seq<|WP_region<|O (r_move (v:=Value.pointer (some ⟨b2,0,none⟩)) rfl) rfl<|O (r_fieldAddr Tryz.underlying130 ti34 rfl rfl (by decide) rfl rfl) rfl<|O (r_load (v:=v9) ti34 rfl (hs.cell (i:=0) (o:=2) rfl rfl)) rfl<|O (r_fieldAddr Tryz.underlying130 ti34 rfl rfl (by decide) rfl rfl) rfl<|O (r_load (v:=v8) ti34 rfl (hs.cell (i:=0) (o:=1) rfl rfl)) rfl ?_
 have hs:Go.Lx.Sep g0 w0 gg1 _ (Go.Lx.box b2 128 ([v6,v7])::.row v6 50 (tVec 4 .u64).sz rv2.2.sets.length xs3::.row v7 125 1 rv2.2.behind.length xs4::Go.Lx.box b6 130 ([Value.bool rv2.1.nullable,v8,v9])::Go.Lx.box b4 130 ([Value.bool false,Value.slice none 0 0,Value.slice none 0 0])::Go.Lx.box b3 53 (([Value.int .i64 rv1.Kind])++((rv1.Set.1.map (Value.int .u64))++([v3])))::(G2++Lt)):=(Sep.selT (A:=[Go.Lx.box b6 130 ([Value.bool rv2.1.nullable,v8,v9]),Go.Lx.box b2 128 ([v6,v7]),.row v6 50 (tVec 4 .u64).sz rv2.2.sets.length xs3,.row v7 125 1 rv2.2.behind.length xs4,Go.Lx.box b4 130 ([Value.bool false,Value.slice none 0 0,Value.slice none 0 0]),Go.Lx.box b3 53 (([Value.int .i64 rv1.Kind])++((rv1.Set.1.map (Value.int .u64))++([v3])))]) (A':=[Go.Lx.box b2 128 ([v6,v7]),.row v6 50 (tVec 4 .u64).sz rv2.2.sets.length xs3,.row v7 125 1 rv2.2.behind.length xs4,Go.Lx.box b6 130 ([Value.bool rv2.1.nullable,v8,v9]),Go.Lx.box b4 130 ([Value.bool false,Value.slice none 0 0,Value.slice none 0 0]),Go.Lx.box b3 53 (([Value.int .i64 rv1.Kind])++((rv1.Set.1.map (Value.int .u64))++([v3])))]) (L:=(G2++Lt)) hs [1,2,3,0,4,5] (by decide) rfl)
 have hs:=hs.perm (List.Perm.cons _ (List.Perm.cons _ (List.Perm.cons _ (List.perm_append_comm_assoc [Go.Lx.box b6 130 ([Value.bool rv2.1.nullable,v8,v9]),Go.Lx.box b4 130 ([Value.bool false,Value.slice none 0 0,Value.slice none 0 0]),Go.Lx.box b3 53 (([Value.int .i64 rv1.Kind])++((rv1.Set.1.map (Value.int .u64))++([v3])))] G2 Lt))))
 obtain ⟨rv3,hrv3,hM⟩:=bindS hM
 refine C [Value.pointer (some ⟨b2,0,none⟩),v9,v8] cf86 rfl (nfa_builder_link_ok hrv3 hs hRv9 hRv8 hrelxs3 hGG2) rfl ?_
 rintro v10 wv6 ⟨gg2,v11,xs5,v12,xs6,G3,hvv10,hlegg2,hrelxs5,hGG3,hs⟩
 replace hRv8:=hRv8.mono hlegg2
 replace hRv9:=hRv9.mono hlegg2
 replace hagi:=hagi.trans hlegg2
 have hs:=hs.perm (List.Perm.cons _ (List.Perm.cons _ (List.Perm.cons _ (List.perm_append_comm_assoc G3 [Go.Lx.box b6 130 ([Value.bool rv2.1.nullable,v8,v9]),Go.Lx.box b4 130 ([Value.bool false,Value.slice none 0 0,Value.slice none 0 0]),Go.Lx.box b3 53 (([Value.int .i64 rv1.Kind])++((rv1.Set.1.map (Value.int .u64))++([v3])))] Lt))))
 refine OW_nil<|WP_seq<|WP_region<|O (r_fieldAddr Tryz.underlying130 ti4 rfl rfl (by decide) rfl rfl) rfl<|OW_store1 ti4 hs (i:=3) rfl rfl (v:=Value.bool true) rfl rfl (o:=0) (by simp) ?_
 intro wv7 hs
 refine OW_nil<|WP_seq<|WP_region<|O (r_loadN (cs:=[Value.bool true,v8,v9]) ti130 rfl rfl (hs.cells (i:=3) rfl)) rfl<|OW_storeAll ti130 hs (i:=4) rfl rfl (v:=Value.agg (List.toArray (α:=Value) [Value.bool true,v8,v9])) rfl (vs:=[Value.bool true,v8,v9]) rfl (one_cons rfl (one_cons (by obtain ⟨_,_,h9⟩:=hRv8.shape; rw [h9]; rfl) (one_cons (by obtain ⟨_,_,h9⟩:=hRv9.shape; rw [h9]; rfl) one_nil))) rfl rfl ?_
 intro wv8 hs
 refine OW_nil<|WP_ret ?_
 obtain rfl:=Option.some.inj hM
 refine FL_nil hds ?_
 exact ⟨_,res1 Tryz.results109 (rv_cells (vs:=[Value.bool true,v8,v9]) ti130 rfl rfl (hs.cells (i:=4) rfl)),gg2,v11,xs5,v12,xs6,G3,⟨[Value.bool true,v8,v9],rfl,⟨[Value.bool true],[v8],[v9],rfl,rfl,⟨_,rfl,hRv8⟩,⟨_,rfl,hRv9⟩⟩⟩,hagi,hrelxs5,hGG3,(Sep.selT (A:=[Go.Lx.box b2 128 ([v11,v12]),.row v11 50 (tVec 4 .u64).sz rv3.sets.length xs5,.row v12 125 1 rv3.behind.length xs6,Go.Lx.box b6 130 ([Value.bool true,v8,v9]),Go.Lx.box b4 130 ([Value.bool true,v8,v9]),Go.Lx.box b3 53 (([Value.int .i64 rv1.Kind])++((rv1.Set.1.map (Value.int .u64))++([v3])))]) (A':=[Go.Lx.box b2 128 ([v11,v12]),.row v11 50 (tVec 4 .u64).sz rv3.sets.length xs5,.row v12 125 1 rv3.behind.length xs6]) (L:=(G3++Lt)) hs [0,1,2] (by decide) rfl)⟩
set_option maxRecDepth 100000 in
theorem nfa_builder_expr_step {fl:Nat} (ih_nfa_builder_concat:C.nfa_builder_concat fl) (ih_nfa_builder_union:C.nfa_builder_union fl) (ih_nfa_builder_star:C.nfa_builder_star fl):C.nfa_builder_expr (fl+1):=by
 intro b1 rv1 r hM g0 w0 gi wi Lt b2 v1 xs1 v2 xs2 G1 hs cs1 hcs1 hrelxs1 hGG1
 unfold M.nfa_builder_expr at hM
 obtain ⟨cs2,cs3,cs4,rfl,hcs2,hcs3,hcs4⟩:=tT_Regex_iff.1 hcs1
 have hcs2:cs2=_:=hcs2; subst hcs2
 have hcs3:cs3=_:=hcs3; subst hcs3
 obtain ⟨v3,rfl,hRv3⟩:=hcs4
 have hagi:=Hle.refl gi
 refine calls_of_WP (args:=[Value.pointer (some ⟨b2,0,none⟩),Value.agg (List.toArray (α:=Value) (([Value.int .i64 rv1.Kind])++((rv1.Set.1.map (Value.int .u64))++([v3]))))]) Tryz.func85 rfl Tryz.ntmps85 rfl ?_
 have hds:(argEnv [Value.pointer (some ⟨b2,0,none⟩),Value.agg (List.toArray (α:=Value) (([Value.int .i64 rv1.Kind])++((rv1.Set.1.map (Value.int .u64))++([v3]))))]).ds=[]:=rfl
 refine WP_seq<|WP_region<|OW_box (v:=Value.agg (List.toArray (α:=Value) (([Value.int .i64 rv1.Kind])++((rv1.Set.1.map (Value.int .u64))++([v3]))))) rfl hs (zs:=([Value.int .i64 rv1.Kind])++((rv1.Set.1.map (Value.int .u64))++([v3]))) rfl rfl ?_
 intro b3 wv1 hs
 refine OW_alloc ti130 hs (zs:=[Value.bool false,Value.slice none 0 0,Value.slice none 0 0]) rfl rfl ?_
 intro b4 wv2 hs
 refine OW_nil<|WP_seq<|WP_region<|OW_makeMap hs rfl ?_
 intro b5 wv3 hs
 have hmb5:MRel (Value.int .i64) (fun (k:Nat)=>Value.func (.func k) #[] #[]) #[] 0 []:=mrel_nil
 refine OW_mapIns (kk:=1) (vv:=104) Tryz.underlying153 (keyLaw_int Tryz.underlying3) hs (i:=0) rfl hmb5 rfl rfl rfl ?_
 intro es1 ck1 wv4 hmes1 hs
 refine OW_mapIns (kk:=2) (vv:=105) Tryz.underlying153 (keyLaw_int Tryz.underlying3) hs (i:=0) rfl hmes1 rfl rfl rfl ?_
 intro es2 ck2 wv5 hmes2 hs
 refine OW_mapIns (kk:=3) (vv:=106) Tryz.underlying153 (keyLaw_int Tryz.underlying3) hs (i:=0) rfl hmes2 rfl rfl rfl ?_
 intro es3 ck3 wv6 hmes3 hs
 refine OW_mapIns (kk:=4) (vv:=107) Tryz.underlying153 (keyLaw_int Tryz.underlying3) hs (i:=0) rfl hmes3 rfl rfl rfl ?_
 intro es4 ck4 wv7 hmes4 hs
 refine OW_mapIns (kk:=5) (vv:=108) Tryz.underlying153 (keyLaw_int Tryz.underlying3) hs (i:=0) rfl hmes4 rfl rfl rfl ?_
 intro es5 ck5 wv8 hmes5 hs
 refine OW_mapIns (kk:=6) (vv:=109) Tryz.underlying153 (keyLaw_int Tryz.underlying3) hs (i:=0) rfl hmes5 rfl rfl rfl ?_
 intro es6 ck6 wv9 hmes6 hs
 refine O (r_move (v:=Value.map (some b5)) rfl) rfl<|O (r_assign (v:=Value.map (some b5)) rfl) rfl<|OW_nil<|WP_seq<|WP_region<|O (r_move (v:=Value.map (some b5)) rfl) rfl<|O (r_fieldAddr Tryz.underlying53 ti3 rfl rfl (by decide) rfl rfl) rfl<|O (r_load (v:=Value.int .i64 rv1.Kind) ti3 rfl (hs.cell (i:=2) (o:=0) rfl (by simp [rv1.Set.2]))) rfl ?_
 rcases condS hM with ⟨hg1,hM⟩|⟨hg1,hM⟩
 ·refine O (v:=Value.func (.func 109) #[] #[]) (r_lookupF (kk:=rv1.Kind) (vv:=109) Tryz.underlying153 (keyLaw_int Tryz.underlying3) hs (i:=0) rfl hmes6 rfl rfl (by rw [eq_of_beq hg1]; rfl)) rfl<|O (r_move (v:=Value.pointer (some ⟨b2,0,none⟩)) rfl) rfl<|O (r_loadN (cs:=([Value.int .i64 rv1.Kind])++((rv1.Set.1.map (Value.int .u64))++([v3]))) ti53 rfl (by simp [rv1.Set.2]) (hs.cells (i:=2) rfl)) rfl ?_
  have hs:Go.Lx.Sep g0 w0 gi _ (Go.Lx.box b2 128 ([v1,v2])::.row v1 50 (tVec 4 .u64).sz b1.sets.length xs1::.row v2 125 1 b1.behind.length xs2::.obj b5 (.map es6 ck6)::Go.Lx.box b4 130 ([Value.bool false,Value.slice none 0 0,Value.slice none 0 0])::Go.Lx.box b3 53 (([Value.int .i64 rv1.Kind])++((rv1.Set.1.map (Value.int .u64))++([v3])))::(G1++Lt)):=(Sep.selT (A:=[.obj b5 (.map es6 ck6),Go.Lx.box b4 130 ([Value.bool false,Value.slice none 0 0,Value.slice none 0 0]),Go.Lx.box b3 53 (([Value.int .i64 rv1.Kind])++((rv1.Set.1.map (Value.int .u64))++([v3]))),Go.Lx.box b2 128 ([v1,v2]),.row v1 50 (tVec 4 .u64).sz b1.sets.length xs1,.row v2 125 1 b1.behind.length xs2]) (A':=[Go.Lx.box b2 128 ([v1,v2]),.row v1 50 (tVec 4 .u64).sz b1.sets.length xs1,.row v2 125 1 b1.behind.length xs2,.obj b5 (.map es6 ck6),Go.Lx.box b4 130 ([Value.bool false,Value.slice none 0 0,Value.slice none 0 0]),Go.Lx.box b3 53 (([Value.int .i64 rv1.Kind])++((rv1.Set.1.map (Value.int .u64))++([v3])))]) (L:=(G1++Lt)) hs [3,4,5,0,1,2] (by decide) rfl)
  have hs:=hs.perm (List.Perm.cons _ (List.Perm.cons _ (List.Perm.cons _ (List.perm_append_comm_assoc [.obj b5 (.map es6 ck6),Go.Lx.box b4 130 ([Value.bool false,Value.slice none 0 0,Value.slice none 0 0]),Go.Lx.box b3 53 (([Value.int .i64 rv1.Kind])++((rv1.Set.1.map (Value.int .u64))++([v3])))] G1 Lt))))
  obtain ⟨rv2,hrv2,hM⟩:=bindS hM
  refine CV [Value.pointer (some ⟨b2,0,none⟩),Value.agg (List.toArray (α:=Value) (([Value.int .i64 rv1.Kind])++((rv1.Set.1.map (Value.int .u64))++([v3]))))] [] cf109 rfl rfl (ih_nfa_builder_star hrv2 hs (tT_Regex_iff.2 ⟨[Value.int .i64 rv1.Kind],rv1.Set.1.map (Value.int .u64),[v3],rfl,rfl,rfl,⟨_,rfl,hRv3⟩⟩) hrelxs1 hGG1) rfl ?_
  rintro v4 wv10 ⟨gg1,v5,xs3,v6,xs4,G2,hvv4,hlegg1,hrelxs3,hGG2,hs⟩
  replace hagi:=hagi.trans hlegg1
  have hs:=hs.perm (List.Perm.cons _ (List.Perm.cons _ (List.Perm.cons _ (List.perm_append_comm_assoc G2 [.obj b5 (.map es6 ck6),Go.Lx.box b4 130 ([Value.bool false,Value.slice none 0 0,Value.slice none 0 0]),Go.Lx.box b3 53 (([Value.int .i64 rv1.Kind])++((rv1.Set.1.map (Value.int .u64))++([v3])))] Lt))))
  obtain ⟨cs5,rfl,hcs5⟩:=hvv4
  obtain ⟨cs6,cs7,cs8,rfl,hcs6,hcs7,hcs8⟩:=hcs5
  have hcs6:cs6=_:=hcs6; subst hcs6
  obtain ⟨v7,rfl,hRv7⟩:=hcs7
  obtain ⟨v8,rfl,hRv8⟩:=hcs8
  refine OW_storeAll ti130 hs (i:=4) rfl rfl (v:=Value.agg (List.toArray (α:=Value) [Value.bool rv2.1.nullable,v7,v8])) rfl (vs:=[Value.bool rv2.1.nullable,v7,v8]) rfl (one_cons rfl (one_cons (by obtain ⟨_,_,h9⟩:=hRv7.shape; rw [h9]; rfl) (one_cons (by obtain ⟨_,_,h9⟩:=hRv8.shape; rw [h9]; rfl) one_nil))) rfl rfl ?_
  intro wv11 hs
  refine OW_nil<|WP_ret ?_
  obtain rfl:=Option.some.inj hM
  refine FL_nil hds ?_
  exact ⟨_,res1 Tryz.results85 (rv_cells (vs:=[Value.bool rv2.1.nullable,v7,v8]) ti130 rfl rfl (hs.cells (i:=4) rfl)),gg1,v5,xs3,v6,xs4,G2,⟨[Value.bool rv2.1.nullable,v7,v8],rfl,⟨[Value.bool rv2.1.nullable],[v7],[v8],rfl,rfl,⟨_,rfl,hRv7⟩,⟨_,rfl,hRv8⟩⟩⟩,hagi,hrelxs3,hGG2,(Sep.selT (A:=[Go.Lx.box b2 128 ([v5,v6]),.row v5 50 (tVec 4 .u64).sz rv2.2.sets.length xs3,.row v6 125 1 rv2.2.behind.length xs4,.obj b5 (.map es6 ck6),Go.Lx.box b4 130 ([Value.bool rv2.1.nullable,v7,v8]),Go.Lx.box b3 53 (([Value.int .i64 rv1.Kind])++((rv1.Set.1.map (Value.int .u64))++([v3])))]) (A':=[Go.Lx.box b2 128 ([v5,v6]),.row v5 50 (tVec 4 .u64).sz rv2.2.sets.length xs3,.row v6 125 1 rv2.2.behind.length xs4]) (L:=(G2++Lt)) hs [0,1,2] (by decide) rfl)⟩
 ·rcases condS hM with ⟨hg2,hM⟩|⟨hg2,hM⟩
  ·refine O (v:=Value.func (.func 108) #[] #[]) (r_lookupF (kk:=rv1.Kind) (vv:=108) Tryz.underlying153 (keyLaw_int Tryz.underlying3) hs (i:=0) rfl hmes6 rfl rfl (by rw [eq_of_beq hg2]; rfl)) rfl<|O (r_move (v:=Value.pointer (some ⟨b2,0,none⟩)) rfl) rfl<|O (r_loadN (cs:=([Value.int .i64 rv1.Kind])++((rv1.Set.1.map (Value.int .u64))++([v3]))) ti53 rfl (by simp [rv1.Set.2]) (hs.cells (i:=2) rfl)) rfl ?_
   have hs:Go.Lx.Sep g0 w0 gi _ (Go.Lx.box b2 128 ([v1,v2])::.row v1 50 (tVec 4 .u64).sz b1.sets.length xs1::.row v2 125 1 b1.behind.length xs2::.obj b5 (.map es6 ck6)::Go.Lx.box b4 130 ([Value.bool false,Value.slice none 0 0,Value.slice none 0 0])::Go.Lx.box b3 53 (([Value.int .i64 rv1.Kind])++((rv1.Set.1.map (Value.int .u64))++([v3])))::(G1++Lt)):=(Sep.selT (A:=[.obj b5 (.map es6 ck6),Go.Lx.box b4 130 ([Value.bool false,Value.slice none 0 0,Value.slice none 0 0]),Go.Lx.box b3 53 (([Value.int .i64 rv1.Kind])++((rv1.Set.1.map (Value.int .u64))++([v3]))),Go.Lx.box b2 128 ([v1,v2]),.row v1 50 (tVec 4 .u64).sz b1.sets.length xs1,.row v2 125 1 b1.behind.length xs2]) (A':=[Go.Lx.box b2 128 ([v1,v2]),.row v1 50 (tVec 4 .u64).sz b1.sets.length xs1,.row v2 125 1 b1.behind.length xs2,.obj b5 (.map es6 ck6),Go.Lx.box b4 130 ([Value.bool false,Value.slice none 0 0,Value.slice none 0 0]),Go.Lx.box b3 53 (([Value.int .i64 rv1.Kind])++((rv1.Set.1.map (Value.int .u64))++([v3])))]) (L:=(G1++Lt)) hs [3,4,5,0,1,2] (by decide) rfl)
   have hs:=hs.perm (List.Perm.cons _ (List.Perm.cons _ (List.Perm.cons _ (List.perm_append_comm_assoc [.obj b5 (.map es6 ck6),Go.Lx.box b4 130 ([Value.bool false,Value.slice none 0 0,Value.slice none 0 0]),Go.Lx.box b3 53 (([Value.int .i64 rv1.Kind])++((rv1.Set.1.map (Value.int .u64))++([v3])))] G1 Lt))))
   obtain ⟨rv3,hrv3,hM⟩:=bindS hM
   refine CV [Value.pointer (some ⟨b2,0,none⟩),Value.agg (List.toArray (α:=Value) (([Value.int .i64 rv1.Kind])++((rv1.Set.1.map (Value.int .u64))++([v3]))))] [] cf108 rfl rfl (ih_nfa_builder_union hrv3 hs (tT_Regex_iff.2 ⟨[Value.int .i64 rv1.Kind],rv1.Set.1.map (Value.int .u64),[v3],rfl,rfl,rfl,⟨_,rfl,hRv3⟩⟩) hrelxs1 hGG1) rfl ?_
   rintro v9 wv12 ⟨gg2,v10,xs5,v11,xs6,G3,hvv9,hlegg2,hrelxs5,hGG3,hs⟩
   replace hagi:=hagi.trans hlegg2
   have hs:=hs.perm (List.Perm.cons _ (List.Perm.cons _ (List.Perm.cons _ (List.perm_append_comm_assoc G3 [.obj b5 (.map es6 ck6),Go.Lx.box b4 130 ([Value.bool false,Value.slice none 0 0,Value.slice none 0 0]),Go.Lx.box b3 53 (([Value.int .i64 rv1.Kind])++((rv1.Set.1.map (Value.int .u64))++([v3])))] Lt))))
   obtain ⟨cs9,rfl,hcs9⟩:=hvv9
   obtain ⟨cs10,cs11,cs12,rfl,hcs10,hcs11,hcs12⟩:=hcs9
   have hcs10:cs10=_:=hcs10; subst hcs10
   obtain ⟨v12,rfl,hRv12⟩:=hcs11
   obtain ⟨v13,rfl,hRv13⟩:=hcs12
   refine OW_storeAll ti130 hs (i:=4) rfl rfl (v:=Value.agg (List.toArray (α:=Value) [Value.bool rv3.1.nullable,v12,v13])) rfl (vs:=[Value.bool rv3.1.nullable,v12,v13]) rfl (one_cons rfl (one_cons (by obtain ⟨_,_,h9⟩:=hRv12.shape; rw [h9]; rfl) (one_cons (by obtain ⟨_,_,h9⟩:=hRv13.shape; rw [h9]; rfl) one_nil))) rfl rfl ?_
   intro wv13 hs
   refine OW_nil<|WP_ret ?_
   obtain rfl:=Option.some.inj hM
   refine FL_nil hds ?_
   exact ⟨_,res1 Tryz.results85 (rv_cells (vs:=[Value.bool rv3.1.nullable,v12,v13]) ti130 rfl rfl (hs.cells (i:=4) rfl)),gg2,v10,xs5,v11,xs6,G3,⟨[Value.bool rv3.1.nullable,v12,v13],rfl,⟨[Value.bool rv3.1.nullable],[v12],[v13],rfl,rfl,⟨_,rfl,hRv12⟩,⟨_,rfl,hRv13⟩⟩⟩,hagi,hrelxs5,hGG3,(Sep.selT (A:=[Go.Lx.box b2 128 ([v10,v11]),.row v10 50 (tVec 4 .u64).sz rv3.2.sets.length xs5,.row v11 125 1 rv3.2.behind.length xs6,.obj b5 (.map es6 ck6),Go.Lx.box b4 130 ([Value.bool rv3.1.nullable,v12,v13]),Go.Lx.box b3 53 (([Value.int .i64 rv1.Kind])++((rv1.Set.1.map (Value.int .u64))++([v3])))]) (A':=[Go.Lx.box b2 128 ([v10,v11]),.row v10 50 (tVec 4 .u64).sz rv3.2.sets.length xs5,.row v11 125 1 rv3.2.behind.length xs6]) (L:=(G3++Lt)) hs [0,1,2] (by decide) rfl)⟩
  ·rcases condS hM with ⟨hg3,hM⟩|⟨hg3,hM⟩
   ·refine O (v:=Value.func (.func 107) #[] #[]) (r_lookupF (kk:=rv1.Kind) (vv:=107) Tryz.underlying153 (keyLaw_int Tryz.underlying3) hs (i:=0) rfl hmes6 rfl rfl (by rw [eq_of_beq hg3]; rfl)) rfl<|O (r_move (v:=Value.pointer (some ⟨b2,0,none⟩)) rfl) rfl<|O (r_loadN (cs:=([Value.int .i64 rv1.Kind])++((rv1.Set.1.map (Value.int .u64))++([v3]))) ti53 rfl (by simp [rv1.Set.2]) (hs.cells (i:=2) rfl)) rfl ?_
    have hs:Go.Lx.Sep g0 w0 gi _ (Go.Lx.box b2 128 ([v1,v2])::.row v1 50 (tVec 4 .u64).sz b1.sets.length xs1::.row v2 125 1 b1.behind.length xs2::.obj b5 (.map es6 ck6)::Go.Lx.box b4 130 ([Value.bool false,Value.slice none 0 0,Value.slice none 0 0])::Go.Lx.box b3 53 (([Value.int .i64 rv1.Kind])++((rv1.Set.1.map (Value.int .u64))++([v3])))::(G1++Lt)):=(Sep.selT (A:=[.obj b5 (.map es6 ck6),Go.Lx.box b4 130 ([Value.bool false,Value.slice none 0 0,Value.slice none 0 0]),Go.Lx.box b3 53 (([Value.int .i64 rv1.Kind])++((rv1.Set.1.map (Value.int .u64))++([v3]))),Go.Lx.box b2 128 ([v1,v2]),.row v1 50 (tVec 4 .u64).sz b1.sets.length xs1,.row v2 125 1 b1.behind.length xs2]) (A':=[Go.Lx.box b2 128 ([v1,v2]),.row v1 50 (tVec 4 .u64).sz b1.sets.length xs1,.row v2 125 1 b1.behind.length xs2,.obj b5 (.map es6 ck6),Go.Lx.box b4 130 ([Value.bool false,Value.slice none 0 0,Value.slice none 0 0]),Go.Lx.box b3 53 (([Value.int .i64 rv1.Kind])++((rv1.Set.1.map (Value.int .u64))++([v3])))]) (L:=(G1++Lt)) hs [3,4,5,0,1,2] (by decide) rfl)
    have hs:=hs.perm (List.Perm.cons _ (List.Perm.cons _ (List.Perm.cons _ (List.perm_append_comm_assoc [.obj b5 (.map es6 ck6),Go.Lx.box b4 130 ([Value.bool false,Value.slice none 0 0,Value.slice none 0 0]),Go.Lx.box b3 53 (([Value.int .i64 rv1.Kind])++((rv1.Set.1.map (Value.int .u64))++([v3])))] G1 Lt))))
    obtain ⟨rv4,hrv4,hM⟩:=bindS hM
    refine CV [Value.pointer (some ⟨b2,0,none⟩),Value.agg (List.toArray (α:=Value) (([Value.int .i64 rv1.Kind])++((rv1.Set.1.map (Value.int .u64))++([v3]))))] [] cf107 rfl rfl (ih_nfa_builder_concat hrv4 hs (tT_Regex_iff.2 ⟨[Value.int .i64 rv1.Kind],rv1.Set.1.map (Value.int .u64),[v3],rfl,rfl,rfl,⟨_,rfl,hRv3⟩⟩) hrelxs1 hGG1) rfl ?_
    rintro v14 wv14 ⟨gg3,v15,xs7,v16,xs8,G4,hvv14,hlegg3,hrelxs7,hGG4,hs⟩
    replace hagi:=hagi.trans hlegg3
    have hs:=hs.perm (List.Perm.cons _ (List.Perm.cons _ (List.Perm.cons _ (List.perm_append_comm_assoc G4 [.obj b5 (.map es6 ck6),Go.Lx.box b4 130 ([Value.bool false,Value.slice none 0 0,Value.slice none 0 0]),Go.Lx.box b3 53 (([Value.int .i64 rv1.Kind])++((rv1.Set.1.map (Value.int .u64))++([v3])))] Lt))))
    obtain ⟨cs13,rfl,hcs13⟩:=hvv14
    obtain ⟨cs14,cs15,cs16,rfl,hcs14,hcs15,hcs16⟩:=hcs13
    have hcs14:cs14=_:=hcs14; subst hcs14
    obtain ⟨v17,rfl,hRv17⟩:=hcs15
    obtain ⟨v18,rfl,hRv18⟩:=hcs16
    refine OW_storeAll ti130 hs (i:=4) rfl rfl (v:=Value.agg (List.toArray (α:=Value) [Value.bool rv4.1.nullable,v17,v18])) rfl (vs:=[Value.bool rv4.1.nullable,v17,v18]) rfl (one_cons rfl (one_cons (by obtain ⟨_,_,h9⟩:=hRv17.shape; rw [h9]; rfl) (one_cons (by obtain ⟨_,_,h9⟩:=hRv18.shape; rw [h9]; rfl) one_nil))) rfl rfl ?_
    intro wv15 hs
    refine OW_nil<|WP_ret ?_
    obtain rfl:=Option.some.inj hM
    refine FL_nil hds ?_
    exact ⟨_,res1 Tryz.results85 (rv_cells (vs:=[Value.bool rv4.1.nullable,v17,v18]) ti130 rfl rfl (hs.cells (i:=4) rfl)),gg3,v15,xs7,v16,xs8,G4,⟨[Value.bool rv4.1.nullable,v17,v18],rfl,⟨[Value.bool rv4.1.nullable],[v17],[v18],rfl,rfl,⟨_,rfl,hRv17⟩,⟨_,rfl,hRv18⟩⟩⟩,hagi,hrelxs7,hGG4,(Sep.selT (A:=[Go.Lx.box b2 128 ([v15,v16]),.row v15 50 (tVec 4 .u64).sz rv4.2.sets.length xs7,.row v16 125 1 rv4.2.behind.length xs8,.obj b5 (.map es6 ck6),Go.Lx.box b4 130 ([Value.bool rv4.1.nullable,v17,v18]),Go.Lx.box b3 53 (([Value.int .i64 rv1.Kind])++((rv1.Set.1.map (Value.int .u64))++([v3])))]) (A':=[Go.Lx.box b2 128 ([v15,v16]),.row v15 50 (tVec 4 .u64).sz rv4.2.sets.length xs7,.row v16 125 1 rv4.2.behind.length xs8]) (L:=(G4++Lt)) hs [0,1,2] (by decide) rfl)⟩
   ·rcases condS hM with ⟨hg4,hM⟩|⟨hg4,hM⟩
    ·refine O (v:=Value.func (.func 106) #[] #[]) (r_lookupF (kk:=rv1.Kind) (vv:=106) Tryz.underlying153 (keyLaw_int Tryz.underlying3) hs (i:=0) rfl hmes6 rfl rfl (by rw [eq_of_beq hg4]; rfl)) rfl<|O (r_move (v:=Value.pointer (some ⟨b2,0,none⟩)) rfl) rfl<|O (r_loadN (cs:=([Value.int .i64 rv1.Kind])++((rv1.Set.1.map (Value.int .u64))++([v3]))) ti53 rfl (by simp [rv1.Set.2]) (hs.cells (i:=2) rfl)) rfl ?_
     have hs:Go.Lx.Sep g0 w0 gi _ (Go.Lx.box b2 128 ([v1,v2])::.row v1 50 (tVec 4 .u64).sz b1.sets.length xs1::.row v2 125 1 b1.behind.length xs2::.obj b5 (.map es6 ck6)::Go.Lx.box b4 130 ([Value.bool false,Value.slice none 0 0,Value.slice none 0 0])::Go.Lx.box b3 53 (([Value.int .i64 rv1.Kind])++((rv1.Set.1.map (Value.int .u64))++([v3])))::(G1++Lt)):=(Sep.selT (A:=[.obj b5 (.map es6 ck6),Go.Lx.box b4 130 ([Value.bool false,Value.slice none 0 0,Value.slice none 0 0]),Go.Lx.box b3 53 (([Value.int .i64 rv1.Kind])++((rv1.Set.1.map (Value.int .u64))++([v3]))),Go.Lx.box b2 128 ([v1,v2]),.row v1 50 (tVec 4 .u64).sz b1.sets.length xs1,.row v2 125 1 b1.behind.length xs2]) (A':=[Go.Lx.box b2 128 ([v1,v2]),.row v1 50 (tVec 4 .u64).sz b1.sets.length xs1,.row v2 125 1 b1.behind.length xs2,.obj b5 (.map es6 ck6),Go.Lx.box b4 130 ([Value.bool false,Value.slice none 0 0,Value.slice none 0 0]),Go.Lx.box b3 53 (([Value.int .i64 rv1.Kind])++((rv1.Set.1.map (Value.int .u64))++([v3])))]) (L:=(G1++Lt)) hs [3,4,5,0,1,2] (by decide) rfl)
     have hs:=hs.perm (List.Perm.cons _ (List.Perm.cons _ (List.Perm.cons _ (List.perm_append_comm_assoc [.obj b5 (.map es6 ck6),Go.Lx.box b4 130 ([Value.bool false,Value.slice none 0 0,Value.slice none 0 0]),Go.Lx.box b3 53 (([Value.int .i64 rv1.Kind])++((rv1.Set.1.map (Value.int .u64))++([v3])))] G1 Lt))))
     obtain ⟨rv5,hrv5,hM⟩:=bindS hM
     refine CV [Value.pointer (some ⟨b2,0,none⟩),Value.agg (List.toArray (α:=Value) (([Value.int .i64 rv1.Kind])++((rv1.Set.1.map (Value.int .u64))++([v3]))))] [] cf106 rfl rfl (nfa_builder_set_ok hrv5 hs (tT_Regex_iff.2 ⟨[Value.int .i64 rv1.Kind],rv1.Set.1.map (Value.int .u64),[v3],rfl,rfl,rfl,⟨_,rfl,hRv3⟩⟩) hrelxs1 hGG1) rfl ?_
     rintro v19 wv16 ⟨gg4,v20,xs9,v21,xs10,G5,hvv19,hlegg4,hrelxs9,hGG5,hs⟩
     replace hagi:=hagi.trans hlegg4
     have hs:=hs.perm (List.Perm.cons _ (List.Perm.cons _ (List.Perm.cons _ (List.perm_append_comm_assoc G5 [.obj b5 (.map es6 ck6),Go.Lx.box b4 130 ([Value.bool false,Value.slice none 0 0,Value.slice none 0 0]),Go.Lx.box b3 53 (([Value.int .i64 rv1.Kind])++((rv1.Set.1.map (Value.int .u64))++([v3])))] Lt))))
     obtain ⟨cs17,rfl,hcs17⟩:=hvv19
     obtain ⟨cs18,cs19,cs20,rfl,hcs18,hcs19,hcs20⟩:=hcs17
     have hcs18:cs18=_:=hcs18; subst hcs18
     obtain ⟨v22,rfl,hRv22⟩:=hcs19
     obtain ⟨v23,rfl,hRv23⟩:=hcs20
     refine OW_storeAll ti130 hs (i:=4) rfl rfl (v:=Value.agg (List.toArray (α:=Value) [Value.bool rv5.1.nullable,v22,v23])) rfl (vs:=[Value.bool rv5.1.nullable,v22,v23]) rfl (one_cons rfl (one_cons (by obtain ⟨_,_,h9⟩:=hRv22.shape; rw [h9]; rfl) (one_cons (by obtain ⟨_,_,h9⟩:=hRv23.shape; rw [h9]; rfl) one_nil))) rfl rfl ?_
     intro wv17 hs
     refine OW_nil<|WP_ret ?_
     obtain rfl:=Option.some.inj hM
     refine FL_nil hds ?_
     exact ⟨_,res1 Tryz.results85 (rv_cells (vs:=[Value.bool rv5.1.nullable,v22,v23]) ti130 rfl rfl (hs.cells (i:=4) rfl)),gg4,v20,xs9,v21,xs10,G5,⟨[Value.bool rv5.1.nullable,v22,v23],rfl,⟨[Value.bool rv5.1.nullable],[v22],[v23],rfl,rfl,⟨_,rfl,hRv22⟩,⟨_,rfl,hRv23⟩⟩⟩,hagi,hrelxs9,hGG5,(Sep.selT (A:=[Go.Lx.box b2 128 ([v20,v21]),.row v20 50 (tVec 4 .u64).sz rv5.2.sets.length xs9,.row v21 125 1 rv5.2.behind.length xs10,.obj b5 (.map es6 ck6),Go.Lx.box b4 130 ([Value.bool rv5.1.nullable,v22,v23]),Go.Lx.box b3 53 (([Value.int .i64 rv1.Kind])++((rv1.Set.1.map (Value.int .u64))++([v3])))]) (A':=[Go.Lx.box b2 128 ([v20,v21]),.row v20 50 (tVec 4 .u64).sz rv5.2.sets.length xs9,.row v21 125 1 rv5.2.behind.length xs10]) (L:=(G5++Lt)) hs [0,1,2] (by decide) rfl)⟩
    ·rcases condS hM with ⟨hg5,hM⟩|⟨hg5,hM⟩
     ·refine O (v:=Value.func (.func 105) #[] #[]) (r_lookupF (kk:=rv1.Kind) (vv:=105) Tryz.underlying153 (keyLaw_int Tryz.underlying3) hs (i:=0) rfl hmes6 rfl rfl (by rw [eq_of_beq hg5]; rfl)) rfl<|O (r_move (v:=Value.pointer (some ⟨b2,0,none⟩)) rfl) rfl<|O (r_loadN (cs:=([Value.int .i64 rv1.Kind])++((rv1.Set.1.map (Value.int .u64))++([v3]))) ti53 rfl (by simp [rv1.Set.2]) (hs.cells (i:=2) rfl)) rfl ?_
      have hs:Go.Lx.Sep g0 w0 gi _ (Go.Lx.box b2 128 ([v1,v2])::.row v1 50 (tVec 4 .u64).sz b1.sets.length xs1::.row v2 125 1 b1.behind.length xs2::.obj b5 (.map es6 ck6)::Go.Lx.box b4 130 ([Value.bool false,Value.slice none 0 0,Value.slice none 0 0])::Go.Lx.box b3 53 (([Value.int .i64 rv1.Kind])++((rv1.Set.1.map (Value.int .u64))++([v3])))::(G1++Lt)):=(Sep.selT (A:=[.obj b5 (.map es6 ck6),Go.Lx.box b4 130 ([Value.bool false,Value.slice none 0 0,Value.slice none 0 0]),Go.Lx.box b3 53 (([Value.int .i64 rv1.Kind])++((rv1.Set.1.map (Value.int .u64))++([v3]))),Go.Lx.box b2 128 ([v1,v2]),.row v1 50 (tVec 4 .u64).sz b1.sets.length xs1,.row v2 125 1 b1.behind.length xs2]) (A':=[Go.Lx.box b2 128 ([v1,v2]),.row v1 50 (tVec 4 .u64).sz b1.sets.length xs1,.row v2 125 1 b1.behind.length xs2,.obj b5 (.map es6 ck6),Go.Lx.box b4 130 ([Value.bool false,Value.slice none 0 0,Value.slice none 0 0]),Go.Lx.box b3 53 (([Value.int .i64 rv1.Kind])++((rv1.Set.1.map (Value.int .u64))++([v3])))]) (L:=(G1++Lt)) hs [3,4,5,0,1,2] (by decide) rfl)
      have hs:=hs.perm (List.Perm.cons _ (List.Perm.cons _ (List.Perm.cons _ (List.perm_append_comm_assoc [.obj b5 (.map es6 ck6),Go.Lx.box b4 130 ([Value.bool false,Value.slice none 0 0,Value.slice none 0 0]),Go.Lx.box b3 53 (([Value.int .i64 rv1.Kind])++((rv1.Set.1.map (Value.int .u64))++([v3])))] G1 Lt))))
      obtain ⟨rv6,hrv6,hM⟩:=bindS hM
      refine CV [Value.pointer (some ⟨b2,0,none⟩),Value.agg (List.toArray (α:=Value) (([Value.int .i64 rv1.Kind])++((rv1.Set.1.map (Value.int .u64))++([v3]))))] [] cf105 rfl rfl (nfa_builder_empty_ok hrv6 hs (tT_Regex_iff.2 ⟨[Value.int .i64 rv1.Kind],rv1.Set.1.map (Value.int .u64),[v3],rfl,rfl,rfl,⟨_,rfl,hRv3⟩⟩) hrelxs1 hGG1) rfl ?_
      rintro v24 wv18 ⟨gg5,v25,xs11,v26,xs12,G6,hvv24,hlegg5,hrelxs11,hGG6,hs⟩
      replace hagi:=hagi.trans hlegg5
      have hs:=hs.perm (List.Perm.cons _ (List.Perm.cons _ (List.Perm.cons _ (List.perm_append_comm_assoc G6 [.obj b5 (.map es6 ck6),Go.Lx.box b4 130 ([Value.bool false,Value.slice none 0 0,Value.slice none 0 0]),Go.Lx.box b3 53 (([Value.int .i64 rv1.Kind])++((rv1.Set.1.map (Value.int .u64))++([v3])))] Lt))))
      obtain ⟨cs21,rfl,hcs21⟩:=hvv24
      obtain ⟨cs22,cs23,cs24,rfl,hcs22,hcs23,hcs24⟩:=hcs21
      have hcs22:cs22=_:=hcs22; subst hcs22
      obtain ⟨v27,rfl,hRv27⟩:=hcs23
      obtain ⟨v28,rfl,hRv28⟩:=hcs24
      refine OW_storeAll ti130 hs (i:=4) rfl rfl (v:=Value.agg (List.toArray (α:=Value) [Value.bool rv6.1.nullable,v27,v28])) rfl (vs:=[Value.bool rv6.1.nullable,v27,v28]) rfl (one_cons rfl (one_cons (by obtain ⟨_,_,h9⟩:=hRv27.shape; rw [h9]; rfl) (one_cons (by obtain ⟨_,_,h9⟩:=hRv28.shape; rw [h9]; rfl) one_nil))) rfl rfl ?_
      intro wv19 hs
      refine OW_nil<|WP_ret ?_
      obtain rfl:=Option.some.inj hM
      refine FL_nil hds ?_
      exact ⟨_,res1 Tryz.results85 (rv_cells (vs:=[Value.bool rv6.1.nullable,v27,v28]) ti130 rfl rfl (hs.cells (i:=4) rfl)),gg5,v25,xs11,v26,xs12,G6,⟨[Value.bool rv6.1.nullable,v27,v28],rfl,⟨[Value.bool rv6.1.nullable],[v27],[v28],rfl,rfl,⟨_,rfl,hRv27⟩,⟨_,rfl,hRv28⟩⟩⟩,hagi,hrelxs11,hGG6,(Sep.selT (A:=[Go.Lx.box b2 128 ([v25,v26]),.row v25 50 (tVec 4 .u64).sz rv6.2.sets.length xs11,.row v26 125 1 rv6.2.behind.length xs12,.obj b5 (.map es6 ck6),Go.Lx.box b4 130 ([Value.bool rv6.1.nullable,v27,v28]),Go.Lx.box b3 53 (([Value.int .i64 rv1.Kind])++((rv1.Set.1.map (Value.int .u64))++([v3])))]) (A':=[Go.Lx.box b2 128 ([v25,v26]),.row v25 50 (tVec 4 .u64).sz rv6.2.sets.length xs11,.row v26 125 1 rv6.2.behind.length xs12]) (L:=(G6++Lt)) hs [0,1,2] (by decide) rfl)⟩
     ·rcases condS hM with ⟨hg6,hM⟩|⟨hg6,hM⟩
      ·refine O (v:=Value.func (.func 104) #[] #[]) (r_lookupF (kk:=rv1.Kind) (vv:=104) Tryz.underlying153 (keyLaw_int Tryz.underlying3) hs (i:=0) rfl hmes6 rfl rfl (by rw [eq_of_beq hg6]; rfl)) rfl<|O (r_move (v:=Value.pointer (some ⟨b2,0,none⟩)) rfl) rfl<|O (r_loadN (cs:=([Value.int .i64 rv1.Kind])++((rv1.Set.1.map (Value.int .u64))++([v3]))) ti53 rfl (by simp [rv1.Set.2]) (hs.cells (i:=2) rfl)) rfl ?_
       have hs:Go.Lx.Sep g0 w0 gi _ (Go.Lx.box b2 128 ([v1,v2])::.row v1 50 (tVec 4 .u64).sz b1.sets.length xs1::.row v2 125 1 b1.behind.length xs2::.obj b5 (.map es6 ck6)::Go.Lx.box b4 130 ([Value.bool false,Value.slice none 0 0,Value.slice none 0 0])::Go.Lx.box b3 53 (([Value.int .i64 rv1.Kind])++((rv1.Set.1.map (Value.int .u64))++([v3])))::(G1++Lt)):=(Sep.selT (A:=[.obj b5 (.map es6 ck6),Go.Lx.box b4 130 ([Value.bool false,Value.slice none 0 0,Value.slice none 0 0]),Go.Lx.box b3 53 (([Value.int .i64 rv1.Kind])++((rv1.Set.1.map (Value.int .u64))++([v3]))),Go.Lx.box b2 128 ([v1,v2]),.row v1 50 (tVec 4 .u64).sz b1.sets.length xs1,.row v2 125 1 b1.behind.length xs2]) (A':=[Go.Lx.box b2 128 ([v1,v2]),.row v1 50 (tVec 4 .u64).sz b1.sets.length xs1,.row v2 125 1 b1.behind.length xs2,.obj b5 (.map es6 ck6),Go.Lx.box b4 130 ([Value.bool false,Value.slice none 0 0,Value.slice none 0 0]),Go.Lx.box b3 53 (([Value.int .i64 rv1.Kind])++((rv1.Set.1.map (Value.int .u64))++([v3])))]) (L:=(G1++Lt)) hs [3,4,5,0,1,2] (by decide) rfl)
       have hs:=hs.perm (List.Perm.cons _ (List.Perm.cons _ (List.Perm.cons _ (List.perm_append_comm_assoc [.obj b5 (.map es6 ck6),Go.Lx.box b4 130 ([Value.bool false,Value.slice none 0 0,Value.slice none 0 0]),Go.Lx.box b3 53 (([Value.int .i64 rv1.Kind])++((rv1.Set.1.map (Value.int .u64))++([v3])))] G1 Lt))))
       obtain ⟨rv7,hrv7,hM⟩:=bindS hM
       refine CV [Value.pointer (some ⟨b2,0,none⟩),Value.agg (List.toArray (α:=Value) (([Value.int .i64 rv1.Kind])++((rv1.Set.1.map (Value.int .u64))++([v3]))))] [] cf104 rfl rfl (nfa_builder_none_ok hrv7 hs (tT_Regex_iff.2 ⟨[Value.int .i64 rv1.Kind],rv1.Set.1.map (Value.int .u64),[v3],rfl,rfl,rfl,⟨_,rfl,hRv3⟩⟩) hrelxs1 hGG1) rfl ?_
       rintro v29 wv20 ⟨gg6,v30,xs13,v31,xs14,G7,hvv29,hlegg6,hrelxs13,hGG7,hs⟩
       replace hagi:=hagi.trans hlegg6
       have hs:=hs.perm (List.Perm.cons _ (List.Perm.cons _ (List.Perm.cons _ (List.perm_append_comm_assoc G7 [.obj b5 (.map es6 ck6),Go.Lx.box b4 130 ([Value.bool false,Value.slice none 0 0,Value.slice none 0 0]),Go.Lx.box b3 53 (([Value.int .i64 rv1.Kind])++((rv1.Set.1.map (Value.int .u64))++([v3])))] Lt))))
       obtain ⟨cs25,rfl,hcs25⟩:=hvv29
       obtain ⟨cs26,cs27,cs28,rfl,hcs26,hcs27,hcs28⟩:=hcs25
       have hcs26:cs26=_:=hcs26; subst hcs26
       obtain ⟨v32,rfl,hRv32⟩:=hcs27
       obtain ⟨v33,rfl,hRv33⟩:=hcs28
       refine OW_storeAll ti130 hs (i:=4) rfl rfl (v:=Value.agg (List.toArray (α:=Value) [Value.bool rv7.1.nullable,v32,v33])) rfl (vs:=[Value.bool rv7.1.nullable,v32,v33]) rfl (one_cons rfl (one_cons (by obtain ⟨_,_,h9⟩:=hRv32.shape; rw [h9]; rfl) (one_cons (by obtain ⟨_,_,h9⟩:=hRv33.shape; rw [h9]; rfl) one_nil))) rfl rfl ?_
       intro wv21 hs
       refine OW_nil<|WP_ret ?_
       obtain rfl:=Option.some.inj hM
       refine FL_nil hds ?_
       exact ⟨_,res1 Tryz.results85 (rv_cells (vs:=[Value.bool rv7.1.nullable,v32,v33]) ti130 rfl rfl (hs.cells (i:=4) rfl)),gg6,v30,xs13,v31,xs14,G7,⟨[Value.bool rv7.1.nullable,v32,v33],rfl,⟨[Value.bool rv7.1.nullable],[v32],[v33],rfl,rfl,⟨_,rfl,hRv32⟩,⟨_,rfl,hRv33⟩⟩⟩,hagi,hrelxs13,hGG7,(Sep.selT (A:=[Go.Lx.box b2 128 ([v30,v31]),.row v30 50 (tVec 4 .u64).sz rv7.2.sets.length xs13,.row v31 125 1 rv7.2.behind.length xs14,.obj b5 (.map es6 ck6),Go.Lx.box b4 130 ([Value.bool rv7.1.nullable,v32,v33]),Go.Lx.box b3 53 (([Value.int .i64 rv1.Kind])++((rv1.Set.1.map (Value.int .u64))++([v3])))]) (A':=[Go.Lx.box b2 128 ([v30,v31]),.row v30 50 (tVec 4 .u64).sz rv7.2.sets.length xs13,.row v31 125 1 rv7.2.behind.length xs14]) (L:=(G7++Lt)) hs [0,1,2] (by decide) rfl)⟩
      ·cases hM
theorem nfa_builder_concat_zero:C.nfa_builder_concat 0:=by
  unfold C.nfa_builder_concat
  intros
  simp_all only [M.nfa_builder_concat,reduceCtorEq]
theorem nfa_builder_union_zero:C.nfa_builder_union 0:=by
  unfold C.nfa_builder_union
  intros
  simp_all only [M.nfa_builder_union,reduceCtorEq]
theorem nfa_builder_star_zero:C.nfa_builder_star 0:=by
  unfold C.nfa_builder_star
  intros
  simp_all only [M.nfa_builder_star,reduceCtorEq]
theorem nfa_builder_expr_zero:C.nfa_builder_expr 0:=by
  unfold C.nfa_builder_expr
  intros
  simp_all only [M.nfa_builder_expr,reduceCtorEq]
theorem nfa_builder_concat_all:∀fl,C.nfa_builder_concat fl∧C.nfa_builder_union fl∧C.nfa_builder_star fl∧C.nfa_builder_expr fl:=by
  intro fl
  induction fl with
  | zero=>exact ⟨nfa_builder_concat_zero,nfa_builder_union_zero,nfa_builder_star_zero,nfa_builder_expr_zero⟩
  | succ fl ih=>
    obtain ⟨ih_nfa_builder_concat,ih_nfa_builder_union,ih_nfa_builder_star,ih_nfa_builder_expr⟩:=ih
    exact ⟨nfa_builder_concat_step ih_nfa_builder_expr,nfa_builder_union_step ih_nfa_builder_expr,nfa_builder_star_step ih_nfa_builder_expr,nfa_builder_expr_step ih_nfa_builder_concat ih_nfa_builder_union ih_nfa_builder_star⟩
theorem nfa_builder_expr_ok {fl:Nat}:C.nfa_builder_expr fl:=(nfa_builder_concat_all fl).2.2.2
theorem keysC88:KeysC Tryz.prog 88 112 125:=keysC_of (ρ:=Tryz.keys88_ren) Tryz.keys88
theorem sortedC87:SortedC Tryz.prog 87 112 3:=sortedC_of (ρ:=Tryz.keys88_ren) (ρ':=Tryz.sorted87_ren) Tryz.keys88 Tryz.sorted87 rfl ⟨fun blk off cap ss W hH hblk hsz=>callsIn_wide.2 (AnyM.slices_Sort_int Tryz.sort111 blk off cap ss W hH hblk hsz),fun p cap W=>callsIn_wide.2 (AnyM.slices_Sort_int_none Tryz.sort111 p cap W)⟩ (enters_of Tryz.func111 (by kernel_rfl) rfl) (enters_of Tryz.func112 (by kernel_rfl) rfl)
end Go.Proofs.YtggpjcdhflcfmaaGreatDoor
