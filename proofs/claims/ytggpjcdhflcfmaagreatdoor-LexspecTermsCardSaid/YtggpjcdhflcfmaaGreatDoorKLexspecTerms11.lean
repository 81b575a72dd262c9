/- Part 11 of what the law leans on: my own layer, printed walks, plain facts. -/
import Derived.Test.YtggpjcdhflcfmaaGreatDoorKLexspecTerms10
set_option linter.unusedVariables false
set_option linter.unusedSimpArgs false
namespace Go.Proofs.YtggpjcdhflcfmaaGreatDoor
open Go.Lx Go.RowKit
set_option maxRecDepth 100000 in
theorem dfa_Minimize_ok {p1:T_DFA} {r:T_DFA} (hM:M.dfa_Minimize p1=some r) {g0:Hp} {w0:World} (hi:Imm g0 w0) {cs1:List Value} (hcs1:tT_DFA.rel g0 cs1 p1) :
    CallsV Tryz.prog 66 #[Value.agg cs1.toArray] w0 (fun v w'=>∃g',(VRd tT_DFA true g' v r)∧Ext g0 w0 g' w'):=by
 unfold M.dfa_Minimize at hM
 obtain ⟨cs2,cs3,cs4,rfl,hcs2,hcs3,hcs4⟩:=hcs1
 obtain ⟨v1,rfl,hRv1⟩:=hcs2
 obtain ⟨v2,rfl,hRv2⟩:=hcs3
 obtain ⟨v3,rfl,hRv3⟩:=hcs4
 have hs:=Sep.start hi
 refine calls_of_WP (args:=[Value.agg (List.toArray (α:=Value) [v1,v2,v3])]) Tryz.func66 rfl Tryz.ntmps66 rfl ?_
 have hds:(argEnv [Value.agg (List.toArray (α:=Value) [v1,v2,v3])]).ds=[]:=rfl
 refine WP_seq<|WP_region<|OW_box (v:=Value.agg (List.toArray (α:=Value) [v1,v2,v3])) rfl hs (zs:=[v1,v2,v3]) rfl rfl ?_
 intro b1 wv1 hs
 refine OW_alloc ti37 hs (zs:=[Value.slice none 0 0,Value.slice none 0 0,Value.slice none 0 0]) rfl rfl ?_
 intro b2 wv2 hs
 refine OW_nil<|WP_seq<|WP_region<|O (r_loadN (cs:=[v1,v2,v3]) ti37 rfl rfl (hs.cells (i:=1) rfl)) rfl ?_
 obtain ⟨rv1,hrv1,hM⟩:=bindS hM
 refine C [Value.agg (List.toArray (α:=Value) [v1,v2,v3])] cf97 rfl (dfa_used_ok hrv1 hs.imm (⟨[v1],[v2],[v3],rfl,⟨_,rfl,hRv1⟩,⟨_,rfl,hRv2⟩,⟨_,rfl,hRv3⟩⟩)) rfl ?_
 rintro v4 wv3 ⟨gg1,hvv4,hegg1⟩
 have hlegg1:=hegg1.le hs.imm
 replace hs:=hs.call hegg1
 obtain ⟨cs5,rfl,hcs5⟩:=hvv4
 obtain ⟨cs6,cs7,cs8,rfl,hcs6,hcs7,hcs8⟩:=hcs5
 obtain ⟨v5,rfl,hRv5⟩:=hcs6
 obtain ⟨v6,rfl,hRv6⟩:=hcs7
 obtain ⟨v7,rfl,hRv7⟩:=hcs8
 obtain ⟨rv2,hrv2,hM⟩:=bindS hM
 refine C [Value.agg (List.toArray (α:=Value) [v5,v6,v7])] cf96 rfl (dfa_pruned_ok hrv2 hs.imm (⟨[v5],[v6],[v7],rfl,⟨_,rfl,hRv5⟩,⟨_,rfl,hRv6⟩,⟨_,rfl,hRv7⟩⟩)) rfl ?_
 rintro v8 wv4 ⟨gg2,hvv8,hegg2⟩
 have hlegg2:=hegg2.le hs.imm
 replace hs:=hs.call hegg2
 obtain ⟨cs9,rfl,hcs9⟩:=hvv8
 obtain ⟨cs10,cs11,cs12,rfl,hcs10,hcs11,hcs12⟩:=hcs9
 obtain ⟨v9,rfl,hRv9⟩:=hcs10
 obtain ⟨v10,rfl,hRv10⟩:=hcs11
 obtain ⟨v11,rfl,hRv11⟩:=hcs12
 refine OW_storeAll ti37 hs (i:=1) rfl rfl (v:=Value.agg (List.toArray (α:=Value) [v9,v10,v11])) rfl (vs:=[v9,v10,v11]) rfl (one_cons (by obtain ⟨_,_,h9⟩:=hRv9.shape; rw [h9]; rfl) (one_cons (by obtain ⟨_,_,h9⟩:=hRv10.shape; rw [h9]; rfl) (one_cons (by obtain ⟨_,_,h9⟩:=hRv11.shape; rw [h9]; rfl) one_nil))) rfl rfl ?_
 intro wv5 hs
 refine OW_nil<|WP_seq<|WP_region<|O (r_loadN (cs:=[v9,v10,v11]) ti37 rfl rfl (hs.cells (i:=1) rfl)) rfl ?_
 obtain ⟨rv3,hrv3,hM⟩:=bindS hM
 refine C [Value.agg (List.toArray (α:=Value) [v9,v10,v11])] cf98 rfl (dfa_partition_ok hrv3 hs.imm (⟨[v9],[v10],[v11],rfl,⟨_,rfl,hRv9⟩,⟨_,rfl,hRv10⟩,⟨_,rfl,hRv11⟩⟩)) rfl ?_
 rintro v12 wv6 ⟨gg3,xs1,hvv12,hegg3⟩
 have hlegg3:=hegg3.ext.le hs.imm
 replace hs:=hs.callOwn hegg3
 simp only [List.cons_append,List.nil_append] at hs
 replace hRv9:=hRv9.mono hlegg3
 replace hRv10:=hRv10.mono hlegg3
 replace hRv11:=hRv11.mono hlegg3
 refine O (r_assign (v:=v12) rfl) rfl<|OW_nil ?_
 obtain ⟨rv6,hx1,hKhx1⟩:=bindS hM
 refine WP_cut (fun E w=>∃(gg18:Hp) (b5:Nat) (v17:Value) (xs6:List Value),E 1=Value.pointer (some ⟨b1,0,none⟩)∧E 2=Value.pointer (some ⟨b2,0,none⟩)∧E 3=v12∧E 4=Value.pointer (some ⟨b5,0,none⟩)∧E.ds=[]∧Hle gg3 gg18∧RowRel (tInt .i64) gg18 xs6 rv6∧Go.Lx.Sep g0 w0 gg18 w [Go.Lx.box b5 37 ([v17,Value.slice none 0 0,Value.slice none 0 0]),.row v17 3 (tInt .i64).sz rv6.length xs6,.row v12 3 (tInt .i64).sz rv3.length xs1,Go.Lx.box b2 37 ([Value.slice none 0 0,Value.slice none 0 0,Value.slice none 0 0]),Go.Lx.box b1 37 ([v9,v10,v11])]) ?_ ?_
 ·have hM:=hx1
  have hagg3:=Hle.refl gg3
  obtain ⟨rv7,hrv7,hM⟩:=bindS hM
  obtain ⟨rv8,hrv8,hM⟩:=bindS hM
  refine WP_any (.q 0 (.q 1 (.q 2 (.q 4 (.c 3 (.c 5 (.q 6 (.s 7 (.s 8 (.leaf)))) (.c 7 (.s 5 (.q 6 (.s 8 (.leaf)))) (.n))) (.c 7 (.s 3 (.s 5 (.q 6 (.s 8 (.leaf))))) (.n))))))) (SS g0 w0 gg3 [.row v12 3 (tInt .i64).sz rv3.length xs1,Go.Lx.box b2 37 ([Value.slice none 0 0,Value.slice none 0 0,Value.slice none 0 0]),Go.Lx.box b1 37 ([v9,v10,v11])]) mo (by decide +kernel) ?_
  have hs:=hs.drew
  have hS:SS g0 w0 gg3 [.row v12 3 (tInt .i64).sz rv3.length xs1,Go.Lx.box b2 37 ([Value.slice none 0 0,Value.slice none 0 0,Value.slice none 0 0]),Go.Lx.box b1 37 ([v9,v10,v11])] _:=⟨gg3,Hle.refl _,hs⟩
  refine A rfl hS (fun w9 ⟨g9,hle9,hs⟩=>r_loadN (cs:=[v9,v10,v11]) ti37 rfl rfl (hs.cells (i:=2) rfl)) rfl<|A rfl hS (fun w9 ⟨g9,hle9,hs⟩=>r_loadN (cs:=[v9,v10,v11]) ti37 rfl rfl (hs.cells (i:=2) rfl)) rfl<|A rfl hS (fun w9 ⟨g9,hle9,hs⟩=>r_move (v:=v12) rfl) rfl<|A rfl hS (fun w9 ⟨g9,hle9,hs⟩=>r_move (v:=v12) rfl) rfl<|A2 rfl ?_ ?_
  ·have hsL10:=hs
   have hRv9L10:=hRv9
   have hRv10L10:=hRv10
   have hRv11L10:=hRv11
   have hvv12L10:=hvv12
   have hagg3L10:=hagg3
   obtain ⟨gg26,hlegg26,hRgg26,hs⟩:=hs.relRow (i:=0) rfl hvv12
   replace hRv9:=hRv9.mono hlegg26
   replace hRv10:=hRv10.mono hlegg26
   replace hRv11:=hRv11.mono hlegg26
   replace hagg3:=hagg3.trans hlegg26
   refine C [Value.agg (List.toArray (α:=Value) [v9,v10,v11]),v12] cf100 rfl (dfa_reached_ok hrv7 hs.imm (⟨[v9],[v10],[v11],rfl,⟨_,rfl,hRv9⟩,⟨_,rfl,hRv10⟩,⟨_,rfl,hRv11⟩⟩) hRgg26) rfl ?_
   rintro v20 wv19 ⟨gg27,xs9,hvv20,hegg27⟩
   obtain ⟨gg28,hlegg28,hs⟩:=hsL10.lentOwn hegg27
   simp only [List.cons_append,List.nil_append] at hs
   have hvv20:RowRel (tInt .i64) gg28 xs9 rv7:=RowRel.flat (fun _ _ _ _ h=>h) hvv20
   replace hRv9:=hRv9L10.mono hlegg28
   replace hRv10:=hRv10L10.mono hlegg28
   replace hRv11:=hRv11L10.mono hlegg28
   replace hvv12:=hvv12L10.mono hlegg28
   replace hagg3:=hagg3L10.trans hlegg28
   refine OW_nil ?_
   replace hS:=hS.to hagg3 (hs.sub (.cons _ (.cons_cons _ (.cons_cons _ (.cons_cons _ .slnil)))))
   refine ⟨fun _=>hS,?_⟩
   refine A2 rfl ?_ ?_
   ·have hsL11:=hs
    have hagg3L11:=hagg3
    obtain ⟨gg29,hlegg29,hRgg29,hs⟩:=hs.relRow (i:=0) rfl hvv20
    replace hRv9:=hRv9.mono hlegg29
    replace hRv10:=hRv10.mono hlegg29
    replace hRv11:=hRv11.mono hlegg29
    replace hvv12:=hvv12.mono hlegg29
    replace hagg3:=hagg3.trans hlegg29
    obtain ⟨gg30,hlegg30,hRgg30,hs⟩:=hs.relRow (i:=0) rfl hvv12
    replace hRv9:=hRv9.mono hlegg30
    replace hRv10:=hRv10.mono hlegg30
    replace hRv11:=hRv11.mono hlegg30
    replace hRgg29:=hRgg29.mono hlegg30
    replace hagg3:=hagg3.trans hlegg30
    refine C [Value.agg (List.toArray (α:=Value) [v9,v10,v11]),v20,v12] cf99 rfl (dfa_classes_ok hrv8 hs.imm (⟨[v9],[v10],[v11],rfl,⟨_,rfl,hRv9⟩,⟨_,rfl,hRv10⟩,⟨_,rfl,hRv11⟩⟩) hRgg29 hRgg30) rfl ?_
    rintro v21 wv20 ⟨gg31,xs10,hvv21,hegg31⟩
    obtain ⟨gg32,hlegg32,hs⟩:=hsL11.lentOwn hegg31
    simp only [List.cons_append,List.nil_append] at hs
    have hvv21:RowRel (tInt .i64) gg32 xs10 rv8:=RowRel.flat (fun _ _ _ _ h=>h) hvv21
    replace hagg3:=hagg3L11.trans hlegg32
    refine OW_nil ?_
    replace hS:=hS.to hagg3 (hs.sub (.cons _ (.cons _ (.cons_cons _ (.cons_cons _ (.cons_cons _ .slnil))))))
    refine ⟨fun _=>hS,?_⟩
    have ho4:=one_of_shape (hs.rowShape (i:=0) rfl)
    refine A rfl hS (fun w9 ⟨g9,hle9,hs⟩=>r_build (vs:=[(0,v21)]) (cs:=[v21,Value.slice none 0 0,Value.slice none 0 0]) rfl (built_fill [(0,1),(1,1),(2,1)] [Value.slice none 0 0,Value.slice none 0 0,Value.slice none 0 0] (fun _=>by kernel_rfl) (fill_step ([]) ([Value.slice none 0 0]) ([Value.slice none 0 0,Value.slice none 0 0]) ([v21]) rfl rfl (cells_one ho4) rfl rfl rfl<|fill_done))) rfl<|A1 rfl<|OW_alloc ti37 hs (zs:=[Value.slice none 0 0,Value.slice none 0 0,Value.slice none 0 0]) rfl rfl ?_
    intro b7 wv21 hs
    refine OW_nil ?_
    replace hS:=hS.to hagg3 (hs.sub (.cons _ (.cons _ (.cons _ (.cons_cons _ (.cons_cons _ (.cons_cons _ .slnil)))))))
    refine ⟨fun _=>hS,?_⟩
    refine A1 rfl<|OW_storeAll ti37 hs (i:=0) rfl rfl (v:=Value.agg (List.toArray (α:=Value) [v21,Value.slice none 0 0,Value.slice none 0 0])) rfl (vs:=[v21,Value.slice none 0 0,Value.slice none 0 0]) rfl (one_cons (by obtain ⟨_,_,h9⟩:=hs.rowShape (i:=1) rfl; rw [h9]; rfl) (one_cons rfl (one_cons rfl one_nil))) rfl rfl ?_
    intro wv22 hs
    refine OW_nil ?_
    refine ⟨fun h=>absurd h (by decide +kernel),?_⟩
    refine AN ?_
    obtain rfl:=Option.some.inj hM
    exact ⟨gg32,b7,v21,xs10,rfl,rfl,rfl,rfl,hds,hagg3,hvv21,(hs.sub (.cons_cons _ (.cons_cons _ (.cons _ (.cons_cons _ (.cons_cons _ (.cons_cons _ .slnil)))))))⟩
   refine A2 rfl ?_ ?_
   ·refine OW_alloc ti37 hs (zs:=[Value.slice none 0 0,Value.slice none 0 0,Value.slice none 0 0]) rfl rfl ?_
    intro b7 wv20 hs
    refine OW_nil ?_
    replace hS:=hS.to hagg3 (hs.sub (.cons _ (.cons _ (.cons_cons _ (.cons_cons _ (.cons_cons _ .slnil))))))
    refine ⟨fun _=>hS,?_⟩
    refine A1 rfl ?_
    have hsL12:=hs
    have hagg3L12:=hagg3
    obtain ⟨gg29,hlegg29,hRgg29,hs⟩:=hs.relRow (i:=1) rfl hvv20
    replace hRv9:=hRv9.mono hlegg29
    replace hRv10:=hRv10.mono hlegg29
    replace hRv11:=hRv11.mono hlegg29
    replace hvv12:=hvv12.mono hlegg29
    replace hagg3:=hagg3.trans hlegg29
    obtain ⟨gg30,hlegg30,hRgg30,hs⟩:=hs.relRow (i:=1) rfl hvv12
    replace hRv9:=hRv9.mono hlegg30
    replace hRv10:=hRv10.mono hlegg30
    replace hRv11:=hRv11.mono hlegg30
    replace hRgg29:=hRgg29.mono hlegg30
    replace hagg3:=hagg3.trans hlegg30
    refine C [Value.agg (List.toArray (α:=Value) [v9,v10,v11]),v20,v12] cf99 rfl (dfa_classes_ok hrv8 hs.imm (⟨[v9],[v10],[v11],rfl,⟨_,rfl,hRv9⟩,⟨_,rfl,hRv10⟩,⟨_,rfl,hRv11⟩⟩) hRgg29 hRgg30) rfl ?_
    rintro v21 wv21 ⟨gg31,xs10,hvv21,hegg31⟩
    obtain ⟨gg32,hlegg32,hs⟩:=hsL12.lentOwn hegg31
    simp only [List.cons_append,List.nil_append] at hs
    have hvv21:RowRel (tInt .i64) gg32 xs10 rv8:=RowRel.flat (fun _ _ _ _ h=>h) hvv21
    replace hagg3:=hagg3L12.trans hlegg32
    refine OW_nil ?_
    replace hS:=hS.to hagg3 (hs.sub (.cons _ (.cons _ (.cons _ (.cons_cons _ (.cons_cons _ (.cons_cons _ .slnil)))))))
    refine ⟨fun _=>hS,?_⟩
    have ho4:=one_of_shape (hs.rowShape (i:=0) rfl)
    refine A rfl hS (fun w9 ⟨g9,hle9,hs⟩=>r_build (vs:=[(0,v21)]) (cs:=[v21,Value.slice none 0 0,Value.slice none 0 0]) rfl (built_fill [(0,1),(1,1),(2,1)] [Value.slice none 0 0,Value.slice none 0 0,Value.slice none 0 0] (fun _=>by kernel_rfl) (fill_step ([]) ([Value.slice none 0 0]) ([Value.slice none 0 0,Value.slice none 0 0]) ([v21]) rfl rfl (cells_one ho4) rfl rfl rfl<|fill_done))) rfl<|A1 rfl<|OW_storeAll ti37 hs (i:=1) rfl rfl (v:=Value.agg (List.toArray (α:=Value) [v21,Value.slice none 0 0,Value.slice none 0 0])) rfl (vs:=[v21,Value.slice none 0 0,Value.slice none 0 0]) rfl (one_cons (by obtain ⟨_,_,h9⟩:=hs.rowShape (i:=0) rfl; rw [h9]; rfl) (one_cons rfl (one_cons rfl one_nil))) rfl rfl ?_
    intro wv22 hs
    refine OW_nil ?_
    refine ⟨fun h=>absurd h (by decide +kernel),?_⟩
    refine AN ?_
    obtain rfl:=Option.some.inj hM
    exact ⟨gg32,b7,v21,xs10,rfl,rfl,rfl,rfl,hds,hagg3,hvv21,(hs.sel [1,0,3,4,5] (by decide) rfl)⟩
   trivial
  refine A2 rfl ?_ ?_
  ·refine OW_alloc ti37 hs (zs:=[Value.slice none 0 0,Value.slice none 0 0,Value.slice none 0 0]) rfl rfl ?_
   intro b7 wv19 hs
   refine OW_nil ?_
   replace hS:=hS.to (Hle.refl _) (hs.sub (.cons _ (.cons_cons _ (.cons_cons _ (.cons_cons _ .slnil)))))
   refine ⟨fun _=>hS,?_⟩
   refine A1 rfl ?_
   have hsL13:=hs
   have hRv9L13:=hRv9
   have hRv10L13:=hRv10
   have hRv11L13:=hRv11
   have hvv12L13:=hvv12
   have hagg3L13:=hagg3
   obtain ⟨gg26,hlegg26,hRgg26,hs⟩:=hs.relRow (i:=1) rfl hvv12
   replace hRv9:=hRv9.mono hlegg26
   replace hRv10:=hRv10.mono hlegg26
   replace hRv11:=hRv11.mono hlegg26
   replace hagg3:=hagg3.trans hlegg26
   refine C [Value.agg (List.toArray (α:=Value) [v9,v10,v11]),v12] cf100 rfl (dfa_reached_ok hrv7 hs.imm (⟨[v9],[v10],[v11],rfl,⟨_,rfl,hRv9⟩,⟨_,rfl,hRv10⟩,⟨_,rfl,hRv11⟩⟩) hRgg26) rfl ?_
   rintro v20 wv20 ⟨gg27,xs9,hvv20,hegg27⟩
   obtain ⟨gg28,hlegg28,hs⟩:=hsL13.lentOwn hegg27
   simp only [List.cons_append,List.nil_append] at hs
   have hvv20:RowRel (tInt .i64) gg28 xs9 rv7:=RowRel.flat (fun _ _ _ _ h=>h) hvv20
   replace hRv9:=hRv9L13.mono hlegg28
   replace hRv10:=hRv10L13.mono hlegg28
   replace hRv11:=hRv11L13.mono hlegg28
   replace hvv12:=hvv12L13.mono hlegg28
   replace hagg3:=hagg3L13.trans hlegg28
   refine OW_nil ?_
   replace hS:=hS.to hagg3 (hs.sub (.cons _ (.cons _ (.cons_cons _ (.cons_cons _ (.cons_cons _ .slnil))))))
   refine ⟨fun _=>hS,?_⟩
   refine A1 rfl ?_
   have hsL14:=hs
   have hagg3L14:=hagg3
   obtain ⟨gg29,hlegg29,hRgg29,hs⟩:=hs.relRow (i:=0) rfl hvv20
   replace hRv9:=hRv9.mono hlegg29
   replace hRv10:=hRv10.mono hlegg29
   replace hRv11:=hRv11.mono hlegg29
   replace hvv12:=hvv12.mono hlegg29
   replace hagg3:=hagg3.trans hlegg29
   obtain ⟨gg30,hlegg30,hRgg30,hs⟩:=hs.relRow (i:=1) rfl hvv12
   replace hRv9:=hRv9.mono hlegg30
   replace hRv10:=hRv10.mono hlegg30
   replace hRv11:=hRv11.mono hlegg30
   replace hRgg29:=hRgg29.mono hlegg30
   replace hagg3:=hagg3.trans hlegg30
   refine C [Value.agg (List.toArray (α:=Value) [v9,v10,v11]),v20,v12] cf99 rfl (dfa_classes_ok hrv8 hs.imm (⟨[v9],[v10],[v11],rfl,⟨_,rfl,hRv9⟩,⟨_,rfl,hRv10⟩,⟨_,rfl,hRv11⟩⟩) hRgg29 hRgg30) rfl ?_
   rintro v21 wv21 ⟨gg31,xs10,hvv21,hegg31⟩
   obtain ⟨gg32,hlegg32,hs⟩:=hsL14.lentOwn hegg31
   simp only [List.cons_append,List.nil_append] at hs
   have hvv21:RowRel (tInt .i64) gg32 xs10 rv8:=RowRel.flat (fun _ _ _ _ h=>h) hvv21
   replace hagg3:=hagg3L14.trans hlegg32
   refine OW_nil ?_
   replace hS:=hS.to hagg3 (hs.sub (.cons _ (.cons _ (.cons _ (.cons_cons _ (.cons_cons _ (.cons_cons _ .slnil)))))))
   refine ⟨fun _=>hS,?_⟩
   have ho4:=one_of_shape (hs.rowShape (i:=0) rfl)
   refine A rfl hS (fun w9 ⟨g9,hle9,hs⟩=>r_build (vs:=[(0,v21)]) (cs:=[v21,Value.slice none 0 0,Value.slice none 0 0]) rfl (built_fill [(0,1),(1,1),(2,1)] [Value.slice none 0 0,Value.slice none 0 0,Value.slice none 0 0] (fun _=>by kernel_rfl) (fill_step ([]) ([Value.slice none 0 0]) ([Value.slice none 0 0,Value.slice none 0 0]) ([v21]) rfl rfl (cells_one ho4) rfl rfl rfl<|fill_done))) rfl<|A1 rfl<|OW_storeAll ti37 hs (i:=2) rfl rfl (v:=Value.agg (List.toArray (α:=Value) [v21,Value.slice none 0 0,Value.slice none 0 0])) rfl (vs:=[v21,Value.slice none 0 0,Value.slice none 0 0]) rfl (one_cons (by obtain ⟨_,_,h9⟩:=hs.rowShape (i:=0) rfl; rw [h9]; rfl) (one_cons rfl (one_cons rfl one_nil))) rfl rfl ?_
   intro wv22 hs
   refine OW_nil ?_
   refine ⟨fun h=>absurd h (by decide +kernel),?_⟩
   refine AN ?_
   obtain rfl:=Option.some.inj hM
   exact ⟨gg32,b7,v21,xs10,rfl,rfl,rfl,rfl,hds,hagg3,hvv21,(hs.sel [2,0,3,4,5] (by decide) rfl)⟩
  trivial
 ·clear hs
  rintro E w ⟨gg18,b5,v17,xs6,hE1,hE2,hE3,hE4,hds,hlegg18,hrelxs6,hs⟩
  have hM:=hKhx1
  obtain ⟨E,rfl⟩:=open4 (E:=E) hE1 hE2 hE3 hE4
  replace hRv9:=hRv9.mono hlegg18
  replace hRv10:=hRv10.mono hlegg18
  replace hRv11:=hRv11.mono hlegg18
  replace hvv12:=hvv12.mono hlegg18
  refine WP_seq<|WP_region<|O (r_fieldAddr Tryz.underlying37 ti34 rfl rfl (by decide) rfl rfl) rfl<|O (r_load (v:=v17) ti34 rfl (hs.cell (i:=0) (o:=0) rfl rfl)) rfl ?_
  have hsL15:=hs
  have hRv9L15:=hRv9
  have hRv10L15:=hRv10
  have hRv11L15:=hRv11
  have hrelxs6L15:=hrelxs6
  have hvv12L15:=hvv12
  obtain ⟨gg33,hlegg33,hRgg33,hs⟩:=hs.relRow (i:=1) rfl hrelxs6
  replace hRv9:=hRv9.mono hlegg33
  replace hRv10:=hRv10.mono hlegg33
  replace hRv11:=hRv11.mono hlegg33
  replace hvv12:=hvv12.mono hlegg33
  obtain ⟨rv9,hrv9,hM⟩:=bindS hM
  refine C [v17] cf91 rfl (dfa_sample_ok hrv9 hs.imm hRgg33) rfl ?_
  rintro v22 wv23 ⟨gg34,xs11,hvv22,hegg34⟩
  obtain ⟨gg35,hlegg35,hs⟩:=hsL15.lentOwn hegg34
  simp only [List.cons_append,List.nil_append] at hs
  have hvv22:RowRel (tInt .u8) gg35 xs11 rv9:=RowRel.flat (fun _ _ _ _ h=>h) hvv22
  replace hRv9:=hRv9L15.mono hlegg35
  replace hRv10:=hRv10L15.mono hlegg35
  replace hRv11:=hRv11L15.mono hlegg35
  replace hrelxs6:=hrelxs6L15.mono hlegg35
  replace hvv12:=hvv12L15.mono hlegg35
  refine O (r_assign (v:=v22) rfl) rfl<|OW_nil<|WP_seq<|WP_region<|OW_lit (τ:=(tInt .i64)) [Value.int .i64 0] [0] Tryz.underlying34 ti3 (by decide) hs rfl rfl rfl ⟨rfl,trivial⟩ rfl ?_
  intro v23 wv24 xs12 hrelxs12 hs
  refine O (r_assign (v:=v23) rfl) rfl<|OW_nil<|WP_seq<|WP_region<|OW_makeMap hs rfl ?_
  intro b8 wv25 hs
  have hmb8:MRel (Value.int .i64) (Value.int .i64) #[] 0 []:=mrel_nil
  refine O (r_move (v:=v12) rfl) rfl ?_
  obtain ⟨e1,he1,hM⟩:=bindS hM
  obtain ⟨b9,cb9,hvb9,cs13,hcs13,hcb9⟩:=hs.rowEl (i:=5) rfl hvv12 he1
  have hcs13:cs13=_:=hcs13; subst hcs13
  refine O (r_idxSl Tryz.underlying34 ti3 (v:=v12) rfl hvb9 rfl (idxL_some he1).1 (idxL_some he1).2.1) rfl<|O (r_loadEl (cs:=[Value.int .i64 e1]) ti3 rfl rfl (.inr rfl) (hcb9 _ (hs.at (i:=5) rfl)) (v:=Value.int .i64 e1) rfl) rfl<|OW_mapIns (kk:=e1) (vv:=0) Tryz.underlying142 (keyLaw_int Tryz.underlying3) hs (i:=0) rfl hmb8 rfl rfl rfl ?_
  intro es1 ck1 wv26 hmes1 hs
  refine O (r_move (v:=Value.map (some b8)) rfl) rfl<|O (r_assign (v:=Value.map (some b8)) rfl) rfl<|OW_nil ?_
  obtain ⟨⟨xv202,xv203⟩,hx119,hKhx119⟩:=bindS hM
  refine WP_cut (fun E w=>∃(gg198:Hp) (v705:Value) (xs770:List Value) (v706:Value) (xs771:List Value) (v704:Value) (xs769:List Value),E 2=Value.pointer (some ⟨b2,0,none⟩)∧E 4=Value.pointer (some ⟨b5,0,none⟩)∧E.ds=[]∧Hle gg35 gg198∧RowRel (tSl (tInt .i64)) gg198 xs770 xv202∧RowRel (tInt .i64) gg198 xs771 xv203∧RowRel (tInt .i64) gg198 xs769 rv6∧Go.Lx.Sep g0 w0 gg198 w [.row v705 34 (tSl (tInt .i64)).sz xv202.length xs770,.row v706 3 (tInt .i64).sz xv203.length xs771,Go.Lx.box b5 37 ([v704,v705,v706]),.row v704 3 (tInt .i64).sz rv6.length xs769,Go.Lx.box b2 37 ([Value.slice none 0 0,Value.slice none 0 0,Value.slice none 0 0])]) ?_ ?_
  ·have hM:=hx119
   have hagg35:=Hle.refl gg35
   refine WP_seq<|WP_region<|O (r_assign (v:=Value.int .i64 0) rfl) rfl<|OW_nil<|WP_block ?_
   have hs:=hs.nilRow 34 (tSl (tInt .i64)).sz
   have hs:=hs.nilRow 3 (tInt .i64).sz
   refine WP_loop (fun (st9:(List (List Int))×(List Int)×(List Int)×(List (Int×Int))×Int) E w=>match st9 with|(xv271,xv272,xv273,m209,xv274)=>∃(gg253:Hp) (v933:Value) (xs1026:List Value) (v934:Value) (xs1027:List Value) (es402:Array MapEntry) (ck402:Nat) (v936:Value) (xs1029:List Value) (v935:Value) (xs1028:List Value) (v932:Value) (xs1025:List Value) (v931:Value) (xs1024:List Value),E 1=Value.pointer (some ⟨b1,0,none⟩)∧E 2=Value.pointer (some ⟨b2,0,none⟩)∧E 3=v931∧E 4=Value.pointer (some ⟨b5,0,none⟩)∧E 5=v935∧E 6=v936∧E 7=Value.map (some b8)∧E 8=Value.int .i64 xv274∧E.ds=[]∧Hle gg35 gg253∧RowRel (tSl (tInt .i64)) gg253 xs1026 xv271∧RowRel (tInt .i64) gg253 xs1027 xv272∧MRel (Value.int .i64) (Value.int .i64) es402 ck402 m209∧RowRel (tInt .i64) gg253 xs1029 xv273∧RowRel (tInt .u8) gg253 xs1028 rv9∧RowRel (tInt .i64) gg253 xs1025 rv6∧RowRel (tInt .i64) gg253 xs1024 rv3∧Go.Lx.Sep g0 w0 gg253 w [.row v933 34 (tSl (tInt .i64)).sz xv271.length xs1026,.row v934 3 (tInt .i64).sz xv272.length xs1027,.obj b8 (.map es402 ck402),.row v936 3 (tInt .i64).sz xv273.length xs1029,.row v935 5 (tInt .u8).sz rv9.length xs1028,Go.Lx.box b5 37 ([v932,v933,v934]),.row v932 3 (tInt .i64).sz rv6.length xs1025,.row v931 3 (tInt .i64).sz rv3.length xs1024,Go.Lx.box b2 37 ([Value.slice none 0 0,Value.slice none 0 0,Value.slice none 0 0]),Go.Lx.box b1 37 ([v9,v10,v11])]) hM ⟨gg35,(Value.slice none 0 0),[],(Value.slice none 0 0),[],es1,ck1,v23,xs12,v22,xs11,v17,xs6,v12,xs1,rfl,rfl,rfl,rfl,rfl,rfl,rfl,rfl,hds,(Hle.refl _),RowRel.nil,RowRel.nil,hmes1,hrelxs12,hvv22,hrelxs6,hvv12,(hs.sel [1,0,2,3,4,5,6,7,8,9] (by decide) rfl)⟩ ?_
   clear hs hM
   rintro ⟨xv271,xv272,xv273,m209,xv274⟩ o22 E w hM ⟨gg253,v933,xs1026,v934,xs1027,es402,ck402,v936,xs1029,v935,xs1028,v932,xs1025,v931,xs1024,hE1,hE2,hE3,hE4,hE5,hE6,hE7,hE8,hds,hlegg253,hrelxs1026,hrelxs1027,hmes402,hrelxs1029,hrelxs1028,hrelxs1025,hrelxs1024,hs⟩
   obtain ⟨E,rfl⟩:=open8 (E:=E) hE1 hE2 hE3 hE4 hE5 hE6 hE7 hE8
   replace hRv9:=hRv9.mono hlegg253
   replace hRv10:=hRv10.mono hlegg253
   replace hRv11:=hRv11.mono hlegg253
   have hagg253:=Hle.refl gg253
   refine WP_seq<|WP_seq<|WP_region<|O (r_move (v:=Value.int .i64 xv274) rfl) rfl<|O (r_move (v:=v936) rfl) rfl ?_
   obtain ⟨a276,ca276,hva276⟩:=hs.rowShape (i:=3) rfl
   refine O (r_lenSl (v:=v936) Tryz.underlying34 rfl hva276) rfl<|O (r_lss rfl rfl) rfl<|OW_nil ?_
   rcases condS hM with ⟨hc426,hM⟩|⟨hc426,hM⟩
   ·refine WP_true rfl hc426<|WP_skip ?_
    obtain ⟨⟨y759,y760,xv373,m287⟩,hx217,hKhx217⟩:=bindS hM
    refine WP_cut (fun E w=>∃(gg334:Hp) (v1275:Value) (xs1404:List Value) (v1276:Value) (xs1405:List Value) (es552:Array MapEntry) (ck552:Nat) (v1278:Value) (xs1407:List Value) (v1277:Value) (xs1406:List Value) (v1274:Value) (xs1403:List Value) (v1273:Value) (xs1402:List Value),E 1=Value.pointer (some ⟨b1,0,none⟩)∧E 2=Value.pointer (some ⟨b2,0,none⟩)∧E 3=v1273∧E 4=Value.pointer (some ⟨b5,0,none⟩)∧E 5=v1277∧E 6=v1278∧E 7=Value.map (some b8)∧E 8=Value.int .i64 xv274∧E.ds=[]∧Hle gg253 gg334∧RowRel (tSl (tInt .i64)) gg334 xs1404 y759∧RowRel (tInt .i64) gg334 xs1405 y760∧MRel (Value.int .i64) (Value.int .i64) es552 ck552 m287∧RowRel (tInt .i64) gg334 xs1407 xv373∧RowRel (tInt .u8) gg334 xs1406 rv9∧RowRel (tInt .i64) gg334 xs1403 rv6∧RowRel (tInt .i64) gg334 xs1402 rv3∧Go.Lx.Sep g0 w0 gg334 w [.row v1275 34 (tSl (tInt .i64)).sz y759.length xs1404,.row v1276 3 (tInt .i64).sz y760.length xs1405,.obj b8 (.map es552 ck552),.row v1278 3 (tInt .i64).sz xv373.length xs1407,.row v1277 5 (tInt .u8).sz rv9.length xs1406,Go.Lx.box b5 37 ([v1274,v1275,v1276]),.row v1274 3 (tInt .i64).sz rv6.length xs1403,.row v1273 3 (tInt .i64).sz rv3.length xs1402,Go.Lx.box b2 37 ([Value.slice none 0 0,Value.slice none 0 0,Value.slice none 0 0]),Go.Lx.box b1 37 ([v9,v10,v11])]) ?_ ?_
    ·have hM:=hx217
     refine WP_block<|WP_seq<|WP_region<|O (r_move (v:=v935) rfl) rfl ?_
     obtain ⟨a304,ca304,hva304⟩:=hs.rowShape (i:=4) rfl
     refine O (r_lenSl (v:=v935) Tryz.underlying98 rfl hva304) rfl ?_
     obtain ⟨l89,hl89,hM⟩:=bindS hM
     refine OW_make (τ:=(tInt .i64)) (zc:=[Value.int .i64 0]) (zx:=0) Tryz.underlying34 ti3 rfl rfl (by decide) hs rfl rfl hl89 rfl ?_
     intro v1279 wv1292 xs1408 hrelxs1408 hs
     refine O (r_assign (v:=v1279) rfl) rfl<|OW_nil ?_
     obtain ⟨⟨xv389,m300,l93⟩,hx227,hKhx227⟩:=bindS hM
     refine WP_cut (fun E w=>∃(gg347:Hp) (v1334:Value) (xs1469:List Value) (v1330:Value) (xs1465:List Value) (v1331:Value) (xs1466:List Value) (es577:Array MapEntry) (ck577:Nat) (v1333:Value) (xs1468:List Value) (v1332:Value) (xs1467:List Value) (v1329:Value) (xs1464:List Value) (v1328:Value) (xs1463:List Value),E 1=Value.pointer (some ⟨b1,0,none⟩)∧E 2=Value.pointer (some ⟨b2,0,none⟩)∧E 3=v1328∧E 4=Value.pointer (some ⟨b5,0,none⟩)∧E 5=v1332∧E 6=v1333∧E 7=Value.map (some b8)∧E 8=Value.int .i64 xv274∧E 9=v1334∧E.ds=[]∧Hle gg253 gg347∧RowRel (tInt .i64) gg347 xs1469 l93∧RowRel (tSl (tInt .i64)) gg347 xs1465 xv271∧RowRel (tInt .i64) gg347 xs1466 xv272∧MRel (Value.int .i64) (Value.int .i64) es577 ck577 m300∧RowRel (tInt .i64) gg347 xs1468 xv389∧RowRel (tInt .u8) gg347 xs1467 rv9∧RowRel (tInt .i64) gg347 xs1464 rv6∧RowRel (tInt .i64) gg347 xs1463 rv3∧Go.Lx.Sep g0 w0 gg347 w [.row v1334 3 (tInt .i64).sz l93.length xs1469,.row v1330 34 (tSl (tInt .i64)).sz xv271.length xs1465,.row v1331 3 (tInt .i64).sz xv272.length xs1466,.obj b8 (.map es577 ck577),.row v1333 3 (tInt .i64).sz xv389.length xs1468,.row v1332 5 (tInt .u8).sz rv9.length xs1467,Go.Lx.box b5 37 ([v1329,v1330,v1331]),.row v1329 3 (tInt .i64).sz rv6.length xs1464,.row v1328 3 (tInt .i64).sz rv3.length xs1463,Go.Lx.box b2 37 ([Value.slice none 0 0,Value.slice none 0 0,Value.slice none 0 0]),Go.Lx.box b1 37 ([v9,v10,v11])]) ?_ ?_
     ·have hM:=hx227
      refine WP_seq<|WP_region<|O (r_move (v:=v935) rfl) rfl ?_
      obtain ⟨a318,ca318,hva318⟩:=hs.rowShape (i:=5) rfl
      refine O (r_lenSl (v:=v935) Tryz.underlying98 rfl hva318) rfl<|O (r_move (v:=Value.int .i64 0) rfl) rfl<|OW_nil<|WP_block<|WP_loop (fun (st9:(List Int)×(List (Int×Int))×(List Int)×Int) E w=>match st9 with|(xv395,m305,l95,xv396)=>∃(gg352:Hp) (v1352:Value) (xs1489:List Value) (es586:Array MapEntry) (ck586:Nat) (v1351:Value) (xs1488:List Value),E 1=Value.pointer (some ⟨b1,0,none⟩)∧E 2=Value.pointer (some ⟨b2,0,none⟩)∧E 3=v931∧E 4=Value.pointer (some ⟨b5,0,none⟩)∧E 5=v935∧E 6=v1351∧E 7=Value.map (some b8)∧E 8=Value.int .i64 xv274∧E 9=v1352∧E 45=v935∧E 46=Value.int .i64 (rv9.length:Int)∧E 47=Value.int .i64 xv396∧E.ds=[]∧Hle gg253 gg352∧RowRel (tInt .i64) gg352 xs1489 l95∧MRel (Value.int .i64) (Value.int .i64) es586 ck586 m305∧RowRel (tInt .i64) gg352 xs1488 xv395∧Go.Lx.Sep g0 w0 gg352 w [.row v1352 3 (tInt .i64).sz l95.length xs1489,.row v933 34 (tSl (tInt .i64)).sz xv271.length xs1026,.row v934 3 (tInt .i64).sz xv272.length xs1027,.obj b8 (.map es586 ck586),.row v1351 3 (tInt .i64).sz xv395.length xs1488,.row v935 5 (tInt .u8).sz rv9.length xs1028,Go.Lx.box b5 37 ([v932,v933,v934]),.row v932 3 (tInt .i64).sz rv6.length xs1025,.row v931 3 (tInt .i64).sz rv3.length xs1024,Go.Lx.box b2 37 ([Value.slice none 0 0,Value.slice none 0 0,Value.slice none 0 0]),Go.Lx.box b1 37 ([v9,v10,v11])]) hM ⟨gg253,v1279,xs1408,es402,ck402,v936,xs1029,rfl,rfl,rfl,rfl,rfl,rfl,rfl,rfl,rfl,rfl,rfl,rfl,hds,(Hle.refl _),hrelxs1408,hmes402,hrelxs1029,hs⟩ ?_
      clear hs hM
      rintro ⟨xv395,m305,l95,xv396⟩ o26 E w hM ⟨gg352,v1352,xs1489,es586,ck586,v1351,xs1488,hE1,hE2,hE3,hE4,hE5,hE6,hE7,hE8,hE9,hE45,hE46,hE47,hds,hlegg352,hrelxs1489,hmes586,hrelxs1488,hs⟩
      obtain ⟨E,rfl⟩:=open8 (E:=E) hE1 hE2 hE3 hE4 hE5 hE6 hE7 hE8
      obtain ⟨E,rfl⟩:=open4 (E:=E) hE9 hE45 hE46 hE47
      replace hRv9:=hRv9.mono hlegg352
      replace hRv10:=hRv10.mono hlegg352
      replace hRv11:=hRv11.mono hlegg352
      replace hrelxs1026:=hrelxs1026.mono hlegg352
      replace hrelxs1027:=hrelxs1027.mono hlegg352
      replace hrelxs1028:=hrelxs1028.mono hlegg352
      replace hrelxs1025:=hrelxs1025.mono hlegg352
      replace hrelxs1024:=hrelxs1024.mono hlegg352
      have hagg352:=Hle.refl gg352
      refine WP_seq<|WP_region<|O (r_lss rfl rfl) rfl<|OW_nil<|WP_seq ?_
      rcases condS hM with ⟨hc504,hM⟩|⟨hc504,hM⟩
      ·refine WP_true rfl hc504<|WP_skip ?_
       obtain ⟨⟨xv403,m311,y821⟩,hx235,hKhx235⟩:=bindS hM
       refine WP_cut (fun E w=>∃(gg358:Hp) (v1376:Value) (xs1516:List Value) (es598:Array MapEntry) (ck598:Nat) (v1375:Value) (xs1515:List Value),E 1=Value.pointer (some ⟨b1,0,none⟩)∧E 2=Value.pointer (some ⟨b2,0,none⟩)∧E 3=v931∧E 4=Value.pointer (some ⟨b5,0,none⟩)∧E 5=v935∧E 6=v1375∧E 7=Value.map (some b8)∧E 8=Value.int .i64 xv274∧E 9=v1376∧E 45=v935∧E 46=Value.int .i64 (rv9.length:Int)∧E 47=Value.int .i64 xv396∧E.ds=[]∧Hle gg352 gg358∧RowRel (tInt .i64) gg358 xs1516 y821∧MRel (Value.int .i64) (Value.int .i64) es598 ck598 m311∧RowRel (tInt .i64) gg358 xs1515 xv403∧Go.Lx.Sep g0 w0 gg358 w [.row v1376 3 (tInt .i64).sz y821.length xs1516,.row v933 34 (tSl (tInt .i64)).sz xv271.length xs1026,.row v934 3 (tInt .i64).sz xv272.length xs1027,.obj b8 (.map es598 ck598),.row v1375 3 (tInt .i64).sz xv403.length xs1515,.row v935 5 (tInt .u8).sz rv9.length xs1028,Go.Lx.box b5 37 ([v932,v933,v934]),.row v932 3 (tInt .i64).sz rv6.length xs1025,.row v931 3 (tInt .i64).sz rv3.length xs1024,Go.Lx.box b2 37 ([Value.slice none 0 0,Value.slice none 0 0,Value.slice none 0 0]),Go.Lx.box b1 37 ([v9,v10,v11])]) ?_ ?_
       ·have hM:=hx235
        refine WP_block<|WP_seq<|WP_region<|O (r_move (v:=Value.int .i64 xv396) rfl) rfl ?_
        obtain ⟨e453,he453,hM⟩:=bindS hM
        obtain ⟨b1033,cb1033,hvb1033,cs894,hcs894,hcb1033⟩:=hs.rowEl (i:=5) rfl hrelxs1028 he453
        have hcs894:cs894=_:=hcs894; subst hcs894
        refine O (r_idxSl Tryz.underlying98 ti5 (v:=v935) rfl hvb1033 rfl (idxL_some he453).1 (idxL_some he453).2.1) rfl<|O (r_loadEl (cs:=[Value.int .u8 e453]) ti5 rfl rfl (.inr rfl) (hcb1033 _ (hs.at (i:=5) rfl)) (v:=Value.int .u8 e453) rfl) rfl<|O (r_assign (v:=Value.int .i64 xv396) rfl) rfl<|O (r_assign (v:=Value.int .u8 e453) rfl) rfl<|OW_nil<|WP_seq<|WP_drawTail 6 mo (by decide +kernel) ?_
        have hs:=hs.drew
        refine S (r_loadN (cs:=[v9,v10,v11]) ti37 rfl rfl (hs.cells (i:=10) rfl)) rfl<|S (r_move (v:=v1351) rfl) rfl<|S (r_move (v:=Value.int .i64 xv274) rfl) rfl ?_
        obtain ⟨e454,he454,hM⟩:=bindS hM
        obtain ⟨b1034,cb1034,hvb1034,cs895,hcs895,hcb1034⟩:=hs.rowEl (i:=4) rfl hrelxs1488 he454
        have hcs895:cs895=_:=hcs895; subst hcs895
        refine S (r_idxSl Tryz.underlying34 ti3 (v:=v1351) rfl hvb1034 rfl (idxL_some he454).1 (idxL_some he454).2.1) rfl<|S (r_loadEl (cs:=[Value.int .i64 e454]) ti3 rfl rfl (.inr rfl) (hcb1034 _ (hs.at (i:=4) rfl)) (v:=Value.int .i64 e454) rfl) rfl<|S (r_move (v:=Value.int .u8 e453) rfl) rfl<|SW_nil ?_
        obtain ⟨rv153,hrv153,hM⟩:=bindS hM
        refine C [Value.agg (List.toArray (α:=Value) [v9,v10,v11]),Value.int .i64 e454,Value.int .u8 e453] cf67 rfl (dfa_step_ok hrv153 hs.imm (⟨[v9],[v10],[v11],rfl,⟨_,rfl,hRv9⟩,⟨_,rfl,hRv10⟩,⟨_,rfl,hRv11⟩⟩)) rfl ?_
        rintro v1377 wv1392 ⟨gg359,hvv1377,hegg359⟩
        have hlegg359:=hegg359.le hs.imm
        replace hs:=hs.call hegg359
        replace hrelxs1489:=hrelxs1489.mono hlegg359
        replace hrelxs1488:=hrelxs1488.mono hlegg359
        replace hrelxs1024:=hrelxs1024.mono hlegg359
        replace hagg352:=hagg352.trans hlegg359
        obtain ⟨cs896,rfl,hcs896⟩:=hvv1377
        have hcs896:cs896=_:=hcs896; subst hcs896
        refine O (r_assign (v:=Value.int .i64 rv153) rfl) rfl<|OW_nil<|WP_seq<|WP_region<|O (r_move (v:=v1352) rfl) rfl<|O (r_move (v:=Value.int .i64 xv396) rfl) rfl ?_
        obtain ⟨y822,hy822,hM⟩:=bindS hM
        obtain ⟨b1035,cb1035,hvb1035,wv1393,xs1517,hstb1035,hrelb1035,hsb1035⟩:=hs.rowPut (i:=0) rfl hrelxs1489 hy822 (cs:=[Value.int .i64 (-1)]) rfl
        refine O (r_idxSl Tryz.underlying34 ti3 (v:=v1352) rfl hvb1035 rfl (setL_some hy822).1 (setL_some hy822).2.1) rfl<|O0 (r_store ti3 rfl (v:=Value.int .i64 (-1)) rfl rfl hstb1035) ?_
        have hs:=hsb1035
        refine OW_nil<|WP_seq<|WP_seq<|WP_region<|O (r_move (v:=Value.int .i64 rv153) rfl) rfl<|O (r_lss rfl rfl) rfl<|OW_nil ?_
        rcases condS hM with ⟨hc508,hM⟩|⟨hc508,hM⟩
        ·refine WP_true rfl hc508<|WP_exit ?_
         simp only [Option.some.injEq,Prod.mk.injEq] at hM
         obtain ⟨rfl,rfl,rfl⟩:=hM
         exact ⟨gg359,v1352,xs1517,es586,ck586,v1351,xs1488,rfl,rfl,rfl,rfl,rfl,rfl,rfl,rfl,rfl,rfl,rfl,rfl,hds,hagg352,hrelb1035,hmes586,hrelxs1488,hs⟩
        ·refine WP_false rfl hc508<|WP_skip<|WP_seq<|WP_region<|O (r_move (v:=Value.map (some b8)) rfl) rfl<|O (r_move (v:=v931) rfl) rfl<|O (r_move (v:=Value.int .i64 rv153) rfl) rfl ?_
         obtain ⟨e455,he455,hM⟩:=bindS hM
         obtain ⟨b1036,cb1036,hvb1036,cs897,hcs897,hcb1036⟩:=hs.rowEl (i:=8) rfl hrelxs1024 he455
         have hcs897:cs897=_:=hcs897; subst hcs897
         refine O (r_idxSl Tryz.underlying34 ti3 (v:=v931) rfl hvb1036 rfl (idxL_some he455).1 (idxL_some he455).2.1) rfl<|O (r_loadEl (cs:=[Value.int .i64 e455]) ti3 rfl rfl (.inr rfl) (hcb1036 _ (hs.at (i:=8) rfl)) (v:=Value.int .i64 e455) rfl) rfl<|O (r_lookup (z:=0) (kk:=e455) Tryz.underlying142 ti3 (keyLaw_int Tryz.underlying3) hs (i:=3) rfl hmes586 rfl rfl) rfl<|O (r_move (v:=Value.tuple #[Value.int .i64 ((mget m305 e455).getD 0),Value.bool ((mget m305 e455).isSome)]) rfl) rfl<|O (r_extract (vs:=[Value.int .i64 ((mget m305 e455).getD 0),Value.bool ((mget m305 e455).isSome)]) (v:=Value.int .i64 ((mget m305 e455).getD 0)) rfl rfl) rfl<|O (r_extract (vs:=[Value.int .i64 ((mget m305 e455).getD 0),Value.bool ((mget m305 e455).isSome)]) (v:=Value.bool ((mget m305 e455).isSome)) rfl rfl) rfl ?_
         refine O (r_assign (v:=Value.int .i64 ((mget m305 e455).getD 0)) rfl) rfl<|O (r_assign (v:=Value.bool ((mget m305 e455).isSome)) rfl) rfl<|OW_nil ?_
         obtain ⟨⟨y824,m312,xv404⟩,hx236,hKhx236⟩:=bindS hM
         refine WP_cut (fun E w=>∃(es600:Array MapEntry) (ck600:Nat) (v1380:Value) (xs1520:List Value),E 1=Value.pointer (some ⟨b1,0,none⟩)∧E 2=Value.pointer (some ⟨b2,0,none⟩)∧E 3=v931∧E 4=Value.pointer (some ⟨b5,0,none⟩)∧E 5=v935∧E 6=v1380∧E 7=Value.map (some b8)∧E 8=Value.int .i64 xv274∧E 9=v1352∧E 10=Value.int .i64 xv396∧E 13=Value.int .i64 xv404∧E 45=v935∧E 46=Value.int .i64 (rv9.length:Int)∧E 47=Value.int .i64 xv396∧E.ds=[]∧MRel (Value.int .i64) (Value.int .i64) es600 ck600 m312∧RowRel (tInt .i64) gg359 xs1520 y824∧Go.Lx.Sep g0 w0 gg359 w [.row v1352 3 (tInt .i64).sz y822.length xs1517,.row v933 34 (tSl (tInt .i64)).sz xv271.length xs1026,.row v934 3 (tInt .i64).sz xv272.length xs1027,.obj b8 (.map es600 ck600),.row v1380 3 (tInt .i64).sz y824.length xs1520,.row v935 5 (tInt .u8).sz rv9.length xs1028,Go.Lx.box b5 37 ([v932,v933,v934]),.row v932 3 (tInt .i64).sz rv6.length xs1025,.row v931 3 (tInt .i64).sz rv3.length xs1024,Go.Lx.box b2 37 ([Value.slice none 0 0,Value.slice none 0 0,Value.slice none 0 0]),Go.Lx.box b1 37 ([v9,v10,v11])]) ?_ ?_
         ·have hM:=hx236
          have hagg359:=Hle.refl gg359
          refine WP_seq<|WP_region<|O (r_move (v:=Value.bool ((mget m305 e455).isSome)) rfl) rfl<|O (r_not rfl) rfl<|OW_nil ?_
          rcases condS hM with ⟨hc510,hM⟩|⟨hc510,hM⟩
          ·refine WP_true rfl hc510<|WP_seq<|WP_region<|O (r_move (v:=v1351) rfl) rfl ?_
           obtain ⟨a330,ca330,hva330⟩:=hs.rowShape (i:=4) rfl
           refine O (r_lenSl (v:=v1351) Tryz.underlying34 rfl hva330) rfl<|O (r_assign (v:=Value.int .i64 (xv395.length:Int)) rfl) rfl<|OW_nil<|WP_seq<|WP_region<|O (r_move (v:=Value.map (some b8)) rfl) rfl<|O (r_move (v:=v931) rfl) rfl<|O (r_move (v:=Value.int .i64 rv153) rfl) rfl ?_
           obtain ⟨b1038,cb1038,hvb1038,cs899,hcs899,hcb1038⟩:=hs.rowEl (i:=8) rfl hrelxs1024 he455
           have hcs899:cs899=_:=hcs899; subst hcs899
           refine O (r_idxSl Tryz.underlying34 ti3 (v:=v931) rfl hvb1038 rfl (idxL_some he455).1 (idxL_some he455).2.1) rfl<|O (r_loadEl (cs:=[Value.int .i64 e455]) ti3 rfl rfl (.inr rfl) (hcb1038 _ (hs.at (i:=8) rfl)) (v:=Value.int .i64 e455) rfl) rfl<|O (r_move (v:=Value.int .i64 (xv395.length:Int)) rfl) rfl<|OW_mapSet (kk:=e455) (vv:=(xv395.length:Int)) Tryz.underlying142 (keyLaw_int Tryz.underlying3) hs (i:=3) rfl hmes586 rfl rfl rfl ?_
           intro es601 ck601 wv1397 hmes601 hs
           refine OW_nil<|WP_region<|O (r_move (v:=v1351) rfl) rfl<|O (r_move (v:=Value.int .i64 rv153) rfl) rfl<|OW_lit (τ:=(tInt .i64)) [Value.int .i64 rv153] [rv153] Tryz.underlying34 ti3 (by decide) hs rfl rfl rfl ⟨rfl,trivial⟩ rfl ?_
           intro v1381 wv1398 xs1521 hrelxs1521 hs
           obtain ⟨y825,hy825,hM⟩:=bindS hM
           refine OW_append Tryz.underlying34 ti3 rfl (by decide) (by decide) hs (i:=5) rfl hrelxs1488 (v:=v1351) rfl (u:=v1381) rfl (hs.rowSrc (i:=0) rfl) hrelxs1521 hy825 rfl ?_
           intro v1382 wv1399 xs1522 hrelxs1522 hs
           refine O (r_assign (v:=v1382) rfl) rfl<|OW_nil ?_
           simp only [Option.some.injEq,Prod.mk.injEq] at hM
           obtain ⟨rfl,rfl,rfl⟩:=hM
           exact ⟨es601,ck601,v1382,xs1522,rfl,rfl,rfl,rfl,rfl,rfl,rfl,rfl,rfl,rfl,rfl,rfl,rfl,rfl,hds,hmes601,hrelxs1522,(hs.sub (.cons _ (.cons_cons _ (.cons_cons _ (.cons_cons _ (.cons_cons _ (.cons_cons _ (.cons_cons _ (.cons_cons _ (.cons_cons _ (.cons_cons _ (.cons_cons _ (.cons_cons _ .slnil)))))))))))))⟩
          ·refine WP_false rfl hc510<|WP_skip ?_
           simp only [Option.some.injEq,Prod.mk.injEq] at hM
           obtain ⟨rfl,rfl,rfl⟩:=hM
           exact ⟨es586,ck586,v1351,xs1488,rfl,rfl,rfl,rfl,rfl,rfl,rfl,rfl,rfl,rfl,rfl,rfl,rfl,rfl,hds,hmes586,hrelxs1488,hs⟩
         ·clear hs
          rintro E w ⟨es600,ck600,v1380,xs1520,hE1,hE2,hE3,hE4,hE5,hE6,hE7,hE8,hE9,hE10,hE13,hE45,hE46,hE47,hds,hmes600,hrelxs1520,hs⟩
          have hM:=hKhx236
          obtain ⟨E,rfl⟩:=open8 (E:=E) hE1 hE2 hE3 hE4 hE5 hE6 hE7 hE8
          obtain ⟨E,rfl⟩:=open6 (E:=E) hE9 hE10 hE13 hE45 hE46 hE47
          refine WP_region<|O (r_move (v:=v1352) rfl) rfl<|O (r_move (v:=Value.int .i64 xv396) rfl) rfl<|O (r_move (v:=Value.int .i64 xv404) rfl) rfl ?_
          obtain ⟨y826,hy826,hM⟩:=bindS hM
          obtain ⟨b1039,cb1039,hvb1039,wv1400,xs1523,hstb1039,hrelb1039,hsb1039⟩:=hs.rowPut (i:=0) rfl hrelb1035 hy826 (cs:=[Value.int .i64 xv404]) rfl
          refine O (r_idxSl Tryz.underlying34 ti3 (v:=v1352) rfl hvb1039 rfl (setL_some hy826).1 (setL_some hy826).2.1) rfl<|O0 (r_store ti3 rfl (v:=Value.int .i64 xv404) rfl rfl hstb1039) ?_
          have hs:=hsb1039
          refine OW_nil ?_
          simp only [Option.some.injEq,Prod.mk.injEq] at hM
          obtain ⟨rfl,rfl,rfl⟩:=hM
          exact ⟨gg359,v1352,xs1523,es600,ck600,v1380,xs1520,rfl,rfl,rfl,rfl,rfl,rfl,rfl,rfl,rfl,rfl,rfl,rfl,hds,hagg352,hrelb1039,hmes600,hrelxs1520,hs⟩
       ·clear hs
        rintro E w ⟨gg358,v1376,xs1516,es598,ck598,v1375,xs1515,hE1,hE2,hE3,hE4,hE5,hE6,hE7,hE8,hE9,hE45,hE46,hE47,hds,hlegg358,hrelxs1516,hmes598,hrelxs1515,hs⟩
        have hM:=hKhx235
        obtain ⟨E,rfl⟩:=open8 (E:=E) hE1 hE2 hE3 hE4 hE5 hE6 hE7 hE8
        obtain ⟨E,rfl⟩:=open4 (E:=E) hE9 hE45 hE46 hE47
        replace hlegg352:=hlegg352.trans hlegg358
        refine WP_region ?_
        obtain ⟨t77,ht77,hM⟩:=bindS hM
        refine O (r_addM rfl rfl ht77) rfl<|O (r_move (v:=Value.int .i64 t77) rfl) rfl<|OW_nil ?_
        obtain rfl:=Option.some.inj hM
        exact ⟨gg358,v1376,xs1516,es598,ck598,v1375,xs1515,rfl,rfl,rfl,rfl,rfl,rfl,rfl,rfl,rfl,rfl,rfl,rfl,hds,hlegg352,hrelxs1516,hmes598,hrelxs1515,hs⟩
      ·refine WP_false rfl hc504<|WP_exit ?_
       obtain rfl:=Option.some.inj hM
       refine fun hr=>?_
       have hM:=congrArg some hr
       simp only [Option.some.injEq,Prod.mk.injEq] at hM
       obtain ⟨rfl,rfl,rfl⟩:=hM
       exact ⟨gg352,v1352,xs1489,v933,xs1026,v934,xs1027,es586,ck586,v1351,xs1488,v935,xs1028,v932,xs1025,v931,xs1024,rfl,rfl,rfl,rfl,rfl,rfl,rfl,rfl,rfl,hds,hlegg352,hrelxs1489,hrelxs1026,hrelxs1027,hmes586,hrelxs1488,hrelxs1028,hrelxs1025,hrelxs1024,hs⟩
     ·clear hs
      rintro E w ⟨gg347,v1334,xs1469,v1330,xs1465,v1331,xs1466,es577,ck577,v1333,xs1468,v1332,xs1467,v1329,xs1464,v1328,xs1463,hE1,hE2,hE3,hE4,hE5,hE6,hE7,hE8,hE9,hds,hlegg347,hrelxs1469,hrelxs1465,hrelxs1466,hmes577,hrelxs1468,hrelxs1467,hrelxs1464,hrelxs1463,hs⟩
      have hM:=hKhx227
      obtain ⟨E,rfl⟩:=open8 (E:=E) hE1 hE2 hE3 hE4 hE5 hE6 hE7 hE8
      obtain ⟨E,rfl⟩:=open1 (E:=E) hE9
      replace hRv11:=hRv11.mono hlegg347
      replace hagg253:=hagg253.trans hlegg347
      refine WP_seq<|WP_region<|O (r_fieldAddr Tryz.underlying37 ti35 rfl rfl (by decide) rfl rfl) rfl<|O (r_load (v:=v1330) ti35 rfl (hs.cell (i:=6) (o:=1) rfl rfl)) rfl<|O (r_move (v:=v1334) rfl) rfl ?_
      obtain ⟨gg360,hlegg360,hRgg360,hs⟩:=hs.relRow (i:=0) rfl hrelxs1469
      replace hRv11:=hRv11.mono hlegg360
      replace hrelxs1465:=hrelxs1465.mono hlegg360
      replace hrelxs1466:=hrelxs1466.mono hlegg360
      replace hrelxs1468:=hrelxs1468.mono hlegg360
      replace hrelxs1467:=hrelxs1467.mono hlegg360
      replace hrelxs1464:=hrelxs1464.mono hlegg360
      replace hrelxs1463:=hrelxs1463.mono hlegg360
      replace hagg253:=hagg253.trans hlegg360
      refine OW_lit (τ:=(tSl (tInt .i64))) [v1334] [l93] Tryz.underlying35 ti34 (by decide) hs rfl rfl rfl ⟨⟨v1334,cells_one (by obtain ⟨_,_,h9⟩:=hRgg360.shape; rw [h9]; rfl),hRgg360⟩,trivial⟩ rfl ?_
      intro v1383 wv1401 xs1524 hrelxs1524 hs
      obtain ⟨y827,hy827,hM⟩:=bindS hM
      refine OW_append Tryz.underlying35 ti34 rfl (by decide) (by decide) hs (i:=1) rfl hrelxs1465 (v:=v1330) rfl (u:=v1383) rfl (hs.rowSrc (i:=0) rfl) hrelxs1524 hy827 rfl ?_
      intro v1384 wv1402 xs1525 hrelxs1525 hs
      refine O (r_fieldAddr Tryz.underlying37 ti35 rfl rfl (by decide) rfl rfl) rfl<|OW_store1 ti35 hs (i:=6) rfl rfl (v:=v1384) rfl (by obtain ⟨_,_,h9⟩:=hs.rowShape (i:=1) rfl; rw [h9]; rfl) (o:=1) (by simp) ?_
      intro wv1403 hs
      refine OW_nil<|WP_any (.q 0 (.q 1 (.q 2 (.q 3 (.q 4 (.q 5 (.q 6 (.q 7 (.q 8 (.q 9 (.s 10 (.s 11 (.q 12 (.s 13 (.leaf))))))))))))))) (SS g0 w0 gg360 [.row v1383 34 (tSl (tInt .i64)).sz [l93].length xs1524,.row v1384 34 (tSl (tInt .i64)).sz y827.length xs1525,.row v1331 3 (tInt .i64).sz xv272.length xs1466,.obj b8 (.map es577 ck577),.row v1333 3 (tInt .i64).sz xv389.length xs1468,.row v1332 5 (tInt .u8).sz rv9.length xs1467,Go.Lx.box b5 37 ([v1329,v1384,v1331]),.row v1329 3 (tInt .i64).sz rv6.length xs1464,.row v1328 3 (tInt .i64).sz rv3.length xs1463,Go.Lx.box b2 37 ([Value.slice none 0 0,Value.slice none 0 0,Value.slice none 0 0]),Go.Lx.box b1 37 ([v9,v10,v11])]) mo (by decide +kernel) ?_
      have hs:=hs.drew
      have hagg360:=Hle.refl gg360
      have hRv11b:=hRv11
      have hS:SS g0 w0 gg360 [.row v1383 34 (tSl (tInt .i64)).sz [l93].length xs1524,.row v1384 34 (tSl (tInt .i64)).sz y827.length xs1525,.row v1331 3 (tInt .i64).sz xv272.length xs1466,.obj b8 (.map es577 ck577),.row v1333 3 (tInt .i64).sz xv389.length xs1468,.row v1332 5 (tInt .u8).sz rv9.length xs1467,Go.Lx.box b5 37 ([v1329,v1384,v1331]),.row v1329 3 (tInt .i64).sz rv6.length xs1464,.row v1328 3 (tInt .i64).sz rv3.length xs1463,Go.Lx.box b2 37 ([Value.slice none 0 0,Value.slice none 0 0,Value.slice none 0 0]),Go.Lx.box b1 37 ([v9,v10,v11])] _:=⟨gg360,Hle.refl _,hs⟩
      refine A rfl hS (fun w9 ⟨g9,hle9,hs⟩=>r_fieldAddr Tryz.underlying37 ti34 rfl rfl (by decide) rfl rfl) rfl<|A rfl hS (fun w9 ⟨g9,hle9,hs⟩=>r_load (v:=v1331) ti34 rfl (hs.cell (i:=6) (o:=2) rfl rfl)) rfl<|A rfl hS (fun w9 ⟨g9,hle9,hs⟩=>r_fieldAddr Tryz.underlying37 ti34 rfl rfl (by decide) rfl rfl) rfl<|A rfl hS (fun w9 ⟨g9,hle9,hs⟩=>r_load (v:=v11) ti34 rfl (hs.cell (i:=10) (o:=2) rfl rfl)) rfl<|A rfl hS (fun w9 ⟨g9,hle9,hs⟩=>r_move (v:=v1333) rfl) rfl<|A rfl hS (fun w9 ⟨g9,hle9,hs⟩=>r_move (v:=Value.int .i64 xv274) rfl) rfl ?_
      obtain ⟨e456,he456,hM⟩:=bindS hM
      obtain ⟨b1040,cb1040,hvb1040,cs900,hcs900,hcb1040⟩:=hs.rowEl (i:=4) rfl hrelxs1468 he456
      have hcs900:cs900=_:=hcs900; subst hcs900
      refine A rfl hS (fun w9 ⟨g9,hle9,hs⟩=>r_idxSl Tryz.underlying34 ti3 (v:=v1333) rfl hvb1040 rfl (idxL_some he456).1 (idxL_some he456).2.1) rfl<|A rfl hS (fun w9 ⟨g9,hle9,hs⟩=>r_loadEl (cs:=[Value.int .i64 e456]) ti3 rfl rfl (.inr rfl) (hcb1040 _ (hs.at (i:=4) rfl)) (v:=Value.int .i64 e456) rfl) rfl ?_
      obtain ⟨e457,he457,hM⟩:=bindS hM
      obtain ⟨b1041,ob1041,cb1041,hvb1041,cs901,hcs901,hcb1041⟩:=hRv11b.at he457
      have hcs901:cs901=_:=hcs901; subst hcs901
      refine A rfl hS (fun w9 ⟨g9,hle9,hs⟩=>r_idxSl Tryz.underlying34 ti3 (v:=v11) rfl hvb1041 rfl (idxL_some he457).1 (idxL_some he457).2.1) rfl<|A rfl hS (fun w9 ⟨g9,hle9,hs⟩=>r_loadEl (cs:=[Value.int .i64 e457]) ti3 rfl rfl (.inr rfl) (hcb1041 _ (hs.imm.of_le hle9)) (v:=Value.int .i64 e457) rfl) rfl<|A1 rfl<|OW_lit (τ:=(tInt .i64)) [Value.int .i64 e457] [e457] Tryz.underlying34 ti3 (by decide) hs rfl rfl rfl ⟨rfl,trivial⟩ rfl ?_
      intro v1385 wv1404 xs1526 hrelxs1526 hs
      refine OW_nil ?_
      replace hS:=hS.to (Hle.refl _) (hs.sub (.cons _ (.cons_cons _ (.cons_cons _ (.cons_cons _ (.cons_cons _ (.cons_cons _ (.cons_cons _ (.cons_cons _ (.cons_cons _ (.cons_cons _ (.cons_cons _ (.cons_cons _ .slnil)))))))))))))
      refine ⟨fun _=>hS,?_⟩
      refine A1 rfl ?_
      obtain ⟨y828,hy828,hM⟩:=bindS hM
      refine OW_appendK Tryz.underlying34 ti3 rfl (by decide) (by decide) hs (i:=3) rfl hrelxs1466 (v:=v1331) rfl (u:=v1385) rfl (hs.rowSrc (i:=0) rfl) hrelxs1526 hy828 rfl ?_
      intro v1386 wv1405 xs1527 hrelxs1527 hsO hs
      refine OW_nil ?_
      have hsO:Go.Lx.Sep g0 w0 gg360 _ [.row v1383 34 (tSl (tInt .i64)).sz [l93].length xs1524,.row v1384 34 (tSl (tInt .i64)).sz y827.length xs1525,.row v1331 3 (tInt .i64).sz xv272.length xs1466,.obj b8 (.map es577 ck577),.row v1333 3 (tInt .i64).sz xv389.length xs1468,.row v1332 5 (tInt .u8).sz rv9.length xs1467,Go.Lx.box b5 37 ([v1329,v1384,v1331]),.row v1329 3 (tInt .i64).sz rv6.length xs1464,.row v1328 3 (tInt .i64).sz rv3.length xs1463,Go.Lx.box b2 37 ([Value.slice none 0 0,Value.slice none 0 0,Value.slice none 0 0]),Go.Lx.box b1 37 ([v9,v10,v11])]:=(hsO.sub (.cons _ (.cons_cons _ (.cons_cons _ (.cons_cons _ (.cons_cons _ (.cons_cons _ (.cons_cons _ (.cons_cons _ (.cons_cons _ (.cons_cons _ (.cons_cons _ (.cons_cons _ .slnil)))))))))))))
      replace hS:=hS.to (Hle.refl _) hsO
      refine ⟨fun _=>hS,?_⟩
      refine A rfl hS (fun w9 ⟨g9,hle9,hs⟩=>r_fieldAddr Tryz.underlying37 ti34 rfl rfl (by decide) rfl rfl) rfl<|A1 rfl<|OW_store1 ti34 hs (i:=7) rfl rfl (v:=v1386) rfl (by obtain ⟨_,_,h9⟩:=hs.rowShape (i:=3) rfl; rw [h9]; rfl) (o:=2) (by simp) ?_
      intro wv1406 hs
      refine OW_nil ?_
      refine ⟨fun h=>absurd h (by decide +kernel),?_⟩
      refine AN ?_
      simp only [Option.some.injEq,Prod.mk.injEq] at hM
      obtain ⟨rfl,rfl,rfl,rfl⟩:=hM
      exact ⟨gg360,v1384,xs1525,v1386,xs1527,es577,ck577,v1333,xs1468,v1332,xs1467,v1329,xs1464,v1328,xs1463,rfl,rfl,rfl,rfl,rfl,rfl,rfl,rfl,hds,hagg253,hrelxs1525,hrelxs1527,hmes577,hrelxs1468,hrelxs1467,hrelxs1464,hrelxs1463,(hs.sub (.cons _ (.cons _ (.cons_cons _ (.cons_cons _ (.cons_cons _ (.cons_cons _ (.cons_cons _ (.cons_cons _ (.cons_cons _ (.cons_cons _ (.cons_cons _ (.cons_cons _ .slnil)))))))))))))⟩
    ·clear hs
     rintro E w ⟨gg334,v1275,xs1404,v1276,xs1405,es552,ck552,v1278,xs1407,v1277,xs1406,v1274,xs1403,v1273,xs1402,hE1,hE2,hE3,hE4,hE5,hE6,hE7,hE8,hds,hlegg334,hrelxs1404,hrelxs1405,hmes552,hrelxs1407,hrelxs1406,hrelxs1403,hrelxs1402,hs⟩
     have hM:=hKhx217
     obtain ⟨E,rfl⟩:=open8 (E:=E) hE1 hE2 hE3 hE4 hE5 hE6 hE7 hE8
     replace hlegg253:=hlegg253.trans hlegg334
     refine WP_region<|O (r_move (v:=Value.int .i64 xv274) rfl) rfl ?_
     obtain ⟨t78,ht78,hM⟩:=bindS hM
     refine O (r_addM rfl rfl ht78) rfl<|O (r_assign (v:=Value.int .i64 t78) rfl) rfl<|OW_nil ?_
     obtain rfl:=Option.some.inj hM
     exact ⟨gg334,v1275,xs1404,v1276,xs1405,es552,ck552,v1278,xs1407,v1277,xs1406,v1274,xs1403,v1273,xs1402,rfl,rfl,rfl,rfl,rfl,rfl,rfl,rfl,hds,hlegg253,hrelxs1404,hrelxs1405,hmes552,hrelxs1407,hrelxs1406,hrelxs1403,hrelxs1402,hs⟩
   ·refine WP_false rfl hc426<|WP_exit ?_
    obtain rfl:=Option.some.inj hM
    refine fun hr=>?_
    have hM:=congrArg some hr
    simp only [Option.some.injEq,Prod.mk.injEq] at hM
    obtain ⟨rfl,rfl⟩:=hM
    exact ⟨gg253,v933,xs1026,v934,xs1027,v932,xs1025,rfl,rfl,hds,hlegg253,hrelxs1026,hrelxs1027,hrelxs1025,(hs.sub (.cons_cons _ (.cons_cons _ (.cons _ (.cons _ (.cons _ (.cons_cons _ (.cons_cons _ (.cons _ (.cons_cons _ (.cons _ .slnil)))))))))))⟩
  ·clear hs
   rintro E w ⟨gg198,v705,xs770,v706,xs771,v704,xs769,hE2,hE4,hds,hlegg198,hrelxs770,hrelxs771,hrelxs769,hs⟩
   have hM:=hKhx119
   obtain ⟨E,rfl⟩:=open2 (E:=E) hE2 hE4
   refine WP_seq<|WP_region<|O (r_loadN (cs:=[v704,v705,v706]) ti37 rfl rfl (hs.cells (i:=2) rfl)) rfl<|OW_storeAll ti37 hs (i:=4) rfl rfl (v:=Value.agg (List.toArray (α:=Value) [v704,v705,v706])) rfl (vs:=[v704,v705,v706]) rfl (one_cons (by obtain ⟨_,_,h9⟩:=hs.rowShape (i:=3) rfl; rw [h9]; rfl) (one_cons (by obtain ⟨_,_,h9⟩:=hs.rowShape (i:=0) rfl; rw [h9]; rfl) (one_cons (by obtain ⟨_,_,h9⟩:=hs.rowShape (i:=1) rfl; rw [h9]; rfl) one_nil))) rfl rfl ?_
   intro wv1407 hs
   refine OW_nil<|WP_ret ?_
   obtain rfl:=Option.some.inj hM
   obtain ⟨gg361,hlegg361,hRgg361,hs⟩:=hs.relRow (i:=3) rfl hrelxs769
   replace hrelxs770:=hrelxs770.mono hlegg361
   replace hrelxs771:=hrelxs771.mono hlegg361
   obtain ⟨gg362,hlegg362,hRgg362,hs⟩:=hs.relRow (i:=0) rfl hrelxs770
   replace hrelxs771:=hrelxs771.mono hlegg362
   replace hRgg361:=hRgg361.mono hlegg362
   obtain ⟨gg363,hlegg363,hRgg363,hs⟩:=hs.relRow (i:=0) rfl hrelxs771
   replace hRgg361:=hRgg361.mono hlegg363
   replace hRgg362:=hRgg362.mono hlegg363
   refine FL_nil hds ?_
   exact ⟨_,res1 Tryz.results66 (rv_cells (vs:=[v704,v705,v706]) ti37 rfl rfl (hs.cells (i:=1) rfl)),gg363,⟨[v704,v705,v706],rfl,⟨[v704],[v705],[v706],rfl,⟨_,rfl,hRgg361⟩,⟨_,rfl,hRgg362⟩,⟨_,rfl,hRgg363⟩⟩⟩,hs.ext⟩
set_option maxRecDepth 100000 in
theorem lexspec_build_ok {l1:(List T_Regex)} {r:T_DFA×Int} (hM:M.lexspec_build l1=some r) {g0:Hp} {w0:World} (hi:Imm g0 w0) {v1:Value} (hRv1:RdS tT_Regex g0 v1 l1) :
    CallsV Tryz.prog 35 #[v1] w0 (fun v w'=>∃g',(∃v1 v2,v=.tuple #[v1,v2]∧VRd tT_DFA true g' v1 r.1∧VRd (tInt .i64) false g' v2 r.2)∧Ext g0 w0 g' w'):=by
 unfold M.lexspec_build at hM
 have hs:=Sep.start hi
 refine calls_of_WP (args:=[v1]) Tryz.func35 rfl Tryz.ntmps35 rfl ?_
 have hds:(argEnv [v1]).ds=[]:=rfl
 refine WP_seq<|WP_region<|OW_alloc ti37 hs (zs:=[Value.slice none 0 0,Value.slice none 0 0,Value.slice none 0 0]) rfl rfl ?_
 intro b1 wv1 hs
 refine O (r_assign (v:=Value.int .i64 0) rfl) rfl<|OW_nil<|WP_seq<|WP_region<|O (r_move (v:=v1) rfl) rfl ?_
 obtain ⟨rv1,hrv1,hM⟩:=bindS hM
 refine C [v1] cf64 rfl (nfa_FromRegexes_ok hrv1 hs.imm hRv1) rfl ?_
 rintro v2 wv2 ⟨gg1,hvv2,hegg1⟩
 have hlegg1:=hegg1.le hs.imm
 replace hs:=hs.call hegg1
 obtain ⟨v3,v4,rfl,hvv3,hvv4⟩:=hvv2
 obtain ⟨cs1,rfl,hcs1⟩:=hvv4
 have hcs1:cs1=_:=hcs1; subst hcs1
 obtain ⟨cs2,rfl,hcs2⟩:=hvv3
 obtain ⟨cs3,cs4,cs5,cs6,rfl,hcs3,hcs4,hcs5,hcs6⟩:=hcs2
 have hcs3:cs3=_:=hcs3; subst hcs3
 have hcs4:cs4=_:=hcs4; subst hcs4
 obtain ⟨v5,rfl,hRv5⟩:=hcs5
 obtain ⟨v6,rfl,hRv6⟩:=hcs6
 refine O (r_move (v:=Value.tuple #[Value.agg (List.toArray (α:=Value) [Value.int .i64 rv1.1.States,Value.int .i64 rv1.1.Start,v5,v6]),Value.int .i64 rv1.2]) rfl) rfl<|O (r_extract (vs:=[Value.agg (List.toArray (α:=Value) [Value.int .i64 rv1.1.States,Value.int .i64 rv1.1.Start,v5,v6]),Value.int .i64 rv1.2]) (v:=Value.agg (List.toArray (α:=Value) [Value.int .i64 rv1.1.States,Value.int .i64 rv1.1.Start,v5,v6])) rfl rfl) rfl<|O (r_extract (vs:=[Value.agg (List.toArray (α:=Value) [Value.int .i64 rv1.1.States,Value.int .i64 rv1.1.Start,v5,v6]),Value.int .i64 rv1.2]) (v:=Value.int .i64 rv1.2) rfl rfl) rfl<|OW_alloc ti71 hs (zs:=[Value.int .i64 0,Value.int .i64 0,Value.slice none 0 0,Value.slice none 0 0]) rfl rfl ?_
 intro b2 wv3 hs
 refine OW_storeAll ti71 hs (i:=0) rfl rfl (v:=Value.agg (List.toArray (α:=Value) [Value.int .i64 rv1.1.States,Value.int .i64 rv1.1.Start,v5,v6])) rfl (vs:=[Value.int .i64 rv1.1.States,Value.int .i64 rv1.1.Start,v5,v6]) rfl (one_cons rfl (one_cons rfl (one_cons (by obtain ⟨_,_,h9⟩:=hRv5.shape; rw [h9]; rfl) (one_cons (by obtain ⟨_,_,h9⟩:=hRv6.shape; rw [h9]; rfl) one_nil)))) rfl rfl ?_
 intro wv4 hs
 refine O (r_assign (v:=Value.int .i64 rv1.2) rfl) rfl<|OW_nil<|WP_seq<|WP_seq<|WP_region<|O (r_move (v:=Value.int .i64 rv1.2) rfl) rfl<|O (r_neq rfl rfl) rfl<|OW_nil ?_
 rcases condS hM with ⟨hc1,hM⟩|⟨hc1,hM⟩
 ·refine WP_true rfl hc1<|WP_seq<|WP_region<|O (r_build (vs:=[]) (cs:=[Value.slice none 0 0,Value.slice none 0 0,Value.slice none 0 0]) rfl (built_fill [(0,1),(1,1),(2,1)] [Value.slice none 0 0,Value.slice none 0 0,Value.slice none 0 0] (fun _=>by kernel_rfl) (fill_done))) rfl<|O (r_move (v:=Value.int .i64 rv1.2) rfl) rfl<|OW_storeAll ti37 hs (i:=1) rfl rfl (v:=Value.agg (List.toArray (α:=Value) [Value.slice none 0 0,Value.slice none 0 0,Value.slice none 0 0])) rfl (vs:=[Value.slice none 0 0,Value.slice none 0 0,Value.slice none 0 0]) rfl (one_cons rfl (one_cons rfl (one_cons rfl one_nil))) rfl rfl ?_
  intro wv5 hs
  refine O (r_assign (v:=Value.int .i64 rv1.2) rfl) rfl<|OW_nil<|WP_ret ?_
  obtain rfl:=Option.some.inj hM
  refine FL_nil hds ?_
  exact ⟨_,res2 Tryz.results35 (rv_cells (vs:=[Value.slice none 0 0,Value.slice none 0 0,Value.slice none 0 0]) ti37 rfl rfl (hs.cells (i:=1) rfl)) (rv_tmp (v:=Value.int .i64 rv1.2) rfl),gg1,⟨_,_,rfl,⟨[Value.slice none 0 0,Value.slice none 0 0,Value.slice none 0 0],rfl,⟨[Value.slice none 0 0],[Value.slice none 0 0],[Value.slice none 0 0],rfl,⟨_,rfl,RdS.nil⟩,⟨_,rfl,RdS.nil⟩,⟨_,rfl,RdS.nil⟩⟩⟩,⟨[Value.int .i64 rv1.2],rfl,rfl⟩⟩,hs.ext⟩
 ·refine WP_false rfl hc1<|WP_skip<|WP_seq<|WP_region<|O (r_loadN (cs:=[Value.int .i64 rv1.1.States,Value.int .i64 rv1.1.Start,v5,v6]) ti71 rfl rfl (hs.cells (i:=0) rfl)) rfl ?_
  obtain ⟨rv2,hrv2,hM⟩:=bindS hM
  refine C [Value.agg (List.toArray (α:=Value) [Value.int .i64 rv1.1.States,Value.int .i64 rv1.1.Start,v5,v6])] cf65 rfl (dfa_Determinize_ok hrv2 hs.imm (⟨[Value.int .i64 rv1.1.States],[Value.int .i64 rv1.1.Start],[v5],[v6],rfl,rfl,rfl,⟨_,rfl,hRv5⟩,⟨_,rfl,hRv6⟩⟩)) rfl ?_
  rintro v7 wv6 ⟨gg2,hvv7,hegg2⟩
  have hlegg2:=hegg2.le hs.imm
  replace hs:=hs.call hegg2
  obtain ⟨v8,v9,rfl,hvv8,hvv9⟩:=hvv7
  obtain ⟨cs7,rfl,hcs7⟩:=hvv9
  have hcs7:cs7=_:=hcs7; subst hcs7
  obtain ⟨cs8,rfl,hcs8⟩:=hvv8
  obtain ⟨cs9,cs10,cs11,rfl,hcs9,hcs10,hcs11⟩:=hcs8
  obtain ⟨v10,rfl,hRv10⟩:=hcs9
  obtain ⟨v11,rfl,hRv11⟩:=hcs10
  obtain ⟨v12,rfl,hRv12⟩:=hcs11
  refine O (r_move (v:=Value.tuple #[Value.agg (List.toArray (α:=Value) [v10,v11,v12]),Value.int .i64 rv2.2]) rfl) rfl<|O (r_extract (vs:=[Value.agg (List.toArray (α:=Value) [v10,v11,v12]),Value.int .i64 rv2.2]) (v:=Value.agg (List.toArray (α:=Value) [v10,v11,v12])) rfl rfl) rfl<|O (r_extract (vs:=[Value.agg (List.toArray (α:=Value) [v10,v11,v12]),Value.int .i64 rv2.2]) (v:=Value.int .i64 rv2.2) rfl rfl) rfl<|OW_alloc ti37 hs (zs:=[Value.slice none 0 0,Value.slice none 0 0,Value.slice none 0 0]) rfl rfl ?_
  intro b3 wv7 hs
  refine OW_storeAll ti37 hs (i:=0) rfl rfl (v:=Value.agg (List.toArray (α:=Value) [v10,v11,v12])) rfl (vs:=[v10,v11,v12]) rfl (one_cons (by obtain ⟨_,_,h9⟩:=hRv10.shape; rw [h9]; rfl) (one_cons (by obtain ⟨_,_,h9⟩:=hRv11.shape; rw [h9]; rfl) (one_cons (by obtain ⟨_,_,h9⟩:=hRv12.shape; rw [h9]; rfl) one_nil))) rfl rfl ?_
  intro wv8 hs
  refine O (r_assign (v:=Value.int .i64 rv2.2) rfl) rfl<|OW_nil<|WP_seq<|WP_seq<|WP_region<|O (r_move (v:=Value.int .i64 rv2.2) rfl) rfl<|O (r_neq rfl rfl) rfl<|OW_nil ?_
  rcases condS hM with ⟨hc2,hM⟩|⟨hc2,hM⟩
  ·refine WP_true rfl hc2<|WP_seq<|WP_region<|O (r_build (vs:=[]) (cs:=[Value.slice none 0 0,Value.slice none 0 0,Value.slice none 0 0]) rfl (built_fill [(0,1),(1,1),(2,1)] [Value.slice none 0 0,Value.slice none 0 0,Value.slice none 0 0] (fun _=>by kernel_rfl) (fill_done))) rfl<|O (r_move (v:=Value.int .i64 rv2.2) rfl) rfl<|OW_storeAll ti37 hs (i:=2) rfl rfl (v:=Value.agg (List.toArray (α:=Value) [Value.slice none 0 0,Value.slice none 0 0,Value.slice none 0 0])) rfl (vs:=[Value.slice none 0 0,Value.slice none 0 0,Value.slice none 0 0]) rfl (one_cons rfl (one_cons rfl (one_cons rfl one_nil))) rfl rfl ?_
   intro wv9 hs
   refine O (r_assign (v:=Value.int .i64 rv2.2) rfl) rfl<|OW_nil<|WP_ret ?_
   obtain rfl:=Option.some.inj hM
   refine FL_nil hds ?_
   exact ⟨_,res2 Tryz.results35 (rv_cells (vs:=[Value.slice none 0 0,Value.slice none 0 0,Value.slice none 0 0]) ti37 rfl rfl (hs.cells (i:=2) rfl)) (rv_tmp (v:=Value.int .i64 rv2.2) rfl),gg2,⟨_,_,rfl,⟨[Value.slice none 0 0,Value.slice none 0 0,Value.slice none 0 0],rfl,⟨[Value.slice none 0 0],[Value.slice none 0 0],[Value.slice none 0 0],rfl,⟨_,rfl,RdS.nil⟩,⟨_,rfl,RdS.nil⟩,⟨_,rfl,RdS.nil⟩⟩⟩,⟨[Value.int .i64 rv2.2],rfl,rfl⟩⟩,hs.ext⟩
  ·refine WP_false rfl hc2<|WP_skip<|WP_seq<|WP_region<|O (r_loadN (cs:=[v10,v11,v12]) ti37 rfl rfl (hs.cells (i:=0) rfl)) rfl ?_
   obtain ⟨rv3,hrv3,hM⟩:=bindS hM
   refine C [Value.agg (List.toArray (α:=Value) [v10,v11,v12])] cf66 rfl (dfa_Minimize_ok hrv3 hs.imm (⟨[v10],[v11],[v12],rfl,⟨_,rfl,hRv10⟩,⟨_,rfl,hRv11⟩,⟨_,rfl,hRv12⟩⟩)) rfl ?_
   rintro v13 wv10 ⟨gg3,hvv13,hegg3⟩
   have hlegg3:=hegg3.le hs.imm
   replace hs:=hs.call hegg3
   obtain ⟨cs12,rfl,hcs12⟩:=hvv13
   obtain ⟨cs13,cs14,cs15,rfl,hcs13,hcs14,hcs15⟩:=hcs12
   obtain ⟨v14,rfl,hRv14⟩:=hcs13
   obtain ⟨v15,rfl,hRv15⟩:=hcs14
   obtain ⟨v16,rfl,hRv16⟩:=hcs15
   refine OW_storeAll ti37 hs (i:=2) rfl rfl (v:=Value.agg (List.toArray (α:=Value) [v14,v15,v16])) rfl (vs:=[v14,v15,v16]) rfl (one_cons (by obtain ⟨_,_,h9⟩:=hRv14.shape; rw [h9]; rfl) (one_cons (by obtain ⟨_,_,h9⟩:=hRv15.shape; rw [h9]; rfl) (one_cons (by obtain ⟨_,_,h9⟩:=hRv16.shape; rw [h9]; rfl) one_nil))) rfl rfl ?_
   intro wv11 hs
   refine O (r_assign (v:=Value.int .i64 0) rfl) rfl<|OW_nil<|WP_ret ?_
   obtain rfl:=Option.some.inj hM
   refine FL_nil hds ?_
   exact ⟨_,res2 Tryz.results35 (rv_cells (vs:=[v14,v15,v16]) ti37 rfl rfl (hs.cells (i:=2) rfl)) (rv_tmp (v:=Value.int .i64 0) rfl),gg3,⟨_,_,rfl,⟨[v14,v15,v16],rfl,⟨[v14],[v15],[v16],rfl,⟨_,rfl,hRv14⟩,⟨_,rfl,hRv15⟩,⟨_,rfl,hRv16⟩⟩⟩,⟨[Value.int .i64 0],rfl,rfl⟩⟩,hs.ext⟩
set_option maxRecDepth 100000 in
theorem dfa_result_ok {d1:T_DFA} {s1:Int} {r:Int} (hM:M.dfa_result d1 s1=some r) {g0:Hp} {w0:World} (hi:Imm g0 w0) {cs1:List Value} (hcs1:tT_DFA.rel g0 cs1 d1) :
    CallsV Tryz.prog 68 #[Value.agg cs1.toArray,Value.int .i64 s1] w0 (fun v w'=>∃g',(VRd (tInt .i64) false g' v r)∧Ext g0 w0 g' w'):=by
 unfold M.dfa_result at hM
 obtain ⟨cs2,cs3,cs4,rfl,hcs2,hcs3,hcs4⟩:=hcs1
 obtain ⟨v1,rfl,hRv1⟩:=hcs2
 obtain ⟨v2,rfl,hRv2⟩:=hcs3
 obtain ⟨v3,rfl,hRv3⟩:=hcs4
 have hs:=Sep.start hi
 refine calls_of_WP (args:=[Value.agg (List.toArray (α:=Value) [v1,v2,v3]),Value.int .i64 s1]) Tryz.func68 rfl Tryz.ntmps68 rfl ?_
 have hds:(argEnv [Value.agg (List.toArray (α:=Value) [v1,v2,v3]),Value.int .i64 s1]).ds=[]:=rfl
 refine WP_seq<|WP_region<|OW_box (v:=Value.agg (List.toArray (α:=Value) [v1,v2,v3])) rfl hs (zs:=[v1,v2,v3]) rfl rfl ?_
 intro b1 wv1 hs
 refine O (r_assign (v:=Value.int .i64 0) rfl) rfl<|OW_nil<|WP_seq<|WP_seq<|WP_region<|O (r_move (v:=Value.int .i64 s1) rfl) rfl<|O (r_lss rfl rfl) rfl<|OW_nil ?_
 rcases condS hM with ⟨hc1,hM⟩|⟨hc1,hM⟩
 ·refine WP_true rfl hc1<|WP_seq<|WP_region<|O (r_assign (v:=Value.int .i64 (-1)) rfl) rfl<|OW_nil<|WP_ret ?_
  obtain rfl:=Option.some.inj hM
  refine FL_nil hds ?_
  exact ⟨_,res1 Tryz.results68 (rv_tmp (v:=Value.int .i64 (-1)) rfl),g0,⟨[Value.int .i64 (-1)],rfl,rfl⟩,hs.ext⟩
 ·refine WP_false rfl hc1<|WP_skip<|WP_seq<|WP_region<|O (r_fieldAddr Tryz.underlying37 ti34 rfl rfl (by decide) rfl rfl) rfl<|O (r_load (v:=v3) ti34 rfl (hs.cell (i:=0) (o:=2) rfl rfl)) rfl<|O (r_move (v:=Value.int .i64 s1) rfl) rfl ?_
  obtain ⟨e1,he1,hM⟩:=bindS hM
  obtain ⟨b2,ob2,cb2,hvb2,cs5,hcs5,hcb2⟩:=hRv3.at he1
  have hcs5:cs5=_:=hcs5; subst hcs5
  refine O (r_idxSl Tryz.underlying34 ti3 (v:=v3) rfl hvb2 rfl (idxL_some he1).1 (idxL_some he1).2.1) rfl<|O (r_loadEl (cs:=[Value.int .i64 e1]) ti3 rfl rfl (.inr rfl) (hcb2 _ hs.imm) (v:=Value.int .i64 e1) rfl) rfl<|O (r_assign (v:=Value.int .i64 e1) rfl) rfl<|OW_nil<|WP_ret ?_
  obtain rfl:=Option.some.inj hM
  refine FL_nil hds ?_
  exact ⟨_,res1 Tryz.results68 (rv_tmp (v:=Value.int .i64 e1) rfl),g0,⟨[Value.int .i64 e1],rfl,rfl⟩,hs.ext⟩
set_option maxRecDepth 100000 in
theorem dfa_Run_ok {d1:T_DFA} {s1:Str} {r:Int} (hM:M.dfa_Run d1 s1=some r) {g0:Hp} {w0:World} (hi:Imm g0 w0) {cs1:List Value} (hcs1:tT_DFA.rel g0 cs1 d1) :
    CallsV Tryz.prog 36 #[Value.agg cs1.toArray,encS s1] w0 (fun v w'=>∃g',(VRd (tInt .i64) false g' v r)∧Ext g0 w0 g' w'):=by
 unfold M.dfa_Run at hM
 obtain ⟨cs2,cs3,cs4,rfl,hcs2,hcs3,hcs4⟩:=hcs1
 obtain ⟨v1,rfl,hRv1⟩:=hcs2
 obtain ⟨v2,rfl,hRv2⟩:=hcs3
 obtain ⟨v3,rfl,hRv3⟩:=hcs4
 have hs:=Sep.start hi
 refine calls_of_WP (args:=[Value.agg (List.toArray (α:=Value) [v1,v2,v3]),encS s1]) Tryz.func36 rfl Tryz.ntmps36 rfl ?_
 have hds:(argEnv [Value.agg (List.toArray (α:=Value) [v1,v2,v3]),encS s1]).ds=[]:=rfl
 refine WP_seq<|WP_region<|OW_box (v:=Value.agg (List.toArray (α:=Value) [v1,v2,v3])) rfl hs (zs:=[v1,v2,v3]) rfl rfl ?_
 intro b1 wv1 hs
 refine O (r_assign (v:=Value.int .i64 0) rfl) rfl<|OW_nil<|WP_seq<|WP_region<|O (r_assign (v:=Value.int .i64 0) rfl) rfl<|OW_nil ?_
 obtain ⟨state7,hx1,hKhx1⟩:=bindS hM
 refine WP_cut (fun E w=>∃(gg7:Hp),E 2=Value.pointer (some ⟨b1,0,none⟩)∧E 5=Value.int .i64 state7∧E.ds=[]∧Hle g0 gg7∧Go.Lx.Sep g0 w0 gg7 w [Go.Lx.box b1 37 ([v1,v2,v3])]) ?_ ?_
 ·have hM:=hx1
  have hag0:=Hle.refl g0
  refine WP_seq<|WP_region<|O (r_move (v:=encS s1) rfl) rfl<|O (r_lenStr Tryz.underlying9 rfl) rfl<|O (r_move (v:=Value.int .i64 0) rfl) rfl<|OW_nil<|WP_block<|WP_loop (fun (st9:Int×Int) E w=>match st9 with|(state10,xv5)=>∃(gg10:Hp),E 1=encS s1∧E 2=Value.pointer (some ⟨b1,0,none⟩)∧E 5=Value.int .i64 state10∧E 8=Value.int .i64 (s1.length:Int)∧E 9=Value.int .i64 xv5∧E.ds=[]∧Hle g0 gg10∧Go.Lx.Sep g0 w0 gg10 w [Go.Lx.box b1 37 ([v1,v2,v3])]) hM ⟨g0,rfl,rfl,rfl,rfl,rfl,hds,(Hle.refl _),hs⟩ ?_
  clear hs hM
  rintro ⟨state10,xv5⟩ o2 E w hM ⟨gg10,hE1,hE2,hE5,hE8,hE9,hds,hlegg10,hs⟩
  obtain ⟨E,rfl⟩:=open5 (E:=E) hE1 hE2 hE5 hE8 hE9
  replace hRv1:=hRv1.mono hlegg10
  replace hRv2:=hRv2.mono hlegg10
  replace hRv3:=hRv3.mono hlegg10
  have hagg10:=Hle.refl gg10
  refine WP_seq<|WP_region<|O (r_lss rfl rfl) rfl<|OW_nil<|WP_seq ?_
  rcases condS hM with ⟨hc6,hM⟩|⟨hc6,hM⟩
  ·refine WP_true rfl hc6<|WP_skip<|WP_seq<|WP_block<|WP_seq<|WP_region<|O (r_move (v:=Value.int .i64 xv5) rfl) rfl<|O (r_assign (v:=Value.int .i64 xv5) rfl) rfl<|OW_nil<|WP_drawTail 5 mo (by decide +kernel) ?_
   have hs:=hs.drew
   refine S (r_loadN (cs:=[v1,v2,v3]) ti37 rfl rfl (hs.cells (i:=0) rfl)) rfl<|S (r_move (v:=Value.int .i64 state10) rfl) rfl<|S (r_move (v:=encS s1) rfl) rfl<|S (r_move (v:=Value.int .i64 xv5) rfl) rfl ?_
   obtain ⟨c6,hc6,hM⟩:=bindS hM
   refine S (r_idxStr Tryz.underlying9 rfl rfl hc6) rfl<|SW_nil ?_
   obtain ⟨state13,hstate13,hM⟩:=bindS hM
   refine C [Value.agg (List.toArray (α:=Value) [v1,v2,v3]),Value.int .i64 state10,Value.int .u8 c6] cf67 rfl (dfa_step_ok hstate13 hs.imm (⟨[v1],[v2],[v3],rfl,⟨_,rfl,hRv1⟩,⟨_,rfl,hRv2⟩,⟨_,rfl,hRv3⟩⟩)) rfl ?_
   rintro v9 wv7 ⟨gg13,hvv9,hegg13⟩
   have hlegg13:=hegg13.le hs.imm
   replace hs:=hs.call hegg13
   replace hlegg10:=hlegg10.trans hlegg13
   obtain ⟨cs10,rfl,hcs10⟩:=hvv9
   have hcs10:cs10=_:=hcs10; subst hcs10
   refine O (r_assign (v:=Value.int .i64 state13) rfl) rfl<|OW_nil<|WP_region ?_
   obtain ⟨t6,ht6,hM⟩:=bindS hM
   refine O (r_addM rfl rfl ht6) rfl<|O (r_move (v:=Value.int .i64 t6) rfl) rfl<|OW_nil ?_
   obtain rfl:=Option.some.inj hM
   exact ⟨gg13,rfl,rfl,rfl,rfl,rfl,hds,hlegg10,hs⟩
  ·refine WP_false rfl hc6<|WP_exit ?_
   obtain rfl:=Option.some.inj hM
   refine fun hr=>?_
   have hM:=congrArg some hr
   obtain rfl:=Option.some.inj hM
   exact ⟨gg10,rfl,rfl,hds,hlegg10,hs⟩
 ·clear hs
  rintro E w ⟨gg7,hE2,hE5,hds,hlegg7,hs⟩
  have hM:=hKhx1
  obtain ⟨E,rfl⟩:=open2 (E:=E) hE2 hE5
  replace hRv1:=hRv1.mono hlegg7
  replace hRv2:=hRv2.mono hlegg7
  replace hRv3:=hRv3.mono hlegg7
  refine WP_seq<|WP_region<|O (r_loadN (cs:=[v1,v2,v3]) ti37 rfl rfl (hs.cells (i:=0) rfl)) rfl<|O (r_move (v:=Value.int .i64 state7) rfl) rfl ?_
  obtain ⟨rv1,hrv1,hM⟩:=bindS hM
  refine C [Value.agg (List.toArray (α:=Value) [v1,v2,v3]),Value.int .i64 state7] cf68 rfl (dfa_result_ok hrv1 hs.imm (⟨[v1],[v2],[v3],rfl,⟨_,rfl,hRv1⟩,⟨_,rfl,hRv2⟩,⟨_,rfl,hRv3⟩⟩)) rfl ?_
  rintro v10 wv8 ⟨gg14,hvv10,hegg14⟩
  have hlegg14:=hegg14.le hs.imm
  replace hs:=hs.call hegg14
  obtain ⟨cs11,rfl,hcs11⟩:=hvv10
  have hcs11:cs11=_:=hcs11; subst hcs11
  refine O (r_assign (v:=Value.int .i64 rv1) rfl) rfl<|OW_nil<|WP_ret ?_
  obtain rfl:=Option.some.inj hM
  refine FL_nil hds ?_
  exact ⟨_,res1 Tryz.results36 (rv_tmp (v:=Value.int .i64 rv1) rfl),gg14,⟨[Value.int .i64 rv1],rfl,rfl⟩,hs.ext⟩
set_option maxRecDepth 100000 in
theorem lexspec_literal_ok {s1:Str} {r:T_Regex} (hM:M.lexspec_literal s1=some r) {g0:Hp} {w0:World} (hi:Imm g0 w0) :
    CallsV Tryz.prog 69 #[encS s1] w0 (fun v w'=>∃g',(VRd tT_Regex true g' v r)∧Ext g0 w0 g' w'):=by
 unfold M.lexspec_literal at hM
 have hs:=Sep.start hi
 refine calls_of_WP (args:=[encS s1]) Tryz.func69 rfl Tryz.ntmps69 rfl ?_
 have hds:(argEnv [encS s1]).ds=[]:=rfl
 refine WP_seq<|WP_region<|OW_alloc ti53 hs (zs:=([Value.int .i64 0])++(((Vec.zero 4).1.map (Value.int .u64))++([Value.slice none 0 0]))) rfl rfl ?_
 intro b1 wv1 hs
 refine OW_nil<|WP_seq<|WP_region<|O (r_assign (v:=Value.slice none 0 0) rfl) rfl<|OW_nil ?_
 obtain ⟨xv7,hx1,hKhx1⟩:=bindS hM
 refine WP_cut (fun E w=>∃(gg7:Hp) (v13:Value) (xs11:List Value),E 2=Value.pointer (some ⟨b1,0,none⟩)∧E 3=v13∧E.ds=[]∧Hle g0 gg7∧RowRel tT_Regex gg7 xs11 xv7∧Go.Lx.Sep g0 w0 gg7 w [.row v13 53 tT_Regex.sz xv7.length xs11,Go.Lx.box b1 53 (([Value.int .i64 0])++(((Vec.zero 4).1.map (Value.int .u64))++([Value.slice none 0 0])))]) ?_ ?_
 ·have hM:=hx1
  have hag0:=Hle.refl g0
  refine WP_seq<|WP_region<|O (r_move (v:=encS s1) rfl) rfl<|O (r_lenStr Tryz.underlying9 rfl) rfl<|O (r_move (v:=Value.int .i64 0) rfl) rfl<|OW_nil<|WP_block ?_
  have hs:=hs.nilRow 53 tT_Regex.sz
  refine WP_loop (fun (st9:(List T_Regex)×Int) E w=>match st9 with|(xv10,xv11)=>∃(gg10:Hp) (v18:Value) (xs16:List Value),E 0=encS s1∧E 2=Value.pointer (some ⟨b1,0,none⟩)∧E 3=v18∧E 6=Value.int .i64 (s1.length:Int)∧E 7=Value.int .i64 xv11∧E.ds=[]∧Hle g0 gg10∧RowRel tT_Regex gg10 xs16 xv10∧Go.Lx.Sep g0 w0 gg10 w [.row v18 53 tT_Regex.sz xv10.length xs16,Go.Lx.box b1 53 (([Value.int .i64 0])++(((Vec.zero 4).1.map (Value.int .u64))++([Value.slice none 0 0])))]) hM ⟨g0,(Value.slice none 0 0),[],rfl,rfl,rfl,rfl,rfl,hds,(Hle.refl _),RowRel.nil,hs⟩ ?_
  clear hs hM
  rintro ⟨xv10,xv11⟩ o2 E w hM ⟨gg10,v18,xs16,hE0,hE2,hE3,hE6,hE7,hds,hlegg10,hrelxs16,hs⟩
  obtain ⟨E,rfl⟩:=open5 (E:=E) hE0 hE2 hE3 hE6 hE7
  have hagg10:=Hle.refl gg10
  refine WP_seq<|WP_region<|O (r_lss rfl rfl) rfl<|OW_nil<|WP_seq ?_
  rcases condS hM with ⟨hc6,hM⟩|⟨hc6,hM⟩
  ·refine WP_true rfl hc6<|WP_skip<|WP_seq<|WP_block<|WP_seq<|WP_region<|O (r_move (v:=Value.int .i64 xv11) rfl) rfl<|O (r_assign (v:=Value.int .i64 xv11) rfl) rfl<|OW_nil<|WP_any (.q 0 (.q 1 (.q 2 (.q 3 (.q 4 (.q 5 (.q 6 (.s 7 (.q 8 (.s 9 (.s 10 (.q 11 (.leaf))))))))))))) (SS g0 w0 gg10 [.row v18 53 tT_Regex.sz xv10.length xs16,Go.Lx.box b1 53 (([Value.int .i64 0])++(((Vec.zero 4).1.map (Value.int .u64))++([Value.slice none 0 0])))]) mo (by decide +kernel) ?_
   have hs:=hs.drew
   have hS:SS g0 w0 gg10 [.row v18 53 tT_Regex.sz xv10.length xs16,Go.Lx.box b1 53 (([Value.int .i64 0])++(((Vec.zero 4).1.map (Value.int .u64))++([Value.slice none 0 0])))] _:=⟨gg10,Hle.refl _,hs⟩
   refine A rfl hS (fun w9 ⟨g9,hle9,hs⟩=>r_move (v:=v18) rfl) rfl<|A rfl hS (fun w9 ⟨g9,hle9,hs⟩=>r_move (v:=encS s1) rfl) rfl<|A rfl hS (fun w9 ⟨g9,hle9,hs⟩=>r_move (v:=Value.int .i64 xv11) rfl) rfl ?_
   obtain ⟨c6,hc6,hM⟩:=bindS hM
   refine A rfl hS (fun w9 ⟨g9,hle9,hs⟩=>r_idxStr Tryz.underlying9 rfl rfl hc6) rfl<|A rfl hS (fun w9 ⟨g9,hle9,hs⟩=>r_move (v:=encS s1) rfl) rfl<|A rfl hS (fun w9 ⟨g9,hle9,hs⟩=>r_move (v:=Value.int .i64 xv11) rfl) rfl<|A rfl hS (fun w9 ⟨g9,hle9,hs⟩=>r_idxStr Tryz.underlying9 rfl rfl hc6) rfl<|A1 rfl ?_
   obtain ⟨rv6,hrv6,hM⟩:=bindS hM
   refine C [Value.int .u8 c6,Value.int .u8 c6] cf101 rfl (byteset_Range_ok hrv6 hs.imm) rfl ?_
   rintro v23 wv17 ⟨gg13,hvv23,hegg13⟩
   have hlegg13:=hegg13.le hs.imm
   replace hs:=hs.call hegg13
   replace hrelxs16:=hrelxs16.mono hlegg13
   replace hlegg10:=hlegg10.trans hlegg13
   replace hagg10:=hagg10.trans hlegg13
   obtain ⟨cs6,rfl,hcs6⟩:=hvv23
   have hcs6:cs6=_:=hcs6; subst hcs6
   refine OW_nil ?_
   replace hS:=hS.to hagg10 hs
   refine ⟨fun _=>hS,?_⟩
   refine A rfl hS (fun w9 ⟨g9,hle9,hs⟩=>r_build (vs:=[(0,Value.int .i64 3),(1,encV .u64 rv6)]) (cs:=([Value.int .i64 3])++((rv6.1.map (Value.int .u64))++([Value.slice none 0 0]))) rfl (built_fill [(0,1),(1,4),(5,1)] (([Value.int .i64 0])++(((Vec.zero 4).1.map (Value.int .u64))++([Value.slice none 0 0]))) (fun _=>by kernel_rfl) (fill_step ([]) ([Value.int .i64 0]) (((Vec.zero 4).1.map (Value.int .u64))++([Value.slice none 0 0])) ([Value.int .i64 3]) rfl (by simp) rfl rfl rfl rfl<|fill_step ([Value.int .i64 3]) ((Vec.zero 4).1.map (Value.int .u64)) ([Value.slice none 0 0]) (rv6.1.map (Value.int .u64)) rfl (by simp) rfl rfl (by simp [(Vec.zero 4).2]) (by simp [rv6.2])<|fill_done))) rfl ?_
   refine A1 rfl<|OW_lit (τ:=tT_Regex) [Value.agg (List.toArray (α:=Value) (([Value.int .i64 3])++((rv6.1.map (Value.int .u64))++([Value.slice none 0 0]))))] [(T_Regex.mk 3 rv6 [])] Tryz.underlying51 ti53 (by decide) hs rfl rfl rfl ⟨(tT_Regex_iff.2 ⟨[Value.int .i64 3],rv6.1.map (Value.int .u64),[Value.slice none 0 0],rfl,rfl,rfl,⟨_,rfl,RdS.nil⟩⟩),trivial⟩ rfl ?_
   intro v24 wv18 xs20 hrelxs20 hs
   refine OW_nil ?_
   replace hS:=hS.to hagg10 (hs.sub (.cons _ (.cons_cons _ (.cons_cons _ .slnil))))
   refine ⟨fun _=>hS,?_⟩
   refine A1 rfl ?_
   obtain ⟨l4,hl4,hM⟩:=bindS hM
   refine OW_appendK Tryz.underlying51 ti53 rfl (by decide) (by decide) hs (i:=1) rfl hrelxs16 (v:=v18) rfl (u:=v24) rfl (hs.rowSrc (i:=0) rfl) hrelxs20 hl4 rfl ?_
   intro v25 wv19 xs21 hrelxs21 hsO hs
   refine OW_nil ?_
   have hsO:Go.Lx.Sep g0 w0 gg13 _ [.row v18 53 tT_Regex.sz xv10.length xs16,Go.Lx.box b1 53 (([Value.int .i64 0])++(((Vec.zero 4).1.map (Value.int .u64))++([Value.slice none 0 0])))]:=(hsO.sub (.cons _ (.cons_cons _ (.cons_cons _ .slnil))))
   replace hS:=hS.to hagg10 hsO
   refine ⟨fun _=>hS,?_⟩
   refine A rfl hS (fun w9 ⟨g9,hle9,hs⟩=>r_assign (v:=v25) rfl) rfl<|AN<|WP_region ?_
   obtain ⟨t6,ht6,hM⟩:=bindS hM
   refine O (r_addM rfl rfl ht6) rfl<|O (r_move (v:=Value.int .i64 t6) rfl) rfl<|OW_nil ?_
   obtain rfl:=Option.some.inj hM
   exact ⟨gg13,v25,xs21,rfl,rfl,rfl,rfl,rfl,hds,hlegg10,hrelxs21,(hs.sub (.cons _ (.cons_cons _ (.cons_cons _ .slnil))))⟩
  ·refine WP_false rfl hc6<|WP_exit ?_
   obtain rfl:=Option.some.inj hM
   refine fun hr=>?_
   have hM:=congrArg some hr
   obtain rfl:=Option.some.inj hM
   exact ⟨gg10,v18,xs16,rfl,rfl,hds,hlegg10,hrelxs16,hs⟩
 ·clear hs
  rintro E w ⟨gg7,v13,xs11,hE2,hE3,hds,hlegg7,hrelxs11,hs⟩
  have hM:=hKhx1
  obtain ⟨E,rfl⟩:=open2 (E:=E) hE2 hE3
  refine WP_seq<|WP_seq<|WP_region<|O (r_move (v:=v13) rfl) rfl ?_
  obtain ⟨a1,ca1,hva1⟩:=hs.rowShape (i:=0) rfl
  refine O (r_lenSl (v:=v13) Tryz.underlying51 rfl hva1) rfl<|O (r_eql rfl rfl) rfl<|OW_nil ?_
  rcases condS hM with ⟨hc7,hM⟩|⟨hc7,hM⟩
  ·refine WP_true rfl hc7<|WP_seq<|WP_region<|O (r_move (v:=v13) rfl) rfl ?_
   obtain ⟨e1,he1,hM⟩:=bindS hM
   obtain ⟨b2,cb2,hvb2,cs7,hcs7,hcb2⟩:=hs.rowEl (i:=0) rfl hrelxs11 he1
   obtain ⟨cs8,cs9,cs10,rfl,hcs8,hcs9,hcs10⟩:=tT_Regex_iff.1 hcs7
   have hcs8:cs8=_:=hcs8; subst hcs8
   have hcs9:cs9=_:=hcs9; subst hcs9
   obtain ⟨v26,rfl,hRv26⟩:=hcs10
   refine O (r_idxSl Tryz.underlying51 ti53 (v:=v13) rfl hvb2 rfl (idxL_some he1).1 (idxL_some he1).2.1) rfl<|O (r_loadEl (cs:=([Value.int .i64 e1.Kind])++((e1.Set.1.map (Value.int .u64))++([v26]))) ti53 rfl (by simp [e1.Set.2]) (.inl rfl) (hcb2 _ (hs.at (i:=0) rfl)) (v:=Value.agg (List.toArray (α:=Value) (([Value.int .i64 e1.Kind])++((e1.Set.1.map (Value.int .u64))++([v26]))))) rfl) rfl<|OW_storeAll ti53 hs (i:=1) rfl rfl (v:=Value.agg (List.toArray (α:=Value) (([Value.int .i64 e1.Kind])++((e1.Set.1.map (Value.int .u64))++([v26]))))) rfl (vs:=([Value.int .i64 e1.Kind])++((e1.Set.1.map (Value.int .u64))++([v26]))) rfl (one_append (one_cons rfl one_nil) (one_append vec_one (one_cons (by obtain ⟨_,_,h9⟩:=hRv26.shape; rw [h9]; rfl) one_nil))) (by simp [e1.Set.2]) (by simp [e1.Set.2,(Vec.zero 4).2]) ?_
   intro wv20 hs
   refine OW_nil<|WP_ret ?_
   obtain rfl:=Option.some.inj hM
   refine FL_nil hds ?_
   exact ⟨_,res1 Tryz.results69 (rv_cells (vs:=([Value.int .i64 e1.Kind])++((e1.Set.1.map (Value.int .u64))++([v26]))) ti53 rfl (by simp [e1.Set.2]) (hs.cells (i:=1) rfl)),gg7,⟨([Value.int .i64 e1.Kind])++((e1.Set.1.map (Value.int .u64))++([v26])),rfl,(tT_Regex_iff.2 ⟨[Value.int .i64 e1.Kind],e1.Set.1.map (Value.int .u64),[v26],rfl,rfl,rfl,⟨_,rfl,hRv26⟩⟩)⟩,hs.ext⟩
  ·refine WP_false rfl hc7<|WP_skip<|WP_seq<|WP_region<|O (r_move (v:=v13) rfl) rfl ?_
   have ho1:=one_of_shape (hs.rowShape (i:=0) rfl)
   refine O (r_build (vs:=[(0,Value.int .i64 4),(2,v13)]) (cs:=([Value.int .i64 4])++(((Vec.zero 4).1.map (Value.int .u64))++([v13]))) rfl (built_fill [(0,1),(1,4),(5,1)] (([Value.int .i64 0])++(((Vec.zero 4).1.map (Value.int .u64))++([Value.slice none 0 0]))) (fun _=>by kernel_rfl) (fill_step ([]) ([Value.int .i64 0]) (((Vec.zero 4).1.map (Value.int .u64))++([Value.slice none 0 0])) ([Value.int .i64 4]) rfl (by simp) rfl rfl rfl rfl<|fill_step (([Value.int .i64 4])++((Vec.zero 4).1.map (Value.int .u64))) ([Value.slice none 0 0]) ([]) ([v13]) rfl (by simp) (cells_one ho1) (by simp [(Vec.zero 4).2]) rfl rfl<|fill_done))) rfl<|OW_storeAll ti53 hs (i:=1) rfl rfl (v:=Value.agg (List.toArray (α:=Value) (([Value.int .i64 4])++(((Vec.zero 4).1.map (Value.int .u64))++([v13]))))) rfl (vs:=([Value.int .i64 4])++(((Vec.zero 4).1.map (Value.int .u64))++([v13]))) rfl (one_append (one_cons rfl one_nil) (one_append vec_one (one_cons (by obtain ⟨_,_,h9⟩:=hs.rowShape (i:=0) rfl; rw [h9]; rfl) one_nil))) (by simp [(Vec.zero 4).2]) (by simp [(Vec.zero 4).2,(Vec.zero 4).2]) ?_
   intro wv21 hs
   refine OW_nil<|WP_ret ?_
   obtain rfl:=Option.some.inj hM
   obtain ⟨gg14,hlegg14,hRgg14,hs⟩:=hs.relRow (i:=0) rfl hrelxs11
   refine FL_nil hds ?_
   exact ⟨_,res1 Tryz.results69 (rv_cells (vs:=([Value.int .i64 4])++(((Vec.zero 4).1.map (Value.int .u64))++([v13]))) ti53 rfl (by simp [(Vec.zero 4).2]) (hs.cells (i:=0) rfl)),gg14,⟨([Value.int .i64 4])++(((Vec.zero 4).1.map (Value.int .u64))++([v13])),rfl,(tT_Regex_iff.2 ⟨[Value.int .i64 4],(Vec.zero 4).1.map (Value.int .u64),[v13],rfl,rfl,rfl,⟨_,rfl,hRgg14⟩⟩)⟩,hs.ext⟩
set_option maxRecDepth 100000 in
theorem dfa_Difference_ok {p1:T_DFA} {p2:T_DFA} {r:Str×Bool} (hM:M.dfa_Difference p1 p2=some r) {g0:Hp} {w0:World} (hi:Imm g0 w0) {cs1:List Value} (hcs1:tT_DFA.rel g0 cs1 p1) {cs2:List Value} (hcs2:tT_DFA.rel g0 cs2 p2) :
    CallsV Tryz.prog 70 #[Value.agg cs1.toArray,Value.agg cs2.toArray] w0 (fun v w'=>∃g',(∃v1 v2,v=.tuple #[v1,v2]∧VRd tStr false g' v1 r.1∧VRd tBool false g' v2 r.2)∧Ext g0 w0 g' w'):=by
 unfold M.dfa_Difference at hM
 obtain ⟨cs3,cs4,cs5,rfl,hcs3,hcs4,hcs5⟩:=hcs1
 obtain ⟨v1,rfl,hRv1⟩:=hcs3
 obtain ⟨v2,rfl,hRv2⟩:=hcs4
 obtain ⟨v3,rfl,hRv3⟩:=hcs5
 obtain ⟨cs6,cs7,cs8,rfl,hcs6,hcs7,hcs8⟩:=hcs2
 obtain ⟨v4,rfl,hRv4⟩:=hcs6
 obtain ⟨v5,rfl,hRv5⟩:=hcs7
 obtain ⟨v6,rfl,hRv6⟩:=hcs8
 have hs:=Sep.start hi
 refine calls_of_WP (args:=[Value.agg (List.toArray (α:=Value) [v1,v2,v3]),Value.agg (List.toArray (α:=Value) [v4,v5,v6])]) Tryz.func70 rfl Tryz.ntmps70 rfl ?_
 have hds:(argEnv [Value.agg (List.toArray (α:=Value) [v1,v2,v3]),Value.agg (List.toArray (α:=Value) [v4,v5,v6])]).ds=[]:=rfl
 refine WP_seq<|WP_region<|OW_box (v:=Value.agg (List.toArray (α:=Value) [v1,v2,v3])) rfl hs (zs:=[v1,v2,v3]) rfl rfl ?_
 intro b1 wv1 hs
 refine OW_box (v:=Value.agg (List.toArray (α:=Value) [v4,v5,v6])) rfl hs (zs:=[v4,v5,v6]) rfl rfl ?_
 intro b2 wv2 hs
 refine O (r_assign (v:=encS []) rfl) rfl<|O (r_assign (v:=Value.bool false) rfl) rfl<|OW_nil<|WP_seq<|WP_region<|O (r_build (vs:=[]) (cs:=([Value.int .i64 0,Value.int .i64 0])++([encS []])) rfl (by kernel_rfl)) rfl<|OW_lit (τ:=tT_dfa_entry) [Value.agg (List.toArray (α:=Value) (([Value.int .i64 0,Value.int .i64 0])++([encS []])))] [(T_dfa_entry.mk (T_dfa_pair.mk 0 0) [])] Tryz.underlying148 ti147 (by decide) hs rfl rfl rfl ⟨⟨[Value.int .i64 0,Value.int .i64 0],[encS []],rfl,⟨[Value.int .i64 0],[Value.int .i64 0],rfl,rfl,rfl⟩,rfl⟩,trivial⟩ rfl ?_
 intro v7 wv3 xs1 hrelxs1 hs
 refine O (r_assign (v:=v7) rfl) rfl<|OW_nil<|WP_seq<|WP_region<|OW_makeMap hs rfl ?_
 intro b3 wv4 hs
 have hmb3:MRel (fun (p:T_dfa_pair)=>Value.agg #[.int .i64 p.a,.int .i64 p.b]) (fun (_:Unit)=>Value.agg #[]) #[] 0 []:=mrel_nil
 refine O (r_build (vs:=[]) (cs:=[Value.int .i64 0,Value.int .i64 0]) rfl (by kernel_rfl)) rfl<|O (r_build (vs:=[]) (cs:=[]) rfl (by kernel_rfl)) rfl<|OW_mapIns (kk:=(T_dfa_pair.mk 0 0)) (vv:=()) Tryz.underlying150 (keyLaw_pair (K:=T_dfa_pair) (ek:=(fun (p:T_dfa_pair)=>Value.agg #[.int .i64 p.a,.int .i64 p.b])) (·.a) (·.b) Tryz.underlying145 Tryz.underlying3 Tryz.underlying3 ti3 ti3 rfl rfl (by decide) (by decide) (by kernel_rfl) (fun _=>rfl) (by intro x y; rw [Bool.eq_iff_iff]; cases x; cases y; simp)) hs (i:=0) rfl hmb3 rfl rfl rfl ?_
 intro es1 ck1 wv5 hmes1 hs
 refine O (r_move (v:=Value.map (some b3)) rfl) rfl<|O (r_assign (v:=Value.map (some b3)) rfl) rfl<|OW_nil ?_
 obtain ⟨o21,hx58,hKhx58⟩:=stepS hM
 refine WP_cut (fun E w=>∃u9:Unit,o21=.next u9∧∃(gg379:Hp),E.ds=[]∧Hle g0 gg379∧Go.Lx.Sep g0 w0 gg379 w []) ?_ ?_
 ·have hM:=hx58
  have hag0:=Hle.refl g0
  refine WP_seq<|WP_region<|O (r_assign (v:=Value.int .i64 0) rfl) rfl<|OW_nil<|WP_block<|WP_loop (fun (st9:(List T_dfa_entry)×(List (T_dfa_pair×Unit))×Int) E w=>match st9 with|(xv61,m57,xv62)=>∃(gg506:Hp) (es106:Array MapEntry) (ck106:Nat) (v608:Value) (xs202:List Value),E 2=Value.pointer (some ⟨b1,0,none⟩)∧E 3=Value.pointer (some ⟨b2,0,none⟩)∧E 6=v608∧E 7=Value.map (some b3)∧E 8=Value.int .i64 xv62∧E.ds=[]∧Hle g0 gg506∧MRel (fun (p:T_dfa_pair)=>Value.agg #[.int .i64 p.a,.int .i64 p.b]) (fun (_:Unit)=>Value.agg #[]) es106 ck106 m57∧RowRel tT_dfa_entry gg506 xs202 xv61∧Go.Lx.Sep g0 w0 gg506 w [.obj b3 (.map es106 ck106),.row v608 147 tT_dfa_entry.sz xv61.length xs202,Go.Lx.box b2 37 ([v4,v5,v6]),Go.Lx.box b1 37 ([v1,v2,v3])]) hM ⟨g0,es1,ck1,v7,xs1,rfl,rfl,rfl,rfl,rfl,hds,(Hle.refl _),hmes1,hrelxs1,hs⟩ ?_
  clear hs hM
  rintro ⟨xv61,m57,xv62⟩ o17 E w hM ⟨gg506,es106,ck106,v608,xs202,hE2,hE3,hE6,hE7,hE8,hds,hlegg506,hmes106,hrelxs202,hs⟩
  obtain ⟨E,rfl⟩:=open5 (E:=E) hE2 hE3 hE6 hE7 hE8
  replace hRv1:=hRv1.mono hlegg506
  replace hRv2:=hRv2.mono hlegg506
  replace hRv3:=hRv3.mono hlegg506
  replace hRv4:=hRv4.mono hlegg506
  replace hRv5:=hRv5.mono hlegg506
  replace hRv6:=hRv6.mono hlegg506
  have hagg506:=Hle.refl gg506
  refine WP_seq<|WP_seq<|WP_region<|O (r_move (v:=Value.int .i64 xv62) rfl) rfl<|O (r_move (v:=v608) rfl) rfl ?_
  obtain ⟨a6,ca6,hva6⟩:=hs.rowShape (i:=1) rfl
  refine O (r_lenSl (v:=v608) Tryz.underlying148 rfl hva6) rfl<|O (r_lss rfl rfl) rfl<|OW_nil ?_
  rcases condS hM with ⟨hc106,hM⟩|⟨hc106,hM⟩
  ·refine WP_true rfl hc106<|WP_skip ?_
   obtain ⟨o20,hx106,hKhx106⟩:=stepS hM
   refine WP_cut (fun E w=>∃(xv84:(List T_dfa_entry)) (m78:(List (T_dfa_pair×Unit))),o20=.next (xv84,m78)∧∃(gg695:Hp) (es145:Array MapEntry) (ck145:Nat) (v833:Value) (xs277:List Value),E 2=Value.pointer (some ⟨b1,0,none⟩)∧E 3=Value.pointer (some ⟨b2,0,none⟩)∧E 6=v833∧E 7=Value.map (some b3)∧E 8=Value.int .i64 xv62∧E.ds=[]∧Hle gg506 gg695∧MRel (fun (p:T_dfa_pair)=>Value.agg #[.int .i64 p.a,.int .i64 p.b]) (fun (_:Unit)=>Value.agg #[]) es145 ck145 m78∧RowRel tT_dfa_entry gg695 xs277 xv84∧Go.Lx.Sep g0 w0 gg695 w [.obj b3 (.map es145 ck145),.row v833 147 tT_dfa_entry.sz xv84.length xs277,Go.Lx.box b2 37 ([v4,v5,v6]),Go.Lx.box b1 37 ([v1,v2,v3])]) ?_ ?_
   ·have hM:=hx106
    refine WP_block<|WP_seq<|WP_region<|O (r_move (v:=v608) rfl) rfl<|O (r_move (v:=Value.int .i64 xv62) rfl) rfl ?_
    obtain ⟨e12,he12,hM⟩:=bindS hM
    obtain ⟨b422,cb422,hvb422,cs614,hcs614,hcb422⟩:=hs.rowEl (i:=1) rfl hrelxs202 he12
    obtain ⟨cs615,cs616,rfl,hcs615,hcs616⟩:=hcs614
    obtain ⟨cs617,cs618,rfl,hcs617,hcs618⟩:=hcs615
    have hcs617:cs617=_:=hcs617; subst hcs617
    have hcs618:cs618=_:=hcs618; subst hcs618
    have hcs616:cs616=_:=hcs616; subst hcs616
    refine O (r_idxSl Tryz.underlying148 ti147 (v:=v608) rfl hvb422 rfl (idxL_some he12).1 (idxL_some he12).2.1) rfl<|O (r_loadEl (cs:=([Value.int .i64 e12.atv.a,Value.int .i64 e12.atv.b])++([encS e12.text])) ti147 rfl rfl (.inl rfl) (hcb422 _ (hs.at (i:=1) rfl)) (v:=Value.agg (List.toArray (α:=Value) (([Value.int .i64 e12.atv.a,Value.int .i64 e12.atv.b])++([encS e12.text])))) rfl) rfl<|OW_alloc ti147 hs (zs:=([Value.int .i64 0,Value.int .i64 0])++([encS []])) rfl rfl ?_
    intro b423 wv1502 hs
    refine OW_storeAll ti147 hs (i:=0) rfl rfl (v:=Value.agg (List.toArray (α:=Value) (([Value.int .i64 e12.atv.a,Value.int .i64 e12.atv.b])++([encS e12.text])))) rfl (vs:=([Value.int .i64 e12.atv.a,Value.int .i64 e12.atv.b])++([encS e12.text])) rfl (one_append (one_cons rfl (one_cons rfl one_nil)) (one_cons rfl one_nil)) rfl rfl ?_
    intro wv1503 hs
    refine OW_nil<|WP_seq<|WP_seq<|WP_any (.q 0 (.q 1 (.q 2 (.q 3 (.q 5 (.q 6 (.q 7 (.q 8 (.s 4 (.s 9 (.q 10 (.leaf)))))))))))) (SS g0 w0 gg506 [Go.Lx.box b423 147 (([Value.int .i64 e12.atv.a,Value.int .i64 e12.atv.b])++([encS e12.text])),.obj b3 (.map es106 ck106),.row v608 147 tT_dfa_entry.sz xv61.length xs202,Go.Lx.box b2 37 ([v4,v5,v6]),Go.Lx.box b1 37 ([v1,v2,v3])]) mo (by decide +kernel) ?_
    have hs:=hs.drew
    have hS:SS g0 w0 gg506 [Go.Lx.box b423 147 (([Value.int .i64 e12.atv.a,Value.int .i64 e12.atv.b])++([encS e12.text])),.obj b3 (.map es106 ck106),.row v608 147 tT_dfa_entry.sz xv61.length xs202,Go.Lx.box b2 37 ([v4,v5,v6]),Go.Lx.box b1 37 ([v1,v2,v3])] _:=⟨gg506,Hle.refl _,hs⟩
    refine A rfl hS (fun w9 ⟨g9,hle9,hs⟩=>r_loadN (cs:=[v1,v2,v3]) ti37 rfl rfl (hs.cells (i:=4) rfl)) rfl<|A rfl hS (fun w9 ⟨g9,hle9,hs⟩=>r_fieldAddr Tryz.underlying147 ti145 rfl rfl (by decide) rfl rfl) rfl<|A rfl hS (fun w9 ⟨g9,hle9,hs⟩=>r_fieldAddr Tryz.underlying145 ti3 rfl rfl (by decide) rfl rfl) rfl<|A rfl hS (fun w9 ⟨g9,hle9,hs⟩=>r_load (v:=Value.int .i64 e12.atv.a) ti3 rfl (hs.cell (i:=0) (o:=0) rfl rfl)) rfl<|A rfl hS (fun w9 ⟨g9,hle9,hs⟩=>r_loadN (cs:=[v4,v5,v6]) ti37 rfl rfl (hs.cells (i:=3) rfl)) rfl<|A rfl hS (fun w9 ⟨g9,hle9,hs⟩=>r_fieldAddr Tryz.underlying147 ti145 rfl rfl (by decide) rfl rfl) rfl<|A rfl hS (fun w9 ⟨g9,hle9,hs⟩=>r_fieldAddr Tryz.underlying145 ti3 rfl rfl (by decide) rfl rfl) rfl ?_
    refine A rfl hS (fun w9 ⟨g9,hle9,hs⟩=>r_load (v:=Value.int .i64 e12.atv.b) ti3 rfl (hs.cell (i:=0) (o:=1) rfl rfl)) rfl<|A1 rfl ?_
    obtain ⟨rv419,hrv419,hM⟩:=bindS hM
    refine C [Value.agg (List.toArray (α:=Value) [v1,v2,v3]),Value.int .i64 e12.atv.a] cf68 rfl (dfa_result_ok hrv419 hs.imm (⟨[v1],[v2],[v3],rfl,⟨_,rfl,hRv1⟩,⟨_,rfl,hRv2⟩,⟨_,rfl,hRv3⟩⟩)) rfl ?_
    rintro v834 wv1504 ⟨gg696,hvv834,hegg696⟩
    have hlegg696:=hegg696.le hs.imm
    replace hs:=hs.call hegg696
    replace hRv1:=hRv1.mono hlegg696
    replace hRv2:=hRv2.mono hlegg696
    replace hRv3:=hRv3.mono hlegg696
    replace hRv4:=hRv4.mono hlegg696
    replace hRv5:=hRv5.mono hlegg696
    replace hRv6:=hRv6.mono hlegg696
    replace hrelxs202:=hrelxs202.mono hlegg696
    replace hagg506:=hagg506.trans hlegg696
    obtain ⟨cs619,rfl,hcs619⟩:=hvv834
    have hcs619:cs619=_:=hcs619; subst hcs619
    refine OW_nil ?_
    replace hS:=hS.to hagg506 hs
    refine ⟨fun _=>hS,?_⟩
    refine A1 rfl ?_
    obtain ⟨rv420,hrv420,hM⟩:=bindS hM
    refine C [Value.agg (List.toArray (α:=Value) [v4,v5,v6]),Value.int .i64 e12.atv.b] cf68 rfl (dfa_result_ok hrv420 hs.imm (⟨[v4],[v5],[v6],rfl,⟨_,rfl,hRv4⟩,⟨_,rfl,hRv5⟩,⟨_,rfl,hRv6⟩⟩)) rfl ?_
    rintro v835 wv1505 ⟨gg697,hvv835,hegg697⟩
    have hlegg697:=hegg697.le hs.imm
    replace hs:=hs.call hegg697
    replace hRv1:=hRv1.mono hlegg697
    replace hRv2:=hRv2.mono hlegg697
    replace hRv3:=hRv3.mono hlegg697
    replace hRv4:=hRv4.mono hlegg697
    replace hRv5:=hRv5.mono hlegg697
    replace hRv6:=hRv6.mono hlegg697
    replace hrelxs202:=hrelxs202.mono hlegg697
    replace hagg506:=hagg506.trans hlegg697
    obtain ⟨cs620,rfl,hcs620⟩:=hvv835
    have hcs620:cs620=_:=hcs620; subst hcs620
    refine OW_nil ?_
    replace hS:=hS.to hagg506 hs
    refine ⟨fun _=>hS,?_⟩
    refine A rfl hS (fun w9 ⟨g9,hle9,hs⟩=>r_neq rfl rfl) rfl<|AN ?_
    rcases condS hM with ⟨hc117,hM⟩|⟨hc117,hM⟩
    ·refine WP_true rfl hc117<|WP_seq<|WP_region<|O (r_fieldAddr Tryz.underlying147 ti9 rfl rfl (by decide) rfl rfl) rfl<|O (r_load (v:=encS e12.text) ti9 rfl (hs.cell (i:=0) (o:=2) rfl rfl)) rfl<|O (r_assign (v:=encS e12.text) rfl) rfl<|O (r_assign (v:=Value.bool true) rfl) rfl<|OW_nil<|WP_ret ?_
     obtain rfl:=Option.some.inj hM
     have hM:=hKhx106
     obtain rfl:=Option.some.inj hM
     refine fun hr=>?_
     have hM:=congrArg some hr
     obtain rfl:=Option.some.inj hM
     have hM:=hKhx58
     obtain rfl:=Option.some.inj hM
     refine FL_nil hds ?_
     exact ⟨_,res2 Tryz.results70 (rv_tmp (v:=encS e12.text) rfl) (rv_tmp (v:=Value.bool true) rfl),gg697,⟨_,_,rfl,⟨[encS e12.text],rfl,rfl⟩,⟨[Value.bool true],rfl,rfl⟩⟩,hs.ext⟩
    ·refine WP_false rfl hc117<|WP_skip<|WP_seq<|WP_region<|O (r_move (v:=Value.int .i64 0) rfl) rfl<|OW_nil<|WP_block ?_
     have hagg697:=Hle.refl gg697
     refine WP_loop (fun (st9:(List T_dfa_entry)×(List (T_dfa_pair×Unit))×Int) E w=>match st9 with|(xv87,m81,xv88)=>∃(gg718:Hp) (es150:Array MapEntry) (ck150:Nat) (v860:Value) (xs286:List Value),E 2=Value.pointer (some ⟨b1,0,none⟩)∧E 3=Value.pointer (some ⟨b2,0,none⟩)∧E 6=v860∧E 7=Value.map (some b3)∧E 8=Value.int .i64 xv62∧E 9=Value.pointer (some ⟨b423,0,none⟩)∧E 43=Value.int .i64 xv88∧E.ds=[]∧Hle gg697 gg718∧MRel (fun (p:T_dfa_pair)=>Value.agg #[.int .i64 p.a,.int .i64 p.b]) (fun (_:Unit)=>Value.agg #[]) es150 ck150 m81∧RowRel tT_dfa_entry gg718 xs286 xv87∧Go.Lx.Sep g0 w0 gg718 w [Go.Lx.box b423 147 (([Value.int .i64 e12.atv.a,Value.int .i64 e12.atv.b])++([encS e12.text])),.obj b3 (.map es150 ck150),.row v860 147 tT_dfa_entry.sz xv87.length xs286,Go.Lx.box b2 37 ([v4,v5,v6]),Go.Lx.box b1 37 ([v1,v2,v3])]) hM ⟨gg697,es106,ck106,v608,xs202,rfl,rfl,rfl,rfl,rfl,rfl,rfl,hds,(Hle.refl _),hmes106,hrelxs202,hs⟩ ?_
     clear hs hM
     rintro ⟨xv87,m81,xv88⟩ o19 E w hM ⟨gg718,es150,ck150,v860,xs286,hE2,hE3,hE6,hE7,hE8,hE9,hE43,hds,hlegg718,hmes150,hrelxs286,hs⟩
     obtain ⟨E,rfl⟩:=open7 (E:=E) hE2 hE3 hE6 hE7 hE8 hE9 hE43
     replace hRv1:=hRv1.mono hlegg718
     replace hRv2:=hRv2.mono hlegg718
     replace hRv3:=hRv3.mono hlegg718
     replace hRv4:=hRv4.mono hlegg718
     replace hRv5:=hRv5.mono hlegg718
     replace hRv6:=hRv6.mono hlegg718
     replace hagg506:=hagg506.trans hlegg718
     have hagg718:=Hle.refl gg718
     refine WP_seq<|WP_region<|O (r_lss rfl rfl) rfl<|OW_nil<|WP_seq ?_
     rcases condS hM with ⟨hc124,hM⟩|⟨hc124,hM⟩
     ·refine WP_true rfl hc124<|WP_skip ?_
      obtain ⟨⟨y107,m84⟩,hx114,hKhx114⟩:=bindS hM
      refine WP_cut (fun E w=>∃(gg748:Hp) (es156:Array MapEntry) (ck156:Nat) (v896:Value) (xs298:List Value),E 2=Value.pointer (some ⟨b1,0,none⟩)∧E 3=Value.pointer (some ⟨b2,0,none⟩)∧E 6=v896∧E 7=Value.map (some b3)∧E 8=Value.int .i64 xv62∧E 9=Value.pointer (some ⟨b423,0,none⟩)∧E 43=Value.int .i64 xv88∧E.ds=[]∧Hle gg718 gg748∧MRel (fun (p:T_dfa_pair)=>Value.agg #[.int .i64 p.a,.int .i64 p.b]) (fun (_:Unit)=>Value.agg #[]) es156 ck156 m84∧RowRel tT_dfa_entry gg748 xs298 y107∧Go.Lx.Sep g0 w0 gg748 w [Go.Lx.box b423 147 (([Value.int .i64 e12.atv.a,Value.int .i64 e12.atv.b])++([encS e12.text])),.obj b3 (.map es156 ck156),.row v896 147 tT_dfa_entry.sz y107.length xs298,Go.Lx.box b2 37 ([v4,v5,v6]),Go.Lx.box b1 37 ([v1,v2,v3])]) ?_ ?_
      ·have hM:=hx114
       refine WP_block<|WP_seq<|WP_region<|O (r_move (v:=Value.int .i64 xv88) rfl) rfl<|O (r_assign (v:=Value.int .i64 xv88) rfl) rfl<|OW_nil ?_
       obtain ⟨⟨rv453,rv454⟩,hx115,hKhx115⟩:=bindS hM
       refine WP_cut (fun E w=>∃(gg753:Hp) (b456:Nat),E 2=Value.pointer (some ⟨b1,0,none⟩)∧E 3=Value.pointer (some ⟨b2,0,none⟩)∧E 6=v860∧E 7=Value.map (some b3)∧E 8=Value.int .i64 xv62∧E 9=Value.pointer (some ⟨b423,0,none⟩)∧E 10=Value.int .i64 xv88∧E 11=Value.pointer (some ⟨b456,0,none⟩)∧E 43=Value.int .i64 xv88∧E.ds=[]∧Hle gg718 gg753∧Go.Lx.Sep g0 w0 gg753 w [Go.Lx.box b456 145 ([Value.int .i64 rv453,Value.int .i64 rv454]),Go.Lx.box b423 147 (([Value.int .i64 e12.atv.a,Value.int .i64 e12.atv.b])++([encS e12.text])),.obj b3 (.map es150 ck150),.row v860 147 tT_dfa_entry.sz xv87.length xs286,Go.Lx.box b2 37 ([v4,v5,v6]),Go.Lx.box b1 37 ([v1,v2,v3])]) ?_ ?_
       ·have hM:=hx115
        obtain ⟨rv455,hrv455,hM⟩:=bindS hM
        obtain ⟨rv456,hrv456,hM⟩:=bindS hM
        refine WP_any (.q 0 (.q 1 (.q 2 (.q 3 (.q 4 (.q 5 (.q 7 (.q 8 (.q 9 (.q 10 (.q 11 (.q 12 (.c 6 (.c 13 (.q 14 (.s 15 (.s 16 (.leaf)))) (.c 15 (.s 13 (.q 14 (.s 16 (.leaf)))) (.n))) (.c 15 (.s 6 (.s 13 (.q 14 (.s 16 (.leaf))))) (.n))))))))))))))) (SS g0 w0 gg718 [Go.Lx.box b423 147 (([Value.int .i64 e12.atv.a,Value.int .i64 e12.atv.b])++([encS e12.text])),.obj b3 (.map es150 ck150),.row v860 147 tT_dfa_entry.sz xv87.length xs286,Go.Lx.box b2 37 ([v4,v5,v6]),Go.Lx.box b1 37 ([v1,v2,v3])]) mo (by decide +kernel) ?_
        have hs:=hs.drew
        have hS:SS g0 w0 gg718 [Go.Lx.box b423 147 (([Value.int .i64 e12.atv.a,Value.int .i64 e12.atv.b])++([encS e12.text])),.obj b3 (.map es150 ck150),.row v860 147 tT_dfa_entry.sz xv87.length xs286,Go.Lx.box b2 37 ([v4,v5,v6]),Go.Lx.box b1 37 ([v1,v2,v3])] _:=⟨gg718,Hle.refl _,hs⟩
        refine A rfl hS (fun w9 ⟨g9,hle9,hs⟩=>r_loadN (cs:=[v1,v2,v3]) ti37 rfl rfl (hs.cells (i:=4) rfl)) rfl<|A rfl hS (fun w9 ⟨g9,hle9,hs⟩=>r_fieldAddr Tryz.underlying147 ti145 rfl rfl (by decide) rfl rfl) rfl<|A rfl hS (fun w9 ⟨g9,hle9,hs⟩=>r_fieldAddr Tryz.underlying145 ti3 rfl rfl (by decide) rfl rfl) rfl<|A rfl hS (fun w9 ⟨g9,hle9,hs⟩=>r_load (v:=Value.int .i64 e12.atv.a) ti3 rfl (hs.cell (i:=0) (o:=0) rfl rfl)) rfl<|A rfl hS (fun w9 ⟨g9,hle9,hs⟩=>r_move (v:=Value.int .i64 xv88) rfl) rfl<|A rfl hS (fun w9 ⟨g9,hle9,hs⟩=>r_conv Tryz.underlying3 Tryz.underlying5 rfl) rfl<|A rfl hS (fun w9 ⟨g9,hle9,hs⟩=>r_loadN (cs:=[v4,v5,v6]) ti37 rfl rfl (hs.cells (i:=3) rfl)) rfl ?_
        refine A rfl hS (fun w9 ⟨g9,hle9,hs⟩=>r_fieldAddr Tryz.underlying147 ti145 rfl rfl (by decide) rfl rfl) rfl<|A rfl hS (fun w9 ⟨g9,hle9,hs⟩=>r_fieldAddr Tryz.underlying145 ti3 rfl rfl (by decide) rfl rfl) rfl<|A rfl hS (fun w9 ⟨g9,hle9,hs⟩=>r_load (v:=Value.int .i64 e12.atv.b) ti3 rfl (hs.cell (i:=0) (o:=1) rfl rfl)) rfl<|A rfl hS (fun w9 ⟨g9,hle9,hs⟩=>r_move (v:=Value.int .i64 xv88) rfl) rfl<|A rfl hS (fun w9 ⟨g9,hle9,hs⟩=>r_conv Tryz.underlying3 Tryz.underlying5 rfl) rfl<|A2 rfl ?_ ?_
        ·refine C [Value.agg (List.toArray (α:=Value) [v1,v2,v3]),Value.int .i64 e12.atv.a,Value.int .u8 (IntKind.u8.wrap xv88)] cf67 rfl (dfa_step_ok hrv455 hs.imm (⟨[v1],[v2],[v3],rfl,⟨_,rfl,hRv1⟩,⟨_,rfl,hRv2⟩,⟨_,rfl,hRv3⟩⟩)) rfl ?_
         rintro v903 wv1628 ⟨gg756,hvv903,hegg756⟩
         have hlegg756:=hegg756.le hs.imm
         replace hs:=hs.call hegg756
         replace hRv4:=hRv4.mono hlegg756
         replace hRv5:=hRv5.mono hlegg756
         replace hRv6:=hRv6.mono hlegg756
         replace hagg718:=hagg718.trans hlegg756
         obtain ⟨cs667,rfl,hcs667⟩:=hvv903
         have hcs667:cs667=_:=hcs667; subst hcs667
         refine OW_nil ?_
         replace hS:=hS.to hagg718 hs
         refine ⟨fun _=>hS,?_⟩
         refine A2 rfl ?_ ?_
         ·refine C [Value.agg (List.toArray (α:=Value) [v4,v5,v6]),Value.int .i64 e12.atv.b,Value.int .u8 (IntKind.u8.wrap xv88)] cf67 rfl (dfa_step_ok hrv456 hs.imm (⟨[v4],[v5],[v6],rfl,⟨_,rfl,hRv4⟩,⟨_,rfl,hRv5⟩,⟨_,rfl,hRv6⟩⟩)) rfl ?_
          rintro v904 wv1629 ⟨gg757,hvv904,hegg757⟩
          have hlegg757:=hegg757.le hs.imm
          replace hs:=hs.call hegg757
          replace hagg718:=hagg718.trans hlegg757
          obtain ⟨cs668,rfl,hcs668⟩:=hvv904
          have hcs668:cs668=_:=hcs668; subst hcs668
          refine OW_nil ?_
          replace hS:=hS.to hagg718 hs
          refine ⟨fun _=>hS,?_⟩
          refine A rfl hS (fun w9 ⟨g9,hle9,hs⟩=>r_build (vs:=[(0,Value.int .i64 rv455),(1,Value.int .i64 rv456)]) (cs:=[Value.int .i64 rv455,Value.int .i64 rv456]) rfl (by kernel_rfl)) rfl<|A1 rfl<|OW_alloc ti145 hs (zs:=[Value.int .i64 0,Value.int .i64 0]) rfl rfl ?_
          intro b458 wv1630 hs
          refine OW_nil ?_
          replace hS:=hS.to hagg718 (hs.sub (.cons _ (.cons_cons _ (.cons_cons _ (.cons_cons _ (.cons_cons _ (.cons_cons _ .slnil)))))))
          refine ⟨fun _=>hS,?_⟩
          refine A1 rfl<|OW_storeAll ti145 hs (i:=0) rfl rfl (v:=Value.agg (List.toArray (α:=Value) [Value.int .i64 rv455,Value.int .i64 rv456])) rfl (vs:=[Value.int .i64 rv455,Value.int .i64 rv456]) rfl (one_cons rfl (one_cons rfl one_nil)) rfl rfl ?_
          intro wv1631 hs
          refine OW_nil ?_
          refine ⟨fun h=>absurd h (by decide +kernel),?_⟩
          refine AN ?_
          simp only [Option.some.injEq,Prod.mk.injEq] at hM
          obtain ⟨rfl,rfl⟩:=hM
          exact ⟨gg757,b458,rfl,rfl,rfl,rfl,rfl,rfl,rfl,rfl,rfl,hds,hagg718,hs⟩
         refine A2 rfl ?_ ?_
         ·refine OW_alloc ti145 hs (zs:=[Value.int .i64 0,Value.int .i64 0]) rfl rfl ?_
          intro b458 wv1629 hs
          refine OW_nil ?_
          replace hS:=hS.to hagg718 (hs.sub (.cons _ (.cons_cons _ (.cons_cons _ (.cons_cons _ (.cons_cons _ (.cons_cons _ .slnil)))))))
          refine ⟨fun _=>hS,?_⟩
          refine A1 rfl<|C [Value.agg (List.toArray (α:=Value) [v4,v5,v6]),Value.int .i64 e12.atv.b,Value.int .u8 (IntKind.u8.wrap xv88)] cf67 rfl (dfa_step_ok hrv456 hs.imm (⟨[v4],[v5],[v6],rfl,⟨_,rfl,hRv4⟩,⟨_,rfl,hRv5⟩,⟨_,rfl,hRv6⟩⟩)) rfl ?_
          rintro v904 wv1630 ⟨gg757,hvv904,hegg757⟩
          have hlegg757:=hegg757.le hs.imm
          replace hs:=hs.call hegg757
          replace hagg718:=hagg718.trans hlegg757
          obtain ⟨cs668,rfl,hcs668⟩:=hvv904
          have hcs668:cs668=_:=hcs668; subst hcs668
          refine OW_nil ?_
          replace hS:=hS.to hagg718 (hs.sub (.cons _ (.cons_cons _ (.cons_cons _ (.cons_cons _ (.cons_cons _ (.cons_cons _ .slnil)))))))
          refine ⟨fun _=>hS,?_⟩
          refine A rfl hS (fun w9 ⟨g9,hle9,hs⟩=>r_build (vs:=[(0,Value.int .i64 rv455),(1,Value.int .i64 rv456)]) (cs:=[Value.int .i64 rv455,Value.int .i64 rv456]) rfl (by kernel_rfl)) rfl<|A1 rfl<|OW_storeAll ti145 hs (i:=0) rfl rfl (v:=Value.agg (List.toArray (α:=Value) [Value.int .i64 rv455,Value.int .i64 rv456])) rfl (vs:=[Value.int .i64 rv455,Value.int .i64 rv456]) rfl (one_cons rfl (one_cons rfl one_nil)) rfl rfl ?_
          intro wv1631 hs
          refine OW_nil ?_
          refine ⟨fun h=>absurd h (by decide +kernel),?_⟩
          refine AN ?_
          simp only [Option.some.injEq,Prod.mk.injEq] at hM
          obtain ⟨rfl,rfl⟩:=hM
          exact ⟨gg757,b458,rfl,rfl,rfl,rfl,rfl,rfl,rfl,rfl,rfl,hds,hagg718,hs⟩
         trivial
        refine A2 rfl ?_ ?_
        ·refine OW_alloc ti145 hs (zs:=[Value.int .i64 0,Value.int .i64 0]) rfl rfl ?_
         intro b458 wv1628 hs
         refine OW_nil ?_
         replace hS:=hS.to (Hle.refl _) (hs.sub (.cons _ (.cons_cons _ (.cons_cons _ (.cons_cons _ (.cons_cons _ (.cons_cons _ .slnil)))))))
         refine ⟨fun _=>hS,?_⟩
         refine A1 rfl<|C [Value.agg (List.toArray (α:=Value) [v1,v2,v3]),Value.int .i64 e12.atv.a,Value.int .u8 (IntKind.u8.wrap xv88)] cf67 rfl (dfa_step_ok hrv455 hs.imm (⟨[v1],[v2],[v3],rfl,⟨_,rfl,hRv1⟩,⟨_,rfl,hRv2⟩,⟨_,rfl,hRv3⟩⟩)) rfl ?_
         rintro v903 wv1629 ⟨gg756,hvv903,hegg756⟩
         have hlegg756:=hegg756.le hs.imm
         replace hs:=hs.call hegg756
         replace hRv4:=hRv4.mono hlegg756
         replace hRv5:=hRv5.mono hlegg756
         replace hRv6:=hRv6.mono hlegg756
         replace hagg718:=hagg718.trans hlegg756
         obtain ⟨cs667,rfl,hcs667⟩:=hvv903
         have hcs667:cs667=_:=hcs667; subst hcs667
         refine OW_nil ?_
         replace hS:=hS.to hagg718 (hs.sub (.cons _ (.cons_cons _ (.cons_cons _ (.cons_cons _ (.cons_cons _ (.cons_cons _ .slnil)))))))
         refine ⟨fun _=>hS,?_⟩
         refine A1 rfl<|C [Value.agg (List.toArray (α:=Value) [v4,v5,v6]),Value.int .i64 e12.atv.b,Value.int .u8 (IntKind.u8.wrap xv88)] cf67 rfl (dfa_step_ok hrv456 hs.imm (⟨[v4],[v5],[v6],rfl,⟨_,rfl,hRv4⟩,⟨_,rfl,hRv5⟩,⟨_,rfl,hRv6⟩⟩)) rfl ?_
         rintro v904 wv1630 ⟨gg757,hvv904,hegg757⟩
         have hlegg757:=hegg757.le hs.imm
         replace hs:=hs.call hegg757
         replace hagg718:=hagg718.trans hlegg757
         obtain ⟨cs668,rfl,hcs668⟩:=hvv904
         have hcs668:cs668=_:=hcs668; subst hcs668
         refine OW_nil ?_
         replace hS:=hS.to hagg718 (hs.sub (.cons _ (.cons_cons _ (.cons_cons _ (.cons_cons _ (.cons_cons _ (.cons_cons _ .slnil)))))))
         refine ⟨fun _=>hS,?_⟩
         refine A rfl hS (fun w9 ⟨g9,hle9,hs⟩=>r_build (vs:=[(0,Value.int .i64 rv455),(1,Value.int .i64 rv456)]) (cs:=[Value.int .i64 rv455,Value.int .i64 rv456]) rfl (by kernel_rfl)) rfl<|A1 rfl<|OW_storeAll ti145 hs (i:=0) rfl rfl (v:=Value.agg (List.toArray (α:=Value) [Value.int .i64 rv455,Value.int .i64 rv456])) rfl (vs:=[Value.int .i64 rv455,Value.int .i64 rv456]) rfl (one_cons rfl (one_cons rfl one_nil)) rfl rfl ?_
         intro wv1631 hs
         refine OW_nil ?_
         refine ⟨fun h=>absurd h (by decide +kernel),?_⟩
         refine AN ?_
         simp only [Option.some.injEq,Prod.mk.injEq] at hM
         obtain ⟨rfl,rfl⟩:=hM
         exact ⟨gg757,b458,rfl,rfl,rfl,rfl,rfl,rfl,rfl,rfl,rfl,hds,hagg718,hs⟩
        trivial
       ·clear hs
        rintro E w ⟨gg753,b456,hE2,hE3,hE6,hE7,hE8,hE9,hE10,hE11,hE43,hds,hlegg753,hs⟩
        have hM:=hKhx115
        obtain ⟨E,rfl⟩:=open8 (E:=E) hE2 hE3 hE6 hE7 hE8 hE9 hE10 hE11
        obtain ⟨E,rfl⟩:=open1 (E:=E) hE43
        replace hrelxs286:=hrelxs286.mono hlegg753
        replace hagg718:=hagg718.trans hlegg753
        refine WP_seq<|WP_region<|O (r_move (v:=Value.map (some b3)) rfl) rfl<|O (r_loadN (cs:=[Value.int .i64 rv453,Value.int .i64 rv454]) ti145 rfl rfl (hs.cells (i:=0) rfl)) rfl<|O (r_lookup (z:=()) (kk:=(T_dfa_pair.mk rv453 rv454)) Tryz.underlying150 ti149 (keyLaw_pair (K:=T_dfa_pair) (ek:=(fun (p:T_dfa_pair)=>Value.agg #[.int .i64 p.a,.int .i64 p.b])) (·.a) (·.b) Tryz.underlying145 Tryz.underlying3 Tryz.underlying3 ti3 ti3 rfl rfl (by decide) (by decide) (by kernel_rfl) (fun _=>rfl) (by intro x y; rw [Bool.eq_iff_iff]; cases x; cases y; simp)) hs (i:=2) rfl hmes150 rfl rfl) rfl<|O (r_move (v:=Value.tuple #[Value.agg (List.toArray (α:=Value) []),Value.bool ((mget m81 (T_dfa_pair.mk rv453 rv454)).isSome)]) rfl) rfl ?_
        refine O (r_extract (vs:=[Value.agg (List.toArray (α:=Value) []),Value.bool ((mget m81 (T_dfa_pair.mk rv453 rv454)).isSome)]) (v:=Value.agg (List.toArray (α:=Value) [])) rfl rfl) rfl<|O (r_extract (vs:=[Value.agg (List.toArray (α:=Value) []),Value.bool ((mget m81 (T_dfa_pair.mk rv453 rv454)).isSome)]) (v:=Value.bool ((mget m81 (T_dfa_pair.mk rv453 rv454)).isSome)) rfl rfl) rfl<|OW_alloc ti149 hs (zs:=[]) rfl rfl ?_
        intro b459 wv1632 hs
        refine OW_storeAll ti149 hs (i:=0) rfl rfl (v:=Value.agg (List.toArray (α:=Value) [])) rfl (vs:=[]) rfl one_nil rfl rfl ?_
        intro wv1633 hs
        refine O (r_assign (v:=Value.bool ((mget m81 (T_dfa_pair.mk rv453 rv454)).isSome)) rfl) rfl<|OW_nil<|WP_seq<|WP_region<|O (r_move (v:=Value.bool ((mget m81 (T_dfa_pair.mk rv453 rv454)).isSome)) rfl) rfl<|O (r_not rfl) rfl<|OW_nil ?_
        rcases condS hM with ⟨hc126,hM⟩|⟨hc126,hM⟩
        ·refine WP_true rfl hc126<|WP_seq<|WP_region<|O (r_move (v:=Value.map (some b3)) rfl) rfl<|O (r_loadN (cs:=[Value.int .i64 rv453,Value.int .i64 rv454]) ti145 rfl rfl (hs.cells (i:=1) rfl)) rfl<|O (r_build (vs:=[]) (cs:=[]) rfl (by kernel_rfl)) rfl<|OW_mapSet (kk:=(T_dfa_pair.mk rv453 rv454)) (vv:=()) Tryz.underlying150 (keyLaw_pair (K:=T_dfa_pair) (ek:=(fun (p:T_dfa_pair)=>Value.agg #[.int .i64 p.a,.int .i64 p.b])) (·.a) (·.b) Tryz.underlying145 Tryz.underlying3 Tryz.underlying3 ti3 ti3 rfl rfl (by decide) (by decide) (by kernel_rfl) (fun _=>rfl) (by intro x y; rw [Bool.eq_iff_iff]; cases x; cases y; simp)) hs (i:=3) rfl hmes150 rfl rfl rfl ?_
         intro es157 ck157 wv1634 hmes157 hs
         refine OW_nil<|WP_region<|O (r_move (v:=v860) rfl) rfl<|O (r_loadN (cs:=[Value.int .i64 rv453,Value.int .i64 rv454]) ti145 rfl rfl (hs.cells (i:=1) rfl)) rfl<|O (r_fieldAddr Tryz.underlying147 ti9 rfl rfl (by decide) rfl rfl) rfl<|O (r_load (v:=encS e12.text) ti9 rfl (hs.cell (i:=2) (o:=2) rfl rfl)) rfl<|O (r_move (v:=Value.int .i64 xv88) rfl) rfl<|O (r_conv Tryz.underlying3 Tryz.underlying5 rfl) rfl<|OW_lit (τ:=(tInt .u8)) [Value.int .u8 (IntKind.u8.wrap xv88)] [(IntKind.u8.wrap xv88)] Tryz.underlying98 ti5 (by decide) hs rfl rfl rfl ⟨rfl,trivial⟩ rfl ?_
         intro v905 wv1635 xs299 hrelxs299 hs
         refine O (r_toStr (l:=[(IntKind.u8.wrap xv88)]) Tryz.underlying98 Tryz.underlying5 Tryz.underlying9 (v:=v905) rfl (hs.rowSrc (i:=0) rfl) hrelxs299) rfl ?_
         obtain ⟨s72,hs72,hM⟩:=bindS hM
         refine O (r_catS rfl rfl hs72) rfl<|O (r_build (vs:=[(0,Value.agg (List.toArray (α:=Value) [Value.int .i64 rv453,Value.int .i64 rv454])),(1,encS s72)]) (cs:=([Value.int .i64 rv453,Value.int .i64 rv454])++([encS s72])) rfl (by kernel_rfl)) rfl<|OW_lit (τ:=tT_dfa_entry) [Value.agg (List.toArray (α:=Value) (([Value.int .i64 rv453,Value.int .i64 rv454])++([encS s72])))] [(T_dfa_entry.mk (T_dfa_pair.mk rv453 rv454) s72)] Tryz.underlying148 ti147 (by decide) hs rfl rfl rfl ⟨⟨[Value.int .i64 rv453,Value.int .i64 rv454],[encS s72],rfl,⟨[Value.int .i64 rv453],[Value.int .i64 rv454],rfl,rfl,rfl⟩,rfl⟩,trivial⟩ rfl ?_
         intro v906 wv1636 xs300 hrelxs300 hs
         obtain ⟨y108,hy108,hM⟩:=bindS hM
         refine OW_append Tryz.underlying148 ti147 rfl (by decide) (by decide) hs (i:=6) rfl hrelxs286 (v:=v860) rfl (u:=v906) rfl (hs.rowSrc (i:=0) rfl) hrelxs300 hy108 rfl ?_
         intro v907 wv1637 xs301 hrelxs301 hs
         refine O (r_assign (v:=v907) rfl) rfl<|OW_nil ?_
         simp only [Option.some.injEq,Prod.mk.injEq] at hM
         obtain ⟨rfl,rfl⟩:=hM
         exact ⟨gg753,es157,ck157,v907,xs301,rfl,rfl,rfl,rfl,rfl,rfl,rfl,hds,hagg718,hmes157,hrelxs301,(hs.sub (.cons _ (.cons _ (.cons _ (.cons _ (.cons_cons _ (.cons_cons _ (.cons_cons _ (.cons_cons _ (.cons_cons _ .slnil))))))))))⟩
        ·refine WP_false rfl hc126<|WP_skip ?_
         simp only [Option.some.injEq,Prod.mk.injEq] at hM
         obtain ⟨rfl,rfl⟩:=hM
         exact ⟨gg753,es150,ck150,v860,xs286,rfl,rfl,rfl,rfl,rfl,rfl,rfl,hds,hagg718,hmes150,hrelxs286,(hs.sub (.cons _ (.cons _ (.cons_cons _ (.cons_cons _ (.cons_cons _ (.cons_cons _ (.cons_cons _ .slnil))))))))⟩
      ·clear hs
       rintro E w ⟨gg748,es156,ck156,v896,xs298,hE2,hE3,hE6,hE7,hE8,hE9,hE43,hds,hlegg748,hmes156,hrelxs298,hs⟩
       have hM:=hKhx114
       obtain ⟨E,rfl⟩:=open7 (E:=E) hE2 hE3 hE6 hE7 hE8 hE9 hE43
       replace hlegg718:=hlegg718.trans hlegg748
       refine WP_region ?_
       obtain ⟨t41,ht41,hM⟩:=bindS hM
       refine O (r_addM rfl rfl ht41) rfl<|O (r_move (v:=Value.int .i64 t41) rfl) rfl<|OW_nil ?_
       obtain rfl:=Option.some.inj hM
       exact ⟨gg748,es156,ck156,v896,xs298,rfl,rfl,rfl,rfl,rfl,rfl,rfl,hds,hlegg718,hmes156,hrelxs298,hs⟩
     ·refine WP_false rfl hc124<|WP_exit ?_
      obtain rfl:=Option.some.inj hM
      refine fun hr=>?_
      have hM:=congrArg some hr
      obtain rfl:=Option.some.inj hM
      exact ⟨xv87,m81,rfl,gg718,es150,ck150,v860,xs286,rfl,rfl,rfl,rfl,rfl,hds,hagg506,hmes150,hrelxs286,(hs.sub (.cons _ (.cons_cons _ (.cons_cons _ (.cons_cons _ (.cons_cons _ .slnil))))))⟩
   ·clear hs
    rintro E w ⟨xv84,m78,rfl,gg695,es145,ck145,v833,xs277,hE2,hE3,hE6,hE7,hE8,hds,hlegg695,hmes145,hrelxs277,hs⟩
    have hM:=hKhx106
    dsimp only [onStep] at hM
    obtain ⟨E,rfl⟩:=open5 (E:=E) hE2 hE3 hE6 hE7 hE8
    replace hlegg506:=hlegg506.trans hlegg695
    refine WP_region<|O (r_move (v:=Value.int .i64 xv62) rfl) rfl ?_
    obtain ⟨t42,ht42,hM⟩:=bindS hM
    refine O (r_addM rfl rfl ht42) rfl<|O (r_assign (v:=Value.int .i64 t42) rfl) rfl<|OW_nil ?_
    obtain rfl:=Option.some.inj hM
    exact ⟨gg695,es145,ck145,v833,xs277,rfl,rfl,rfl,rfl,rfl,hds,hlegg506,hmes145,hrelxs277,hs⟩
  ·refine WP_false rfl hc106<|WP_exit ?_
   obtain rfl:=Option.some.inj hM
   refine fun hr=>?_
   have hM:=congrArg some hr
   obtain rfl:=Option.some.inj hM
   exact ⟨(),rfl,gg506,hds,hlegg506,(hs.sub (.cons _ (.cons _ (.cons _ (.cons _ .slnil)))))⟩
 ·clear hs
  rintro E w ⟨_,rfl,gg379,hds,hlegg379,hs⟩
  have hM:=hKhx58
  dsimp only [onStep] at hM
  refine WP_seq<|WP_region<|O (r_assign (v:=encS []) rfl) rfl<|O (r_assign (v:=Value.bool false) rfl) rfl<|OW_nil<|WP_ret ?_
  obtain rfl:=Option.some.inj hM
  refine FL_nil hds ?_
  exact ⟨_,res2 Tryz.results70 (rv_tmp (v:=encS []) rfl) (rv_tmp (v:=Value.bool false) rfl),gg379,⟨_,_,rfl,⟨[encS []],rfl,rfl⟩,⟨[Value.bool false],rfl,rfl⟩⟩,hs.ext⟩
set_option maxRecDepth 100000 in
theorem lexspec_only_ok {rv1:T_Regex} {s1:Str} {r:Bool} (hM:M.lexspec_only rv1 s1=some r) {g0:Hp} {w0:World} (hi:Imm g0 w0) {cs1:List Value} (hcs1:tT_Regex.rel g0 cs1 rv1) :
    CallsV Tryz.prog 37 #[Value.agg cs1.toArray,encS s1] w0 (fun v w'=>∃g',(VRd tBool false g' v r)∧Ext g0 w0 g' w'):=by
 unfold M.lexspec_only at hM
 obtain ⟨cs2,cs3,cs4,rfl,hcs2,hcs3,hcs4⟩:=tT_Regex_iff.1 hcs1
 have hcs2:cs2=_:=hcs2; subst hcs2
 have hcs3:cs3=_:=hcs3; subst hcs3
 obtain ⟨v1,rfl,hRv1⟩:=hcs4
 have hs:=Sep.start hi
 refine calls_of_WP (args:=[Value.agg (List.toArray (α:=Value) (([Value.int .i64 rv1.Kind])++((rv1.Set.1.map (Value.int .u64))++([v1])))),encS s1]) Tryz.func37 rfl Tryz.ntmps37 rfl ?_
 have hds:(argEnv [Value.agg (List.toArray (α:=Value) (([Value.int .i64 rv1.Kind])++((rv1.Set.1.map (Value.int .u64))++([v1])))),encS s1]).ds=[]:=rfl
 refine WP_seq<|WP_region<|OW_box (v:=Value.agg (List.toArray (α:=Value) (([Value.int .i64 rv1.Kind])++((rv1.Set.1.map (Value.int .u64))++([v1]))))) rfl hs (zs:=([Value.int .i64 rv1.Kind])++((rv1.Set.1.map (Value.int .u64))++([v1]))) rfl rfl ?_
 intro b1 wv1 hs
 refine O (r_assign (v:=Value.bool false) rfl) rfl<|OW_nil<|WP_seq<|WP_region<|O (r_loadN (cs:=([Value.int .i64 rv1.Kind])++((rv1.Set.1.map (Value.int .u64))++([v1]))) ti53 rfl (by simp [rv1.Set.2]) (hs.cells (i:=0) rfl)) rfl<|OW_lit (τ:=tT_Regex) [Value.agg (List.toArray (α:=Value) (([Value.int .i64 rv1.Kind])++((rv1.Set.1.map (Value.int .u64))++([v1]))))] [rv1] Tryz.underlying51 ti53 (by decide) hs rfl rfl rfl ⟨(tT_Regex_iff.2 ⟨[Value.int .i64 rv1.Kind],rv1.Set.1.map (Value.int .u64),[v1],rfl,rfl,rfl,⟨_,rfl,hRv1⟩⟩),trivial⟩ rfl ?_
 intro v2 wv2 xs1 hrelxs1 hs
 obtain ⟨gg1,hlegg1,hRgg1,hs⟩:=hs.relRow (i:=0) rfl hrelxs1
 obtain ⟨rv2,hrv2,hM⟩:=bindS hM
 refine C [v2] cf35 rfl (lexspec_build_ok hrv2 hs.imm hRgg1) rfl ?_
 rintro v3 wv3 ⟨gg2,hvv3,hegg2⟩
 have hlegg2:=hegg2.le hs.imm
 replace hs:=hs.call hegg2
 obtain ⟨v4,v5,rfl,hvv4,hvv5⟩:=hvv3
 obtain ⟨cs5,rfl,hcs5⟩:=hvv5
 have hcs5:cs5=_:=hcs5; subst hcs5
 obtain ⟨cs6,rfl,hcs6⟩:=hvv4
 obtain ⟨cs7,cs8,cs9,rfl,hcs7,hcs8,hcs9⟩:=hcs6
 obtain ⟨v6,rfl,hRv6⟩:=hcs7
 obtain ⟨v7,rfl,hRv7⟩:=hcs8
 obtain ⟨v8,rfl,hRv8⟩:=hcs9
 refine O (r_move (v:=Value.tuple #[Value.agg (List.toArray (α:=Value) [v6,v7,v8]),Value.int .i64 rv2.2]) rfl) rfl<|O (r_extract (vs:=[Value.agg (List.toArray (α:=Value) [v6,v7,v8]),Value.int .i64 rv2.2]) (v:=Value.agg (List.toArray (α:=Value) [v6,v7,v8])) rfl rfl) rfl<|O (r_extract (vs:=[Value.agg (List.toArray (α:=Value) [v6,v7,v8]),Value.int .i64 rv2.2]) (v:=Value.int .i64 rv2.2) rfl rfl) rfl<|OW_alloc ti37 hs (zs:=[Value.slice none 0 0,Value.slice none 0 0,Value.slice none 0 0]) rfl rfl ?_
 intro b2 wv4 hs
 refine OW_storeAll ti37 hs (i:=0) rfl rfl (v:=Value.agg (List.toArray (α:=Value) [v6,v7,v8])) rfl (vs:=[v6,v7,v8]) rfl (one_cons (by obtain ⟨_,_,h9⟩:=hRv6.shape; rw [h9]; rfl) (one_cons (by obtain ⟨_,_,h9⟩:=hRv7.shape; rw [h9]; rfl) (one_cons (by obtain ⟨_,_,h9⟩:=hRv8.shape; rw [h9]; rfl) one_nil))) rfl rfl ?_
 intro wv5 hs
 refine O (r_assign (v:=Value.int .i64 rv2.2) rfl) rfl<|OW_nil<|WP_seq<|WP_region<|O (r_move (v:=encS s1) rfl) rfl ?_
 obtain ⟨rv3,hrv3,hM⟩:=bindS hM
 refine C [encS s1] cf69 rfl (lexspec_literal_ok hrv3 hs.imm) rfl ?_
 rintro v9 wv6 ⟨gg3,hvv9,hegg3⟩
 have hlegg3:=hegg3.le hs.imm
 replace hs:=hs.call hegg3
 replace hRv6:=hRv6.mono hlegg3
 replace hRv7:=hRv7.mono hlegg3
 replace hRv8:=hRv8.mono hlegg3
 obtain ⟨cs10,rfl,hcs10⟩:=hvv9
 obtain ⟨cs11,cs12,cs13,rfl,hcs11,hcs12,hcs13⟩:=tT_Regex_iff.1 hcs10
 have hcs11:cs11=_:=hcs11; subst hcs11
 have hcs12:cs12=_:=hcs12; subst hcs12
 obtain ⟨v10,rfl,hRv10⟩:=hcs13
 refine OW_lit (τ:=tT_Regex) [Value.agg (List.toArray (α:=Value) (([Value.int .i64 rv3.Kind])++((rv3.Set.1.map (Value.int .u64))++([v10]))))] [rv3] Tryz.underlying51 ti53 (by decide) hs rfl rfl rfl ⟨(tT_Regex_iff.2 ⟨[Value.int .i64 rv3.Kind],rv3.Set.1.map (Value.int .u64),[v10],rfl,rfl,rfl,⟨_,rfl,hRv10⟩⟩),trivial⟩ rfl ?_
 intro v11 wv7 xs2 hrelxs2 hs
 obtain ⟨gg4,hlegg4,hRgg4,hs⟩:=hs.relRow (i:=0) rfl hrelxs2
 replace hRv6:=hRv6.mono hlegg4
 replace hRv7:=hRv7.mono hlegg4
 replace hRv8:=hRv8.mono hlegg4
 obtain ⟨rv4,hrv4,hM⟩:=bindS hM
 refine C [v11] cf35 rfl (lexspec_build_ok hrv4 hs.imm hRgg4) rfl ?_
 rintro v12 wv8 ⟨gg5,hvv12,hegg5⟩
 have hlegg5:=hegg5.le hs.imm
 replace hs:=hs.call hegg5
 replace hRv6:=hRv6.mono hlegg5
 replace hRv7:=hRv7.mono hlegg5
 replace hRv8:=hRv8.mono hlegg5
 obtain ⟨v13,v14,rfl,hvv13,hvv14⟩:=hvv12
 obtain ⟨cs14,rfl,hcs14⟩:=hvv14
 have hcs14:cs14=_:=hcs14; subst hcs14
 obtain ⟨cs15,rfl,hcs15⟩:=hvv13
 obtain ⟨cs16,cs17,cs18,rfl,hcs16,hcs17,hcs18⟩:=hcs15
 obtain ⟨v15,rfl,hRv15⟩:=hcs16
 obtain ⟨v16,rfl,hRv16⟩:=hcs17
 obtain ⟨v17,rfl,hRv17⟩:=hcs18
 refine O (r_move (v:=Value.tuple #[Value.agg (List.toArray (α:=Value) [v15,v16,v17]),Value.int .i64 rv4.2]) rfl) rfl<|O (r_extract (vs:=[Value.agg (List.toArray (α:=Value) [v15,v16,v17]),Value.int .i64 rv4.2]) (v:=Value.agg (List.toArray (α:=Value) [v15,v16,v17])) rfl rfl) rfl<|O (r_extract (vs:=[Value.agg (List.toArray (α:=Value) [v15,v16,v17]),Value.int .i64 rv4.2]) (v:=Value.int .i64 rv4.2) rfl rfl) rfl<|OW_alloc ti37 hs (zs:=[Value.slice none 0 0,Value.slice none 0 0,Value.slice none 0 0]) rfl rfl ?_
 intro b3 wv9 hs
 refine OW_storeAll ti37 hs (i:=0) rfl rfl (v:=Value.agg (List.toArray (α:=Value) [v15,v16,v17])) rfl (vs:=[v15,v16,v17]) rfl (one_cons (by obtain ⟨_,_,h9⟩:=hRv15.shape; rw [h9]; rfl) (one_cons (by obtain ⟨_,_,h9⟩:=hRv16.shape; rw [h9]; rfl) (one_cons (by obtain ⟨_,_,h9⟩:=hRv17.shape; rw [h9]; rfl) one_nil))) rfl rfl ?_
 intro wv10 hs
 refine O (r_assign (v:=Value.int .i64 rv4.2) rfl) rfl<|OW_nil<|WP_seq ?_
 obtain ⟨xv1,hx1,hKhx1⟩:=bindS hM
 refine WP_cut (fun E w=>E 5=Value.pointer (some ⟨b2,0,none⟩)∧E 7=Value.pointer (some ⟨b3,0,none⟩)∧E 29=Value.bool xv1∧E.ds=[]∧Go.Lx.Sep g0 w0 gg5 w [Go.Lx.box b3 37 ([v15,v16,v17]),Go.Lx.box b2 37 ([v6,v7,v8])]) ?_ ?_
 ·have hM:=hx1
  have hagg5:=Hle.refl gg5
  refine WP_region<|O (r_move (v:=Value.int .i64 rv2.2) rfl) rfl<|O (r_neq rfl rfl) rfl<|O (r_move (v:=Value.bool (rv2.2 != 0)) rfl) rfl ?_
  rcases condS hM with ⟨hg2,hM⟩|⟨hg2,hM⟩
  ·refine OK rfl rfl rfl (by rw [hg2]; rfl) rfl<|OK rfl rfl rfl (by rw [hg2]; rfl) rfl<|O (r_pickT (v:=Value.bool true) rfl hg2 rfl) rfl<|OW_nil ?_
   obtain rfl:=Option.some.inj hM
   exact ⟨rfl,rfl,rfl,hds,(hs.sub (.cons_cons _ (.cons_cons _ (.cons _ .slnil))))⟩
  ·refine OG rfl rfl rfl (by rw [hg2]; rfl) (r_move (v:=Value.int .i64 rv4.2) rfl) rfl<|OG rfl rfl rfl (by rw [hg2]; rfl) (r_neq rfl rfl) rfl<|O (r_pickF (v:=Value.bool (rv4.2 != 0)) rfl hg2 rfl) rfl<|OW_nil ?_
   obtain rfl:=Option.some.inj hM
   exact ⟨rfl,rfl,rfl,hds,(hs.sub (.cons_cons _ (.cons_cons _ (.cons _ .slnil))))⟩
 ·clear hs
  rintro E w ⟨hE5,hE7,hE29,hds,hs⟩
  have hM:=hKhx1
  obtain ⟨E,rfl⟩:=open3 (E:=E) hE5 hE7 hE29
  rcases condS hM with ⟨hc1,hM⟩|⟨hc1,hM⟩
  ·refine WP_true rfl hc1<|WP_seq<|WP_region<|O (r_assign (v:=Value.bool false) rfl) rfl<|OW_nil<|WP_ret ?_
   obtain rfl:=Option.some.inj hM
   refine FL_nil hds ?_
   exact ⟨_,res1 Tryz.results37 (rv_tmp (v:=Value.bool false) rfl),gg5,⟨[Value.bool false],rfl,rfl⟩,hs.ext⟩
  ·refine WP_false rfl hc1<|WP_skip<|WP_seq<|WP_region<|O (r_loadN (cs:=[v6,v7,v8]) ti37 rfl rfl (hs.cells (i:=1) rfl)) rfl<|O (r_loadN (cs:=[v15,v16,v17]) ti37 rfl rfl (hs.cells (i:=0) rfl)) rfl ?_
   obtain ⟨rv5,hrv5,hM⟩:=bindS hM
   refine C [Value.agg (List.toArray (α:=Value) [v6,v7,v8]),Value.agg (List.toArray (α:=Value) [v15,v16,v17])] cf70 rfl (dfa_Difference_ok hrv5 hs.imm (⟨[v6],[v7],[v8],rfl,⟨_,rfl,hRv6⟩,⟨_,rfl,hRv7⟩,⟨_,rfl,hRv8⟩⟩) (⟨[v15],[v16],[v17],rfl,⟨_,rfl,hRv15⟩,⟨_,rfl,hRv16⟩,⟨_,rfl,hRv17⟩⟩)) rfl ?_
   rintro v18 wv11 ⟨gg6,hvv18,hegg6⟩
   have hlegg6:=hegg6.le hs.imm
   replace hs:=hs.call hegg6
   obtain ⟨v19,v20,rfl,hvv19,hvv20⟩:=hvv18
   obtain ⟨cs19,rfl,hcs19⟩:=hvv20
   have hcs19:cs19=_:=hcs19; subst hcs19
   obtain ⟨cs20,rfl,hcs20⟩:=hvv19
   have hcs20:cs20=_:=hcs20; subst hcs20
   refine O (r_move (v:=Value.tuple #[encS rv5.1,Value.bool rv5.2]) rfl) rfl<|O (r_extract (vs:=[encS rv5.1,Value.bool rv5.2]) (v:=encS rv5.1) rfl rfl) rfl<|O (r_extract (vs:=[encS rv5.1,Value.bool rv5.2]) (v:=Value.bool rv5.2) rfl rfl) rfl<|O (r_assign (v:=encS rv5.1) rfl) rfl<|O (r_assign (v:=Value.bool rv5.2) rfl) rfl<|OW_nil<|WP_seq<|WP_region<|O (r_move (v:=Value.bool rv5.2) rfl) rfl<|O (r_not rfl) rfl<|O (r_assign (v:=Value.bool (!rv5.2)) rfl) rfl<|OW_nil<|WP_ret ?_
   obtain rfl:=Option.some.inj hM
   refine FL_nil hds ?_
   exact ⟨_,res1 Tryz.results37 (rv_tmp (v:=Value.bool (!rv5.2)) rfl),gg6,⟨[Value.bool (!rv5.2)],rfl,rfl⟩,hs.ext⟩
end Go.Proofs.YtggpjcdhflcfmaaGreatDoor
