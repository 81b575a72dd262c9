/- Terms, Sample and Separator return what the reference implementation returns (specifications of at most 50 definitions with names of at most 40 bytes and other texts of at most 100 bytes; for others the law asks the examples alone), for every input. -/
import Derived.Test.YtggpjcdhflcfmaaGreatDoorKLexspecTerms13
set_option linter.unusedVariables false
set_option linter.unusedSimpArgs false
namespace Go.Proofs.YtggpjcdhflcfmaaGreatDoor.LlexspecTerms
open Go.Lx Go.RowKit Go.ChangeShapes Go.WideShapes Go.ChangeAt
theorem conc9:Tryz.prog.concrete 9=true:=by kernel_rfl
theorem conc107:Tryz.prog.concrete 107=true:=by kernel_rfl
theorem own:ownKnob Tryz.prog.godebug=none:=by kernel_rfl
noncomputable def laidWorld (os:Os):World:=
  let w0:=World.holding Tryz.prog os ⟨#[],#[],[]⟩
  { w0 with heap:=(w0.heap.modify 0 fun o=>match o with|.cells _ t fz=>.cells (M.layoutTerms.map encS).toArray t fz|o=>o) }
theorem laidWorld_met (os:Os) (args:Array Value):laidMetH Tryz.prog [("emendate/lexspec.layoutTerms",Rows.laid_emendate_lexspec_layoutTerms)] ((laidWorld os).forCall (fun _ _=>0) ⟨#[],args,[]⟩).memory:=
  laidMet_of_run' 8 (by kernel_rfl) (by kernel_rfl)
set_option maxRecDepth 100000 in
theorem lifted (os:Os) (started:os.Started) (H:Type) (enc:TypeId×Value→H) :
    ReturnsInHanded {} Tryz.checked os 3 .any (fun w args=>(Rows.lexspecTermsSpec.pre enc Tryz.prog Tryz.f3 Rows.lexspecTermsRow.domain false w args∧laidMetH Tryz.prog [("emendate/lexspec.layoutTerms",Rows.laid_emendate_lexspec_layoutTerms)] w)∧sizedMet enc Tryz.prog Tryz.f3 (OpenSpec.ofChange Rows.lexspecTermsSpec) false w args)
      (Rows.lexspecTermsSpec.post enc Tryz.prog Tryz.f3 false true false false):=by
  refine returnsInHanded_of_change_and (C:=Tryz.checked) (X:=fun w _=>laidMetH Tryz.prog [("emendate/lexspec.layoutTerms",Rows.laid_emendate_lexspec_layoutTerms)] w) (fun _ _ _ hh h=>h.of_heap hh) own started (by kernel_rfl) Tryz.func3
    (ChangeSpec.witness_at (enc:=enc) (C:=Tryz.checked) (os:=os) (X:=fun w _=>laidMetH Tryz.prog [("emendate/lexspec.layoutTerms",Rows.laid_emendate_lexspec_layoutTerms)] w) false (laidWorld os) #[.agg #[.slice none 0 0,Value.bool false,Value.int .i64 0,Value.int .i64 0],Value.int .i64 0] 8 rfl (by kernel_rfl) (by kernel_rfl) (by kernel_rfl) (by kernel_rfl) (by kernel_rfl) (laidWorld_met os _)) ?_
  intro W base args ds gs before hval0 hW hcnd _ hL _
  have hval:∀(j:Nat) t v,Tryz.f3.params[j]?=some t→args[j]?=some v→Value.okWide Tryz.prog W .any base t v:=hval0
  have hW':=hW
  obtain ⟨p,q,hA0,hV,rfl,hfz,hnd⟩:=hW
  have hA:DataW.TrodAll enc Tryz.prog W 0 (fun _=>true) true Tryz.f3.params.toList args.toList ds p:=hA0
  rw [Tryz.params3] at hA hval
  obtain ⟨v0,vs0,d0,ds0,p0,q0,hargs,rfl,rfl,h0,r0⟩:=trodAll_cons hA
  obtain ⟨v1,vs1,d1,ds1,p1,q1,rfl,rfl,rfl,h1,r1⟩:=trodAll_cons r0
  obtain ⟨rfl,rfl,rfl⟩:=trodAll_nil r1
  obtain rfl:args=#[v0,v1]:=by cases args; simp_all
  obtain ⟨rfl,rfl⟩:=trodVars_none hV
  have lt0:∀x∈p0,x.block<W.heap.size:=by obtain ⟨m,hm⟩:=h0; exact DataW.trod_lt m _ _ _ hm
  obtain ⟨x0,y0,ok0⟩:=vrd_agg ti24 readsT_LexSpec (hval 0 24 v0 rfl rfl) h0
  obtain ⟨c0,hc0,y0⟩:=y0
  subst hc0
  have lt1:∀x∈p1,x.block<W.heap.size:=by obtain ⟨m,hm⟩:=h1; exact DataW.trod_lt m _ _ _ hm
  obtain ⟨x1,y1,ok1⟩:=vrd_one (single_int Tryz.underlying3) (reads_int Tryz.underlying3) (hval 1 3 v1 rfl rfl) h1
  obtain ⟨c1,hc1,y1⟩:=y1
  have y1:c1=_:=y1; subst y1; subst hc1
  have hG0:GBox 0 (M.layoutTerms.map encS) (allHp W):=gbox_of_strs (Go.Lib.laidMet.reads (l:=[("emendate/lexspec.layoutTerms",Rows.laid_emendate_lexspec_layoutTerms)]) (n:= "emendate/lexspec.layoutTerms") (d:=Rows.laid_emendate_lexspec_layoutTerms) hL (by simp)) (by kernel_rfl) (by kernel_rfl) Tryz.underlying59 Tryz.underlying9 (by kernel_rfl) (by kernel_rfl) (by kernel_rfl) (by kernel_rfl)
  refine (law_calls (law11_LexspecTerms_ok (law_terms x0 ok0 x1 ok1) (imm_all W) y0 hG0)).mono fun e W' ⟨he,bel⟩=>?_
  subst he
  have laidOut:laidOutB Tryz.prog=true:=by kernel_rfl
  exact ⟨_,rfl,_,_,_,[],_,[],hW',trodAll_mk1 (shut_bool Tryz.underlying4 _),(trodAll_cons_mk (Below.trod laidOut (by kernel_rfl) (of_decide_eq_true (by kernel_rfl)) h0 bel lt0) (trodAll_cons_mk (Below.trod laidOut (by kernel_rfl) (of_decide_eq_true (by kernel_rfl)) h1 bel lt1) trodAll_mk0)),rfl,bel.frame _,fun h=>by cases h⟩
theorem rowHolds:Rows.LexspecTermsSaid:=
  OpenClaim.holds_of_wide 3 Tryz.f3 rfl rfl rfl rfl rfl rfl rfl ⟨rfl,rfl,rfl,rfl,rfl⟩ rfl rfl rfl rfl rfl (by kernel_rfl) Tryz.func3 (by kernel_rfl)
    (of_decide_eq_true (by kernel_rfl)) (by unfold Func.isWrapper; first|(rw [if_pos (by decide +kernel)]; kernel_rfl)|(rw [if_neg (by decide +kernel)]; exact ⟨rfl,rfl⟩))
    (fun os started H enc _=>lifted os started H enc)
theorem holds:Rows.LexspecTermsCardSaid:=
  Claim7.holds_tied_plain_at .later [] [.widerDeep] true Rows.lexspecTermsCard.stood.harness true
    rowHolds (fun _ h=>by cases h) (by kernel_rfl) (fun _ h=>by cases h) lexspecTerms_row_tie rfl ⟨rfl,rfl⟩ (by kernel_rfl) rfl
    (fun f fn hf hfn=>by
      obtain rfl:f=3:=Option.some.inj ((show Tryz.prog.funcNamed Rows.lexspecTermsRow.func=some 3 by kernel_rfl).symm.trans hf) |>.symm
      obtain rfl:fn=Tryz.f3:=(Option.some.inj (Tryz.func3.symm.trans hfn)).symm
      refine ⟨by kernel_rfl,fun j t ht=>?_⟩
      rw [Tryz.params3] at ht
      have hall:∀t∈[24,3],Tryz.prog.wantsStandIn t=false:=by
        intro t ht
        simp only [List.mem_cons,List.not_mem_nil,or_false] at ht
        rcases ht with rfl|rfl <;> kernel_rfl
      exact hall t (List.mem_of_getElem? (by simpa using ht)))
    (by kernel_rfl)
end Go.Proofs.YtggpjcdhflcfmaaGreatDoor.LlexspecTerms
