/- in a specification without error the pattern of a keyword matches its sample and no other string (specifications of at most 6 definitions with texts of at most 30 bytes and 8 levels whose automaton is not large, strings of at most 16 bytes; for others the law asks the examples alone), for every input. -/
import Derived.Test.YtggpjcdhflcfmaaGreatDoorKLexspecKeywords14
set_option linter.unusedVariables false
set_option linter.unusedSimpArgs false
namespace Go.Proofs.YtggpjcdhflcfmaaGreatDoor.LlexspecKeywords
open Go.Lx Go.RowKit Go.ChangeShapes Go.WideShapes Go.ChangeAt
theorem CK:Tryz.prog.concrete 9=true:=by kernel_rfl
theorem xy:Tryz.prog.concrete 107=true:=by kernel_rfl
theorem own:ownKnob Tryz.prog.godebug=none:=by kernel_rfl
noncomputable def sA (os:Os):World:=
 let w0:=World.holding Tryz.prog os ⟨#[],#[],[]⟩
 { w0 with heap:=(w0.heap.modify 0 fun o=>match o with|.cells _ t fz=>.cells (M.k2.map an).toArray t fz|o=>o) }
theorem rY (os:Os) (args:Array Value):laidMetH Tryz.prog [("emendate/lexspec.layoutTerms",Rows.laid_emendate_lexspec_layoutTerms)] ((sA os).forCall (fun _ _=>0) ⟨#[],args,[]⟩).memory:=
 laidMet_of_run' 8 (by kernel_rfl) (by kernel_rfl)
set_option maxRecDepth 100000 in
theorem lifted (os:Os) (z:os.Started) (H:Type) (enc:TypeId×Value→H) :
 ReturnsInHanded {} Tryz.checked os 5 .any (fun w args=>(Rows.lexspecKeywordsSpec.pre enc Tryz.prog Tryz.f5 Rows.lexspecKeywordsRow.domain false w args∧laidMetH Tryz.prog [("emendate/lexspec.layoutTerms",Rows.laid_emendate_lexspec_layoutTerms)] w)∧sizedMet enc Tryz.prog Tryz.f5 (OpenSpec.ofChange Rows.lexspecKeywordsSpec) false w args)
  (Rows.lexspecKeywordsSpec.post enc Tryz.prog Tryz.f5 false true false false):=by
 refine returnsInHanded_of_change_and (C:=Tryz.checked) (X:=fun w _=>laidMetH Tryz.prog [("emendate/lexspec.layoutTerms",Rows.laid_emendate_lexspec_layoutTerms)] w) (fun _ _ _ hh h=>h.of_heap hh) own z (by kernel_rfl) Tryz.func5
  (ChangeSpec.witness_at (enc:=enc) (C:=Tryz.checked) (os:=os) (X:=fun w _=>laidMetH Tryz.prog [("emendate/lexspec.layoutTerms",Rows.laid_emendate_lexspec_layoutTerms)] w) false (sA os) #[.agg #[.slice none 0 0,Value.bool false,Value.int .i64 0,Value.int .i64 0],.string ByteArray.empty] 8 rfl (by kernel_rfl) (by kernel_rfl) (by kernel_rfl) (by kernel_rfl) (by kernel_rfl) (rY os _)) ?_
 intro W Y args ds gs b4 L s a6 _ T _;have c:∀(j:Nat) t v,Tryz.f5.params[j]?=some t→args[j]?=some v→Value.okWide Tryz.prog W .any Y t v:=L;have R:=s;obtain ⟨p,q,V,S,rfl,a5,a4⟩:=s;have u:DataW.TrodAll enc Tryz.prog W 0 (fun _=>true) true Tryz.f5.params.toList args.toList ds p:=V;rw [Tryz.params5] at u c;obtain ⟨v0,a1,d0,b0,F,q0,a7,rfl,rfl,i,B⟩:=trodAll_cons u;obtain ⟨o,a0,d1,a9,D,q1,rfl,rfl,rfl,g,A⟩:=trodAll_cons B;obtain ⟨rfl,rfl,rfl⟩:=trodAll_nil A;obtain rfl:args=#[v0,o]:=by cases args; simp_all
 obtain ⟨rfl,rfl⟩:=trodVars_none S;have K:∀x∈F,x.block<W.heap.size:=by obtain ⟨m,f⟩:=i; exact DataW.trod_lt m _ _ _ f
 obtain ⟨y,b,I⟩:=AV mw qC (c 0 24 v0 rfl rfl) i;obtain ⟨c0,Q,b⟩:=b;subst Q;have J:∀x∈D,x.block<W.heap.size:=by obtain ⟨m,f⟩:=g; exact DataW.trod_lt m _ _ _ f
 obtain ⟨x1,a,G⟩:=AU (vx HW) (jf HW) (c 1 9 o rfl rfl) g;obtain ⟨c1,P,a⟩:=a;have a:c1=_:=a; subst a; subst P;have U:kj 0 (M.k2.map an) (li W):=tC (Go.Lib.laidMet.reads (l:=[("emendate/lexspec.layoutTerms",Rows.laid_emendate_lexspec_layoutTerms)]) (n:= "emendate/lexspec.layoutTerms") (d:=Rows.laid_emendate_lexspec_layoutTerms) T (by simp)) (by kernel_rfl) (by kernel_rfl) IE HW (by kernel_rfl) (by kernel_rfl) (by kernel_rfl) (by kernel_rfl);refine (yt (iI (tx y I x1 G) (BI W) b U)).mono fun e W' ⟨N,k⟩=>?_
 subst N;have r:laidOutB Tryz.prog=true:=by kernel_rfl
 exact ⟨_,rfl,_,_,_,[],_,[],R,trodAll_mk1 (shut_bool Iz _),(trodAll_cons_mk (Below.trod r (by kernel_rfl) (of_decide_eq_true (by kernel_rfl)) i k K) (trodAll_cons_mk (Below.trod r (by kernel_rfl) (of_decide_eq_true (by kernel_rfl)) g k J) trodAll_mk0)),rfl,k.frame _,fun h=>by cases h⟩
theorem rowHolds:Rows.LexspecKeywordsSaid:=
 OpenClaim.holds_of_wide 5 Tryz.f5 rfl rfl rfl rfl rfl rfl rfl ⟨rfl,rfl,rfl,rfl,rfl⟩ rfl rfl rfl rfl rfl (by kernel_rfl) Tryz.func5 (by kernel_rfl)
  (of_decide_eq_true (by kernel_rfl)) (by unfold Func.isWrapper; first|(rw [if_pos (by decide +kernel)]; kernel_rfl)|(rw [if_neg (by decide +kernel)]; exact ⟨rfl,rfl⟩))
  (fun os a H enc _=>lifted os a H enc)
theorem holds:Rows.LexspecKeywordsCardSaid:=
  Claim7.holds_tied_plain_at .later [] [.widerDeep] true Rows.lexspecKeywordsCard.stood.harness true
    rowHolds (fun _ h=>by cases h) (by kernel_rfl) (fun _ h=>by cases h) lexspecKeywords_row_tie rfl ⟨rfl,rfl⟩ (by kernel_rfl) rfl
    (fun f fn hf b=>by
      obtain rfl:f=5:=Option.some.inj ((show Tryz.prog.funcNamed Rows.lexspecKeywordsRow.func=some 5 by kernel_rfl).symm.trans hf) |>.symm;obtain rfl:fn=Tryz.f5:=(Option.some.inj (Tryz.func5.symm.trans b)).symm;refine ⟨by kernel_rfl,fun j t a=>?_⟩;rw [Tryz.params5] at a;have c:∀t∈[24,9],Tryz.prog.wantsStandIn t=false:=by
        intro t a;simp only [Js,List.not_mem_nil,or_false] at a;rcases a with rfl|rfl <;> kernel_rfl
      exact c t (List.mem_of_getElem? (by simpa using a)))
    (by kernel_rfl)
end Go.Proofs.YtggpjcdhflcfmaaGreatDoor.LlexspecKeywords
