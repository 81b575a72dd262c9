/- in a specification without error every sample is a nonempty token of its kind, and the empty string is no token (specifications of at most 6 definitions with texts of at most 30 bytes and 8 levels whose automaton is not large; for others the law asks the examples alone), for every input. -/
import Derived.Test.YtggpjcdhflcfmaaGreatDoorKLexspecSamples14
set_option linter.unusedVariables false
set_option linter.unusedSimpArgs false
namespace Go.Proofs.YtggpjcdhflcfmaaGreatDoor.LlexspecSamples
open Go.Lx Go.RowKit Go.ChangeShapes Go.WideShapes Go.ChangeAt
theorem BY:Tryz.prog.concrete 9=true:=by kernel_rfl
theorem wX:Tryz.prog.concrete 107=true:=by kernel_rfl
theorem own:ownKnob Tryz.prog.godebug=none:=by kernel_rfl
noncomputable def sc (os:Os):World:=
 let w0:=World.holding Tryz.prog os ⟨#[],#[],[]⟩
 { w0 with heap:=(w0.heap.modify 0 fun o=>match o with|.cells _ t fz=>.cells (M.k3.map ap).toArray t fz|o=>o) }
theorem rE (os:Os) (args:Array Value):laidMetH Tryz.prog [("emendate/lexspec.layoutTerms",Rows.laid_emendate_lexspec_layoutTerms)] ((sc os).forCall (fun _ _=>0) ⟨#[],args,[]⟩).memory:=
 laidMet_of_run' 8 (by kernel_rfl) (by kernel_rfl)
set_option maxRecDepth 100000 in
theorem lifted (os:Os) (o:os.Started) (H:Type) (enc:TypeId×Value→H) :
 ReturnsInHanded {} Tryz.checked os 4 .any (fun w args=>(Rows.lexspecSamplesSpec.pre enc Tryz.prog Tryz.f4 Rows.lexspecSamplesRow.domain false w args∧laidMetH Tryz.prog [("emendate/lexspec.layoutTerms",Rows.laid_emendate_lexspec_layoutTerms)] w)∧sizedMet enc Tryz.prog Tryz.f4 (OpenSpec.ofChange Rows.lexspecSamplesSpec) false w args)
  (Rows.lexspecSamplesSpec.post enc Tryz.prog Tryz.f4 false true false false):=by
 refine returnsInHanded_of_change_and (C:=Tryz.checked) (X:=fun w _=>laidMetH Tryz.prog [("emendate/lexspec.layoutTerms",Rows.laid_emendate_lexspec_layoutTerms)] w) (fun _ _ _ hh h=>h.of_heap hh) own o (by kernel_rfl) Tryz.func4
  (ChangeSpec.witness_at (enc:=enc) (C:=Tryz.checked) (os:=os) (X:=fun w _=>laidMetH Tryz.prog [("emendate/lexspec.layoutTerms",Rows.laid_emendate_lexspec_layoutTerms)] w) false (sc os) #[.agg #[.slice none 0 0,Value.bool false,Value.int .i64 0,Value.int .i64 0]] 8 rfl (by kernel_rfl) (by kernel_rfl) (by kernel_rfl) (by kernel_rfl) (by kernel_rfl) (rE os _)) ?_
 intro W L args ds U a1 A f S _ I _;have c:∀(j:Nat) t v,Tryz.f4.params[j]?=some t→args[j]?=some v→Value.okWide Tryz.prog W .any L t v:=A;have F:=f;obtain ⟨p,q,K,G,rfl,R,Q⟩:=f;have g:DataW.TrodAll enc Tryz.prog W 0 (fun _=>true) true Tryz.f4.params.toList args.toList ds p:=K;rw [Tryz.params4] at g c;obtain ⟨v0,N,Y,V,s,P,T,rfl,rfl,b,r⟩:=trodAll_cons g;obtain ⟨rfl,rfl,rfl⟩:=trodAll_nil r;obtain rfl:args=#[v0]:=by cases args; simp_all
 obtain ⟨rfl,rfl⟩:=trodVars_none G;have y:∀x∈s,x.block<W.heap.size:=by obtain ⟨m,hm⟩:=b; exact DataW.trod_lt m _ _ _ hm
 obtain ⟨k,a,u⟩:=Al lE ql (c 0 24 v0 rfl rfl) b;obtain ⟨c0,D,a⟩:=a;subst D;have J:kg 0 (M.k3.map ap) (mh W):=te (Go.Lib.laidMet.reads (l:=[("emendate/lexspec.layoutTerms",Rows.laid_emendate_lexspec_layoutTerms)]) (n:= "emendate/lexspec.layoutTerms") (d:=Rows.laid_emendate_lexspec_layoutTerms) I (by simp)) (by kernel_rfl) (by kernel_rfl) HT Hr (by kernel_rfl) (by kernel_rfl) (by kernel_rfl) (by kernel_rfl);refine (xS (jm (us k u) (Ba W) a J)).mono fun e W' ⟨B,i⟩=>?_
 subst B;have z:laidOutB Tryz.prog=true:=by kernel_rfl
 exact ⟨_,rfl,_,_,_,[],_,[],F,trodAll_mk1 (shut_bool HO _),(trodAll_cons_mk (Below.trod z (by kernel_rfl) (of_decide_eq_true (by kernel_rfl)) b i y) trodAll_mk0),rfl,i.frame _,fun h=>by cases h⟩
theorem rowHolds:Rows.LexspecSamplesSaid:=
 OpenClaim.holds_of_wide 4 Tryz.f4 rfl rfl rfl rfl rfl rfl rfl ⟨rfl,rfl,rfl,rfl,rfl⟩ rfl rfl rfl rfl rfl (by kernel_rfl) Tryz.func4 (by kernel_rfl)
  (of_decide_eq_true (by kernel_rfl)) (by unfold Func.isWrapper; first|(rw [if_pos (by decide +kernel)]; kernel_rfl)|(rw [if_neg (by decide +kernel)]; exact ⟨rfl,rfl⟩))
  (fun os a H enc _=>lifted os a H enc)
theorem holds:Rows.LexspecSamplesCardSaid:=
  Claim7.holds_tied_plain_at .later [] [.widerDeep] true Rows.lexspecSamplesCard.stood.harness true
    rowHolds (fun _ h=>by cases h) (by kernel_rfl) (fun _ h=>by cases h) lexspecSamples_row_tie rfl ⟨rfl,rfl⟩ (by kernel_rfl) rfl
    (fun f fn hf b=>by
      obtain rfl:f=4:=Option.some.inj ((show Tryz.prog.funcNamed Rows.lexspecSamplesRow.func=some 4 by kernel_rfl).symm.trans hf) |>.symm;obtain rfl:fn=Tryz.f4:=(Option.some.inj (Tryz.func4.symm.trans b)).symm;refine ⟨by kernel_rfl,fun j t a=>?_⟩;rw [Tryz.params4] at a;have c:∀t∈[24],Tryz.prog.wantsStandIn t=false:=by
        intro t a;simp only [IJ,List.not_mem_nil,or_false] at a;rcases a with rfl <;> kernel_rfl
      exact c t (List.mem_of_getElem? (by simpa using a)))
    (by kernel_rfl)
end Go.Proofs.YtggpjcdhflcfmaaGreatDoor.LlexspecSamples
