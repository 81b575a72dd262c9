/- Merge keeps the text and the sequence, makes no more tokens, has no further effect when repeated, and each token that it creates has a confusion (texts of at most 20 bytes; specifications of at most 6 definitions with texts of at most 30 bytes and 6 levels that the reference accepts; for others the law asks the examples alone), for every input. -/
import Derived.Test.YtlcdifnmkafcfaaGreatKLexrepairMergeKeepsText13
set_option linter.unusedVariables false
set_option linter.unusedSimpArgs false
namespace Go.Proofs.YtlcdifnmkafcfaaGreat.LlexrepairMergeKeepsText
open Go.Lx Go.RowKit Go.ChangeShapes Go.WideShapes Go.ChangeAt
theorem ul:Tryz.prog.concrete 122=true:=by kernel_rfl
theorem own:ownKnob Tryz.prog.godebug=none:=by kernel_rfl
theorem ug:laidOutB Tryz.prog=true:=by kernel_rfl
set_option maxRecDepth 100000 in
theorem lifted (os:Os) (started:os.Started) (H:Type) (enc:TypeId×Value→H) :
    ReturnsInHanded {} Tryz.checked os 5 .any (Rows.lexrepairMergeKeepsTextSpec.pre6 enc Tryz.prog Tryz.f5 Rows.lexrepairMergeKeepsTextRow.domain false) (Rows.lexrepairMergeKeepsTextSpec.post enc Tryz.prog Tryz.f5 false true false false):=by
  refine returnsInHanded_of_change (C:=Tryz.checked) own started (by kernel_rfl) Tryz.func5
    (ChangeSpec.witness6 (enc:=enc) (C:=Tryz.checked) false ⟨#[],#[.agg #[.slice none 0 0,Value.bool false,Value.int .i64 0,Value.int .i64 0],.string ByteArray.empty],[]⟩ 8 (by kernel_rfl) (by kernel_rfl) (by kernel_rfl) (by kernel_rfl)) ?_
  intro W base args ds gs before y hW hcnd _
  have hval:∀(j:Nat) t v,Tryz.f5.params[j]?=some t→args[j]?=some v→Value.okWide Tryz.prog W .any base t v:=y
  have hW':=hW
  obtain ⟨p,q,B,hV,rfl,hfz,hnd⟩:=hW
  have hA:DataW.TrodAll enc Tryz.prog W 0 (fun _=>true) true Tryz.f5.params.toList args.toList ds p:=B
  rw [Tryz.params5] at hA hval
  obtain ⟨g,F,N,K,o,I,hargs,rfl,rfl,d,l⟩:=trodAll_cons hA
  obtain ⟨f,D,L,J,n,G,rfl,rfl,rfl,c,k⟩:=trodAll_cons l
  obtain ⟨rfl,rfl,rfl⟩:=trodAll_nil k
  obtain rfl:args=#[g,f]:=by cases args; simp_all
  obtain ⟨rfl,rfl⟩:=trodVars_none hV
  have w:∀x∈o,x.block<W.heap.size:=by obtain ⟨m,hm⟩:=d; exact DataW.trod_lt m _ _ _ hm
  obtain ⟨i,b,s⟩:=xG iN nK (hval 0 24 g rfl rfl) d
  obtain ⟨P,A,b⟩:=b
  subst A
  have u:∀x∈n,x.block<W.heap.size:=by obtain ⟨m,hm⟩:=c; exact DataW.trod_lt m _ _ _ hm
  obtain ⟨x1,a,r⟩:=xF (sv DV) (hZ DV) (hval 1 9 f rfl rfl) c
  obtain ⟨c1,z,a⟩:=a
  have a:c1=_:=a; subst a; subst z
  refine (uZ (eP (uY i s x1 r) (yv W) b)).mono fun e W' ⟨he,bel⟩=>?_
  subst he
  exact ⟨_,rfl,_,_,_,[],_,[],hW',trodAll_mk1 (shut_bool Ev _),(trodAll_cons_mk (Below.trod ug (by kernel_rfl) (of_decide_eq_true (by kernel_rfl)) d bel w) (trodAll_cons_mk (Below.trod ug (by kernel_rfl) (of_decide_eq_true (by kernel_rfl)) c bel u) trodAll_mk0)),rfl,bel.frame _,fun h=>by cases h⟩
theorem holds:Rows.LexrepairMergeKeepsTextSaid:=
  OpenClaim.holds_of_wide 5 Tryz.f5 rfl rfl rfl rfl rfl rfl rfl ⟨rfl,rfl,rfl,rfl,rfl⟩ rfl rfl rfl rfl rfl (by kernel_rfl) Tryz.func5 (by kernel_rfl)
    (of_decide_eq_true (by kernel_rfl)) (by unfold Func.isWrapper; first|(rw [if_pos (by decide +kernel)]; kernel_rfl)|(rw [if_neg (by decide +kernel)]; exact ⟨rfl,rfl⟩))
    (fun os started H enc _=>lifted os started H enc)
end Go.Proofs.YtlcdifnmkafcfaaGreat.LlexrepairMergeKeepsText
