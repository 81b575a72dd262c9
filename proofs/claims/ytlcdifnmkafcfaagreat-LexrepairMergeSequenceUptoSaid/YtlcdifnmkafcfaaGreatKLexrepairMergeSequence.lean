/- Merge returns the tokens of the reference for any token sequence (at most 12 tokens with together at most 20 bytes, offsets and looks at most 10000; specifications of at most 6 definitions with texts of at most 30 bytes and 6 levels that the reference accepts; for others the law asks the examples alone), where what is read has at most 1048576 values and letters, for every input. -/
import Derived.Test.YtlcdifnmkafcfaaGreatKLexrepairMergeSequence13
set_option linter.unusedVariables false
set_option linter.unusedSimpArgs false
namespace Go.Proofs.YtlcdifnmkafcfaaGreat.LlexrepairMergeSequence
open Go.Lx Go.RowKit Go.ChangeShapes Go.WideShapes Go.ChangeAt
theorem uq:Tryz.prog.concrete 122=true:=by kernel_rfl
theorem own:ownKnob Tryz.prog.godebug=none:=by kernel_rfl
theorem uj:laidOutB Tryz.prog=true:=by kernel_rfl
set_option maxRecDepth 100000 in
theorem lifted (os:Os) (started:os.Started) (H:Type) (enc:TypeId×Value→H) :
    ∀F:Stop.Interp,ReturnsInHanded {} Tryz.checked os 4 .any ((Rows.OpenSpec.upto Rows.lexrepairMergeSequenceSpec).pre6 enc Tryz.prog Tryz.f4 Rows.lexrepairMergeSequenceUptoRow.domain false) (((Rows.OpenSpec.upto Rows.lexrepairMergeSequenceSpec).at F).post enc Tryz.prog Tryz.f4 false true false false):=by
  intro F
  refine returnsInHanded_of_cond (C:=Tryz.checked) (k:=Rows.uptoSmall) rfl own started (by kernel_rfl) Tryz.func4
    (OpenSpec.witness (enc:=enc) (C:=Tryz.checked) (k:=Rows.uptoSmall) rfl false ⟨#[],#[.agg #[.slice none 0 0,Value.bool false,Value.int .i64 0,Value.int .i64 0],.slice none 0 0],[]⟩ 8 (by kernel_rfl) (by kernel_rfl) (by kernel_rfl) (x:=([.agg [.nil,.lit (.bool false),.lit (.int .i64 0),.lit (.int .i64 0)],.nil],[],[])) (by kernel_rfl) (by kernel_rfl) (by kernel_rfl) (by kernel_rfl)) ?_
  intro W base args ds gs before A hW hcnd hk _
  have hval:∀(j:Nat) t v,Tryz.f4.params[j]?=some t→args[j]?=some v→Value.okWide Tryz.prog W .any base t v:=A
  have hW':=hW
  obtain ⟨p,q,G,hV,rfl,hfz,hnd⟩:=hW
  have hA:DataW.TrodAll enc Tryz.prog W 0 (fun _=>true) true Tryz.f4.params.toList args.toList ds p:=G
  rw [Tryz.params4] at hA hval
  obtain ⟨i,L,T,S,s,Q,hargs,rfl,rfl,f,o⟩:=trodAll_cons hA
  obtain ⟨g,K,J,R,r,P,rfl,rfl,rfl,d,n⟩:=trodAll_cons o
  obtain ⟨rfl,rfl,rfl⟩:=trodAll_nil n
  obtain rfl:args=#[i,g]:=by cases args; simp_all
  obtain ⟨rfl,rfl⟩:=trodVars_none hV
  have z:∀x∈s,x.block<W.heap.size:=by obtain ⟨m,hm⟩:=f; exact DataW.trod_lt m _ _ _ hm
  obtain ⟨l,b,w⟩:=xz ki nP (hval 0 24 i rfl rfl) f
  obtain ⟨U,D,b⟩:=b
  subst D
  have y:∀x∈r,x.block<W.heap.size:=by obtain ⟨m,hm⟩:=d; exact DataW.trod_lt m _ _ _ hm
  obtain ⟨x1,a,u,c⟩:=vC (pO DG) pa (hval 1 34 g rfl rfl) d
  replace c:=Nat.le_trans c (show Rows.uptoBulk J≤1048576 by have I:=of_decide_eq_true hk; simp only [List.append_nil,Rows.uptoBulkAll] at I; omega)
  obtain ⟨c1,B,a⟩:=a
  obtain ⟨N,rfl,a⟩:=a; subst B
  refine (va (eR (qj l w x1 u c) (yj W) b a)).mono fun e W' ⟨he,bel⟩=>?_
  subst he
  exact ⟨_,rfl,_,_,_,[],_,[],hW',trodAll_mk1 (shut_bool Eb _),(trodAll_cons_mk (Below.trod uj (by kernel_rfl) (of_decide_eq_true (by kernel_rfl)) f bel z) (trodAll_cons_mk (Below.trod uj (by kernel_rfl) (of_decide_eq_true (by kernel_rfl)) d bel y) trodAll_mk0)),rfl,bel.frame _,fun h=>by cases h⟩
theorem holds:Rows.LexrepairMergeSequenceUptoSaid:=
  OpenClaim.holds_of_cond 4 Tryz.f4 rfl rfl rfl rfl rfl rfl rfl ⟨rfl,rfl,rfl,rfl,rfl⟩ rfl rfl rfl rfl rfl (by kernel_rfl) Tryz.func4 (by kernel_rfl)
    (of_decide_eq_true (by kernel_rfl)) (by unfold Func.isWrapper; first|(rw [if_pos (by decide +kernel)]; kernel_rfl)|(rw [if_neg (by decide +kernel)]; exact ⟨rfl,rfl⟩))
    (fun os started H enc _=>lifted os started H enc)
end Go.Proofs.YtlcdifnmkafcfaaGreat.LlexrepairMergeSequence
