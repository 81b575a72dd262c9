/- Part 24. -/
import Derived.Lay
import Derived.MakeChecks
import Derived.LaidOnce
import Derived.SevenTiedAt
import Derived.Deep.DeepHandedRow
import Derived.Test.YtbkjljkjhlcmoaaGreatDoorCards
import Derived.Test.YtbkjljkjhlcmoaaGreatDoorTie
import Derived.Test.YtbkjljkjhlcmoaaGreatDoorKBoth22
import Derived.Test.YtbkjljkjhlcmoaaGreatDoorKBoth23
set_option linter.unusedVariables false
set_option linter.unusedSimpArgs false
namespace Go.Proofs.YtbkjljkjhlcmoaaGreatDoor.LlanguageSamples
open Go.Lx Go.RowKit Go.ChangeShapes Go.WideShapes Go.ChangeAt
theorem own:ownKnob Tryz.prog.godebug=none:=by kernel_rfl
set_option maxRecDepth 100000 in
theorem lifted (os:Os) (B:os.Started) (H:Type) (enc:TypeId×Value→H) :
    ReturnsInHanded {} Tryz.checked os 3 .any (fun w args=>(Rows.languageSamplesSpec.pre enc Tryz.prog Tryz.f3 Rows.languageSamplesRow.domain false w args∧laidMetH Tryz.prog Rows.languageSamplesRow.laid w)∧sizedMet enc Tryz.prog Tryz.f3 (OpenSpec.ofChange Rows.languageSamplesSpec) false w args)
      (Rows.languageSamplesSpec.post enc Tryz.prog Tryz.f3 false true false false):=by
  refine returnsInHanded_of_change_and (C:=Tryz.checked) (X:=fun w _=>laidMetH Tryz.prog Rows.languageSamplesRow.laid w) (fun _ _ _ P h=>h.of_heap P) own B (by kernel_rfl) Tryz.func3
    (ChangeSpec.witness_shaped (enc:=enc) (C:=Tryz.checked) (os:=os) (X:=fun w _=>laidMetH Tryz.prog Rows.languageSamplesRow.laid w) false (World.laidAll Tryz.prog os Rows.languageSamplesRow.laid) #[Value.int .i64 0,Value.int .u8 0] 8 (World.laidAll_os _ _ _)
      (World.shaped_of_ZipB (by kernel_rfl) (by kernel_rfl)) (by kernel_rfl) (by kernel_rfl) (by kernel_rfl)
      (by rw [MakeChecks.laidMetH_plain _ _ _ (by kernel_rfl)]; exact laidMet_laidAll _ (by kernel_rfl) (by kernel_rfl))) ?_
  intro W a0 args ds gs b5 L u a8 _ g _;replace g:laidMet Tryz.prog Rows.languageSamplesRow.laid W:=by rw [←MakeChecks.laidMetH_plain _ _ _ (by kernel_rfl)]; exact g
  have c:∀(j:Nat) t v,Tryz.f3.params[j]?=some t→args[j]?=some v→Value.okWide Tryz.prog W .any a0 t v:=L;have T:=u;obtain ⟨p,q,Z,U,rfl,a7,a6⟩:=u;have y:DataW.TrodAll enc Tryz.prog W 0 (fun _=>true) true Tryz.f3.params.toList args.toList ds p:=Z;rw [Tryz.params3] at y c;obtain ⟨v0,a2,d0,b2,I,q0,a9,rfl,rfl,k,F⟩:=trodAll_cons y;obtain ⟨v1,a1,d1,b1,G,q1,rfl,rfl,rfl,i,D⟩:=trodAll_cons F;obtain ⟨rfl,rfl,rfl⟩:=trodAll_nil D;obtain rfl:args=#[v0,v1]:=by cases args; simp_all
  obtain ⟨rfl,rfl⟩:=trodVars_none U;have K:∀x∈I,x.block<W.heap.size:=by obtain ⟨m,f⟩:=k; exact DataW.trod_lt m _ _ _ f
  obtain ⟨A,b,a5⟩:=ov (oY IE) (nh IE) (c 0 3 v0 rfl rfl) k;obtain ⟨c0,S,b⟩:=b;have b:c0=_:=b; subst b; subst S;have J:∀x∈G,x.block<W.heap.size:=by obtain ⟨m,f⟩:=i; exact DataW.trod_lt m _ _ _ f
  obtain ⟨x1,a,r⟩:=ov (oY IK) (nh IK) (c 1 5 v1 rfl rfl) i;obtain ⟨c1,R,a⟩:=a;have a:c1=_:=a; subst a; subst R;have V:kN 0 (M.g6.map ao) (iS W):=mK (Go.Lib.laidMet.reads (l:=Rows.languageSamplesRow.laid) (n:= "emendate/lexspec.layoutTerms") (d:=Rows.laid_emendate_lexspec_layoutTerms) g (List.Mem.tail _ (List.Mem.tail _ (List.Mem.tail _ (List.Mem.tail _ (List.Mem.tail _ (List.Mem.tail _ (List.Mem.head _)))))))) (by kernel_rfl) (by kernel_rfl) Je IC (by kernel_rfl) (by kernel_rfl) (by kernel_rfl) (by kernel_rfl);refine Calls.mono (qB (uy V) A (z:=x1) (qO r).1 (qO r).2) fun e W' ⟨v,Q,N,o⟩=>?_
  subst Q;subst N;have s:laidOutB Tryz.prog=true:=by kernel_rfl
  exact ⟨_,rfl,_,_,_,[],_,[],T,trodAll_mk1 (shut_bool IZ _),(trodAll_cons_mk (Below.trod s (by kernel_rfl) (of_decide_eq_true (by kernel_rfl)) k o K) (trodAll_cons_mk (Below.trod s (by kernel_rfl) (of_decide_eq_true (by kernel_rfl)) i o J) trodAll_mk0)),rfl,o.frame _,fun h=>by cases h⟩
theorem rowHolds:Rows.LanguageSamplesSaid:=
 OpenClaim.holds_of_wide 3 Tryz.f3 rfl rfl rfl rfl rfl rfl rfl ⟨rfl,rfl,rfl,rfl,rfl⟩ rfl rfl rfl rfl rfl Gd Tryz.func3 (nt j1 j3 j4 j5 j6 j7 j8)
  Ax (by unfold Func.isWrapper; first|(rw [if_pos (by decide +kernel)]; kernel_rfl)|(rw [if_neg (by decide +kernel)]; exact ⟨rfl,rfl⟩))
  (fun os started H enc _=>lifted os started H enc)
theorem holds:Rows.LanguageSamplesCardSaid:=
  Claim7.holds_tied_plain_at .later [] [.data,.data,.data,.data,.sentinel,.sentinel,.widerDeep,.pinned] true Rows.languageSamplesCard.stood.harness true
    rowHolds (fun _ h=>by cases h) (by kernel_rfl) (fun _ h=>by cases h) languageSamples_row_tie rfl ⟨rfl,rfl⟩ Ad rfl
    (fun f fn c b=>by
      obtain rfl:f=3:=Option.some.inj (Gd.symm.trans c) |>.symm;obtain rfl:fn=Tryz.f3:=(Option.some.inj (Tryz.func3.symm.trans b)).symm;refine ⟨vZ,fun j t a=>?_⟩;rw [Tryz.params3] at a;have d:∀t∈[3,5],Tryz.prog.wantsStandIn t=false:=by
        intro t a;simp only [JI,List.not_mem_nil,or_false] at a;rcases a with rfl|rfl <;> kernel_rfl
      exact d t (List.mem_of_getElem? (by simpa using a)))
    AD
end Go.Proofs.YtbkjljkjhlcmoaaGreatDoor.LlanguageSamples
