/- Part 27. -/
import Derived.Lay
import Derived.MakeChecks
import Derived.LaidOnce
import Derived.SevenTiedAt
import Derived.Deep.DeepHandedRow
import Derived.Test.YtbkjljkjhlcmoaaGreatDoorCards
import Derived.Test.YtbkjljkjhlcmoaaGreatDoorTie
import Derived.Test.YtbkjljkjhlcmoaaGreatDoorKBoth25
import Derived.Test.YtbkjljkjhlcmoaaGreatDoorKBoth26
set_option linter.unusedVariables false
set_option linter.unusedSimpArgs false
namespace Go.Proofs.YtbkjljkjhlcmoaaGreatDoor.LlanguageNil
open Go.Lx Go.RowKit Go.ChangeShapes Go.WideShapes Go.ChangeAt
theorem own:ownKnob Tryz.prog.godebug=none:=by kernel_rfl
set_option maxRecDepth 100000 in
theorem lifted (os:Os) (z:os.Started) (H:Type) (enc:TypeId×Value→H) :
    ReturnsInHanded {} Tryz.checked os 4 .any (fun w args=>(Rows.languageNilSpec.pre enc Tryz.prog Tryz.f4 Rows.languageNilRow.domain false w args∧laidMetH Tryz.prog Rows.languageNilRow.laid w)∧sizedMet enc Tryz.prog Tryz.f4 (OpenSpec.ofChange Rows.languageNilSpec) false w args)
      (Rows.languageNilSpec.post enc Tryz.prog Tryz.f4 false true false false):=by
  refine returnsInHanded_of_change_and (C:=Tryz.checked) (X:=fun w _=>laidMetH Tryz.prog Rows.languageNilRow.laid w) (fun _ _ _ N h=>h.of_heap N) own z (by kernel_rfl) Tryz.func4
    (ChangeSpec.witness_shaped (enc:=enc) (C:=Tryz.checked) (os:=os) (X:=fun w _=>laidMetH Tryz.prog Rows.languageNilRow.laid w) false (World.laidAll Tryz.prog os Rows.languageNilRow.laid) #[.string ByteArray.empty,.slice none 0 0] 8 (World.laidAll_os _ _ _)
      (World.shaped_of_ZipB (by kernel_rfl) (by kernel_rfl)) (by kernel_rfl) (by kernel_rfl) (by kernel_rfl)
      (by rw [MakeChecks.laidMetH_plain _ _ _ (by kernel_rfl)]; exact laidMet_laidAll _ (by kernel_rfl) (by kernel_rfl))) ?_
  intro W Z args ds gs b6 J s a9 _ g _;replace g:laidMet Tryz.prog Rows.languageNilRow.laid W:=by rw [←MakeChecks.laidMetH_plain _ _ _ (by kernel_rfl)]; exact g
  have c:∀(j:Nat) t v,Tryz.f4.params[j]?=some t→args[j]?=some v→Value.okWide Tryz.prog W .any Z t v:=J;have S:=s;obtain ⟨p,q,V,T,rfl,a8,a7⟩:=s;have u:DataW.TrodAll enc Tryz.prog W 0 (fun _=>true) true Tryz.f4.params.toList args.toList ds p:=V;rw [Tryz.params4] at u c;obtain ⟨v0,a1,d0,b3,F,q0,b0,rfl,rfl,k,B⟩:=trodAll_cons u;obtain ⟨v1,a0,d1,b2,D,q1,rfl,rfl,rfl,i,A⟩:=trodAll_cons B;obtain ⟨rfl,rfl,rfl⟩:=trodAll_nil A;obtain rfl:args=#[v0,v1]:=by cases args; simp_all
  obtain ⟨rfl,rfl⟩:=trodVars_none T;have I:∀x∈F,x.block<W.heap.size:=by obtain ⟨m,f⟩:=k; exact DataW.trod_lt m _ _ _ f
  obtain ⟨y,b,a6⟩:=ov (vr IC) (yr IC) (c 0 9 v0 rfl rfl) k;obtain ⟨c0,R,b⟩:=b;have b:c0=_:=b; subst b; subst R;have G:∀x∈D,x.block<W.heap.size:=by obtain ⟨m,f⟩:=i; exact DataW.trod_lt m _ _ _ f
  obtain ⟨x1,a,a5⟩:=ov (rY IB) (tU IB (by kernel_rfl) (by decide) (nh IE)) (c 1 35 v1 rfl rfl) i;obtain ⟨c1,Q,a⟩:=a;obtain ⟨s1,rfl,a⟩:=a; subst Q;have U:kN 0 (M.g6.map ao) (iS W):=mK (Go.Lib.laidMet.reads (l:=Rows.languageNilRow.laid) (n:= "emendate/lexspec.layoutTerms") (d:=Rows.laid_emendate_lexspec_layoutTerms) g (List.Mem.tail _ (List.Mem.tail _ (List.Mem.tail _ (List.Mem.tail _ (List.Mem.tail _ (List.Mem.tail _ (List.Mem.head _)))))))) (by kernel_rfl) (by kernel_rfl) Je IC (by kernel_rfl) (by kernel_rfl) (by kernel_rfl) (by kernel_rfl);have L:=yx IB (c 1 35 _ rfl rfl) a.shape;refine Calls.mono (EU (sD U) y L) fun e W' ⟨v,P,K,o⟩=>?_
  subst P;subst K;have r:laidOutB Tryz.prog=true:=by kernel_rfl
  exact ⟨_,rfl,_,_,_,[],_,[],S,trodAll_mk1 (shut_bool IZ _),(trodAll_cons_mk (Below.trod r (by kernel_rfl) (of_decide_eq_true (by kernel_rfl)) k o I) (trodAll_cons_mk (Below.trod r (by kernel_rfl) (of_decide_eq_true (by kernel_rfl)) i o G) trodAll_mk0)),rfl,o.frame _,fun h=>by cases h⟩
theorem rowHolds:Rows.LanguageNilSaid:=
 OpenClaim.holds_of_wide 4 Tryz.f4 rfl rfl rfl rfl rfl rfl rfl ⟨rfl,rfl,rfl,rfl,rfl⟩ rfl rfl rfl rfl rfl Gd Tryz.func4 (nt j1 j3 j4 j5 j6 j7 j8)
  Ax (by unfold Func.isWrapper; first|(rw [if_pos (by decide +kernel)]; kernel_rfl)|(rw [if_neg (by decide +kernel)]; exact ⟨rfl,rfl⟩))
  (fun os started H enc _=>lifted os started H enc)
theorem holds:Rows.LanguageNilCardSaid:=
  Claim7.holds_tied_plain_at .later [] [.data,.data,.data,.data,.sentinel,.sentinel,.widerDeep,.pinned] true Rows.languageNilCard.stood.harness true
    rowHolds (fun _ h=>by cases h) (by kernel_rfl) (fun _ h=>by cases h) languageNil_row_tie rfl ⟨rfl,rfl⟩ Ad rfl
    (fun f fn c b=>by
      obtain rfl:f=4:=Option.some.inj (Gd.symm.trans c) |>.symm;obtain rfl:fn=Tryz.f4:=(Option.some.inj (Tryz.func4.symm.trans b)).symm;refine ⟨vZ,fun j t a=>?_⟩;rw [Tryz.params4] at a;have d:∀t∈[9,35],Tryz.prog.wantsStandIn t=false:=by
        intro t a;simp only [JI,List.not_mem_nil,or_false] at a;rcases a with rfl|rfl <;> kernel_rfl
      exact d t (List.mem_of_getElem? (by simpa using a)))
    AD
end Go.Proofs.YtbkjljkjhlcmoaaGreatDoor.LlanguageNil
