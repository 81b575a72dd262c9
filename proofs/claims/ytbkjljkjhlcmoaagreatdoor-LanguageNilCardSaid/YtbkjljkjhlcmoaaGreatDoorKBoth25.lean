/- Part 25. -/
import Derived.Test.YtbkjljkjhlcmoaaGreatDoorKBoth19
set_option linter.unusedVariables false
set_option linter.unusedSimpArgs false
namespace Go.Proofs.YtbkjljkjhlcmoaaGreatDoor
open Go.Lx Go.RowKit
theorem sD {w:World} (h:kN 0 (M.g6.map ao) (iS w)):th w:=by
 obtain ⟨arr,T,fz,h1,h2⟩:=h;refine ⟨arr,T,fz,h1,fun i a ha=>?_⟩;obtain ⟨v,q1,q2⟩:=np i a ha;exact ⟨v,h2 i v q2,q1⟩
theorem yx {P:Program} {w:World} {g:Nat} {t e:TypeId} {v:Value} {n:Nat} (c:P.underlying t=some (.slice e)) (h:Value.okWide P w .any g t v) (d:∃a cap,v=.slice a n cap):v=.slice none 0 0∧n=0∨∃b off cap,v=.slice (some ⟨b,off,none⟩) n cap:=by
 obtain ⟨a,cap,rfl⟩:=d;simp only [Value.okWide,c,Cell.okWide,Cell.ok] at h;cases a with
 | none=>
  left;cases n with
  | zero=>cases cap with
   | zero=>exact ⟨rfl,rfl⟩
   | succ=>exact h.elim
  | succ=>cases cap <;> exact h.elim
 | some a=>
  obtain ⟨b,off,s⟩:=a;have f:s=none:=h.2.2.2.1;subst f;exact .inr ⟨b,off,cap,rfl⟩
noncomputable def qj:Code:=Tryz.f4.body.getD .skip
theorem Bu:Tryz.f4.body=some qj:=by kernel_rfl
noncomputable def EP:List Oper:=match ((dh qj)[1]?:Option Code) with
 | some (.region _ ops _)=>ops.toList
 | _=>[]
noncomputable def yc (i:Nat):Array Edge:=((EP[i]?:Option Oper).map (·.after)).getD #[]
def o3 (af:Array Edge):Oper:=⟨some 15,.move (.tmp 14),4, "law.go:171",af,none⟩
theorem Cj:EP=[⟨some 12,.move (.tmp 0),9, "law.go:171",yc 0,none⟩,⟨some 13,.call { callee:=.builtin .len,args:=#[.tmp 12],argTypes:=#[9] },3, "law.go:171",yc 1,none⟩,⟨some 14,.binOp .gtr 3 (.tmp 13) (.const (.int .i64 50)) 3,4, "law.go:171",yc 2,none⟩,o3 (yc 3),
 ⟨some 16,.move (.tmp 1),35, "law.go:171",yc 4,some (3,false)⟩,⟨some 17,.call { callee:=.builtin .len,args:=#[.tmp 16],argTypes:=#[35] },3, "law.go:171",yc 5,some (3,false)⟩,⟨some 18,.binOp .gtr 3 (.tmp 17) (.const (.int .i64 50)) 3,4, "law.go:171",yc 6,some (3,false)⟩,⟨some 19,.pick (.tmp 15) (.const (.bool true)) (.tmp 18),4, "law.go:171",yc 7,none⟩]:=by kernel_rfl
def Iz:Code:=.region 0 [(⟨some 4,.assign (.const (.bool false)),4, "law.go:170",#[],none⟩:Oper)].toArray false
theorem Gf:dh qj=Iz::.region 1 EP.toArray false::(dh qj).drop 2:=by kernel_rfl
theorem Dr {F:Frm} {ρ:List Lx.Place} {h:List AB} {w:World} (hr:HR F ρ h w) (q:Lx.Place):HR F (ρ++[q]) (h++[.dead]) w:=by
 refine ⟨hr.below,by simp [hr.len],fun b p y a hy=>?_,fun b p y a hy f=>?_,fun b c p r y z k a j hy i f g=>?_,fun b p y a hy g=>?_⟩
 ·rcases cZ hr.len a hy with ⟨_,e,d⟩|⟨_,_,rfl⟩
  ·exact (hr.at_ b p y e d).grow (bj.app _ _)
  ·trivial
 ·rcases cZ hr.len a hy with ⟨_,e,d⟩|⟨_,_,rfl⟩
  ·exact hr.fresh b p y e d f
  ·cases f
 ·rcases cZ hr.len a hy with ⟨_,e,d⟩|⟨_,_,rfl⟩
  ·rcases cZ hr.len j i with ⟨_,m,l⟩|⟨_,_,rfl⟩
   ·exact hr.apart b c p r y z k e m d l f g
   ·cases g
  ·cases f
 ·rcases cZ hr.len a hy with ⟨_,e,d⟩|⟨_,_,rfl⟩
  ·exact hr.off b p y e d g
  ·cases g
noncomputable def tN:HpT:=CO.put gN .dead
noncomputable def sN (S l a13 a14 a15 a16 a17 a18 a19:AV):FrT:=(((((((((jr [S,l] 0 .nil).set bV 4 (.bool false)).set bV 12 S).set bV 13 a13).set bV 14 a14).set bV 15 a15).set bV 16 a16).set bV 17 a17).set bV 18 a18).set bV 19 a19
noncomputable def Cp (S:Str) (l a13 a14 a15 a16 a17 a18:AV) (b:Bool):OR:=
 CW.casesOn (eX Tryz.prog true Tryz.f4.ntmps eK ((dh qj).drop 2)) fun g=>Option.casesOn (il Tryz.prog Tryz.f4.results.toList) .bad fun R=>CW.casesOn R fun R=>
  g eY (sN (.str S) l a13 a14 a15 a16 a17 a18 (.bool b)) tN 10 [] (mP Tryz.prog eK R eY) DR (mP Tryz.prog eK R eY)
theorem HM (S:Str) (l a13 a14 a15 a16 a17 a18:AV):jh (Cp S l a13 a14 a15 a16 a17 a18 true)=true:=by kernel_rfl
theorem HN (S:Str) (l a13 a14 a15 a16 a17 a18:AV):jh (Cp S l a13 a14 a15 a16 a17 a18 false)=true:=by kernel_rfl
theorem EU {w:World} (U:th w) (S:Str) {v:Value} {len:Nat} (B:v=.slice none 0 0∧len=0∨∃b off cap,v=.slice (some ⟨b,off,none⟩) len cap):aT Tryz.prog 4 #[ao S,v] w fun v w'=>v=.bool true∧Below w.heap.size w w':=by
 have hD:=qa mixed;have X:=mu (P:=Tryz.prog);obtain ⟨l,q,hlv⟩:∃(l:AV) (q:Lx.Place),aD (ws++[q]) l=some v:=by
  rcases B with ⟨rfl,_⟩|⟨b,off,cap,rfl⟩
  ·exact ⟨.sl0,⟨0,0,0⟩,Y⟩
  ·refine ⟨.sl 9 0 len 1,⟨b,off,cap⟩,?_⟩;simp only [aD];rw [show (ws++[(⟨b,off,cap⟩:Lx.Place)])[9]?=some ⟨b,off,cap⟩ from rfl];simp
 have s:∃a cap,v=.slice a len cap:=by
  rcases B with ⟨rfl,rfl⟩|⟨b,off,cap,rfl⟩
  ·exact ⟨none,0,Y⟩
  ·exact ⟨_,_,Y⟩
 obtain ⟨la,lc,s⟩:=s;have T:HR (Frm.all w) (ws++[q]) (co tN 10) w:=by
  have:=Dr (oz U) q;rw [←show XB.dead.ab=AB.dead from rfl,←dq] at this;exact this
 have Z:GI (ws++[q]):=pP.mono (bj.app _ _)
 -- what is behind the test
 have D:∀(o n m k j i:AV) (b:Bool) (E:Env),kH (Frm.all w) (ws++[q]) (sN (.str S) l o n m k j i (.bool b)) tN 10 [] E w→
  vg Tryz.prog ⟨Tryz.f4.ntmps,none⟩ (FW Tryz.prog Tryz.f4 ⟨Tryz.f4.ntmps,none⟩ fun v w'=>v=.bool true∧Below w.heap.size w w') (FW Tryz.prog Tryz.f4 ⟨Tryz.f4.ntmps,none⟩ (fun v w'=>v=.bool true∧Below w.heap.size w w') .normal) ((dh qj).drop 2) E w:=by
  intro o n m k j i b E Q;have V:jh (Cp S l o n m k j i b)=true:=by
   cases b with
   | true=>exact HM S l o n m k j i
   | false=>exact HN S l o n m k j i
  obtain ⟨F,H,f⟩:=lF V;unfold Cp at f;cases A:eX Tryz.prog true Tryz.f4.ntmps eK ((dh qj).drop 2) with
  | mk g=>cases z:il Tryz.prog Tryz.f4.results.toList with
   | none=>rw [A,z] at f; cases f
   | some R=>cases R with
    | mk R=>
     rw [A,z] at f;dsimp only at f;have W:=rT hD X gl z (fun h=>by cases h) A Q f;have conv:∀(ds:List Deferred) (p:Env) (c:World),LW Tryz.prog Tryz.f4 ⟨Tryz.f4.ntmps,none⟩ p (nH (Frm.all w) (ws++[q]) (.mem (.bool true) F H)) ds c→LW Tryz.prog Tryz.f4 ⟨Tryz.f4.ntmps,none⟩ p (fun v w'=>v=.bool true∧Below w.heap.size w w') ds c:=fun ds p c h=>mE (fun v w' ⟨ρ5,a,t5,n5,d1,d2,d3,d4⟩=>by
      injection d1 with G q2 q3
      subst G;exact ⟨(Option.some.inj d4).symm,lE d3.below⟩) ds c h
     refine lY (fun e p c q=>?_) (fun p c q=>conv _ _ _ q) _ _ _ W;cases e with
     | normal=>exact conv _ _ _ q
     | ret=>exact conv _ _ _ q
     | _=>exact q.elim
 refine fV (args:=[ao S,v]) Tryz.func4 Bu Y (by kernel_rfl) ?_;refine rM ?_;rw [Gf];have N:kH (Frm.all w) (ws++[q]) (jr [.str S,l] 0 .nil) tN 10 [] (fx [ao S,v]) w:=⟨T,mL Z (by simp only [concL,aD,hlv] <;> rfl),trivial⟩;refine ak (l:=[⟨some 4,.assign (.const (.bool false)),4, "law.go:170",#[],none⟩]) ?_;refine gK (v:=.bool false) (w':=w) (iv Y) (by kernel_rfl) Y ?_;refine aa ?_;have L:=N.set 4 (a:=.bool false) rfl;show WP _ _ _ _ _ _;refine ak ?_;rw [Cj];refine gK (v:=ao S) (w':=w) (dR Y) (by kernel_rfl) Y ?_;have K:=L.set 12 (a:=.str S) rfl;refine gK (v:=.int .i64 S.length) (w':=w) (dl IC Y) (by kernel_rfl) Y ?_;have J:=K.set 13 (a:=.int .i64 S.length) rfl;refine gK (v:=.bool (decide ((50:Int)<S.length))) (w':=w) (fO Y Y) (by kernel_rfl) Y ?_;have I:=J.set 14 (a:=.bool (decide ((50:Int)<S.length))) rfl;refine gK (v:=.bool (decide ((50:Int)<S.length))) (w':=w) (dR Y) (by kernel_rfl) Y ?_;have r:=I.set 15 (a:=.bool (decide ((50:Int)<S.length))) rfl
 by_cases hb:(50:Int)<S.length
 ·rw [decide_eq_true hb] at r ⊢;refine na (d:=15) (b:=true) (oj:=o3 (yc 3)) Y Y Y Y Y (by kernel_rfl) ?_;have y:=r.set 16 (a:=bV) (v:=undef) rfl;refine na (d:=15) (b:=true) (oj:=o3 (yc 3)) Y Y Y Y Y (by kernel_rfl) ?_;have x:=y.set 17 (a:=bV) (v:=undef) rfl;refine na (d:=15) (b:=true) (oj:=o3 (yc 3)) Y Y Y Y Y (by kernel_rfl) ?_;have u:=x.set 18 (a:=bV) (v:=undef) rfl;refine gK (v:=.bool true) (w':=w) (sf (b:=true) Y Y) (by kernel_rfl) Y ?_;have t:=u.set 19 (a:=.bool true) rfl;refine aa ?_;exact D _ _ _ _ _ _ true _ t
 ·rw [decide_eq_false hb] at r ⊢;refine oK (d:=15) (b:=false) (oj:=o3 (yc 3)) (v:=v) (w':=w) Y Y Y Y Y (dR Y) (by kernel_rfl) ?_;have y:=r.set 16 hlv;refine oK (d:=15) (b:=false) (oj:=o3 (yc 3)) (v:=.int .i64 len) (w':=w) Y Y Y Y Y (aN IB Y s) (by kernel_rfl) ?_;have x:=y.set 17 (a:=.int .i64 len) rfl;refine oK (d:=15) (b:=false) (oj:=o3 (yc 3)) (v:=.bool (decide ((50:Int)<len))) (w':=w) Y Y Y Y Y (fO Y Y) (by kernel_rfl) ?_;have u:=x.set 18 (a:=.bool (decide ((50:Int)<len))) rfl;refine gK (v:=.bool (decide ((50:Int)<len))) (w':=w) (sf (b:=false) Y Y) (by kernel_rfl) Y ?_;have t:=u.set 19 (a:=.bool (decide ((50:Int)<len))) rfl;refine aa ?_;exact D _ _ _ _ _ _ _ _ t
end Go.Proofs.YtbkjljkjhlcmoaaGreatDoor
