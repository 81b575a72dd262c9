/- Part 20. -/
import Derived.Test.YtbkjljkjhlcmoaaGreatDoorKBoth19
set_option linter.unusedVariables false
set_option linter.unusedSimpArgs false
namespace Go.Proofs.YtbkjljkjhlcmoaaGreatDoor
open Go.Lx Go.RowKit
noncomputable def gY:Code:=Tryz.f3.body.getD .skip
theorem Bv:Tryz.f3.body=some gY:=by kernel_rfl
noncomputable def vG:List Oper:=match ((dh gY)[1]?:Option Code) with
 | some (.region _ ops _)=>ops.toList
 | _=>[]
def Il:Oper:=⟨some 13,.move (.tmp 0),3, "law.go:183",#[],none⟩
def op1:Oper:=⟨some 14,.call { callee:=.value (.func 6),args:=#[.tmp 13],argTypes:=#[3] },30, "law.go:183",#[{ on:=0,ground:=.data }],none⟩
def c0:Code:=.region 0 [(⟨some 4,.assign (.const (.bool false)),4, "law.go:182",#[],none⟩:Oper)].toArray false
theorem xi:vG=Il::op1::vG.drop 2:=by kernel_rfl
theorem Gg:dh gY=c0::.region 1 vG.toArray false::(dh gY).drop 2:=by kernel_rfl
theorem Gi:(dh gY).drop 2=((dh gY).drop 2).take 6++(dh gY).drop 8:=by
 rw [show (dh gY).drop 8=((dh gY).drop 2).drop 6 by rw [List.drop_drop],List.take_append_drop]
noncomputable def Gb (g:fQ) (R:FrT→HpT→(List AV→OR)→OR) (s:FrT) (t:HpT) (n:Nat) (ds:DSs) (x:Nat):Bool:=jh (g eY (s.set bV 8 (.int .i64 (.ofNat x))) t n ds (mP Tryz.prog eK R eY) DR (mP Tryz.prog eK R eY))
noncomputable def Ii (k z:Int) (V:AV):FrT:=(((jr [.int .i64 k,.int .u8 z] 0 .nil).set bV 4 (.bool false)).set bV 13 (.int .i64 k)).set bV 14 V
noncomputable def rS (r L:Nat) (k z:Int):OR:=
 CW.casesOn (tT Tryz.prog true Tryz.f3.ntmps vG (vG.drop 2)) fun b=>CW.casesOn (eX Tryz.prog true Tryz.f3.ntmps eK (((dh gY).drop 2).take 6)) fun a=>CW.casesOn (eX Tryz.prog true Tryz.f3.ntmps eK ((dh gY).drop 8)) fun g=>Option.casesOn (il Tryz.prog Tryz.f3.results.toList) .bad fun R=>CW.casesOn R fun R=>
  b eY (Ii k z (vR (dM r k))) (tR (dM r k)) (nR (dM r k)) [] (fun s t n ds=>a eY s t n ds (fun s t n ds=>bif Fl L (Gb g R s t n ds) then .val (s.at bV 8) else .bad) DR kB)
noncomputable def zT (L:Nat) (z:Int):Int:=(nM .i64 z).tmod (.ofNat L)
theorem Er {w:World} (u:th w) {k z:Int} {r L:Nat} (hr:r<6) (U:zK k=.ofNat r) (c:rS r L k z=.val (.int .i64 (zT L z))) {x:Nat} (hx:x<L) (T:zT L z=.ofNat x):aT Tryz.prog 3 #[.int .i64 k,.int .u8 z] w fun v w'=>v=.bool true∧Below w.heap.size w w':=by
 unfold rS at c;cases s:tT Tryz.prog true Tryz.f3.ntmps vG (vG.drop 2) with
 | mk f1=>cases p:eX Tryz.prog true Tryz.f3.ntmps eK (((dh gY).drop 2).take 6) with
  | mk f2=>cases o:eX Tryz.prog true Tryz.f3.ntmps eK ((dh gY).drop 8) with
   | mk g=>cases n:il Tryz.prog Tryz.f3.results.toList with
    | none=>rw [s,p,o,n] at c; cases c
    | some R=>cases R with
     | mk R=>
      rw [s,p,o,n] at c;dsimp only at c;have A:=qa mixed;have y:=mu (P:=Tryz.prog);have j:OR.val (.int .i64 (zT L z))≠.bad:=fun h=>by cases h
      refine fV (args:=[.int .i64 k,.int .u8 z]) Tryz.func3 Bv Y (by kernel_rfl) ?_;refine rM ?_;rw [Gg];have Z:kH (Frm.all w) ws (jr [.int .i64 k,.int .u8 z] 0 .nil) CO gN [] (fx [.int .i64 k,.int .u8 z]) w:=⟨oz u,mL pP rfl,trivial⟩;refine ak (l:=[⟨some 4,.assign (.const (.bool false)),4, "law.go:182",#[],none⟩]) ?_;refine gK (v:=.bool false) (w':=w) (iv Y) (by kernel_rfl) Y ?_;refine aa ?_;have X:=Z.set 4 (a:=.bool false) rfl;show WP _ _ _ _ _ _;refine ak ?_;rw [xi];refine gK (dR (v:=.int .i64 k) Y) (by kernel_rfl) Y ?_;have W:=X.set 13 (a:=.int .i64 k) rfl;refine C (d:=14) [.int .i64 k] (lR (by kernel_rfl)) Y (yn u hr U) (by kernel_rfl) ?_;rintro v H ⟨G,a,t1,n1,e1,e2,e3,e4⟩
      injection e1 with Q N K
      subst Q N K;have V:=(W.grow e2 e3).set 14 e4;rw [←xi];refine sb s ⟨Tryz.f3.ntmps,none⟩ _ eY (Frm.all w) G _ _ _ _ _ _ _ H Y (fun _=>Y) gl V c j ?_;rintro B t ⟨F,J,I,S,b5,a1,a2,a3⟩;show vg _ _ _ _ ((dh gY).drop 2) B t;rw [Gi,rL];refine mT A y (m:=Tryz.f3.ntmps) (df:=true) Y (fun _=>Y) gl j _ f2 p F J I S b5 B t a2 a3 ?_ (fun E' w' q=>(we q j).elim);rintro E3 w3 ⟨D,s3,t3,n3,c9,b1,b2,f⟩;obtain ⟨a6,f⟩:=sW f j
      injection f with f
      rw [T] at f;obtain ⟨t4,n4,he⟩:=lF (yb a6 x hx);have a4:=rT A y gl n (fun h=>by cases h) o (b2.same (tI f)) he;have conv:∀(ds:List Deferred) (i:Env) (b:World),LW Tryz.prog Tryz.f3 ⟨Tryz.f3.ntmps,none⟩ i (nH (Frm.all w) D (.mem (.bool true) t4 n4)) ds b→LW Tryz.prog Tryz.f3 ⟨Tryz.f3.ntmps,none⟩ i (fun v w'=>v=.bool true∧Below w.heap.size w w') ds b:=fun ds i b h=>mE (fun v w' ⟨ρ5,a,t5,n5,d1,d2,d3,d4⟩=>by
       cases d1
       exact ⟨(Option.some.inj d4).symm,lE d3.below⟩) ds b h
      refine lY (fun e i b q=>?_) (fun i b q=>conv _ _ _ q) _ _ _ a4;cases e with
      | normal=>exact conv _ _ _ q
      | ret=>exact conv _ _ _ q
      | _=>exact q.elim
end Go.Proofs.YtbkjljkjhlcmoaaGreatDoor
