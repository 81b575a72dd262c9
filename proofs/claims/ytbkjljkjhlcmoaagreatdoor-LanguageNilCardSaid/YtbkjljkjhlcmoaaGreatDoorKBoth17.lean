/- Part 17. -/
import Derived.Lib.Bytealg
import Derived.Test.YtbkjljkjhlcmoaaGreatDoorKBoth5
import Derived.Test.YtbkjljkjhlcmoaaGreatDoorKBoth11
import Derived.Test.YtbkjljkjhlcmoaaGreatDoorKBoth16
set_option linter.unusedVariables false
set_option linter.unusedSimpArgs false
namespace Go.Lx
open Go.RowKit
section
variable {P:Program} {df:Bool} {m:Nat} {l:List Oper} {call:CallY} {ds:DSs} {k:KZ} {r:OR}
theorem pK:∀ {l:List Oper} (i:Nat) (o:Oper),l[i]?=some o→(∀c,o.op≠.defer c)→(jQ P l)[i]?=some (sk P o.op)
 | [],i,o,h,_=>by simp at h
 | x::l,i,o,h,hd=>by
  have e:jQ P (x::l)=(match x.op with
   | .defer _=>none
   | op=>sk P op)::jQ P l:=rfl
  rw [e];cases i with
  | zero=>
   simp at h;subst h;refine congrArg some ?_;split
   ·rename_i c hc; exact absurd hc (hd c)
   ·rfl
  | succ i=>simpa using pK i o (by simpa using h) hd
theorem xD:∀ {l:List Oper} {a:List (Option KO)} (i:Nat) (o:Oper) (b:Option KO),l[i]?=some o→a[i]?=some b→(xE l a)[i]?=some (iM o b)
 | [],a,i,o,b,h,_=>by simp at h
 | x::l,[],i,o,b,h,c=>by simp at c
 | x::l,y::a,i,o,b,h,c=>by
  have e:xE (x::l) (y::a)=iM x y::xE l a:=rfl;rw [e];cases i with
  | zero=>simp at h c; subst h; subst c; rfl
  | succ i=>simpa using xD i o b (by simpa using h) (by simpa using c)
theorem xI {c:List Oper}:∀ {l:List Oper} {a:List (Option KO)} (i:Nat) (o:Oper) (b:Option KO),l[i]?=some o→a[i]?=some b→(Fc c l a)[i]?=some (Fb c o b)
 | [],a,i,o,b,h,_=>by simp at h
 | x::l,[],i,o,b,h,d=>by simp at d
 | x::l,y::a,i,o,b,h,d=>by
  have e:Fc c (x::l) (y::a)=Fb c x y::Fc c l a:=rfl;rw [e];cases i with
  | zero=>simp at h d; subst h; subst d; rfl
  | succ i=>simpa using xI i o b (by simpa using h) (by simpa using d)
theorem mG:∀(l:List Oper),(jQ P l).length=l.length
 | []=>rfl
 | x::l=>by
  have e:jQ P (x::l)=(match x.op with
   | .defer _=>none
   | op=>sk P op)::jQ P l:=rfl
  rw [e,List.length_cons,mG l,List.length_cons]
theorem oA:∀(l:List Oper) (kos:List (Option KO)),kos.length=l.length→(xE l kos).length=l.length
 | [],_,_=>rfl
 | x::l,[],h=>by simp at h
 | x::l,y::kos,h=>by
  have e:xE (x::l) (y::kos)=iM x y::xE l kos:=rfl;rw [e,List.length_cons,oA l kos (by simpa using h),List.length_cons]
theorem CE (o:Oper) (ko:Option KO):iM o ko=0∨iM o ko=1∨iM o ko=2:=by
 unfold iM;split
 ·cases h:(_ && o.dst.isNone) <;> simp
 ·split <;> simp
 ·simp
theorem DQ {o:Oper} {ko:KO} (h:iM o (some ko)=0):∃rd g,ko=.v rd g∧(rd=true→∃d,o.dst=some d):=by
 unfold iM at h;split at h
 ·rename_i rd g e;cases e
  refine ⟨rd,g,rfl,fun hrd=>?_⟩;subst hrd;cases hd:o.dst with
  | none=>rw [hd] at h; simp at h
  | some d=>exact ⟨d,rfl⟩
 ·split at h <;> cases h
 ·cases h
theorem kind1 {o:Oper} {ko:KO} (h:iM o (some ko)=1):∃g,ko=.a g∧o.guard=none:=by
 unfold iM at h;split at h
 ·cases hh:(_ && o.dst.isNone) <;> rw [hh] at h <;> cases h
 ·rename_i g e;cases e
  refine ⟨g,rfl,?_⟩;cases hg:o.guard with
  | none=>rfl
  | some x=>rw [hg] at h; simp at h
 ·cases h
theorem wn {o:Oper} {gd:Option (CW (FrT→AV)×Bool)} (hg:o.guard=none) (h:fL l o.guard=some gd):gd=none:=by
 rw [hg] at h;cases h
 rfl
theorem vQ {g:FrT→HpT→Nat→OR} {s s':FrT} {A A':Nat→AV} {φ b:Place→Value} {x x':XB} (h:ql g s A φ x) (a:ql g s' A' b x') (c:∀t n,g s t n=g s' t n):ql g s A' b x':=by
 have f:A=A':=funext fun n=>by
  have:=(h.run .nil n).symm.trans ((c .nil n).trans (a.run .nil n))
  injection this with j d i
 have e:x=x':=by
  have:=(h.run .nil 0).symm.trans ((c .nil 0).trans (a.run .nil 0))
  injection this with j d i
  have l:HpT.get (HpT.put .nil 0 x) 0=x:=by rw [mJ,if_pos rfl]
  have k:HpT.get (HpT.put .nil 0 x') 0=x':=by rw [mJ,if_pos rfl]
  rw [←l,←k,d]
 subst f e;exact ⟨h.run,h.own,a.name,h.back⟩
theorem FC {ix:TR Nat} {anc:List Nat} {gs:List (Option yg)} {ks:List Nat} (c9:ks=xE l (jQ P l)) (k7:anc=qk l []) (j9:gs=Fc l l (jQ P l)) (i8:uM l 0 .nil=some ix)
 (X:kC l 0=true) (Q:pr ks (iE ks 0) ks anc 0=true) (h3:ue ix anc (iE ks 0) l l anc 0=true) (h4:pz l=true)
 {S:Nat→FrT} {T:Nat→HpT} {M:Nat→Nat} {V:Nat→AV} (g7:∀(i:Nat) (o:Oper),l[i]?=some o→∃f put ko gd,yd P df m l call ks anc gs S T M V i o f put ko gd) :
 ∃R:RT,R.Ok P df m l.toArray call∧R.S=S∧R.T=T∧R.M=M:=by
 have i1:=py h4;have b2:∀ {i:Nat} {o:Oper},l[i]?=some o→∀c,o.op≠.defer c:=fun h=>i1 _ (List.mem_of_getElem? h)
 have B:∀ {i:Nat} {o:Oper},l.toArray[i]?=some o→l[i]?=some o:=fun h=>by simpa using h
 have lt:∀ {i:Nat} {o:Oper},l[i]?=some o→i<l.length:=fun h=>(Jo.1 h).1
 -- the data by number
 have k4:∀i:Nat,∃z:ot×(FrT→AV→FrT)×KO×Option (CW (FrT→AV)×Bool),∀o,l[i]?=some o→yd P df m l call ks anc gs S T M V i o z.1 z.2.1 z.2.2.1 z.2.2.2:=fun i=>by
  by_cases D:i<l.length
  ·have p:l[i]?=some (l[i]'D):=Jn D;obtain ⟨f,put,ko,gd,h⟩:=g7 i _ p;exact ⟨(f,put,ko,gd),fun o G=>by rw [p] at G; cases G; exact h⟩
  ·exact ⟨(fun _ _ _ _ _ _=>.bad,fun s _=>s,.v false fun _ _=>.bad,none),fun o p=>absurd (lt p) D⟩
 obtain ⟨z,J⟩:=Classical.axiomOfChoice k4;have b4:∀ {i:Nat} {o:Oper},l[i]?=some o→ks.getD i 0=iM o (some (z i).2.2.1):=fun {i o} p=>by
  have u:=pK (P:=P) i o p (b2 p);rw [(J i o p).op] at u;have:=xD i o _ p u;rw [Jl,c9,this];rfl
 have j0:∀ {i:Nat} {o:Oper},l[i]?=some o→gs[i]?=some (Fb l o (some (z i).2.2.1)):=fun {i o} p=>by
  have u:=pK (P:=P) i o p (b2 p);rw [(J i o p).op] at u;rw [j9];exact xI i o _ p u
 have b7:∀(i x:Nat),cm (anc.getD i 0) x=true→DA l.toArray i x:=fun i x I=>by
  have hl:(l.toArray.toList.drop ([]:List Nat).length)=l:=by simp
  obtain ⟨k1,k2⟩:=ya (ops:=l.toArray) (by simpa using X) l [] hl (fun i x D=>by simp at D);rw [←k7] at k1 k2
  by_cases D:i<l.length
  ·exact k2 i x (by simpa using D) I
  ·rw [Jl,JH (by simp at k1; omega)] at I;have I:cm 0 x=true:=I;rw [kE] at I;cases I
 -- new blocks
 have i0:∀i:Nat,∃y:(Nat→AV)×(Place→Value)×XB,∀o,l[i]?=some o→ks.getD i 0=1→∀s,yh l.toArray o s (S i)→ql (dD (z i).2.2.2 (z i).2.2.1 call) s y.1 y.2.1 y.2.2:=fun i=>by
  by_cases D:∃o,l[i]?=some o∧ks.getD i 0=1
  ·obtain ⟨o,p,f2⟩:=D;have r:=J i o p;rw [b4 p] at f2;obtain ⟨g,H,j2⟩:=kind1 f2;have f3:=wn j2 r.guard;have a2:=r.op;rw [H] at a2;have a8:=r.core;rw [H,f3] at a8;have f7:∀s,yh l.toArray o s (S i)→∃A φ x,ql g s A φ x:=fun s K=>by
    have F:∀t n,g s t n=g (S i) t n:=ox a2 (lm K);rcases a8 with h|⟨h,_⟩
    ·simp only [dD,dr] at h;cases hx:g (S i) (T i) (M i) with
     | mem v t n=>exact Ck a2 ((F _ _).trans hx)
     | bad=>rw [hx] at h; cases h
     | val v=>rw [hx] at h; cases h
    ·simp only [dD,dr] at h;cases hx:g (S i) (T i) (M i) <;> rw [hx] at h <;> cases h
   obtain ⟨A,φ,x,h0⟩:=f7 (S i) (fun _ _=>rfl);refine ⟨(A,φ,x),fun o' G _ s K=>?_⟩;rw [p] at G;cases G
   obtain ⟨A',φ',x',X⟩:=f7 s K;have Q:=vQ X h0 (ox a2 (lm K));rw [H,f3];exact ⟨fun t n=>by simp only [dD,dr,Q.run],Q.own,Q.name,Q.back⟩
  ·exact ⟨(fun _=>bV,fun _=>undef,.dead),fun o p u=>absurd ⟨o,p,u⟩ D⟩
 obtain ⟨y,hy⟩:=Classical.axiomOfChoice i0
 let R:RT:=⟨S,T,M,V,fun i=>ks.getD i 0,fun i j=>cm (anc.getD i 0) j=true,fun i=>(z i).2.1,fun i=>(z i).1,fun i=>dD (z i).2.2.2 (z i).2.2.1 call,fun i=>(y i).1,fun i=>(y i).2.1,fun i=>(y i).2.2⟩
 have h7:∀ {i:Nat},¬ i<l.length→ks.getD i 0=0:=fun {i} D=>by
  rw [Jl,JH (by rw [c9,oA _ _ (mG l)]; omega)];rfl
 have f1:∀i,ks.getD i 0=0∨ks.getD i 0=1∨ks.getD i 0=2:=fun i=>by
  by_cases D:i<l.length
  ·rw [b4 (Jn D)]; exact CE _ _
  ·exact .inl (h7 D)
 have c6:∀ {j:Nat},ks.getD j 0≠0→cm (iE ks 0) j=true:=fun {j} w=>(uo ks 0 j).2 ⟨ks.getD j 0,Nat.zero_le _,by
  rw [Jl] at w ⊢;rw [Nat.sub_zero];cases hx:ks[j]? with
  | none=>rw [hx] at w; exact absurd rfl w
  | some x=>rfl,w⟩
 have c8:∀ {i:Nat} {o:Oper},l[i]?=some o→ks[i]?=some (ks.getD i 0):=fun {i o} p=>by
  have D:i<ks.length:=by rw [c9,oA _ _ (mG l)]; exact lt p
  rw [Jl,Jn D];rfl
 have d4:=(pZ i8).2;have N:R.Pre P df m l.toArray call:=by
  refine ⟨fun i o p=>?_,fun i o p=>(J i o (B p)).dst,fun i o p=>(J i o (B p)).cps call,fun i o p=>(J i o (B p)).s,fun i o p=>ub (J i o (B p)).oper (b2 (B p)),fun i o p=>b2 (B p),fun i j o o' d p G F k5=>?_,fun i j o o' d p G F hl=>?_,fun i o p L f4 k0 j w=>(b7 i j w).2 o p L f4 k0,fun i j w=>(b7 i j w).1,fun i o p e he I=>?_,f1,fun i o p u j w b3=>?_,fun i o p u j w b3 x hx i3=>?_,fun i o p u=>?_,fun i o p u=>?_,fun i o p u s K=>?_⟩
  ·exact tZ (J i o (B p)).oper
  ·have e1:=(d4 i o d (B p) F).2;have Z:=(d4 j o' d (B G) k5).2;rw [e1] at Z;omega
  ·have hu:=ud h3 i o (B p);have W:=Em (j:=j) (ops:=l.toArray) hu.1 hu.2 hl (by have:=(d4 j o' d (B G) F).2; show ix.at 0 d=_; omega);refine W.imp id fun ⟨g1,g2⟩=>⟨by have g1:cm (anc.getD j 0) (0+i)=true:=g1; rw [Nat.zero_add] at g1; exact g1,fun x hx=>?_⟩
   have g2:=g2 x hx;cases e5:ks.getD x 0 with
   | zero=>exact e5
   | succ y=>rw [show cm (iE ks 0) x=true from c6 (by rw [e5]; omega)] at g2; cases g2
  ·have:=lI X i o (B p) e he I;omega
  ·have:=(nk Q i _ (c8 (B p))).2 (by rw [show ks.getD i 0=2 from u]; decide) (by rw [show ks.getD i 0=2 from u]; decide);rw [Nat.zero_add] at this;exact wT this (by rw [pO,c6 b3]; simpa using w)
  ·have l2:ks.getD i 0=0∨ks.getD i 0=1:=by
    rcases f1 i with h|h|h
    ·exact .inl h
    ·exact .inr h
    ·exact absurd h u
   have:=(nk Q i _ (c8 (B p))).1 l2;have i5:j<l.length:=by have:=(b7 i j w).1; have:=lt (B p); omega
   have i6:ks[j]?=some 1:=by rw [c8 (Jn i5)]; exact congrArg some b3
   have:=xu this j i6 (by rw [Nat.zero_add]; exact w);rw [Nat.zero_add] at this;exact wT this (by rw [pO,c6 i3]; simpa using hx)
  ·-- a value turns nothing
   have r:=J i o (B p);have u:ks.getD i 0=0:=u;rw [b4 (B p)] at u;obtain ⟨rd,g,H,_⟩:=DQ u;have a8:=r.core;rw [H] at a8;rcases a8 with h|⟨_,W,h6⟩
   ·exfalso;have hv:∀s t n v t' U,dr (.v rd g) call s t n≠.mem v t' U:=fun s t n v t' U h=>by
     simp only [dr] at h;cases hx:g s t <;> rw [hx] at h <;> cases h
    revert h
    cases (z i).2.2.2 with
    | none=>exact hv (S i) (T i) (M i) _ _ _
    | some q=>
     obtain ⟨⟨h0⟩,b0⟩:=q;simp only [dD];intro h;cases hx:h0 (S i) with
     | bool b=>
      rw [hx] at h;simp only [uD] at h;cases hw:(b == b0) with
      | true=>rw [hw] at h; exact hv (S i) (T i) (M i) _ _ _ h
      | false=>rw [hw] at h; cases h
     | tup q=>rw [hx] at h; cases q <;> cases h
     | _=>rw [hx] at h; cases h
   ·exact ⟨W,h6⟩
  ·have e9:=hy i o (B p) u (S i) (fun _ _=>rfl);have r:=J i o (B p);rcases r.core with h|⟨h,_⟩
   ·have:=(e9.run (T i) (M i)).symm.trans h
    injection this with e1 Z e3
    exact ⟨e1.symm,Z.symm,e3.symm,hy i o (B p) u⟩
   ·have:=(e9.run (T i) (M i)).symm.trans h;cases this
  ·have r:=J i o (B p);have F:=iR (call:=call) r.guard r.op K (T i) (M i);have hc:=r.core;rw [←F] at hc;exact hc
 refine ⟨R,⟨N,fun i o p u c hc g6 s K n=>?_⟩,rfl,rfl,rfl⟩
 -- values at other stages
 have G:=B p;have r:=J i o G;have d1:ks.getD i 0=0:=u;have f0:=d1;rw [b4 G] at f0;obtain ⟨rd,g,H,g8⟩:=DQ f0;have f4:c≤l.length:=by simpa using hc
 have l5:=lt G;have c4:dD (z i).2.2.2 (z i).2.2.1 call (S i) (T i) (M i)=.val (V i):=by
  rcases r.core with h|⟨h,_⟩
  ·have:=(N.t0 i o p u).1;exfalso;have i2:∀gd s t n v t' U,dD gd (.v rd g) call s t n≠.mem v t' U:=fun gd s t n v t' U h=>by
    have hv:∀s t n v t' U,dr (.v rd g) call s t n≠.mem v t' U:=fun s t n v t' U h=>by
     simp only [dr] at h;cases hx:g s t <;> rw [hx] at h <;> cases h
    revert h
    cases gd with
    | none=>exact hv s t n _ _ _
    | some q=>
     obtain ⟨⟨h0⟩,b0⟩:=q;simp only [dD];intro h;cases hx:h0 s with
     | bool b=>
      rw [hx] at h;simp only [uD] at h;cases hw:(b == b0) with
      | true=>rw [hw] at h; exact hv s t n _ _ _ h
      | false=>rw [hw] at h; cases h
     | tup q=>rw [hx] at h; cases q <;> cases h
     | _=>rw [hx] at h; cases h
   rw [H] at h;exact i2 _ _ _ _ _ _ _ h
  ·exact h
 -- what it looks at stays
 have e8:∀k,i≤k→k≤l.length→(∀j,cm (anc.getD j 0) i=true→(∀x,j<x→ks.getD x 0=0)→k≤j)→yh l.toArray o (S i) (S k):=fun k d2 d0 g4 d F=>by
  by_cases hex:∃(j:Nat) (o':Oper),l.toArray[j]?=some o'∧o'.dst=some d
  ·obtain ⟨j,o',w,b5⟩:=hex;rcases N.use i j o o' d p w b5 F with haj|⟨hja,c5⟩
   ·have i7:=N.ancLt i j haj;have e1:(S i).at bV d=V j:=rI N w b5 i i7 (by simp; omega);have Z:(S k).at bV d=V j:=rI N w b5 k (by omega) (by simpa using d0);rw [e1,Z]
   ·have b3:=g4 j hja c5;have only:∀(x:Nat) (o2:Oper),x<k→l.toArray[x]?=some o2→o2.dst≠some d:=fun x o2 hx X Q=>by
     have:=N.uniq x j o2 o' d X w Q b5;omega
    have e1:(S i).at bV d=(S 0).at bV d:=ki N i (by simp; omega) (fun x o2 hx=>only x o2 (by omega));have Z:(S k).at bV d=(S 0).at bV d:=ki N k (by simpa using d0) only;rw [e1,Z]
  ·have e1:(S i).at bV d=(S 0).at bV d:=ki N i (by simp; omega) (fun j o' _ a b=>hex ⟨j,o',a,b⟩);have Z:(S k).at bV d=(S 0).at bV d:=ki N k (by simpa using d0) (fun j o' _ a b=>hex ⟨j,o',a,b⟩);rw [e1,Z]
 have f8:∀ {s1 s2 s3:FrT},yh l.toArray o s1 s2→yh l.toArray o s2 s3→yh l.toArray o s1 s3:=fun a b d F=>(a d F).trans (b d F)
 have K:yh l.toArray o s (S i):=K;show dD (z i).2.2.2 (z i).2.2.1 call s (T c) n=.val (V i);cases rd with
 | false=>
  rw [iR r.guard r.op K,H];have a2:=r.op;rw [H] at a2;rw [uR a2 (S i) (T c) (T i) n (M i)];rw [H] at c4;exact c4
 | true=>
  obtain ⟨d,F⟩:=g8 rfl;obtain ⟨gv,d6,q1,q2,q3⟩:=Ga (g:=g) (call:=call) r.guard F;have d3:=j0 G;rw [H,q1] at d3;have f5:∀k,i<k→k≤l.length→(S k).at bV d=V i:=fun k X Q=>rI N p F k X (by simpa using Q)
  rcases g6 with ⟨k6,i4,k9⟩|⟨i9,k8⟩
  ·-- earlier
   have I:cm (anc.getD i 0) c=false:=by
    cases hx:cm (anc.getD i 0) c with
    | false=>rfl
    | true=>exact absurd hx k9
   have W:=r.stages d1 gv d6 d3 c k6 i4 I;rw [q2,f5 (i+1) (by omega) (by omega)] at W;have h6:=q3 _ _ _ n W;rw [iR r.guard r.op (f8 K (e8 (i+1) (by omega) (by omega) (fun j w _=>(b7 j i w).1))),H];exact h6
  ·-- later: the last that is no value before number c
   have f9:∀k,i<k→k≤c→T k=T i∨∃x,i<x∧x<k∧ks.getD x 0≠0∧T k=T (x+1):=by
    intro k;induction k with
    | zero=>intro h; omega
    | succ k ih=>
     intro X Q;have h9:l[k]?=some (l[k]'(by omega)):=Jn (by omega)
     by_cases hkz:ks.getD k 0=0
     ·have h8:l.toArray[k]?=some (l[k]'(by omega)):=by rw [List.getElem?_toArray]; exact h9
      have e:=(N.t0 k _ h8 hkz).1;have e:T (k+1)=T k:=e
      by_cases d2:i=k
      ·subst d2; exact .inl e
      ·rcases ih (by omega) (by omega) with h|⟨x,x1,x2,x3,x4⟩
       ·exact .inl (e.trans h)
       ·exact .inr ⟨x,x1,by omega,x3,e.trans x4⟩
     ·have d2:i≠k:=fun e=>by subst e; exact hkz d1
      exact .inr ⟨k,by omega,by omega,hkz,rfl⟩
   rcases f9 c i9 (Nat.le_refl _) with h|⟨x,x1,x2,x3,x4⟩
   ·rw [iR r.guard r.op K,h];have g5:∀U,dD (z i).2.2.2 (z i).2.2.1 call (S i) (T i) U=dD (z i).2.2.2 (z i).2.2.1 call (S i) (T i) (M i):=fun U=>by
     rw [H];cases (z i).2.2.2 with
     | none=>rfl
     | some q=>obtain ⟨⟨h0⟩,b0⟩:=q; rfl
    rw [g5];exact c4
   ·have e6:x<l.length:=by omega
    have g9:l[x]?=some (l[x]'e6):=Jn e6;have I:cm (anc.getD x 0) i=false:=by
     cases hx:cm (anc.getD x 0) i with
     | false=>rfl
     | true=>exact absurd hx (k8 x x1 x2 x3)
    have g3:∀j,cm (anc.getD j 0) i=true→(∀y,j<y→ks.getD y 0=0)→x+1≤j:=fun j w c5=>by
     rcases Nat.lt_or_ge j x with h|h
     ·exact absurd (c5 x h) x3
     ·rcases Nat.lt_or_ge x j with h'|h'
      ·exact h'
      ·have:j=x:=by omega
       subst this;rw [w] at I;cases I
    have W:=(J x _ g9).later x3 i x1 gv d6 d3 I;rw [q2,f5 (x+1) (by omega) (by omega)] at W;have h6:=q3 _ _ _ n W;rw [iR r.guard r.op (f8 K (e8 (x+1) (by omega) (by omega) g3)),H,x4];exact h6
theorem qa (x:P.follows .mixedOrders=true):ig P:=by
 intro df m id ops f a fr call F ρ s t n ds h W U r E w y u A q b c;obtain ⟨l⟩:=ops;have b:f call s t n ds h=r:=b;unfold uO at a;simp only at a;split at a
 ·rename_i ks anc gs ix hix;cases hck:(kC l 0 && (pr (xE l (jQ P l)) (iE (xE l (jQ P l)) 0) (xE l (jQ P l)) (qk l []) 0 && (ue ix (qk l []) (iE (xE l (jQ P l)) 0) l l (qk l []) 0 && pz l))) with
  | false=>rw [hck] at a; cases a; exact absurd b.symm c
  | true=>
   rw [hck,cond_true] at a;simp only [Bool.and_eq_true] at hck;obtain ⟨I,H,D,p⟩:=hck;cases hG:qf P df m l (xE l (jQ P l)) (Fc l l (jQ P l)) l 0 (xE l (jQ P l)) (qk l []) (Fc l l (jQ P l)) with
   | mk G=>
    rw [hG] at a;cases a
    dsimp only at b;obtain ⟨S,T,M,V,Q,N,L,_,K,J⟩:=uW (call:=call) (k:=h) (ds:=ds) (py p) (oA _ _ (mG l)) c l 0 _ _ _ G rfl rfl rfl rfl (by simp) hG (fun _=>.nil) s t n b;obtain ⟨R,B,g,e,d⟩:=FC (P:=P) (df:=df) (m:=m) (call:=call) rfl rfl rfl hix I H D p (fun i o v=>J i o (Nat.zero_le _) v);subst Q N L;refine RT.ok B x y u A (ds:=ds) (ρ:=ρ) (F:=F) (by rw [g,e,d]; exact q) (fun E' w' ρ' z j=>?_);rw [g,e,d] at j;exact ⟨ρ',_,_,_,ds,z,j,by simpa using K⟩
 ·cases a; exact absurd b.symm c
end
section
variable {P:Program} {F:Frm} {ρ:List Place} {h:List AB} {w w':World} {t:HpT} {n:Nat}
theorem HR.below_ (hr:HR F ρ h w) (a:Below w.heap.size w w'):HR F ρ h w':=by
 refine ⟨⟨a.os.trans hr.below.os,a.tape.trans hr.below.tape,a.output.trans hr.below.output,Nat.le_trans hr.below.size a.size,fun b c=>⟨(hr.below.block b c).1,(a.block b (hr.below.lt c)).trans (hr.below.block b c).2⟩⟩,hr.len,fun b p x e hx=>?_,hr.fresh,hr.apart,hr.off⟩;have d:=hr.at_ b p x e hx;exact d.kept fun f=>a.block _ (d.lt f)
theorem HR.freeze (hr:HR F ρ h w) {b:Nat} {p:Place} {l:List AV} {T:TypeId} {e:Nat} {o:Bool} (i:ρ[b]?=some p) (hx:h[b]?=some (.cells l T e o)):HR F ρ (h.set b (.cells l T e false)) w:=by
 refine ⟨hr.below,by simp [hr.len],?_,?_,?_,?_⟩
 ·intro c q y a hy;rcases ef hy with ⟨rfl,rfl⟩|⟨j,f⟩
  ·rw [i] at a; cases a;obtain ⟨cs,T',B,A,_,x,v⟩:=hr.at_ _ _ _ i hx;exact ⟨cs,T',B,A,fun h=>(by cases h),x,v⟩
  ·exact hr.at_ c q y a f
 ·intro c q y a hy g;rcases ef hy with ⟨rfl,rfl⟩|⟨j,f⟩
  ·cases g
  ·exact hr.fresh c q y a f g
 ·intro c d q r y z m a k hy t g n;rcases ef hy with ⟨rfl,rfl⟩|⟨j,f⟩
  ·cases g
  ·rcases ef t with ⟨rfl,rfl⟩|⟨D,s⟩
   ·exact hr.apart c d q r y _ m a k f hx g rfl
   ·exact hr.apart c d q r y z m a k f s g n
 ·intro c q y a hy u;rcases ef hy with ⟨rfl,rfl⟩|⟨j,f⟩
  ·rw [i] at a; cases a;exact hr.off _ _ _ i hx rfl
  ·exact hr.off c q y a f u
def BJ (F:Frm) (ρ:List Place) (h:List AB) (b:Nat):Prop:=(∀(c:Nat) r y,ρ[c]?=some r→h[c]?=some y→y.own=true→r.b≠b)∧¬ (F.D b∧F.E b)
theorem cZ {ρ:List Place} {h:List AB} (c:ρ.length=h.length) {q:Place} {x:AB} {b:Nat} {p:Place} {y:AB} (a:(ρ++[q])[b]?=some p) (hy:(h++[x])[b]?=some y):(b<ρ.length∧ρ[b]?=some p∧h[b]?=some y)∨(b=ρ.length∧p=q∧y=x):=by
 rw [List.getElem?_append] at a hy
 by_cases hb:b<ρ.length
 ·rw [if_pos hb] at a;rw [if_pos (by rw [←c]; exact hb)] at hy;exact .inl ⟨hb,a,hy⟩
 ·rw [if_neg hb] at a;rw [if_neg (by rw [←c]; exact hb)] at hy;rw [List.getElem?_singleton] at a hy;split at a
  ·rename_i d;rw [if_pos (by rw [←c]; exact d)] at hy;exact .inr ⟨by omega,(Option.some.inj a).symm,(Option.some.inj hy).symm⟩
  ·cases a
theorem BJ.add (hl:ρ.length=h.length) {q:Place} {x:AB} (hx:x.own=false) {b:Nat} (hq:BJ F ρ h b):BJ F (ρ++[q]) (h++[x]) b:=by
 refine ⟨fun c r y hc hy hyo=>?_,hq.2⟩;rcases cZ hl hc hy with ⟨_,h1,h2⟩|⟨_,_,rfl⟩
 ·exact hq.1 c r y h1 h2 hyo
 ·rw [hx] at hyo; cases hyo
theorem HR.addRd (hr:HR F ρ h w) {q:Place} {l:List AV} {T:TypeId} {e:Nat} (hx:(AB.cells l T e false).holds (ρ++[q]) w q) (j:BJ F ρ h q.b):HR F (ρ++[q]) (h++[.cells l T e false]) w:=by
 have s:=bj.app ρ [q];refine ⟨hr.below,by simp [hr.len],?_,?_,?_,?_⟩
 ·intro b p y f hy;rcases cZ hr.len f hy with ⟨_,d,a⟩|⟨_,rfl,rfl⟩
  ·exact (hr.at_ b p y d a).grow s
  ·exact hx
 ·intro b p y f hy g;rcases cZ hr.len f hy with ⟨_,d,a⟩|⟨_,rfl,rfl⟩
  ·exact hr.fresh b p y d a g
  ·cases g
 ·intro b c p r y z t f n hy m g i;rcases cZ hr.len f hy with ⟨u,d,a⟩|⟨u,rfl,rfl⟩
  ·rcases cZ hr.len n m with ⟨_,o,k⟩|⟨_,rfl,rfl⟩
   ·exact hr.apart b c p r y z t d o a k g i
   ·exact j.1 b p y d a g
  ·cases g
 ·intro b p y f hy i;rcases cZ hr.len f hy with ⟨_,d,a⟩|⟨_,rfl,rfl⟩
  ·exact hr.off b p y d a i
  ·exact j.2
noncomputable def gF (vs:List AV):XB:=.cells (jr vs 0 .nil) (cG vs) 3 1 false
noncomputable def nY (l:List Int):List AV:=List.rec [] (fun z _ ih=>.int .i64 z::ih) l
theorem pM (ρ:List Place):∀l:List Int,concL ρ (nY l)=some (l.map (Value.int .i64))
 | []=>rfl
 | z::l=>by show concL ρ (AV.int .i64 z::nY l)=_; simp only [concL,aD,pM ρ l]; rfl
theorem ve (hr:HR F ρ (co t n) w) {g:Hp} (r:dE g w) (d:∀b o,g b=some o→BJ F ρ (co t n) b) {v:Value} {m:Nat} {xs:List Value} {vs:List AV} (l:qK g v m xs) (I:0<m) (J:xs.length=m) (c:concL ρ vs=some xs) :
 ∃q,HR F (ρ++[q]) (co (t.put n (gF vs)) (n+1)) w∧aD (ρ++[q]) (.sl n 0 m 1)=some v∧∀b o,g b=some o→BJ F (ρ++[q]) (co (t.put n (gF vs)) (n+1)) b:=by
 rcases l with ⟨K,_⟩|⟨b,off,cap,D,e,A,rfl,H,f,x⟩
 ·omega
 ·have p:ρ.length=n:=by rw [hr.len,cH]
  have G:=bI c;have j:(gF vs).ab=.cells vs 3 1 false:=by simp only [gF,XB.ab,fR]
  refine ⟨⟨b,off,cap⟩,?_,?_,fun B o' y=>?_⟩
  ·rw [dq,j];refine hr.addRd ⟨D,e,A,r _ _ f,fun h=>(by cases h),by show vs.length≤cap; omega,fun i a z=>?_⟩ (d b _ f);obtain ⟨u,k,s⟩:=di c z;exact ⟨u,x i u k,bS (bj.app _ _) _ _ s⟩
  ·simp only [aD];rw [←p,List.getElem?_concat_length];simp
  ·rw [dq,j];exact (d B o' y).add hr.len rfl
theorem nO {α:Type} {xs:List α} {i:Nat} (h:i<xs.length):(xs.drop i).take 1=[xs[i]]:=by
 rw [List.drop_eq_getElem_cons h];rfl
theorem tb (hr:HR F ρ (co t n) w) {g:Hp} (f:dE g w) (d:∀b o,g b=some o→BJ F ρ (co t n) b) {v:Value} {l:List Int} (h:cv (ai .i64) g v l) (e:l≠[]) :
 ∃q,HR F (ρ++[q]) (co (t.put n (gF (nY l))) (n+1)) w∧aD (ρ++[q]) (.sl n 0 (cG l) 1)=some v∧∀b o,g b=some o→BJ F (ρ++[q]) (co (t.put n (gF (nY l))) (n+1)) b:=by
 obtain ⟨xs,c,j⟩:=h;have hx:xs=l.map (Value.int .i64):=by
  refine List.ext_getElem? fun i=>?_
  have k:xs.length=l.length:=by have:=c.1; simpa [ai] using this
  by_cases hil:i<l.length
  ·have a:=c.2 i _ (Jn hil);have a:(xs.drop (i*1)).take 1=[Value.int .i64 l[i]]:=a;rw [Nat.mul_one,nO (show i<xs.length by omega)] at a;rw [Jn (by omega),(List.cons.inj a).1];simp [hil]
  ·rw [JH (by omega),JH (by simp; omega)]
 subst hx;rw [cQ];exact ve hr f d j (List.length_pos_iff.2 e) (by simp) (pM ρ l)
noncomputable def zB (rows:List (List Int)):HpT→Nat→(List AV→HpT→Nat→OR)→OR:=List.rec (fun t n k=>k [] t n) (fun l _ ih t n k=>ih (t.put n (gF (nY l))) (Nat.succ n) fun avs t' n'=>k (.sl n 0 (cG l) 1::avs) t' n') rows
theorem tM {g:Hp} (j:dE g w):∀(e:List (List Int)) (vs:List Value) (ρ:List Place) (t:HpT) (n:Nat) (k:List AV→HpT→Nat→OR) (r:OR),HR F ρ (co t n) w→(∀b o,g b=some o→BJ F ρ (co t n) b)→e.length=vs.length→(∀(i:Nat) l v,e[i]?=some l→vs[i]?=some v→cv (ai .i64) g v l∧l≠[])→zB e t n k=r→
 ∃ρ' h c d,k h c d=r∧bj ρ ρ'∧HR F ρ' (co c d) w∧concL ρ' h=some vs∧∀b o,g b=some o→BJ F ρ' (co c d) b
 | [],[],ρ,t,n,k,r,hr,hq,_,_,f=>⟨ρ,[],t,n,f,bj.refl _,hr,rfl,hq⟩
 | [],_::_,_,_,_,_,_,_,_,hl,_,_=>by simp at hl
 | _::_,[],_,_,_,_,_,_,_,hl,_,_=>by simp at hl
 | l::e,v::vs,ρ,t,n,k,r,hr,hq,hl,hrd,f=>by
  have f:zB e (t.put n (gF (nY l))) (n+1) (fun h c d=>k (.sl n 0 (cG l) 1::h) c d)=r:=f;obtain ⟨y,x⟩:=hrd 0 l v rfl rfl;obtain ⟨q,B,A,z⟩:=tb hr j hq y x;obtain ⟨ρ',h,c,d,k1,k2,u,s,p⟩:=tM j e vs _ _ _ _ r B z (by simpa using hl) (fun i l' m a b=>hrd (i+1) l' m (by simpa using a) (by simpa using b)) f;exact ⟨ρ',_,c,d,k1,(bj.app _ _).trans k2,u,by simp only [concL,bS k2 _ _ A,s],p⟩
noncomputable def Db (cls:List Int) (rows:List (List Int)) (acc:List Int) (t:HpT) (n:Nat):OR:=
 zB rows ((t.put n (gF (nY cls))).put (Nat.succ n) (gF (nY acc))) (Nat.succ (Nat.succ n)) fun avs t' n'=>.mem (.tup [.agg [.sl n 0 (cG cls) 1,.sl n' 0 (cG avs) 1,.sl (Nat.succ n) 0 (cG acc) 1],.int .i64 0]) (t'.put n' (gF avs)) (Nat.succ n')
theorem Da {g:Hp} (j:dE g w) (hr:HR F ρ (co t n) w) (K:∀b o,g b=some o→BJ F ρ (co t n) b) {d e:List Int} {a:List (List Int)} {v0 v1 v2:Value} (S:cv (ai .i64) g v0 d) (R:cv (cj (ai .i64)) g v1 a) (Q:cv (ai .i64) g v2 e) (G:d≠[]) (D:a≠[]) (B:e≠[]) (A:∀l∈a,l≠[]) :
 nH F ρ (Db d a e t n) (.tuple #[.agg #[v0,v1,v2],.int .i64 0]) w:=by
 obtain ⟨m,a1,a2,a3⟩:=tb hr j K S G;obtain ⟨z,b1,b2,b3⟩:=tb a1 j a3 Q B;obtain ⟨xs,x1,y⟩:=R;have k:xs.length=a.length:=by have:=x1.1; simpa [cj] using this
 have J:∀(i:Nat) l v,a[i]?=some l→xs[i]?=some v→cv (ai .i64) g v l∧l≠[]:=fun i l v p H=>by
  refine ⟨?_,A l (List.mem_of_getElem? p)⟩;have q:(cj (ai .i64)).rel g ((xs.drop (i*1)).take 1) l:=x1.2 i l p;obtain ⟨L,rfl⟩:=Jo.1 H;rw [Nat.mul_one,nO L] at q;obtain ⟨u,I,P⟩:=q;rw [(List.cons.inj I).1];exact P
 obtain ⟨ρ',f,t',h,c1,c2,c3,x,c5⟩:=tM j a xs _ _ _ _ _ b1 b3 k.symm J rfl;have N:cG f=a.length:=by rw [cQ,←bI x,k]
 obtain ⟨c,d1,d2,d3⟩:=ve c3 j c5 y (List.length_pos_iff.2 D) k x;have s:=bj.app ρ' [c];have r:bj (ρ++[m]) (ρ'++[c]):=(bj.app _ [z]).trans (c2.trans s);refine ⟨ρ'++[c],_,_,_,(show Db d a e t n=_ from c1.symm),(bj.app _ [m]).trans r,d1,?_⟩;have Z:aD (ρ'++[c]) (.sl n 0 (cG d) 1)=some v0:=bS r _ _ a2;have X:aD (ρ'++[c]) (.sl h 0 (cG f) 1)=some v1:=by rw [N]; exact d2
 have W:aD (ρ'++[c]) (.sl (Nat.succ n) 0 (cG e) 1)=some v2:=bS (c2.trans s) _ _ b2;have V:concL (ρ'++[c]) [.sl n 0 (cG d) 1,.sl h 0 (cG f) 1,.sl (Nat.succ n) 0 (cG e) 1]=some [v0,v1,v2]:=by
  rw [concL,Z,concL,X,concL,W]; rfl
 have U:aD (ρ'++[c]) (.agg [.sl n 0 (cG d) 1,.sl h 0 (cG f) 1,.sl (Nat.succ n) 0 (cG e) 1])=some (.agg #[v0,v1,v2]):=by rw [aD,V]
 have T:concL (ρ'++[c]) [.agg [.sl n 0 (cG d) 1,.sl h 0 (cG f) 1,.sl (Nat.succ n) 0 (cG e) 1],.int .i64 0]=some [.agg #[v0,v1,v2],.int .i64 0]:=by
  rw [concL,U]; rfl
 rw [aD,T]
theorem wX (hr:HR F ρ h w) {b o m e:Nat} {p:Place} {L:List AV} {T:TypeId} {D:Nat} {own:Bool} (r:ρ[b]?=some p) (y:h[b]?=some (.cells L T D own)) (t:0<e) (I:o+m*e≤L.length) {xs:List Value} (f:concL ρ ((L.drop o).take (m*e))=some xs) {g:Hp} (s:g p.b=w.heap[p.b]?) :
 qK g (.slice (some ⟨p.b,p.o+o,none⟩) m ((p.n - o) / e)) m xs:=by
 obtain ⟨c,T',B,A,_,K,z⟩:=hr.at_ b p _ r y;refine .inr ⟨p.b,p.o+o,_,c,T',B,rfl,?_,s.trans A,fun j u k=>?_⟩
 ·rw [Nat.le_div_iff_mul_le t]; omega
 ·have J:=(Jo.1 k).1;have H:=bI f;have d:∃a,((L.drop o).take (m*e))[j]?=some a:=⟨_,Jn (by omega)⟩;obtain ⟨a,d⟩:=d;obtain ⟨v,i,x⟩:=di f d;rw [k] at i;cases i
  rw [List.getElem?_take] at d;split at d
  ·rw [List.getElem?_drop] at d;obtain ⟨G,q,l⟩:=z (o+j) a d;rw [x] at l;cases l
   rw [Nat.add_assoc];exact q
  ·cases d
theorem pT {α:Type} {τ:Ty α} {g:Hp} {enc:α→List Value} (a:∀x,τ.rel g (enc x) x):∀l:List α,ag τ g (l.flatMap enc) l
 | []=>ag.nil
 | x::l=>by
  have ih:=pT a l;have hx:=τ.len (a x);refine ⟨by rw [List.flatMap_cons,Jr,hx,ih.1,List.length_cons,Nat.succ_mul,Nat.add_comm],fun i y hy=>?_⟩;cases i with
  | zero=>
   simp at hy;subst hy;rw [Nat.zero_mul,List.drop_zero,List.flatMap_cons,List.take_append_of_le_length (by omega),JO (by omega)];exact a x
  | succ i=>
   have:=ih.2 i y (by simpa using hy);rw [List.flatMap_cons,Nat.succ_mul,List.drop_append];rw [List.drop_eq_nil_iff.2 (by omega),Jx,show i*τ.sz+τ.sz - (enc x).length=i*τ.sz by omega];exact this
noncomputable def wC (l:List Nat):Str:=List.rec [] (fun b _ ih=>UInt8.ofNat b::ih) l
noncomputable def pJ:List AV:=[.str (wC [110,101,119,108,105,110,101]),.str (wC [105,110,100,101,110,116]),.str (wC [100,101,100,101,110,116])]
noncomputable def CO:HpT:=HpT.put .nil 0 (.cells (jr pJ 0 .nil) 3 195 3 false)
def ws:List Place:=(List.range gN).map fun g=>⟨g,0,CM g⟩
theorem pP:GI ws:=fun g hg=>by
 simp [ws,hg]
def th (w:World):Prop:=∃c T fz,w.heap[0]?=some (.cells c T fz)∧∀(i:Nat) a,pJ[i]?=some a→∃v,c[i]?=some v∧aD [] a=some v
theorem oz (g:th w):HR (Frm.all w) ws (co CO gN) w:=by
 have get:∀b,CO.get b=if b=0 then .cells (jr pJ 0 .nil) 3 195 3 false else .dead:=fun b=>by
  show HpT.get (HpT.put .nil 0 _) b=_;rw [mJ];rfl
 have hx:∀(b:Nat) (x:AB),(co CO gN)[b]?=some x→(b=0∧x=.cells pJ 195 3 false)∨x=.dead:=fun b x d=>by
  rw [kD] at d;split at d
  ·rw [get] at d;split at d
   ·rename_i r;left;refine ⟨r,?_⟩;rw [←Option.some.inj d];have:=fR pJ;simp only [XB.ab];rw [show (3:Nat)=cG pJ from rfl,this]
   ·right;exact (Option.some.inj d).symm
  ·cases d
 refine ⟨Frm.kept.self w,by rw [cH]; simp [ws],fun b p x e d=>?_,fun b p x e d f=>?_,fun b c p q x y u e t d j f g=>?_,fun b p x e d g l=>l.2⟩
 ·rcases hx b x d with ⟨rfl,rfl⟩|rfl
  ·obtain ⟨c,T,s,o,n⟩:=g;have:=pP 0 (by decide);rw [this] at e;cases e
   refine ⟨c,T,s,o,fun h=>(by cases h),by show pJ.length≤CM 0; exact Nat.le_refl 3,fun i a m=>?_⟩;obtain ⟨v,k,j⟩:=n i a m;exact ⟨v,by rw [Nat.zero_add]; exact k,bS (fun b p d=>by simp at d) _ _ j⟩
  ·trivial
 ·rcases hx b x d with ⟨rfl,rfl⟩|rfl <;> cases f
 ·rcases hx b x d with ⟨rfl,rfl⟩|rfl <;> cases f
noncomputable def nX (t:HpT):Bool:=match t.get 0 with
 | .cells c k _ _ false=>Nat.ble 3 k && sameL (qX c 3 0) pJ
 | _=>false
theorem uA (hr:HR F ρ (co t n) w) (q:GI ρ) (h:nX t=true):th w∧∃L T e,(co t n)[0]?=some (.cells L T e false):=by
 unfold nX at h;split at h
 ·rename_i c k T e hc;simp only [Bool.and_eq_true] at h;have m:=q 0 (by decide);have l:=cC hr m hc;have D:=Nat.le_of_ble_eq_true h.1;have o:=sameL_ok _ _ h.2;obtain ⟨B,T',A,z,_,_,y⟩:=hr.at_ 0 _ _ m l;refine ⟨⟨B,T',A,z,fun i a f=>?_⟩,_,_,_,l⟩;have p:i<3:=(Jo.1 f).1;have u:(tx c k)[i]?=some a:=by
   rw [fy,if_pos (by omega)];have:(qX c 3 0)[i]?=some a:=by rw [o]; exact f
   rw [ow,if_pos p,Nat.zero_add] at this;exact this
  obtain ⟨v,g,r⟩:=y i a u;refine ⟨v,by rw [Nat.zero_add] at g; exact g,?_⟩;have x:∀(j:Nat) (b:AV),pJ[j]?=some b→∃s,b=.str s:=fun j b d=>by
   match j with
   | 0=>exact ⟨_,(Option.some.inj d).symm⟩
   | 1=>exact ⟨_,(Option.some.inj d).symm⟩
   | 2=>exact ⟨_,(Option.some.inj d).symm⟩
   | j+3=>cases d
  obtain ⟨s,rfl⟩:=x i a f;exact r
 ·cases h
end
end Go.Lx
namespace Go.Proofs.YtbkjljkjhlcmoaaGreatDoor
open Go.Lx Go.RowKit
section
variable {F:Frm} {ρ:List Lx.Place} {t:HpT} {n:Nat} {w:World}
noncomputable def jl (l:List cf):List AV:=List.rec [] (fun d _ ih=>.str d.Name::.int .i64 d.Kind::.str d.Pattern::.str d.Sample::.str d.Close::ih) l
def cL (d:cf):List Value:=[ao d.Name,.int .i64 d.Kind,ao d.Pattern,ao d.Sample,ao d.Close]
theorem mQ (ρ:List Lx.Place):∀l,concL ρ (jl l)=some (l.flatMap cL)
 | []=>rfl
 | d::l=>by
  show concL ρ (.str d.Name::.int .i64 d.Kind::.str d.Pattern::.str d.Sample::.str d.Close::jl l)=_;simp only [concL,aD,mQ ρ l];rfl
theorem ob:∀l,(jl l).length=l.length*5
 | []=>rfl
 | d::l=>by
  show (AV.str d.Name::.int .i64 d.Kind::.str d.Pattern::.str d.Sample::.str d.Close::jl l).length=_;simp only [List.length_cons,ob l];omega
theorem AM (g:Hp) (d:cf):cc.rel g (cL d) d:=⟨[ao d.Name],[.int .i64 d.Kind],[ao d.Pattern],[ao d.Sample],[ao d.Close],rfl,rfl,rfl,rfl,rfl,rfl⟩
noncomputable def qp (s:cg) (d:bB) (cs:List AV) (lay:Bool) (mi un:Int) (t:HpT) (n:Nat) (els:OR):OR:=
 bif sameL cs (jl s.Defs) && ((lay == s.Layout) && (AJ mi s.Misspelling && AJ un s.Unclosed)) then Db d.Class d.Next d.Accept t n else els
noncomputable def xz (xs:List AV) (t:HpT) (n:Nat):OR:=match xs with
 | [.agg [.sl b 0 m 5,.bool lay,.int .i64 mi,.int .i64 un]]=>match t.get b with
  | .cells c k T 5 own=>bif nX t && Nat.ble (m*5) k then (match qX c (m*5) 0,t.put b (.cells c k T 5 false) with
   | cs,t=>qp DC Gm cs lay mi un t n (qp DH Gs cs lay mi un t n (qp spec1 Gr cs lay mi un t n (qp wV AP cs lay mi un t n (qp DG Gq cs lay mi un t n (qp DF Gp cs lay mi un t n (qp DD Gn cs lay mi un t n .bad))))))) else .bad
  | _=>.bad
 | _=>.bad
theorem np:∀(i:Nat) (a:AV),pJ[i]?=some a→∃v,aD [] a=some v∧(M.g6.map ao)[i]?=some v:=fun i a h=>by
 match i with
 | 0=>cases h; exact ⟨_,rfl,rfl⟩
 | 1=>cases h; exact ⟨_,rfl,rfl⟩
 | 2=>cases h; exact ⟨_,rfl,rfl⟩
 | i+3=>cases h
theorem Cw (S:GI ρ) (hr:HR F ρ (co t n) w) {b k m:Nat} {c:TR AV} {T:TypeId} {own:Bool} (hb:t.get b=.cells c k T 5 own) (hl:nX t=true) (d5:m*5≤k) {s:cg} {d:bB} (hM:M.a1 s=some (d,0)) (R:qX c (m*5) 0=jl s.Defs)
 (n0:d.Class≠[]) (n1:d.Next≠[]) (n2:d.Accept≠[]) (nr:∀l∈d.Next,l≠[]) {v:Value} (x:aD ρ (.agg [.sl b 0 m 5,.bool s.Layout,.int .i64 s.Misspelling,.int .i64 s.Unclosed])=some v) :
 fM Tryz.prog 43 [v] w (nH F ρ (Db d.Class d.Next d.Accept (t.put b (.cells c k T 5 false)) n)):=by
 have hm:m=s.Defs.length:=by
  have h1:=congrArg List.length R;rw [mr,ob] at h1;omega
 simp only [aD,concL] at x;cases hp:ρ[b]? with
 | none=>rw [hp] at x; cases x
 | some p=>
  rw [hp] at x;have x:=(Option.some.inj x).symm;have U:=cC hr hp hb;obtain ⟨⟨lc,lT,b0,l1,l2⟩,L0,T0,e0,c5⟩:=uA hr S hl
  let g0:Hp:=fun i=>if i=p.b∨i=0 then w.heap[i]? else none
  have hi:dE g0 w:=fun i o D=>by
   show w.heap[i]?=some o;have D:(if i=p.b∨i=0 then w.heap[i]? else none)=some o:=D;split at D
   ·exact D
   ·cases D
  have b5:concL ρ (((tx c k).drop 0).take (m*5))=some (s.Defs.flatMap cL):=by
   rw [←mq c k (m*5) 0 (by omega),R];exact mQ ρ _
  have b6:=wX hr hp U (e:=5) (o:=0) (m:=m) (by decide) (by rw [eu]; omega) b5 (g:=g0) (if_pos (.inl rfl));have b7:lh.rel g0 [.slice (some ⟨p.b,p.o+0,none⟩) m ((p.n - 0) / 5),.bool s.Layout,.int .i64 s.Misspelling,.int .i64 s.Unclosed] s:=
   ⟨[_],[_],[_],[_],rfl,⟨_,rfl,s.Defs.flatMap cL,pT (AM g0) s.Defs,by rw [←hm]; exact b6⟩,rfl,rfl,rfl⟩
  have hG:kN 0 (M.g6.map ao) g0:=⟨lc,lT,b0,(show g0 0=_ from (if_pos (.inr rfl)).trans l1),fun j u Q=>by
   have hj:j<3:=(Jo.1 Q).1;have I:∃a,pJ[j]?=some a:=⟨_,Jn hj⟩;obtain ⟨a,I⟩:=I;obtain ⟨v1,q1,q2⟩:=l2 j a I;obtain ⟨v2,P,N⟩:=np j a I;rw [q2] at P;cases P
   rw [Q] at N;cases N
   exact q1⟩
  refine .inl ⟨lR (by kernel_rfl),?_⟩;rw [x];refine Calls.mono (lC hM hi b7 hG) ?_;rintro e w' ⟨u,rfl,g',⟨v1,v2,rfl,⟨cs,rfl,hD⟩,⟨d1,K,L⟩⟩,hx⟩;refine ⟨_,rfl,?_⟩;obtain ⟨a0,a1,a2,rfl,⟨u0,rfl,r0⟩,⟨u1,rfl,Z⟩,⟨u2,rfl,X⟩⟩:=hD;have L:d1=_:=L;subst L;have K:Value.int .i64 0=v2:=K;subst K;have z:=(hr.below_ hx.below).freeze hp U;rw [←show (XB.cells c k T 5 false).ab=AB.cells (tx c k) T 5 false from rfl,←dp] at z;have B:(co (t.put b (.cells c k T 5 false)) n)[b]?=some (.cells (tx c k) T 5 false):=by
   rw [dp,List.getElem?_set_self (by rw [cH]; exact oF hr hp)];rfl
  refine Da hx.imm z (fun q o hq=>?_) r0 Z X n0 n1 n2 nr;rcases Nat.lt_or_ge q w.heap.size with hlt|hge
  ·have H:g0 q=some o:=by rw [←hx.old q hlt]; exact hq
   have H:(if q=p.b∨q=0 then w.heap[q]? else none)=some o:=H;split at H
   ·rename_i hor;rcases hor with rfl|rfl
    ·refine ⟨fun h r y G hy f=>?_,z.off b p _ hp B rfl⟩;have J:h≠b:=fun e=>by
      subst e;rw [B] at hy;cases hy
      cases f
     exact z.apart h b r p y _ J G hp hy B f rfl
    ·have V:=S 0 (by decide);have A:∃l' T' W,(co (t.put b (.cells c k T 5 false)) n)[0]?=some (.cells l' T' W false):=by
      by_cases hb0':b=0
      ·subst hb0'; exact ⟨_,_,_,B⟩
      ·rw [dp,List.getElem?_set_ne hb0']; exact ⟨_,_,_,c5⟩
     obtain ⟨l',T',W,A⟩:=A;refine ⟨fun h r y G hy f=>?_,z.off 0 _ _ V A rfl⟩;have J:h≠0:=fun e=>by
      subst e;rw [A] at hy;cases hy
      cases f
     exact z.apart h 0 r _ y _ J G V hy A f rfl
   ·cases H
  ·refine ⟨fun h r y G hy f=>?_,fun hd=>?_⟩
   ·by_cases hcb:h=b
    ·subst hcb;rw [B] at hy;cases hy
     cases f
    ·rw [dp,List.getElem?_set_ne (fun e=>hcb e.symm)] at hy;have:=(hr.at_ h r y G hy).lt (iw f);omega
   ·have:=hr.below.lt hd.1;omega
theorem BV (x:GI ρ) (hr:HR F ρ (co t n) w) {b k m:Nat} {c:TR AV} {T:TypeId} {own:Bool} (z:t.get b=.cells c k T 5 own) (u:nX t=true) (r:m*5≤k) {f:Bool} {e a:Int} {v:Value} (q:aD ρ (.agg [.sl b 0 m 5,.bool f,.int .i64 e,.int .i64 a])=some v)
 {s:cg} {d:bB} (A:M.a1 s=some (d,0)) (p:d.Class≠[]) (o:d.Next≠[]) (j:d.Accept≠[]) (i:∀l∈d.Next,l≠[]) {g:OR} (y:g≠.bad→fM Tryz.prog 43 [v] w (nH F ρ g)) (h:qp s d (qX c (m*5) 0) f e a (t.put b (.cells c k T 5 false)) n g≠.bad) :
 fM Tryz.prog 43 [v] w (nH F ρ (qp s d (qX c (m*5) 0) f e a (t.put b (.cells c k T 5 false)) n g)):=by
 unfold qp at h ⊢;cases hck:(sameL (qX c (m*5) 0) (jl s.Defs) && ((f == s.Layout) && (AJ e s.Misspelling && AJ a s.Unclosed))) with
 | false=>rw [hck] at h; exact y h
 | true=>
  simp only [Bool.and_eq_true,beq_iff_eq,nz] at hck;obtain ⟨B,rfl,rfl,rfl⟩:=hck;exact Cw x hr z u r A (sameL_ok _ _ B) p o j i q
theorem Aj {xs:List AV} {vs:List Value} (g:GI ρ) (hr:HR F ρ (co t n) w) (hx:concL ρ xs=some vs) (a:xz xs t n≠.bad):fM Tryz.prog 43 vs w (nH F ρ (xz xs t n)):=by
 unfold xz at a ⊢;split at a
 ·rename_i b m lay mi un;split at a
  ·rename_i c k T own hb;cases hck:(nX t && Nat.ble (m*5) k) with
   | false=>rw [hck] at a; exact absurd rfl a
   | true=>
    rw [hck,cond_true] at a;simp only [hb,hck,cond_true];simp only [Bool.and_eq_true] at hck;have f:=Nat.le_of_ble_eq_true hck.2;rw [concL] at hx;cases hc:aD ρ (.agg [.sl b 0 m 5,.bool lay,.int .i64 mi,.int .i64 un]) with
    | none=>rw [hc] at hx; cases hx
    | some v=>
     rw [hc] at hx;cases hx
     have e:=fun {s:cg} {d:bB}=>@BV F ρ t n w g hr b k m c T own hb hck.1 f lay mi un v hc s d
     refine e Is (by decide) (by decide) (by decide) (by decide) (fun h=>?_) a;refine e Iy (by decide) (by decide) (by decide) (by decide) (fun h=>?_) h;refine e Ix (by decide) (by decide) (by decide) (by decide) (fun h=>?_) h;refine e Iw (by decide) (by decide) (by decide) (by decide) (fun h=>?_) h;refine e Iv (by decide) (by decide) (by decide) (by decide) (fun h=>?_) h;refine e Iu (by decide) (by decide) (by decide) (by decide) (fun h=>?_) h;refine e It (by decide) (by decide) (by decide) (by decide) (fun h=>?_) h;exact absurd rfl h
  ·exact absurd rfl a
 ·exact absurd rfl a
end
section
variable {F:Frm} {ρ:List Lx.Place} {t:HpT} {n:Nat} {w:World}
noncomputable def Hs (c:Nat) (l:List UInt8):Nat→Int:=List.rec (fun _=>Int.negSucc 0) (fun x _ ih i=>bif Nat.beq x.toNat c then Int.ofNat i else ih (Nat.succ i)) l
noncomputable def Gt (c:Nat) (l:List UInt8):Nat:=List.rec 0 (fun x _ ih=>bif Nat.beq x.toNat c then Nat.succ ih else ih) l
theorem xW {x:UInt8} {c:Nat} (hc:c<256):(x == UInt8.ofNat c)=Nat.beq x.toNat c:=by
 cases hb:Nat.beq x.toNat c with
 | true=>
  have:=Nat.eq_of_beq_eq_true hb;rw [beq_iff_eq,←this,UInt8.ofNat_toNat]
 | false=>
  rw [beq_eq_false_iff_ne];intro e;subst e;rw [UInt8.toNat_ofNat_of_lt' (by simpa using hc)] at hb;simp at hb
theorem As {c:Nat} (a:c<256):∀(l:List UInt8) (i:Nat),Hs c l i=if Lib.indexByte l (UInt8.ofNat c)=-1 then -1 else Lib.indexByte l (UInt8.ofNat c)+i
 | [],i=>rfl
 | x::l,i=>by
  have e:Hs c (x::l) i=bif Nat.beq x.toNat c then Int.ofNat i else Hs c l (i+1):=rfl;have f:Lib.indexByte (x::l) (UInt8.ofNat c)=if (x == UInt8.ofNat c)=true then 0 else if (Lib.indexByte l (UInt8.ofNat c) == -1)=true then -1 else Lib.indexByte l (UInt8.ofNat c)+1:=rfl
  have d:=Lib.indexByte_ge l (UInt8.ofNat c);rw [e,As a l (i+1),f,xW a];generalize Lib.indexByte l (UInt8.ofNat c)=z at d ⊢;cases Nat.beq x.toNat c with
  | true=>simp
  | false=>
   simp only [cond_false,Bool.false_eq_true,if_false]
   by_cases h:z=-1
   ·subst h; rfl
   ·have b:(z == -1)=false:=by simpa using h
    rw [if_neg h,b];simp only [Bool.false_eq_true,if_false];rw [if_neg (by omega)];omega
theorem AS {c:Nat} (hc:c<256):∀(l:List UInt8),Gt c l=Lib.countByte l (UInt8.ofNat c)
 | []=>rfl
 | x::l=>by
  have e:Gt c (x::l)=bif Nat.beq x.toNat c then Nat.succ (Gt c l) else Gt c l:=rfl;rw [e,AS hc l];unfold Lib.countByte;rw [List.count_cons,xW hc];cases Nat.beq x.toNat c <;> rfl
noncomputable def sO (xs:List AV) (t:HpT) (n:Nat):OR:=match xs with
 | [.str s,.int .u8 (.ofNat c)]=>bif Nat.blt c 256 then .mem (.int .i64 (Hs c s 0)) t n else .bad
 | _=>.bad
noncomputable def sX (xs:List AV) (t:HpT) (n:Nat):OR:=match xs with
 | [.str s,.int .u8 (.ofNat c)]=>bif Nat.blt c 256 then .mem (.int .i64 (.ofNat (Gt c s))) t n else .bad
 | _=>.bad
theorem xO {a b:AV} {vs:List Value} {u v:Value} (ha:aD ρ a=some u) (hb:aD ρ b=some v) (hx:concL ρ [a,b]=some vs):vs=[u,v]:=by
 simp only [concL,ha,hb] at hx;exact (Option.some.inj hx).symm
theorem yH {xs:List AV} {vs:List Value} (d:GI ρ) (hr:HR F ρ (co t n) w) (hx:concL ρ xs=some vs) (a:sO xs t n≠.bad):fM Tryz.prog 345 vs w (nH F ρ (sO xs t n)):=by
 unfold sO at a ⊢;split at a
 ·rename_i s c;cases hck:Nat.blt c 256 with
  | false=>rw [hck] at a; exact absurd rfl a
  | true=>
   have b:c<256:=Nat.le_of_ble_eq_true hck;obtain rfl:=xO (u:=ao s) (v:=.int .u8 (.ofNat c)) rfl rfl hx;simp only [hck,cond_true];refine .inr ⟨.int .i64 (Lib.indexByte s (UInt8.ofNat c)),w,?_,ρ,_,t,n,rfl,bj.refl _,hr,?_⟩
   ·rw [run_callFunc_extern Tryz.func345 (by kernel_rfl) (by kernel_rfl) (by kernel_rfl) (e:=Extern.BytealgIndexByte.indexByte) (by kernel_rfl)];have:=Lib.run_indexByteString (P:=Tryz.prog) ⟨s.toArray⟩ (.ofNat c) w;rw [show ([ao s,Value.int .u8 (.ofNat c)]:List Value).toArray=#[.string ⟨s.toArray⟩,.int .u8 (.ofNat c)] from rfl,this];rfl
   ·simp only [aD];rw [As b]
    by_cases h:Lib.indexByte s (UInt8.ofNat c)=-1
    ·rw [if_pos h,h]
    ·rw [if_neg h]; simp
 ·exact absurd rfl a
theorem yR {xs:List AV} {vs:List Value} (d:GI ρ) (hr:HR F ρ (co t n) w) (hx:concL ρ xs=some vs) (a:sX xs t n≠.bad):fM Tryz.prog 289 vs w (nH F ρ (sX xs t n)):=by
 unfold sX at a ⊢;split at a
 ·rename_i s c;cases hck:Nat.blt c 256 with
  | false=>rw [hck] at a; exact absurd rfl a
  | true=>
   have b:c<256:=Nat.le_of_ble_eq_true hck;obtain rfl:=xO (u:=ao s) (v:=.int .u8 (.ofNat c)) rfl rfl hx;simp only [hck,cond_true];refine .inr ⟨.int .i64 (Lib.countByte s (UInt8.ofNat c):Nat),w,?_,ρ,_,t,n,rfl,bj.refl _,hr,?_⟩
   ·rw [run_callFunc_extern Tryz.func289 (by kernel_rfl) (by kernel_rfl) (by kernel_rfl) (e:=Extern.BytealgCount.count) (by kernel_rfl)];have:=Lib.run_countString (P:=Tryz.prog) ⟨s.toArray⟩ (.ofNat c) w;rw [show ([ao s,Value.int .u8 (.ofNat c)]:List Value).toArray=#[.string ⟨s.toArray⟩,.int .u8 (.ofNat c)] from rfl,this];rfl
   ·simp only [aD];rw [AS b];rfl
 ·exact absurd rfl a
noncomputable def oE (xs:List AV) (t:HpT) (n:Nat):OR:=match xs with
 | [.sl0,.int .i64 (.ofNat k)]=>Nat.casesOn k (.mem .sl0 t n) fun k=>bif Nat.ble k 1000000 then .mem (.sl n 0 0 1) (t.put n (.cells .nil 0 3 1 true)) (Nat.succ n) else .bad
 | _=>.bad
theorem wq {xs:List AV} {vs:List Value} (r:GI ρ) (hr:HR F ρ (co t n) w) (hx:concL ρ xs=some vs) (b:oE xs t n≠.bad):fM Tryz.prog 215 vs w (nH F ρ (oE xs t n)):=by
 unfold oE at b ⊢;split at b
 ·rename_i k;obtain rfl:=xO (u:=.slice none 0 0) (v:=.int .i64 (.ofNat k)) rfl rfl hx;refine .inl ⟨lR (by kernel_rfl),?_⟩;cases k with
  | zero=>
   refine Calls.mono (Any8.slices_Grow_room Tryz.grow215 none 0 0 0 w (by omega) (by omega) (by omega) (by omega)) ?_;rintro e w' ⟨rfl,rfl⟩;exact ⟨_,rfl,ρ,.sl0,t,n,rfl,bj.refl _,hr,rfl⟩
  | succ k=>
   cases hck:Nat.ble k 1000000 with
   | false=>
    have b:(bif Nat.ble k 1000000 then OR.mem (.sl n 0 0 1) (t.put n (.cells .nil 0 3 1 true)) (Nat.succ n) else .bad)≠.bad:=b;rw [hck] at b; exact absurd rfl b
   | true=>
    have q:=Nat.le_of_ble_eq_true hck;have c:(Tryz.prog.info? (Tryz.grow215_ren.t 25)).map (fun i=>(i.zero,i.size,i.bytes))=some (some (.int .i64 0),1,8):=by kernel_rfl
    cases d:Tryz.prog.info? (Tryz.grow215_ren.t 25) with
    | none=>rw [d] at c; cases c
    | some j=>
     rw [d] at c;simp only [Option.map_some,Option.some.injEq,Prod.mk.injEq] at c;obtain ⟨g,p,z3⟩:=c;refine Calls.mono (Any8.slices_Grow_grow Tryz.grow215 j (.int .i64 0) d g (by omega) none 0 0 (k+1) [] w (by omega) (by omega) (by rw [z3]; omega) (by omega) (by simp) (fun _=>rfl) (fun a h=>by cases h)) ?_;rintro e w' ⟨rfl,rfl⟩;have o:0+(k+1)≤grownCap w (0+(k+1)) 0 (Tryz.grow215_ren.t 25):=grownCap_ge w _ _ _;have m:grownCap w (0+(k+1)) 0 (Tryz.grow215_ren.t 25)≤maxLen:=grownCap_le_maxLen w _ _ _ (by unfold maxLen; omega);refine ⟨_,rfl,ρ++[⟨w.drew.heap.size,0,grownCap w (0+(k+1)) 0 (Tryz.grow215_ren.t 25)⟩],.sl n 0 0 1,t.put n (.cells .nil 0 3 1 true),n+1,?_,bj.app _ _,?_,?_⟩
     ·show (bif Nat.ble k 1000000 then OR.mem (.sl n 0 0 1) (t.put n (.cells .nil 0 3 1 true)) (Nat.succ n) else .bad)=_;rw [hck]; rfl
     ·rw [dq];refine hr.drew.alloc _ ⟨_,_,_,heap_alloc_new _ _,fun _=>⟨rfl,rfl,rfl,Nat.mod_one _,by rw [Nat.div_one]; exact m,?_⟩,Nat.zero_le _,fun i a f=>?_⟩
      ·simp only [Nat.zero_add] at o ⊢;simp [Builtin.zeroCells,Value.cells];omega
      ·simp only [XB.ab,fy] at f;rw [if_neg (Nat.not_lt_zero _)] at f;cases f
     ·have l:ρ.length=n:=by rw [hr.len,cH]
      simp only [aD];rw [←l,List.getElem?_concat_length];simp
 ·exact absurd rfl b
def tE (a:AV) (ih:Option (List Str)):Option (List Str):=match a,ih with
 | .str s,some r=>some (s::r)
 | _,_=>none
noncomputable def tC (l:List AV):Option (List Str):=List.rec (some []) (fun a _ ih=>tE a ih) l
theorem tD {a:AV} {ih:Option (List Str)} {ss:List Str} (h:tE a ih=some ss):∃s r,a=.str s∧ih=some r∧ss=s::r:=by
 unfold tE at h;split at h
 ·cases h; exact ⟨_,_,rfl,rfl,rfl⟩
 ·cases h
theorem tB (ρ:List Lx.Place):∀ {l:List AV} {ss:List Str},tC l=some ss→concL ρ l=some (ss.flatMap fun s=>[ao s])
 | [],ss,h=>by cases h; rfl
 | a::l,ss,h=>by
  obtain ⟨s,r,rfl,hr,rfl⟩:=tD (show tE a (tC l)=some ss from h);simp only [concL,aD,tB ρ hr];rfl
theorem qQ:∀ {l:List AV} {ss:List Str},tC l=some ss→ss.length=l.length
 | [],ss,h=>by cases h; rfl
 | a::l,ss,h=>by
  obtain ⟨s,r,rfl,hr,rfl⟩:=tD (show tE a (tC l)=some ss from h);simp [qQ hr]
noncomputable def sK (xs:List AV) (t:HpT) (n:Nat):OR:=match xs with
 | [.sl b o m 1,.str sep]=>match t.get b with
  | .cells c k _ _ _=>bif Nat.ble (o+m) k then (match tC (qX c m o) with
   | some ss=>bif Nat.ble (cG ss) 1000000 && Nat.ble (cG (Lib.join ss sep)) 1000000 then .mem (.str (Lib.join ss sep)) t n else .bad
   | none=>.bad) else .bad
  | _=>.bad
 | _=>.bad
theorem yE {xs:List AV} {vs:List Value} (z:GI ρ) (hr:HR F ρ (co t n) w) (hx:concL ρ xs=some vs) (a:sK xs t n≠.bad):fM Tryz.prog 32 vs w (nH F ρ (sK xs t n)):=by
 unfold sK at a ⊢;split at a
 ·rename_i b o m sep;split at a
  ·rename_i c k T e own hb;cases hck:Nat.ble (o+m) k with
   | false=>rw [hck] at a; exact absurd rfl a
   | true=>
    rw [hck,cond_true] at a;simp only [hb,hck,cond_true];have h:=Nat.le_of_ble_eq_true hck;split at a
    ·rename_i ss hss;cases d:(Nat.ble (cG ss) 1000000 && Nat.ble (cG (Lib.join ss sep)) 1000000) with
     | false=>rw [d] at a; exact absurd rfl a
     | true=>
      simp only [cond_true];simp only [Bool.and_eq_true,cQ] at d;have B:=Nat.le_of_ble_eq_true d.1;have A:=Nat.le_of_ble_eq_true d.2;cases hp:ρ[b]? with
      | none=>simp only [concL,aD,hp] at hx; cases hx
      | some p=>
       obtain rfl:=xO (u:=.slice (some ⟨p.b,p.o+o,none⟩) m ((p.n - o) / 1)) (v:=ao sep) (by simp only [aD,hp]) rfl hx;have r:=cC hr hp hb;have q:ss.length=m:=by rw [qQ hss,mr]
       have j:concL ρ (((tx c k).drop o).take (m*1))=some (ss.flatMap fun s=>[ao s]):=by
        rw [Nat.mul_one,←mq c k m o h];exact tB ρ hss
       have l:=wX hr hp r (e:=1) (o:=o) (m:=m) (by decide) (by rw [eu,Nat.mul_one]; exact h) j (g:=iS w) rfl;have x:cv eE (iS w) (.slice (some ⟨p.b,p.o+o,none⟩) m ((p.n - o) / 1)) ss:=⟨_,pT (τ:=eE) (fun _=>rfl) ss,by rw [q]; exact l⟩;have y:M.e9 ss sep=some (Lib.join ss sep):=by
        unfold M.e9;rw [if_pos ⟨by omega,by omega⟩]
       refine .inl ⟨lR (by kernel_rfl),?_⟩;refine Calls.mono (oe y (CK w) x) ?_;rintro e w' ⟨u,rfl,g',⟨cs,rfl,f⟩,i⟩;have f:cs=_:=f;subst f;exact ⟨_,rfl,ρ,_,t,n,rfl,bj.refl _,hr.below_ i.below,rfl⟩
    ·exact absurd rfl a
  ·exact absurd rfl a
 ·exact absurd rfl a
noncomputable def Cv:zh:=fun f=>match f with
 | 43=>some (.mk xz)
 | 345=>some (.mk sO)
 | 289=>some (.mk sX)
 | 215=>some (.mk oE)
 | 32=>some (.mk sK)
 | _=>none
theorem xy:yf Tryz.prog Cv:=by
 intro f g h F ρ xs vs t n w hg hr hx hne;unfold Cv at h;split at h
 ·cases h; exact Aj hg hr hx hne
 ·cases h; exact yH hg hr hx hne
 ·cases h; exact yR hg hr hx hne
 ·cases h; exact wq hg hr hx hne
 ·cases h; exact yE hg hr hx hne
 ·cases h
theorem mixed:Tryz.prog.follows .mixedOrders=true:=by kernel_rfl
theorem zA {lib:zh} (hL:yf Tryz.prog lib) (fuel d:Nat):dS Tryz.prog (yq Tryz.prog lib fuel d):=xb (qa mixed) mu hL (Ce (qa mixed) mu) d
end
end Go.Proofs.YtbkjljkjhlcmoaaGreatDoor
namespace Go.Lx
open Go.RowKit
def dh:Code→List Code
 | .seq a b=>dh a++dh b
 | c=>[c]
def vg (P:Program) (fr:Fr) (Q:EPost) (R:Env→World→Prop):List Code→Env→World→Prop
 | [],E,w=>R E w
 | c::cs,E,w=>WP P fr c (ld (vg P fr Q R cs) Q) E w
theorem rL {P:Program} {fr:Fr} {Q:EPost} {R:Env→World→Prop} {ys:List Code}:∀(xs:List Code),vg P fr Q R (xs++ys)=vg P fr Q (vg P fr Q R ys) xs
 | []=>rfl
 | c::xs=>by
  funext E w
  show WP P fr c (ld (vg P fr Q R (xs++ys)) Q) E w=WP P fr c (ld (vg P fr Q (vg P fr Q R ys) xs) Q) E w;rw [rL xs]
theorem oQ {P:Program} {fr:Fr} {Q:EPost} {R:Env→World→Prop}:∀(c:Code) (cs:List Code) (E:Env) (w:World),vg P fr Q R (dh c++cs) E w→WP P fr c (ld (vg P fr Q R cs) Q) E w
 | .seq a b,cs,E,w,h=>by
  have h:vg P fr Q R ((dh a++dh b)++cs) E w:=h;rw [Jv] at h;refine aA ((oQ a (dh b++cs) E w h).mono fun e f d q=>?_);cases e with
  | normal=>exact oQ b cs f d q
  | _=>exact q
 | .skip,_,_,_,h=>h
 | .region _ _ _,_,_,_,h=>h
 | .cond _ _ _,_,_,_,h=>h
 | .block _ _,_,_,_,h=>h
 | .loop _,_,_,_,h=>h
 | .rangeFunc _ _ _ _,_,_,_,h=>h
 | .exit _,_,_,_,h=>h
 | .scope _,_,_,_,h=>h
 | .label _,_,_,_,h=>h
 | .goto _,_,_,_,h=>h
 | .ret,_,_,_,h=>h
 | .refuse _,_,_,_,h=>h
theorem rM {P:Program} {fr:Fr} {Q:EPost} {c:Code} {E:Env} {w:World} (h:vg P fr Q (Q .normal) (dh c) E w):WP P fr c Q E w:=by
 refine (oQ (R:=Q .normal) c [] E w (by rw [List.append_nil]; exact h)).mono fun e E2 w2 q=>?_
 cases e with
 | normal=>exact q
 | _=>exact q
def kB:KZ:=fun _ _ _ _=>.bad
def DR:Nat→KZ:=fun _=>kB
noncomputable def eX (P:Program) (df:Bool) (m fuel:Nat) (cs:List Code):CW fQ:=
 List.rec (.mk fun _ s t n ds kn _ _=>kn s t n ds) (fun c _ ih=>CW.casesOn (dO P df m fuel c) fun f=>CW.casesOn ih fun g=>.mk fun call s t n ds kn ke kr=>f call s t n ds (fun s t n ds=>g call s t n ds kn ke kr) ke kr) cs
section
variable {P:Program} {df:Bool} {m fuel:Nat} {call:CallY} {F:Frm} {ρ:List Place} {fr:Fr} {Q:EPost} {r:OR} {K:KZ} {E:Env} {w:World}
theorem we (h:KQ F ρ kB r E w) (hb:r≠.bad):False:=by
 obtain ⟨_,_,_,_,_,_,_,h⟩:=h;exact hb h.symm
theorem mT (u:ig P) (p:fC P) (l:fr.sz=m) (k:df=true→fr.ro=none) (o:dS P call) (d:r≠.bad) {R:Env→World→Prop} {Kr:KZ}:∀(cs:List Code) (f:fQ),eX P df m fuel cs=.mk f→∀(ρ:List Place) (s:FrT) (t:HpT) (n:Nat) (ds:DSs) (E:Env) (w:World),
 kH F ρ s t n ds E w→f call s t n ds K DR Kr=r→(∀E' w',KQ F ρ K r E' w'→R E' w')→(∀E' w',KQ F ρ Kr r E' w'→Q .ret E' w')→vg P fr Q R cs E w
 | [],f,a,ρ,s,t,n,ds,E,w,hs,he,hk,hr=>by
  cases a
  exact hk E w ⟨ρ,s,t,n,ds,bj.refl _,hs,he⟩
 | c::cs,f,a,ρ,s,t,n,ds,E,w,hs,he,hk,hr=>by
  have a:(CW.casesOn (dO P df m fuel c) fun f=>CW.casesOn (eX P df m fuel cs) fun g=>.mk fun call s t n ds D j h=>f call s t n ds (fun s t n ds=>g call s t n ds D j h) j h:CW fQ)=.mk f:=a;cases x:dO P df m fuel c with
  | mk J=>cases v:eX P df m fuel cs with
   | mk I=>
    rw [x,v] at a;cases a
    refine (dN u p fuel c J x fr call F ρ s t n ds _ DR Kr r E w l k o hs he d).mono fun e N z q=>?_
    cases e with
    | normal=>
     obtain ⟨ρ',s',A,B,L,y,H,G⟩:=q;exact mT u p l k o d cs I v ρ' s' A B L N z H G (fun E' w' b=>hk E' w' (b.trans y)) (fun E' w' b=>hr E' w' (b.trans y))
    | exit i=>exact (we q d).elim
    | ret=>exact hr _ _ q
    | _=>exact q.elim
theorem AL (t:ig P) (s:fC P) (q:dS P call) {fn:Func} {k:FrT→HpT→(List AV→OR)→OR} (p:il P fn.results.toList=some (.mk k)) (f:r≠.bad) (h:KQ F ρ (mP P fuel k call) r E w):LW P fn ⟨fn.ntmps,none⟩ E (nH F ρ r) E.ds w:=by
 obtain ⟨ρ',s',m,n,j,A,a,z⟩:=h;refine mj t s q f j E.ds ρ' m n w a.ds a.fr.g a.hr z ?_;intro c d e l b i y;have o:kH F c s' d e j E l:=⟨i,a.fr.mono b,a.ds.mono b⟩;obtain ⟨D,B,x,v,u⟩:=pe (fr:=⟨fn.ntmps,none⟩) p o y f;exact ⟨_,pf v,c,_,d,e,u.symm,A.trans b,i,xd x⟩
theorem rT (d:ig P) (c:fC P) (a:dS P call) {fn:Func} {e:FrT→HpT→(List AV→OR)→OR} (g:il P fn.results.toList=some (.mk e)) (b:r≠.bad) {cs:List Code} {f:fQ} (i:eX P true fn.ntmps fuel cs=.mk f) {s:FrT} {t:HpT} {n:Nat} {ds:DSs} (h:kH F ρ s t n ds E w)
 (j:f call s t n ds (mP P fuel e call) DR (mP P fuel e call)=r):vg P ⟨fn.ntmps,none⟩ (FW P fn ⟨fn.ntmps,none⟩ (nH F ρ r)) (FW P fn ⟨fn.ntmps,none⟩ (nH F ρ r) .normal) cs E w:=
 mT d c rfl (fun _=>rfl) a b cs f i ρ s t n ds E w h j (fun _ _ q=>AL d c a g b q) (fun _ _ q=>AL d c a g b q)
theorem lY {Q':EPost} {R R':Env→World→Prop} (hq:∀e E w,Q e E w→Q' e E w) (hr:∀E w,R E w→R' E w):∀(cs:List Code) (E:Env) (w:World),vg P fr Q R cs E w→vg P fr Q' R' cs E w
 | [],E,w,h=>hr E w h
 | c::cs,E,w,h=>WP.mono h fun e E2 w2 q=>by
  cases e with
  | normal=>exact lY hq hr cs E2 w2 q
  | _=>exact hq _ _ _ q
theorem kH.same {s s':FrT} {t:HpT} {n:Nat} {ds:DSs} (hs:kH F ρ s t n ds E w) (h:∀y,s'.at bV y=s.at bV y):kH F ρ s' t n ds E w:=⟨hs.hr,⟨hs.fr.g,fun y=>by rw [h y]; exact hs.fr.s y⟩,hs.ds⟩
theorem kH.set {s:FrT} {t:HpT} {n:Nat} {ds:DSs} (hs:kH F ρ s t n ds E w) (d:Nat) {a:AV} {v:Value} (ha:aD ρ a=some v):kH F ρ (s.set bV d a) t n ds (bR E d v) w:=
 ⟨hs.hr,hs.fr.put d ha (fun y=>by rw [TR.at_set]),hs.ds⟩
theorem kH.grow {s:FrT} {t t':HpT} {n n':Nat} {ds:DSs} {ρ':List Place} {w':World} (hs:kH F ρ s t n ds E w) (hg:bj ρ ρ') (hr:HR F ρ' (co t' n') w'):kH F ρ' s t' n' ds E w':=⟨hr,hs.fr.mono hg,hs.ds.mono hg⟩
theorem tI {s:FrT} {k:Nat} {a:AV} (h:s.at bV k=a):∀y,(s.set bV k a).at bV y=s.at bV y:=fun y=>by
 rw [TR.at_set];split
 ·rename_i e; rw [e,h]
 ·rfl
end
def zn (a:AV) (r:OR):OR:=match r with
 | .mem v t n=>.mem (.tup [a,v]) t n
 | _=>.bad
def vR:OR→AV
 | .mem (.tup [_,v]) _ _=>v
 | _=>bV
def tR:OR→HpT
 | .mem _ t _=>t
 | _=>.nil
def nR:OR→Nat
 | .mem _ _ n=>n
 | _=>0
theorem zm {a b v:AV} {r:OR} {t:HpT} {n:Nat} (h:zn a r=.mem (.tup [b,v]) t n):a=b∧r=.mem v t n:=by
 cases r with
 | mem v' t' n'=>
  simp only [zn] at h
  injection h with h1 h2 h3
  injection h1 with h1
  simp only [List.cons.injEq,and_true] at h1;exact ⟨h1.1,by rw [h1.2,h2,h3]⟩
 | _=>cases h
def jh (r:OR):Bool:=match r with
 | .mem (.bool true) _ _=>true
 | _=>false
theorem lF {r:OR} (h:jh r=true):∃t n,r=.mem (.bool true) t n:=by
 unfold jh at h;split at h
 ·exact ⟨_,_,rfl⟩
 ·cases h
noncomputable def Fl (L:Nat) (p:Nat→Bool):Bool:=Nat.rec true (fun i ih=>p i && ih) L
theorem yb {p:Nat→Bool}:∀ {L:Nat},Fl L p=true→∀i,i<L→p i=true
 | 0,_,i,hi=>by omega
 | L+1,h,i,hi=>by
  have h:(p L && Fl L p)=true:=h;simp only [Bool.and_eq_true] at h;rcases Nat.lt_succ_iff_lt_or_eq.1 hi with h'|h'
  ·exact yb h.2 i h'
  ·rw [h']; exact h.1
theorem mE {P:Program} {fn:Func} {n:Fr} {E:Env} {R R':Value→World→Prop} (h:∀v w,R v w→R' v w):∀(ds:List Deferred) (w:World),LW P fn n E R ds w→LW P fn n E R' ds w
 | [],w,⟨v,h1,h2⟩=>⟨v,h1,h v w h2⟩
 | _::ds,w,.inl ⟨D,w',h1,h2,h3⟩=>.inl ⟨D,w',h1,h2,mE h ds w' h3⟩
 | _::ds,w,.inr ⟨f,cap,S,h1,h2,h3,h4⟩=>.inr ⟨f,cap,S,h1,h2,h3,fun w' hs=>mE h ds w' (h4 w' hs)⟩
theorem sA {P:Program} {fn:Func} {n:Fr} {E:Env} {F:Frm} {ρ ρ':List Place} {r:OR} (hg:bj ρ ρ') (ds:List Deferred) (w:World) (h:LW P fn n E (nH F ρ' r) ds w):LW P fn n E (nH F ρ r) ds w:=
 mE (fun v w ⟨ρ2,a,t,n,h1,h2,h3,h4⟩=>⟨ρ2,a,t,n,h1,hg.trans h2,h3,h4⟩) ds w h
theorem lE {w w':World} (h:(Frm.all w).kept w'):Below w.heap.size w w':=⟨h.os,h.tape,h.output,h.size,fun k hk=>(h.block k hk).2⟩
end Go.Lx
