/- Part 12. -/
import Derived.Test.YtggpjcdhflcfmaaGreatDoorKLexspecKeywords11
set_option linter.unusedVariables false
set_option linter.unusedSimpArgs false
namespace Go.Proofs.YtggpjcdhflcfmaaGreatDoor
open Go.Lx
def mf (s:Int):List Int:=[IntKind.u8.wrap s,IntKind.u8.wrap (s / 256)]
def nF (l:List Int):Str:=cX (l.flatMap mf)
theorem wN (k:Nat):IntKind.u8.wrap (k:Int)=((k % 256:Nat):Int):=by simp [IntKind.wrap,IntKind.bits,IntKind.signed]
theorem qW:∀ {l m:List Int},(∀s∈l,0≤s∧s<65536)→(∀s∈m,0≤s∧s<65536)→nF l=nF m→l=m
 | [],[],_,_,_=>rfl
 | [],_::_,_,_,h=>by simp [nF,cX,mf] at h
 | _::_,[],_,_,h=>by simp [nF,cX,mf] at h
 | a::l,b::m,hl,hm,h=>by
  simp only [nF,cX,List.flatMap_cons,mf,Je,Jd,List.map_cons,List.cons.injEq] at h;obtain ⟨d,c,e⟩:=h;have ha:=hl a (by simp);have hb:=hm b (by simp);obtain ⟨x,rfl⟩:=Jn ha.1;obtain ⟨y,rfl⟩:=Jn hb.1;have j:((x:Int) / 256)=((x / 256:Nat):Int):=by omega
  have i:((y:Int) / 256)=((y / 256:Nat):Int):=by omega
  rw [j,i,wN,wN,Jl,Jl] at c;rw [wN,wN,Jl,Jl] at d;have g:=congrArg UInt8.toNat d;have f:=congrArg UInt8.toNat c;rw [UInt8.toNat_ofNat',UInt8.toNat_ofNat'] at g f;have:x=y:=by omega
  subst this;rw [qW (fun s hs=>hl s (by simp [hs])) (fun s hs=>hm s (by simp [hs])) e]
theorem we {l:List Int} (hl:l.length≤1000000):M.m6 l=some (nF l):=by
 refine Is.eq ?_;unfold M.m6;refine Is.bnq (x:=l.flatMap mf) ?_ (Is.pure rfl);refine Is.eq ?_;refine Is.upto (fun i (c:List Int×Int)=>c.2=(i:Int)∧c.1=(l.take i).flatMap mf) l.length (by omega) ⟨rfl,rfl⟩ ?_ ?_
 ·rintro i ⟨a,_⟩ d ⟨rfl,b⟩;obtain rfl:a=_:=b;have hlen:((l.take i).flatMap mf).length≤2*i:=by
   have:∀q:List Int,(q.flatMap mf).length=2*q.length:=by
    intro q;induction q with
    | nil=>rfl
    | cons x q ih=>simp [mf] at ih ⊢; omega
   rw [this,Jo]; omega
  refine Is.dt (by omega) (Is.bnq (be d) (Is.bnq (x:=l[i] / 256) rfl (Is.bnq (bO (by simp only [Jp,List.length_nil]; omega)) (Is.bnq (aK (by omega)) (Is.next ⟨rfl,?_⟩)))));rw [List.take_add_one,IQ d,List.flatMap_append];simp [mf]
 ·rintro ⟨a,_⟩ ⟨rfl,b⟩;obtain rfl:a=_:=b;refine Is.df (by omega) (Is.stop ?_);rw [IV]
structure AS (n:T_NFA) (sets:List (List Int)) (m:List (Str×Int)):Prop where
  old:∀(S:List Int) (k:Nat),sets[k]?=some S→cb m (nF S)=some (k:Int)
  new:∀S:List Int,(∃T,S=clo n T)→S∉sets→cb m (nF S)=none
def Db (n:T_NFA) (sets:List (List Int)) (S:List Int) (b:Nat) (x:Option Int):Prop:=
 (fC n S b=[]∧x=some (-1))∨∃k:Nat,sets[k]?=some (fC n S b)∧x=some (k:Int)
def nP (n:T_NFA) (fb:List Int) (sets:List (List Int)) (S row:List Int):Prop:=
 row.length=fb.length∧∀(c b:Nat),c<fb.length→fb[c]?=some (b:Int)→Db n sets S b row[c]?
theorem nH {α:Type} {l m:List α} {k:Nat} {x:α} (h:l[k]?=some x):(l++m)[k]?=some x:=by
 rw [Jc (IR.1 h).1]; exact h
theorem Db.app {n:T_NFA} {sets:List (List Int)} {S:List Int} {b:Nat} {x:Option Int} (h:Db n sets S b x) (m:List (List Int)):Db n (sets++m) S b x:=by
 rcases h with h|⟨k,h1,h2⟩
 ·exact .inl h
 ·exact .inr ⟨k,nH h1,h2⟩
theorem nP.app {n:T_NFA} {fb:List Int} {sets:List (List Int)} {S row:List Int} (h:nP n fb sets S row) (m:List (List Int)):nP n fb (sets++m) S row:=
 ⟨h.1,fun c b hc hb=>(h.2 c b hc hb).app m⟩
theorem sI {α:Type} (l:List α):l.filter (fun _=>true)=l:=List.filter_eq_self.2 fun _ _=>rfl
theorem Ck (acc:List Int) (l:List Int):-1≤oJ acc l:=by
 have:∀(l:List Int) (o:Int),-1≤o→-1≤l.foldl (gk acc) o:=by
  intro l;induction l with
  | nil=>exact fun _ h=>h
  | cons x l ih=>
   intro o a;refine ih _ ?_;unfold gk;cases h:decide (0≤acc.getD x.toNat 0) && (decide (o<0) || decide (acc.getD x.toNat 0<o))
   ·exact a
   ·rw [Bool.and_eq_true,decide_eq_true_eq] at h;show -1≤acc.getD x.toNat 0;omega
 exact this l _ (by omega)
theorem lI {α:Type} {l:List α} {k:Nat} {x d:α} (h:l[k]?=some x):l.getD k d=x:=by rw [IP,h]; rfl
section
variable {n:T_NFA} (hn:FitN n) (hlen:n.Arcs.length≤1000000)
include hn
theorem oH {S:List Int} (h:∃T,S=clo n T):(∀s∈S,0≤s∧s<65536)∧S.length≤2000:=by
 have h1:=rj hn S h;have h2:=hn.acc;have h3:=hn.most;exact ⟨fun s hs=>by have:=h1.1 s hs; omega,h1.2⟩
theorem AS.add {sets:List (List Int)} {m:List (Str×Int)} (h:AS n sets m) (hs:∀T∈sets,∃U,T=clo n U) {S:List Int} (j:S∉sets) (f:∃T,S=clo n T):AS n (sets++[S]) (dQ m (nF S) (sets.length:Int)):=by
 refine ⟨fun T k a=>?_,fun T i g=>?_⟩
 ·by_cases e:k<sets.length
  ·rw [Jc e] at a;have d:=List.mem_of_getElem? a;have b:nF T≠nF S:=fun c=>j (by rw [←qW (oH hn (hs T d)).1 (oH hn f).1 c]; exact d)
   rw [pI b];exact h.old T k a
  ·rw [Jv (by omega)] at a;have o:=(IR.1 a).1;simp only [IT] at o;have:k=sets.length:=by omega
   subst this;simp only [Nat.sub_self,List.getElem?_cons_zero,Option.some.injEq] at a;subst a;exact ou
 ·have b:nF T≠nF S:=fun c=>g (by rw [qW (oH hn i).1 (oH hn f).1 c]; simp)
  rw [pI b];exact h.new T i fun l=>g (List.mem_append_left _ l)
def AE (n:T_NFA) (d:T_DFA):Prop:=Ok d∧(∀w:Str,eK d (walkN d 0 w)=Dg n w)∧cols d≤256∧∀a∈d.Accept,∃S,a=oJ n.Accept S
structure FI (n:T_NFA) (fb:List Int) (sets nx:List (List Int)) (ac:List Int):Prop where
  all:lm n sets
  zero:sets[0]?=some (clo n [n.Start])
  few:sets.length≤500
  nxl:nx.length=sets.length
  acl:ac.length=sets.length
  row:∀(j:Nat) (S:List Int),sets[j]?=some S→∃r,nx[j]?=some r∧nP n fb sets S r
  acc:∀(j:Nat) (S:List Int),sets[j]?=some S→ac[j]?=some (oJ n.Accept S)
omit hn hlen in
theorem zR {fb:List Int} {sets nx:List (List Int)} {ac:List Int} (hf:fX (dD (n.Arcs.map (·.Set))) 256 fb) (h:FI n fb sets nx ac):AE n ⟨lV (n.Arcs.map (·.Set)),nx,ac⟩:=by
 have A:=hf.len;have X:0<sets.length:=(IR.1 h.zero).1;have H:∀r∈nx,∃S,nP n fb sets S r:=by
  intro r x;obtain ⟨j,l,rfl⟩:=Ji.1 x;have m:j<sets.length:=by rw [←h.nxl]; exact l
  obtain ⟨W,e,f⟩:=h.row j sets[j] (IQ m);rw [IQ l] at e;rw [Option.some.inj e];exact ⟨_,f⟩
 have o:cols ⟨lV (n.Arcs.map (·.Set)),nx,ac⟩=fb.length:=by
  unfold cols;obtain ⟨r,e,f⟩:=h.row 0 _ h.zero;show (nx.getD 0 []).length=_;rw [lI e];exact f.1
 have I:Ok ⟨lV (n.Arcs.map (·.Set)),nx,ac⟩:=by
  refine ⟨by simp [lV],by show 1≤nx.length; rw [h.nxl]; omega,by show nx.length≤500; rw [h.nxl]; exact h.few,by show ac.length=nx.length; rw [h.nxl,h.acl],by rw [o]; exact A.1,fun c g=>?_,fun r x=>?_,fun a ha=>?_⟩
  ·rw [o];have g:c∈(List.range 256).map fun i=>(cls (dD (n.Arcs.map (·.Set))) i:Int):=g
   obtain ⟨b,hb,rfl⟩:=Jt.1 g;obtain ⟨_,_,f,_⟩:=hf.at (Ju.1 hb);omega
  ·obtain ⟨S,z⟩:=H r x;refine ⟨by rw [o]; exact z.1,fun t G=>?_⟩;obtain ⟨c,g,rfl⟩:=Ji.1 G;have s:c<fb.length:=by rw [←z.1]; exact g
   obtain ⟨b,hb,B⟩:=hf.byte s;have K:fb[c]?=some (b:Int):=by
    rw [be s] at B;rw [IQ s,Option.some.inj B]
   rcases z.2 c b s K with ⟨_,f⟩|⟨k,e,f⟩
   ·rw [IQ g] at f;rw [Option.some.inj f];show -1≤(-1:Int)∧(-1:Int)<(nx.length:Int);omega
   ·rw [IQ g] at f;rw [Option.some.inj f];have:=(IR.1 e).1;show -1≤(k:Int)∧(k:Int)<(nx.length:Int);rw [h.nxl];omega
  ·obtain ⟨j,l,rfl⟩:=Ji.1 ha;have m:j<sets.length:=by rw [←h.acl]; exact l
   have e:=h.acc j sets[j] (IQ m);have J:ac[j]?=some ac[j]:=IQ l;rw [J] at e;rw [Option.some.inj e];exact Ck _ _
 have L:∀a∈ac,∃S,a=oJ n.Accept S:=by
  intro a ha;obtain ⟨j,l,rfl⟩:=Ji.1 ha;have m:j<sets.length:=by rw [←h.acl]; exact l
  have e:=h.acc j sets[j] (IQ m);rw [IQ l] at e;exact ⟨_,Option.some.inj e⟩
 refine ⟨I,fun w=>?_,by rw [o]; exact A.2,L⟩
 -- states beside sets
 let d:T_DFA:=⟨lV (n.Arcs.map (·.Set)),nx,ac⟩
 have D:∀(w:Str) (q:Int) (S:List Int),((q=-1∧S=[])∨∃k:Nat,q=(k:Int)∧sets[k]?=some S)→
  eK d (walkN d q w)=oJ n.Accept ((w.map UInt8.toNat).foldl (fC n) S):=by
  intro w;induction w with
  | nil=>
   rintro q S (⟨rfl,rfl⟩|⟨k,rfl,y⟩)
   ·rfl
   ·show eK d (k:Int)=oJ n.Accept S;unfold eK;rw [if_neg (by omega),Jl];exact lI (h.acc k S y)
  | cons c w ih=>
   rintro q S hq;refine ih _ _ ?_;have g:=c.toNat_lt;rcases hq with ⟨rfl,rfl⟩|⟨k,rfl,y⟩
   ·exact .inl ⟨rfl,Bf n _⟩
   ·obtain ⟨V,Y,Q,P,N⟩:=hf.at g;obtain ⟨r,e,f⟩:=h.row k S y;have hp:∀a∈n.Arcs,a.Epsilon=false→(fun _=>true) a=true:=fun _ _ _=>rfl
    have U:fC n S c.toNat=fC n S V:=(wY (p:=fun _=>true) hp (by rw [sI]; exact N) S).symm;have T:bM d (k:Int) c.toNat=r.getD (cls (dD (n.Arcs.map (·.Set))) c.toNat) 0:=by
     unfold bM;rw [if_neg (by omega),Jl];have R:d.Class.getD c.toNat 0=(cls (dD (n.Arcs.map (·.Set))) c.toNat:Int):=by
      show (lV (n.Arcs.map (·.Set))).getD c.toNat 0=_;refine lI ?_;unfold lV;rw [Jx,List.getElem?_range g]; rfl
     rw [R,Jl];show (nx.getD k []).getD _ 0=_;rw [lI e]
    show (bM d (k:Int) c.toNat=-1∧fC n S c.toNat=[])∨∃k':Nat,bM d (k:Int) c.toNat=(k':Int)∧sets[k']?=some (fC n S c.toNat);rw [U,T];rcases f.2 _ _ Q P with ⟨v,u⟩|⟨F,v,u⟩
    ·exact .inl ⟨lI u,v⟩
    ·exact .inr ⟨F,lI u,v⟩
 exact D w 0 _ (.inr ⟨0,rfl,h.zero⟩)
include hlen in
theorem Dz:Is (M.d2 n) fun r=>(r=(⟨[],[],[]⟩,11)∧FF n)∨(r.2=0∧tR n∧AE n r.1):=by
 have G:∃b,M.k9 n=some b∧b=true:=by
  obtain ⟨b,hb,h⟩:=xR (n:=n) (by omega) (by have:=hn.acc; have:=hn.most; omega);exact ⟨b,hb,h.2 ⟨hn.pos,hn.most,hn.start,hn.acc,hn.low,hn.arcs⟩⟩
 obtain ⟨_,G,rfl⟩:=G;unfold M.d2;refine Is.bnq G (Is.cf rfl ?_);refine Is.bnq (x:=n.Arcs.map (·.Set)) ?_ ?_
 ·refine Is.eq ?_;refine Is.upto (fun i (d:List (aV 4)×Int)=>d.2=(i:Int)∧d.1=(n.Arcs.take i).map (·.Set)) n.Arcs.length (by omega) ⟨rfl,rfl⟩ ?_ ?_
  ·rintro i ⟨a,_⟩ W ⟨rfl,B⟩;obtain rfl:a=_:=B;refine Is.dt (by omega) (Is.bnq (be W) (Is.bnq (bO (by simp only [Jg,Jo,IT]; omega)) (Is.bnq (aK (by omega)) (Is.next ⟨rfl,?_⟩))));rw [List.take_add_one,IQ W,Jh];rfl
  ·rintro ⟨a,_⟩ ⟨rfl,B⟩;obtain rfl:a=_:=B;refine Is.df (by omega) (Is.stop ?_);rw [IV]
 have hw:∀v∈n.Arcs.map (·.Set),W4 v:=by
  intro v G;obtain ⟨a,ha,rfl⟩:=Jt.1 G;exact hn.sets a ha
 refine Is.bnq (wL hw (by rw [Jg]; exact hlen)) ?_;refine Is.bnd (P:=fX (dD (n.Arcs.map (·.Set))) 256) ?_ fun fb Y=>?_
 ·unfold M.i4;exact Is.bnd (oR (by simp [lV]) (fun _ _=>rfl)) fun _ h=>Is.pure h
 have d9:=Y.len;have c1:∃T,clo n [n.Start]=clo n T:=⟨_,rfl⟩;have e0:=oH hn c1;refine Is.bnq (mR hn (by simp)) (Is.bnq (x:=clo n [n.Start]) rfl (Is.bnq (we (by omega)) ?_));refine Is.bs (P:=fun d:List (List Int)×List Int=>∃sets,FI n fb sets d.1 d.2∧tR n) (Q:=fun r:T_DFA×Int=>(r=(⟨[],[],[]⟩,11)∧FF n)∨(r.2=0∧tR n∧AE n r.1)) ?_ fun d h=>?_
 case refine_2=>
  obtain ⟨nx,ac⟩:=d;obtain ⟨sets,B,J⟩:=h;exact Is.pure (.inr ⟨rfl,J,zR Y B⟩)
 refine Is.while (fun d:List (List Int)×List Int×List (List Int)×List (Str×Int)×Int=>∃i:Nat,d.2.2.2.2=(i:Int)∧i≤d.2.2.1.length∧d.1.length=i∧d.2.1.length=i∧lm n d.2.2.1∧d.2.2.1[0]?=some (clo n [n.Start])∧d.2.2.1.length≤500∧AS n d.2.2.1 d.2.2.2.1∧
  (∀(j:Nat) (S:List Int),j<i→d.2.2.1[j]?=some S→∃r,d.1[j]?=some r∧nP n fb d.2.2.1 S r)∧(∀(j:Nat) (S:List Int),j<i→d.2.2.1[j]?=some S→d.2.1[j]?=some (oJ n.Accept S))) (fun d=>501 - d.2.2.2.2.toNat)
  ⟨0,rfl,by simp,rfl,rfl,⟨by simp,fun S hS=>by rw [IY.1 hS]; exact .start,by simp⟩,rfl,by simp,?_,fun j S u=>by omega,fun j S u=>by omega⟩ (by show 501 - _≤_; omega) ?_
 ·have h0:AS n [] []:=⟨fun S k h=>by simp at h,fun S _ _=>rfl⟩;exact h0.add hn (by simp) (by simp) c1
 rintro ⟨nx,ac,sets,m,_⟩ ⟨i,rfl,W,V,a0,hs,a4,h5,b8,U,hacc⟩;simp only at W V a0 hs a4 h5 b8 U hacc
 by_cases hil:i<sets.length
 case neg=>
  have:i=sets.length:=by omega
  subst this;have t:∀(j:Nat) (S:List Int),sets[j]?=some S→j<sets.length:=fun j S h=>(IR.1 h).1
  refine Is.df (by omega) (Is.stop ⟨sets,⟨hs,a4,h5,V,a0,fun j S h=>U j S (t j S h) h,fun j S h=>hacc j S (t j S h) h⟩,sets,h5,?_⟩);have hp:∀a∈n.Arcs,a.Epsilon=false→(fun _=>true) a=true:=fun _ _ _=>rfl
  refine zd (p:=fun _=>true) hp (fb:=fb) (by rw [sI]; exact Y) hs ?_;intro S hS c b z hb c9;obtain ⟨j,u,rfl⟩:=Ji.1 hS;obtain ⟨r,_,J⟩:=U j _ u (IQ u);rcases J.2 c b z hb with ⟨h3,_⟩|⟨k,h3,_⟩
  ·exact absurd h3 c9
  ·exact List.mem_of_getElem? h3
 refine Is.dt (by omega) ?_;have b1:=hs.rs _ (IU hil);have a1:sets[i]?=some sets[i]:=IQ hil;generalize sets[i]=S at b1 a1;have b0:=xf hn b1;refine Is.bs (P:=fun d:List (List Int)×List Int×List (List Int)×List (Str×Int)=>∃g,d.2.2.1=sets++g∧d.1.length=i+1∧d.2.1.length=i+1∧lm n d.2.2.1∧d.2.2.1.length≤500∧AS n d.2.2.1 d.2.2.2∧
  (∀j,j<i→d.1[j]?=nx[j]?)∧(∀j,j<i→d.2.1[j]?=ac[j]?)∧(∃r,d.1[i]?=some r∧nP n fb d.2.2.1 S r)∧d.2.1[i]?=some (oJ n.Accept S)) ?_ ?_
 ·refine Is.bnq (dW (n:=fb.length) (by omega)) ?_;refine Is.bs (P:=fun d:List (List Int)×List (Str×Int)×List Int=>∃g,d.1=sets++g∧lm n d.1∧d.1.length≤500∧AS n d.1 d.2.1∧nP n fb d.1 S d.2.2) ?_ ?_
  ·refine Is.upto (fun c (d:List (List Int)×List (Str×Int)×List Int×Int)=>d.2.2.2=(c:Int)∧(∃g,d.1=sets++g)∧lm n d.1∧d.1.length≤500∧AS n d.1 d.2.1∧d.2.2.1.length=fb.length∧(∀(s b:Nat),s<c→fb[s]?=some (b:Int)→Db n d.1 S b d.2.2.1[s]?)) fb.length (by omega)
    ⟨rfl,⟨[],by simp⟩,hs,h5,b8,by simp,fun s b z=>by omega⟩ ?_ ?_
   ·rintro c ⟨e,R,row,_⟩ z ⟨rfl,⟨g,f⟩,o,y,q,w,D⟩;simp only at f o y q w D;refine Is.dt (by omega) ?_;obtain ⟨b,c2,a8⟩:=Y.byte z;have d3:fb[c]?=some (b:Int):=by
     rw [be z] at a8;rw [IQ z,Option.some.inj a8]
    have a6:bC e (i:Int)=some S:=by
     have:e[i]?=some S:=by rw [f]; exact nH a1
     have H:=(IR.1 this).1;rw [be H];rw [IQ H] at this;exact this
    have a7:∃T,fC n S b=clo n T:=⟨_,rfl⟩;have b6:=oH hn a7;have b9:∀(A:List (List Int)) (x:Int) (mm:List (List Int)),A=e++mm→Db n A S b (some x)→∀a3:List Int,a3=row.set c x→∀(s K:Nat),s<c+1→fb[s]?=some (K:Int)→Db n A S K a3[s]?:=by
     intro A x mm F N a3 L s K d4 a9;subst L;rcases Nat.lt_or_eq_of_le (Nat.le_of_lt_succ d4) with t|rfl
     ·rw [List.getElem?_set_ne (by omega),F];exact (D s K t a9).app mm
     ·rw [d3] at a9;obtain rfl:b=K:=by have:=Option.some.inj a9; omega
      rw [List.getElem?_set_self (by omega)];exact N
    refine Is.bs (P:=fun d:List (List Int)×List (Str×Int)×List Int=>(∃g,d.1=sets++g)∧lm n d.1∧d.1.length≤500∧AS n d.1 d.2.1∧d.2.2.length=fb.length∧(∀(s b:Nat),s<c+1→fb[s]?=some (b:Int)→Db n d.1 S b d.2.2[s]?)) ?_ fun d h=>Is.bnq (aK (by omega)) (Is.next ⟨rfl,h⟩)
    refine Is.bnq a8 (Is.bnq a6 (Is.bnq (Bg hn (by have:=b0.2; omega) c2) (Is.bnq (cK (by omega)) ?_)))
    by_cases hz:fC n S b=[]
    ·rw [hz];exact Is.ct rfl (Is.next ⟨⟨g,f⟩,o,y,q,by show (row.set c (-1)).length=_; rw [Jz]; exact w,b9 e (-1) [] (by simp) (.inl ⟨hz,rfl⟩) _ rfl⟩)
    ·refine Is.cf (cq (by have:=List.length_pos_iff.2 hz; omega)) (Is.bnq (we (by have:=b6.2; omega)) ?_);have hr:RS n (fC n S b):=.step b1 c2 hz;refine Is.bs (P:=fun d:List (List Int)×List (Str×Int)×Int=>∃(mm:List (List Int)) (k:Nat),d.1=e++mm∧lm n d.1∧d.1.length≤500∧AS n d.1 d.2.1∧d.2.2=(k:Int)∧d.1[k]?=some (fC n S b)) ?_ ?_
     ·by_cases hmem:fC n S b∈e
      ·obtain ⟨k,hk,d1⟩:=Ji.1 hmem;have c0:e[k]?=some (fC n S b):=by rw [IQ hk,d1]
       have X:=q.old _ k c0;refine Is.cf (by rw [X]; rfl) (Is.next ⟨[],k,by simp,o,y,q,?_,c0⟩);show (cb R (nF (fC n S b))).getD 0=_;rw [X]; rfl
      ·have X:=q.new _ a7 hmem;refine Is.ct (by rw [X]; rfl) (Is.cnd (fun I=>Is.stop ?_) (fun I=>?_))
       ·have I:=dA I;refine .inl ⟨rfl,e++[fC n S b],(o.add hmem hr).nodup,by simp only [IW,IT]; omega,(o.add hmem hr).rs⟩
       ·have I:=nz I;refine Is.bnq (we (by have:=b6.2; omega)) (Is.bnq (bO (by simp only [IT]; omega)) (Is.next ⟨[fC n S b],e.length,rfl,o.add hmem hr,by show (e++[fC n S b]).length≤500; simp only [IW,IT]; omega,q.add hn (fun T l=>(o.rs T l).clo) hmem a7,rfl,by simp⟩))
     ·rintro ⟨A,m2,k2⟩ ⟨mm,k,F,N,L,q4,rfl,q6⟩;simp only at F N L q4 q6;refine Is.bnq (cK (by rw [Jz]; omega)) (Is.next ⟨⟨g++mm,by show A=_; rw [F,f,Ja]⟩,N,L,q4,by show ((row.set c (-1)).set c (k:Int)).length=_; rw [Jz,Jz]; exact w,b9 A (k:Int) mm F (.inr ⟨k,q6,rfl⟩) _ (List.set_set ..)⟩)
   ·rintro ⟨e,R,row,_⟩ ⟨rfl,⟨g,f⟩,o,y,q,w,D⟩;exact Is.df (by omega) (Is.stop ⟨g,f,o,y,q,w,fun c b z hb=>D c b z hb⟩)
  ·rintro ⟨e,R,row⟩ ⟨g,f,o,y,q,w⟩;simp only at f o y q w;have a6:bC e (i:Int)=some S:=by
    have:e[i]?=some S:=by rw [f]; exact nH a1
    have H:=(IR.1 this).1;rw [be H];rw [IQ H] at this;exact this
   refine Is.bnq (bO (by simp only [IT]; omega)) (Is.bnq a6 (Is.bnq (wD b0.1 (by have:=b0.2; omega)) (Is.bnq (bO (by simp only [IT]; omega)) (Is.next ⟨g,f,by simp [V],by simp [a0],o,y,q,fun j u=>?_,fun j u=>?_,⟨row,?_,w⟩,?_⟩))))
   ·exact Jc (by omega)
   ·exact Jc (by omega)
   ·subst V; exact List.getElem?_concat_length
   ·subst a0; exact List.getElem?_concat_length
 ·rintro ⟨d6,e1,e,R⟩ ⟨g,f,o,y,q,w,D,g7,g8,g9,c7⟩;simp only at f o y q w D g7 g8 g9 c7;have d0:i+1≤e.length:=by rw [f,IW]; omega
  have b7:∀(j:Nat) (T:List Int),j<i→e[j]?=some T→sets[j]?=some T:=by
   intro j T u l;rw [f,Jc (by omega)] at l;exact l
  have c3:e[i]?=some S:=by rw [f]; exact nH a1
  refine Is.bnq (aK (by omega)) (Is.next ⟨⟨i+1,rfl,d0,o,y,q,by show e[0]?=_; rw [f]; exact nH a4,w,D,fun j T u l=>?_,fun j T u l=>?_⟩,by show 501 - ((i+1:Nat):Int).toNat<501 - ((i:Nat):Int).toNat; omega⟩)
  ·rcases Nat.lt_or_eq_of_le (Nat.le_of_lt_succ u) with t|rfl
   ·obtain ⟨r,B,J⟩:=U j T t (b7 j T t l);refine ⟨r,by rw [←B]; exact g7 j t,?_⟩;show nP n fb e T r;rw [f];exact J.app g
   ·have l:e[j]?=some T:=l;rw [c3] at l;rw [←Option.some.inj l];exact g9
  ·rcases Nat.lt_or_eq_of_le (Nat.le_of_lt_succ u) with t|rfl
   ·rw [←hacc j T t (b7 j T t l)];exact g8 j t
   ·have l:e[j]?=some T:=l;rw [c3] at l;rw [←Option.some.inj l];exact c7
end
inductive bQ:T_Regex→Prop where
  | mk (x:T_Regex):(AD .i64) x.Kind→(fun v=>∀x∈v.1,AD .u64 x) x.Set→(∀y∈x.Kids,bQ y)→x.Kids.length≤maxLen→bQ x
theorem T_Regex.ind {P:T_Regex→Prop} (h:∀k s l,(∀y∈l,P y)→P ⟨k,s,l⟩):∀x,P x
 | ⟨k,s,l⟩=>h k s l fun y _=>T_Regex.ind h y
theorem jH {k s l} (h:bQ ⟨k,s,l⟩):∀y∈l,bQ y:=by cases h; assumption
theorem vQ {k s l} (h:bQ ⟨k,s,l⟩):l.length≤maxLen:=by cases h; assumption
theorem zq {k s l} (h:bQ ⟨k,s,l⟩):∀x∈s.1,AD .u64 x:=by cases h; assumption
def iU (k:Int) (s:aV 4) (n:Nat):Bool:=
 bif k == 1 || k == 2 then n == 0 && s == aV.zero 4
 else bif k == 3 then n == 0 && s != aV.zero 4
 else bif k == 4 || k == 5 then decide (2≤n) && s == aV.zero 4
 else bif k == 6 then n == 1 && s == aV.zero 4
 else false
def V:Nat→T_Regex→Bool
 | 0,_=>false
 | d+1,x=>iU x.Kind x.Set x.Kids.length && x.Kids.all (V d)
theorem qS {α ρ:Type} {l:List α} {f:α→Option Bool} {p:α→Bool} {X Y:ρ} (hf:∀y∈l,f y=some (p y)) (hl:l.length≤9223372036854775807) :
 ba (fun (i:Int)=>bif decide (i<(l.length:Int)) then (bC l i).bind fun e=>(f e).bind fun r=>bif (!r) then some (.stop X) else (bZ .i64 (i+1)).bind fun t=>some (.next t)
  else some (.stop Y)) aZ (0:Int)=some (if l.all p then Y else X):=by
 refine Is.eq ?_;refine Is.upto (fun i s=>s=(i:Int)∧(l.take i).all p=true) l.length hl ⟨rfl,by simp⟩ ?_ ?_
 ·rintro i _ a ⟨rfl,b⟩;refine Is.dt (by omega) (Is.bnq (be a) (Is.bnq (hf _ (IU a)) ?_));refine Is.cnd (fun h=>?_) (fun h=>?_)
  ·have h:p l[i]=false:=by simpa using h
   refine Is.stop ?_;rw [if_neg];intro c;have:=List.all_eq_true.1 c _ (IU a);rw [h] at this; exact absurd this (by simp)
  ·have h:p l[i]=true:=by simpa using h
   refine Is.bnq (aK (by omega)) (Is.next ⟨rfl,?_⟩);rw [List.take_add_one,List.all_append,b,IQ a];simp [h]
 ·rintro _ ⟨rfl,b⟩;refine Is.df (by omega) (Is.stop ?_);rw [IV] at b;rw [if_pos b]
theorem zH {α ρ:Type} {l:List α} {f:α→Option Bool} {p:α→Bool} {X Y:ρ} (hf:∀y∈l,f y=some (p y)) (hl:l.length≤9223372036854775807) :
 ba (fun (i:Int)=>bif decide (i<(l.length:Int)) then (bC l i).bind fun e=>(f e).bind fun r=>bif r then some (.stop X) else (bZ .i64 (i+1)).bind fun t=>some (.next t)
  else some (.stop Y)) aZ (0:Int)=some (if l.any p then X else Y):=by
 refine Is.eq ?_;refine Is.upto (fun i s=>s=(i:Int)∧(l.take i).any p=false) l.length hl ⟨rfl,by simp⟩ ?_ ?_
 ·rintro i _ a ⟨rfl,b⟩;refine Is.dt (by omega) (Is.bnq (be a) (Is.bnq (hf _ (IU a)) ?_));refine Is.cnd (fun h=>?_) (fun h=>?_)
  ·refine Is.stop ?_;rw [if_pos];exact List.any_eq_true.2 ⟨_,IU a,h⟩
  ·refine Is.bnq (aK (by omega)) (Is.next ⟨rfl,?_⟩);rw [List.take_add_one,List.any_append,b,IQ a];simp [h]
 ·rintro _ ⟨rfl,b⟩;refine Is.df (by omega) (Is.stop ?_);rw [IV] at b;rw [if_neg (by simp [b])]
theorem yT:∀(d a:Nat) (x:T_Regex),bQ x→d≤30→d<a→M.e3 a x d=some (V d x):=by
 intro d;induction d with
 | zero=>
  intro a x _ _ hf;obtain ⟨a,rfl⟩:∃f,a=f+1:=⟨a - 1,by omega⟩;simp [M.e3,V]
 | succ d ih=>
  intro a x ok hd hf;obtain ⟨a,rfl⟩:∃f,a=f+1:=⟨a - 1,by omega⟩;obtain ⟨k,s,l⟩:=x;have hl:l.length≤9223372036854775807:=Nat.le_trans (vQ ok) (by decide);have o:bZ .i64 ((d+1:Nat) - 1:Int)=some (d:Int):=by rw [dX (by omega) (by omega)]; congr 1; omega
  have p:(((d+1:Nat):Int) == 0)=false:=cq (by omega);have g:=qS (ρ:=cQ Unit Bool) (f:=fun e=>M.e3 a e d) (X:=.stop false) (Y:=.next ()) (fun y hy=>ih a y (jH ok y hy) (by omega) (by omega)) hl;have hb:(s != aV.zero 4)=!(s == aV.zero 4):=rfl;unfold M.e3 V iU;simp only [o,p,IS,cond_false,hb];rw [g];have b:l.length=0→l.all (V d)=true:=by intro h; rw [JJ h]; rfl
  generalize l.all (V d)=A at b ⊢;generalize (s == aV.zero 4)=z;generalize l.length=n at b ⊢;have gj:k=1∨k=2∨k=3∨k=4∨k=5∨k=6∨(k≠1∧k≠2∧k≠3∧k≠4∧k≠5∧k≠6):=by omega
  clear g hl ok ih hb;have D:∀m:Nat,decide ((m:Int)+1+1<2)=false:=fun m=>eu (by omega)
  have B:∀m:Nat,decide ((m:Int)+1+1≤0)=false:=fun m=>eu (by omega)
  have w:∀m:Nat,((m:Int)+1+1 == 0)=false:=fun m=>cq (by omega)
  have v:∀m:Nat,((m:Int)+1+1 == 1)=false:=fun m=>cq (by omega)
  have v4:∀m:Nat,((m:Int)+1+1 != 1)=true:=fun m=>mp (by omega)
  have u:∀m:Nat,decide ((0:Int)<(m:Int)+1+1)=true:=fun m=>dL (by omega)
  have t:∀m:Nat,decide ((1:Int)<(m:Int)+1+1)=true:=fun m=>dL (by omega)
  have r:∀m:Nat,decide ((m:Int)+1+1<0)=false:=fun m=>eu (by omega)
  have q:∀m:Nat,decide ((m:Int)+1+1<1)=false:=fun m=>eu (by omega)
  rcases gj with rfl|rfl|rfl|rfl|rfl|rfl|⟨j,i,c,n4,n5,n6⟩ <;> rcases n with _|_|n <;> cases z <;> cases A <;> first|exact absurd (b rfl) (by decide)|(simp [bp, *]; done)|(have L:=cq j; have K:=cq i; have J:=cq c; have I:=cq n4; have H:=cq n5; have G:=cq n6; have F:=mp c; simp [bp, *])
theorem uv:∀(d a:Nat) (x:T_Regex),bQ x→d≤30→d<a→M.e6 a x ((30 - d:Nat):Int)=some (V d x):=by
 intro d;induction d with
 | zero=>
  intro a x _ _ hf;obtain ⟨a,rfl⟩:∃f,a=f+1:=⟨a - 1,by omega⟩;simp [M.e6,V]
 | succ d ih=>
  intro a x ok hd hf;obtain ⟨a,rfl⟩:∃f,a=f+1:=⟨a - 1,by omega⟩;obtain ⟨k,s,l⟩:=x;have hl:l.length≤9223372036854775807:=Nat.le_trans (vQ ok) (by decide);have o:bZ .i64 (((30 - (d+1):Nat):Int)+1)=some ((30 - d:Nat):Int):=by rw [dX (by omega) (by omega)]; congr 1; omega
  have p:decide (30≤((30 - (d+1):Nat):Int))=false:=decide_eq_false (by omega);have g:=qS (ρ:=cQ Unit Bool) (f:=fun e=>M.e6 a e ((30 - d:Nat):Int)) (X:=.stop false) (Y:=.next ()) (fun y hy=>ih a y (jH ok y hy) (by omega) (by omega)) hl;have hb:(s != aV.zero 4)=!(s == aV.zero 4):=rfl;unfold M.e6 V iU;simp only [o,p,IS,cond_false,hb];rw [g];have b:l.length=0→l.all (V d)=true:=by intro h; rw [JJ h]; rfl
  generalize l.all (V d)=A at b ⊢;generalize (s == aV.zero 4)=z;generalize l.length=n at b ⊢;have gj:k=1∨k=2∨k=3∨k=4∨k=5∨k=6∨(k≠1∧k≠2∧k≠3∧k≠4∧k≠5∧k≠6):=by omega
  clear g hl ok ih hb;have D:∀m:Nat,decide ((m:Int)+1+1<2)=false:=fun m=>eu (by omega)
  have B:∀m:Nat,decide ((m:Int)+1+1≤0)=false:=fun m=>eu (by omega)
  have w:∀m:Nat,((m:Int)+1+1 == 0)=false:=fun m=>cq (by omega)
  have v:∀m:Nat,((m:Int)+1+1 == 1)=false:=fun m=>cq (by omega)
  have v4:∀m:Nat,((m:Int)+1+1 != 1)=true:=fun m=>mp (by omega)
  have u:∀m:Nat,decide ((0:Int)<(m:Int)+1+1)=true:=fun m=>dL (by omega)
  have t:∀m:Nat,decide ((1:Int)<(m:Int)+1+1)=true:=fun m=>dL (by omega)
  have r:∀m:Nat,decide ((m:Int)+1+1<0)=false:=fun m=>eu (by omega)
  have q:∀m:Nat,decide ((m:Int)+1+1<1)=false:=fun m=>eu (by omega)
  rcases gj with rfl|rfl|rfl|rfl|rfl|rfl|⟨j,i,c,n4,n5,n6⟩ <;> rcases n with _|_|n <;> cases z <;> cases A <;> first|exact absurd (b rfl) (by decide)|(simp [bp, *]; done)|(have L:=cq j; have K:=cq i; have J:=cq c; have I:=cq n4; have H:=cq n5; have G:=cq n6; have F:=mp c; simp [bp, *])
theorem rv {x:T_Regex} (ok:bQ x):M.g9 x=some (V 30 x):=by
 unfold M.g9;rw [show M.e3 aZ x 30=some (V 30 x) from yT 30 aZ x ok (by omega) (by unfold aZ; omega)];rfl
theorem kx {x:T_Regex} (ok:bQ x):M.h0 x=some (V 30 x):=by
 unfold M.h0;rw [show M.e6 aZ x 0=some (V 30 x) from uv 30 aZ x ok (by omega) (by unfold aZ; omega)];rfl
mutual
def parts:T_Regex→Nat
 | ⟨_,_,l⟩=>bF l+1
def bF:List T_Regex→Nat
 | []=>0
 | y::l=>parts y+bF l
end
mutual
def height:T_Regex→Nat
 | ⟨_,_,l⟩=>ce l+1
def ce:List T_Regex→Nat
 | []=>0
 | y::l=>max (height y) (ce l)
end
theorem iH (l m:List T_Regex):bF (l++m)=bF l+bF m:=by
 induction l with
 | nil=>simp [bF]
 | cons y l ih=>simp only [Je,bF,ih]; omega
theorem kW (l m:List T_Regex):ce (l++m)=max (ce l) (ce m):=by
 induction l with
 | nil=>simp [ce]
 | cons y l ih=>simp only [Je,ce,ih]; omega
theorem eW {l:List T_Regex} {y:T_Regex} (h:y∈l):parts y≤bF l:=by
 induction l with
 | nil=>cases h
 | cons z l ih=>
  simp only [bF];rcases Js.1 h with rfl|h
  ·omega
  ·have:=ih h; omega
theorem wj {l:List T_Regex} {y:T_Regex} (h:y∈l):height y≤ce l:=by
 induction l with
 | nil=>cases h
 | cons z l ih=>
  simp only [ce];rcases Js.1 h with rfl|h
  ·omega
  ·have:=ih h; omega
theorem yj (x:T_Regex):1≤parts x:=by obtain ⟨k,s,l⟩:=x; simp [parts]
theorem fy (l:List T_Regex):l.length≤bF l:=by
 induction l with
 | nil=>simp
 | cons y l ih=>simp only [Jp,bF]; have:=yj y; omega
end Go.Proofs.YtggpjcdhflcfmaaGreatDoor
namespace Go.Proofs.YtggpjcdhflcfmaaGreatDoor
open Go.Lx
open Classical
def nq:T_Regex:=⟨1,aV.zero 4,[]⟩
def qG:T_Regex:=⟨2,aV.zero 4,[]⟩
mutual
def nb:T_Regex→Bool
 | ⟨k,_,l⟩=>bif k == 2 || k == 6 then true else bif k == 4 then DY l else bif k == 5 then DX l else false
def DY:List T_Regex→Bool
 | []=>true
 | y::l=>nb y && DY l
def DX:List T_Regex→Bool
 | []=>false
 | y::l=>nb y || DX l
end
def Hs (r:T_Regex):List T_Regex:=(bif r.Kind == 5 then r.Kids else [r]).filter (·.Kind != 1)
noncomputable def Ht (ks:List T_Regex) (k:T_Regex):List T_Regex:=if k∈ks then ks else ks++[k]
noncomputable def HH (l:List T_Regex):List T_Regex:=(l.flatMap Hs).foldl Ht []
def wr (k:Int) (e:T_Regex):List T_Regex→T_Regex
 | []=>e
 | [y]=>y
 | y::z::l=>⟨k,aV.zero 4,y::z::l⟩
noncomputable def un (l:List T_Regex):T_Regex:=wr 5 nq (HH l)
def ne (l:List T_Regex):List T_Regex:=l.filter (·.Kind != 2)
def ct (l:List T_Regex):T_Regex:=match l.find? (·.Kind == 1) with
 | some e=>e
 | none=>wr 4 qG (ne l)
mutual
noncomputable def dr:T_Regex→Nat→T_Regex
 | ⟨k,s,l⟩,b=>bif k == 3 then (bif mem s b then qG else nq) else bif k == 4 then un (HB l b) else bif k == 5 then un (Gh l b)
  else bif k == 6 then ct [(Gh l b).headD nq,⟨k,s,l⟩] else nq
noncomputable def HB:List T_Regex→Nat→List T_Regex
 | [],_=>[]
 | y::l,b=>ct (dr y b::l)::(bif nb y then HB l b else [])
noncomputable def Gh:List T_Regex→Nat→List T_Regex
 | [],_=>[]
 | y::l,b=>dr y b::Gh l b
end
inductive St (P:List Nat→Prop):List Nat→Prop where
  | nil:St P []
  | cons {u v:List Nat}:P u→St P v→St P (u++v)
mutual
def L:T_Regex→List Nat→Prop
 | ⟨k,s,l⟩=>fun w=>(k=2∧w=[])∨(k=3∧∃b,w=[b]∧mem s b=true)∨(k=4∧LC l w)∨(k=5∧LU l w)∨(k=6∧St (LH l) w)
def LC:List T_Regex→List Nat→Prop
 | []=>fun w=>w=[]
 | y::l=>fun w=>∃u v,w=u++v∧L y u∧LC l v
def LU:List T_Regex→List Nat→Prop
 | []=>fun _=>False
 | y::l=>fun w=>L y w∨LU l w
def LH:List T_Regex→List Nat→Prop
 | []=>fun _=>False
 | y::_=>fun w=>L y w
end
theorem FS {s l w}:L ⟨2,s,l⟩ w↔w=[]:=by simp [L]
theorem DZ {s l w}:L ⟨3,s,l⟩ w↔∃b,w=[b]∧mem s b=true:=by simp [L]
theorem FR {s l w}:L ⟨4,s,l⟩ w↔LC l w:=by simp [L]
theorem Hx {s l w}:L ⟨5,s,l⟩ w↔LU l w:=by simp [L]
theorem FG {s l w}:L ⟨6,s,l⟩ w↔St (LH l) w:=by simp [L]
theorem FT {k s l w} (h2:k≠2) (h3:k≠3) (h4:k≠4) (h5:k≠5) (h6:k≠6):¬ L ⟨k,s,l⟩ w:=by simp [L,h2,h3,h4,h5,h6]
theorem wJ {l:List T_Regex} {w:List Nat}:LU l w↔∃y∈l,L y w:=by
 induction l with
 | nil=>simp [LU]
 | cons y l ih=>simp [LU,ih]
theorem zy (l:List T_Regex):DY l=l.all nb:=by
 induction l with
 | nil=>rfl
 | cons y l ih=>simp [DY,ih]
theorem vU (l:List T_Regex):DX l=l.any nb:=by
 induction l with
 | nil=>rfl
 | cons y l ih=>simp [DX,ih]
theorem DU {l:List T_Regex}:LC l []↔∀y∈l,L y []:=by
 induction l with
 | nil=>simp [LC]
 | cons y l ih=>
  simp only [LC,List.nil_eq,List.append_eq_nil_iff,Js,forall_eq_or_imp];rw [←ih];exact ⟨fun ⟨u,v,⟨e1,e2⟩,h1,h2⟩=>by subst e1; subst e2; exact ⟨h1,h2⟩,fun ⟨h1,h2⟩=>⟨[],[],⟨rfl,rfl⟩,h1,h2⟩⟩
theorem gj (k:Int):k=2∨k=3∨k=4∨k=5∨k=6∨(k≠2∧k≠3∧k≠4∧k≠5∧k≠6):=by omega
theorem Ds:∀x,nb x=true↔L x []:=by
 refine T_Regex.ind fun k s l ih=>?_
 rcases gj k with rfl|rfl|rfl|rfl|rfl|⟨c,d,b,a,h6⟩
 ·simp [nb,FS]
 ·simp [nb,DZ]
 ·rw [FR,DU];show DY l=true↔_;rw [zy,List.all_eq_true];exact ⟨fun h y hy=>(ih y hy).1 (h y hy),fun h y hy=>(ih y hy).2 (h y hy)⟩
 ·rw [Hx,wJ];show DX l=true↔_;rw [vU,List.any_eq_true];exact ⟨fun ⟨y,hy,h⟩=>⟨y,hy,(ih y hy).1 h⟩,fun ⟨y,hy,h⟩=>⟨y,hy,(ih y hy).2 h⟩⟩
 ·rw [FG];exact ⟨fun _=>.nil,fun _=>rfl⟩
 ·have:=@FT k s l [] c d b a h6;simp [nb,cq c,cq b,cq a,cq h6,this]
theorem ld {b:Nat} {w u v:List Nat}:b::w=u++v↔(u=[]∧v=b::w)∨∃u',u=b::u'∧w=u'++v:=by
 cases u with
 | nil=>simp [eq_comm]
 | cons c u=>
  simp only [Je,List.cons.injEq,reduceCtorEq,false_and,false_or];exact ⟨fun ⟨h1,h2⟩=>⟨u,⟨h1.symm,rfl⟩,h2⟩,fun ⟨u',⟨h1,h2⟩,h3⟩=>⟨h1.symm,h2 ▸ h3⟩⟩
theorem xK {P:List Nat→Prop} {b:Nat} {w:List Nat}:St P (b::w)↔∃u v,w=u++v∧P (b::u)∧St P v:=by
 constructor
 ·intro h;generalize hx:b::w=x at h;induction h with
  | nil=>cases hx
  | @cons u v hu hv ih=>
   rcases ld.1 hx with ⟨rfl,rfl⟩|⟨u',rfl,rfl⟩
   ·exact ih rfl
   ·exact ⟨u',v,rfl,hu,hv⟩
 ·rintro ⟨u,v,rfl,hu,hv⟩;exact .cons (u:=b::u) hu hv
noncomputable def Gg (x:T_Regex) (w:List Nat):T_Regex:=w.foldl dr x
end Go.Proofs.YtggpjcdhflcfmaaGreatDoor
namespace Go.Proofs.YtggpjcdhflcfmaaGreatDoor
open Go.Lx
structure Pt where
  nl:Bool
  fi:List Nat
  la:List Nat
structure Bs where
  S:List (aV 4)
  P:List (Nat×Nat)
def dz (a b:List Nat):List (Nat×Nat):=a.flatMap fun p=>b.map fun q=>(p,q)
theorem eX {a b:List Nat} {p q:Nat}:(p,q)∈dz a b↔p∈a∧q∈b:=by
 unfold dz;rw [List.mem_flatMap];constructor
 ·rintro ⟨x,hx,h⟩;obtain ⟨y,hy,e⟩:=Jt.1 h;cases e
  exact ⟨hx,hy⟩
 ·rintro ⟨h1,h2⟩;exact ⟨p,h1,Jt.2 ⟨q,h2,rfl⟩⟩
theorem lF (a b:List Nat):(dz a b).length=a.length*b.length:=by
 unfold dz;induction a with
 | nil=>simp
 | cons x a ih=>rw [List.flatMap_cons,IW,ih,Jg,Jp,Nat.succ_mul]; omega
def eM (x y:Pt):Pt:=⟨x.nl && y.nl,bif x.nl then x.fi++y.fi else x.fi,bif y.nl then x.la++y.la else y.la⟩
def iP (x y:Pt):Pt:=⟨x.nl || y.nl,x.fi++y.fi,x.la++y.la⟩
mutual
def bd:T_Regex→Bs→Pt×Bs
 | ⟨k,s,l⟩,b=>bif k == 3 then (⟨false,[b.S.length+1],[b.S.length+1]⟩,⟨b.S++[s],b.P⟩) else bif k == 4 then fI l ⟨true,[],[]⟩ b else bif k == 5 then gn l ⟨false,[],[]⟩ b else bif k == 6 then AP l b else (⟨k == 2,[],[]⟩,b)
def fI:List T_Regex→Pt→Bs→Pt×Bs
 | [],x,b=>(x,b)
 | y::l,x,b=>fI l (eM x (bd y b).1) ⟨(bd y b).2.S,(bd y b).2.P++dz x.la (bd y b).1.fi⟩
def gn:List T_Regex→Pt→Bs→Pt×Bs
 | [],x,b=>(x,b)
 | y::l,x,b=>gn l (iP x (bd y b).1) (bd y b).2
def AP:List T_Regex→Bs→Pt×Bs
 | [],b=>(⟨true,[],[]⟩,b)
 | y::_,b=>(⟨true,(bd y b).1.fi,(bd y b).1.la⟩,⟨(bd y b).2.S,(bd y b).2.P++dz (bd y b).1.la (bd y b).1.fi⟩)
end
def lX (M E:Nat→Nat→Prop):Nat→List Nat→Nat→Prop
 | p,[],q=>p=q
 | p,b::w,q=>∃r,E p r∧M r b∧lX M E r w q
section
variable {M E F:Nat→Nat→Prop}
theorem gF {R:Nat→Prop} (h:∀p r,R p→(E p r↔F p r)) (c:∀p r,R p→E p r→R r):∀(w:List Nat) {p q:Nat},R p→(lX M E p w q↔lX M F p w q)
 | [],p,q,_=>Iff.rfl
 | b::w,p,q,hp=>by
  simp only [lX];constructor
  ·rintro ⟨r,a,e,d⟩;exact ⟨r,(h p r hp).1 a,e,(gF h c w (c p r hp a)).1 d⟩
  ·rintro ⟨r,a,e,d⟩;have a:=(h p r hp).2 a;exact ⟨r,a,e,(gF h c w (c p r hp a)).2 d⟩
theorem nr (h:∀p r,E p r→F p r):∀(w:List Nat) {p q:Nat},lX M E p w q→lX M F p w q
 | [],_,_,e=>e
 | _::w,_,_,⟨r,h1,h2,h3⟩=>⟨r,h _ _ h1,h2,nr h w h3⟩
theorem kK {R:Nat→Prop} (hc:∀p r,R p→E p r→R r):∀(w:List Nat) {p q:Nat},R p→lX M E p w q→R q
 | [],_,_,hp,e=>by cases e; exact hp
 | _::w,p,_,hp,⟨r,h1,_,h3⟩=>kK hc w (hc p r hp h1) h3
theorem tk:∀(u:List Nat) {v:List Nat} {b p l f q:Nat},lX M E p u l→E l f→M f b→lX M E f v q→lX M E p (u++b::v) q
 | [],_,_,_,_,_,_,e,h1,h2,h3=>by cases e; exact ⟨_,h1,h2,h3⟩
 | _::u,_,_,_,_,_,_,⟨r,a1,a2,a3⟩,h1,h2,h3=>⟨r,a1,a2,tk u a3 h1 h2 h3⟩
structure oT (M E:Nat→Nat→Prop) (x:Pt) (G:List Nat→Prop):Prop where
  nl:x.nl=true↔G []
  ac:∀b w,G (b::w)↔∃p∈x.fi,M p b∧∃q∈x.la,lX M E p w q
structure lW (E:Nat→Nat→Prop) (x:Pt) (a c:Nat):Prop where
  le:a≤c
  fi:∀p∈x.fi,a<p∧p≤c
  la:∀p∈x.la,a<p∧p≤c
  e:∀p q,E p q→(a<p∧p≤c)∧(a<q∧q≤c)
theorem oT.congr {x:Pt} {G G':List Nat→Prop} (h:oT M E x G) (e:∀w,G w↔G' w):oT M E x G':=⟨h.nl.trans (e _),fun b w=>(e _).symm.trans (h.ac b w)⟩
theorem oT.edges {x:Pt} {G:List Nat→Prop} (h:oT M E x G) (e:∀p q,E p q↔F p q):oT M F x G:=by
 have:E=F:=funext fun p=>funext fun q=>propext (e p q)
 rw [←this]; exact h
theorem lW.edges {x:Pt} {a c:Nat} (h:lW E x a c) (e:∀p q,E p q↔F p q):lW F x a c:=by
 have:E=F:=funext fun p=>funext fun q=>propext (e p q)
 rw [←this]; exact h
variable {x y:Pt} {a m c:Nat} {Gx Gy:List Nat→Prop}
def yI (E F:Nat→Nat→Prop) (x y:Pt) (p q:Nat):Prop:=(E p q∨F p q)∨(p∈x.la∧q∈y.fi)
theorem lC (hx:lW E x a m) (hy:lW F y m c) {w:List Nat} {p q:Nat} (hp:m<p∧p≤c):lX M (yI E F x y) p w q↔lX M F p w q:=by
 refine gF (R:=fun p=>m<p∧p≤c) (fun p r hp=>?_) (fun p r hp h=>?_) w hp
 ·constructor
  ·rintro ((h|h)|h)
   ·have:=(hx.e _ _ h).1; omega
   ·exact h
   ·have:=hx.la _ h.1; omega
  ·exact fun h=>.inl (.inr h)
 ·rcases h with (h|h)|h
  ·have:=(hx.e _ _ h).1; omega
  ·exact (hy.e _ _ h).2
  ·have:=hx.la _ h.1; omega
theorem kJ (hx:lW E x a m) (hy:lW F y m c):∀(w:List Nat) {p q:Nat},(a<p∧p≤m)→(lX M (yI E F x y) p w q↔((a<q∧q≤m)∧lX M E p w q)∨∃u b v l f,w=u++b::v∧l∈x.la∧lX M E p u l∧f∈y.fi∧M f b∧lX M F f v q)
 | [],p,q,hp=>by
  constructor
  ·intro e;cases e
   exact .inl ⟨hp,rfl⟩
  ·rintro (⟨_,h⟩|⟨u,b,v,l,f,h,_⟩)
   ·exact h
   ·cases u <;> cases h
 | b::w,p,q,hp=>by
  constructor
  ·rintro ⟨r,(h|h)|h,g,d⟩
   ·rcases (kJ hx hy w (hx.e _ _ h).2).1 d with ⟨hq,d⟩|⟨u,n,v,l,f,rfl,j,i,h6⟩
    ·exact .inl ⟨hq,r,h,g,d⟩
    ·exact .inr ⟨b::u,n,v,l,f,rfl,j,⟨r,h,g,i⟩,h6⟩
   ·have:=(hy.e _ _ h).1; omega
   ·exact .inr ⟨[],b,w,p,r,rfl,h.1,rfl,h.2,g,(lC hx hy (hy.fi _ h.2)).1 d⟩
  ·rintro (⟨hq,r,k,g,d⟩|⟨u,n,v,l,f,e,j,i,h6,s,o⟩)
   ·exact ⟨r,.inl (.inl k),g,(kJ hx hy w (hx.e _ _ k).2).2 (.inl ⟨hq,d⟩)⟩
   ·rw [e];exact tk u (nr (fun p r h=>.inl (.inl h)) u i) (.inr ⟨j,h6⟩) s ((lC hx hy (hy.fi _ h6)).2 o)
theorem lW.cat (hx:lW E x a m) (hy:lW F y m c):lW (yI E F x y) (eM x y) a c:=by
 have d:=hx.le;have b:=hy.le;refine ⟨by omega,fun p hp=>?_,fun p hp=>?_,fun p q h=>?_⟩
 ·unfold eM at hp;cases hn:x.nl <;> simp only [hn,cond_false,cond_true,IZ] at hp
  ·have:=hx.fi _ hp; omega
  ·rcases hp with hp|hp
   ·have:=hx.fi _ hp; omega
   ·have:=hy.fi _ hp; omega
 ·unfold eM at hp;cases hn:y.nl <;> simp only [hn,cond_false,cond_true,IZ] at hp
  ·have:=hy.la _ hp; omega
  ·rcases hp with hp|hp
   ·have:=hx.la _ hp; omega
   ·have:=hy.la _ hp; omega
 ·rcases h with (h|h)|h
  ·have:=hx.e _ _ h; omega
  ·have:=hy.e _ _ h; omega
  ·have:=hx.la _ h.1;have:=hy.fi _ h.2;omega
theorem lE {p:Nat}:p∈(eM x y).fi↔p∈x.fi∨(x.nl=true∧p∈y.fi):=by
 unfold eM;cases x.nl <;> simp
theorem gI {p:Nat}:p∈(eM x y).la↔p∈y.la∨(y.nl=true∧p∈x.la):=by
 unfold eM;cases y.nl <;> simp [or_comm]
theorem oT.cat (hx:oT M E x Gx) (hy:oT M F y Gy) (rx:lW E x a m) (g:lW F y m c):oT M (yI E F x y) (eM x y) (fun w=>∃u v,w=u++v∧Gx u∧Gy v):=by
 refine ⟨?_,fun b w=>?_⟩
 ·unfold eM;rw [Bool.and_eq_true,hx.nl,hy.nl];constructor
  ·rintro ⟨j,d⟩; exact ⟨[],[],rfl,j,d⟩
  ·rintro ⟨u,v,e,j,d⟩;obtain ⟨rfl,rfl⟩:=List.append_eq_nil_iff.1 e.symm;exact ⟨j,d⟩
 ·constructor
  ·rintro ⟨u,v,e,j,d⟩;rcases ld.1 e with ⟨rfl,rfl⟩|⟨u,rfl,rfl⟩
   ·obtain ⟨p,hp,i,q,hq,h⟩:=(hy.ac b w).1 d;exact ⟨p,lE.2 (.inr ⟨hx.nl.2 j,hp⟩),i,q,gI.2 (.inl hq),(lC rx g (g.fi _ hp)).2 h⟩
   ·obtain ⟨p,hp,i,l,hl,h⟩:=(hx.ac b u).1 j;cases v with
    | nil=>
     refine ⟨p,lE.2 (.inl hp),i,l,gI.2 (.inr ⟨hy.nl.2 d,hl⟩),?_⟩;rw [List.append_nil];exact (kJ rx g u (rx.fi _ hp)).2 (.inl ⟨rx.la _ hl,h⟩)
    | cons n v=>
     obtain ⟨f,hf,s,q,hq,z⟩:=(hy.ac n v).1 d;exact ⟨p,lE.2 (.inl hp),i,q,gI.2 (.inl hq),(kJ rx g _ (rx.fi _ hp)).2 (.inr ⟨u,n,v,l,f,rfl,hl,h,hf,s,z⟩)⟩
  ·rintro ⟨p,hp,i,q,hq,h⟩;rcases lE.1 hp with hp|⟨hn,hp⟩
   ·rcases (kJ rx g w (rx.fi _ hp)).1 h with ⟨A,h⟩|⟨u,n,v,l,f,rfl,hl,j,hf,s,d⟩
    ·rcases gI.1 hq with hq|⟨hn,hq⟩
     ·have:=g.la _ hq; omega
     ·exact ⟨b::w,[],by simp,(hx.ac b w).2 ⟨p,hp,i,q,hq,h⟩,hy.nl.1 hn⟩
    ·have o:q∈y.la:=by
      rcases gI.1 hq with hq|⟨_,hq⟩
      ·exact hq
      ·have k:=kK (R:=fun p=>m<p∧p≤c) (fun p r _ h=>(g.e _ _ h).2) v (g.fi _ hf) d;have t:=rx.la _ hq;have k:m<q∧q≤c:=k;omega
     exact ⟨b::u,n::v,rfl,(hx.ac b u).2 ⟨p,hp,i,l,hl,j⟩,(hy.ac n v).2 ⟨f,hf,s,q,o,d⟩⟩
   ·have d:=(lC rx g (g.fi _ hp)).1 h;have o:q∈y.la:=by
     rcases gI.1 hq with hq|⟨_,hq⟩
     ·exact hq
     ·have k:=kK (R:=fun p=>m<p∧p≤c) (fun p r _ h=>(g.e _ _ h).2) w (g.fi _ hp) d;have t:=rx.la _ hq;have k:m<q∧q≤c:=k;omega
    exact ⟨[],b::w,rfl,hx.nl.1 hn,(hy.ac b w).2 ⟨p,hp,i,q,o,d⟩⟩
def xT (E F:Nat→Nat→Prop) (p q:Nat):Prop:=E p q∨F p q
theorem uB (hx:lW E x a m) (hy:lW F y m c) {w:List Nat} {p q:Nat} (hp:a<p∧p≤m):lX M (xT E F) p w q↔lX M E p w q:=by
 refine gF (R:=fun p=>a<p∧p≤m) (fun p r hp=>?_) (fun p r hp h=>?_) w hp
 ·exact ⟨fun h=>h.elim id fun h=>(by have:=(hy.e _ _ h).1; omega),.inl⟩
 ·rcases h with h|h
  ·exact (hx.e _ _ h).2
  ·have:=(hy.e _ _ h).1; omega
theorem uA (hx:lW E x a m) (hy:lW F y m c) {w:List Nat} {p q:Nat} (hp:m<p∧p≤c):lX M (xT E F) p w q↔lX M F p w q:=by
 refine gF (R:=fun p=>m<p∧p≤c) (fun p r hp=>?_) (fun p r hp h=>?_) w hp
 ·exact ⟨fun h=>h.elim (fun h=>(by have:=(hx.e _ _ h).1; omega)) id,.inr⟩
 ·rcases h with h|h
  ·have:=(hx.e _ _ h).1; omega
  ·exact (hy.e _ _ h).2
theorem lW.uni (hx:lW E x a m) (hy:lW F y m c):lW (xT E F) (iP x y) a c:=by
 have d:=hx.le;have b:=hy.le;refine ⟨by omega,fun p hp=>?_,fun p hp=>?_,fun p q h=>?_⟩
 ·rcases IZ.1 hp with hp|hp
  ·have:=hx.fi _ hp; omega
  ·have:=hy.fi _ hp; omega
 ·rcases IZ.1 hp with hp|hp
  ·have:=hx.la _ hp; omega
  ·have:=hy.la _ hp; omega
 ·rcases h with h|h
  ·have:=hx.e _ _ h; omega
  ·have:=hy.e _ _ h; omega
theorem oT.uni (hx:oT M E x Gx) (hy:oT M F y Gy) (rx:lW E x a m) (d:lW F y m c):oT M (xT E F) (iP x y) (fun w=>Gx w∨Gy w):=by
 refine ⟨?_,fun b w=>?_⟩
 ·unfold iP;rw [Bool.or_eq_true,hx.nl,hy.nl]
 ·rw [hx.ac,hy.ac];constructor
  ·rintro (⟨p,hp,f,q,hq,h⟩|⟨p,hp,f,q,hq,h⟩)
   ·exact ⟨p,List.mem_append_left _ hp,f,q,List.mem_append_left _ hq,(uB rx d (rx.fi _ hp)).2 h⟩
   ·exact ⟨p,List.mem_append_right _ hp,f,q,List.mem_append_right _ hq,(uA rx d (d.fi _ hp)).2 h⟩
  ·rintro ⟨p,hp,f,q,hq,h⟩;rcases IZ.1 hp with hp|hp
   ·have h:=(uB rx d (rx.fi _ hp)).1 h;have g:a<q∧q≤m:=kK (R:=fun p=>a<p∧p≤m) (fun p r _ h=>(rx.e _ _ h).2) w (rx.fi _ hp) h;rcases IZ.1 hq with hq|hq
    ·exact .inl ⟨p,hp,f,q,hq,h⟩
    ·have:=d.la _ hq; omega
   ·have h:=(uA rx d (d.fi _ hp)).1 h;have g:m<q∧q≤c:=kK (R:=fun p=>m<p∧p≤c) (fun p r _ h=>(d.e _ _ h).2) w (d.fi _ hp) h;rcases IZ.1 hq with hq|hq
    ·have:=rx.la _ hq; omega
    ·exact .inr ⟨p,hp,f,q,hq,h⟩
def sn (E:Nat→Nat→Prop) (x:Pt) (p q:Nat):Prop:=E p q∨(p∈x.la∧q∈x.fi)
theorem lW.star (hx:lW E x a c):lW (sn E x) ⟨true,x.fi,x.la⟩ a c:=by
 refine ⟨hx.le,hx.fi,hx.la,fun p q h=>?_⟩;rcases h with h|h
 ·exact hx.e _ _ h
 ·exact ⟨hx.la _ h.1,hx.fi _ h.2⟩
theorem xa (hx:oT M E x Gx):∀(w:List Nat) {p q:Nat},q∈x.la→lX M (sn E x) p w q→∃u v l,w=u++v∧l∈x.la∧lX M E p u l∧St Gx v
 | [],p,q,hq,e=>by cases e; exact ⟨[],[],p,rfl,hq,rfl,.nil⟩
 | b::w,p,q,hq,⟨r,a,f,g⟩=>by
  obtain ⟨u,v,l,rfl,hl,d,c⟩:=xa hx w hq g;rcases a with a|⟨hp,hr⟩
  ·exact ⟨b::u,v,l,rfl,hl,⟨r,a,f,d⟩,c⟩
  ·exact ⟨[],b::(u++v),p,rfl,hp,rfl,St.cons (u:=b::u) ((hx.ac b u).2 ⟨r,hr,f,l,hl,d⟩) c⟩
theorem Bh (hx:oT M E x Gx) {v:List Nat} (h:St Gx v):∀ {u:List Nat} {p l:Nat},l∈x.la→lX M E p u l→∃q∈x.la,lX M (sn E x) p (u++v) q:=by
 induction h with
 | nil=>intro u p l hl h; rw [List.append_nil]; exact ⟨l,hl,nr (fun _ _ h=>.inl h) u h⟩
 | @cons a j i _ ih=>
  intro u p l hl h;cases a with
  | nil=>exact ih hl h
  | cons b a=>
   obtain ⟨f,hf,c,l',d,g⟩:=(hx.ac b a).1 i;obtain ⟨q,hq,e⟩:=ih d g;exact ⟨q,hq,tk u (nr (fun _ _ h=>.inl h) u h) (.inr ⟨hl,hf⟩) c e⟩
theorem oT.star (hx:oT M E x Gx):oT M (sn E x) ⟨true,x.fi,x.la⟩ (St Gx):=by
 refine ⟨⟨fun _=>.nil,fun _=>rfl⟩,fun b w=>?_⟩;rw [xK];constructor
 ·rintro ⟨u,v,rfl,g,f⟩;obtain ⟨p,hp,a,l,hl,e⟩:=(hx.ac b u).1 g;obtain ⟨q,hq,c⟩:=Bh hx f hl e;exact ⟨p,hp,a,q,hq,c⟩
 ·rintro ⟨p,hp,a,q,hq,h⟩;obtain ⟨u,v,l,rfl,hl,c,d⟩:=xa hx w hq h;exact ⟨u,v,rfl,(hx.ac b u).2 ⟨p,hp,a,l,hl,c⟩,d⟩
end
def tX (S:List (aV 4)) (p b:Nat):Prop:=∃v,S[p - 1]?=some v∧mem v b=true
def gu (Q:List (Nat×Nat)) (p q:Nat):Prop:=(p,q)∈Q
structure DT (b:Bs) (r:Pt×Bs) (T:List (aV 4)) (Q:List (Nat×Nat)) (G:List Nat→Prop):Prop where
  S:r.2.S=b.S++T
  P:r.2.P=b.P++Q
  rng:lW (gu Q) r.1 b.S.length r.2.S.length
  rep:∀U,(∃V,U=r.2.S++V)→oT (tX U) (gu Q) r.1 G
theorem gh {M E:Nat→Nat→Prop} {G:List Nat→Prop} {n:Bool} (hn:n=true↔G []) (h:∀b w,¬ G (b::w)):oT M E ⟨n,[],[]⟩ G:=⟨hn,fun b w=>⟨fun h'=>absurd h' (h b w),fun ⟨p,hp,_⟩=>by simp at hp⟩⟩
theorem gg {n:Bool} {a:Nat}:lW (gu []) ⟨n,[],[]⟩ a a:=⟨Nat.le_refl _,by simp,by simp,fun p q h=>by simp [gu] at h⟩
mutual
theorem il:∀(x:T_Regex) (b:Bs),∃T Q,DT b (bd x b) T Q (L x)
 | ⟨k,s,l⟩,b=>by
  rcases gj k with rfl|rfl|rfl|rfl|rfl|⟨i,j,m,H,h6⟩
  ·have e:bd ⟨2,s,l⟩ b=(⟨true,[],[]⟩,b):=by simp [bd]
   rw [e];exact ⟨[],[],by simp,by simp,gg,fun U _=>gh (by simp [FS]) (fun b w h=>by simp [FS] at h)⟩
  ·have e:bd ⟨3,s,l⟩ b=(⟨false,[b.S.length+1],[b.S.length+1]⟩,⟨b.S++[s],b.P⟩):=by simp [bd]
   rw [e];refine ⟨[s],[],rfl,by simp,⟨by simp,by simp,by simp,fun p q h=>by simp [gu] at h⟩,fun U f=>?_⟩;obtain ⟨V,rfl⟩:=f;have W:∀c,tX ((b.S++[s])++V) (b.S.length+1) c↔mem s c=true:=by
    intro c;unfold tX;rw [Nat.add_sub_cancel,Ja,Jv (Nat.le_refl _),Nat.sub_self];simp
   refine ⟨by simp [DZ],fun c w=>?_⟩;rw [DZ];constructor
   ·rintro ⟨d,e,h⟩;cases e
    exact ⟨_,IY.2 rfl,(W c).2 h,_,IY.2 rfl,rfl⟩
   ·rintro ⟨p,hp,h,q,hq,i⟩;obtain rfl:=IY.1 hp;obtain rfl:=IY.1 hq;cases w with
    | nil=>exact ⟨c,rfl,(W c).1 h⟩
    | cons d w=>obtain ⟨r,j,_⟩:=i; simp [gu] at j
  ·have e:bd ⟨4,s,l⟩ b=fI l ⟨true,[],[]⟩ b:=by simp [bd]
   rw [e];obtain ⟨T,Q,n,i,j,m⟩:=nM l ⟨true,[],[]⟩ b [] (fun w=>w=[]) b.S.length gg (fun U _=>gh (by simp) (by simp));refine ⟨T,Q,n,i,j,fun U f=>(m U f).congr fun w=>?_⟩;rw [FR];constructor
   ·rintro ⟨u,v,rfl,rfl,h⟩; exact h
   ·exact fun h=>⟨[],w,rfl,rfl,h⟩
  ·have e:bd ⟨5,s,l⟩ b=gn l ⟨false,[],[]⟩ b:=by simp [bd]
   rw [e];obtain ⟨T,Q,n,i,j,m⟩:=rp l ⟨false,[],[]⟩ b [] (fun _=>False) b.S.length gg (fun U _=>gh (by simp) (by simp));refine ⟨T,Q,n,i,j,fun U f=>(m U f).congr fun w=>?_⟩;rw [Hx];simp
  ·have e:bd ⟨6,s,l⟩ b=AP l b:=by simp [bd]
   rw [e]
   match l with
   | []=>
    refine ⟨[],[],by simp [AP],by simp [AP],gg,fun U _=>gh ⟨fun _=>FG.2 .nil,fun _=>rfl⟩ (fun c w h=>?_)⟩;rw [FG,xK] at h;obtain ⟨u,v,_,h,_⟩:=h;simp [LH] at h
   | y::l=>
    obtain ⟨T,Q,n,i,j,m⟩:=il y b;refine ⟨T,Q++dz (bd y b).1.la (bd y b).1.fi,n,?_,?_,fun U f=>?_⟩
    ·show (bd y b).2.P++_=_;rw [i,Ja]
    ·refine j.star.edges fun p q=>?_
     unfold sn gu;rw [IZ,eX]
    ·refine ((m U f).star.edges fun p q=>?_).congr fun w=>?_
     ·unfold sn gu;rw [IZ,eX]
     ·rw [FG];have:LH (y::l)=L y:=by funext w; simp [LH]
      rw [this]
  ·have e:bd ⟨k,s,l⟩ b=(⟨false,[],[]⟩,b):=by simp only [bd,cq i,cq j,cq m,cq H,cq h6,cond_false]
   rw [e];exact ⟨[],[],by simp,by simp,gg,fun U _=>gh ⟨fun h=>(by cases h),fun h=>absurd h (FT i j m H h6)⟩ (fun b w h=>absurd h (FT i j m H h6))⟩
theorem nM:∀(l:List T_Regex) (x:Pt) (b:Bs) (g:List (Nat×Nat)) (G:List Nat→Prop) (a:Nat),lW (gu g) x a b.S.length→(∀U,(∃V,U=b.S++V)→oT (tX U) (gu g) x G)→
 ∃T Q,(fI l x b).2.S=b.S++T∧(fI l x b).2.P=b.P++Q∧lW (gu (g++Q)) (fI l x b).1 a (fI l x b).2.S.length∧∀U,(∃V,U=(fI l x b).2.S++V)→oT (tX U) (gu (g++Q)) (fI l x b).1 (fun w=>∃u v,w=u++v∧G u∧LC l v)
 | [],x,b,g,G,a,hr,hp=>by
  refine ⟨[],[],by simp [fI],by simp [fI],by simpa [fI] using hr,fun U f=>?_⟩;have h:=hp U (by simpa [fI] using f);simp only [List.append_nil,fI];refine h.congr fun w=>⟨fun h=>⟨w,[],by simp,h,by simp [LC]⟩,?_⟩
  rintro ⟨u,v,rfl,n,i⟩;simp only [LC] at i;subst i;rw [List.append_nil]; exact n
 | y::l,x,b,g,G,a,hr,hp=>by
  obtain ⟨B,o,t,D,z,F⟩:=il y b;have A:∀p q,yI (gu g) (gu o) x (bd y b).1 p q↔gu (g++(o++dz x.la (bd y b).1.fi)) p q:=by
   intro p q;unfold yI gu;rw [IZ,IZ,eX,or_assoc]
  obtain ⟨T,Q,n,i,j,m⟩:=nM l (eM x (bd y b).1) ⟨(bd y b).2.S,(bd y b).2.P++dz x.la (bd y b).1.fi⟩ (g++(o++dz x.la (bd y b).1.fi)) (fun w=>∃u v,w=u++v∧G u∧L y v) a ((hr.cat z).edges A)
   (fun U f=>((hp U (by obtain ⟨V,rfl⟩:=f; exact ⟨B++V,by simp only [t,Ja]⟩)).cat (F U f) hr z).edges A)
  have e:fI (y::l) x b=fI l (eM x (bd y b).1) ⟨(bd y b).2.S,(bd y b).2.P++dz x.la (bd y b).1.fi⟩:=by simp only [fI]
  rw [e];refine ⟨B++T,(o++dz x.la (bd y b).1.fi)++Q,by rw [n]; simp only [t,Ja],by rw [i]; simp only [D,Ja],by rw [←Ja]; exact j,fun U f=>?_⟩;rw [←Ja];refine (m U f).congr fun w=>?_
  simp only [LC];constructor
  ·rintro ⟨u,v,rfl,⟨Y,R,rfl,K,J⟩,I⟩;exact ⟨Y,R++v,by simp,K,R,v,rfl,J,I⟩
  ·rintro ⟨u,v,rfl,K,N,X,rfl,J,I⟩;exact ⟨u++N,X,by simp,⟨u,N,rfl,K,J⟩,I⟩
theorem rp:∀(l:List T_Regex) (x:Pt) (b:Bs) (g:List (Nat×Nat)) (G:List Nat→Prop) (a:Nat),lW (gu g) x a b.S.length→(∀U,(∃V,U=b.S++V)→oT (tX U) (gu g) x G)→
 ∃T Q,(gn l x b).2.S=b.S++T∧(gn l x b).2.P=b.P++Q∧lW (gu (g++Q)) (gn l x b).1 a (gn l x b).2.S.length∧∀U,(∃V,U=(gn l x b).2.S++V)→oT (tX U) (gu (g++Q)) (gn l x b).1 (fun w=>G w∨LU l w)
 | [],x,b,g,G,a,hr,hp=>by
  refine ⟨[],[],by simp [gn],by simp [gn],by simpa [gn] using hr,fun U f=>?_⟩;have h:=hp U (by simpa [gn] using f);simp only [List.append_nil,gn];exact h.congr fun w=>by simp [LU]
 | y::l,x,b,g,G,a,hr,hp=>by
  obtain ⟨B,o,t,D,z,F⟩:=il y b;have A:∀p q,xT (gu g) (gu o) p q↔gu (g++o) p q:=by
   intro p q;unfold xT gu;rw [IZ]
  obtain ⟨T,Q,n,i,j,m⟩:=rp l (iP x (bd y b).1) (bd y b).2 (g++o) (fun w=>G w∨L y w) a ((hr.uni z).edges A)
   (fun U f=>((hp U (by obtain ⟨V,rfl⟩:=f; exact ⟨B++V,by simp only [t,Ja]⟩)).uni (F U f) hr z).edges A)
  have e:gn (y::l) x b=gn l (iP x (bd y b).1) (bd y b).2:=by simp only [gn]
  rw [e];refine ⟨B++T,o++Q,by rw [n]; simp only [t,Ja],by rw [i]; simp only [D,Ja],by rw [←Ja]; exact j,fun U f=>?_⟩;rw [←Ja];refine (m U f).congr fun w=>?_
  simp only [LU];rw [or_assoc]
end
def gC (l:List Nat):List Int:=l.map fun (n:Nat)=>(n:Int)
theorem cP (l:List Nat):(gC l).length=l.length:=by simp [gC]
theorem lu {l:List Nat} {i:Nat} (h:i<l.length):bC (gC l) (i:Int)=some (l[i]:Int):=by
 rw [be (by rw [cP]; exact h)]; simp [gC]
theorem jy (a b:List Nat):gC (a++b)=gC a++gC b:=by simp [gC]
theorem eQ {l:List T_Regex} {i:Nat} (hi:i<l.length):bF (l.take (i+1))=bF (l.take i)+parts l[i]:=by
 rw [List.take_add_one,IQ hi,iH];simp [bF]
theorem cZ (l:List T_Regex) (i:Nat):bF (l.take i)≤bF l:=by
 have:=iH (l.take i) (l.drop i);rw [List.take_append_drop] at this;omega
theorem qM {l:List T_Regex} {f:T_Regex→Option Int} (hf:∀y∈l,f y=some (parts y:Int)) (hl:bF l≤1000000000) {body:Int×Int→Option (cQ (Int×Int) Int)}
 (hb:∀n i,body (n,i)=bif decide (i<(l.length:Int)) then (bC l i).bind fun e=>(f e).bind fun r=>(bZ .i64 (n+r)).bind fun t=>(bZ .i64 (i+1)).bind fun u=>some (.next (t,u)) else some (.stop n)) :
 ba body aZ ((1:Int),(0:Int))=some ((bF l+1:Nat):Int):=by
 refine Is.eq ?_;have hlen:=fy l;refine Is.upto (fun i (c:Int×Int)=>c.2=(i:Int)∧c.1=((bF (l.take i)+1:Nat):Int)) l.length (by omega) ⟨rfl,by simp [bF]⟩ ?_ ?_
 ·rintro i ⟨n,_⟩ a ⟨rfl,b⟩;obtain rfl:n=_:=b;have d:=eQ a;have g:=cZ l (i+1);rw [hb];refine Is.dt (by omega) (Is.bnq (be a) (Is.bnq (hf _ (IU a)) (Is.bnq (x:=((bF (l.take (i+1))+1:Nat):Int)) ?_ (Is.bnq (aK (by omega)) (Is.next ⟨rfl,rfl⟩)))));rw [dX (by omega) (by omega),d]; congr 1; omega
 ·rintro ⟨n,_⟩ ⟨rfl,b⟩;obtain rfl:n=_:=b;rw [hb,IV];exact Is.df (by omega) (Is.stop rfl)
theorem zv:∀(a:Nat) (x:T_Regex),parts x<a→parts x≤1000000000→M.g7 a x=some (parts x:Int):=by
 intro a;induction a with
 | zero=>intro x h; omega
 | succ a ih=>
  intro x d c;obtain ⟨k,s,l⟩:=x;have b:parts ⟨k,s,l⟩=bF l+1:=by simp [parts]
  rw [b] at d c;unfold M.g7;refine aR (qM (l:=l) (f:=fun y=>M.g7 a y) (fun y hy=>ih y (by have:=eW hy; omega) (by have:=eW hy; omega)) (by omega) (fun _ _=>rfl)) ?_;rw [b]
theorem uw:∀(a:Nat) (x:T_Regex),parts x<a→parts x≤1000000000→M.e4 a x=some (parts x:Int):=by
 intro a;induction a with
 | zero=>intro x h; omega
 | succ a ih=>
  intro x d c;obtain ⟨k,s,l⟩:=x;have b:parts ⟨k,s,l⟩=bF l+1:=by simp [parts]
  rw [b] at d c;unfold M.e4;refine aR (qM (l:=l) (f:=fun y=>M.e4 a y) (fun y hy=>ih y (by have:=eW hy; omega) (by have:=eW hy; omega)) (by omega) (fun _ _=>rfl)) ?_;rw [b]
mutual
theorem fu:∀(x:T_Regex) (b:Bs),(bd x b).1.fi.length≤parts x∧(bd x b).1.la.length≤parts x∧(bd x b).2.S.length≤b.S.length+parts x
 | ⟨k,s,l⟩,b=>by
  simp only [parts,bd];refine ?_;cases k == 3
  ·cases k == 4
   ·cases k == 5
    ·cases k == 6
     ·simp
     ·match l with
      | []=>simp [AP]
      | y::l=>
       have h:=fu y b;simp only [cond_false,cond_true,AP,bF];omega
    ·have h:=pP l ⟨false,[],[]⟩ b;simp only [cond_false,cond_true,List.length_nil] at h ⊢;omega
   ·have h:=pQ l ⟨true,[],[]⟩ b;simp only [cond_false,cond_true,List.length_nil] at h ⊢;omega
  ·simp
theorem pQ:∀(l:List T_Regex) (x:Pt) (b:Bs),(fI l x b).1.fi.length≤x.fi.length+bF l∧(fI l x b).1.la.length≤x.la.length+bF l∧(fI l x b).2.S.length≤b.S.length+bF l
 | [],x,b=>by simp [fI]
 | y::l,x,b=>by
  have h:=fu y b;have a:=pQ l (eM x (bd y b).1) ⟨(bd y b).2.S,(bd y b).2.P++dz x.la (bd y b).1.fi⟩;have d:(eM x (bd y b).1).fi.length≤x.fi.length+(bd y b).1.fi.length:=by unfold eM; cases x.nl <;> simp
  have c:(eM x (bd y b).1).la.length≤x.la.length+(bd y b).1.la.length:=by unfold eM; cases (bd y b).1.nl <;> simp
  simp only [fI,bF];simp only at a;omega
theorem pP:∀(l:List T_Regex) (x:Pt) (b:Bs),(gn l x b).1.fi.length≤x.fi.length+bF l∧(gn l x b).1.la.length≤x.la.length+bF l∧(gn l x b).2.S.length≤b.S.length+bF l
 | [],x,b=>by simp [gn]
 | y::l,x,b=>by
  have h:=fu y b;have a:=pP l (iP x (bd y b).1) (bd y b).2;have d:(iP x (bd y b).1).fi.length=x.fi.length+(bd y b).1.fi.length:=by simp [iP]
  have c:(iP x (bd y b).1).la.length=x.la.length+(bd y b).1.la.length:=by simp [iP]
  simp only [gn,bF];omega
end
theorem rq (y:T_Regex):∀(l:List T_Regex) (x:Pt) (b:Bs),fI (l++[y]) x b=(eM (fI l x b).1 (bd y (fI l x b).2).1,⟨(bd y (fI l x b).2).2.S,(bd y (fI l x b).2).2.P++dz (fI l x b).1.la (bd y (fI l x b).2).1.fi⟩)
 | [],x,b=>by simp [fI]
 | z::l,x,b=>by simp only [Je,fI]; exact rq y l _ _
theorem rm (y:T_Regex):∀(l:List T_Regex) (x:Pt) (b:Bs),gn (l++[y]) x b=(iP (gn l x b).1 (bd y (gn l x b).2).1,(bd y (gn l x b).2).2)
 | [],x,b=>by simp [gn]
 | z::l,x,b=>by simp only [Je,gn]; exact rm y l _ _
theorem cS {α:Type} {l:List α} {i:Nat} (h:i<l.length):l.take (i+1)=l.take i++[l[i]]:=by rw [List.take_add_one,IQ h]; rfl
structure gz (beh:List (List (Int×Bool))) (n:Nat) (R:Nat→Nat→Prop):Prop where
  len:beh.length=n
  nd:∀(p:Nat) (m:List (Int×Bool)),beh[p]?=some m→(m.map (·.1)).Nodup
  mem:∀(p:Nat) (m:List (Int×Bool)),beh[p]?=some m→∀k:Int,k∈m.map (·.1)↔∃q:Nat,k=(q:Int)∧R p q
theorem gz.congr {beh:List (List (Int×Bool))} {n:Nat} {R R':Nat→Nat→Prop} (h:gz beh n R) (e:∀p q,R p q↔R' p q):gz beh n R':=by
 have:R=R':=funext fun p=>funext fun q=>propext (e p q)
 rw [←this]; exact h
theorem uK {m:List (Int×Bool)} {k a:Int} {v:Bool}:a∈(dQ m k v).map (·.1)↔a∈m.map (·.1)∨a=k:=by
 induction m with
 | nil=>simp [dQ]
 | cons p m ih=>
  unfold dQ;cases hp:p.1 == k
  ·simp only [cond_false,List.map_cons,Js,ih,or_assoc]
  ·have e:p.1=k:=by simpa using hp
   simp only [cond_true,List.map_cons,Js,e];constructor
   ·rintro (h|h)
    ·exact .inr h
    ·exact .inl (.inr h)
   ·rintro ((h|h)|h)
    ·exact .inl h
    ·exact .inr h
    ·exact .inl h
theorem vT {m:List (Int×Bool)} {k:Int} {v:Bool} (h:(m.map (·.1)).Nodup):((dQ m k v).map (·.1)).Nodup:=by
 induction m with
 | nil=>simp [dQ]
 | cons p m ih=>
  rw [List.map_cons,List.nodup_cons] at h;unfold dQ;cases hp:p.1 == k
  ·have e:p.1≠k:=by simpa using hp
   rw [cond_false,List.map_cons,List.nodup_cons,uK];exact ⟨fun a=>a.elim h.1 e,ih h.2⟩
  ·have e:p.1=k:=by simpa using hp
   rw [cond_true,List.map_cons,List.nodup_cons];exact ⟨by rw [←e]; exact h.1,h.2⟩
theorem gz.put {f:List (List (Int×Bool))} {n:Nat} {R:Nat→Nat→Prop} (h:gz f n R) {p q:Nat} {m:List (Int×Bool)} (d:f[p]?=some m):gz (f.set p (dQ m (q:Int) true)) n (fun a c=>R a c∨(a=p∧c=q)):=by
 have hp:=(IR.1 d).1;refine ⟨by rw [Jz]; exact h.len,fun a m' ha=>?_,fun a m' ha k=>?_⟩
 ·rw [Jy] at ha;split at ha
  ·cases ha
   exact vT (h.nd _ _ d)
  ·exact h.nd _ _ ha
 ·rw [Jy] at ha;split at ha
  ·rename_i e;subst e;cases ha
   rw [uK,h.mem _ _ d];constructor
   ·rintro (⟨c,rfl,b⟩|rfl)
    ·exact ⟨c,rfl,.inl b⟩
    ·exact ⟨q,rfl,.inr ⟨rfl,rfl⟩⟩
   ·rintro ⟨c,rfl,b|⟨_,rfl⟩⟩
    ·exact .inl ⟨c,rfl,b⟩
    ·exact .inr rfl
  ·rename_i e;rw [h.mem _ _ ha];constructor
   ·rintro ⟨c,rfl,b⟩; exact ⟨c,rfl,.inl b⟩
   ·rintro ⟨c,rfl,b|⟨rfl,_⟩⟩
    ·exact ⟨c,rfl,b⟩
    ·exact absurd rfl e
theorem tw {S:List (aV 4)} {m:List (List (Int×Bool))} {n:Nat} {R:Nat→Nat→Prop} {fr to:List Nat} (h:gz m n R) (hf:∀p∈fr,p<n) (u:fr.length≤1000000000) (t:to.length≤1000000000) :
 Is (M.d4 ⟨S,m⟩ (gC fr) (gC to)) (fun r=>r.sets=S∧gz r.behind n (fun p q=>R p q∨(p∈fr∧q∈to))):=by
 unfold M.d4;refine Is.upto (fun i (d:List (List (Int×Bool))×Int)=>d.2=(i:Int)∧gz d.1 n (fun p q=>R p q∨(p∈fr.take i∧q∈to))) fr.length (by omega) ⟨rfl,h.congr (by simp)⟩ ?_ ?_
 ·rintro i ⟨l,_⟩ f ⟨rfl,hb⟩;have hb:gz l n _:=hb;have o:=hf _ (IU f);refine Is.dt (by rw [cP]; omega) (Is.bnd (P:=fun j=>gz j n (fun p q=>R p q∨(p∈fr.take (i+1)∧q∈to))) (Is.bnq (lu f) ?_) (fun j s=>Is.bnq (aK (by omega)) (Is.next ⟨rfl,s⟩)));refine Is.upto (fun k (d:List (List (Int×Bool))×Int)=>d.2=(k:Int)∧gz d.1 n (fun p q=>(R p q∨(p∈fr.take i∧q∈to))∨(p=fr[i]∧q∈to.take k))) to.length (by omega) ⟨rfl,hb.congr (by simp)⟩ ?_ ?_
  ·rintro k ⟨e,_⟩ g ⟨rfl,c⟩;have c:gz e n _:=c;have hl:fr[i]<e.length:=by rw [c.len]; exact o
   refine Is.dt (by rw [cP]; omega) (Is.bnq (lu g) (Is.bnq (be hl) (Is.bnq (cK hl) (Is.bnq (aK (by omega)) (Is.next ⟨rfl,?_⟩)))));refine (c.put (q:=to[k]) (IQ hl)).congr fun p q=>?_
   rw [cS g,IZ,IY];constructor
   ·rintro ((h|⟨b,a⟩)|⟨b,a⟩)
    ·exact .inl h
    ·exact .inr ⟨b,.inl a⟩
    ·exact .inr ⟨b,.inr a⟩
   ·rintro (h|⟨b,a|a⟩)
    ·exact .inl (.inl h)
    ·exact .inl (.inr ⟨b,a⟩)
    ·exact .inr ⟨b,a⟩
  ·rintro ⟨e,_⟩ ⟨rfl,c⟩;have c:gz e n _:=c;refine Is.df (by rw [cP]; omega) (Is.stop (c.congr fun p q=>?_));rw [IV,cS f,IZ,IY];constructor
   ·rintro ((h|⟨b,a⟩)|⟨b,a⟩)
    ·exact .inl h
    ·exact .inr ⟨.inl b,a⟩
    ·exact .inr ⟨.inr b,a⟩
   ·rintro (h|⟨b|b,a⟩)
    ·exact .inl (.inl h)
    ·exact .inl (.inr ⟨b,a⟩)
    ·exact .inr ⟨b,a⟩
 ·rintro ⟨l,_⟩ ⟨rfl,hb⟩;rw [IV] at hb;exact Is.df (by rw [cP]; omega) (Is.stop ⟨rfl,hb⟩)
theorem jS {a b:List Int} (h:a.length+b.length≤1000000000):M.a1 [a,b]=some (a++b):=by
 have hlen:([a,b]:List (List Int)).length=2:=rfl;refine Is.eq ?_;unfold M.a1;have hs:∀i,i≤2→((([a,b]:List (List Int)).take i).map List.length).sum≤1000000000:=by
  intro i c
  match i,c with
  | 0,_=>simp
  | 1,_=>simp; omega
  | 2,_=>simp; omega
 have f:∀i (c:i<([a,b]:List (List Int)).length),((([a,b]:List (List Int)).take (i+1)).map List.length).sum=((([a,b]:List (List Int)).take i).map List.length).sum+([a,b][i]).length:=by
  intro i c;rw [cS c,Jh,List.sum_append];simp
 refine Is.bnq (x:=((a.length+b.length:Nat):Int)) (Is.eq ?_) ?_
 ·refine Is.upto (fun i (e:Int×Int)=>e.2=(i:Int)∧e.1=(((([a,b]:List (List Int)).take i).map List.length).sum:Nat)) 2 (by omega) ⟨rfl,by simp⟩ ?_ ?_
  ·rintro i ⟨n,_⟩ c ⟨rfl,d⟩;obtain rfl:n=_:=d;have j:=hs (i+1) (by omega);have g:=f i (by rw [hlen]; exact c);refine Is.dt (by rw [hlen]; omega) (Is.bnq (x:=(((([a,b]:List (List Int)).take (i+1)).map List.length).sum:Nat)) (Is.eq ?_) (Is.bnq (aK (by omega)) (Is.next ⟨rfl,rfl⟩)));refine Is.bnq (be (by rw [hlen]; exact c)) (Is.bnq (x:=(((([a,b]:List (List Int)).take (i+1)).map List.length).sum:Nat)) ?_ (Is.df (by omega) (Is.pure rfl)));rw [dX (by omega) (by omega),g]; congr 1
  ·rintro ⟨n,_⟩ ⟨rfl,d⟩;obtain rfl:n=_:=d;exact Is.df (by rw [hlen]; omega) (Is.stop (by simp))
 ·refine Is.bnq (x:=[]) (by unfold M.h8 xw; rw [if_pos ⟨rfl,by omega,by omega⟩]) (Is.bnq (x:=a++b) (Is.eq ?_) (Is.pure rfl));refine Is.upto (fun i (e:List Int×Int)=>e.2=(i:Int)∧e.1=(([a,b]:List (List Int)).take i).flatten) 2 (by omega) ⟨rfl,by simp⟩ ?_ ?_
  ·rintro i ⟨n,_⟩ c ⟨rfl,d⟩;obtain rfl:n=_:=d;have j:=hs (i+1) (by omega);have g:=f i (by rw [hlen]; exact c);have k:((([a,b]:List (List Int)).take i).flatten).length=((([a,b]:List (List Int)).take i).map List.length).sum:=List.length_flatten;refine Is.dt (by rw [hlen]; omega) (Is.bnq (be (by rw [hlen]; exact c)) (Is.bnq (bO (by omega)) (Is.bnq (aK (by omega)) (Is.next ⟨rfl,?_⟩))));rw [cS (by rw [hlen]; exact c),List.flatten_append];simp
  ·rintro ⟨n,_⟩ ⟨rfl,d⟩;obtain rfl:n=_:=d;exact Is.df (by rw [hlen]; omega) (Is.stop (by simp))
def pD (x:Pt):bY:=⟨x.nl,gC x.fi,gC x.la⟩
def AR (r:Pt×Bs) (v:bY×bq):Prop:=v.1=pD r.1∧v.2.sets=r.2.S∧gz v.2.behind (r.2.S.length+1) (gu r.2.P)
theorem rl (x:T_Regex) (b:Bs):(∀p∈(bd x b).1.fi,p≤(bd x b).2.S.length)∧(∀p∈(bd x b).1.la,p≤(bd x b).2.S.length):=by
 obtain ⟨T,Q,h⟩:=il x b;exact ⟨fun p hp=>(h.rng.fi p hp).2,fun p hp=>(h.rng.la p hp).2⟩
theorem Cm (l:List T_Regex) (b:Bs):∀p∈(fI l ⟨true,[],[]⟩ b).1.la,p≤(fI l ⟨true,[],[]⟩ b).2.S.length:=by
 obtain ⟨T,Q,_,_,h,_⟩:=nM l ⟨true,[],[]⟩ b [] (fun w=>w=[]) b.S.length gg (fun U _=>gh (by simp) (by simp));exact fun p hp=>(h.la p hp).2
theorem pO (x:T_Regex) (b:Bs):b.S.length≤(bd x b).2.S.length:=by
 obtain ⟨T,Q,h⟩:=il x b;exact h.rng.le
theorem yJ {a:List (List (Int×Bool))} {n:Nat} {R:Nat→Nat→Prop} (h:gz a n R) (hR:∀q,¬ R n q):gz (a++[[]]) (n+1) R:=by
 have hl:=h.len;refine ⟨by simp [hl],fun p m hp=>?_,fun p m hp k=>?_⟩
 ·rw [List.getElem?_append] at hp;split at hp
  ·exact h.nd _ _ hp
  ·rw [List.getElem?_singleton] at hp;split at hp <;> cases hp
   simp
 ·rw [List.getElem?_append] at hp;split at hp
  ·exact h.mem _ _ hp k
  ·rw [List.getElem?_singleton] at hp;split at hp <;> cases hp
   have:p=n:=by omega
   subst this;simp only [List.map_nil,List.not_mem_nil,false_iff];rintro ⟨q,_,h⟩;exact hR q h
theorem Au {d:Nat} {k:Int} {s:aV 4} {l:List T_Regex} (h:V (d+1) ⟨k,s,l⟩=true):iU k s l.length=true∧∀y∈l,V d y=true:=by
 simp only [V,Bool.and_eq_true,List.all_eq_true] at h;exact h
theorem sq {s:aV 4} {n:Nat} (h:iU 6 s n=true):n=1:=by
 simp only [iU] at h;simp at h;exact h.1
theorem qg {k:Int} {s:aV 4} {n:Nat} (h:iU k s n=true):k=1∨k=2∨k=3∨k=4∨k=5∨k=6:=by
 by_cases e:k=1; · exact .inl e
 by_cases d:k=2; · exact .inr (.inl d)
 by_cases c:k=3; · exact .inr (.inr (.inl c))
 by_cases b:k=4; · exact .inr (.inr (.inr (.inl b)))
 by_cases a:k=5; · exact .inr (.inr (.inr (.inr (.inl a))))
 by_cases h6:k=6; · exact .inr (.inr (.inr (.inr (.inr h6))))
 simp [iU,e,d,c,b,a,h6] at h
def Dc (b:Bs):Prop:=∀p q,(p,q)∈b.P→p≤b.S.length∧q≤b.S.length
theorem FC (x:T_Regex) {b:Bs} (h:Dc b):Dc (bd x b).2:=by
 obtain ⟨T,Q,hm⟩:=il x b;intro p q hp;rw [hm.P,IZ] at hp;rcases hp with hp|hp
 ·have:=h p q hp; have:=hm.rng.le; omega
 ·have:=hm.rng.e p q hp; omega
theorem DP (l:List T_Regex) {b:Bs} (h:Dc b):Dc (fI l ⟨true,[],[]⟩ b).2:=by
 obtain ⟨T,Q,h1,h2,h3,_⟩:=nM l ⟨true,[],[]⟩ b [] (fun w=>w=[]) b.S.length gg (fun U _=>gh (by simp) (by simp));intro p q hp;rw [h2,IZ] at hp;rcases hp with hp|hp
 ·have:=h p q hp; have:=h3.le; omega
 ·have:=h3.e p q (by unfold gu; simpa using hp); omega
theorem DO (l:List T_Regex) {b:Bs} (h:Dc b):Dc (gn l ⟨false,[],[]⟩ b).2:=by
 obtain ⟨T,Q,h1,h2,h3,_⟩:=rp l ⟨false,[],[]⟩ b [] (fun _=>False) b.S.length gg (fun U _=>gh (by simp) (by simp));intro p q hp;rw [h2,IZ] at hp;rcases hp with hp|hp
 ·have:=h p q hp; have:=h3.le; omega
 ·have:=h3.e p q (by unfold gu; simpa using hp); omega
theorem BO:∀(d o:Nat) (x:T_Regex) (b:Bs) (z:List (List (Int×Bool))),V d x=true→2*d+1≤o→gz z (b.S.length+1) (gu b.P)→Dc b→b.S.length+parts x≤100000→Is (M.b7 o ⟨b.S,z⟩ x) (AR (bd x b)):=by
 intro d;induction d with
 | zero=>intro o x b z h; simp [V] at h
 | succ d ih=>
  intro o x b z hV a7 hB J hsz;obtain ⟨o,rfl⟩:∃f,o=f+1+1:=⟨o - 2,by omega⟩;obtain ⟨k,s,l⟩:=x;obtain ⟨R,K⟩:=Au hV;have a3:parts ⟨k,s,l⟩=bF l+1:=by simp [parts]
  rw [a3] at hsz;have a6:=fy l;unfold M.b7;rcases qg R with rfl|rfl|rfl|rfl|rfl|rfl
  ·refine Is.cf rfl (Is.cf rfl (Is.cf rfl (Is.cf rfl (Is.cf rfl (Is.ct rfl (Is.bnq (x:=(pD ⟨false,[],[]⟩,⟨b.S,z⟩)) rfl (Is.pure ?_)))))));exact ⟨rfl,rfl,hB⟩
  ·refine Is.cf rfl (Is.cf rfl (Is.cf rfl (Is.cf rfl (Is.ct rfl (Is.bnq (x:=(pD ⟨true,[],[]⟩,⟨b.S,z⟩)) rfl (Is.pure ?_))))));exact ⟨rfl,rfl,hB⟩
  ·have e:bd ⟨3,s,l⟩ b=(⟨false,[b.S.length+1],[b.S.length+1]⟩,⟨b.S++[s],b.P⟩):=by simp [bd]
   refine Is.cf rfl (Is.cf rfl (Is.cf rfl (Is.ct rfl ?_)));rw [e];have a8:=hB.len;refine Is.bnq (x:=(pD ⟨false,[b.S.length+1],[b.S.length+1]⟩,⟨b.S++[s],z++[[]]⟩)) (Is.eq ?_) (Is.pure ⟨rfl,rfl,?_⟩)
   ·unfold M.i3;refine Is.bnq (bO (by simp only [IT]; omega)) (Is.bnq (bO (by simp only [IT]; omega)) (Is.pure ?_));simp [pD,gC]
   ·have:=yJ hB (fun q h=>by have:=J _ _ h; omega);simpa using this
  ·have e:bd ⟨4,s,l⟩ b=fI l ⟨true,[],[]⟩ b:=by simp [bd]
   refine Is.cf rfl (Is.cf rfl (Is.ct rfl ?_));rw [e];refine Is.bnd (P:=AR (fI l ⟨true,[],[]⟩ b)) ?_ (fun v t=>Is.pure t);unfold M.e8;refine Is.bnd (P:=fun (v:Bool×List Int×List Int×List (aV 4)×List (List (Int×Bool)))=>AR (fI l ⟨true,[],[]⟩ b) (⟨v.1,v.2.1,v.2.2.1⟩,⟨v.2.2.2.1,v.2.2.2.2⟩)) ?_ (fun v t=>Is.pure t);refine Is.upto (fun i (g:List (aV 4)×List (List (Int×Bool))×Bool×List Int×List Int×Int)=>g.2.2.2.2.2=(i:Int)∧AR (fI (l.take i) ⟨true,[],[]⟩ b) (⟨g.2.2.1,g.2.2.2.1,g.2.2.2.2.1⟩,⟨g.1,g.2.1⟩)) l.length (by omega) ⟨rfl,by simp [fI,AR,pD,gC,hB]⟩ ?_ ?_
   ·rintro i ⟨S,H,n,fi,la,_⟩ u ⟨rfl,c,D,A⟩;simp only at c D A;obtain ⟨rfl,rfl,rfl⟩:n=(fI (l.take i) ⟨true,[],[]⟩ b).1.nl∧fi=gC (fI (l.take i) ⟨true,[],[]⟩ b).1.fi∧la=gC (fI (l.take i) ⟨true,[],[]⟩ b).1.la:=by
     unfold pD at c; cases c; exact ⟨rfl,rfl,rfl⟩
    subst D;have hq:=pQ (l.take i) ⟨true,[],[]⟩ b;have X:=Cm (l.take i) b;have B:=DP (l.take i) J;have a1:=eQ u;have a2:=cZ l (i+1);have a:=rq l[i] (l.take i) ⟨true,[],[]⟩ b;rw [←cS u] at a;generalize fI (l.take i) ⟨true,[],[]⟩ b=r at A hq X B a;simp only [List.length_nil] at hq;have hy:=fu l[i] r.2;have Q:=rl l[i] r.2;have a5:=pO l[i] r.2;refine Is.dt (show ((i:Nat):Int)<(l.length:Int) by omega) (Is.bnq (be u) (Is.bnd (ih o l[i] r.2 H (K _ (IU u)) (by omega) A B (by omega)) ?_));rintro ⟨N,I⟩ ⟨w,m,j⟩;simp only at w m j;subst w;obtain ⟨vs,a0⟩:=I;simp only at m j;subst m;refine Is.bnd (tw j (fr:=r.1.la) (to:=(bd l[i] r.2).1.fi) (fun p hp=>by have:=X p hp; omega) (by omega) (by omega)) ?_;rintro ⟨Y,L⟩ ⟨G,F⟩;simp only at G F;subst G;refine Is.bnq (x:=gC (eM r.1 (bd l[i] r.2).1).fi) (Is.eq (Is.cnd (fun hn=>?_) (fun hn=>?_))) ?_
    ·refine Is.bnq (jS (by simp only [pD,cP]; omega)) (Is.pure ?_);unfold eM pD;rw [hn,cond_true,jy]
    ·refine Is.pure ?_;unfold eM;rw [hn,cond_false]
    refine Is.bnq (x:=gC (eM r.1 (bd l[i] r.2).1).la) (Is.eq (Is.cnd (fun hn=>?_) (fun hn=>?_))) ?_
    ·have hn:(bd l[i] r.2).1.nl=true:=hn;refine Is.bnq (jS (by simp only [pD,cP]; omega)) (Is.pure ?_);unfold eM pD;rw [hn,cond_true,jy]
    ·have hn:(bd l[i] r.2).1.nl=false:=hn;refine Is.pure ?_;unfold eM pD;rw [hn,cond_false]
    have T:gz L ((fI (l.take (i+1)) ⟨true,[],[]⟩ b).2.S.length+1) (gu (fI (l.take (i+1)) ⟨true,[],[]⟩ b).2.P):=by
     rw [a];refine F.congr fun p q=>?_
     unfold gu;rw [IZ,eX]
    refine Is.cnd (fun hn=>?_) (fun hn=>?_)
    ·refine Is.bnq (aK (by omega)) (Is.next ⟨rfl,?_,?_,T⟩)
     ·rw [a]; unfold pD eM; rw [hn]; rfl
     ·rw [a]
    ·refine Is.bnq (aK (by omega)) (Is.next ⟨rfl,?_,?_,T⟩)
     ·rw [a]; unfold pD eM; rw [hn]; rfl
     ·rw [a]
   ·rintro ⟨S,H,n,fi,la,_⟩ ⟨rfl,c⟩;rw [IV] at c;exact Is.df (show ¬ ((l.length:Nat):Int)<(l.length:Int) by omega) (Is.stop c)
  ·have e:bd ⟨5,s,l⟩ b=gn l ⟨false,[],[]⟩ b:=by simp [bd]
   refine Is.cf rfl (Is.ct rfl ?_);rw [e];refine Is.bnd (P:=AR (gn l ⟨false,[],[]⟩ b)) ?_ (fun v t=>Is.pure t);unfold M.f2;refine Is.bnd (P:=fun (v:Bool×List Int×List Int×List (aV 4)×List (List (Int×Bool)))=>AR (gn l ⟨false,[],[]⟩ b) (⟨v.1,v.2.1,v.2.2.1⟩,⟨v.2.2.2.1,v.2.2.2.2⟩)) ?_ (fun v t=>Is.pure t);refine Is.upto (fun i (g:List (aV 4)×List (List (Int×Bool))×Bool×List Int×List Int×Int)=>g.2.2.2.2.2=(i:Int)∧AR (gn (l.take i) ⟨false,[],[]⟩ b) (⟨g.2.2.1,g.2.2.2.1,g.2.2.2.2.1⟩,⟨g.1,g.2.1⟩)) l.length (by omega) ⟨rfl,by simp [gn,AR,pD,gC,hB]⟩ ?_ ?_
   ·rintro i ⟨S,H,n,fi,la,_⟩ u ⟨rfl,c,D,A⟩;simp only at c D A;obtain ⟨rfl,rfl,rfl⟩:n=(gn (l.take i) ⟨false,[],[]⟩ b).1.nl∧fi=gC (gn (l.take i) ⟨false,[],[]⟩ b).1.fi∧la=gC (gn (l.take i) ⟨false,[],[]⟩ b).1.la:=by
     unfold pD at c; cases c; exact ⟨rfl,rfl,rfl⟩
    subst D;have hq:=pP (l.take i) ⟨false,[],[]⟩ b;have B:=DO (l.take i) J;have a1:=eQ u;have a2:=cZ l (i+1);have a:=rm l[i] (l.take i) ⟨false,[],[]⟩ b;rw [←cS u] at a;generalize gn (l.take i) ⟨false,[],[]⟩ b=r at A hq B a;simp only [List.length_nil] at hq;have hy:=fu l[i] r.2;refine Is.dt (show ((i:Nat):Int)<(l.length:Int) by omega) (Is.bnq (be u) (Is.bnd (ih o l[i] r.2 H (K _ (IU u)) (by omega) A B (by omega)) ?_));rintro ⟨N,I⟩ ⟨w,m,j⟩;simp only at w m j;subst w;have W:M.a1 [gC r.1.fi,(pD (bd l[i] r.2).1).first]=some (gC (iP r.1 (bd l[i] r.2).1).fi):=by
     rw [jS (by simp only [pD,cP]; omega)];unfold iP pD;rw [jy]
    have U:M.a1 [gC r.1.la,(pD (bd l[i] r.2).1).last]=some (gC (iP r.1 (bd l[i] r.2).1).la):=by
     rw [jS (by simp only [pD,cP]; omega)];unfold iP pD;rw [jy]
    refine Is.cnd (fun hn=>?_) (fun hn=>?_)
    ·refine Is.bnq W (Is.bnq U (Is.bnq (aK (by omega)) (Is.next ⟨rfl,?_,?_,?_⟩)))
     ·rw [a]; unfold pD iP; rw [hn]; rfl
     ·rw [a]; exact m
     ·rw [a]; exact j
    ·refine Is.bnq W (Is.bnq U (Is.bnq (aK (by omega)) (Is.next ⟨rfl,?_,?_,?_⟩)))
     ·rw [a]; unfold pD iP; rw [hn]; rfl
     ·rw [a]; exact m
     ·rw [a]; exact j
   ·rintro ⟨S,H,n,fi,la,_⟩ ⟨rfl,c⟩;rw [IV] at c;exact Is.df (show ¬ ((l.length:Nat):Int)<(l.length:Int) by omega) (Is.stop c)
  ·have c:=sq R
   match l,c with
   | [y],_=>
    have e:bd ⟨6,s,[y]⟩ b=(⟨true,(bd y b).1.fi,(bd y b).1.la⟩,⟨(bd y b).2.S,(bd y b).2.P++dz (bd y b).1.la (bd y b).1.fi⟩):=by simp [bd,AP]
    refine Is.ct rfl ?_;rw [e];refine Is.bnd (P:=AR (⟨true,(bd y b).1.fi,(bd y b).1.la⟩,⟨(bd y b).2.S,(bd y b).2.P++dz (bd y b).1.la (bd y b).1.fi⟩)) ?_ (fun v t=>Is.pure t);unfold M.f8;simp only [bF] at hsz;have hy:=fu y b;have Q:=rl y b;refine Is.bnq (x:=y) rfl (Is.bnd (ih o y b z (K y (by simp)) (by omega) hB J (by omega)) ?_);rintro ⟨N,I⟩ ⟨w,m,j⟩;simp only at w m j;subst w;obtain ⟨vs,a0⟩:=I;simp only at m j;subst m;refine Is.bnd (tw j (fr:=(bd y b).1.la) (to:=(bd y b).1.fi) (fun p hp=>by have:=Q.2 p hp; omega) (by omega) (by omega)) ?_;rintro ⟨Y,L⟩ ⟨G,F⟩;simp only at G F;subst G;refine Is.pure ⟨rfl,rfl,F.congr fun p q=>?_⟩;unfold gu;rw [IZ,eX]
def tV (a:List Int) (n:Nat):List Int:=a++List.replicate (n+1 - a.length) (-1)
def lN (la:List Nat) (i:Int) (a:List Int):List Int:=la.foldl (fun a p=>a.set p i) a
def lU (nl:Bool) (i:Int) (a:List Int):List Int:=bif nl && decide (a.getD 0 0<0) then a.set 0 i else a
def so (i:Nat) (x:T_Regex) (s:Bs×List Int):Bs×List Int:=
 (⟨(bd x s.1).2.S,(bd x s.1).2.P++dz [0] (bd x s.1).1.fi⟩,lU (bd x s.1).1.nl i (lN (bd x s.1).1.la i (tV s.2 (bd x s.1).2.S.length)))
def dM:Nat→List T_Regex→Bs×List Int→Bs×List Int
 | _,[],s=>s
 | i,x::l,s=>dM (i+1) l (so i x s)
theorem nG (y:T_Regex):∀(l:List T_Regex) (i:Nat) (s:Bs×List Int),dM i (l++[y]) s=so (i+l.length) y (dM i l s)
 | [],i,s=>by simp [dM]
 | x::l,i,s=>by
  simp only [Je,dM,Jp];rw [nG y l (i+1) (so i x s)];congr 1; omega
def dn:Bs×List Int:=(⟨[],[]⟩,[-1])
theorem iW (i:Int):∀(la:List Nat) (a:List Int),(lN la i a).length=a.length
 | [],a=>rfl
 | p::la,a=>by
  have:=iW i la (a.set p i);rw [Jz] at this;exact this
theorem zT (nl:Bool) (i:Int) (a:List Int):(lU nl i a).length=a.length:=by
 unfold lU;cases nl && decide (a.getD 0 0<0) <;> simp
theorem pF {a:List Int} {n:Nat} (h:a.length≤n+1):(tV a n).length=n+1:=by
 unfold tV;rw [IW,Jq];omega
structure Ea (s:Bs×List Int):Prop where
  cl:Dc s.1
  pos:∀p q,(p,q)∈s.1.P→1≤q
  len:s.2.length=s.1.S.length+1
theorem Dt {i:Nat} {x:T_Regex} {s:Bs×List Int} (h:Ea s):Ea (so i x s):=by
 obtain ⟨T,Q,a⟩:=il x s.1;have f:=pO x s.1;have c:=rl x s.1;have hl:=h.len;refine ⟨fun p q hp=>?_,fun p q hp=>?_,?_⟩
 ·rcases IZ.1 hp with hp|hp
  ·exact FC x h.cl p q hp
  ·obtain ⟨d,b⟩:=eX.1 hp;obtain rfl:=IY.1 d;exact ⟨Nat.zero_le _,c.1 q b⟩
 ·rcases IZ.1 hp with hp|hp
  ·rw [a.P] at hp;rcases IZ.1 hp with hp|hp
   ·exact h.pos p q hp
   ·have:=a.rng.e p q hp; omega
  ·obtain ⟨_,b⟩:=eX.1 hp;have:=a.rng.fi q b; omega
 ·show (lU _ _ _).length=(bd x s.1).2.S.length+1;rw [zT,iW,pF (by omega)]
theorem jP:∀(l:List T_Regex) (i:Nat) (s:Bs×List Int),Ea s→Ea (dM i l s)
 | [],_,_,h=>h
 | x::l,i,s,h=>jP l (i+1) (so i x s) (Dt h)
theorem oQ:Ea dn:=⟨fun p q h=>by simp [dn] at h,fun p q h=>by simp [dn] at h,rfl⟩
theorem lH:∀(l:List T_Regex) (i:Nat) (s:Bs×List Int),(dM i l s).1.S.length≤s.1.S.length+bF l
 | [],_,s=>by simp [dM,bF]
 | x::l,i,s=>by
  have h1:=lH l (i+1) (so i x s);have h2:(so i x s).1.S.length≤s.1.S.length+parts x:=(fu x s.1).2.2;simp only [dM,bF];omega
theorem uD {a:List Int} {n:Nat} (h:a.length≤n+1) (hn:n≤1000000) {body:List Int→Option (cQ (List Int) (List Int))}
 (hb:∀s,body s=bif decide ((s.length:Int)≤(n:Int)) then (cD 8 s [(-1)]).bind fun y=>some (.next y) else some (.stop s)):ba body aZ a=some (tV a n):=by
 refine Is.eq ?_;refine Is.while (fun s=>∃k,s=a++List.replicate k (-1)∧s.length≤n+1) (fun s=>n+1 - s.length) ⟨0,by simp,h⟩ (by omega) ?_;rintro s ⟨k,rfl,hl⟩;rw [hb];refine Is.dcd (fun b=>Is.bnq (bO (by simp only [IT]; omega)) (Is.next ⟨⟨k+1,by rw [Ja,List.replicate_succ'],by rw [IW,IT]; omega⟩,?_⟩)) (fun b=>Is.stop ?_)
 ·rw [IW,IT]; omega
 ·unfold tV;rw [IW,Jq] at b hl;congr 2; omega
theorem uq {a:List Int} {la:List Nat} {v:Int} (f:∀p∈la,p<a.length) (hl:la.length≤1000000) {body:List Int×Int→Option (cQ (List Int×Int) (List Int))}
 (hb:∀s i,body (s,i)=bif decide (i<((gC la).length:Int)) then (bC (gC la) i).bind fun e=>(dk s e v).bind fun y=>(bZ .i64 (i+1)).bind fun t=>some (.next (y,t)) else some (.stop s)):ba body aZ (a,(0:Int))=some (lN la v a):=by
 refine Is.eq ?_;refine Is.upto (fun i (d:List Int×Int)=>d.2=(i:Int)∧d.1=lN (la.take i) v a) la.length (by omega) ⟨rfl,rfl⟩ ?_ ?_
 ·rintro i ⟨s,_⟩ b ⟨rfl,c⟩;obtain rfl:s=_:=c;rw [hb];refine Is.dt (by rw [cP]; omega) (Is.bnq (lu b) (Is.bnq (cK (by rw [iW]; exact f _ (IU b))) (Is.bnq (aK (by omega)) (Is.next ⟨rfl,?_⟩))));show List.set _ _ _=_;unfold lN;rw [cS b,List.foldl_append];rfl
 ·rintro ⟨s,_⟩ ⟨rfl,c⟩;obtain rfl:s=_:=c;rw [hb,IV];exact Is.df (by rw [cP]; omega) (Is.stop rfl)
theorem yz {a:List Int} (h:0<a.length):bC a 0=some (a.getD 0 0):=by
 have:=be (l:=a) (i:=0) h;rw [show ((0:Nat):Int)=0 from rfl] at this;rw [this];simp [IP,h]
theorem zS {α:Type} {n:Bool} {a:List Int} {v:Int} {f:List Int→α} (h:0<a.length) :
 ((bif n then (bC a 0).bind fun e=>some (decide (e<0)) else some false).bind fun x=>bif x then (dk a 0 v).bind fun y=>some (f y) else some (f a))=some (f (lU n v a)):=by
 have hs:dk a 0 v=some (a.set 0 v):=cK (i:=0) h;unfold lU;cases n
 ·rfl
 ·rw [cond_true,yz h,hs];simp only [IS,Bool.true_and];cases decide (a.getD 0 0<0) <;> rfl
def AO (S:List (aV 4)) (p q:Nat):cd:=⟨p,q,false,S.getD (q - 1) (aV.zero 4)⟩
def oZ (P:List (Nat×Nat)) (N p:Nat):List Nat:=(List.range N).filter fun q=>decide ((p,q)∈P)
def vj (S:List (aV 4)) (P:List (Nat×Nat)) (N p:Nat):List cd:=(oZ P N p).map (AO S p)
def gm (S:List (aV 4)) (P:List (Nat×Nat)) (N k:Nat):List cd:=(List.range k).flatMap (vj S P N)
def dg (l:List T_Regex):T_NFA:=⟨((dM 0 l dn).2.length:Int),0,gm (dM 0 l dn).1.S (dM 0 l dn).1.P (dM 0 l dn).2.length (dM 0 l dn).2.length,(dM 0 l dn).2⟩
theorem ql (P:List (Nat×Nat)) (N p:Nat):(oZ P N p).length≤N:=by
 have:=List.length_filter_le (fun q=>decide ((p,q)∈P)) (List.range N);rw [Jw] at this;exact this
theorem jk {P:List (Nat×Nat)} {N p q:Nat}:q∈oZ P N p↔q<N∧(p,q)∈P:=by
 unfold oZ;rw [JB,Ju];simp
theorem oM (P:List (Nat×Nat)) (N p:Nat):(oZ P N p).Pairwise (·<·):=List.Pairwise.filter _ List.pairwise_lt_range
theorem oK (S:List (aV 4)) (P:List (Nat×Nat)) (N:Nat):∀k,(gm S P N k).length≤k*N
 | 0=>by simp [gm]
 | k+1=>by
  have:=oK S P N k;have h2:=ql P N k;unfold gm at this ⊢;rw [JD,List.flatMap_append,IW,Nat.succ_mul];simp only [List.flatMap_cons,List.flatMap_nil,List.append_nil,vj,Jg] at this ⊢;omega
theorem wB (S:List (aV 4)) (P:List (Nat×Nat)) (N k:Nat):gm S P N (k+1)=gm S P N k++vj S P N k:=by
 unfold gm;rw [JD,List.flatMap_append];simp
theorem zL {g:List (List (Int×Bool))} {N:Nat} {P:List (Nat×Nat)} (h:gz g N (gu P)) (hq:∀p q,(p,q)∈P→q<N) (s:N≤1000000) {p:Nat} {m:List (Int×Bool)} (f:g[p]?=some m):sB m=some (gC (oZ P N p)):=by
 have d:=h.mem p m f;have l:=h.nd p m f;have j:(gC (oZ P N p)).Nodup:=by
  unfold gC;refine List.pairwise_map.2 ((oM P N p).imp ?_);intro a b n e;have:a=b:=by omega
  omega
 have c:(m.map (·.1)).Perm (gC (oZ P N p)):=by
  refine (List.perm_ext_iff_of_nodup l j).2 fun k=>?_
  rw [d];unfold gC;rw [Jt];constructor
  ·rintro ⟨q,rfl,hR⟩;exact ⟨q,jk.2 ⟨hq p q hR,hR⟩,rfl⟩
  ·rintro ⟨q,hR,rfl⟩;exact ⟨q,rfl,(jk.1 hR).2⟩
 have hlen:m.length≤N:=by
  have:=c.length_eq;rw [Jg,cP] at this;have:=ql P N p;omega
 have i:∀x∈m,-9223372036854775808≤x.1∧x.1≤9223372036854775807:=by
  intro x hx;obtain ⟨q,e,hR⟩:=(d x.1).1 (Jt.2 ⟨x,hx,rfl⟩);have:=hq p q hR;omega
 unfold sB;rw [if_pos ⟨by omega,i⟩];congr 1;refine List.Perm.eq_of_pairwise (le:=fun a b:Int=>a≤b) (fun a b _ _ r o=>Int.le_antisymm r o) (jO _) ?_ ((mH _).trans c);unfold gC;refine List.pairwise_map.2 ((oM P N p).imp ?_);intro a b n;omega
theorem wQ {S:List (aV 4)} {q:Nat} (h1:1≤q) (h2:q≤S.length):bC S ((q:Int) - 1)=some (S.getD (q - 1) (aV.zero 4)):=by
 have:=be (l:=S) (i:=q - 1) (by omega);rw [show ((q - 1:Nat):Int)=(q:Int) - 1 by omega] at this;rw [this];simp [IP,show q - 1<S.length by omega]
def zN:T_NFA:=⟨0,0,[],[]⟩
def HF {α:Type} (l:List T_Regex) (e:Int) (x:α) (z n:α):Prop:=
 ((∃y∈l,V 30 y=false)∧e=1∧x=z)∨((∀y∈l,V 30 y=true)∧500<bF l∧e=11∧x=z)∨((∀y∈l,V 30 y=true)∧bF l≤500∧e=0∧x=n)
theorem re {ρ:Type} {l:List T_Regex} (hp:bF l≤1048576) {v n:T_Regex→Option _} (f:∀y∈l,v y=some (V 30 y)) (hn:∀y∈l,n y=some (parts y:Int)) {z:ρ} {body:Int×Int→Option (cQ (Int×Int) (cQ Int ρ))}
 (hb:∀t i,body (t,i)=bif decide (i<(l.length:Int)) then (bC l i).bind fun e=>(v e).bind fun r=>bif (!r) then some (.stop (.stop z)) else (n e).bind fun m=>(bZ .i64 (t+m)).bind fun t=>(bZ .i64 (i+1)).bind fun u=>some (.next (t,u)) else some (.stop (.next t))) :
 Is (ba body aZ ((0:Int),(0:Int))) (SP (fun t=>(∀y∈l,V 30 y=true)∧t=(bF l:Int)) (fun r=>(∃y∈l,V 30 y=false)∧r=z)):=by
 have hlen:=fy l;refine Is.upto (fun i (d:Int×Int)=>d.2=(i:Int)∧(∀y∈l.take i,V 30 y=true)∧d.1=(bF (l.take i):Int)) l.length (by omega) ⟨rfl,by simp,by simp [bF]⟩ ?_ ?_
 ·rintro i ⟨t,_⟩ a ⟨rfl,b,c⟩;obtain rfl:t=_:=c;have g:=eQ a;have j:=cZ l (i+1);rw [hb];refine Is.dt (by omega) (Is.bnq (be a) (Is.bnq (f _ (IU a)) (Is.cnd (fun h=>Is.stop ⟨⟨_,IU a,by simpa using h⟩,rfl⟩) (fun h=>?_))));refine Is.bnq (hn _ (IU a)) (Is.bnq (x:=(bF (l.take (i+1)):Int)) (by rw [dX (by omega) (by omega),g]; congr 1) (Is.bnq (aK (by omega)) (Is.next ⟨rfl,fun y hy=>?_,rfl⟩)));rw [cS a] at hy;rcases IZ.1 hy with hy|hy
  ·exact b y hy
  ·obtain rfl:=IY.1 hy;simpa using h
 ·rintro ⟨t,_⟩ ⟨rfl,b,c⟩;obtain rfl:t=_:=c;rw [IV] at b;rw [hb];refine Is.df (by omega) (Is.stop ⟨b,by rw [IV]⟩)
theorem xb {σ ρ:Type} {P:σ→Prop} {Q Q':ρ→Prop} {s:cQ σ ρ} (h:SP P Q s) (k:∀r,Q r→Q' r):SP P Q' s:=by
 cases s
 ·exact h
 ·exact k _ h
theorem uX {l:List T_Regex} (ok:∀x∈l,bQ x) (hp:bF l≤1048576):Is (M.j9 l) (fun e=>HF l e () () ()):=by
 unfold M.j9;have hn:∀y∈l,M.e4 aZ y=some (parts y:Int):=fun y hy=>uw aZ y (by have:=eW hy; unfold aZ; omega) (by have:=eW hy; omega)
 refine Is.bs (P:=fun t=>(∀y∈l,V 30 y=true)∧t=(bF l:Int)) ((re hp (v:=M.h0) (n:=M.e4 aZ) (fun y hy=>kx (ok y hy)) hn (z:=(1:Int)) (fun _ _=>rfl)).mono fun s hs=>xb hs fun r a=>.inl ⟨a.1,a.2,rfl⟩) fun t c=>?_
 obtain ⟨b,rfl⟩:=c;exact Is.dcd (fun h=>Is.pure (.inr (.inl ⟨b,by omega,rfl,rfl⟩))) (fun h=>Is.pure (.inr (.inr ⟨b,by omega,rfl,rfl⟩)))
theorem DN:gz [[]] 1 (gu []):=by
 refine ⟨rfl,fun p m h=>?_,fun p m h k=>?_⟩
 ·rw [List.getElem?_singleton] at h;split at h <;> cases h
  simp
 ·rw [List.getElem?_singleton] at h;split at h <;> cases h
  simp [gu]
theorem BM {l:List T_Regex} (ok:∀x∈l,bQ x) (hp:bF l≤1048576):Is (M.d1 l) (fun r=>HF l r.2 r.1 zN (dg l)):=by
 unfold M.d1;have hn:∀y∈l,M.g7 aZ y=some (parts y:Int):=fun y hy=>zv aZ y (by have:=eW hy; unfold aZ; omega) (by have:=eW hy; omega)
 refine Is.bs (P:=fun t=>(∀y∈l,V 30 y=true)∧t=(bF l:Int)) ((re hp (v:=M.g9) (n:=M.g7 aZ) (fun y hy=>rv (ok y hy)) hn (z:=(zN,(1:Int))) (fun _ _=>rfl)).mono fun s hs=>xb hs fun r j=>.inl ⟨j.1,by rw [j.2],by rw [j.2]⟩) fun t Y=>?_
 obtain ⟨H,rfl⟩:=Y;refine Is.dcd (fun h=>Is.pure (.inr (.inl ⟨H,by omega,rfl,rfl⟩))) (fun h=>?_);have a6:bF l≤500:=by omega
 have hlen:=fy l;refine Is.mono (P:=fun r=>r=(dg l,0)) ?_ (fun r j=>.inr (.inr ⟨H,a6,by rw [j],by rw [j]⟩));have G:=jP l 0 dn oQ;have b6:=lH l 0 dn;have b2:dn.1.S.length=0:=rfl;refine Is.bnd (P:=fun (v:List (aV 4)×List (List (Int×Bool))×List Int)=>v.1=(dM 0 l dn).1.S∧gz v.2.1 ((dM 0 l dn).1.S.length+1) (gu (dM 0 l dn).1.P)∧v.2.2=(dM 0 l dn).2) ?_ ?_
 ·refine Is.upto (fun i (c:List (aV 4)×List (List (Int×Bool))×List Int×Int)=>c.2.2.2=(i:Int)∧c.1=(dM 0 (l.take i) dn).1.S∧gz c.2.1 ((dM 0 (l.take i) dn).1.S.length+1) (gu (dM 0 (l.take i) dn).1.P)∧c.2.2.1=(dM 0 (l.take i) dn).2) l.length (by omega) ⟨rfl,rfl,DN,rfl⟩ ?_ ?_
  ·rintro i ⟨S,B,a,_⟩ o ⟨rfl,e,b,d⟩;simp only at e b d;subst e d;have I:=jP (l.take i) 0 dn oQ;have gl:=lH (l.take i) 0 dn;have b4:=eQ o;have b5:=cZ l (i+1);have m:=nG l[i] (l.take i) 0 dn;rw [←cS o,show 0+(l.take i).length=i by rw [Jo]; omega] at m;generalize dM 0 (l.take i) dn=s at b I gl m;have hy:=fu l[i] s.1;have X:=rl l[i] s.1;have b1:=pO l[i] s.1;have hal:=I.len;refine Is.dt (by omega) (Is.bnd (P:=fun (v:List (aV 4)×List (List (Int×Bool))×List Int)=>v.1=(so i l[i] s).1.S∧gz v.2.1 ((so i l[i] s).1.S.length+1) (gu (so i l[i] s).1.P)∧v.2.2=(so i l[i] s).2) (Is.bnq (be o) (Is.bnd (BO 30 aZ l[i] s.1 B (H _ (IU o)) (by unfold aZ; omega) b I.cl (by omega)) ?_)) ?_)
   ·rintro ⟨vp,vs,W⟩ ⟨A,w,u⟩;simp only at A w u;subst A w;refine Is.bnd (tw u (fr:=[0]) (to:=(bd l[i] s.1).1.fi) (fun p hp=>by obtain rfl:=IY.1 hp; omega) (by simp) (by omega)) ?_;rintro ⟨ws,U⟩ ⟨T,R⟩;simp only at T R;subst T;have L:(tV s.2 (bd l[i] s.1).2.S.length).length=(bd l[i] s.1).2.S.length+1:=pF (by omega);refine Is.bnq (uD (a:=s.2) (n:=(bd l[i] s.1).2.S.length) (by omega) (by omega) (fun _=>rfl)) ?_;refine Is.bnq (uq (la:=(bd l[i] s.1).1.la) (v:=(i:Int)) (fun p hp=>by rw [L]; have:=X.2 p hp; omega) (by omega) (fun _ _=>rfl)) ?_;refine Is.of (zS (f:=fun y=>((bd l[i] s.1).2.S,U,y)) (by rw [iW,L]; omega)) ⟨rfl,R.congr fun p q=>?_,rfl⟩;show _↔(p,q)∈(bd l[i] s.1).2.P++dz [0] (bd l[i] s.1).1.fi;rw [IZ,eX];rfl
   ·rintro ⟨vs,W,va⟩ ⟨A,w,u⟩;simp only at A w u;subst A u;refine Is.bnq (aK (by omega)) (Is.next ⟨rfl,?_,?_,?_⟩)
    ·rw [m]
    ·rw [m]; exact w
    ·rw [m]
  ·rintro ⟨S,B,a,_⟩ ⟨rfl,e,b,d⟩;simp only at e b d;rw [IV] at e b d;exact Is.df (by omega) (Is.stop ⟨e,b,d⟩)
 ·rintro ⟨S,B,a⟩ ⟨e,b,d⟩;simp only at e b d;subst e d;have hal:=G.len;have a4:∀p q,(p,q)∈(dM 0 l dn).1.P→q<(dM 0 l dn).2.length:=fun p q h=>by have:=G.cl p q h; omega
  have a1:=G.pos;have Q:(dM 0 l dn).2.length≤501:=by omega
  rw [←hal] at b;have b7:=b.len;unfold dg;generalize (dM 0 l dn).2=acc at *;generalize (dM 0 l dn).1.S=S at *;generalize (dM 0 l dn).1.P=P at *;have hL:=oK S P acc.length;have F:∀k,k≤acc.length→(gm S P acc.length k).length≤251001:=fun k F=>Nat.le_trans (hL k) (Nat.le_trans (Nat.mul_le_mul F (Nat.le_refl _)) (Nat.le_trans (Nat.mul_le_mul Q Q) (by decide)))
  refine Is.bnq (x:=gm S P acc.length acc.length) (Is.eq ?_) (Is.pure rfl);refine Is.upto (fun i (c:List cd×Int)=>c.2=(i:Int)∧c.1=gm S P acc.length i) acc.length (by omega) ⟨rfl,rfl⟩ ?_ ?_
  ·rintro i ⟨J,_⟩ o ⟨rfl,g⟩;obtain rfl:J=_:=g;have N:i<B.length:=by omega
   refine Is.dt (by omega) (Is.bnq (x:=gm S P acc.length (i+1)) (Is.eq (Is.bnq (be N) (Is.bnq (zL b a4 (by omega) (IQ N)) ?_))) (Is.bnq (aK (by omega)) (Is.next ⟨rfl,rfl⟩)));have b3:=ql P acc.length i;refine Is.upto (fun k (c:List cd×Int)=>c.2=(k:Int)∧c.1=gm S P acc.length i++((oZ P acc.length i).take k).map (AO S i)) (oZ P acc.length i).length (by omega) ⟨rfl,by simp⟩ ?_ ?_
   ·rintro k ⟨K,_⟩ D ⟨rfl,g⟩;obtain rfl:K=_:=g;have a3:=jk.1 (IU D);have a0:=a1 _ _ a3.2;have h6:=F i (by omega);refine Is.dt (by rw [cP]; omega) (Is.bnq (lu D) (Is.bnq (x:=(((oZ P acc.length i)[k]:Int)) - 1) (dX (by omega) (by omega)) (Is.bnq (wQ a0 (by omega)) (Is.bnq (bO ?_) (Is.bnq (aK (by omega)) (Is.next ⟨rfl,?_⟩))))))
    ·rw [IW,Jg,Jo,IT]; omega
    ·rw [cS D,Jh,Ja];rfl
   ·rintro ⟨K,_⟩ ⟨rfl,g⟩;obtain rfl:K=_:=g;refine Is.df (by rw [cP]; omega) (Is.stop ?_);rw [IV,wB];rfl
  ·rintro ⟨J,_⟩ ⟨rfl,g⟩;obtain rfl:J=_:=g;exact Is.df (by omega) (Is.stop rfl)
theorem BC {a:List Int} {n:Nat} (h:∀x∈a,-1≤x):∀x∈tV a n,-1≤x:=by
 intro x hx;rcases IZ.1 hx with hx|hx
 ·exact h x hx
 ·rw [(List.mem_replicate.1 hx).2]; omega
theorem uJ {i:Int} (hi:0≤i):∀(la:List Nat) {a:List Int},(∀x∈a,-1≤x)→∀x∈lN la i a,-1≤x
 | [],_,h=>h
 | p::la,a,h=>uJ hi la (a:=a.set p i) fun x hx=>by
  rcases List.mem_or_eq_of_mem_set hx with hx|rfl
  ·exact h x hx
  ·omega
theorem zC {i:Int} (hi:0≤i) {n:Bool} {a:List Int} (h:∀x∈a,-1≤x):∀x∈lU n i a,-1≤x:=by
 unfold lU;cases n && decide (a.getD 0 0<0)
 ·exact h
 ·intro x hx;rcases List.mem_or_eq_of_mem_set hx with hx|rfl
  ·exact h x hx
  ·omega
theorem xH:∀(l:List T_Regex) (i:Nat) (s:Bs×List Int),(∀x∈s.2,-1≤x)→∀x∈(dM i l s).2,-1≤x
 | [],_,_,h=>h
 | y::l,i,s,h=>xH l (i+1) (so i y s) (zC (Int.natCast_nonneg i) (uJ (Int.natCast_nonneg i) _ (BC h)))
theorem jl {S:List (aV 4)} {P:List (Nat×Nat)} {N k:Nat} {a:cd}:a∈gm S P N k↔∃p q,p<k∧q<N∧(p,q)∈P∧a=AO S p q:=by
 unfold gm vj;rw [List.mem_flatMap];constructor
 ·rintro ⟨p,hp,h⟩;obtain ⟨q,hq,rfl⟩:=Jt.1 h;exact ⟨p,q,Ju.1 hp,(jk.1 hq).1,(jk.1 hq).2,rfl⟩
 ·rintro ⟨p,q,hp,hq,hR,rfl⟩;exact ⟨p,Ju.2 hp,Jt.2 ⟨q,jk.2 ⟨hq,hR⟩,rfl⟩⟩
theorem kQ {l:List T_Regex} (h:bF l≤500):VN (dg l)∧(dg l).Arcs.length≤251001:=by
 have c:=jP l 0 dn oQ;have f:=lH l 0 dn;have d:dn.1.S.length=0:=rfl;have hal:=c.len;have b:(dM 0 l dn).2.length≤501:=by omega
 refine ⟨⟨?_,?_,⟨?_,?_⟩,rfl,xH l 0 dn (by simp [dn]),?_⟩,?_⟩
 ·show (1:Int)≤((dM 0 l dn).2.length:Int); omega
 ·show ((dM 0 l dn).2.length:Int)≤2000; omega
 ·show (0:Int)≤0; omega
 ·show (0:Int)<((dM 0 l dn).2.length:Int); omega
 ·intro a ha;obtain ⟨p,q,hp,hq,_,rfl⟩:=jl.1 ha;refine ⟨⟨?_,?_⟩,⟨?_,?_⟩,fun e=>by cases e⟩
  ·show (0:Int)≤(p:Int); omega
  ·show (p:Int)<((dM 0 l dn).2.length:Int); omega
  ·show (0:Int)≤(q:Int); omega
  ·show (q:Int)<((dM 0 l dn).2.length:Int); omega
 ·exact Nat.le_trans (oK _ _ _ _) (Nat.le_trans (Nat.mul_le_mul b b) (by decide))
end Go.Proofs.YtggpjcdhflcfmaaGreatDoor
namespace Go.Proofs.YtggpjcdhflcfmaaGreatDoor
open Go.Lx
open Classical
def big:Nat:=2199023255552
inductive Fit:T_Regex→Prop where
  | mk (x:T_Regex):W4 x.Set→x.Kids.length≤big→(x.Kind=6→∃y,x.Kids=[y])→(x.Kind=1→x=nq)→(x.Kind=2→x=qG)→(∀y∈x.Kids,Fit y)→Fit x
theorem Fit.set {x} (h:Fit x):W4 x.Set:=by cases h; assumption
theorem Fit.len {x} (h:Fit x):x.Kids.length≤big:=by cases h; assumption
theorem Fit.kids {x} (h:Fit x):∀y∈x.Kids,Fit y:=by cases h; assumption
theorem mI {x y:T_Regex} (h:y∈x.Kids):height y<height x:=by
 obtain ⟨k,s,l⟩:=x;have:height y≤ce l:=wj h;simp only [height];omega
theorem uG:∀b x,Fit x→height x<b→M.c6 b x=some (nb x):=by
 intro b;induction b with
 | zero=>intro a _ h; omega
 | succ b ih=>
  rintro ⟨k,s,l⟩ hF hh;have hl:l.length≤9223372036854775807:=Nat.le_trans hF.len (by decide);have d:∀y∈l,M.c6 b y=some (nb y):=fun y hy=>ih y (hF.kids y hy) (by have:=mI (x:=⟨k,s,l⟩) hy; omega)
  have g:=qS (ρ:=cQ Unit (cQ Unit Bool)) (X:=.stop (.stop false)) (Y:=.next ()) d hl;have c:=zH (ρ:=cQ Unit Bool) (X:=.stop true) (Y:=.next ()) d hl;unfold M.c6;rcases gj k with rfl|rfl|rfl|rfl|rfl|⟨c,i,f,e,h6⟩
  ·simp [nb,bp]
  ·simp [nb,bp]
  ·refine Is.eq (Is.bs (P:=fun _=>False) (Is.bnq (x:=false) rfl (Is.cf rfl (Is.ct rfl ?_))) (fun _ h=>h.elim));rw [g];show Is _ (SP _ (fun r=>r=DY l));rw [zy];cases l.all nb
   ·exact Is.stop rfl
   ·exact Is.stop rfl
  ·refine Is.eq (Is.bs (P:=fun _=>l.any nb=false) (Q:=fun r=>r=DX l) (Is.bnq (x:=false) rfl (Is.cf rfl (Is.cf rfl (Is.ct rfl ?_)))) (fun _ h=>Is.pure (by rw [vU,h])));rw [c,vU];cases l.any nb
   ·exact Is.next rfl
   ·exact Is.stop rfl
  ·simp [nb,bp]
  ·simp [nb,bp,cq c,cq f,cq e,cq h6]
def FH (x:T_Regex):Prop:=Fit x∧height x<aZ
inductive Cn:T_Regex→Prop where
  | mk (x:T_Regex):W4 x.Set→(x.Kind=6→∃y,x.Kids=[y])→(x.Kind=1→x=nq)→(x.Kind=2→x=qG)→(∀y∈x.Kids,Cn y)→Cn x
theorem Cn.star {x} (h:Cn x):x.Kind=6→∃y,x.Kids=[y]:=by cases h; assumption
theorem Cn.kids {x} (h:Cn x):∀y∈x.Kids,Cn y:=by cases h; assumption
theorem Fit.cn {x} (h:Fit x):Cn x:=by
 induction h with
 | mk x h1 _ h3 h4 h5 _ ih=>exact .mk x h1 h3 h4 h5 ih
theorem Bi {x:T_Regex} (hC:Cn x) (h:x.Kind=6):∃s y,x=⟨6,s,[y]⟩∧Cn y:=by
 obtain ⟨y,hy⟩:=hC.star h;obtain ⟨k,s,l⟩:=x;cases h; cases hy
 exact ⟨s,y,rfl,hC.kids y (by simp)⟩
mutual
def ua:T_Regex→List T_Regex
 | ⟨k,s,l⟩=>bif k == 5 then ⟨k,s,l⟩::FU l else bif k == 1 then [] else [⟨k,s,l⟩]
def FU:List T_Regex→List T_Regex
 | []=>[]
 | y::l=>ua y++FU l
end
def Hz (x:T_Regex):List T_Regex:=bif x.Kind == 5 then FU x.Kids else bif x.Kind == 1 then [] else [x]
def DW:List Nat→List (List Nat)
 | []=>[]
 | a::v=>(a::v)::DW v
mutual
noncomputable def SS:T_Regex→List Nat→List T_Regex
 | ⟨k,s,l⟩,v=>bif k == 4 then SC l v else bif k == 5 then SU l v
  else bif k == 6 then ⟨k,s,l⟩::(DW v).map (fun u=>ct [Gg (l.headD nq) u,⟨k,s,l⟩]) else [⟨k,s,l⟩,nq,qG]
noncomputable def SU:List T_Regex→List Nat→List T_Regex
 | [],_=>[]
 | y::l,v=>SS y v++SU l v
noncomputable def SC:List T_Regex→List Nat→List T_Regex
 | [],_=>[]
 | y::l,v=>(if ne l=[] then (DW v).flatMap (fun u=>SS y u) else (DW v).flatMap (fun u=>Hz (ct (Gg y u::l))))++SC l v
end
noncomputable def hd (y:T_Regex) (l:List T_Regex) (v:List Nat):List T_Regex:=
 if ne l=[] then (DW v).flatMap (fun u=>SS y u) else (DW v).flatMap (fun u=>Hz (ct (Gg y u::l)))
def ix (l:List Bool) (j:Nat):Bool:=l.getD j false
theorem kV {l:List Bool} {j:Nat} (h:j<l.length):bC l (j:Int)=some (ix l j):=by
 rw [be h]; simp [ix,IP,h]
theorem oy {l:List Bool} {k j:Nat} {v:Bool} (h:k<l.length):ix (l.set k v) j=if j=k then v else ix l j:=by
 unfold ix;simp only [IP,Jy]
 by_cases e:k=j
 ·subst e; simp [h]
 ·rw [if_neg e,if_neg (fun h=>e h.symm)]
theorem tz (n j:Nat):ix (List.replicate n false) j=false:=by
 unfold ix;simp only [IP,List.getElem?_replicate];split <;> rfl
def pw (p:Nat→Bool):Nat→Nat
 | 0=>0
 | n+1=>pw p n+(bif p n then 0 else 1)
theorem xz {p q:Nat→Bool} {n:Nat} (h:∀j,j<n→p j=true→q j=true):pw q n≤pw p n:=by
 induction n with
 | zero=>exact Nat.le_refl _
 | succ n ih=>
  have h1:=ih fun j hj=>h j (by omega)
  have h2:=h n (by omega);simp only [pw];cases hp:p n
  ·cases q n <;> simp <;> omega
  ·rw [h2 hp]; simpa using h1
theorem BW {p q:Nat→Bool} {n:Nat} (h:∀j,j<n→p j=true→q j=true) {i:Nat} (d:i<n) (hp:p i=false) (hq:q i=true):pw q n<pw p n:=by
 induction n with
 | zero=>omega
 | succ n ih=>
  have b:=h n (by omega);simp only [pw]
  by_cases e:i=n
  ·subst e;have:=xz (p:=p) (q:=q) (n:=i) fun j a=>h j (by omega)
   rw [hp,hq]; simp; omega
  ·have c:=ih (fun j a=>h j (by omega)) (by omega);cases hpn:p n
   ·cases q n <;> simp <;> omega
   ·rw [b hpn]; simpa using c
theorem ww (p:Nat→Bool) (n:Nat):pw p n≤n:=by
 induction n with
 | zero=>exact Nat.le_refl _
 | succ n ih=>simp only [pw]; cases p n <;> simp <;> omega
def nY (w:List Nat) (i j:Nat):List Nat:=(w.take j).drop i
theorem ly {w:List Nat} {i j:Nat} (o:i≤j) (n:j≤w.length) (P Q:List Nat→Prop) :
 (∃u v,nY w i j=u++v∧P u∧Q v)↔∃m,i≤m∧m≤j∧P (nY w i m)∧Q (nY w m j):=by
 have c:∀m,i≤m→m≤j→nY w i j=nY w i m++nY w m j:=by
  intro m b a;unfold nY;have e:w.take j=w.take m++(w.take j).drop m:=by
   have:=List.take_append_drop m (w.take j);rw [List.take_take,Nat.min_eq_left a] at this;exact this.symm
  have hl:(w.take m).length=m:=by rw [Jo]; omega
  conv=>lhs; rw [e]
  rw [JE,hl,Nat.sub_eq_zero_of_le b,List.drop_zero]
 constructor
 ·rintro ⟨u,v,h,f,d⟩;have hlen:(nY w i j).length=j - i:=by unfold nY; rw [JK,Jo]; omega
  have hl:=congrArg List.length h;rw [IW,hlen] at hl;have a:=c (i+u.length) (by omega) (by omega);have g:(nY w i (i+u.length)).length=u.length:=by unfold nY; rw [JK,Jo]; omega
  rw [h] at a;obtain ⟨l,k⟩:=List.append_inj a g.symm;exact ⟨i+u.length,by omega,by omega,l ▸ f,k ▸ d⟩
 ·rintro ⟨m,b,a,hp,hq⟩;exact ⟨_,_,c m b a,hp,hq⟩
theorem qi (w:List Nat) (i:Nat):nY w i i=[]:=by
 unfold nY;exact JH (by rw [Jo]; omega)
theorem xe {w:List Nat} {i j:Nat} (hij:i≤j) (hj:j≤w.length):nY w i j=[]↔i=j:=by
 constructor
 ·intro h;have:=congrArg List.length h;unfold nY at this;rw [JK,Jo,List.length_nil] at this;omega
 ·rintro rfl; exact qi w i
theorem xd {w:List Nat} {i j b:Nat} (d:i≤j) (c:j≤w.length):nY w i j=[b]↔j=i+1∧w[i]?=some b:=by
 have a:i<w.length→nY w i (i+1)=[w[i]?.getD 0]:=by
  intro h;unfold nY;rw [List.take_add_one,JE,Jo,Nat.min_eq_left (by omega),Nat.sub_self,List.drop_zero,JH (by rw [Jo]; omega),IQ h];rfl
 constructor
 ·intro h;have hl:=congrArg List.length h;unfold nY at hl;rw [JK,Jo,IT] at hl;have e:j=i+1:=by omega
  subst e;rw [a (by omega)] at h;refine ⟨rfl,?_⟩;rw [IQ (by omega)] at h ⊢;simpa using h
 ·rintro ⟨rfl,h⟩;rw [a (by omega),h]; rfl
theorem yP {l m:List T_Regex}:∀ {w:List Nat},LC (l++m) w↔∃u v,w=u++v∧LC l u∧LC m v:=by
 induction l with
 | nil=>
  intro w;exact ⟨fun h=>⟨[],w,rfl,rfl,h⟩,fun ⟨u,v,e,b,i⟩=>by cases b; subst e; exact i⟩
 | cons y l ih=>
  intro w;simp only [Je,LC,ih];constructor
  ·rintro ⟨u,v,rfl,b,a,f,rfl,d,c⟩;exact ⟨u++a,f,by simp,⟨u,a,rfl,b,d⟩,c⟩
  ·rintro ⟨u,v,rfl,⟨g,a,rfl,j,d⟩,c⟩;exact ⟨g,a++v,by simp,j,a,v,rfl,d,c⟩
theorem Cr {P:List Nat→Prop} {u v:List Nat} (hu:St P u) (hv:P v):St P (u++v):=by
 induction hu with
 | nil=>have:=St.cons hv .nil; rwa [List.append_nil] at this
 | cons h _ ih=>rw [Ja]; exact .cons h ih
theorem Cz {s y} {fr:List Bool} {W:List Nat} {j:Nat} {z:Bool}:((z=true)↔∃i,i≤j∧ix fr i=true∧L ⟨6,s,[y]⟩ (nY W i j))↔((z=true)↔∃i,i≤j∧ix fr i=true∧St (L y) (nY W i j)):=by
 simp only [FG];rfl
theorem yO {y:T_Regex} {w:List Nat}:LC [y] w↔L y w:=by simp [LC]
theorem yb {v:aV 4} (d:W4 v) {c:Nat} (o:c<256):M.m4 v (c:Int)=some (mem v c):=by
 have n:=kI (k:=.i64) (c:=c) (fg (by omega) (by omega));have m:=gY d (i:=c / 64) (by omega);have l:lO (c:Int) 64=some ((c % 64:Nat):Int):=lA (b:=64) (by omega);have j:=xc (a:=wd v (c / 64)) (t:=c % 64) (by omega);have e:wd v (c / 64) >>> (c % 64)<18446744073709551616:=Nat.lt_of_le_of_lt (Nat.shiftRight_le _ _) (gW d _);have g:=nL (b:=1) e (by omega);have f:IntKind.u64.wrap ((c % 64:Nat):Int)=((c % 64:Nat):Int):=iL (by omega) (by omega);unfold M.m4 mem;simp only [n,m,l,f,j,IS];rw [show (1:Int)=((1:Nat):Int) from rfl,g];congr 1;rw [Nat.testBit,Nat.and_comm 1,Nat.and_one_is_mod];rcases Nat.mod_two_eq_zero_or_one (wd v (c / 64) >>> (c % 64)) with h|h <;> rw [h] <;> rfl
def nS (R:List Nat→Prop) (w:List Nat) (fr out:List Bool):Prop:=out.length=w.length+1∧∀j,j≤w.length→(ix out j=true↔∃i,i≤j∧ix fr i=true∧R (nY w i j))
theorem nS.congr {R R':List Nat→Prop} {w:List Nat} {fr out:List Bool} (h:nS R w fr out) (e:∀u,R u↔R' u):nS R' w fr out:=
 ⟨h.1,fun j hj=>(h.2 j hj).trans ⟨fun ⟨i,a,b,c⟩=>⟨i,a,b,(e _).1 c⟩,fun ⟨i,a,b,c⟩=>⟨i,a,b,(e _).2 c⟩⟩⟩
theorem nS.comp {R Q:List Nat→Prop} {w:List Nat} {fr d out:List Bool} (f:nS R w fr d) (e:nS Q w d out):nS (fun x=>∃u v,x=u++v∧R u∧Q v) w fr out:=by
 refine ⟨e.1,fun j b=>(e.2 j b).trans ?_⟩;constructor
 ·rintro ⟨m,g,hx,hq⟩;obtain ⟨i,c,hf,a⟩:=(f.2 m (by omega)).1 hx;exact ⟨i,by omega,hf,(ly (by omega) b R Q).2 ⟨m,c,g,a,hq⟩⟩
 ·rintro ⟨i,c,hf,h⟩;obtain ⟨m,l,k,a,hq⟩:=(ly c b R Q).1 h;exact ⟨m,k,(f.2 m (by omega)).2 ⟨i,l,hf,a⟩,hq⟩
theorem CC (u:UInt8):u.toNat<256:=u.toNat_lt
theorem sO (s:Str):(bU s).length=s.length:=by simp [bU]
theorem sQ {s:Str} {i:Nat} (h:i<s.length):(bU s)[i]?=some (s[i]).toNat:=by simp [bU,h]
theorem Bz {ρ:Type} {body:List Bool×Int→Option (cQ (List Bool×Int) ρ)} {a b:List Bool} {n:Nat} {Q:ρ→Prop} (hn:n≤4611686018427387903) (ha:a.length=n) (hb:b.length=n)
 (l:∀k c,k<n→c.length=n→body (c,(k:Int))=if ix c k then (some (.next (c.set k true,((k+1:Nat):Int)))) else some (.next (c.set k (ix b k),((k+1:Nat):Int))))
 (last:∀c,c.length=n→(∀j,j<n→ix c j=(ix a j || ix b j))→∃r,body (c,(n:Int))=some (.stop r)∧Q r):Is (ba body aZ (a,(0:Int))) Q:=by
 refine Is.upto (fun k (c:List Bool×Int)=>c.2=(k:Int)∧c.1.length=n∧∀j,j<n→ix c.1 j=(ix a j || (decide (j<k) && ix b j))) n (by omega) ⟨rfl,ha,by simp⟩ ?_ ?_
 ·rintro k ⟨c,_⟩ i ⟨rfl,hl,f⟩;simp only at hl f;rw [l k c i hl];have g:=f k i;rw [eu (by omega:¬ k<k),Bool.false_and,Bool.or_false] at g;split
  ·rename_i h;refine Is.next ⟨rfl,by simpa using hl,fun j d=>?_⟩;rw [oy (by omega)]
   by_cases e:j=k
   ·subst e; rw [if_pos rfl,←g,h]; rfl
   ·rw [if_neg e,f j d];congr 2;exact decide_eq_decide.2 (by omega)
  ·rename_i h;refine Is.next ⟨rfl,by simpa using hl,fun j d=>?_⟩;rw [oy (by omega)];have h:ix c k=false:=by simpa using h
   by_cases e:j=k
   ·subst e; rw [if_pos rfl,←g,h,dL (by omega:j<j+1)]; simp
   ·rw [if_neg e,f j d];congr 2;exact decide_eq_decide.2 (by omega)
 ·rintro ⟨c,_⟩ ⟨rfl,hl,f⟩;obtain ⟨r,m,hq⟩:=last c hl fun j d=>by rw [f j d,dL d,Bool.true_and]
  exact ⟨_,m,hq⟩
theorem BR:∀I x,Fit x→height x<I→∀(s:Str) (fr:List Bool),s.length≤1000000→fr.length=s.length+1→Is (M.f5 I x s fr) (nS (L x) (bU s) fr):=by
 intro I;induction I with
 | zero=>intro a _ h; omega
 | succ I ih=>
  rintro ⟨k,t,l⟩ hF hh s fr hs N;have hb:=sO s;have G:∀y∈l,∀fr:List Bool,fr.length=s.length+1→Is (M.f5 I y s fr) (nS (L y) (bU s) fr):=fun y hy fr N=>
   ih y (hF.kids y hy) (by have:=mI (x:=⟨k,t,l⟩) hy; omega) s fr hs N
  have a9:l.length≤4611686018427387903:=Nat.le_trans hF.len (by decide);unfold M.f5;refine Is.bnq (aK (i:=s.length) (by omega)) (Is.bnq (dW (n:=s.length+1) (by omega)) ?_);have a6:ie (List.replicate (s.length+1) false) fr=fr:=by
   unfold ie;rw [Jq,←N,IV,JH (by rw [Jq]; omega),List.append_nil]
  simp only [a6];have a0:nS (fun u=>u=[]) (bU s) fr fr:=by
   refine ⟨by omega,fun j d=>⟨fun h=>⟨j,Nat.le_refl _,h,qi _ _⟩,?_⟩⟩;rintro ⟨i,p,h,e⟩;rw [(xe p d).1 e] at h;exact h
  refine Is.bnd (P:=fun r=>nS (L ⟨k,t,l⟩) (bU s) fr r) ?_ (fun r A=>Is.pure A);rcases gj k with rfl|rfl|rfl|rfl|rfl|⟨o,B,H,U,h6⟩
  ·refine Is.ct rfl (Is.pure (a0.congr fun u=>FS.symm))
  ·refine Is.cf rfl (Is.ct rfl ?_);refine Is.upto (fun i (z:List Bool×Int)=>z.2=(i:Int)∧z.1.length=s.length+1∧∀j,j≤s.length→(ix z.1 j=true↔j≤i∧∃w,j=w+1∧ix fr w=true∧∃b,(bU s)[w]?=some b∧mem t b=true)) s.length (by omega) ⟨rfl,by simp,?_⟩ ?_ ?_
   ·intro j d;simp only [tz];refine ⟨fun h=>by simp at h,?_⟩;rintro ⟨h,w,rfl,_⟩;omega
   ·rintro i ⟨z,_⟩ p ⟨rfl,hl,f⟩;simp only at hl f;dsimp only;refine Is.dt (show (i:Int)<(s.length:Int) by omega) (Is.bnq (aK (by omega)) (Is.bnq (kV (by omega)) ?_));have R:∀v,(v=true↔ix fr i=true∧mem t (s[i]).toNat=true)→∀j,j≤s.length→(ix (z.set (i+1) v) j=true↔j≤i+1∧∃w,j=w+1∧ix fr w=true∧∃b,(bU s)[w]?=some b∧mem t b=true):=by
     intro v S j d;rw [oy (by omega)]
     by_cases e:j=i+1
     ·subst e;rw [if_pos rfl,S];constructor
      ·rintro ⟨g,o⟩;exact ⟨Nat.le_refl _,i,rfl,g,_,sQ p,o⟩
      ·rintro ⟨_,w,e,g,b,o,B⟩;obtain rfl:i=w:=by omega
       rw [sQ p] at o;cases o
       exact ⟨g,B⟩
     ·rw [if_neg e,f j d];constructor
      ·rintro ⟨g,o⟩; exact ⟨by omega,o⟩
      ·rintro ⟨g,o⟩; exact ⟨by omega,o⟩
    refine Is.cnd (fun h=>?_) (fun h=>?_)
    ·refine Is.bnq (dR p) ?_;rw [fg (n:=((s[i]).toNat:Int)) (by omega) (by have:=CC s[i]; omega)];refine Is.bnq (yb hF.set (CC _)) (Is.bnq (cK (by omega)) (Is.next ⟨rfl,by simpa using hl,R _ ?_⟩));rw [h]; simp
    ·refine Is.bnq (cK (by omega)) (Is.next ⟨rfl,by simpa using hl,R _ ?_⟩);rw [h]; simp
   ·rintro ⟨z,_⟩ ⟨rfl,hl,f⟩;simp only at hl f;refine Is.df (show ¬ (s.length:Int)<(s.length:Int) by omega) (Is.stop ⟨by show z.length=_; omega,fun j d=>(f j (by omega)).trans ?_⟩);constructor
    ·rintro ⟨_,w,rfl,g,b,o,B⟩;exact ⟨w,by omega,g,DZ.2 ⟨b,(xd (by omega) d).2 ⟨rfl,o⟩,B⟩⟩
    ·rintro ⟨i,p,g,h⟩;obtain ⟨b,a7,B⟩:=DZ.1 h;obtain ⟨rfl,o⟩:=(xd p d).1 a7;exact ⟨by omega,i,rfl,g,b,o,B⟩
  ·refine Is.cf rfl (Is.cf rfl (Is.ct rfl ?_));refine Is.upto (fun i (z:List Bool×Int)=>z.2=(i:Int)∧nS (LC (l.take i)) (bU s) fr z.1) l.length (by omega) ⟨rfl,a0⟩ ?_ ?_
   ·rintro i ⟨z,_⟩ p ⟨rfl,f⟩;simp only at f;refine Is.dt (show (i:Int)<(l.length:Int) by omega) (Is.bnq (be p) (Is.bnd (G _ (IU p) z (by have:=f.1; omega)) fun r A=>Is.bnq (aK (by omega)) (Is.next ⟨rfl,?_⟩)));refine (f.comp A).congr fun u=>?_
    rw [List.take_add_one,IQ p];show _↔LC (l.take i++[l[i]]) u;rw [yP];simp only [yO]
   ·rintro ⟨z,_⟩ ⟨rfl,f⟩;refine Is.df (show ¬ (l.length:Int)<(l.length:Int) by omega) (Is.stop ?_);rw [IV] at f;exact f.congr fun u=>FR.symm
  ·refine Is.cf rfl (Is.cf rfl (Is.cf rfl (Is.ct rfl ?_)));refine Is.upto (fun i (z:List Bool×Int)=>z.2=(i:Int)∧nS (LU (l.take i)) (bU s) fr z.1) l.length (by omega) ⟨rfl,?_⟩ ?_ ?_
   ·refine ⟨by simp [hb],fun j d=>?_⟩;show ix (List.replicate (s.length+1) false) j=true↔_;rw [tz];simp [LU]
   ·rintro i ⟨z,_⟩ p ⟨rfl,f⟩;simp only at f;refine Is.dt (show (i:Int)<(l.length:Int) by omega) ?_;refine Is.bnd (P:=fun r=>nS (LU (l.take (i+1))) (bU s) fr r) ?_ (fun r A=>Is.bnq (aK (by omega)) (Is.next ⟨rfl,A⟩));refine Is.bnq (be p) (Is.bnd (G _ (IU p) fr N) fun r A=>?_);have a3:=A.1;have b0:=f.1;refine Bz (n:=s.length+1) (a:=z) (b:=r) (by omega) (by omega) (by omega) (fun k t G hl=>?_) (fun t hl a2=>⟨t,?_,by omega,fun j d=>?_⟩)
    ·simp only [dL (show (k:Int)<(r.length:Int) by omega),cond_true,kV (show k<t.length by omega),IS];cases hix:ix t k
     ·simp only [cond_false,kV (show k<r.length by omega),IS,cK (show k<t.length by omega),aK (show k<9223372036854775807 by omega)];rfl
     ·simp only [cond_true,IS,cK (show k<t.length by omega),aK (show k<9223372036854775807 by omega)];rfl
    ·simp only [eu (show ¬ (((s.length+1:Nat):Int)<(r.length:Int)) by omega),cond_false]
    ·rw [a2 j (by omega),Bool.or_eq_true,f.2 j d,A.2 j d];have e:∀u,LU (l.take (i+1)) u↔LU (l.take i) u∨L l[i] u:=by
      intro u;rw [wJ,wJ,List.take_add_one,IQ p];simp only [Option.toList,IZ,IY];constructor
      ·rintro ⟨y,hy|rfl,h⟩
       ·exact .inl ⟨y,hy,h⟩
       ·exact .inr h
      ·rintro (⟨y,hy,h⟩|h)
       ·exact ⟨y,.inl hy,h⟩
       ·exact ⟨_,.inr rfl,h⟩
     constructor
     ·rintro (⟨F,a,b,c⟩|⟨F,a,b,c⟩)
      ·exact ⟨F,a,b,(e _).2 (.inl c)⟩
      ·exact ⟨F,a,b,(e _).2 (.inr c)⟩
     ·rintro ⟨F,a,b,c⟩;rcases (e _).1 c with c|c
      ·exact .inl ⟨F,a,b,c⟩
      ·exact .inr ⟨F,a,b,c⟩
   ·rintro ⟨z,_⟩ ⟨rfl,f⟩;refine Is.df (show ¬ (l.length:Int)<(l.length:Int) by omega) (Is.stop ?_);rw [IV] at f;exact f.congr fun u=>Hx.symm
  ·refine Is.cf rfl (Is.cf rfl (Is.cf rfl (Is.cf rfl (Is.ct rfl ?_))));obtain ⟨s',y,e,hy⟩:=Bi hF.cn rfl;cases e
   have a5:=G y (by simp);refine Is.while (fun (z:List Bool×Bool)=>z.1.length=s.length+1∧(∀j,j≤s.length→ix fr j=true→ix z.1 j=true)∧(∀j,j≤s.length→ix z.1 j=true→∃i,i≤j∧ix fr i=true∧St (L y) (nY (bU s) i j))∧
    (z.2=false→∀i j,i≤j→j≤s.length→ix z.1 i=true→L y (nY (bU s) i j)→ix z.1 j=true)) (fun z=>pw (ix z.1) (s.length+1)+(bif z.2 then 1 else 0))
    ⟨N,fun _ _ h=>h,fun j _ h=>⟨j,Nat.le_refl _,h,by rw [qi]; exact .nil⟩,fun h=>by cases h⟩ ?_ ?_
   ·have:=ww (ix fr) (s.length+1);simp only [cond_true]; omega
   ·rintro ⟨z,a1⟩ ⟨V,W,Q,X⟩;simp only at V W Q X;cases a1 with
    | false=>
     refine Is.cf rfl (Is.stop ⟨by show z.length=_; omega,fun j d=>?_⟩);rw [Cz];refine ⟨fun h=>Q j (by omega) h,?_⟩;rintro ⟨i,p,g,o⟩;have key:∀u,St (L y) u→∀i,i≤j→ix z i=true→nY (bU s) i j=u→ix z j=true:=by
      intro u J;induction J with
      | nil=>
       intro i p g e;rw [(xe p d).1 e] at g;exact g
      | @cons u v J S ihv=>
       intro i p g e;obtain ⟨m,o,B,H,U⟩:=(ly p d (·=u) (·=v)).1 ⟨u,v,e,rfl,rfl⟩;exact ihv m B (X rfl i m o (by omega) g (H ▸ J)) U
     exact key _ o i p (W i (by omega) g) rfl
    | true=>
     refine Is.ct rfl (Is.bnq (be (i:=0) (by simp)) ?_);refine Is.bnd (a5 z V) fun r A=>?_
     have a3:=A.1;refine Is.upto (fun k (q:List Bool×Bool×Int)=>q.2.2=(k:Int)∧q.1.length=s.length+1∧(∀j,j<s.length+1→ix q.1 j=(ix z j || (decide (j<k) && ix r j)))∧(q.2.1=true↔∃j,j<k∧ix r j=true∧ix z j=false)) (s.length+1) (by omega)
      ⟨rfl,V,by simp,by simp⟩ ?_ ?_
     ·rintro k ⟨q,mo,_⟩ G ⟨rfl,hl,f,D⟩;simp only at hl f D;dsimp only;have T:=f k G;rw [eu (by omega:¬ k<k),Bool.false_and,Bool.or_false] at T;refine Is.dt (show (k:Int)<(r.length:Int) by omega) ?_;refine Is.bnd (P:=fun b=>b=(mo || (ix r k && !ix z k))) ?_ ?_
      ·refine Is.cnd (fun h=>Is.pure (by rw [h]; rfl)) (fun h=>?_);rw [h];refine Is.bnq (kV (by omega)) (Is.cnd (fun h=>?_) (fun h=>Is.pure (by rw [h]; rfl)));rw [h];exact Is.bnq (kV (by omega)) (Is.pure (by rw [T]; rfl))
      ·rintro _ rfl;have Y:((mo || (ix r k && !ix z k))=true↔∃j,j<k+1∧ix r j=true∧ix z j=false):=by
        rw [Bool.or_eq_true,D];constructor
        ·rintro (⟨j,a,b⟩|h)
         ·exact ⟨j,by omega,b⟩
         ·exact ⟨k,by omega,by simpa using h⟩
        ·rintro ⟨j,a,b⟩
         by_cases e:j=k
         ·subst e; right; simpa using b
         ·left; exact ⟨j,by omega,b⟩
       refine Is.bnq (kV (by omega)) (Is.cnd (fun h=>?_) (fun h=>?_))
       ·refine Is.bnq (cK (by omega)) (Is.bnq (aK (by omega)) (Is.next ⟨rfl,by simpa using hl,fun j d=>?_,Y⟩));show ix (q.set k true) j=_;rw [oy (by omega)]
        by_cases e:j=k
        ·subst e; rw [if_pos rfl,←T,h]; rfl
        ·rw [if_neg e,f j d];congr 2;exact decide_eq_decide.2 (by omega)
       ·refine Is.bnq (kV (by omega)) (Is.bnq (cK (by omega)) (Is.bnq (aK (by omega)) (Is.next ⟨rfl,by simpa using hl,fun j d=>?_,Y⟩)));show ix (q.set k (ix r k)) j=_;rw [oy (by omega)]
        by_cases e:j=k
        ·subst e; rw [if_pos rfl,←T,h,dL (by omega:j<j+1)]; simp
        ·rw [if_neg e,f j d];congr 2;exact decide_eq_decide.2 (by omega)
     ·rintro ⟨q,mo,_⟩ ⟨rfl,hl,f,D⟩;simp only at hl f D;have f:∀j,j<s.length+1→ix q j=(ix z j || ix r j):=fun j d=>by rw [f j d,dL d,Bool.true_and]
      refine Is.df (show ¬ (((s.length+1:Nat):Int)<(r.length:Int)) by omega) (Is.stop ?_);refine ⟨⟨hl,fun j d h=>?_,fun j d h=>?_,fun K i j p d g o=>?_⟩,?_⟩
      ·show ix q j=true;rw [f j (by omega),W j d h]; rfl
      ·have h:ix q j=true:=h;rw [f j (by omega),Bool.or_eq_true] at h;rcases h with h|h
       ·exact Q j d h
       ·obtain ⟨m,K,g,o⟩:=(A.2 j (by omega)).1 h;obtain ⟨i,p,B,H⟩:=Q m (by omega) g;refine ⟨i,by omega,B,?_⟩;obtain ⟨u,v,e,J,S⟩:=(ly (by omega) (by omega:j≤(bU s).length) (St (L y)) (L y)).2 ⟨m,p,K,H,o⟩;rw [e];exact Cr J S
      ·have K:mo=false:=K;have a4:∀j,j<s.length+1→ix r j=true→ix z j=true:=by
        intro j d h;cases R:ix z j
        ·rw [K] at D;exact absurd (D.2 ⟨j,d,h,R⟩) (by simp)
        ·rfl
       have g:ix q i=true:=g;rw [f i (by omega),Bool.or_eq_true] at g;have g:ix z i=true:=g.elim id (a4 i (by omega));show ix q j=true;rw [f j (by omega),Bool.or_eq_true];right;exact (A.2 j (by omega)).2 ⟨i,p,g,o⟩
      ·have mono:∀j,j<s.length+1→ix z j=true→ix q j=true:=fun j d h=>by rw [f j d,h]; rfl
       show pw (ix q) (s.length+1)+(bif mo then 1 else 0)<pw (ix z) (s.length+1)+1;cases mo with
       | false=>have:=xz mono; simp only [cond_false]; omega
       | true=>
        obtain ⟨j,d,g,o⟩:=D.1 rfl;have:=BW mono d o (by rw [f j d,g,o]; rfl);simp only [cond_true]; omega
  ·refine Is.cf (cq o) (Is.cf (cq B) (Is.cf (cq H) (Is.cf (cq U) (Is.cf (cq h6) (Is.pure ⟨by simp [hb],fun j d=>?_⟩)))));rw [tz];refine ⟨fun h=>by simp at h,?_⟩;rintro ⟨i,_,_,h⟩;exact absurd h (FT o B H U h6)
theorem ux {x:T_Regex} (hF:FH x) {s:Str} (hs:s.length≤1000000):M.k1 x s=some (decide (L x (bU s))):=by
 refine Is.eq ?_;unfold M.k1;refine Is.bnq (aK (i:=s.length) (by omega)) (Is.bnq (dW (n:=s.length+1) (by omega)) (Is.bnq (cK (i:=0) (by simp)) ?_));refine Is.bnd (BR aZ x hF.1 hF.2 s _ hs (by simp)) fun r b=>?_
 have hb:=sO s;have hl:=b.1;refine Is.bnq (kV (by omega)) (Is.pure ?_);have d:∀i,ix ((List.replicate (s.length+1) false).set 0 true) i=true↔i=0:=by
  intro i;rw [oy (by simp)]
  by_cases e:i=0
  ·rw [if_pos e]; simp [e]
  ·rw [if_neg e,tz]; simp [e]
 have a:nY (bU s) 0 s.length=bU s:=by unfold nY; rw [←hb,IV]; rfl
 have key:ix r s.length=true↔L x (bU s):=by
  rw [b.2 s.length (by omega)];constructor
  ·rintro ⟨i,_,f,c⟩;rw [(d i).1 f,a] at c;exact c
  ·exact fun h=>⟨0,by omega,(d 0).2 rfl,by rw [a]; exact h⟩
 rw [Bool.eq_iff_iff,key];simp
theorem vz {s:aV 4} {n:Nat} (h:iU 6 s n=true):n=1:=by
 simp [iU] at h; exact h.1
theorem zb {k:Int} {s:aV 4} {n:Nat} (hk:k=1∨k=2) (h:iU k s n=true):n=0∧s=aV.zero 4:=by
 rcases hk with rfl|rfl
 ·simp only [iU,beq_self_eq_true,Bool.true_or,cond_true,Bool.and_eq_true,beq_iff_eq] at h; exact h
 ·simp only [iU,beq_self_eq_true,Bool.or_true,cond_true,Bool.and_eq_true,beq_iff_eq] at h; exact h
theorem tD:∀x d,bQ x→V d x=true→parts x≤100000→Fit x:=by
 refine T_Regex.ind fun k s l ih d ok a hp=>?_
 have h:bF l+1≤100000:=hp;have hlen:=fy l;cases d with
 | zero=>cases a
 | succ d=>
  rw [V,Bool.and_eq_true,List.all_eq_true] at a;obtain ⟨hs,a⟩:=a;have f:∀j,k=j→j=1∨j=2→(⟨k,s,l⟩:T_Regex)=⟨j,aV.zero 4,[]⟩:=fun j e g=>by
   subst e;obtain ⟨c,b⟩:=zb g hs;have b:s=aV.zero 4:=b;have c:l=[]:=JJ c;rw [b,c]
  refine .mk _ (CB (zq ok)) (by show l.length≤big; unfold big; omega) (fun e=>?_) (fun e=>f 1 e (.inl rfl)) (fun e=>f 2 e (.inr rfl))
   (fun y hy=>ih y hy d (jH ok y hy) (a y hy) (by have:parts y≤bF l:=eW hy; omega))
  obtain rfl:k=6:=e;have:=vz hs;exact List.length_eq_one_iff.1 this
theorem AF:∀b x,bQ x→height x<b→height x≤1000→M.h2 b x=some (height x:Int):=by
 intro b;induction b with
 | zero=>intro a _ h; omega
 | succ b ih=>
  rintro ⟨k,s,l⟩ ok hh hb;have hl:l.length≤9223372036854775807:=Nat.le_trans (vQ ok) (by decide);unfold M.h2;refine Is.eq ?_;refine Is.bnd (P:=fun r=>r=((ce l:Nat):Int)) ?_ ?_
  ·refine Is.upto (fun i (e:Int×Int)=>e.2=(i:Int)∧e.1=((ce (l.take i):Nat):Int)) l.length hl ⟨rfl,by simp [ce]⟩ ?_ ?_
   ·rintro i ⟨a,_⟩ c ⟨rfl,d⟩;obtain rfl:a=_:=d;have f:=mI (x:=⟨k,s,l⟩) (IU c);refine Is.dt (show (i:Int)<(l.length:Int) by omega) (Is.bnq (be c) (Is.bnq (ih _ (jH ok _ (IU c)) (by omega) (by omega)) (Is.bnq (aK (by omega)) (Is.next ⟨rfl,?_⟩))));rw [List.take_add_one,IQ c,kW];simp only [zF,Option.toList,ce];split <;> omega
   ·rintro ⟨a,_⟩ ⟨rfl,d⟩;obtain rfl:a=_:=d;refine Is.df (show ¬ (l.length:Int)<(l.length:Int) by omega) (Is.stop ?_);rw [IV]
  ·rintro _ rfl;have:height (⟨k,s,l⟩:T_Regex)=ce l+1:=rfl;exact Is.bnq (aK (by omega)) (Is.pure (by rw [this]))
section
variable {P N H:Nat} (hP:3≤P) (hM:1≤N) (hB:P*P*(N+1)≤big) (hH:H≤1000) {x:T_Regex} (hF:Fit x) (hp:parts x≤P) (hh:height x≤H)
include hP hM hB hH hF hp hh
end
end Go.Proofs.YtggpjcdhflcfmaaGreatDoor
namespace Go.Proofs.YtggpjcdhflcfmaaGreatDoor
open Go.Lx
def pv (p:Nat×Nat):aV 2:=⟨[(p.1:Int),(p.2:Int)],rfl⟩
def pC (P:List (Nat×Nat)):List (aV 2):=P.map pv
theorem Bu (P Q:List (Nat×Nat)):pC (P++Q)=pC P++pC Q:=by simp [pC]
theorem pB (P:List (Nat×Nat)):(pC P).length=P.length:=by simp [pC]
theorem vO (a b:List Nat) (p:Nat):dz (a++[p]) b=dz a b++b.map fun q=>(p,q):=by simp [dz]
theorem wC {S:List (aV 4)} {P:List (Nat×Nat)} {la fi:List Nat} (h:P.length+la.length*fi.length≤1000000000) (g:la.length≤1000000) (f:fi.length≤1000000) :
 M.c7 ⟨S,pC P⟩ (gC la) (gC fi)=some ⟨S,pC (P++dz la fi)⟩:=by
 refine Is.eq ?_;unfold M.c7;refine Is.upto (fun i (a:List (aV 2)×Int)=>a.2=(i:Int)∧a.1=pC (P++dz (la.take i) fi)) la.length (by omega) ⟨rfl,by simp [dz]⟩ ?_ ?_
 ·rintro i ⟨s,_⟩ b ⟨rfl,e⟩;obtain rfl:s=_:=e;have d:(i+1)*fi.length≤la.length*fi.length:=Jj _ b;rw [Nat.succ_mul] at d;have hlen:(P++dz (la.take i) fi).length=P.length+i*fi.length:=by rw [IW,lF,Jo,Nat.min_eq_left (Nat.le_of_lt b)]
  refine Is.dt (by rw [cP]; omega) (Is.bnq (x:=pC (P++dz (la.take (i+1)) fi)) (Is.eq ?_) (Is.bnq (aK (by omega)) (Is.next ⟨rfl,rfl⟩)));refine Is.upto (fun k (a:List (aV 2)×Int)=>a.2=(k:Int)∧a.1=pC ((P++dz (la.take i) fi)++(fi.take k).map fun q=>(la[i],q))) fi.length (by omega) ⟨rfl,by simp⟩ ?_ ?_
  ·rintro k ⟨s,_⟩ c ⟨rfl,e⟩;obtain rfl:s=_:=e;refine Is.dt (by rw [cP]; omega) (Is.bnq (lu b) (Is.bnq (lu c) (Is.bnq (bO ?_) (Is.bnq (aK (by omega)) (Is.next ⟨rfl,?_⟩)))))
   ·rw [pB,IW,hlen,Jg,Jo,IT]; omega
   ·rw [cS c,Jh,←Ja,Bu (_++_) (List.map _ [fi[k]])];rfl
  ·rintro ⟨s,_⟩ ⟨rfl,e⟩;obtain rfl:s=_:=e;refine Is.df (by rw [cP]; omega) (Is.stop ?_);rw [IV,cS b,vO,Ja]
 ·rintro ⟨s,_⟩ ⟨rfl,e⟩;obtain rfl:s=_:=e;refine Is.df (by rw [cP]; omega) (Is.stop ?_);rw [IV]
def vt (x:Pt):cF:=⟨x.nl,gC x.fi,gC x.la⟩
theorem vJ {S:List (aV 4)} {P:List (Nat×Nat)} {x y:Pt} (h:P.length+x.la.length*y.fi.length≤1000000000) (d:x.la.length≤100000) (c:y.fi.length≤100000) (b:x.fi.length≤100000) (a:y.la.length≤100000) :
 M.d9 ⟨S,pC P⟩ (vt x) (vt y)=some (vt (eM x y),⟨S,pC (P++dz x.la y.fi)⟩):=by
 refine Is.eq ?_;unfold M.d9;refine Is.bnq (wC h (by omega) (by omega)) ?_;refine Is.bnq (x:=x.nl && y.nl) (Is.eq (Is.cnd (fun hn=>Is.pure ?_) (fun hn=>Is.pure ?_))) ?_
 ·have hn:x.nl=true:=hn;rw [hn]; rfl
 ·have hn:x.nl=false:=hn;rw [hn]; rfl
 refine Is.bnq (x:=gC (eM x y).fi) (Is.eq (Is.cnd (fun hn=>?_) (fun hn=>Is.pure ?_))) ?_
 ·have hn:x.nl=true:=hn;refine Is.bnq (bO (by simp only [vt,cP,List.length_nil]; omega)) (Is.bnq (bO (by simp only [vt,cP,Jd]; omega)) (Is.pure ?_));unfold eM vt;rw [hn,cond_true,jy,Jd]
 ·have hn:x.nl=false:=hn;unfold eM vt;rw [hn,cond_false]
 refine Is.bnq (x:=gC (eM x y).la) (Is.eq (Is.cnd (fun hn=>?_) (fun hn=>Is.pure ?_))) (Is.pure rfl)
 ·have hn:y.nl=true:=hn;refine Is.bnq (bO (by simp only [vt,cP,List.length_nil]; omega)) (Is.bnq (bO (by simp only [vt,cP,Jd]; omega)) (Is.pure ?_));unfold eM vt;rw [hn,cond_true,jy,Jd]
 ·have hn:y.nl=false:=hn;unfold eM vt;rw [hn,cond_false]
section
variable {K q:Nat} (hq:K*K≤q)
include hq
mutual
theorem jU:∀(x:T_Regex) (b:Bs),parts x≤K→(bd x b).2.P.length+q≤b.P.length+2*(parts x*q)
 | ⟨k,s,l⟩,b,hK=>by
  simp only [parts] at hK ⊢;rw [Nat.add_mul,Nat.one_mul];simp only [bd];cases k == 3
  ·cases k == 4
   ·cases k == 5
    ·cases k == 6
     ·simp only [cond_false]; omega
     ·match l,hK with
      | [],_=>simp only [cond_false,cond_true,AP]; omega
      | y::l,hK=>
       simp only [bF] at hK;have h:=jU y b (by omega);have d:=fu y b;have c:(bd y b).1.la.length*(bd y b).1.fi.length≤q:=Nat.le_trans (Nat.mul_le_mul (by omega) (by omega)) hq;simp only [cond_false,cond_true,AP,bF,IW,lF,Nat.add_mul];omega
    ·have h:=rn l ⟨false,[],[]⟩ b (by omega);simp only [cond_false,cond_true] at h ⊢;omega
   ·have h:=rr l ⟨true,[],[]⟩ b (by simp only [List.length_nil]; omega);simp only [cond_false,cond_true] at h ⊢;omega
  ·simp only [cond_true]; omega
theorem rr:∀(l:List T_Regex) (x:Pt) (b:Bs),x.la.length+bF l≤K→(fI l x b).2.P.length≤b.P.length+2*(bF l*q)
 | [],x,b,_=>by simp [fI,bF]
 | y::l,x,b,hK=>by
  simp only [bF] at hK;have h:=jU y b (by omega);have d:=fu y b;have c:x.la.length*(bd y b).1.fi.length≤q:=Nat.le_trans (Nat.mul_le_mul (by omega) (by omega)) hq;have e:(eM x (bd y b).1).la.length≤x.la.length+(bd y b).1.la.length:=by unfold eM; cases (bd y b).1.nl <;> simp
  have a:=rr l (eM x (bd y b).1) ⟨(bd y b).2.S,(bd y b).2.P++dz x.la (bd y b).1.fi⟩ (by omega);simp only [IW,lF] at a;simp only [fI,bF,Nat.add_mul];omega
theorem rn:∀(l:List T_Regex) (x:Pt) (b:Bs),bF l≤K→(gn l x b).2.P.length≤b.P.length+2*(bF l*q)
 | [],x,b,_=>by simp [gn,bF]
 | y::l,x,b,hK=>by
  simp only [bF] at hK;have h:=jU y b (by omega);have a:=rn l (iP x (bd y b).1) (bd y b).2 (by omega);simp only [gn,bF,Nat.add_mul];omega
end
theorem qY (a:1≤K):∀(l:List T_Regex) (i:Nat) (s:Bs×List Int),bF l≤K→(dM i l s).1.P.length≤s.1.P.length+2*(bF l*q)
 | [],i,s,_=>by simp [dM,bF]
 | y::l,i,s,hK=>by
  simp only [bF] at hK;have h:=jU hq y s.1 (by omega);have d:=fu y s.1;have c:K≤q:=Nat.le_trans (by rw [←Nat.mul_one K,Nat.mul_assoc]; exact Jk _ (by omega)) hq;have b:=qY a l (i+1) (so i y s) (by omega);have h6:(so i y s).1.P.length=(bd y s.1).2.P.length+(bd y s.1).1.fi.length:=by
   show ((bd y s.1).2.P++dz [0] (bd y s.1).1.fi).length=_;rw [IW,lF];simp
  simp only [dM,bF,Nat.add_mul];omega
end
theorem Al:∀(d a:Nat) (x:T_Regex) (b:Bs),V d x=true→d+1≤a→b.S.length+parts x≤500→b.P.length+500000*parts x≤500000000→M.a8 a ⟨b.S,pC b.P⟩ x=some (vt (bd x b).1,⟨(bd x b).2.S,pC (bd x b).2.P⟩):=by
 intro d;induction d with
 | zero=>intro a x b h; simp [V] at h
 | succ d ih=>
  intro a x b H L hsz t;obtain ⟨a,rfl⟩:∃f,a=f+1:=⟨a - 1,by omega⟩;obtain ⟨k,s,l⟩:=x;obtain ⟨p,n⟩:=Au H;have B:parts ⟨k,s,l⟩=bF l+1:=by simp [parts]
  rw [B] at hsz t;have J:=fy l;refine Is.eq ?_;unfold M.a8;have fin:∀ {o:Option (Bool×List Int×List Int×List (aV 4)×List (aV 2))} {r:Pt×Bs},bd ⟨k,s,l⟩ b=r→Is o (fun v=>v=(r.1.nl,gC r.1.fi,gC r.1.la,r.2.S,pC r.2.P))→
   Is (o.bind fun x=>some ((cF.mk x.1 x.2.1 x.2.2.1),(bT.mk x.2.2.2.1 x.2.2.2.2))) (fun v=>v=(vt (bd ⟨k,s,l⟩ b).1,⟨(bd ⟨k,s,l⟩ b).2.S,pC (bd ⟨k,s,l⟩ b).2.P⟩)):=by
   intro o r G D;refine Is.bnd D fun v w=>Is.pure ?_
   rw [w,G];rfl
  have hq:500*500≤250000:=by decide
  rcases qg p with rfl|rfl|rfl|rfl|rfl|rfl
  ·exact fin (r:=(⟨false,[],[]⟩,b)) (by simp [bd]) (Is.cf rfl (Is.cf rfl (Is.cf rfl (Is.cf rfl (Is.cf rfl (Is.pure rfl))))))
  ·exact fin (r:=(⟨true,[],[]⟩,b)) (by simp [bd]) (Is.ct rfl (Is.pure rfl))
  ·refine fin (r:=(⟨false,[b.S.length+1],[b.S.length+1]⟩,⟨b.S++[s],b.P⟩)) (by simp [bd]) (Is.cf rfl (Is.ct rfl (Is.bnq (bO (by simp only [IT]; omega)) (Is.pure ?_))));simp [gC]
  ·refine fin (r:=fI l ⟨true,[],[]⟩ b) (by simp [bd]) (Is.cf rfl (Is.cf rfl (Is.ct rfl ?_)));refine Is.upto (fun i (j:List (aV 4)×List (aV 2)×Bool×List Int×List Int×Int)=>j=((fI (l.take i) ⟨true,[],[]⟩ b).2.S,pC (fI (l.take i) ⟨true,[],[]⟩ b).2.P,(fI (l.take i) ⟨true,[],[]⟩ b).1.nl,gC (fI (l.take i) ⟨true,[],[]⟩ b).1.fi,gC (fI (l.take i) ⟨true,[],[]⟩ b).1.la,(i:Int))) l.length (by omega) (by simp [fI,gC]) ?_ ?_
   ·rintro i _ c rfl;have g:=pQ (l.take i) ⟨true,[],[]⟩ b;have m:=rr (K:=500) (q:=250000) hq (l.take i) ⟨true,[],[]⟩ b (by have:=cZ l i; simp only [List.length_nil]; omega);have z:=eQ c;have A:=cZ l (i+1);have e:=rq l[i] (l.take i) ⟨true,[],[]⟩ b;rw [←cS c] at e;generalize fI (l.take i) ⟨true,[],[]⟩ b=r at g m e;simp only [List.length_nil] at g;have hy:=fu l[i] r.2;have u:=jU (K:=500) (q:=250000) hq l[i] r.2 (by omega);have F:r.1.la.length*(bd l[i] r.2).1.fi.length≤250000:=Nat.le_trans (Nat.mul_le_mul (show _≤500 by omega) (show _≤500 by omega)) hq;refine Is.dt (show ((i:Nat):Int)<(l.length:Int) by omega) (Is.bnq (be c) (Is.bnq (ih a l[i] r.2 (n _ (IU c)) (by omega) (by omega) (by omega)) ?_));refine Is.bnq (vJ (x:=r.1) (y:=(bd l[i] r.2).1) (by omega) (by omega) (by omega) (by omega) (by omega)) (Is.bnq (aK (by omega)) (Is.next ?_));rw [e];rfl
   ·rintro _ rfl;refine Is.df (show ¬ ((l.length:Nat):Int)<(l.length:Int) by omega) (Is.stop ?_);rw [IV]
  ·refine fin (r:=gn l ⟨false,[],[]⟩ b) (by simp [bd]) (Is.cf rfl (Is.cf rfl (Is.cf rfl (Is.ct rfl ?_))));refine Is.upto (fun i (j:List (aV 4)×List (aV 2)×Bool×List Int×List Int×Int)=>j=((gn (l.take i) ⟨false,[],[]⟩ b).2.S,pC (gn (l.take i) ⟨false,[],[]⟩ b).2.P,(gn (l.take i) ⟨false,[],[]⟩ b).1.nl,gC (gn (l.take i) ⟨false,[],[]⟩ b).1.fi,gC (gn (l.take i) ⟨false,[],[]⟩ b).1.la,(i:Int))) l.length (by omega) (by simp [gn,gC]) ?_ ?_
   ·rintro i _ c rfl;have g:=pP (l.take i) ⟨false,[],[]⟩ b;have m:=rn (K:=500) (q:=250000) hq (l.take i) ⟨false,[],[]⟩ b (by have:=cZ l i; omega);have z:=eQ c;have A:=cZ l (i+1);have e:=rm l[i] (l.take i) ⟨false,[],[]⟩ b;rw [←cS c] at e;generalize gn (l.take i) ⟨false,[],[]⟩ b=r at g m e;simp only [List.length_nil] at g;have hy:=fu l[i] r.2;refine Is.dt (show ((i:Nat):Int)<(l.length:Int) by omega) (Is.bnq (be c) (Is.bnq (ih a l[i] r.2 (n _ (IU c)) (by omega) (by omega) (by omega)) ?_));refine Is.bnq (x:=r.1.nl || (bd l[i] r.2).1.nl) (Is.eq (Is.cnd (fun hn=>Is.pure ?_) (fun hn=>Is.pure ?_))) ?_
    ·rw [hn]; rfl
    ·rw [hn]; rfl
    refine Is.bnq (bO (by simp only [cP,List.length_nil]; omega)) (Is.bnq (bO (by simp only [vt,cP,Jd]; omega)) (Is.bnq (bO (by simp only [cP,List.length_nil]; omega)) (Is.bnq (bO (by simp only [vt,cP,Jd]; omega)) (Is.bnq (aK (by omega)) (Is.next ?_)))));rw [e];simp only [Jd,vt,iP,jy]
   ·rintro _ rfl;refine Is.df (show ¬ ((l.length:Nat):Int)<(l.length:Int) by omega) (Is.stop ?_);rw [IV]
  ·have I:=sq p;obtain ⟨y,rfl⟩:=List.length_eq_one_iff.1 I;simp only [bF] at hsz t;have hy:=fu y b;have u:=jU (K:=500) (q:=250000) hq y b (by omega);have F:(bd y b).1.la.length*(bd y b).1.fi.length≤250000:=Nat.le_trans (Nat.mul_le_mul (show _≤500 by omega) (show _≤500 by omega)) hq;refine fin (r:=(⟨true,(bd y b).1.fi,(bd y b).1.la⟩,⟨(bd y b).2.S,(bd y b).2.P++dz (bd y b).1.la (bd y b).1.fi⟩)) (by simp [bd,AP]) (Is.cf rfl (Is.cf rfl (Is.cf rfl (Is.cf rfl (Is.ct rfl ?_)))));refine Is.bnq (x:=y) rfl (Is.bnq (ih a y b (n y (by simp)) (by omega) (by omega) (by omega)) ?_);refine Is.bnq (wC (la:=(bd y b).1.la) (fi:=(bd y b).1.fi) (by omega) (by omega) (by omega)) (Is.pure rfl)
theorem sH {α:Type} (N:Nat) (f:Nat→Bool) (g:Nat→α):∀k,((List.range (k*N)).filter f).map g=(List.range k).flatMap fun p=>((List.range N).filter fun q=>f (p*N+q)).map fun q=>g (p*N+q)
 | 0=>by simp
 | k+1=>by
  rw [Nat.succ_mul,List.range_add,List.filter_append,Jh,sH N f g k,JD,List.flatMap_append];congr 1;simp only [List.flatMap_cons,List.flatMap_nil,List.append_nil];rw [List.filter_map,JF];rfl
theorem nI {N p q:Nat} (hq:q<N):(p*N+q) / N=p∧(p*N+q) % N=q:=by
 have hN:0<N:=by omega
 rw [Nat.mul_comm p N,Nat.mul_add_div hN,Nat.div_eq_of_lt hq,Nat.mul_add_mod,JI hq];exact ⟨Nat.add_zero _,rfl⟩
theorem kY {α β:Type} {f g:α→List β}:∀ {l:List α},(∀x∈l,f x=g x)→l.flatMap f=l.flatMap g
 | [],_=>rfl
 | x::l,h=>by rw [List.flatMap_cons,List.flatMap_cons,h x (by simp),kY fun y hy=>h y (by simp [hy])]
theorem wA (S:List (aV 4)) (P:List (Nat×Nat)) (N:Nat):((List.range (N*N)).filter fun i=>decide ((i / N,i % N)∈P)).map (fun i=>AO S (i / N) (i % N))=gm S P N N:=by
 rw [sH];unfold gm;refine kY fun p _=>?_
 unfold vj oZ;have a:((List.range N).filter fun q=>decide (((p*N+q) / N,(p*N+q) % N)∈P))=(List.range N).filter fun q=>decide ((p,q)∈P):=by
  refine JA fun q hq=>?_
  rw [(nI (Ju.1 hq)).1,(nI (Ju.1 hq)).2]
 rw [a];refine List.map_congr_left fun q hq=>?_
 have hq:=Ju.1 (JB.1 hq).1;rw [(nI hq).1,(nI hq).2]
theorem AY (p:Nat×Nat):gV (pv p) 0=some (p.1:Int):=by simp [gV,pv]
theorem AW (p:Nat×Nat):gV (pv p) 1=some (p.2:Int):=by simp [gV,pv]
theorem DA {n:Nat} (h:n≤9223372036854775807):bZ .i64 (n:Int)=some (n:Int):=dX (by omega) (by omega)
theorem Eb {n:Nat} (h:n≤9223372036854775807):IntKind.i64.wrap (n:Int)=(n:Int):=fg (by omega) (by omega)
theorem vF {l:List T_Regex} (ok:∀x∈l,bQ x) (w:∀y∈l,V 30 y=true) (hp:bF l≤500):M.c8 l=some (dg l,0):=by
 refine Is.eq ?_;unfold M.c8;refine Is.bnd (uX ok (by omega)) fun e R=>?_
 obtain rfl:e=0:=by
  rcases R with ⟨⟨y,hy,h⟩,_⟩|⟨_,h,_⟩|⟨_,_,h,_⟩
  ·rw [w y hy] at h; cases h
  ·omega
  ·exact h
 refine Is.cf rfl ?_;have hlen:=fy l;have a2:dn.1.S.length=0:=rfl;have a6:dn.1.P.length=0:=rfl;have hq:500*500≤250000:=by decide
 have t:=jP l 0 dn oQ;have a9:=lH l 0 dn;have a8:=qY (K:=500) (q:=250000) hq (by omega) l 0 dn (by omega);refine Is.bnq (x:=((dM 0 l dn).1.S,pC (dM 0 l dn).1.P,(dM 0 l dn).2)) (Is.eq ?_) ?_
 ·refine Is.upto (fun i (c:List (aV 4)×List (aV 2)×List Int×Int)=>c=((dM 0 (l.take i) dn).1.S,pC (dM 0 (l.take i) dn).1.P,(dM 0 (l.take i) dn).2,(i:Int))) l.length (by omega) rfl ?_ ?_
  ·rintro i _ b rfl;have G:=jP (l.take i) 0 dn oQ;have T:=lH (l.take i) 0 dn;have a4:=eQ b;have a5:=cZ l (i+1);have gp:=qY (K:=500) (q:=250000) hq (by omega) (l.take i) 0 dn (by omega);have o:=nG l[i] (l.take i) 0 dn;rw [←cS b,show 0+(l.take i).length=i by rw [Jo]; omega] at o;generalize dM 0 (l.take i) dn=s at G T gp o;have hy:=fu l[i] s.1;have H:=rl l[i] s.1;have a0:=pO l[i] s.1;have a1:=jU (K:=500) (q:=250000) hq l[i] s.1 (by omega);have hal:=G.len;have z:(tV s.2 (bd l[i] s.1).2.S.length).length=(bd l[i] s.1).2.S.length+1:=pF (by omega);refine Is.dt (by omega) (Is.bnq (x:=((so i l[i] s).1.S,pC (so i l[i] s).1.P,(so i l[i] s).2)) (Is.eq (Is.bnq (be b) (Is.bnq (Al 30 aZ l[i] s.1 (w _ (IU b)) (by unfold aZ; omega) (by omega) (by omega)) ?_))) (Is.bnq (aK (by omega)) (Is.next (by rw [o]))));refine Is.bnq (wC (la:=[0]) (fi:=(bd l[i] s.1).1.fi) (by simp only [IT]; omega) (by simp) (by omega)) ?_;refine Is.bnq (uD (a:=s.2) (n:=(bd l[i] s.1).2.S.length) (by omega) (by omega) (fun _=>rfl)) ?_;refine Is.bnq (uq (la:=(bd l[i] s.1).1.la) (v:=(i:Int)) (fun p hp=>by rw [z]; have:=H.2 p hp; omega) (by omega) (fun _ _=>rfl)) ?_;exact Is.of (zS (f:=fun y=>((bd l[i] s.1).2.S,pC ((bd l[i] s.1).2.P++dz [0] (bd l[i] s.1).1.fi),y)) (by rw [iW,z]; omega)) rfl
  ·rintro _ rfl;refine Is.df (by omega) (Is.stop ?_);rw [IV]
 have hal:=t.len;have D:∀p q,(p,q)∈(dM 0 l dn).1.P→p<(dM 0 l dn).2.length∧q<(dM 0 l dn).2.length:=fun p q h=>by have:=t.cl p q h; omega
 have J:=t.pos;have F:(dM 0 l dn).2.length≤501:=by omega
 unfold dg;generalize (dM 0 l dn).2=acc at *;generalize (dM 0 l dn).1.S=S at *;generalize (dM 0 l dn).1.P=P at *;have b1:acc.length*acc.length≤251001:=Nat.le_trans (Nat.mul_le_mul F F) (by decide);have b2:0<acc.length:=by omega
 refine Is.bnq (x:=((acc.length*acc.length:Nat):Int)) (by rw [show (acc.length:Int)*(acc.length:Int)=((acc.length*acc.length:Nat):Int) by rw [Int.natCast_mul]]; exact DA (by omega)) ?_;refine Is.bnq (dW (by omega)) ?_;have N:∀p q,p<acc.length→q<acc.length→p*acc.length+q<acc.length*acc.length:=fun p q k d=>by
  have:(p+1)*acc.length≤acc.length*acc.length:=Jj _ k;rw [Nat.succ_mul] at this;omega
 refine Is.bnd (P:=fun h:List Bool=>h.length=acc.length*acc.length∧∀j,j<acc.length*acc.length→(h[j]?=some true↔(j / acc.length,j % acc.length)∈P)) ?_ ?_
 ·refine Is.upto (fun i (c:List Bool×Int)=>c.2=(i:Int)∧c.1.length=acc.length*acc.length∧∀j,j<acc.length*acc.length→(c.1[j]?=some true↔(j / acc.length,j % acc.length)∈P.take i)) P.length (by omega) ⟨rfl,by simp,fun j A=>by simp [A]⟩ ?_ ?_
  ·rintro i ⟨h,_⟩ b ⟨rfl,k,d⟩;simp only at k d;obtain ⟨c1,c2⟩:=D P[i].1 P[i].2 (IU b);have A:=N _ _ c1 c2;have a7:P[i].1*acc.length≤acc.length*acc.length:=Jj _ (by omega);refine Is.dt (by rw [pB]; omega) (Is.bnq (x:=pv P[i]) (by rw [be (by rw [pB]; exact b)]; simp [pC]) (Is.bnq (AY _) (Is.bnq (x:=((P[i].1*acc.length:Nat):Int)) (by rw [show ((P[i].1:Nat):Int)*(acc.length:Int)=((P[i].1*acc.length:Nat):Int) by rw [Int.natCast_mul]]; exact DA (by omega)) (Is.bnq (AW _) (Is.bnq (x:=((P[i].1*acc.length+P[i].2:Nat):Int)) (by rw [show ((P[i].1*acc.length:Nat):Int)+((P[i].2:Nat):Int)=((P[i].1*acc.length+P[i].2:Nat):Int) by omega]; exact DA (by omega)) (Is.bnq (cK (by omega)) (Is.bnq (aK (by omega)) (Is.next ⟨rfl,by rw [Jz]; exact k,fun j L=>?_⟩))))))));rw [Jy,cS b,IZ,IY];obtain ⟨Y,X⟩:=nI (p:=P[i].1) c2
   by_cases e:P[i].1*acc.length+P[i].2=j
   ·rw [if_pos e,if_pos (by omega)];subst e;rw [Y,X];simp
   ·rw [if_neg e,d j L];constructor
    ·exact .inl
    ·rintro (m|m)
     ·exact m
     ·exfalso;have W:j / acc.length=P[i].1:=by rw [←m]
      have U:j % acc.length=P[i].2:=by rw [←m]
      have:=Nat.div_add_mod j acc.length;rw [W,U,Nat.mul_comm] at this;exact e this
  ·rintro ⟨h,_⟩ ⟨rfl,k,d⟩;rw [IV] at d;exact Is.df (by rw [pB]; omega) (Is.stop ⟨k,d⟩)
 ·rintro h ⟨k,d⟩;refine Is.bnq (x:=gm S P acc.length acc.length) (Is.eq ?_) (Is.pure rfl);rw [←wA];refine Is.upto (fun i (c:List cd×Int)=>c.2=(i:Int)∧c.1=((List.range i).filter fun i=>decide ((i / acc.length,i % acc.length)∈P)).map (fun i=>AO S (i / acc.length) (i % acc.length))) (acc.length*acc.length) (by omega) ⟨rfl,rfl⟩ ?_ ?_
  ·rintro i ⟨u,_⟩ b ⟨rfl,e⟩;obtain rfl:u=_:=e;have Q:=List.length_filter_le (fun i=>decide ((i / acc.length,i % acc.length)∈P)) (List.range i);rw [Jw] at Q;have B:i<h.length:=by omega
   have r:=d i b;rw [IQ B] at r;refine Is.dt (by omega) (Is.bnq (x:=((List.range (i+1)).filter fun i=>decide ((i / acc.length,i % acc.length)∈P)).map (fun i=>AO S (i / acc.length) (i % acc.length))) (Is.eq (Is.bnq (be B) (Is.cnd (fun hb=>?_) (fun hb=>Is.pure ?_)))) (Is.bnq (aK (by omega)) (Is.next ⟨rfl,rfl⟩)))
   ·have g:=r.1 (by rw [hb]);have I:=J _ _ g;have a3:=(D _ _ g).2;have b0:i / acc.length≤i:=Nat.div_le_self _ _;refine Is.bnq (xi (by omega) (Eb (by omega))) (Is.bnq (lA (by omega)) (Is.bnq (x:=((i % acc.length:Nat):Int) - 1) (dX (by omega) (by omega)) (Is.bnq (wQ I (by omega)) (Is.bnq (bO (by rw [Jg,IT]; omega)) (Is.pure ?_)))));rw [JD,List.filter_append,Jh];simp [g,AO]
   ·have g:¬ (i / acc.length,i % acc.length)∈P:=fun g=>by have:=r.2 g; rw [hb] at this; cases this
    rw [JD,List.filter_append,Jh];simp [g]
  ·rintro ⟨u,_⟩ ⟨rfl,e⟩;obtain rfl:u=_:=e;exact Is.df (by omega) (Is.stop rfl)
end Go.Proofs.YtggpjcdhflcfmaaGreatDoor
