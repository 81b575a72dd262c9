/- Part 14. -/
import Derived.Test.YtggpjcdhflcfmaaGreatDoorKLexspecPrefix13
set_option linter.unusedVariables false
set_option linter.unusedSimpArgs false
namespace Go.Proofs.YtggpjcdhflcfmaaGreatDoor
open Go.Lx
theorem vU {p:Nat→Bool} {K:Nat}:∀N,K≤N→(List.range N).filter (fun i=>decide (i<K) && p i)=(List.range K).filter p:=by
 intro N;induction N with
 | zero=>
  intro h;obtain rfl:K=0:=by omega
  rfl
 | succ N ih=>
  intro h
  by_cases e:K=N+1
  ·subst e;exact IW fun i a=>by rw [decide_eq_true (IQ.1 a),Bool.true_and]
  ·rw [IZ,List.filter_append,ih (by omega)];have:¬ N<K:=by omega
   simp [this]
open Classical in
theorem qP {n m:T_NFA} (hn:FitN n) (c:FitN m) {T T':List Int} (e:m.States≤n.States) (h:∀i:Nat,(i:Int)<m.States→((i:Int)∈clo m T↔(i:Int)∈clo n T')) :
 clo m T=(clo n T').filter fun s=>decide (s<m.States):=by
 have f:=c.pos;have d:∀i:Nat,(i:Int)<m.States→(nP m T (i:Int)↔nP n T' (i:Int)):=fun i a=>by rw [←lz c,←lz hn]; exact h i a
 unfold clo;rw [List.filter_map];congr 1;rw [List.filter_filter,←vU n.States.toNat (show m.States.toNat≤n.States.toNat by omega)];refine IW fun i _=>?_
 by_cases a:(i:Int)<m.States
 ·have b:i<m.States.toNat:=by omega
  simp [a,b,d i a]
 ·have b:¬ i<m.States.toNat:=by omega
  simp [a,b]
section
variable {l:List T_Regex} {k:Nat} (hk:k≤l.length)
include hk
theorem zA {p r:Nat} (d:r≤lo l k):(p,r)∈(sJ l l.length).1.P↔(p,r)∈(sJ l k).1.P:=by
 rw [jL l l.length (Nat.le_refl _),jL l k hk];constructor
 ·rintro ⟨j,a,h⟩;refine ⟨j,?_,h⟩;have b:=ko l a;have f:lo l j<r:=by
   rcases h with h|⟨_,h⟩
   ·exact (b.e _ _ h).2.1
   ·exact (b.fi _ h).1
  refine Nat.lt_of_not_le fun c=>?_
  have:=gb l c (by omega);omega
 ·rintro ⟨j,a,h⟩;exact ⟨j,by omega,h⟩
theorem Bw {p r:Nat} (h:(p,r)∈(sJ l k).1.P):p≤lo l k:=by
 obtain ⟨j,hj,h⟩:=(jL l k hk p r).1 h;rcases h with h|⟨rfl,_⟩
 ·have h1:=((ko l (j:=j) (by omega)).e _ _ h).1.2;have:=gb l (i:=j+1) (j:=k) hj hk;omega
 ·omega
theorem yF {r b:Nat} (h1:1≤r) (h2:r≤lo l k):rN (sJ l l.length).1.S r b↔rN (sJ l k).1.S r b:=by
 obtain ⟨W,hW⟩:=Ce l hk (Nat.le_refl _);unfold rN;rw [hW,Iy (show r - 1<(sJ l k).1.S.length from by have:lo l k=(sJ l k).1.S.length:=rfl; omega)]
theorem yc (ok:∀x∈l,bO x) (hp:bE l≤500) (h:rj (cx l)):rj (cx (l.take k)):=by
 obtain ⟨Q,G,F⟩:=h;have hn:=ly ok hp;have g:=ly (l:=l.take k) (fun x hx=>ok x (List.mem_of_mem_take hx)) (Nat.le_trans (cJ l k) hp);have t:=gP l 0 dc mf;have q:=gP (l.take k) 0 dc mf;have j:dx 0 l dc=sJ l l.length:=(nU l).symm;have d:dx 0 (l.take k) dc=sJ l k:=rfl;have v:(cx l).States=((dx 0 l dc).2.length:Int):=rfl;have u:(cx (l.take k)).States=((dx 0 (l.take k) dc).2.length:Int):=rfl;have y:=t.len;have w:=q.len;have J:lo l l.length=(sJ l l.length).1.S.length:=rfl;have I:lo l k=(sJ l k).1.S.length:=rfl;have K:=gb l hk (Nat.le_refl _);rw [j] at y v;rw [d] at w u;have n:(cx (l.take k)).States≤(cx l).States:=by omega
 have z:∀(S:List Int) (b:Nat),(∀s∈S,0≤s∧s<((dx 0 l dc).2.length:Int))→fp (cx (l.take k)) (S.filter fun s=>decide (s<(cx (l.take k)).States)) b=(fp (cx l) S b).filter fun s=>decide (s<(cx (l.take k)).States):=by
  intro S b i;have B:∀s∈S.filter (fun s=>decide (s<(cx (l.take k)).States)),0≤s∧s<((dx 0 (l.take k) dc).2.length:Int):=fun s hs=>by
   obtain ⟨a,c⟩:=IX.1 hs;have:=of_decide_eq_true c;rw [d];exact ⟨(i s a).1,by omega⟩
  refine qP hn g n fun r A=>?_
  show (r:Int)∈fp (cx (l.take k)) _ b↔(r:Int)∈fp (cx l) S b;rw [po g B,po hn i,j,d];have f:r≤lo l k:=by omega
  constructor
  ·rintro ⟨p,a,c,m⟩;exact ⟨p,(IX.1 a).1,(zA hk f).2 c,(yF hk (q.pos p r (by rw [d]; exact c)) f).2 m⟩
  ·rintro ⟨p,a,c,m⟩;have o:=(zA hk f).1 c;have L:=Bw hk o;exact ⟨p,IX.2 ⟨a,decide_eq_true (by omega)⟩,o,(yF hk (t.pos p r (by rw [j]; exact c)) f).1 m⟩
 refine ⟨Q.map fun S=>S.filter fun s=>decide (s<(cx (l.take k)).States),by simpa using G,fun S h=>?_⟩;have:∃S',RS (cx l) S'∧S=S'.filter fun s=>decide (s<(cx (l.take k)).States):=by
  induction h with
  | start=>
   refine ⟨_,RS.start,qP hn g n fun r A=>?_⟩;rw [gf g,gf hn,j,d];show (r:Int)∈[(0:Int)]∧_↔(r:Int)∈[(0:Int)]∧_;have a:(0:Int)≤(r:Int)∧(r:Int)<((sJ l k).2.length:Int):=⟨by omega,by omega⟩;have c:(0:Int)≤(r:Int)∧(r:Int)<((sJ l l.length).2.length:Int):=⟨by omega,by omega⟩;exact ⟨fun h=>⟨h.1,c⟩,fun h=>⟨h.1,a⟩⟩
  | @step S b hR hb hne ih=>
   obtain ⟨S',a,rfl⟩:=ih;obtain ⟨T,D⟩:=a.clo;have i:∀s∈S',0≤s∧s<((dx 0 l dc).2.length:Int):=fun s hs=>by
    rw [D] at hs;exact ((gf hn).1 hs).2
   have e:=z S' b i;exact ⟨_,RS.step a hb fun H=>hne (by rw [e,H]; rfl),e⟩
 obtain ⟨S',a,rfl⟩:=this;exact IP.2 ⟨S',F S' a,rfl⟩
end
theorem zB {l:List bp} {k i:Nat} (c:i≤k) (hk:k≤l.length) (e:bp):M.a1 (l.take k) (i:Int) e=M.a1 l (i:Int) e:=by
 unfold M.a1;have b:=pn (l:=l.take k) (i:=0) (j:=i) (by omega) (by rw [IJ]; omega);have a:=pn (l:=l) (i:=0) (j:=i) (by omega) (by omega);rw [show ((0:Nat):Int)=0 from rfl] at b a;rw [b,a,List.take_take,Nat.min_eq_left c]
theorem zD {l:List bp} {k i:Nat} (hi:i<k) (hk:k≤l.length):M.a6 (l.take k) (i:Int)=M.a6 l (i:Int):=by
 unfold M.a6;have h1:bD (l.take k) (i:Int)=some l[i]:=by rw [aZ (by rw [IJ]; omega)]; simp
 rw [h1,aZ (show i<l.length by omega)];simp only [Ik,zB (Nat.le_of_lt hi) hk]
theorem wx {l:List T_Regex} {k j:Nat} (hj:j<k):xJ (l.take k) j=xJ l j:=by
 unfold xJ;rw [Ih,Ih,List.getElem?_take,if_pos hj]
theorem vM {l:List T_Regex} {k i:Nat} (hi:i<k) (hk:k≤l.length) {w:List Nat} (h:rh l w (i:Int)):rh (l.take k) w (i:Int):=by
 rcases h with ⟨e,_⟩|⟨j,hj,e,h1,h2⟩
 ·omega
 ·obtain rfl:i=j:=by omega
  refine .inr ⟨i,by rw [IJ]; omega,rfl,by rw [wx hi]; exact h1,fun m hm=>?_⟩;rw [wx (by omega)];exact h2 m hm
theorem tp {x y:T_LexSpec} {d:T_DFA} (C:rm x d) (h6:x.Defs.length≤6) (hf:∀d∈x.Defs,FewD d 30) {k:Nat} (Y:1≤k) (hk:k≤x.Defs.length) (c:y.Defs=x.Defs.take k) (hM:y.Misspelling=x.Misspelling) (L:y.Unclosed=x.Unclosed) :
 Is (M.b0 y) (fun r=>r.2.2=0):=by
 have hlow:∀d∈x.Defs,height (rx d).1≤8:=fun d hd=>(C.pat d hd).1.low
 obtain ⟨ok,W⟩:=pw hf hlow;have S:y.Defs.length=k:=by rw [c,IJ]; omega
 have f:∀i (h:i<y.Defs.length),y.Defs[i]=x.Defs[i]'(by omega):=fun i h=>by simp only [c,List.getElem_take]
 have j:ja y=(ja x).take k:=by unfold ja; rw [c,List.map_take]
 have o:∀d∈y.Defs,d∈x.Defs:=fun d hd=>by rw [c] at hd; exact List.mem_of_mem_take hd
 have n:∀d∈y.Defs,FewD d 30:=fun d hd=>hf d (o d hd)
 have G:∀d∈y.Defs,height (rx d).1≤8:=fun d hd=>hlow d (o d hd)
 obtain ⟨A,V⟩:=pw n G;have X:(ja x).length=x.Defs.length:=by simp [ja]
 unfold M.b0;refine Is.bnd (P:=fun b=>b=false) ?_ fun b hb=>Is.cf hb ?_
 ·exact Is.df (by omega) (Is.pure (decide_eq_false (by omega)))
 refine Is.bs (P:=fun l=>l=ja y) (Q:=fun r:T_DFA×Int×Int=>r.2.2=0) ?_ ?_
 ·refine Is.upto (fun i (g:List T_Regex×Int)=>g.2=(i:Int)∧g.1=(y.Defs.take i).map (fun d=>(rx d).1)) y.Defs.length (by omega) ⟨rfl,rfl⟩ ?_ ?_
  ·rintro i ⟨l,_⟩ a ⟨rfl,e⟩;obtain rfl:l=_:=e;have m:=Ip a;have K:M.a6 y.Defs (i:Int)=some 0:=by rw [c,zD (by omega) hk]; exact C.def0 i (by omega)
   refine Is.dt (by omega) (Is.bnq (aZ a) (Is.bnq K (Is.cf rfl (Is.bnq (Dx n m).prog (Is.bnq (bN (by simp only [IC,IJ,Il]; omega)) (Is.bnq (aM (by omega)) (Is.next ⟨rfl,?_⟩)))))));rw [Ix a,ID]; rfl
  ·rintro ⟨l,_⟩ ⟨rfl,e⟩;obtain rfl:l=_:=e;rw [Iq];exact Is.df (by omega) (Is.stop rfl)
 rintro _ rfl;obtain ⟨U,T⟩:=C.mis;refine Is.bnd (P:=fun b=>b=false) ?_ fun b hb=>Is.cf hb ?_
 ·rw [hM,L];exact Is.df (by omega) (Is.df (by omega) (Is.df (by omega) (Is.pure (decide_eq_false (by omega)))))
 refine Is.bnd (nH A (by omega)) fun r q=>?_
 have t:r.2=0:=by
  refine q.2 (fun z p=>?_) ?_ ?_
  ·rw [j] at p; exact C.blt.val z (List.mem_of_mem_take p)
  ·rw [j]; exact Nat.le_trans (cJ _ _) C.blt.prt
  ·rw [j]; exact yc (by omega) ok C.blt.prt C.blt.fin
 have B:=q.1 t;refine Is.cf (by rw [t]; rfl) ?_;refine Is.bs (P:=fun _=>True) (Q:=fun r:T_DFA×Int×Int=>r.2.2=0) ?_ (fun _ _=>Is.pure rfl);refine Is.upto (fun i g=>g=(i:Int)) y.Defs.length (by omega) rfl ?_ ?_
 ·rintro i _ a rfl;have m:=Ip a;have s:i<x.Defs.length:=by omega
  have J:=n _ m;have D:eu r.1 (walkN r.1 0 y.Defs[i].Sample)=(i:Int):=by
   have v:=B.run y.Defs[i].Sample;have u:=C.blt.run x.Defs[i].Sample;rw [C.smp i s] at u;have R:=vM (k:=k) (by omega) (by omega) u;rw [j,f i a] at v;rw [f i a];exact vL v R
  refine Is.dt (by omega) (Is.bnq (aZ a) (Is.bnq (Ab B.can.ok (w:=y.Defs[i].Sample) (by have:=J.2.2.1; omega)) (Is.cf (by rw [D]; simp) ?_)));refine Is.bnd (P:=fun b=>b=false) ?_ fun b hb=>Is.cf hb (Is.bnq (aM (by omega)) (Is.next rfl))
  refine Is.cnd (fun N=>?_) (fun _=>Is.pure rfl);have I:i<(ja y).length:=by simp [ja]; omega
  have F:(ja y)[i]=(rx y.Defs[i]).1:=by simp [ja]
  refine Is.bnq (aZ I) ?_;have H:=C.key0 i s (by rw [←f i a]; exact dw N);rw [F,f i a];exact Is.bnq H (Is.pure rfl)
 ·rintro _ rfl;exact Is.df (by omega) (Is.stop trivial)
theorem vl {l:List T_Regex} (ok:∀x∈l,bO x) (hp:bE l≤1048576):Is (M.c8 l) (fun r=>(r=(cx l,0)∧bE l≤500)∨r.2≠0):=by
 by_cases hg:(∀y∈l,V 30 y=true)∧bE l≤500
 ·exact ⟨_,vk ok hg.1 hg.2,.inl ⟨rfl,hg.2⟩⟩
 ·unfold M.c8;refine Is.bnd (uG ok hp) fun e b=>?_
  have a:e≠0:=by
   rcases b with ⟨_,h,_⟩|⟨_,_,h,_⟩|⟨d,c,_,_⟩
   ·omega
   ·omega
   ·exact absurd ⟨d,c⟩ hg
  exact Is.ct (mj a) (Is.pure (.inr a))
theorem zk {x:T_LexSpec} (h6:x.Defs.length≤6) (hf:∀d∈x.Defs,FewD d 30) (hlow:∀d∈x.Defs,height (rx d).1≤8):Is (M.j6 x) (fun _=>True):=by
 obtain ⟨ok,h⟩:=pw hf hlow;unfold M.j6;refine Is.bs (P:=fun l=>l=ja x) (Q:=fun _:Bool=>True) ?_ ?_
 ·refine Is.upto (fun i (b:List T_Regex×Int)=>b.2=(i:Int)∧b.1=(x.Defs.take i).map (fun d=>(rx d).1)) x.Defs.length (by omega) ⟨rfl,rfl⟩ ?_ ?_
  ·rintro i ⟨l,_⟩ a ⟨rfl,e⟩;obtain rfl:l=_:=e;refine Is.dt (by omega) (Is.bnq (aZ a) (Is.bnq (Dx hf (Ip a)).ref (Is.cnd (fun _=>Is.stop trivial) (fun _=>Is.bnq (bN (by simp only [IC,IJ,Il]; omega)) (Is.bnq (aM (by omega)) (Is.next ⟨rfl,?_⟩))))));rw [Ix a,ID]; rfl
  ·rintro ⟨l,_⟩ ⟨rfl,e⟩;obtain rfl:l=_:=e;rw [Iq];exact Is.df (by omega) (Is.stop rfl)
 rintro _ rfl;refine Is.bnd (vl ok (by omega)) fun r f=>?_
 rcases f with ⟨rfl,c⟩|hne
 ·have g:=ly ok c;have hal:=(kL c).2;refine Is.cf rfl (Is.bnd (xE (n:=cx (ja x)) g (by omega)) fun r _=>Is.bnd (P:=fun _=>True) (Is.cnd (fun _=>Is.pure trivial) (fun _=>Is.pure trivial)) fun _ _=>Is.pure trivial)
 ·exact Is.ct (mj hne) (Is.pure trivial)
theorem yD {x:T_LexSpec} (ok:kH x):Is (M.k1 x) (fun b=>b=true→x.Defs.length≤6∧(∀d∈x.Defs,FewD d 30)∧∀d∈x.Defs,height (rx d).1≤8):=by
 have hl:x.Defs.length≤9223372036854775807:=Nat.le_trans ok.1.2 (by decide);unfold M.k1;refine Is.bnd (CU hl 6 30) fun b hb=>Is.cnd (fun _=>Is.pure fun h=>by cases h) (fun e=>?_)
 obtain ⟨h6,hf⟩:=hb (by simpa using e);refine Is.bs (P:=fun _=>∀d∈x.Defs,height (rx d).1≤8) (Q:=fun b:Bool=>b=true→x.Defs.length≤6∧(∀d∈x.Defs,FewD d 30)∧∀d∈x.Defs,height (rx d).1≤8) (Is.upto (fun i f=>f=(i:Int)∧∀d∈x.Defs.take i,height (rx d).1≤8) x.Defs.length hl ⟨rfl,by simp⟩ ?_ ?_) (fun _ hlow=>?_)
 ·rintro i _ c ⟨rfl,hd⟩;have hx:=Dx hf (Ip c);refine Is.dt (by omega) (Is.bnq (aZ c) (Is.bnq (vx hx) (Is.bnq (Ai ba _ hx.ok (by have:=hx.hgt; unfold ba; omega) (by have:=hx.hgt; omega)) (Is.dcd (fun _=>Is.stop fun h=>by cases h) (fun g=>Is.bnq (aM (by omega)) (Is.next ⟨rfl,fun d a=>?_⟩))))));rw [Ix c,Iv] at a;rcases a with a|a
  ·exact hd d a
  ·rw [Iu.1 a]; omega
 ·rintro _ ⟨rfl,hd⟩;rw [Iq] at hd;exact Is.df (by omega) (Is.stop hd)
 ·exact Is.bnd (zk h6 hf hlow) fun b _=>Is.pure fun _=>⟨h6,hf,hlow⟩
theorem vN (a:T_LexSpec) (g:kH a) (x1:Int) (f:yv .u8 x1):M.f6 a x1=some true:=by
 have v:0≤x1∧x1≤255:=f;refine Is.eq ?_;unfold M.f6;refine Is.bnd (P:=fun b=>b=false→(a.Defs.length≤6∧(∀d∈a.Defs,FewD d 30)∧∀d∈a.Defs,height (rx d).1≤8)∧1≤a.Defs.length) ?_ fun b hb=>Is.cnd (fun _=>Is.bnq rc (Is.pure rfl)) (fun h=>?_)
 ·refine Is.bnd (yD g) fun b hb=>Is.cnd (fun _=>Is.pure fun h=>by cases h) (fun h=>Is.pure fun c=>⟨hb (by simpa using h),?_⟩)
  have:=kJ c;omega
 obtain ⟨⟨h6,hf,hlow⟩,z⟩:=hb h;rw [fC (by omega) (by omega)];obtain ⟨t,rfl⟩:∃t:Nat,x1=(t:Int):=⟨x1.toNat,by omega⟩;have w:=Nat.mod_lt t (show 0<a.Defs.length by omega);have hlen:(a.Defs.take (1+t % a.Defs.length)).length=1+t % a.Defs.length:=by rw [IJ]; omega
 refine Is.bnq (x:=((t % a.Defs.length:Nat):Int)) (by unfold lK; rw [if_pos (by omega)]; rfl) (Is.bnq (x:=((1+t % a.Defs.length:Nat):Int)) (by rw [dO (by omega) (by omega)]; congr 1) (Is.bnq (x:=a.Defs.take (1+t % a.Defs.length)) ?_ ?_))
 ·have c:=pn (l:=a.Defs) (i:=0) (j:=1+t % a.Defs.length) (by omega) (by omega);rw [show ((0:Nat):Int)=0 from rfl] at c;rw [c]; rfl
 obtain ⟨r,m,p⟩:=qO h6 hf hlow;refine Is.bnq (x:=(r.2.1,r.2.2)) (show M.b7 a=_ from aN m rfl) ?_;have o:∀d∈a.Defs.take (1+t % a.Defs.length),FewD d 30:=fun d hd=>hf d (List.mem_of_mem_take hd)
 have n:∀d∈a.Defs.take (1+t % a.Defs.length),height (rx d).1≤8:=fun d hd=>hlow d (List.mem_of_mem_take hd)
 obtain ⟨q,hq,_⟩:=qO (x:=⟨a.Defs.take (1+t % a.Defs.length),a.Layout,a.Misspelling,a.Unclosed⟩) (by show (a.Defs.take _).length≤6; omega) o n;refine Is.bnq (x:=(q.2.1,q.2.2)) (show M.b7 _=_ from aN hq rfl) ?_;refine Is.bnd (P:=fun b=>b=true) (Is.bnq rc (Is.ct rfl (Is.cnd (fun _=>Is.pure rfl) (fun s=>Is.pure ?_)))) fun b hb=>Is.pure hb
 obtain ⟨u,e,c⟩:=tp (y:=⟨a.Defs.take (1+t % a.Defs.length),a.Layout,a.Misspelling,a.Unclosed⟩) (p (eP s)) h6 hf (k:=1+t % a.Defs.length) (by omega) (by omega) rfl rfl rfl;rw [hq] at e;obtain rfl:=Option.some.inj e;show (q.2.2 == 0)=true;rw [c]; rfl
end Go.Proofs.YtggpjcdhflcfmaaGreatDoor
