/- Part 13. -/
import Derived.Test.YtggpjcdhflcfmaaGreatDoorKLexspecKeywords12
set_option linter.unusedVariables false
set_option linter.unusedSimpArgs false
namespace Go.Proofs.YtggpjcdhflcfmaaGreatDoor
open Go.Lx
mutual
theorem pN:∀(x:T_Regex) (b:Bs),bQ x→(∀v∈b.S,W4 v)→∀v∈(bd x b).2.S,W4 v
 | ⟨k,s,l⟩,b,ok,h=>by
  simp only [bd];cases k == 3
  ·cases k == 4
   ·cases k == 5
    ·cases k == 6
     ·exact h
     ·match l,ok with
      | [],_=>exact h
      | y::l,ok=>exact pN y b (jH ok y (by simp)) h
    ·exact vh l _ b (jH ok) h
   ·exact vi l _ b (jH ok) h
  ·intro v a;rcases IZ.1 a with a|a
   ·exact h v a
   ·rw [IY.1 a]; exact CB (zq ok)
theorem vi:∀(l:List T_Regex) (x:Pt) (b:Bs),(∀y∈l,bQ y)→(∀v∈b.S,W4 v)→∀v∈(fI l x b).2.S,W4 v
 | [],_,_,_,h=>by simpa [fI] using h
 | y::l,x,b,ok,h=>by
  simp only [fI];exact vi l _ _ (fun z c=>ok z (by simp [c])) (pN y b (ok y (by simp)) h)
theorem vh:∀(l:List T_Regex) (x:Pt) (b:Bs),(∀y∈l,bQ y)→(∀v∈b.S,W4 v)→∀v∈(gn l x b).2.S,W4 v
 | [],_,_,_,h=>by simpa [gn] using h
 | y::l,x,b,ok,h=>by
  simp only [gn];exact vh l _ _ (fun z c=>ok z (by simp [c])) (pN y b (ok y (by simp)) h)
end
theorem uP:∀(l:List T_Regex) (i:Nat) (s:Bs×List Int),(∀y∈l,bQ y)→(∀v∈s.1.S,W4 v)→∀v∈(dM i l s).1.S,W4 v
 | [],_,_,_,h=>h
 | y::l,i,s,ok,h=>uP l (i+1) (so i y s) (fun z hz=>ok z (by simp [hz])) (pN y s.1 (ok y (by simp)) h)
theorem sv {l:List T_Regex} (ok:∀x∈l,bQ x) (hp:bF l≤500):FitN (dg l):=by
 obtain ⟨b,hl⟩:=kQ hp;refine b.fit (by omega) fun a ha=>?_
 obtain ⟨p,q,_,_,_,rfl⟩:=jl.1 ha;show W4 ((dM 0 l dn).1.S.getD (q - 1) (aV.zero 4));rw [IP];cases h:(dM 0 l dn).1.S[q - 1]? with
 | none=>exact jV
 | some v=>exact uP l 0 dn ok (by simp [dn]) v (List.mem_of_getElem? h)
section
variable (l:List T_Regex)
def sJ (j:Nat):Bs×List Int:=dM 0 (l.take j) dn
def xJ (j:Nat):T_Regex:=l.getD j nq
def pJ (j:Nat):Pt:=(bd (xJ l j) (sJ l j).1).1
def lo (j:Nat):Nat:=(sJ l j).1.S.length
theorem Dd {j:Nat} (h:j<l.length):xJ l j=l[j]:=by simp [xJ,IP,h]
theorem nf {j:Nat} (h:j<l.length):sJ l (j+1)=so j (xJ l j) (sJ l j):=by
 unfold sJ;rw [cS h,nG,Dd l h];congr 1;rw [Jo]; omega
theorem vY (j:Nat):∃T Q,DT (sJ l j).1 (bd (xJ l j) (sJ l j).1) T Q (L (xJ l j)):=il _ _
noncomputable def tJ (j:Nat):List (aV 4):=(vY l j).choose
noncomputable def qJ (j:Nat):List (Nat×Nat):=(vY l j).choose_spec.choose
theorem mJ (j:Nat):DT (sJ l j).1 (bd (xJ l j) (sJ l j).1) (tJ l j) (qJ l j) (L (xJ l j)):=(vY l j).choose_spec.choose_spec
theorem tv {j:Nat} (h:j<l.length):lo l (j+1)=(bd (xJ l j) (sJ l j).1).2.S.length:=by
 unfold lo;rw [nf l h];rfl
theorem nh {j:Nat} (h:j<l.length):lW (gu (qJ l j)) (pJ l j) (lo l j) (lo l (j+1)):=by
 rw [tv l h];exact (mJ l j).rng
theorem jN {i j:Nat} (hij:i≤j) (hj:j≤l.length):lo l i≤lo l j:=by
 induction hij with
 | refl=>exact Nat.le_refl _
 | @step j hij ih=>exact Nat.le_trans (ih (by omega)) (nh l (j:=j) (by omega)).le
theorem Et {i j:Nat} (hij:i≤j) (hj:j≤l.length):∃V,(sJ l j).1.S=(sJ l i).1.S++V:=by
 induction hij with
 | refl=>exact ⟨[],by simp⟩
 | @step j hij ih=>
  obtain ⟨V,hV⟩:=ih (by omega);refine ⟨V++tJ l j,?_⟩;rw [nf l (by omega)];show (bd (xJ l j) (sJ l j).1).2.S=_;rw [(mJ l j).S,hV,Ja]
theorem zf {j:Nat} (h:j<l.length):oT (tX (sJ l l.length).1.S) (gu (qJ l j)) (pJ l j) (L (xJ l j)):=by
 refine (mJ l j).rep _ ?_;obtain ⟨V,hV⟩:=Et l (i:=j+1) (j:=l.length) (by omega) (Nat.le_refl _);refine ⟨V,?_⟩;rw [hV,nf l h];rfl
theorem pL:∀k,k≤l.length→∀p r,(p,r)∈(sJ l k).1.P↔∃j,j<k∧(gu (qJ l j) p r∨(p=0∧r∈(pJ l j).fi))
 | 0,_,p,r=>by simp [sJ,dM,dn]
 | k+1,hk,p,r=>by
  rw [nf l (by omega)];show (p,r)∈(bd (xJ l k) (sJ l k).1).2.P++dz [0] (bd (xJ l k) (sJ l k).1).1.fi↔_;rw [IZ,eX,(mJ l k).P,IZ,pL k (by omega),IY];constructor
  ·rintro ((⟨j,a,h⟩|h)|h)
   ·exact ⟨j,by omega,h⟩
   ·exact ⟨k,by omega,.inl h⟩
   ·exact ⟨k,by omega,.inr h⟩
  ·rintro ⟨j,a,h⟩
   by_cases e:j=k
   ·subst e;rcases h with h|h
    ·exact .inl (.inr h)
    ·exact .inr h
   ·exact .inl (.inl ⟨j,by omega,h⟩)
theorem zn {M:Nat→Nat→Prop} {j:Nat} (c:j<l.length) {p q:Nat} (hp:lo l j<p∧p≤lo l (j+1)) {w:List Nat}:lX M (gu (sJ l l.length).1.P) p w q↔lX M (gu (qJ l j)) p w q:=by
 have f:=nh l c;refine gF (R:=fun p=>lo l j<p∧p≤lo l (j+1)) (fun p r hp=>?_) (fun p r hp h=>?_) w hp
 ·show (p,r)∈(sJ l l.length).1.P↔_;rw [pL l l.length (Nat.le_refl _)];constructor
  ·rintro ⟨i,b,h|h⟩
   ·have d:=((nh l b).e _ _ h).1
    by_cases e:i=j
    ·subst e; exact h
    ·exfalso;rcases Nat.lt_or_gt_of_ne e with a|a
     ·have:=jN l (i:=i+1) (j:=j) a (by omega); omega
     ·have:=jN l (i:=j+1) (j:=i) a (by omega); omega
   ·omega
  ·exact fun h=>⟨j,c,.inl h⟩
 ·have h:(p,r)∈(sJ l l.length).1.P:=h;rw [pL l l.length (Nat.le_refl _)] at h;obtain ⟨i,b,h|h⟩:=h
  ·have d:=(nh l b).e _ _ h
   by_cases e:i=j
   ·subst e; exact d.2
   ·exfalso;rcases Nat.lt_or_gt_of_ne e with a|a
    ·have:=jN l (i:=i+1) (j:=j) a (by omega); omega
    ·have:=jN l (i:=j+1) (j:=i) a (by omega); omega
  ·omega
end
theorem ta {v:Int} {p:Nat}:∀(la:List Nat) (a:List Int),p<a.length→p∈la→(lN la v a)[p]?=some v
 | [],_,_,h=>by simp at h
 | q::la,a,hp,h=>by
  show (lN la v (a.set q v))[p]?=some v
  by_cases b:p∈la
  ·exact ta la _ (by rw [Jz]; exact hp) b
  ·obtain rfl:p=q:=by
    rcases Js.1 h with h|h
    ·exact h
    ·exact absurd h b
   have:∀(la:List Nat) (a:List Int),p∉la→(lN la v a)[p]?=a[p]?:=by
    intro la;induction la with
    | nil=>intro a _; rfl
    | cons r la ih=>
     intro a hn;show (lN la v (a.set r v))[p]?=_;rw [ih _ (fun h=>hn (by simp [h])),List.getElem?_set_ne (fun e=>hn (by simp [e]))]
   rw [this la _ b,List.getElem?_set_self hp]
theorem nc {v:Int} {p:Nat}:∀(la:List Nat) (a:List Int),p∉la→(lN la v a)[p]?=a[p]?
 | [],_,_=>rfl
 | r::la,a,hn=>by
  show (lN la v (a.set r v))[p]?=_;rw [nc la _ (fun h=>hn (by simp [h])),List.getElem?_set_ne (fun e=>hn (by simp [e]))]
theorem tn {a:List Int} {n p:Nat} (h:p<a.length):(tV a n)[p]?=a[p]?:=by unfold tV; rw [Jc h]
theorem By {a:List Int} {n p:Nat} (h:a.length≤p) {v:Int} (hv:(tV a n)[p]?=some v):v=-1:=by
 unfold tV at hv;rw [Jv h,List.getElem?_replicate] at hv;split at hv <;> cases hv
 rfl
theorem uS {n:Bool} {v:Int} {a:List Int} {p:Nat} (hp:0<p):(lU n v a)[p]?=a[p]?:=by
 unfold lU;cases n && decide (a.getD 0 0<0)
 ·rfl
 ·rw [cond_true,List.getElem?_set_ne (by omega)]
structure HG (l:List T_Regex) (k:Nat) (a:List Int):Prop where
  inn:∀j,j<k→∀p∈(pJ l j).la,a[p]?=some (j:Int)
  out:∀p v,0<p→a[p]?=some v→0≤v→∃j,j<k∧v=(j:Int)∧p∈(pJ l j).la
  zero:(a[0]?=some (-1)∧∀j,j<k→(pJ l j).nl=false)∨∃j,j<k∧a[0]?=some (j:Int)∧(pJ l j).nl=true∧∀i,i<j→(pJ l i).nl=false
theorem CZ (l:List T_Regex):∀k,k≤l.length→HG l k (sJ l k).2
 | 0,_=>by
  refine ⟨fun j h=>by omega,fun p v hp h=>?_,.inl ⟨rfl,fun j h=>by omega⟩⟩;have h:([-1]:List Int)[p]?=some v:=h;rw [List.getElem?_singleton,if_neg (by omega)] at h;cases h
 | k+1,hk=>by
  have ih:=CZ l k (by omega);have m:k<l.length:=by omega
  have u:Ea (sJ l k):=jP _ _ _ oQ;have q:=nh l m;have hlen:(sJ l k).2.length=lo l k+1:=u.len;rw [nf l m];have r:(tV (sJ l k).2 (bd (xJ l k) (sJ l k).1).2.S.length).length=lo l (k+1)+1:=by
   rw [tv l m,pF];rw [hlen,←tv l m];have:=q.le;omega
  have g:∀p∈(pJ l k).la,lo l k<p∧p≤lo l (k+1):=q.la;have s:(0:Nat)∉(pJ l k).la:=fun h=>by have:=g 0 h; omega
  have b:(lN (pJ l k).la (k:Int) (tV (sJ l k).2 (bd (xJ l k) (sJ l k).1).2.S.length))[0]?=(sJ l k).2[0]?:=by
   rw [nc _ _ s,tn (by omega)]
  show HG l (k+1) (lU (pJ l k).nl (k:Int) (lN (pJ l k).la (k:Int) (tV (sJ l k).2 (bd (xJ l k) (sJ l k).1).2.S.length)));refine ⟨fun j o p hp=>?_,fun p v hp a h=>?_,?_⟩
  ·have x:=(nh l (j:=j) (by omega)).la p hp;rw [uS (by omega)]
   by_cases e:j=k
   ·subst e;exact ta _ _ (by rw [r]; have:=g p hp; omega) hp
   ·have d:=jN l (i:=j+1) (j:=k) (by omega) (by omega);rw [nc _ _ (fun h=>by have:=g p h; omega),tn (by omega)];exact ih.inn j (by omega) p hp
  ·rw [uS hp] at a
   by_cases d:p∈(pJ l k).la
   ·by_cases c:p<(tV (sJ l k).2 (bd (xJ l k) (sJ l k).1).2.S.length).length
    ·rw [ta _ _ c d] at a;exact ⟨k,by omega,(Option.some.inj a).symm,d⟩
    ·have:=g p d; omega
   ·rw [nc _ _ d] at a;rcases Nat.lt_or_ge p (sJ l k).2.length with c|c
    ·rw [tn c] at a;obtain ⟨j,o,e,t⟩:=ih.out p v hp a h;exact ⟨j,by omega,e,t⟩
    ·have:=By c a; omega
  ·generalize hA:lN (pJ l k).la (k:Int) (tV (sJ l k).2 (bd (xJ l k) (sJ l k).1).2.S.length)=A at b;have w:0<A.length:=by rw [←hA,iW,r]; omega
   rcases ih.zero with ⟨n,f⟩|⟨j,o,n,f,z3⟩
   ·rw [n] at b;have hd:A.getD 0 0=-1:=by rw [IP,b]; rfl
    cases hn:(pJ l k).nl
    ·left;refine ⟨by unfold lU; exact b,fun j o=>?_⟩
     by_cases e:j=k
     ·subst e; exact hn
     ·exact f j (by omega)
    ·right;refine ⟨k,by omega,?_,hn,f⟩;unfold lU;rw [hd];show (A.set 0 (k:Int))[0]?=_;rw [List.getElem?_set_self w]
   ·right;rw [n] at b;have hd:A.getD 0 0=(j:Int):=by rw [IP,b]; rfl
    refine ⟨j,by omega,?_,f,z3⟩;unfold lU;rw [hd];have:decide ((j:Int)<0)=false:=decide_eq_false (by omega);rw [this,Bool.and_false];exact b
theorem jT {l:List T_Regex} (hn:FitN (dg l)) {T:List Int} {s:Int}:s∈clo (dg l) T↔s∈T∧0≤s∧s<((dM 0 l dn).2.length:Int):=by
 rw [pK hn];constructor
 ·intro h;cases h with
  | base h1 h2 h3=>exact ⟨h1,h2,h3⟩
  | arc ha he _=>
   obtain ⟨p,q,_,_,_,rfl⟩:=jl.1 ha;cases he
 ·rintro ⟨h1,h2,h3⟩;exact .base h1 h2 h3
open Classical in
theorem wZ {l:List T_Regex} (hn:FitN (dg l)) {T:List Int} {b:Nat} {r:Nat} (m:∀s∈T,0≤s∧s<((dM 0 l dn).2.length:Int)) :
 (r:Int)∈fC (dg l) T b↔∃p:Nat,(p:Int)∈T∧(p,r)∈(dM 0 l dn).1.P∧tX (dM 0 l dn).1.S r b:=by
 have c:=jP l 0 dn oQ;have hal:=c.len;unfold fC;rw [jT hn];unfold AL;constructor
 ·rintro ⟨n,_,_⟩;obtain ⟨a,ha,e⟩:=Jt.1 n;obtain ⟨k,d⟩:=JB.1 ha;obtain ⟨p,q,_,_,hR,rfl⟩:=jl.1 k;obtain rfl:q=r:=by have e:((q:Nat):Int)=(r:Int):=e; omega
  simp only [AO,Bool.not_false,Bool.true_and,Bool.and_eq_true] at d;have j:=c.cl p q hR;have hp:=c.pos p q hR;refine ⟨p,((jT hn).1 (of_decide_eq_true d.1)).1,hR,_,IQ (show q - 1<(dM 0 l dn).1.S.length by omega),?_⟩;have f:=d.2;rw [IP,IQ (show q - 1<(dM 0 l dn).1.S.length by omega)] at f;exact f
 ·rintro ⟨p,hp,hR,v,g,i⟩;have j:=c.cl p r hR;have h:=m _ hp;refine ⟨Jt.2 ⟨AO (dM 0 l dn).1.S p r,JB.2 ⟨jl.2 ⟨p,r,by omega,by omega,hR,rfl⟩,?_⟩,rfl⟩,by omega,by omega⟩;simp only [AO,Bool.not_false,Bool.true_and,Bool.and_eq_true];refine ⟨decide_eq_true ((jT hn).2 ⟨hp,h⟩),?_⟩;rw [IP,g];exact i
theorem sm {l:List T_Regex} (hn:FitN (dg l)):∀(w:List Nat) (T:List Int) (q:Nat),(∀s∈T,0≤s∧s<((dM 0 l dn).2.length:Int))→
 ((q:Int)∈w.foldl (fC (dg l)) T↔∃p:Nat,(p:Int)∈T∧lX (tX (dM 0 l dn).1.S) (gu (dM 0 l dn).1.P) p w q)
 | [],T,q,_=>by
  simp only [List.foldl_nil,lX];exact ⟨fun h=>⟨q,h,rfl⟩,fun ⟨p,h,e⟩=>e ▸ h⟩
 | b::w,T,q,hT=>by
  rw [List.foldl_cons,sm hn w (fC (dg l) T b) q (fun s hs=>((jT hn).1 hs).2)];constructor
  ·rintro ⟨r,f,h⟩;obtain ⟨p,d,c,a⟩:=(wZ hn hT).1 f;exact ⟨p,d,r,c,a,h⟩
  ·rintro ⟨p,d,r,c,a,h⟩;exact ⟨r,(wZ hn hT).2 ⟨p,d,c,a⟩,h⟩
theorem ri (acc:List Int):∀(l:List Int) (o:Int),-1≤o→((l.foldl (gk acc) o=o∧∀s∈l,0≤acc.getD s.toNat 0→0≤o∧o≤acc.getD s.toNat 0)∨(0≤l.foldl (gk acc) o∧(∃s∈l,acc.getD s.toNat 0=l.foldl (gk acc) o)∧(0≤o→l.foldl (gk acc) o≤o)∧∀s∈l,0≤acc.getD s.toNat 0→l.foldl (gk acc) o≤acc.getD s.toNat 0))
 | [],o,_=>.inl ⟨rfl,by simp⟩
 | x::l,o,ho=>by
  rw [List.foldl_cons];have hb:(gk acc o x=o∧(0≤acc.getD x.toNat 0→0≤o∧o≤acc.getD x.toNat 0))∨(gk acc o x=acc.getD x.toNat 0∧0≤acc.getD x.toNat 0∧(0≤o→acc.getD x.toNat 0≤o)):=by
   unfold gk
   by_cases a:0≤acc.getD x.toNat 0
   ·by_cases d:o<0
    ·right;rw [decide_eq_true a,decide_eq_true d];exact ⟨rfl,a,fun h=>by omega⟩
    ·by_cases i:acc.getD x.toNat 0<o
     ·right;rw [decide_eq_true a,decide_eq_true i,Bool.or_true];exact ⟨rfl,a,fun h=>by omega⟩
     ·left;rw [decide_eq_false d,decide_eq_false i,Bool.or_false,Bool.and_false];exact ⟨rfl,fun h=>by omega⟩
   ·left;rw [decide_eq_false a,Bool.false_and];exact ⟨rfl,fun h=>absurd h a⟩
  rcases hb with ⟨e,a⟩|⟨e,a,d⟩
  ·rw [e];rcases ri acc l o ho with ⟨c,b⟩|⟨c,⟨s,hs,b⟩,f,g⟩
   ·refine .inl ⟨c,fun s hs h=>?_⟩;rcases Js.1 hs with rfl|hs
    ·exact a h
    ·exact b s hs h
   ·refine .inr ⟨c,⟨s,by simp [hs],b⟩,f,fun s hs h=>?_⟩;rcases Js.1 hs with rfl|hs
    ·have:=a h; have:=f this.1; omega
    ·exact g s hs h
  ·rw [e];rcases ri acc l (acc.getD x.toNat 0) (by omega) with ⟨c,b⟩|⟨c,⟨s,hs,b⟩,f,g⟩
   ·right;rw [c];refine ⟨a,⟨x,by simp,rfl⟩,d,fun s hs h=>?_⟩;rcases Js.1 hs with rfl|hs
    ·exact Int.le_refl _
    ·exact (b s hs h).2
   ·right;refine ⟨c,⟨s,by simp [hs],b⟩,fun h=>?_,fun s hs h=>?_⟩
    ·have:=f a; have:=d h; omega
    ·rcases Js.1 hs with rfl|hs
     ·exact f a
     ·exact g s hs h
def AB (l:List T_Regex) (w:List Nat) (r:Int):Prop:=
 (r=-1∧∀j,j<l.length→¬ L (xJ l j) w)∨∃j,j<l.length∧r=(j:Int)∧L (xJ l j) w∧∀i,i<j→¬ L (xJ l i) w
theorem qj (l:List T_Regex):sJ l l.length=dM 0 l dn:=by unfold sJ; rw [IV]
theorem nO {l:List T_Regex} {b:Nat} {w:List Nat} {j:Nat} (d:j<l.length) :
 L (xJ l j) (b::w)↔∃q:Nat,q∈(pJ l j).la∧lX (tX (dM 0 l dn).1.S) (gu (dM 0 l dn).1.P) 0 (b::w) q:=by
 have n:=nh l d;have m:=zf l d;rw [qj] at m;have t:∀p r,gu (dM 0 l dn).1.P p r↔∃j,j<l.length∧(gu (qJ l j) p r∨(p=0∧r∈(pJ l j).fi)):=by
  intro p r;have:=pL l l.length (Nat.le_refl _) p r;rw [qj] at this;exact this
 have x:∀ {p q:Nat},(lo l j<p∧p≤lo l (j+1))→(lX (tX (dM 0 l dn).1.S) (gu (dM 0 l dn).1.P) p w q↔lX (tX (dM 0 l dn).1.S) (gu (qJ l j)) p w q):=by
  intro p q hp;have:=zn l (M:=tX (dM 0 l dn).1.S) d hp (w:=w) (q:=q);rw [qj] at this;exact this
 rw [m.ac];constructor
 ·rintro ⟨p,hp,f,q,hq,h⟩;exact ⟨q,hq,p,(t 0 p).2 ⟨j,d,.inr ⟨rfl,hp⟩⟩,f,(x (n.fi p hp)).2 h⟩
 ·rintro ⟨q,hq,p,a,f,h⟩;obtain ⟨i,g,a⟩:=(t 0 p).1 a;have s:p∈(pJ l i).fi:=by
   rcases a with a|⟨_,a⟩
   ·have:=((nh l g).e _ _ a).1; omega
   ·exact a
  have k:=nh l g;have o:=k.fi p s;have v:=zn l (M:=tX (dM 0 l dn).1.S) g o (w:=w) (q:=q);rw [qj] at v;have u:=v.1 h;have y:lo l i<q∧q≤lo l (i+1):=kK (R:=fun p=>lo l i<p∧p≤lo l (i+1)) (fun p r _ h=>(k.e _ _ h).2) w o u;have z:=n.la q hq;obtain rfl:i=j:=by
   rcases Nat.lt_trichotomy i j with c|c|c
   ·have:=jN l (i:=i+1) (j:=j) c (by omega); omega
   ·exact c
   ·have:=jN l (i:=j+1) (j:=i) c (by omega); omega
  exact ⟨p,s,f,q,hq,u⟩
theorem xX {l:List T_Regex} (hn:FitN (dg l)) (s:Str):AB l (bU s) (Dg (dg l) s):=by
 have hacc:=CZ l l.length (Nat.le_refl _);rw [qj] at hacc;have k:=jP l 0 dn oQ;have hal:=k.len;have h0:∀x∈([0]:List Int),0≤x∧x<((dM 0 l dn).2.length:Int):=by intro x hx; rw [IY.1 hx]; omega
 have H:∀x,x∈clo (dg l) [0]↔x=0:=by
  intro x;rw [jT hn,IY];exact ⟨fun h=>h.1,fun h=>⟨h,h0 x (by simp [h])⟩⟩
 have W:∀x∈clo (dg l) [0],0≤x∧x<((dM 0 l dn).2.length:Int):=fun x hx=>((jT hn).1 hx).2
 have J:=sm hn (bU s) (clo (dg l) [0]);have t:∀q:Nat,(q:Int)∈um (dg l) [0] s↔lX (tX (dM 0 l dn).1.S) (gu (dM 0 l dn).1.P) 0 (bU s) q:=by
  intro q;show (q:Int)∈(bU s).foldl (fC (dg l)) (clo (dg l) [0])↔_;rw [J q W];constructor
  ·rintro ⟨p,hp,h⟩;obtain rfl:p=0:=by have:=(H _).1 hp; omega
   exact h
  ·exact fun h=>⟨0,(H _).2 rfl,h⟩
 have U:∀x∈um (dg l) [0] s,∃q:Nat,x=(q:Int):=by
  obtain ⟨T,v⟩:=Be (n:=dg l) (s.map UInt8.toNat) _ ⟨[0],rfl⟩;have v:um (dg l) [0] s=clo (dg l) T:=v;intro x hx;rw [v] at hx;obtain ⟨q,rfl⟩:=Jn ((jT hn).1 hx).2.1;exact ⟨q,rfl⟩
 -- numbers of the places that are reached
 have key:∀j,(∃q:Nat,(q:Int)∈um (dg l) [0] s∧(dM 0 l dn).2.getD q 0=(j:Nat))→j<l.length∧L (xJ l j) (bU s):=by
  rintro j ⟨q,hq,a⟩;have hp:=(t q).1 hq;cases hw:bU s with
  | nil=>
   rw [hw] at hp;have hp:0=q:=hp;subst hp;rcases hacc.zero with ⟨g,_⟩|⟨i,f,g,m,_⟩
   ·rw [IP,g] at a;have a:(-1:Int)=(j:Int):=a;omega
   ·rw [IP,g] at a;have a:(i:Int)=(j:Int):=a;obtain rfl:i=j:=by omega
    have K:=zf l f;exact ⟨f,K.nl.1 m⟩
  | cons b w=>
   rw [hw] at hp;obtain ⟨r,z,Y,y⟩:=hp;have N:0<q:=kK (M:=tX (dM 0 l dn).1.S) (E:=gu (dM 0 l dn).1.P) (R:=fun p=>0<p) (fun p r _ h=>k.pos p r h) w (k.pos 0 r z) y;have F:q<(dM 0 l dn).2.length:=by
    have:=kK (M:=tX (dM 0 l dn).1.S) (E:=gu (dM 0 l dn).1.P) (R:=fun p=>p<(dM 0 l dn).2.length) (fun p r _ h=>by have:=k.cl p r h; omega) w (by have:=k.cl 0 r z; omega) y;exact this
   have V:(dM 0 l dn).2[q]?=some (j:Int):=by
    rw [IP,IQ F] at a;rw [IQ F];exact congrArg some a
   obtain ⟨i,f,e,u⟩:=hacc.out q _ N V (by omega);obtain rfl:i=j:=by omega
   exact ⟨f,(nO f).2 ⟨q,u,r,z,Y,y⟩⟩
 have B:∀j,j<l.length→L (xJ l j) (bU s)→∃i,i≤j∧∃q:Nat,(q:Int)∈um (dg l) [0] s∧(dM 0 l dn).2.getD q 0=(i:Nat):=by
  intro j c d;cases hw:bU s with
  | nil=>
   rw [hw] at d;have D:=(zf l c).nl.2 d;rcases hacc.zero with ⟨_,m⟩|⟨i,f,g,m,z3⟩
   ·have:=m j c; rw [D] at this; cases this
   ·refine ⟨i,?_,0,(t 0).2 (by rw [hw]; rfl),by rw [IP,g]; rfl⟩;rcases Nat.lt_or_ge j i with h|h
    ·have:=z3 j h; rw [D] at this; cases this
    ·exact h
  | cons b w=>
   rw [hw] at d;obtain ⟨q,u,hp⟩:=(nO c).1 d;refine ⟨j,Nat.le_refl _,q,(t q).2 (by rw [hw]; exact hp),?_⟩;rw [IP,hacc.inn j c q u];rfl
 show AB l (bU s) ((um (dg l) [0] s).foldl (gk (dM 0 l dn).2) (-1));rcases ri (dM 0 l dn).2 (um (dg l) [0] s) (-1) (by omega) with ⟨A,o⟩|⟨A,⟨x,hx,o⟩,_,I⟩
 ·rw [A];refine .inl ⟨rfl,fun j c d=>?_⟩;obtain ⟨i,_,q,hq,e⟩:=B j c d;have:=o _ hq (by rw [Jl,e]; omega);omega
 ·obtain ⟨q,rfl⟩:=U x hx;obtain ⟨j,G⟩:=Jn A;rw [Jl] at o;obtain ⟨c,d⟩:=key j ⟨q,hx,by rw [o]; exact G⟩;rw [G] at I ⊢;refine .inr ⟨j,c,rfl,d,fun i f X=>?_⟩;obtain ⟨i',a3,q',Q,e⟩:=B i (by omega) X;have:=I _ Q (by rw [Jl,e]; omega);rw [Jl,e] at this;omega
def dT {α β:Type} (A:Option α) (B:Option β) (Q:α→β→Prop):Prop:=∃a b,A=some a∧B=some b∧Q a b
section
variable {α β α' β' σ τ:Type} {P:α→β→Prop} {Q:α'→β'→Prop}
theorem dT.pure {a:α'} {b:β'} (h:Q a b):dT (some a) (some b) Q:=⟨a,b,rfl,rfl,h⟩
theorem dT.bb {A:Option α} {B:Option β} {f:α→Option α'} {g:β→Option β'} (h:dT A B P) (k:∀a b,P a b→dT (f a) (g b) Q):dT (A.bind f) (B.bind g) Q:=by
 obtain ⟨a,b,rfl,rfl,hp⟩:=h;exact k a b hp
theorem dT.l {A:Option α} {B:Option β'} {f:α→Option α'} {a:α} (h:A=some a) (k:dT (f a) B Q):dT (A.bind f) B Q:=by subst h; exact k
theorem dT.r {A:Option α'} {B:Option β} {g:β→Option β'} {b:β} (h:B=some b) (k:dT A (g b) Q):dT A (B.bind g) Q:=by subst h; exact k
theorem dT.sl {ρ:Type} {R:ρ→β'→Prop} {A:Option (cQ σ ρ)} {B:Option β'} {f:σ→Option ρ} {a:σ} (h:A=some (.next a)) (k:dT (f a) B R):dT (bp A f) B R:=by subst h; exact k
theorem dT.er {A:Option α'} {B B':Option β'} (h:B=B') (k:dT A B' Q):dT A B Q:=h ▸ k
theorem dT.sb {ρ:Type} {P:cQ σ ρ→β→Prop} {R:ρ→β'→Prop} {A:Option (cQ σ ρ)} {B:Option β} {f:σ→Option ρ} {g:β→Option β'} (h:dT A B P) (kn:∀a b,P (.next a) b→dT (f a) (g b) R)
 (ks:∀x b,P (.stop x) b→dT (some x) (g b) R):dT (bp A f) (B.bind g) R:=by
 obtain ⟨a,b,rfl,rfl,hp⟩:=h;cases a with
 | next a=>exact kn a b hp
 | stop x=>exact ks x b hp
theorem dT.on_ret {γ:Type} {x:γ} {k:γ→Option α'} {pp:Int→Option α'} {B:Option β'} (h:dT (k x) B Q):dT ((Rt.ret x).on k pp) B Q:=h
theorem dT.on_pan {γ:Type} {x:Int} {k:γ→Option α'} {pp:Int→Option α'} {B:Option β'} (h:dT (pp x) B Q):dT ((Rt.pan x:Rt γ).on k pp) B Q:=h
theorem ig {α:Type} {b:Bool} {x y r:α} (h:b=true) (k:x=r):(bif b then x else y)=r:=by subst h; exact k
theorem ei {α:Type} {b:Bool} {x y r:α} (h:b=false) (k:y=r):(bif b then x else y)=r:=by subst h; exact k
theorem dT.loop {ρ ρ':Type} {Q:ρ→ρ'→Prop} {bA:σ→Option (cQ σ ρ)} {bB:τ→Option (cQ τ ρ')} (R:σ→τ→Nat→Prop)
    (h:∀m a b,R a b m→(∃i c m',bA a=some (.next i)∧bB b=some (.next c)∧m'<m∧R i c m')∨
      (∃x,bA a=some (.stop x)∧((∃y,bB b=some (.stop y)∧Q x y)∨∃c y,bB b=some (.next c)∧bB c=some (.stop y)∧Q x y))) :
    ∀m e d a b,m<e→m+1<d→R a b m→dT (ba bA e a) (ba bB d b) Q:=by
  intro m;induction m using Nat.strongRecOn with
  | _ m ih=>
    intro e d a b o hB hR;obtain ⟨e,rfl⟩:∃k,e=k+1:=⟨e - 1,by omega⟩;obtain ⟨d,rfl⟩:∃k,d=k+2:=⟨d - 2,by omega⟩;rcases h m a b hR with ⟨i,c,m',g,f,j,l⟩|⟨x,g,⟨y,f,hq⟩|⟨c,y,f,n,hq⟩⟩
    · have:=ih m' j e (d+1) i c (by omega) (by omega) l
      simp only [ba,g,f] at this ⊢;exact this
    · exact ⟨x,y,by simp only [ba,g],by simp only [ba,f],hq⟩
    · exact ⟨x,y,by simp only [ba,g],by simp only [ba,f,n],hq⟩
end
def Gd (br:Bool):Str:=bif br then [93,92,45] else [40,41,91,93,124,42,43,63,46,92]
def pl (br:Bool) (c:Nat):Bool:=decide (32≤c∧c≤126) && !((Gd br).map UInt8.toNat).contains c
theorem Bx:∀br,∀c:Nat,c<256→(bif decide ((c:Int)<32) then some true else bif decide (126<(c:Int)) then some true else (M.i7 (Gd br) (c:Int)).bind fun r=>some (decide (0≤r)))=some (!pl br c):=by decide +kernel
theorem Dp:∀br,∀c:Nat,c<256→M.k0 (c:Int) br=some (pl br c):=by decide +kernel
theorem Dq:∀br,M.k0 (-1) br=some false:=by decide +kernel
def es (c:Nat):Bool:=decide (32≤c∧c≤126) && !(decide (48≤c∧c≤57) || decide (97≤c∧c≤122) || decide (65≤c∧c≤90))
theorem BP:∀c:Nat,c<256→(bif decide ((c:Int)<32) then some true else bif decide (126<(c:Int)) then some true else (M.g2 (c:Int)).bind fun r=>some r)=some (!es c):=by decide +kernel
theorem zW:∀c:Nat,c<256→(bif decide (32≤(c:Int)) then bif decide ((c:Int)≤126) then (M.i8 (c:Int)).bind fun r=>some (!r) else some false else some false)=some (es c):=by decide +kernel
theorem Dv:(bif decide ((32:Int)≤-1) then bif decide ((-1:Int)≤126) then (M.i8 (-1)).bind fun r=>some (!r) else some false else some false)=some false:=by decide +kernel
section
variable {s:Str} (hs:s.length≤1000000)
theorem gw {p:Nat} {b:Bool} (h:p<s.length):M.a0 ⟨s,p,b⟩=some ((s[p]).toNat:Int):=by
 unfold M.a0;simp only [eu (show ¬ (s.length:Int)≤(p:Int) by omega),cond_false,dR h,IS];rw [fg (by omega) (by have:=(s[p]).toNat_lt; omega)]
theorem kR {b:Bool}:M.a0 ⟨s,(s.length:Nat),b⟩=some (-1):=by
 unfold M.a0;simp only [dL (show (s.length:Int)≤(s.length:Int) by omega),cond_true]
theorem xk {p:Nat} (h:p<s.length):M.a2 ⟨s,p⟩=some ((s[p]).toNat:Int):=by
 unfold M.a2;simp only [dL (show (p:Int)<(s.length:Int) by omega),cond_true,dR h,IS]
theorem zm:M.a2 ⟨s,(s.length:Nat)⟩=some 0:=by
 unfold M.a2;simp only [eu (show ¬ (s.length:Int)<(s.length:Int) by omega),cond_false]
def Hv (s:Str) (p:Nat) (a:Rt (Int×aE)) (b:Int×aG):Prop:=
 (∃c q:Nat,p+1≤q∧q≤s.length∧c<256∧a=.ret ((c:Int),⟨s,q⟩)∧b=((c:Int),⟨s,q,false⟩))∨(∃q:Nat,q≤s.length∧a=.pan q∧b=(0,⟨s,q,true⟩))
include hs
theorem wo {p:Nat} (hp:p≤s.length):∃a,M.e2 ⟨s,p⟩=some a∧((∃c:Nat,p<s.length∧c<256∧a=.ret ((c:Int),⟨s,(p+1:Nat)⟩)∧
 (∃h:p<s.length,((s[p]).toNat=110∧c=10)∨((s[p]).toNat≠110∧(s[p]).toNat=116∧c=9)∨((s[p]).toNat≠110∧(s[p]).toNat≠116∧es (s[p]).toNat=true∧c=(s[p]).toNat)))∨
 (a=.pan p∧(p=s.length∨∃h:p<s.length,(s[p]).toNat≠110∧(s[p]).toNat≠116∧es (s[p]).toNat=false))):=by
 unfold M.e2;rcases Nat.lt_or_eq_of_le hp with h|h
 ·have e:(s[p]).toNat<256:=(s[p]).toNat_lt;have g:(((p:Nat):Int) == (s.length:Int))=false:=cq (by omega);simp only [g,cond_false,bp,dR h,IS]
  by_cases b:(s[p]).toNat=110
  ·simp only [rk (show ((s[p]).toNat:Int)=110 by omega),cond_true,aK (show p<9223372036854775807 by omega),IS];exact ⟨_,rfl,.inl ⟨10,h,by omega,rfl,h,.inl ⟨b,rfl⟩⟩⟩
  ·by_cases d:(s[p]).toNat=116
   ·simp only [cq (show ((s[p]).toNat:Int)≠110 by omega),rk (show ((s[p]).toNat:Int)=116 by omega),cond_false,cond_true,aK (show p<9223372036854775807 by omega),IS];exact ⟨_,rfl,.inl ⟨9,h,by omega,rfl,h,.inr (.inl ⟨b,d,rfl⟩)⟩⟩
   ·simp only [cq (show ((s[p]).toNat:Int)≠110 by omega),cq (show ((s[p]).toNat:Int)≠116 by omega),cond_false,BP _ e,IS];cases f:es (s[p]).toNat
    ·simp only [Bool.not_false,cond_true,M.a3,IS,Rt.on];exact ⟨_,rfl,.inr ⟨rfl,.inr ⟨h,b,d,f⟩⟩⟩
    ·simp only [Bool.not_true,cond_false,aK (show p<9223372036854775807 by omega),IS];exact ⟨_,rfl,.inl ⟨_,h,e,rfl,h,.inr (.inr ⟨b,d,f,rfl⟩)⟩⟩
 ·subst h;simp only [beq_self_eq_true,cond_true,M.a3,IS,Rt.on,bp];exact ⟨_,rfl,.inr ⟨rfl,.inl trivial⟩⟩
theorem rf {p:Nat} (hp:p≤s.length) (b:Bool):dT (M.c0 ⟨s,p⟩ (Gd b)) (M.b3 ⟨s,p,false⟩ b) (Hv s p):=by
 unfold M.c0 M.b3;rcases Nat.lt_or_eq_of_le hp with h|h
 ·have e:(s[p]).toNat<256:=(s[p]).toNat_lt;have m:(((p:Nat):Int) == (s.length:Int))=false:=cq (by omega);simp only [m,cond_false,bp,dR h,IS,gw h]
  by_cases r:(s[p]).toNat=92
  ·simp only [rk (show ((s[p]).toNat:Int)=92 by omega),cond_true,aK (show p<9223372036854775807 by omega),IS];obtain ⟨a,ha,l⟩:=wo hs (p:=p+1) h;simp only [ha,IS];rcases l with ⟨c,n,o,rfl,hh,k⟩|⟨rfl,hh⟩
   ·have d:(s[p+1]).toNat<256:=(s[p+1]).toNat_lt;have i:bZ .i64 (((p+1:Nat):Int)+1)=some ((p+1+1:Nat):Int):=aK (by omega);simp only [Rt.on,gw hh,IS];rcases k with ⟨g,rfl⟩|⟨g,j,rfl⟩|⟨g,j,f,rfl⟩
    ·simp only [rk (show ((s[p+1]).toNat:Int)=110 by omega),cond_true,i,IS];exact .pure (.inl ⟨10,p+1+1,by omega,hh,by omega,rfl,rfl⟩)
    ·simp only [cq (show ((s[p+1]).toNat:Int)≠110 by omega),rk (show ((s[p+1]).toNat:Int)=116 by omega),cond_false,cond_true,i,IS];exact .pure (.inl ⟨9,p+1+1,by omega,hh,by omega,rfl,rfl⟩)
    ·simp only [cq (show ((s[p+1]).toNat:Int)≠110 by omega),cq (show ((s[p+1]).toNat:Int)≠116 by omega),cond_false,zW _ d,f,IS,cond_true,i];exact .pure (.inl ⟨_,p+1+1,by omega,hh,d,rfl,rfl⟩)
   ·simp only [Rt.on];rcases hh with hh|⟨hh,g,j,f⟩
    ·rw [hh,kR];simp only [IS,show ((-1:Int) == 110)=false from rfl,show ((-1:Int) == 116)=false from rfl,cond_false,Dv];exact .pure (.inr ⟨s.length,Nat.le_refl _,by rw [←hh],rfl⟩)
    ·have d:(s[p+1]).toNat<256:=(s[p+1]).toNat_lt;simp only [gw hh,IS,cq (show ((s[p+1]).toNat:Int)≠110 by omega),cq (show ((s[p+1]).toNat:Int)≠116 by omega),cond_false,zW _ d,f];exact .pure (.inr ⟨p+1,h,rfl,rfl⟩)
  ·simp only [cq (show ((s[p]).toNat:Int)≠92 by omega),cond_false,Bx b _ e,Dp b _ e,IS];cases q:pl b (s[p]).toNat
   ·simp only [Bool.not_false,cond_true,M.a3,IS,Rt.on];exact .pure (.inr ⟨p,hp,rfl,rfl⟩)
   ·simp only [Bool.not_true,cond_false,aK (show p<9223372036854775807 by omega),IS];exact .pure (.inl ⟨_,p+1,by omega,h,e,rfl,rfl⟩)
 ·subst h;simp only [beq_self_eq_true,cond_true,M.a3,IS,Rt.on,bp,kR,show ((-1:Int) == 92)=false from rfl,cond_false,Dq,Bool.not_false];exact .pure (.inr ⟨s.length,Nat.le_refl _,rfl,rfl⟩)
end
theorem mA {v:aV 4} (a:W4 v) {c:Nat} (o:c<256):M.g3 v (c:Int)=some (fj v c):=by
 have d:2 ^ (c % 64)<18446744073709551616:=Nat.pow_lt_pow_right (n:=64) (by omega) (Nat.mod_lt _ (by omega));have m:=kI (k:=.i64) (c:=c) (fg (by omega) (by omega));have l:=gY a (i:=c / 64) (by omega);have j:lO (c:Int) 64=some ((c % 64:Nat):Int):=lA (b:=64) (by omega);have h:=qf (t:=c % 64) (by omega);have g:=ik (gW a (c / 64)) d;have f:=ko (v:=v) (i:=c / 64) (x:=wd v (c / 64) ||| 2 ^ (c % 64)) (by omega);have e:IntKind.u64.wrap ((c % 64:Nat):Int)=((c % 64:Nat):Int):=iL (by omega) (by omega);unfold M.g3 fj;simp only [m,l,j,e,h,g,f,IS]
theorem ya {v:aV 4} (hv:W4 v):M.m3 v=some (mv v):=iK hv
theorem pT (l:List Nat) {v:aV 4} (hv:W4 v):W4 (l.foldl fj v):=uR l v hv
theorem uz {lo hi:Nat} (h:hi<256):∀b∈eJ lo hi,b<256:=by
 intro b hb;simp only [eJ,Jt,Ju] at hb;obtain ⟨i,hi,rfl⟩:=hb;omega
theorem ui {v:aV 4} (hv:W4 v) {lo hi:Nat} (h:hi<256):mu v (rT (eJ lo hi))=(eJ lo hi).foldl fj v:=by
 refine Bj (As hv (lk _)) (pT _ hv) fun b hb=>?_
 rw [yq hb,xp (uz h),sG _ _ (uz h)]
theorem qR {σ ρ:Type} {body:σ→Option (cQ σ ρ)} {a:σ} {r:ρ} (k:Nat) (h:body a=some (.stop r)):ba body (k+1) a=some r:=by simp only [ba,h]
theorem wa {σ ρ:Type} {body:σ→Option (cQ σ ρ)} {a b:σ} (k:Nat) (h:body a=some (.next b)):ba body (k+1) a=ba body k b:=by simp only [ba,h]
theorem sF:aZ=18446744073709551615+1:=by unfold aZ; rfl
theorem jm {σ ρ:Type} {body:σ→Option (cQ σ ρ)} {a:σ} {r:ρ} (h:body a=some (.stop r)):ba body aZ a=some r:=by rw [sF]; exact qR _ h
theorem sy {σ ρ:Type} {body:σ→Option (cQ σ ρ)} {a b:σ} (h:body a=some (.next b)):ba body aZ a=ba body 18446744073709551615 b:=by rw [sF]; exact wa _ h
theorem sg {ρ:Type} {set:aV 4} (b:W4 set) {lo a:Nat} (hl:lo≤a) (hh:a<256) {X:aV 4→ρ} {body:aV 4×Int→Option (cQ (aV 4×Int) ρ)}
 (hb:∀v x,body (v,x)=(some (decide (x≤(a:Int)))).bind fun c=>bif c then (M.g3 v x).bind fun r=>(bZ .i64 (x+1)).bind fun t=>some (.next (r,t)) else some (.stop (X v))) :
 ba body aZ (set,(lo:Int))=some (X ((eJ lo a).foldl fj set)):=by
 have key:∀i,i≤a - lo+1→W4 (((List.range i).map (lo+·)).foldl fj set):=fun i _=>pT _ b
 refine fx (body:=body) (fun i=>(((List.range i).map (lo+·)).foldl fj set,((lo+i:Nat):Int))) (a+1 - lo) (fun i d=>?_) ?_ aZ (ia (by omega))
 ·have e:bZ .i64 (((lo+i:Nat):Int)+1)=some ((lo+(i+1):Nat):Int):=by rw [dX (by omega) (by omega)]; rfl
  rw [hb];simp only [dL (show ((lo+i:Nat):Int)≤(a:Int) by omega),IS,cond_true,mA (key i (by omega)) (show lo+i<256 by omega),e];rw [JD,Jh,List.foldl_append];rfl
 ·rw [hb];simp only [eu (show ¬ ((lo+(a+1 - lo):Nat):Int)≤(a:Int) by omega),IS,cond_false];rfl
def xg (s:Str) (p:Int) (set:aV 4):Option (cQ (Str×Int×Bool×(aV 4)×Bool) (Str×Int×Bool×(aV 4))):=
    (M.b3 (aG.mk s p false) true).bind fun a=>
    (
     (
      bif (!a.2.bad) then
       (M.a0 a.2).bind fun o=>
       some (o == 45)
      else
       some false).bind fun (i:Bool)=>
     bif i then
      (bZ .i64 (a.2.atv+1)).bind fun f=>
      (M.b3 (aG.mk a.2.s f a.2.bad) true).bind fun b=>
      (
       bif (!b.2.bad) then
        some (decide (b.1<a.1))
       else
        some false).bind fun (h:Bool)=>
      bif h then
       some (b.2.s,f,true,b.1)
      else
       some (b.2.s,b.2.atv,b.2.bad,b.1)
     else
      some (a.2.s,a.2.atv,a.2.bad,a.1)).bind fun (k,l,e,j)=>
    ba (fun (m:(aV 4)×Int)=>match m with
    | (d,c)=>
     (
      bif (!e) then
       some (decide (c≤j))
      else
       some false).bind fun (g:Bool)=>
     bif g then
      (M.g3 d c).bind fun n=>
      (bZ .i64 (c+1)).bind fun t46=>
      some (.next (n,t46))
     else
      some (.stop (.next (k,l,e,d,false)))) aZ (set,a.1)
section
variable {s:Str} (hs:s.length≤1000000)
theorem gG {q:Nat} (hq:q≤s.length):∃x y,M.a2 ⟨s,q⟩=some x∧M.a0 ⟨s,q,false⟩=some y∧(∀v:Int,v≠0→v≠-1→(x == v)=(y == v))∧(∀v:Int,v≠0→x=v→q<s.length):=by
 rcases Nat.lt_or_eq_of_le hq with h|h
 ·exact ⟨_,_,xk h,gw h,fun _ _ _=>rfl,fun _ _ _=>h⟩
 ·subst h;exact ⟨_,_,zm,kR,fun v b a=>by rw [cq (fun e=>b e.symm),cq (fun e=>a e.symm)],fun v b a=>absurd a.symm b⟩
def Hu (s:Str) (p:Nat) (set:aV 4) (a:Rt ((aV 4)×aE)) (b:cQ (Str×Int×Bool×(aV 4)×Bool) (Str×Int×Bool×(aV 4))):Prop:=
 (∃lo hi q:Nat,p+1≤q∧q≤s.length∧lo≤hi∧hi<256∧a=.ret (rT (eJ lo hi),⟨s,q⟩)∧b=.next (s,q,false,(eJ lo hi).foldl fj set,false))∨
 (∃q:Nat,q≤s.length∧a=.pan q∧b=.next (s,q,true,set,false))
include hs
theorem uT {p:Nat} (hp:p≤s.length) {set:aV 4} (g:W4 set):dT (M.c4 ⟨s,p⟩) (xg s p set) (Hu s p set):=by
 unfold M.c4 xg;have F:=rf hs hp true;refine dT.bb F ?_;rintro a b (⟨c,q,o,k,e,rfl,rfl⟩|⟨q,hq,rfl,rfl⟩)
 ·simp only [Rt.on];obtain ⟨x,y,hx,hy,m,t⟩:=gG k;have B:=m 45 (by decide) (by decide);simp only [Bool.not_false,cond_true,hx,hy,IS];rw [←B];cases h:(x == (45:Int))
  ·refine dT.sl rfl (dT.l (nR e e) (dT.r (b:=(s,(q:Int),false,(c:Int))) rfl ?_));refine ⟨_,_,rfl,sg g (Nat.le_refl c) e (X:=fun v=>.next (s,(q:Int),false,v,false)) (fun v x=>rfl),.inl ⟨c,c,q,o,k,Nat.le_refl _,e,rfl,rfl⟩⟩
  ·have j:=t 45 (by decide) (dA h);simp only [cond_true,aK (show q<9223372036854775807 by omega),IS];have D:=rf hs (p:=q+1) j true;obtain ⟨G,I,A,w,u⟩:=D;have z:M.c0 ⟨s,((q+1:Nat):Int)⟩ [93,92,45]=some G:=A;simp only [z,w,IS];rcases u with ⟨c2,d,i,n,f,rfl,rfl⟩|⟨d,i,rfl,rfl⟩
   ·simp only [Rt.on,Bool.not_false,cond_true,IS]
    by_cases H:c2<c
    ·simp only [dL (show (c2:Int)<(c:Int) by omega),cond_true,M.a3,IS,Rt.on,bp];exact ⟨_,_,rfl,jm rfl,.inr ⟨q+1,j,rfl,rfl⟩⟩
    ·rw [show decide ((c2:Int)<(c:Int))=false from eu (by omega)];refine dT.sl rfl (dT.l (nR e f) (dT.r (b:=(s,(d:Int),false,(c2:Int))) rfl ?_));exact ⟨_,_,rfl,sg g (by omega:c≤c2) f (X:=fun v=>.next (s,(d:Int),false,v,false)) (fun v x=>rfl),.inl ⟨c,c2,d,by omega,n,by omega,f,rfl,rfl⟩⟩
   ·simp only [Rt.on,Bool.not_true,cond_false,IS,bp];exact ⟨_,_,rfl,jm rfl,.inr ⟨d,i,rfl,rfl⟩⟩
 ·simp only [Rt.on,Bool.not_true,cond_false,IS];exact ⟨_,_,rfl,jm rfl,.inr ⟨q,hq,rfl,rfl⟩⟩
def Hw (s:Str) (p:Nat) (a:Rt ((aV 4)×aE)) (b:T_Regex×aG):Prop:=
 (∃(set:aV 4) (q:Nat),p+1≤q∧q≤s.length∧W4 set∧a=.ret (set,⟨s,q⟩)∧b=(⟨3,set,[]⟩,⟨s,q,false⟩))∨(∃(q:Nat) (y:T_Regex),q≤s.length∧a=.pan q∧b=(y,⟨s,q,true⟩))
theorem vc {p:Nat} (hp:p<s.length) (R:(s[p]).toNat=91):dT (M.d8 ⟨s,p⟩) (M.d3 ⟨s,(p+1:Nat),false⟩) (Hw s p):=by
  unfold M.d8 M.d3;have J:M.a4 ⟨s,p⟩ 91=some (.ret ⟨s,(p+1:Nat)⟩):=by
    unfold M.a4;simp only [cq (show (p:Int)≠(s.length:Int) by omega),cond_false,dR hp,IS,sR (show ((s[p]).toNat:Int)=91 by omega),bp,aK (show p<9223372036854775807 by omega)]
  obtain ⟨x,y,hx,hy,n,u⟩:=gG (s:=s) (q:=p+1) hp;have K:=n 94 (by decide) (by decide);simp only [J,IS,Rt.on,hx,hy];rw [←K]
  -- the place behind the sign
  obtain ⟨g,H,Q,hsel⟩:∃g:Nat,g≤s.length∧p+1≤g∧(bif x == (94:Int) then (bZ .i64 (((p+1:Nat):Int)+1)).bind fun D=>some D else some ((p+1:Nat):Int))=some (g:Int):=by
    cases h:(x == (94:Int))
    · exact ⟨p+1,hp,Nat.le_refl _,rfl⟩
    · have:=u 94 (by decide) (dA h)
      exact ⟨p+2,by omega,by omega,by rw [cond_true,aK (by omega)]; rfl⟩
  generalize hng:(x == (94:Int))=ng at hsel ⊢;refine dT.l hsel (dT.r hsel ?_);obtain ⟨N,L,k,f,w⟩:=uT hs H jV;refine dT.l k ?_;rcases w with ⟨lo,v,q,F,o,I,z,rfl,rfl⟩|⟨q,hq,rfl,rfl⟩
  · refine dT.sb (P:=fun (a:cQ (Str×Int×(aV 4)) (Rt ((aV 4)×aE))) (b:Str×Int×Bool×(aV 4))=>
        (∃(q:Nat) (set:aV 4),q<s.length∧p+1≤q∧W4 set∧a=.next (s,(q:Int),set)∧b=(s,(q:Int),false,set))∨(∃(q:Nat) (set:aV 4),q≤s.length∧a=.stop (.pan q)∧b=(s,(q:Int),true,set)))
      (dT.er (sy f) (dT.loop (fun (a:Str×Int×(aV 4)) (b:Str×Int×Bool×(aV 4)×Bool) m=>∃(q:Nat) (set:aV 4),q≤s.length∧p+1≤q∧W4 set∧a=(s,(q:Int),set)∧b=(s,(q:Int),false,set,false)∧m=s.length - q) ?_
        (s.length - q) _ _ _ _ (by unfold aZ; omega) (by omega) ⟨q,(eJ lo v).foldl fj (aV.zero 4),o,by omega,pT _ jV,rfl,rfl,rfl⟩)) ?_ ?_
    · rintro m _ _ ⟨q,set,hq,t,c,rfl,rfl,rfl⟩
      obtain ⟨x,y,hx,hy,n,u⟩:=gG hq;have B:=n 93 (by decide) (by decide);cases h:(x == (93:Int))
      · have f:(x != (93:Int))=true:=by rw [bne,h]; rfl
        have j:(y != (93:Int))=true:=by rw [bne,←B,h]; rfl
        obtain ⟨N,L,k,A,w⟩:=uT hs hq c;rcases w with ⟨lo,v,d,F,o,I,z,rfl,rfl⟩|⟨d,G,rfl,rfl⟩
        · refine .inl ⟨(s,(d:Int),mu set (rT (eJ lo v))),_,s.length - d,aR hx (ig f (aR k (aR (Av c (lk _)) rfl))),aR (x:=true) (aR hy (congrArg some j)) A,by omega,?_⟩
          exact ⟨d,_,o,by omega,pT _ c,by rw [ui c z],rfl,rfl⟩
        · refine .inr ⟨.stop (.pan d),aR hx (ig f (aR k rfl)),.inr ⟨(s,(d:Int),true,set,false),(s,(d:Int),true,set),aR (x:=true) (aR hy (congrArg some j)) A,rfl,?_⟩⟩
          exact .inr ⟨d,set,G,rfl,rfl⟩
      · have f:(x != (93:Int))=false:=by rw [bne,h]; rfl
        have j:(y != (93:Int))=false:=by rw [bne,←B,h]; rfl
        refine .inr ⟨.next (s,(q:Int),set),aR hx (ei f rfl),.inl ⟨(s,(q:Int),false,set),aR (x:=false) (aR hy (congrArg some j)) rfl,?_⟩⟩;exact .inl ⟨q,set,u 93 (by decide) (dA h),t,c,rfl,rfl⟩
    · rintro a b (⟨q,set,hq,t,c,e,rfl⟩|⟨q,set,hq,e,rfl⟩)
      · cases e
        refine dT.l (aK (i:=q) (by omega)) (dT.r (aK (i:=q) (by omega)) ?_);cases ng
        · exact .pure (.inl ⟨set,q+1,by omega,hq,c,rfl,rfl⟩)
        · exact dT.l (iK c) (dT.r (b:=mv set) (aR (ya c) rfl) (.pure (.inl ⟨mv set,q+1,by omega,hq,vm c,rfl,rfl⟩)))
      · cases e
    · rintro x b (⟨q,set,hq,t,c,e,rfl⟩|⟨q,set,hq,e,rfl⟩)
      · cases e
      · cases e
        exact .pure (.inr ⟨q,_,hq,rfl,rfl⟩)
  · exact dT.r (b:=(s,(q:Int),true,aV.zero 4)) ((sy f).trans (qR 18446744073709551614 rfl)) (.pure (.inr ⟨q,_,hq,rfl,rfl⟩))
end
theorem sC {k:Int} (h:0≤k∧k≤10):AD .i64 k:=⟨by show (-9223372036854775808:Int)≤k; omega,by show k≤(9223372036854775807:Int); omega⟩
theorem yw:∀x∈(aV.zero 4).1,AD .u64 x:=fun x hx=>by simp [aV.zero] at hx; subst hx; exact ⟨by decide,by decide⟩
theorem fG {k:Int} {l:List T_Regex} (hk:0≤k∧k≤10) (hl:l.length≤2000000) (h:∀y∈l,bQ y):bQ ⟨k,aV.zero 4,l⟩:=
 .mk _ (sC hk) yw h (Nat.le_trans hl (by decide))
theorem nw {v:aV 4} (hv:W4 v):bQ ⟨3,v,[]⟩:=
 .mk _ (sC (k:=3) (by omega)) (fun x hx=>by have:=hv x hx; exact ⟨by show (0:Int)≤x; omega,by show x≤(18446744073709551615:Int); omega⟩) (fun _ h=>by cases h) (by show 0≤maxLen; omega)
theorem uN {l:List T_Regex} {h:Nat} (hh:∀y∈l,height y≤h):ce l≤h:=by
 induction l with
 | nil=>simp [ce]
 | cons y l ih=>
  have:=hh y (by simp);have:=ih fun z hz=>hh z (by simp [hz])
  simp only [ce]; omega
def Bp (x:T_Regex) (c:Nat):Prop:=parts x≤c*2 ^ height x
def Bl (l:List T_Regex) (c:Nat):Prop:=bF l≤c*2 ^ ce l
theorem Bp.more {x:T_Regex} {c d:Nat} (h:Bp x c) (hd:c≤d):Bp x d:=Nat.le_trans h (Jj _ hd)
theorem Bl.more {l:List T_Regex} {c d:Nat} (h:Bl l c) (hd:c≤d):Bl l d:=Nat.le_trans h (Jj _ hd)
theorem Bl.nil (c:Nat):Bl [] c:=Nat.zero_le _
theorem qH (k:Nat):1≤2 ^ k:=Nat.one_le_two_pow
theorem Bl.snoc {l:List T_Regex} {x:T_Regex} {c d:Nat} (h:Bl l c) (hx:Bp x d):Bl (l++[x]) (c+d):=by
 unfold Bl;rw [iH,kW];simp only [bF,ce,Nat.add_zero,Nat.max_zero];rw [Nat.add_mul];exact Nat.add_le_add (Nat.le_trans h (Jk _ (Nat.pow_le_pow_right (by omega) (by omega)))) (Nat.le_trans hx (Jk _ (Nat.pow_le_pow_right (by omega) (by omega))))
theorem Bl.one {x:T_Regex} {c:Nat} (hx:Bp x c):Bl [x] c:=by
 unfold Bl;simp only [bF,ce,Nat.add_zero,Nat.max_zero];exact hx
theorem Bl.node {l:List T_Regex} {c:Nat} (h:Bl l c) (hc:1≤c) (k:Int) (s:aV 4):Bp ⟨k,s,l⟩ c:=by
 unfold Bp;simp only [parts,height];have h1:=qH (ce l);have h2:1≤c*2 ^ ce l:=Nat.le_trans hc (Nat.le_mul_of_pos_right _ h1);have h3:c*2 ^ (ce l+1)=c*2 ^ ce l+c*2 ^ ce l:=by rw [Nat.pow_succ,←Nat.mul_assoc,Nat.mul_two]
 have h4:bF l≤c*2 ^ ce l:=h;omega
theorem Bl.of1 {y:T_Regex} {c:Nat} (h:Bl [y] c):Bp y c:=by
 unfold Bl at h;unfold Bp;simpa only [bF,ce,Nat.add_zero,Nat.max_zero] using h
theorem Bp.leaf (k:Int) (s:aV 4) {c:Nat} (hc:1≤c):Bp ⟨k,s,[]⟩ c:=Bl.node (Bl.nil c) hc k s
theorem Bp.opt {z:T_Regex} {c:Nat} (h:Bp z c) (hc:1≤c) (k:Int) (s s':aV 4) (k':Int):Bp ⟨k,s,[z,⟨k',s',[]⟩]⟩ (c+1):=by
 have:=(Bl.one h).snoc (Bp.leaf k' s' (c:=1) (by omega));exact this.node (by omega) k s
theorem Bp.more1 {z:T_Regex} {c:Nat} (h:Bp z c) (hc:1≤c) (k k':Int) (s s':aV 4):Bp ⟨k,s,[z,⟨k',s',[z]⟩]⟩ c:=by
 unfold Bp at h ⊢;simp only [parts,bF,height,ce,Nat.add_zero,Nat.max_zero];rw [show max (height z) (height z+1)+1=height z+2 by omega,Nat.pow_add,show 2 ^ 2=4 from rfl,←Nat.mul_assoc];have:=Nat.le_trans hc (Nat.le_mul_of_pos_right c (qH (height z)));omega
def Ax (s:Str) (p k d:Nat) (a:Rt (T_Regex×aE)) (b:T_Regex×aG):Prop:=
 (∃(x:T_Regex) (q:Nat),p+d≤q∧q≤s.length∧bQ x∧(height x≤3*(q - p)+k∧Bp x (q - p+1 - d))∧a=.ret (x,⟨s,q⟩)∧b=(x,⟨s,q,false⟩))∨(∃(q:Nat) (y:T_Regex),q≤s.length∧a=.pan q∧b=(y,⟨s,q,true⟩))
theorem Dy:M.k7=M.n1:=by decide +kernel
theorem zZ:M.k7=some (mv (rT [10])):=by
 unfold M.k7;have h:M.j5 [10]=some (rT [10]):=FE (s:=[10]) (by decide);rw [h,IS,iK (lk _),IS]
theorem yd (b:Nat):eJ b b=[b]:=by unfold eJ; rw [show b+1 - b=1 by omega]; rfl
theorem yC {s:Str} {q:Nat} (hs:s.length≤1000000) (h:q<s.length) (a:(s[q]).toNat=41):M.a4 ⟨s,q⟩ 41=some (.ret ⟨s,(q+1:Nat)⟩):=by
 unfold M.a4;refine da (aR (x:=false) (ei (cq (show (q:Int)≠(s.length:Int) by omega)) (aR (dR h) (congrArg some (sR (show ((s[q]).toNat:Int)=41 by omega))))) rfl) (aR (aK (show q<9223372036854775807 by omega)) rfl)
theorem yB {s:Str} {q:Nat} (h:q<s.length) (h1:(s[q]).toNat≠41):M.a4 ⟨s,q⟩ 41=some (.pan q):=by
 unfold M.a4;exact eG (aR (x:=true) (ei (cq (show (q:Int)≠(s.length:Int) by omega)) (aR (dR h) (congrArg some (mp (show ((s[q]).toNat:Int)≠41 by omega))))) rfl)
theorem wn {s:Str}:M.a4 ⟨s,(s.length:Nat)⟩ 41=some (.pan (s.length:Nat)):=by
 unfold M.a4;exact eG (aR (x:=true) (ig (rk rfl) rfl) rfl)
section
variable {s:Str} (hs:s.length≤1000000)
def PA (s:Str) (m:Nat):Prop:=∀p:Nat,p≤s.length→s.length - p≤m→∀fl,4*m+1≤fl→dT (M.e0 fl ⟨s,p⟩) (M.e1 fl ⟨s,p,false⟩) (Ax s p 0 1)
def PP (s:Str) (m:Nat):Prop:=∀p:Nat,p≤s.length→s.length - p≤m→∀fl,4*m+2≤fl→dT (M.c9 fl ⟨s,p⟩) (M.d0 fl ⟨s,p,false⟩) (Ax s p 0 1)
def PB (s:Str) (m:Nat):Prop:=∀p:Nat,p≤s.length→s.length - p≤m→∀fl,4*m+3≤fl→dT (M.b8 fl ⟨s,p⟩) (M.b9 fl ⟨s,p,false⟩) (Ax s p 1 0)
def PR (s:Str) (m:Nat):Prop:=∀p:Nat,p≤s.length→s.length - p≤m→∀fl,4*m+4≤fl→dT (M.c2 fl ⟨s,p⟩) (M.c3 fl ⟨s,p,false⟩) (Ax s p 2 0)
include hs
theorem Ao {m:Nat} (h:∀m',m'<m→PR s m'):PA s m:=by
 intro p hp F j G;obtain ⟨j,rfl⟩:∃f,j=f+1:=⟨j - 1,by omega⟩;unfold M.e0 M.e1;obtain ⟨x,y,hx,hy,k,n⟩:=gG hp;refine dT.l hx (dT.r hy ?_);rw [←k 40 (by decide) (by decide),←k 91 (by decide) (by decide),←k 46 (by decide) (by decide)];cases D:(x == (40:Int))
 ·cases t:(x == (91:Int))
  ·cases B:(x == (46:Int))
   ·refine dT.bb (rf hs hp false) ?_;rintro a b (⟨c,q,g,d,o,rfl,rfl⟩|⟨q,hq,rfl,rfl⟩)
    ·refine dT.l (nR o o) (dT.r (b:=⟨3,fj (aV.zero 4) c,[]⟩) ?_ (.pure (.inl ⟨⟨3,fj (aV.zero 4) c,[]⟩,q,g,d,nw (vl jV c),⟨?_,Bp.leaf _ _ (by omega)⟩,?_,rfl⟩)))
     ·unfold M.m2;exact aR (mA jV o) rfl
     ·simp only [height,ce]; omega
     ·rw [yd]; rfl
    ·refine dT.r (b:=⟨3,fj (aV.zero 4) 0,[]⟩) ?_ (.pure (.inr ⟨q,_,hq,rfl,rfl⟩));unfold M.m2;exact aR (mA jV (c:=0) (by omega)) rfl
   ·have e:=n 46 (by decide) (dA B);refine dT.l (aK (i:=p) (by omega)) (dT.l zZ (dT.r (aK (i:=p) (by omega)) (dT.r (Dy.symm.trans zZ) (.pure (.inl ⟨_,p+1,Nat.le_refl _,e,nw (vm (lk _)),⟨?_,Bp.leaf _ _ (by omega)⟩,rfl,rfl⟩)))));simp only [height,ce]; omega
  ·have e:=n 91 (by decide) (dA t);have A:(s[p]).toNat=91:=by
    rw [xk e] at hx;have:=Option.some.inj hx;have:=dA t;omega
   refine dT.r (aK (i:=p) (by omega)) (dT.bb (vc hs e A) ?_);rintro a b (⟨set,q,g,d,v,rfl,rfl⟩|⟨q,y,hq,rfl,rfl⟩)
   ·refine .pure (.inl ⟨⟨3,set,[]⟩,q,g,d,nw v,⟨?_,Bp.leaf _ _ (by omega)⟩,rfl,rfl⟩);simp only [height,ce]; omega
   ·exact .pure (.inr ⟨q,_,hq,rfl,rfl⟩)
 ·have e:=n 40 (by decide) (dA D);refine dT.l (aK (i:=p) (by omega)) (dT.r (aK (i:=p) (by omega)) ?_);refine dT.bb (h (m - 1) (by omega) (p+1) e (by omega) j (by omega)) ?_;rintro a b (⟨z,q,g,d,w,hh,rfl,rfl⟩|⟨q,y,hq,rfl,rfl⟩)
  ·rcases Nat.lt_or_eq_of_le d with hq|hq
   ·by_cases u:(s[q]).toNat=41
    ·refine dT.l (yC hs hq u) (dT.r (gw hq) ?_);rw [sR (show ((s[q]).toNat:Int)=41 by omega)];exact dT.r (aK (i:=q) (by omega)) (.pure (.inl ⟨z,q+1,by omega,hq,w,⟨by omega,hh.2.more (by omega)⟩,rfl,rfl⟩))
    ·refine dT.l (yB hq u) (dT.r (gw hq) ?_);rw [mp (show ((s[q]).toNat:Int)≠41 by omega)];exact .pure (.inr ⟨q,_,d,rfl,rfl⟩)
   ·subst hq;exact dT.l wn (dT.r kR (.pure (.inr ⟨s.length,_,d,rfl,rfl⟩)))
  ·exact .pure (.inr ⟨q,_,hq,rfl,rfl⟩)
theorem vD {m:Nat} (h:PA s m):PP s m:=by
  intro p hp hm G a6;obtain ⟨G,rfl⟩:∃f,G=f+1:=⟨G - 1,by omega⟩;unfold M.c9 M.d0;refine dT.bb (h p hp hm G (by omega)) ?_;rintro a b (⟨z,q,R,F,t,hh,rfl,rfl⟩|⟨q,y,hq,rfl,rfl⟩)
  · refine dT.on_ret ?_
    have key:=dT.loop (Q:=fun (a:Rt (T_Regex×aE)) (b:cQ (Int×aV 4×List T_Regex×Int) (T_Regex×aG))=>∃c,b=.stop c∧Ax s p 0 1 a c)
      (bA:=fun (I:Int×Int×(aV 4)×(List T_Regex))=>match I with
        | (N,v,u,A)=>bp ((M.a2 (aE.mk s N)).bind fun L=>
            bif (L == 42) then some (.next ((6:Int),([(T_Regex.mk v u A)]:(List T_Regex))))
            else bif (L == 43) then some (.next ((4:Int),([(T_Regex.mk v u A),(T_Regex.mk 6 (aV.zero 4) [(T_Regex.mk v u A)])]:(List T_Regex))))
            else bif (L == 63) then some (.next ((5:Int),([(T_Regex.mk v u A),(T_Regex.mk 2 (aV.zero 4) [])]:(List T_Regex))))
            else some (.stop (.stop (.ret ((T_Regex.mk v u A),(aE.mk s N)))))) fun (a3,W)=>
          (bZ .i64 (N+1)).bind fun t3=>some (.next (t3,a3,(aV.zero 4),W)))
      (bB:=fun (I:Int×Int×(aV 4)×(List T_Regex))=>match I with
        | (D,r,o,n)=>bif (!false) then bp ((M.a0 (aG.mk s D false)).bind fun K=>
            bif (K == 42) then (M.j2 (T_Regex.mk r o n)).bind fun J=>some (.next (J.Kind,J.Set,J.Kids))
            else bif (K == 43) then (M.j2 (T_Regex.mk r o n)).bind fun Y=>some (.next ((4:Int),(aV.zero 4),([(T_Regex.mk r o n),Y]:(List T_Regex))))
            else bif (K == 63) then some (.next ((5:Int),(aV.zero 4),([(T_Regex.mk r o n),(T_Regex.mk 2 (aV.zero 4) [])]:(List T_Regex))))
            else some (.stop (.stop (.stop ((T_Regex.mk r o n),(aG.mk s D false)))))) fun (a2,a1,a0)=>
          (bZ .i64 (D+1)).bind fun X=>some (.next (X,a2,a1,a0))
          else some (.stop (.next (r,o,n,D))))
      (fun a b m=>∃(z:T_Regex) (q:Nat),p+1≤q∧q≤s.length∧bQ z∧(height z≤3*(q - p)∧Bp z (q - p))∧a=((q:Int),z.Kind,z.Set,z.Kids)∧b=((q:Int),z.Kind,z.Set,z.Kids)∧m=s.length - q) ?_
      (s.length - q) aZ aZ ((q:Int),z.Kind,z.Set,z.Kids) ((q:Int),z.Kind,z.Set,z.Kids) (by unfold aZ; omega) (by unfold aZ; omega) ⟨z,q,R,F,t,hh,rfl,rfl,rfl⟩
    · obtain ⟨a,b,ha,hb,c,rfl,hc⟩:=key
      exact ⟨a,c,ha,eG hb,hc⟩
    · rintro m _ _ ⟨⟨k,d,l⟩,q,R,F,t,hh,rfl,rfl,rfl⟩
      obtain ⟨x,y,hx,hy,P,S⟩:=gG F;have H:=P 42 (by decide) (by decide);have T:=P 43 (by decide) (by decide);have V:=P 63 (by decide) (by decide);have U:∀w∈[(⟨k,d,l⟩:T_Regex)],bQ w:=fun w e=>by rw [IY.1 e]; exact t
      cases g:(x == (42:Int))
      · cases j:(x == (43:Int))
        · cases B:(x == (63:Int))
          · refine .inr ⟨_,eG (aR hx (ei g (ei j (ei B rfl)))),.inl ⟨_,eG (aR hy (ei (H ▸ g) (ei (T ▸ j) (ei (V ▸ B) rfl)))),_,rfl,.inl ⟨_,q,R,F,t,hh,rfl,rfl⟩⟩⟩
          · have hl:=S 63 (by decide) (dA B)
            refine .inl ⟨_,_,s.length - (q+1),da (aR hx (ei g (ei j (ig B rfl)))) (aR (aK (i:=q) (by omega)) rfl),
              da (aR hy (ei (H ▸ g) (ei (T ▸ j) (ig (V ▸ B) rfl)))) (aR (aK (i:=q) (by omega)) rfl),by omega,⟨5,aV.zero 4,[⟨k,d,l⟩,⟨2,aV.zero 4,[]⟩]⟩,q+1,by omega,hl,?_,⟨?_,(hh.2.opt (by omega) _ _ _ _).more (by omega)⟩,rfl,rfl,rfl⟩
            · refine fG (by omega) (by simp) fun w e=>?_
              rcases Js.1 e with rfl|e
              · exact t
              · rw [IY.1 e]; exact fG (by omega) (by simp) (by simp)
            · have:height (⟨5,aV.zero 4,[⟨k,d,l⟩,⟨2,aV.zero 4,[]⟩]⟩:T_Regex)≤height (⟨k,d,l⟩:T_Regex)+1:=by simp only [height,ce]; omega
              omega
        · have hl:=S 43 (by decide) (dA j)
          refine .inl ⟨_,_,s.length - (q+1),da (aR hx (ei g (ig j rfl))) (aR (aK (i:=q) (by omega)) rfl),
            da (aR hy (ei (H ▸ g) (ig (T ▸ j) rfl))) (aR (aK (i:=q) (by omega)) rfl),by omega,⟨4,aV.zero 4,[⟨k,d,l⟩,⟨6,aV.zero 4,[⟨k,d,l⟩]⟩]⟩,q+1,by omega,hl,?_,⟨?_,(hh.2.more1 (by omega) _ _ _ _).more (by omega)⟩,rfl,rfl,rfl⟩
          · refine fG (by omega) (by simp) fun w e=>?_
            rcases Js.1 e with rfl|e
            · exact t
            · rw [IY.1 e]; exact fG (by omega) (by simp) U
          · have:height (⟨4,aV.zero 4,[⟨k,d,l⟩,⟨6,aV.zero 4,[⟨k,d,l⟩]⟩]⟩:T_Regex)≤height (⟨k,d,l⟩:T_Regex)+2:=by simp only [height,ce]; omega
            omega
      · have hl:=S 42 (by decide) (dA g)
        refine .inl ⟨_,_,s.length - (q+1),da (aR hx (ig g rfl)) (aR (aK (i:=q) (by omega)) rfl),
          da (aR hy (ig (H ▸ g) rfl)) (aR (aK (i:=q) (by omega)) rfl),by omega,⟨6,aV.zero 4,[⟨k,d,l⟩]⟩,q+1,by omega,hl,fG (by omega) (by simp) U,⟨?_,((Bl.one hh.2).node (by omega) _ _).more (by omega)⟩,rfl,rfl,rfl⟩
        have:height (⟨6,aV.zero 4,[⟨k,d,l⟩]⟩:T_Regex)≤height (⟨k,d,l⟩:T_Regex)+1:=by simp only [height,ce]; omega
        omega
  · exact ⟨_,(⟨y.Kind,y.Set,y.Kids⟩,⟨s,q,true⟩),rfl,da (jm rfl) rfl,.inr ⟨q,_,hq,rfl,rfl⟩⟩
omit hs in
theorem uO (k:Int) (l:List T_Regex) (hl:l≠[]):∃x,M.j6 k l=some x∧((∃y,l=[y]∧x=y)∨(2≤l.length∧x=⟨k,aV.zero 4,l⟩)):=by
 match l with
 | []=>exact absurd rfl hl
 | [y]=>exact ⟨y,rfl,.inl ⟨y,rfl,rfl⟩⟩
 | y::z::l=>
  refine ⟨_,ei (cq (by simp only [Jp]; omega)) rfl,.inr ⟨by simp only [Jp]; omega,rfl⟩⟩
omit hs in
theorem zo {l:List T_Regex} (h:2≤l.length):((l.length:Int) == 1)=false:=cq (by omega)
omit hs in
theorem uW {q:Nat} (hq:q≤s.length):∃g,((bif (decide ((q:Int)<(s.length:Int))) then (jt s q).bind fun a=>bif (a != 124) then some (a != 41) else some false else some false)=some g)∧
    ((bif (!false) then (M.a0 (aG.mk s q false)).bind fun d=>bif (d != (-1)) then (M.a0 (aG.mk s q false)).bind fun c=>
      bif (c != 124) then (M.a0 (aG.mk s q false)).bind fun b=>some (b != 41) else some false else some false else some false)=some g)∧(g=true→q<s.length):=by
  rcases Nat.lt_or_eq_of_le hq with h|h
  · refine ⟨bif (((s[q]).toNat:Int) != 124) then (((s[q]).toNat:Int) != 41) else false,ig (dL (by omega)) (aR (dR h) ?_),aR (gw h) (ig (mp (by omega)) (aR (gw h) ?_)),fun _=>h⟩
    · cases (((s[q]).toNat:Int) != 124) <;> rfl
    · cases (((s[q]).toNat:Int) != 124)
      · rfl
      · exact aR (gw h) rfl
  · subst h
    exact ⟨false,ei (eu (by omega)) rfl,aR kR rfl,fun h=>by cases h⟩
def mr (h:Nat) (l:List T_Regex):Prop:=∀y∈l,bQ y∧height y≤h
omit hs in
theorem mr.snoc {h h':Nat} {l:List T_Regex} {x:T_Regex} (hl:mr h l) (hh:h≤h') (hx:bQ x∧height x≤h'):mr h' (l++[x]):=by
 intro y hy;rcases IZ.1 hy with hy|hy
 ·exact ⟨(hl y hy).1,Nat.le_trans (hl y hy).2 hh⟩
 ·rw [IY.1 hy]; exact hx
omit hs in
theorem mr.node {h:Nat} {l:List T_Regex} (hl:mr h l) {k:Int} (hk:0≤k∧k≤10) (hn:l.length≤2000000):bQ ⟨k,aV.zero 4,l⟩∧height (⟨k,aV.zero 4,l⟩:T_Regex)≤h+1:=by
 refine ⟨fG hk hn fun y hy=>(hl y hy).1,?_⟩;have:=uN fun y hy=>(hl y hy).2
 simp only [height]; omega
theorem wz {m:Nat} (h:PP s m):PB s m:=by
  intro p hp I n K;obtain ⟨n,rfl⟩:∃f,n=f+1:=⟨n - 1,by omega⟩;unfold M.b8 M.b9;refine dT.sb (P:=fun (a:cQ (List T_Regex×Str×Int) (Rt (T_Regex×aE))) (b:List T_Regex×Str×Int×Bool)=>
      (∃(l:List T_Regex) (q:Nat),p≤q∧q≤s.length∧(mr (3*(q - p)) l∧Bl l (q - p))∧l.length≤q - p∧a=.next (l,s,(q:Int))∧b=(l,s,(q:Int),false))∨(∃(l:List T_Regex) (q:Nat),q≤s.length∧a=.stop (.pan q)∧b=(l,s,(q:Int),true)))
    (dT.loop (fun (a:Str×Int×(List T_Regex)) (b:Str×Int×Bool×(List T_Regex)) k=>∃(l:List T_Regex) (q:Nat),p≤q∧q≤s.length∧(mr (3*(q - p)) l∧Bl l (q - p))∧l.length≤q - p∧a=(s,(q:Int),l)∧b=(s,(q:Int),false,l)∧k=s.length - q) ?_
      (s.length - p) _ _ _ _ (by unfold aZ; omega) (by unfold aZ; omega) ⟨[],p,Nat.le_refl _,hp,⟨(show mr (3*(p - p)) [] from fun y hy=>absurd hy (by simp)),Bl.nil _⟩,by simp,rfl,rfl,rfl⟩) ?_ ?_
  · rintro k _ _ ⟨l,q,i,hq,d,hl,rfl,rfl,rfl⟩
    obtain ⟨g,t,r,J⟩:=uW hq;cases g
    · exact .inr ⟨.next (l,s,(q:Int)),aR t rfl,.inl ⟨(l,s,(q:Int),false),aR r rfl,.inl ⟨l,q,i,hq,d,hl,rfl,rfl⟩⟩⟩
    · obtain ⟨N,L,w,v,F⟩:=h q hq (by omega) n (by omega)
      rcases F with ⟨x,c,H,A,D,hh,rfl,rfl⟩|⟨c,y,B,rfl,rfl⟩
      · have j:cD 64 l [x]=some (l++[x]):=bO (by simp only [IT]; omega)
        refine .inl ⟨(s,(c:Int),l++[x]),(s,(c:Int),false,l++[x]),s.length - c,aR t (aR w (aR j rfl)),aR r (aR v (aR j rfl)),by omega,
          l++[x],c,by omega,A,⟨d.1.snoc (by omega) ⟨D,by omega⟩,(d.2.snoc hh.2).more (by omega)⟩,by simp only [IW,IT]; omega,rfl,rfl,rfl⟩
      · have j:cD 64 l [y]=some (l++[y]):=bO (by simp only [IT]; omega)
        exact .inr ⟨.stop (.pan c),aR t (aR w rfl),.inr ⟨(s,(c:Int),true,l++[y]),(l++[y],s,(c:Int),true),aR r (aR v (aR j rfl)),aR (x:=false) rfl rfl,.inr ⟨l++[y],c,B,rfl,rfl⟩⟩⟩
  · rintro a b (⟨l,q,i,hq,d,hl,e,rfl⟩|⟨l,q,hq,e,rfl⟩)
    · cases e
      by_cases o:l=[]
      · subst o
        refine ⟨.ret (⟨2,aV.zero 4,[]⟩,⟨s,q⟩),(⟨2,aV.zero 4,[]⟩,⟨s,q,false⟩),rfl,rfl,.inl ⟨⟨2,aV.zero 4,[]⟩,q,i,hq,fG (by omega) (by simp) (by simp),⟨?_,Bp.leaf _ _ (by omega)⟩,rfl,rfl⟩⟩;simp only [height,ce]; omega
      · have u:((l.length:Int) == 0)=false:=cq (fun e=>o (JJ (by omega)))
        obtain ⟨x,hx,⟨y,rfl,e⟩|⟨G,rfl⟩⟩:=uO 4 l o
        · have:=d.1 y (by simp)
          exact ⟨.ret (y,⟨s,q⟩),(y,⟨s,q,false⟩),rfl,rfl,.inl ⟨y,q,i,hq,this.1,⟨by omega,d.2.of1.more (by omega)⟩,rfl,rfl⟩⟩
        · have:=d.1.node (k:=4) (by omega) (by omega)
          exact ⟨.ret (⟨4,aV.zero 4,l⟩,⟨s,q⟩),(⟨4,aV.zero 4,l⟩,⟨s,q,false⟩),ei u (aR hx rfl),ei u (ei (zo G) rfl),.inl ⟨_,q,i,hq,this.1,⟨this.2,(d.2.more (show q - p≤q - p+1 - 0 by omega)).node (by omega) _ _⟩,rfl,rfl⟩⟩
    · cases e
  · rintro x b (⟨l,q,i,hq,d,hl,e,rfl⟩|⟨l,q,hq,e,rfl⟩)
    · cases e
    · cases e
      match l with
      | []=>exact ⟨_,(⟨2,aV.zero 4,[]⟩,⟨s,q,true⟩),rfl,rfl,.inr ⟨q,_,hq,rfl,rfl⟩⟩
      | [y]=>exact ⟨_,(y,⟨s,q,true⟩),rfl,rfl,.inr ⟨q,_,hq,rfl,rfl⟩⟩
      | y::z::l=>
        exact ⟨_,(⟨4,aV.zero 4,y::z::l⟩,⟨s,q,true⟩),rfl,ei (cq (by simp only [Jp]; omega)) (ei (cq (by simp only [Jp]; omega)) rfl),.inr ⟨q,_,hq,rfl,rfl⟩⟩
theorem xZ {m:Nat} (h:PB s m):PR s m:=by
  intro p hp J j U;obtain ⟨j,rfl⟩:∃f,j=f+1:=⟨j - 1,by omega⟩;unfold M.c2 M.c3;refine dT.bb (h p hp J j (by omega)) ?_;rintro a b (⟨z,u,T,F,I,hh,rfl,rfl⟩|⟨q,y,hq,rfl,rfl⟩)
  · refine dT.on_ret ?_
    refine dT.sb (P:=fun (a:cQ (List T_Regex×Str×Int) (Rt (T_Regex×aE))) (b:List T_Regex×Str×Int×Bool)=>
        (∃(l:List T_Regex) (q:Nat),p≤q∧q≤s.length∧(mr (3*(q - p)+1) l∧Bl l (q - p+1))∧l.length≤q - p+1∧l≠[]∧a=.next (l,s,(q:Int))∧b=(l,s,(q:Int),false))∨(∃(l:List T_Regex) (q:Nat),q≤s.length∧a=.stop (.pan q)∧b=(l,s,(q:Int),true)))
      (dT.loop (fun (a:Str×Int×(List T_Regex)) (b:Str×Int×Bool×(List T_Regex)) k=>∃(l:List T_Regex) (q:Nat),p≤q∧q≤s.length∧(mr (3*(q - p)+1) l∧Bl l (q - p+1))∧l.length≤q - p+1∧l≠[]∧a=(s,(q:Int),l)∧b=(s,(q:Int),false,l)∧k=s.length - q) ?_
        (s.length - u) _ _ _ _ (by unfold aZ; omega) (by unfold aZ; omega) ⟨[z],u,by omega,F,⟨fun y hy=>by rw [IY.1 hy]; exact ⟨I,hh.1⟩,Bl.one hh.2⟩,by simp,by simp,rfl,rfl,rfl⟩) ?_ ?_
    · rintro k _ _ ⟨l,q,i,hq,d,hl,n,rfl,rfl,rfl⟩
      obtain ⟨x,y,hx,hy,B,L⟩:=gG hq;have e:=B 124 (by decide) (by decide);cases g:(x == (124:Int))
      · exact .inr ⟨.next (l,s,(q:Int)),aR hx (ei g rfl),.inl ⟨(l,s,(q:Int),false),aR (x:=false) (aR hy (congrArg some (e ▸ g))) rfl,.inl ⟨l,q,i,hq,d,hl,n,rfl,rfl⟩⟩⟩
      · have K:=L 124 (by decide) (dA g)
        have o:bZ .i64 ((q:Int)+1)=some ((q+1:Nat):Int):=aK (by omega);obtain ⟨W,V,A,v,Q⟩:=h (q+1) K (by omega) j (by omega);rcases Q with ⟨w,c,S,D,H,N,rfl,rfl⟩|⟨c,w,G,rfl,rfl⟩
        · have t:cD 64 l [w]=some (l++[w]):=bO (by simp only [IT]; omega)
          refine .inl ⟨(s,(c:Int),l++[w]),(s,(c:Int),false,l++[w]),s.length - c,aR hx (ig g (aR o (aR A (aR t rfl)))),aR (x:=true) (aR hy (congrArg some (e ▸ g))) (aR o (aR v (aR t rfl))),by omega,
            l++[w],c,by omega,D,⟨d.1.snoc (by omega) ⟨H,by omega⟩,(d.2.snoc N.2).more (by omega)⟩,by simp only [IW,IT]; omega,by simp,rfl,rfl,rfl⟩
        · have t:cD 64 l [w]=some (l++[w]):=bO (by simp only [IT]; omega)
          exact .inr ⟨.stop (.pan c),aR hx (ig g (aR o (aR A rfl))),.inr ⟨(s,(c:Int),true,l++[w]),(l++[w],s,(c:Int),true),aR (x:=true) (aR hy (congrArg some (e ▸ g))) (aR o (aR v (aR t rfl))),aR (x:=false) rfl rfl,.inr ⟨l++[w],c,G,rfl,rfl⟩⟩⟩
    · rintro a b (⟨l,q,i,hq,d,hl,n,e,rfl⟩|⟨l,q,hq,e,rfl⟩)
      · cases e
        obtain ⟨x,hx,⟨y,rfl,e⟩|⟨R,rfl⟩⟩:=uO 5 l n
        · have:=d.1 y (by simp)
          exact ⟨.ret (y,⟨s,q⟩),(y,⟨s,q,false⟩),rfl,rfl,.inl ⟨y,q,i,hq,this.1,⟨by omega,d.2.of1⟩,rfl,rfl⟩⟩
        · have:=d.1.node (k:=5) (by omega) (by omega)
          exact ⟨.ret (⟨5,aV.zero 4,l⟩,⟨s,q⟩),(⟨5,aV.zero 4,l⟩,⟨s,q,false⟩),aR hx rfl,ei (zo R) rfl,.inl ⟨_,q,i,hq,this.1,⟨this.2,d.2.node (by omega) _ _⟩,rfl,rfl⟩⟩
      · cases e
    · rintro x b (⟨l,q,i,hq,d,hl,n,e,rfl⟩|⟨l,q,hq,e,rfl⟩)
      · cases e
      · cases e
        match l with
        | []=>exact ⟨_,(⟨5,aV.zero 4,[]⟩,⟨s,q,true⟩),rfl,rfl,.inr ⟨q,_,hq,rfl,rfl⟩⟩
        | [y]=>exact ⟨_,(y,⟨s,q,true⟩),rfl,rfl,.inr ⟨q,_,hq,rfl,rfl⟩⟩
        | y::z::l=>exact ⟨_,(⟨5,aV.zero 4,y::z::l⟩,⟨s,q,true⟩),rfl,ei (cq (by simp only [Jp]; omega)) rfl,.inr ⟨q,_,hq,rfl,rfl⟩⟩
  · exact dT.on_pan ⟨_,(y,⟨s,q,true⟩),rfl,aR (jm (r:=([y],s,(q:Int),true)) rfl) rfl,.inr ⟨q,_,hq,rfl,rfl⟩⟩
theorem Co:∀m,PR s m:=by
 intro m;induction m using Nat.strongRecOn with
 | _ m ih=>exact xZ hs (wz hs (vD hs (Ao hs ih)))
theorem yk:∃r,M.g0 s=some r∧M.h1 s=some r∧bQ r.1∧height r.1≤3*s.length+2∧Bp r.1 (s.length+1)∧(r.2.2=0→V 30 r.1=true):=by
 obtain ⟨a,b,ha,hb,g⟩:=Co hs s.length 0 (by omega) (by omega) aZ (by unfold aZ; omega);have e:bQ ⟨0,aV.zero 4,[]⟩:=fG (by omega) (by simp) (by simp);have c:height (⟨0,aV.zero 4,[]⟩:T_Regex)≤3*s.length+2∧Bp ⟨0,aV.zero 4,[]⟩ (s.length+1):=⟨by simp only [height,ce]; omega,Bp.leaf _ _ (by omega)⟩;unfold M.g0 M.h1;rcases g with ⟨x,q,i,f,d,hh,rfl,rfl⟩|⟨q,y,hq,rfl,rfl⟩
 ·rcases Nat.lt_or_eq_of_le f with hq|hq
  ·refine ⟨(⟨0,aV.zero 4,[]⟩,(q:Int),3),aR ha (eG (ig (dL (by show (q:Int)<(s.length:Int); omega)) rfl)),aR hb (aR (x:=true) (congrArg some (dL (by show (q:Int)<(s.length:Int); omega))) rfl),e,c.1,c.2,fun h=>absurd (show (3:Int)=0 from h) (by decide)⟩
  ·have hd:decide ((q:Int)<(s.length:Int))=false:=eu (by omega);cases hv:V 30 x
   ·exact ⟨(⟨0,aV.zero 4,[]⟩,0,11),aR ha (da (ei hd rfl) (aR ((rv d).trans (congrArg some hv)) rfl)),aR hb (aR (x:=false) (congrArg some hd) (aR ((kx d).trans (congrArg some hv)) rfl)),e,c.1,c.2,fun h=>absurd h (by decide)⟩
   ·exact ⟨(x,0,0),aR ha (da (ei hd rfl) (aR ((rv d).trans (congrArg some hv)) rfl)),aR hb (aR (x:=false) (congrArg some hd) (aR ((kx d).trans (congrArg some hv)) rfl)),d,by show height x≤_; omega,hh.2.more (by omega),fun _=>hv⟩
 ·exact ⟨(⟨0,aV.zero 4,[]⟩,(q:Int),3),aR ha rfl,aR hb rfl,e,c.1,c.2,fun h=>absurd (show (3:Int)=0 from h) (by decide)⟩
end
end Go.Proofs.YtggpjcdhflcfmaaGreatDoor
namespace Go.Lx
theorem gH:∀(N:Nat) (l:List Nat),l.Nodup→(∀x∈l,x<N)→l.length≤N
 | 0,l,_,h=>by
  cases l with
  | nil=>simp
  | cons a l=>have:=h a (by simp); omega
 | N+1,l,hn,h=>by
  have c:=gH N (l.filter (· != N)) (hn.filter _) (fun x hx=>by
   simp only [JB,bne_iff_ne,ne_eq] at hx;have:=h x hx.1; omega)
  have d:l.length≤(l.filter (· != N)).length+1:=by
   clear c h;induction l with
   | nil=>simp
   | cons a l ih=>
    have b:=List.nodup_cons.1 hn
    by_cases ha:a=N
    ·subst ha;have:l.filter (· != a)=l:=List.filter_eq_self.2 fun x hx=>by
      have:x≠a:=by rintro rfl; exact b.1 hx
      simpa using this
     simp [this]
    ·have:=ih b.2;simp [ha]; omega
  omega
section
variable {K:Type} [DecidableEq K]
def tK (L:List K) (k:K):List K:=if k∈L then L else L++[k]
def DK (σ:Nat→K):Nat→List K
 | 0=>[]
 | i+1=>tK (DK σ i) (σ i)
theorem zD {L:List K} {k x:K}:x∈tK L k↔x∈L∨x=k:=by
 unfold tK;split
 ·rename_i h;constructor
  ·exact .inl
  ·rintro (h'|rfl)
   ·exact h'
   ·exact h
 ·simp
theorem jM {σ:Nat→K} {i:Nat} {s:K}:s∈DK σ i↔∃a,a<i∧σ a=s:=by
 induction i with
 | zero=>simp [DK]
 | succ i ih=>
  rw [DK,zD,ih];constructor
  ·rintro (⟨a,h1,h2⟩|rfl)
   ·exact ⟨a,by omega,h2⟩
   ·exact ⟨i,by omega,rfl⟩
  ·rintro ⟨a,h1,h2⟩
   by_cases h:a=i
   ·subst h; exact .inr h2.symm
   ·exact .inl ⟨a,by omega,h2⟩
theorem yR {σ:Nat→K} {i j:Nat} (h:i≤j):∃r,DK σ j=DK σ i++r:=by
 obtain ⟨k,rfl⟩:=Nat.le.dest h;clear h;induction k with
 | zero=>exact ⟨[],by simp⟩
 | succ k ih=>
  obtain ⟨r,hr⟩:=ih;rw [←Nat.add_assoc,DK,tK];split
  ·exact ⟨r,hr⟩
  ·exact ⟨r++[σ (i+k)],by simp [hr]⟩
theorem rB (σ:Nat→K) (i:Nat):(DK σ i).length≤i:=by
 induction i with
 | zero=>simp [DK]
 | succ i ih=>
  rw [DK,tK];split
  ·omega
  ·simp; omega
def mV (σ:Nat→K) (i:Nat):Nat:=(DK σ (i+1)).idxOf (σ i)
theorem ot {σ:Nat→K} {i j:Nat} (h:i<j):mV σ i=(DK σ j).idxOf (σ i):=by
 obtain ⟨r,hr⟩:=yR (σ:=σ) (i:=i+1) (j:=j) h;unfold mV;rw [hr,List.idxOf_append,if_pos (jM.2 ⟨i,by omega,rfl⟩)]
theorem gN {σ:Nat→K} {i j:Nat} (h:i<j):mV σ i<(DK σ j).length:=by
 rw [ot h]; exact List.idxOf_lt_length_of_mem (jM.2 ⟨i,h,rfl⟩)
theorem wh {L:List K} {a b:K} (ha:a∈L) (h:L.idxOf a=L.idxOf b):a=b:=by
 have h1:=List.idxOf_lt_length_of_mem ha;have e1:L[L.idxOf a]'h1=a:=by simp
 have h2:L.idxOf b<L.length:=by omega
 have e2:L[L.idxOf b]'h2=b:=by simp
 rw [←e1,←e2];congr 1
theorem fq {σ:Nat→K} {i j:Nat}:mV σ i=mV σ j↔σ i=σ j:=by
 constructor
 ·intro h;rw [ot (j:=max i j+1) (by omega),ot (i:=j) (j:=max i j+1) (by omega)] at h;exact wh (jM.2 ⟨i,by omega,rfl⟩) h
 ·intro h;rw [ot (j:=max i j+1) (by omega),ot (i:=j) (j:=max i j+1) (by omega),h]
theorem FJ {σ:Nat→K} {i j:Nat} (h:i<j):(DK σ j)[mV σ i]?=some (σ i):=by
 have hlt:=gN (σ:=σ) h;rw [IQ hlt];simp [ot h]
theorem nA {σ:Nat→K} {i:Nat} (h:σ i∉DK σ i):mV σ i=(DK σ i).length:=by
 unfold mV;rw [DK,tK,if_neg h,List.idxOf_append,if_neg h];simp
theorem BA {σ:Nat→K} {i:Nat} (h:σ i∈DK σ i):mV σ i<(DK σ i).length:=by
 unfold mV;rw [DK,tK,if_pos h];exact List.idxOf_lt_length_of_mem h
theorem rA {σ:Nat→K} {i:Nat} (h:σ i∉DK σ i):DK σ (i+1)=DK σ i++[σ i]:=by rw [DK,tK,if_neg h]
theorem lq {σ:Nat→K} {i:Nat} (h:σ i∈DK σ i):DK σ (i+1)=DK σ i:=by rw [DK,tK,if_pos h]
theorem zt {σ:Nat→K} {n c:Nat} (h:c<(DK σ n).length):∃i,i<n∧mV σ i=c∧∀j,j<i→mV σ j≠c:=by
 induction n with
 | zero=>simp [DK] at h
 | succ n ih=>
  by_cases hc:c<(DK σ n).length
  ·obtain ⟨i,d,b⟩:=ih hc;exact ⟨i,by omega,b⟩
  ·by_cases hm:σ n∈DK σ n
   ·rw [lq hm] at h; omega
   ·rw [rA hm] at h;simp at h;refine ⟨n,by omega,by rw [nA hm]; omega,fun j a=>?_⟩;have:=gN (σ:=σ) a;omega
variable {K':Type} [DecidableEq K']
theorem uF {σ:Nat→K} {τ:Nat→K'} {n:Nat} (h:∀i j,i<n→j<n→(σ i=σ j↔τ i=τ j)):∀i,i≤n→(DK σ i).length=(DK τ i).length∧∀j,j<i→mV σ j=mV τ j:=by
 intro i;induction i with
 | zero=>intro _; exact ⟨rfl,fun j g=>by omega⟩
 | succ i ih=>
  intro k;obtain ⟨c,b⟩:=ih (by omega);have d:σ i∈DK σ i↔τ i∈DK τ i:=by
   rw [jM,jM];constructor
   ·rintro ⟨a,ha,e⟩; exact ⟨a,ha,(h a i (by omega) (by omega)).1 e⟩
   ·rintro ⟨a,ha,e⟩; exact ⟨a,ha,(h a i (by omega) (by omega)).2 e⟩
  by_cases hm:σ i∈DK σ i
  ·rw [lq hm,lq (d.1 hm)];refine ⟨c,fun j g=>?_⟩
   by_cases e:j=i
   ·subst e;obtain ⟨a,ha,e⟩:=jM.1 hm;rw [fq.2 e.symm,fq.2 ((h a j (by omega) (by omega)).1 e).symm];exact b a ha
   ·exact b j (by omega)
  ·have f:=fun x=>hm (d.2 x)
   rw [rA hm,rA f];refine ⟨by simp [c],fun j g=>?_⟩
   by_cases e:j=i
   ·subst e;rw [nA hm,nA f,c]
   ·exact b j (by omega)
theorem yn {σ:Nat→K} {τ:Nat→K'} {n:Nat} (h:∀i j,i<n→j<n→σ i=σ j→τ i=τ j):(DK τ n).length≤(DK σ n).length∧((DK σ n).length=(DK τ n).length→∀i j,i<n→j<n→τ i=τ j→σ i=σ j):=by
 -- the first place of each key of τ
 have first:∀m,m≤n→∃L:List Nat,(∀x∈L,x<m)∧L.length=(DK τ m).length∧(L.map τ).Nodup:=by
  intro m;induction m with
  | zero=>intro _; exact ⟨[],by simp,rfl,by simp⟩
  | succ m ih=>
   intro B;obtain ⟨L,c,k,d⟩:=ih (by omega)
   by_cases hd:τ m∈DK τ m
   ·exact ⟨L,fun x hx=>by have:=c x hx; omega,by rw [lq hd,k],d⟩
   ·refine ⟨L++[m],?_,by rw [rA hd]; simp [k],?_⟩
    ·intro x hx;rcases IZ.1 hx with hx|hx
     ·have:=c x hx; omega
     ·have:=IY.1 hx; omega
    ·rw [Jh,List.nodup_append];refine ⟨d,by simp,fun a ha b hb=>?_⟩;obtain ⟨x,hx,rfl⟩:=Jt.1 ha;have hb:b=τ m:=by simpa using hb
     subst hb;exact fun e=>hd (jM.2 ⟨x,c x hx,e⟩)
 obtain ⟨L,c,k,d⟩:=first n (Nat.le_refl _);have u:(L.map (mV σ)).Nodup:=by
  refine List.pairwise_map.2 ((List.pairwise_map.1 d).imp_of_mem fun {a b} ha hb v z=>v ?_);exact h a b (c a ha) (c b hb) (fq.1 z)
 have s:∀x∈L.map (mV σ),x<(DK σ n).length:=by
  intro x hx;obtain ⟨a,ha,rfl⟩:=Jt.1 hx;exact gN (c a ha)
 refine ⟨?_,fun D i j r o w=>?_⟩
 ·have:=gH _ _ u s;simp at this; omega
 ·by_cases hc:σ i=σ j
  ·exact hc
  exfalso
  -- one of the two is new among the representatives
  have key:∀x,x<n→mV σ x∈L.map (mV σ):=by
   intro x hx
   by_cases hin:mV σ x∈L.map (mV σ)
   ·exact hin
   ·exfalso;have:=gH (DK σ n).length (mV σ x::L.map (mV σ)) (List.nodup_cons.2 ⟨hin,u⟩) (fun y hy=>by
     rcases Js.1 hy with rfl|hy
     ·exact gN hx
     ·exact s y hy)
    simp at this; omega
  obtain ⟨a,ha,g⟩:=Jt.1 (key i r);obtain ⟨b,hb,f⟩:=Jt.1 (key j o);have g:=fq.1 g;have f:=fq.1 f;have t:τ a=τ b:=by rw [h a i (c a ha) r g,w,h b j (c b hb) o f]
  have A:a=b:=by
   by_cases e:a=b
   ·exact e
   ·exfalso;obtain ⟨p,hp,rfl⟩:=Ji.1 ha;obtain ⟨q,hq,rfl⟩:=Ji.1 hb;have l:=List.pairwise_iff_getElem.1 d;rcases Nat.lt_trichotomy p q with hl|hl|hl
    ·have:=l p q (by simpa using hp) (by simpa using hq) hl;simp at this; exact this t
    ·subst hl; exact e rfl
    ·have:=l q p (by simpa using hq) (by simpa using hp) hl;simp at this; exact this t.symm
  subst A;exact hc (g.symm.trans f)
end
def lM (f:Nat→Int) (n i:Nat):List Int:=(List.range i).map f++List.replicate (n - i) 0
theorem yY {f:Nat→Int} {n i:Nat} (h:i≤n):(lM f n i).length=n:=by simp [lM]; omega
theorem yX {f:Nat→Int} {n i:Nat} (hi:i<n):(lM f n i).set i (f i)=lM f n (i+1):=by
 unfold lM;rw [List.set_append,if_neg (by simp),JD,Jh,Ja];congr 1;simp only [Jg,Jw,Nat.sub_self];obtain ⟨k,hk⟩:∃k,n - i=k+1:=⟨n - i - 1,by omega⟩;rw [hk,List.replicate_succ,List.set_cons_zero,show n - (i+1)=k by omega];rfl
theorem nW {f:Nat→Int} {n:Nat}:lM f n 0=List.replicate n 0:=by simp [lM]
theorem qc {f:Nat→Int} {n:Nat}:lM f n n=(List.range n).map f:=by simp [lM]
theorem qh {f:Nat→Int} {n i:Nat} (hi:i<n):dk (lM f n i) (i:Int) (f i)=some (lM f n (i+1)):=by
 rw [cK (by rw [yY (by omega)]; exact hi),yX hi]
section
variable {K K':Type} [DecidableEq K] [BEq K'] [LawfulBEq K']
def dh (P:K→Prop) (enc:K→K') (m:List (K'×Int)) (L:List K):Prop:=
 m.length=L.length∧∀k,P k→cb m (enc k)=if k∈L then some ((L.idxOf k:Nat):Int) else none
omit [LawfulBEq K'] in
theorem nB:∀ {m:List (K'×Int)} {k:K'} {v:Int},cb m k=none→(dQ m k v).length=m.length+1
 | [],_,_,_=>rfl
 | p::m,k,v,h=>by
  unfold dQ;cases hp:p.1 == k
  ·have:cb m k=none:=by unfold cb at h ⊢; rw [List.find?_cons,hp] at h; exact h
   simp [nB this]
  ·unfold cb at h; rw [List.find?_cons,hp] at h; simp at h
variable {P:K→Prop} {enc:K→K'} {m:List (K'×Int)} {L:List K} {k:K}
omit [LawfulBEq K'] in
theorem dh.nil:dh P enc [] ([]:List K):=⟨rfl,fun k _=>by simp [cb]⟩
omit [LawfulBEq K'] in
theorem dh.old (h:dh P enc m L) (hp:P k) (hk:k∈L):(cb m (enc k)).isSome=true∧(cb m (enc k)).getD 0=((L.idxOf k:Nat):Int):=by
 rw [h.2 k hp,if_pos hk]; exact ⟨rfl,rfl⟩
theorem dh.new (h:dh P enc m L) (inj:∀k k',P k→P k'→enc k=enc k'→k=k') (hp:P k) (a:k∉L):(cb m (enc k)).isSome=false∧dh P enc (dQ m (enc k) (L.length:Int)) (L++[k]):=by
 have b:cb m (enc k)=none:=by rw [h.2 k hp,if_neg a]
 refine ⟨by rw [b]; rfl,by rw [nB b]; simp [h.1],fun q hq=>?_⟩
 by_cases e:q=k
 ·subst e;rw [ou,if_pos (by simp),List.idxOf_append,if_neg a];simp
 ·rw [pI (fun c=>e (inj _ _ hq hp c)),h.2 q hq]
  by_cases hql:q∈L
  ·rw [if_pos hql,if_pos (by simp [hql]),List.idxOf_append,if_pos hql]
  ·rw [if_neg hql,if_neg (by simp [hql,e])]
end
end Go.Lx
namespace Go.Proofs.YtggpjcdhflcfmaaGreatDoor
open Go.Lx
def dO (d:T_DFA) (b:Nat):Int:=d.Class.getD b 0
def dK {K:Type} [DecidableEq K] (σ:Nat→K) (i:Nat):Int:=(mV σ i:Int)
def dG (d:T_DFA):T_DFA:=⟨(List.range 256).map (dK (dO d)),d.Next.map (fun r=>(DK (dO d) 256).map fun c=>r.getD c.toNat 0),d.Accept⟩
theorem qL {K K':Type} [DecidableEq K] [BEq K'] [LawfulBEq K'] {P:K→Prop} {enc:K→K'} {m:List (K'×Int)} {σ:Nat→K} {i:Nat} (h:dh P enc m (DK σ i)) (inj:∀k k',P k→P k'→enc k=enc k'→k=k') (hp:P (σ i)) :
 ((cb m (enc (σ i))).isSome=true∧(cb m (enc (σ i))).getD 0=dK σ i∧dh P enc m (DK σ (i+1))∧DK σ (i+1)=DK σ i)∨
 ((cb m (enc (σ i))).isSome=false∧((DK σ i).length:Int)=dK σ i∧dh P enc (dQ m (enc (σ i)) ((DK σ i).length:Int)) (DK σ (i+1))∧DK σ (i+1)=DK σ i++[σ i]):=by
 by_cases hm:σ i∈DK σ i
 ·obtain ⟨b,a⟩:=h.old hp hm;refine .inl ⟨b,?_,by rw [lq hm]; exact h,lq hm⟩;rw [a,dK,mV,lq hm]
 ·obtain ⟨b,a⟩:=h.new inj hp hm;exact .inr ⟨b,by rw [dK,nA hm],by rw [rA hm]; exact a,rA hm⟩
theorem yG {d:T_DFA} (h:Ok d) {b:Nat} (hb:b<256):bC d.Class (b:Int)=some (dO d b):=by
 have:=be (l:=d.Class) (i:=b) (by rw [h.cls]; exact hb);rw [this]; simp [dO,IP,h.cls,hb]
theorem eE {α β:Type} {l:List α} {i:Nat} (f:α→β) (h:i<l.length):(l.take (i+1)).map f=(l.take i).map f++[f l[i]]:=by
 rw [Jb h,Jh]; rfl
theorem Ba {d:T_DFA} (h:Ok d):M.m9 d=some (dG d):=by
 refine Is.eq ?_;unfold M.m9;have u:((d.Class.length:Nat):Int)=256:=by rw [h.cls]; rfl
 rw [u];refine Is.bnq (x:=List.replicate 256 0) (by rw [show (256:Int)=((256:Nat):Int) from rfl,dW (by omega)]; rfl) ?_;refine Is.bnd (P:=fun a=>a=(DK (dO d) 256,(List.range 256).map (dK (dO d)))) (Is.upto (fun i a=>dh (fun _=>True) id a.1 (DK (dO d) i)∧a.2=(DK (dO d) i,lM (dK (dO d)) 256 i,(i:Int))) 256 (by omega) ⟨dh.nil,by rw [nW]; rfl⟩ ?_ ?_) ?_
 ·rintro i ⟨m,_⟩ g ⟨o,rfl⟩;simp only [] at o ⊢;have hlen:=rB (dO d) i;refine Is.dt (by omega) (Is.bnq (yG h g) (Is.bnd (P:=fun r=>dh (fun _=>True) id r.1 (DK (dO d) (i+1))∧r.2=(DK (dO d) (i+1),dK (dO d) i)) ?_ ?_))
  ·rcases qL o (fun _ _ _ _ e=>e) trivial with ⟨f,n,l,q⟩|⟨f,n,l,q⟩
   ·simp only [id] at f n;rw [f,n];exact Is.cf rfl (Is.pure ⟨l,by rw [q]⟩)
   ·simp only [id] at f l;rw [f];exact Is.ct rfl (Is.bnq (bO (by simp; omega)) (Is.pure ⟨l,by rw [n,q]⟩))
  ·rintro ⟨w,_⟩ ⟨f,rfl⟩;exact Is.bnq (qh g) (Is.bnq (aK (by omega)) (Is.next ⟨f,rfl⟩))
 ·rintro ⟨m,_⟩ ⟨o,rfl⟩;exact Is.df (by omega) (Is.stop (by rw [qc]))
 have v:=rB (dO d) 256;have s:∀c∈DK (dO d) 256,0≤c∧c<(cols d:Int):=fun c k=>by
  obtain ⟨b,hb,rfl⟩:=jM.1 k;exact oF h hb
 unfold dG;generalize DK (dO d) 256=C at v s ⊢;rintro _ rfl;have hn:=h.max;refine Is.bnd (P:=fun r=>r=d.Next.map (fun r=>C.map fun c=>r.getD c.toNat 0)) (Is.upto (fun i a=>a=((d.Next.take i).map (fun r=>C.map fun c=>r.getD c.toNat 0),(i:Int))) d.Next.length (by omega) (by simp) ?_ ?_) ?_
 ·rintro i _ g rfl;simp only [];refine Is.dt (by omega) (Is.bnd (P:=fun r=>r=(d.Next.take (i+1)).map (fun r=>C.map fun c=>r.getD c.toNat 0)) ?_ ?_)
  ·refine Is.bnq (be g) (Is.bnd (P:=fun r=>r=C.map fun c=>d.Next[i].getD c.toNat 0) (Is.upto (fun j a=>a=((C.take j).map (fun c=>d.Next[i].getD c.toNat 0),(j:Int))) C.length (by omega) (by simp) ?_ ?_) ?_)
   ·rintro j _ p rfl;simp only [];have k:=s _ (IU p);have t:=h.row _ (IU g);refine Is.dt (by omega) (Is.bnq (be p) (Is.bnq (eh (d:=0) k.1 (by rw [t.1]; exact k.2)) (Is.bnq (bO (by simp; omega)) (Is.bnq (aK (by omega)) (Is.next ?_)))));rw [eE _ p]
   ·rintro _ rfl;exact Is.df (by simp) (Is.stop (by simp))
   ·rintro _ rfl;refine Is.bnq (bO (by simp; omega)) (Is.pure ?_);rw [eE _ g]
  ·rintro _ rfl;exact Is.bnq (aK (by omega)) (Is.next rfl)
 ·rintro _ rfl;exact Is.df (by simp) (Is.stop (by simp))
 ·rintro _ rfl;exact Is.pure rfl
def Full (d:T_DFA):Prop:=∀c,c<cols d→∃b,b<256∧dO d b=(c:Int)
section
variable {d:T_DFA} (h:Ok d)
include h
omit h in
theorem sj {b:Nat} (hb:b<256):dO (dG d) b=dK (dO d) b:=by simp [dO,dG,IP,hb]
omit h in
theorem sh {s:Nat} (hs:s<d.Next.length):(dG d).Next.getD s []=(DK (dO d) 256).map fun c=>(d.Next.getD s []).getD c.toNat 0:=by
 simp [dG,IP,hs]
theorem jx:cols (dG d)=(DK (dO d) 256).length:=by
 unfold cols;rw [sh (by have:=h.pos; omega),Jg]
omit h in
theorem vu {s:Int} (hs:qX d s) {b:Nat} (hb:b<256):bM (dG d) s b=bM d s b:=by
 unfold bM;split
 ·rfl
 ·rename_i h0;rw [sh (by have:=hs.2; omega)];have e:(dG d).Class.getD b 0=dK (dO d) b:=sj hb;rw [e];simp only [dK,Jl];rw [IP,Jx,FJ hb];rfl
theorem pZ:Full (dG d):=by
 intro c hc;rw [jx h] at hc;obtain ⟨b,hb,e,_⟩:=zt hc;exact ⟨b,hb,by rw [sj hb,dK,e]⟩
theorem ug:Ok (dG d) where
 cls:=by simp [dG]
 pos:=by simpa [dG] using h.pos
 max:=by simpa [dG] using h.max
 acc:=by simpa [dG] using h.acc
 col:=by
  rw [jx h];have:=gN (σ:=dO d) (i:=0) (j:=256) (by omega);omega
 inc c a:=by
  simp only [dG,Jt,Ju] at a;obtain ⟨b,hb,rfl⟩:=a;rw [jx h];have:=gN (σ:=dO d) hb;exact ⟨by simp [dK],by simp [dK]; omega⟩
 row r hr:=by
  simp only [dG,Jt] at hr;obtain ⟨q,hq,rfl⟩:=hr;have f:=h.row q hq;refine ⟨by rw [Jg,jx h],fun t e=>?_⟩;simp only [Jt] at e;obtain ⟨c,a,rfl⟩:=e;obtain ⟨b,hb,rfl⟩:=jM.1 a;have:=oF h hb;have:=f.2 _ (cW (l:=q) (d:=0) (i:=(dO d b).toNat) (by rw [f.1]; unfold dO; omega));simpa [dG] using this
 accs:=h.accs
end
def rF (d:T_DFA) (s:Int) (w:Str):Int:=eK d (walkN d s w)
def Live (d:T_DFA) (s:Int):Prop:=∃w,0≤rF d s w
theorem lz (d:T_DFA) (s:Int):rF d s []=eK d s:=rfl
theorem ee (d:T_DFA) (s:Int) (c:UInt8) (w:Str):rF d s (c::w)=rF d (bM d s c.toNat) w:=rfl
theorem jA {d:T_DFA} {s:Int} (hs:s<0) (w:Str):rF d s w=-1:=by
 induction w generalizing s with
 | nil=>simp [rF,walkN,eK,hs]
 | cons c w ih=>rw [ee]; exact ih (by unfold bM; rw [if_pos hs]; omega)
theorem Cq {d:T_DFA} (h:Ok d) {s:Int} (hs:qX d s):-1≤eK d s:=by
 unfold eK;split
 ·omega
 ·exact h.accs _ (cW (by rw [h.acc]; have:=hs.2; omega))
theorem Dh {d:T_DFA} (h:Ok d) {s:Int} (hs:qX d s) (w:Str):-1≤rF d s w:=Cq h (fD h hs w)
theorem xS {d:T_DFA} (h:Ok d) {s:Int} (hs:qX d s) (w:Str):rF (dG d) s w=rF d s w:=by
 induction w generalizing s with
 | nil=>rfl
 | cons c w ih=>
  rw [ee,ee,vu hs c.toNat_lt];exact ih (cT h hs c.toNat_lt)
theorem ut {d:T_DFA} (h:Ok d) (hf:Full d) {s c:Nat} (hs:s<d.Next.length) (hc:c<cols d):∃b,b<256∧bM d (s:Int) b=(d.Next.getD s []).getD c 0:=by
 obtain ⟨b,hb,e⟩:=hf c hc;refine ⟨b,hb,?_⟩;unfold bM;unfold dO at e;rw [if_neg (by omega),e]; simp
theorem qe {d:T_DFA} (h:Ok d) {s b:Nat} (hs:s<d.Next.length) (hb:b<256):∃c,c<cols d∧dO d b=(c:Int)∧bM d (s:Int) b=(d.Next.getD s []).getD c 0:=by
 have:=oF h hb;refine ⟨(dO d b).toNat,by unfold dO; omega,by unfold dO; omega,?_⟩;unfold bM;rw [if_neg (by omega)]; simp [dO]
theorem lf {d:T_DFA} (hf:Full d):cols d≤256:=by
 -- each column's byte
 have key:∀n,n≤cols d→∃l:List Nat,l.length=n∧(∀x∈l,x<256)∧l.map (dO d)=(List.range n).map (fun (i:Nat)=>(i:Int)):=by
  intro n;induction n with
  | zero=>intro _; exact ⟨[],rfl,by simp,rfl⟩
  | succ n ih=>
   intro hn;obtain ⟨l,h,g,f⟩:=ih (by omega);obtain ⟨b,hb,e⟩:=hf n (by omega);refine ⟨l++[b],by simp [h],fun x hx=>?_,by rw [Jh,f,JD,Jh]; simp [e]⟩;rcases IZ.1 hx with hx|hx
   ·exact g x hx
   ·rw [IY.1 hx]; exact hb
 obtain ⟨l,h,g,f⟩:=key (cols d) (Nat.le_refl _);have hn:l.Nodup:=by
  have:(l.map (dO d)).Nodup:=by
   rw [f];refine List.pairwise_map.2 (List.nodup_range.imp fun {a b} c j=>c ?_);omega
  exact List.Pairwise.of_map (dO d) (fun a b c e=>c (by rw [e])) this
 have:=gH 256 l hn g;omega
theorem BV {d:T_DFA} (h:Ok d) (hf:Full d):cols d≤9223372036854775807:=by have:=lf hf; omega
def bad (l:List Bool) (t:Int):Bool:=decide (0≤t) && !(l.getD t.toNat false)
def jQ (l:List Bool):Nat:=l.countP (fun b=>!b)
theorem wm {l:List Bool} {i:Nat} (hi:i<l.length) (h:l[i]=false):jQ (l.set i true)+1=jQ l:=by
 unfold jQ;induction l generalizing i with
 | nil=>simp at hi
 | cons a l ih=>
  cases i with
  | zero=>simp at h; subst h; simp
  | succ i=>
   have:=ih (i:=i) (by simpa using hi) (by simpa using h);simp only [List.set_cons_succ,List.countP_cons];omega
theorem yA (l:List Bool):jQ l≤l.length:=List.countP_le_length
theorem zI {l:List Bool} {t:Int} (ht:t<l.length):M.j4 t l=some (decide (0≤t) && l.getD t.toNat false):=by
 refine Is.eq ?_;unfold M.j4;refine Is.bnd (P:=fun b=>b=(decide (0≤t) && l.getD t.toNat false)) (Is.dcd (fun h=>?_) fun h=>Is.pure ?_) (fun b hb=>Is.pure hb)
 ·exact Is.bnq (eh (d:=false) h ht) (Is.pure (by simp [h]))
 ·simp [h]
def tT (d:T_DFA) (l:List Bool) (s:Nat):Prop:=∀t∈d.Next.getD s [],0≤t→l.getD t.toNat false=true→l.getD s false=true
theorem BD {d:T_DFA} (h:Ok d) (hf:Full d):Is (M.n0 d) (fun l=>l.length=d.Next.length∧∀s,s<d.Next.length→(l.getD s false=true↔Live d (s:Int))):=by
 unfold M.n0;have a5:=h.max;have hacc:=h.acc;refine Is.bnq (dW (by omega)) ?_;refine Is.bnd (P:=fun l=>l.length=d.Next.length∧∀s,s<d.Next.length→l.getD s false=decide (0≤d.Accept.getD s 0))
  (Is.upto (fun i f=>f.2=(i:Int)∧f.1.length=d.Next.length∧∀s,s<i→f.1.getD s false=decide (0≤d.Accept.getD s 0)) d.Accept.length (by omega) ⟨rfl,by simp,by omega⟩ ?_ ?_) ?_
 ·rintro i ⟨l,_⟩ v ⟨rfl,g,z⟩;simp only [] at g z ⊢;refine Is.dt (by omega) (Is.bnq (be v) (Is.bnq (cK (by omega)) (Is.bnq (aK (by omega)) (Is.next ⟨rfl,by simpa using g,fun s hs=>?_⟩))));simp only [IP,Jy]
  by_cases e:i=s
  ·subst e;rw [if_pos rfl,if_pos (by omega)];simp [v]
  ·rw [if_neg e];have:=z s (by omega);simpa [IP] using this
 ·rintro ⟨l,_⟩ ⟨rfl,g,z⟩;exact Is.df (by omega) (Is.stop ⟨g,fun s hs=>z s (by omega)⟩)
 intro R ⟨Y,F⟩;have Q:∀s:Nat,s<d.Next.length→R.getD s false=true→Live d (s:Int):=fun s hs g=>⟨[],by
  rw [F s hs] at g;have g:=of_decide_eq_true g;rw [lz]; unfold eK;rw [if_neg (by omega)]; simpa using g⟩
 refine Is.bnd (P:=fun l=>l.length=d.Next.length∧∀s,s<d.Next.length→(l.getD s false=true↔Live d (s:Int))) ?_ (fun l hl=>Is.pure hl)
 -- what holds all the time
 let G:List Bool→Prop:=fun l=>l.length=d.Next.length∧(∀s,s<d.Next.length→l.getD s false=true→Live d (s:Int))∧∀s,s<d.Next.length→0≤d.Accept.getD s 0→l.getD s false=true
 refine Is.while (fun f=>G f.1∧(f.2=false→∀s,s<d.Next.length→tT d f.1 s)) (fun f=>2*jQ f.1+(bif f.2 then 1 else 0)) ⟨⟨Y,Q,fun s hs ha=>by rw [F s hs]; simpa using ha⟩,fun h=>by cases h⟩ (by have:=yA R; simp only [cond_true]; omega) ?_;rintro ⟨l,U⟩ ⟨D,y⟩;simp only [] at D y ⊢;cases U
 ·-- the end
  refine Is.cf rfl (Is.stop ⟨D.1,fun s hs=>⟨D.2.1 s hs,fun ⟨w,m⟩=>?_⟩⟩);have y:=y rfl;clear F Q;induction w generalizing s with
  | nil=>
   rw [lz] at m; unfold eK at m;rw [if_neg (by omega)] at m;exact D.2.2 s hs (by simpa using m)
  | cons c w ih=>
   rw [ee] at m;obtain ⟨k,hk,_,e⟩:=qe h hs c.toNat_lt;have S:=cT h (s:=(s:Int)) ⟨by omega,by omega⟩ c.toNat_lt
   by_cases K:bM d (s:Int) c.toNat<0
   ·rw [jA K] at m; omega
   ·obtain ⟨t,q⟩:=Jn (show 0≤bM d (s:Int) c.toNat by omega);rw [q] at m S;have V:t<d.Next.length:=by have:=S.2; omega
    have:=ih t V ⟨w,m⟩ m;refine y s hs (t:Int) ?_ (by omega) (by simpa using this);have e2:(t:Int)=(d.Next.getD s []).getD k 0:=by rw [←e,q]
    rw [e2];exact cW (by rw [(eL h hs).1]; exact hk)
 ·-- a round
  refine Is.ct rfl (Is.upto (fun i f=>f.2.2=(i:Int)∧G f.1∧((f.2.1=true∧jQ f.1<jQ l)∨(f.2.1=false∧f.1=l∧∀s,s<i→tT d l s))) d.Next.length (by omega) ⟨rfl,D,.inr ⟨rfl,rfl,fun s hs=>by omega⟩⟩ ?_ ?_)
  ·rintro i ⟨o,T,_⟩ v ⟨rfl,j,u⟩;simp only [] at j u ⊢;have B:i<o.length:=by rw [j.1]; exact v
   have A:=eL h v;have I:d.Next.getD i []=d.Next[i]:=by simp [IP,v]
   rw [I] at A;refine Is.dt (by omega) (Is.bnd (P:=fun r=>G r.1∧((r.2=true∧jQ r.1<jQ l)∨(r.2=false∧r.1=l∧∀s,s<i+1→tT d l s))) ?_ ?_)
   ·refine Is.bnq (be v) (Is.bnd (P:=fun b=>b=(!o[i] && d.Next[i].any fun t=>decide (0≤t) && o.getD t.toNat false)) ?_ ?_)
    ·refine Is.bnq (be B) (Is.cnd (fun e=>?_) fun e=>Is.pure (by rw [e]; rfl));refine Is.bnq (oS (p:=fun t=>decide (0≤t) && o.getD t.toNat false) (fun x hx=>zI (by rw [j.1]; exact (A.2 x hx).2)) ?_) (Is.pure (by rw [e]; simp));rw [A.1];exact BV h hf
    ·rintro _ rfl;cases hv:(!o[i] && d.Next[i].any fun t=>decide (0≤t) && o.getD t.toNat false)
     ·refine Is.cf rfl (Is.pure ⟨j,?_⟩);rcases u with u|⟨N,rfl,J⟩
      ·exact .inl u
      ·refine .inr ⟨N,rfl,fun s hs=>?_⟩
       by_cases es:s=i
       ·subst es;intro t q K W;rw [I] at q;have X:o.getD s false=o[s]:=by simp [IP,B]
        rw [X];cases hls:o[s]
        ·rw [hls] at hv;simp only [Bool.not_false,Bool.true_and] at hv;have:=List.any_eq_false.1 hv t q;rw [dL K,W] at this;simp at this
        ·rfl
       ·exact J s (by omega)
     ·refine Is.ct rfl (Is.bnq (cK B) (Is.pure ⟨⟨by simpa using j.1,fun s hs=>?_,fun s hs ha=>?_⟩,.inl ⟨rfl,?_⟩⟩))
      ·simp only [IP,Jy]
       by_cases e:i=s
       ·subst e;intro _;simp only [Bool.and_eq_true] at hv;obtain ⟨t,q,H⟩:=List.any_eq_true.1 hv.2;simp only [Bool.and_eq_true,decide_eq_true_eq] at H;obtain ⟨n,rfl⟩:=Jn H.1;have hn:n<d.Next.length:=by have:=(A.2 _ q).2; omega
        obtain ⟨w,m⟩:=j.2.1 n hn (by simpa using H.2);obtain ⟨c,y,ec⟩:=Ji.1 q;obtain ⟨b,hb,L⟩:=ut h hf v (c:=c) (by rw [←A.1]; exact y);rw [I] at L;have:(d.Next[i]).getD c 0=(n:Int):=by simp [IP,y,ec]
        rw [this] at L;refine ⟨UInt8.ofNat b::w,?_⟩;have N:(UInt8.ofNat b).toNat=b:=by simp; omega
        rw [ee,N,L]; exact m
       ·rw [if_neg e];have:=j.2.1 s hs;simpa [IP] using this
      ·simp only [IP,Jy]
       by_cases e:i=s
       ·subst e; rw [if_pos rfl,if_pos B]; rfl
       ·rw [if_neg e];have:=j.2.2 s hs ha;simpa [IP] using this
      ·have a6:=wm B (by simp at hv; exact hv.1);rcases u with ⟨_,g⟩|⟨_,rfl,_⟩ <;> simp only [] <;> omega
   ·rintro ⟨l2,m2⟩ ⟨g,z⟩;exact Is.bnq (aK (by omega)) (Is.next ⟨rfl,g,z⟩)
  ·rintro ⟨o,T,_⟩ ⟨rfl,j,u⟩;simp only [] at j u ⊢;refine Is.df (by omega) (Is.stop ?_);rcases u with ⟨rfl,g⟩|⟨rfl,rfl,J⟩
   ·exact ⟨⟨j,fun h=>by cases h⟩,by simp only [cond_true]; omega⟩
   ·exact ⟨⟨j,fun _=>J⟩,by simp only [cond_true,cond_false]; omega⟩
def co (l:List Bool) (d:T_DFA):T_DFA:=⟨d.Class,d.Next.map (·.map fun t=>if bad l t then -1 else t),d.Accept⟩
theorem Ac {l:List Int} (h:l.length*8≤140737488355328):M.d7 l=some l:=by
 unfold M.d7;rw [bO (by simpa using h)]; rfl
theorem yh {d:T_DFA} (h:Ok d) (hf:Full d):Is (M.l6 d) (fun e=>∃l:List Bool,e=co l d∧∀s,s<d.Next.length→(l.getD s false=true↔Live d (s:Int))):=by
 unfold M.l6;have v:=h.max;have w:=lf hf;refine Is.bnd (BD h hf) fun l ⟨hl,o⟩=>?_
 refine Is.bnd (P:=fun r=>r=(co l d).Next) (Is.upto (fun i f=>f=((d.Next.take i).map (·.map fun t=>if bad l t then -1 else t),(i:Int))) d.Next.length (by omega) (by simp) ?_ ?_) ?_
 ·rintro i _ g rfl;simp only [];have m:=h.row _ (IU g);generalize hq:d.Next[i]=q at m;refine Is.dt (by omega) (Is.bnd (P:=fun r=>r=(d.Next.take (i+1)).map (·.map fun t=>if bad l t then -1 else t)) ?_ ?_)
  ·refine Is.bnq ((be g).trans (congrArg some hq)) (Is.bnq (Ac (by omega)) (Is.bnd (P:=fun r=>r=q.map fun t=>if bad l t then -1 else t)
    (Is.upto (fun j f=>f=((q.take j).map (fun t=>if bad l t then -1 else t)++q.drop j,(j:Int))) q.length (by omega) (by simp) ?_ ?_) ?_))
   ·rintro j _ a rfl;simp only [];have p:=m.2 _ (IU a);generalize hA:(q.take j).map (fun t=>if bad l t then -1 else t)=A;have k:A.length=j:=by rw [←hA]; simp; omega
    have n:q.drop j=q[j]::q.drop (j+1):=List.drop_eq_getElem_cons a;have hlen:(A++q.drop j).length=q.length:=by simp [k]; omega
    have u:bC (A++q.drop j) (j:Int)=some q[j]:=by
     rw [be (by rw [hlen]; exact a)];simp [List.getElem_append_right,k]
    refine Is.dt (by omega) (Is.bnd (P:=fun r=>r=(q.take (j+1)).map (fun t=>if bad l t then -1 else t)++q.drop (j+1)) ?_ ?_)
    ·rw [eE _ a,hA];refine Is.bnq u (Is.bnd (P:=fun b=>b=bad l q[j]) (Is.dcd (fun c=>Is.bnq (eh (d:=false) c (by rw [hl]; exact p.2)) (Is.pure (by simp [bad,c]))) fun c=>Is.pure (by simp [bad,c])) ?_);rintro _ rfl;cases hb:bad l q[j]
     ·refine Is.cf rfl (Is.pure ?_);rw [n]; simp
     ·refine Is.ct rfl (Is.bnq (cK (by rw [hlen]; exact a)) (Is.pure ?_));rw [n,List.set_append,if_neg (by omega),k,Nat.sub_self,List.set_cons_zero,if_pos rfl,Ja]; rfl
    ·rintro _ rfl;exact Is.bnq (aK (by omega)) (Is.next rfl)
   ·rintro _ rfl;exact Is.df (by simp) (Is.stop (by simp))
   ·rintro _ rfl;refine Is.bnq (bO (by simp; omega)) (Is.pure ?_);rw [eE _ g,hq]
  ·rintro _ rfl;exact Is.bnq (aK (by omega)) (Is.next rfl)
 ·rintro _ rfl;exact Is.df (by simp) (Is.stop (by simp [co]))
 ·rintro _ rfl;exact Is.pure ⟨l,rfl,o⟩
section
variable {d:T_DFA} {l:List Bool} (h:Ok d) (hl:∀s,s<d.Next.length→(l.getD s false=true↔Live d (s:Int)))
theorem pE (hp:1≤d.Next.length):cols (co l d)=cols d:=by
 simp [cols,co,IP,show 0<d.Next.length by omega]
include h in
theorem Eu:Ok (co l d) where
 cls:=h.cls
 pos:=by simpa [co] using h.pos
 max:=by simpa [co] using h.max
 acc:=by simpa [co] using h.acc
 col:=by rw [pE h.pos]; exact h.col
 inc c a:=by rw [pE h.pos]; exact h.inc c a
 row r hr:=by
  simp only [co,Jt] at hr;obtain ⟨q,hq,rfl⟩:=hr;have e:=h.row q hq;have hp:=h.pos;refine ⟨by rw [Jg,pE h.pos]; exact e.1,fun t b=>?_⟩;simp only [Jt] at b;obtain ⟨c,a,rfl⟩:=b;have:=e.2 c a;simp only [co,Jg];split
  ·exact ⟨by omega,by omega⟩
  ·exact this
 accs:=h.accs
include h in
theorem xj {s:Int} (hs:qX d s) {b:Nat} (hb:b<256):bM (co l d) s b=if bad l (bM d s b) then -1 else bM d s b:=by
 unfold bM
 by_cases e:s<0
 ·simp only [if_pos e,bad];rw [eu (by omega)]; simp
 ·simp only [if_neg e];have a:s.toNat<d.Next.length:=by have:=hs.2; omega
  have c:=eL h a;have g:=oF h hb;have j:(co l d).Next.getD s.toNat []=(d.Next.getD s.toNat []).map fun t=>if bad l t then -1 else t:=by
   simp [co,IP,a]
  have i:(co l d).Class=d.Class:=rfl;rw [j,i];generalize d.Next.getD s.toNat []=q at c ⊢;generalize d.Class.getD b 0=cc at g ⊢;rw [IP,Jx,IP];have f:cc.toNat<q.length:=by rw [c.1]; omega
  rw [IQ f]; rfl
include h hl in
theorem zl {s:Int} (hs:qX d s) (w:Str):rF (co l d) s w=rF d s w:=by
 induction w generalizing s with
 | nil=>rfl
 | cons c w ih=>
  rw [ee,ee,xj h hs c.toNat_lt];have a:=cT h hs c.toNat_lt;split
  ·rename_i hb;rw [jA (by omega)];simp only [bad,Bool.and_eq_true,decide_eq_true_eq,Bool.not_eq_true'] at hb;have e:=Dh h a w
   by_cases hlt:0≤rF d (bM d s c.toNat) w
   ·exfalso;obtain ⟨t,b⟩:=Jn hb.1;rw [b] at hlt hb a;have:=(hl t (by have:=a.2; omega)).2 ⟨w,hlt⟩;simp only [Jl] at hb;rw [this] at hb; cases hb.2
   ·omega
  ·exact ih a
include h hl in
theorem Bv {s:Int} (hs:qX d s) {b:Nat} (hb:b<256) (a:0≤bM (co l d) s b):Live (co l d) (bM (co l d) s b):=by
 rw [xj h hs hb] at a ⊢;have c:=cT h hs hb;split at a
 ·omega
 ·rename_i hb';rw [if_neg hb'];simp only [bad,dL a,Bool.true_and,Bool.not_eq_true',Bool.not_eq_false] at hb';obtain ⟨t,f⟩:=Jn a;rw [f] at hb' c ⊢;obtain ⟨w,e⟩:=(hl t (by have:=c.2; omega)).1 (by simpa using hb');exact ⟨w,by rw [zl h hl c]; exact e⟩
end
theorem Bw {d:T_DFA} {l:List Bool} (h:Ok d) (hf:Full d):Full (co l d):=by
 intro c hc;rw [pE h.pos] at hc;exact hf c hc
theorem km (n:Int):IntKind.u8.wrap n=n % 256:=by simp [IntKind.wrap,IntKind.bits,IntKind.signed]
def Ci (n:Int) (j:Nat):Int:=IntKind.u8.wrap (n / 2 ^ (8*j))
def iM (n:Int):List Int:=(List.range 8).map (Ci n)
def jW (l:List Int):Str:=cX (l.flatMap iM)
theorem pz {l:List Int} (hl:l.length≤1000000):M.i0 l=some (jW l):=by
 refine Is.eq ?_;unfold M.i0;have d:∀i,((l.take i).flatMap iM).length≤8*l.length:=by
  intro i;have:∀q:List Int,(q.flatMap iM).length=8*q.length:=by
   intro q;induction q with
   | nil=>rfl
   | cons a q ih=>rw [List.flatMap_cons,IW,ih]; simp [iM]; omega
  rw [this]; simp; omega
 refine Is.bnd (P:=fun r=>r=l.flatMap iM) (Is.upto (fun i b=>b=((l.take i).flatMap iM,(i:Int))) l.length (by omega) (by simp) ?_ ?_) ?_
 ·rintro i _ c rfl;simp only [];have hf:=d i;refine Is.dt (by omega) (Is.bnd (P:=fun r=>r=(l.take (i+1)).flatMap iM) ?_ ?_)
  ·refine Is.bnq (be c) (Is.upto (fun j b=>b=((l.take i).flatMap iM++(List.range j).map (Ci l[i]),(j:Int))) 8 (by omega) (by simp) ?_ ?_)
   ·rintro j _ e rfl;simp only [];refine Is.dt (by omega) (Is.bnq (dX (by omega) (by omega)) (Is.bnq (x:=l[i] / 2 ^ (8*j)) ?_ (Is.bnq (bO (by rw [IW]; simp only [Jg,Jw,IT]; omega)) (Is.bnq (aK (by omega)) (Is.next ?_)))))
    ·unfold rJ;rw [if_pos (by omega)];have:min (8*(j:Int)).toNat IntKind.i64.bits=8*j:=by show min _ 64=_; omega
     rw [this]
    ·rw [JD,Jh,Ja]; rfl
   ·rintro _ rfl;refine Is.df (by simp) (Is.stop ?_);rw [Jb c,List.flatMap_append]; simp [iM]
  ·rintro _ rfl;exact Is.bnq (aK (by omega)) (Is.next rfl)
 ·rintro _ rfl;exact Is.df (by simp) (Is.stop (by simp))
 ·rintro _ rfl;exact Is.pure rfl
def tY (n:Int):Prop:=-9223372036854775808≤n∧n≤9223372036854775807
theorem xQ {n m:Int} (hn:tY n) (b:tY m) (h:∀j,j<8→Ci n j=Ci m j):n=m:=by
 have key:∀j,j≤7→n / 2 ^ (8*(7 - j))=m / 2 ^ (8*(7 - j)):=by
  intro j;induction j with
  | zero=>
   intro _;have:=h 7 (by omega);unfold Ci at this;rw [km,km] at this;simp only [tY] at hn b;simp only [Nat.sub_zero,Nat.reduceMul,Int.reducePow] at this ⊢;omega
  | succ j ih=>
   intro d;have c:=ih (by omega);have a:=h (7 - (j+1)) (by omega);unfold Ci at a;rw [km,km] at a;have e:2 ^ (8*(7 - j))=(2:Int) ^ (8*(7 - (j+1)))*256:=by
    rw [show 8*(7 - j)=8*(7 - (j+1))+8 by omega,Int.pow_add]; rfl
   rw [e,←Int.ediv_ediv_of_nonneg (Int.pow_nonneg (by omega)),←Int.ediv_ediv_of_nonneg (Int.pow_nonneg (by omega))] at c;omega
 have:=key 7 (by omega);simpa using this
theorem Ak (n:Int) (j:Nat):0≤Ci n j∧Ci n j<256:=by unfold Ci; rw [km]; omega
theorem ym {a b:Int} (ha:0≤a∧a<256) (hb:0≤b∧b<256) (h:UInt8.ofNat a.toNat=UInt8.ofNat b.toNat):a=b:=by
 have:=congrArg UInt8.toNat h;simp at this;omega
theorem nU:∀ {l k:List Int},(∀x∈l,tY x)→(∀x∈k,tY x)→jW l=jW k→l=k
 | [],[],_,_,_=>rfl
 | [],b::k,_,_,h=>by
  have:=congrArg List.length h;simp [jW,cX,iM] at this;omega
 | a::l,[],_,_,h=>by
  have:=congrArg List.length h;simp [jW,cX,iM] at this
 | a::l,b::k,hl,hk,h=>by
  simp only [jW,cX,List.flatMap_cons,Jh] at h;obtain ⟨e,d⟩:=List.append_inj h (by simp [iM]);have f:l=k:=nU (fun x hx=>hl x (by simp [hx])) (fun x hx=>hk x (by simp [hx])) d;have g:a=b:=by
   refine xQ (hl a (by simp)) (hk b (by simp)) fun j c=>?_
   have:=congrArg (fun q=>q[j]?) e;simp [iM,c] at this;exact ym (Ak a j) (Ak b j) this
  rw [g,f]
def xO (d:T_DFA) (s t:Int):Prop:=∀w,rF d s w=rF d t w
def AllLive (d:T_DFA):Prop:=∀s b,qX d s→b<256→0≤bM d s b→Live d (bM d s b)
def gp (p:List Int) (s:Nat):Int:=p.getD s 0
def yS (p:List Int) (t:Int):Int:=if t<0 then 0 else p.getD t.toNat 0+1
def ff (d:T_DFA) (p:List Int) (s:Nat):List Int:=[gp p s,IntKind.i64.wrap (d.Accept.getD s 0+1)]++(d.Next.getD s []).map (yS p)
structure PartOk (d:T_DFA) (p:List Int):Prop where
  len:p.length=d.Next.length
  lt:∀s,s<d.Next.length→0≤gp p s∧gp p s<(d.Next.length:Int)
  eq:∀s t,s<d.Next.length→t<d.Next.length→(gp p s=gp p t↔xO d (s:Int) (t:Int))
theorem xO.step {d:T_DFA} {s t:Int} (h:xO d s t) {b:Nat} (hb:b<256):xO d (bM d s b) (bM d t b):=fun w=>by
 have:=h (UInt8.ofNat b::w);have e1:(UInt8.ofNat b).toNat=b:=by simp; omega
 rwa [ee,ee,e1] at this
theorem xO.neg {d:T_DFA} {s t:Int} (h:xO d s t) (hs:s<0) (hl:0≤t→Live d t):t<0:=by
 by_cases ht:0≤t
 ·obtain ⟨w,hw⟩:=hl ht;have:=h w;rw [jA hs] at this; omega
 ·omega
theorem xO.symm {d:T_DFA} {s t:Int} (h:xO d s t):xO d t s:=fun w=>(h w).symm
theorem xx {l:List Int} {c:Nat} (h:c<l.length):l[c]?=some (l.getD c 0):=by
 rw [IP,IQ h]; rfl
theorem na {d:T_DFA} {s b c:Nat} (e:dO d b=(c:Int)):bM d (s:Int) b=(d.Next.getD s []).getD c 0:=by
 unfold bM;unfold dO at e;rw [if_neg (by omega),e]; rfl
section
variable {d:T_DFA} (h:Ok d) (hf:Full d) (hal:AllLive d) (hacc:∀a∈d.Accept,a≤9223372036854775807)
include h hf hal in
theorem qV {p:List Int} (hp:∀s t,s<d.Next.length→t<d.Next.length→xO d (s:Int) (t:Int)→gp p s=gp p t) {s t:Nat} (hs:s<d.Next.length) (k:t<d.Next.length) (i:xO d (s:Int) (t:Int)):ff d p s=ff d p t:=by
 unfold ff;have ha:d.Accept.getD s 0=d.Accept.getD t 0:=by
  have:=i [];simp only [lz,eK] at this;rw [if_neg (by omega),if_neg (by omega)] at this;simpa using this
 rw [hp s t hs k i,ha];congr 1;have m:=eL h hs;have l:=eL h k;apply List.ext_getElem?;intro c;rw [Jx,Jx]
 by_cases hc:c<cols d
 rotate_left
 ·rw [Jr (by rw [m.1]; omega),Jr (by rw [l.1]; omega)]
 obtain ⟨b,hb,e⟩:=hf c hc;rw [xx (by rw [m.1]; exact hc),xx (by rw [l.1]; exact hc),←na e,←na e];simp only [Option.map_some,Option.some.injEq];have g:=i.step hb;have q:=cT h (s:=(s:Int)) ⟨by omega,by omega⟩ hb;have o:=cT h (s:=(t:Int)) ⟨by omega,by omega⟩ hb;have j:=hal (s:Int) b ⟨by omega,by omega⟩ hb;have n:=hal (t:Int) b ⟨by omega,by omega⟩ hb;unfold yS
 by_cases a:bM d (s:Int) b<0
 ·rw [if_pos a,if_pos (g.neg a n)]
 ·rw [if_neg a,if_neg (fun f=>a (g.symm.neg f j))];congr 1;have u:((bM d (s:Int) b).toNat:Int)=bM d (s:Int) b:=by omega
  have f:¬ bM d (t:Int) b<0:=fun f=>a (g.symm.neg f j)
  have r:((bM d (t:Int) b).toNat:Int)=bM d (t:Int) b:=by omega
  have:=hp (bM d (s:Int) b).toNat (bM d (t:Int) b).toNat (by have:=q.2; omega) (by have:=o.2; omega) (by rw [u,r]; exact g);exact this
include h hacc in
theorem wq {p:List Int} (v:∀s,s<d.Next.length→0≤gp p s) (r:∀s t,s<d.Next.length→t<d.Next.length→gp p s=gp p t→ff d p s=ff d p t) (w:Str):∀s t,s<d.Next.length→t<d.Next.length→gp p s=gp p t→rF d (s:Int) w=rF d (t:Int) w:=by
 induction w with
 | nil=>
  intro s t hs a j;have b:=r s t hs a j;simp only [ff,Je,Jd,List.cons.injEq] at b;have g:=b.2.1;have u:=cW (l:=d.Accept) (i:=s) (d:=0) (by rw [h.acc]; exact hs);have o:=cW (l:=d.Accept) (i:=t) (d:=0) (by rw [h.acc]; exact a);have I:=h.accs _ u;have H:=h.accs _ o;have G:=hacc _ u;have F:=hacc _ o;rw [IntKind.wrap_i64,IntKind.wrap_i64] at g;simp only [lz,eK];rw [if_neg (by omega),if_neg (by omega)];simp only [Jl];omega
 | cons c w ih=>
  intro s t hs a j;have b:=r s t hs a j;simp only [ff,Je,Jd,List.cons.injEq] at b;have g:=b.2.2;rw [ee,ee];obtain ⟨k,x,A,D⟩:=qe h hs c.toNat_lt;have B:bM d (t:Int) c.toNat=(d.Next.getD t []).getD k 0:=na A;have z:=eL h hs;have y:=eL h a;have hn:yS p (bM d (s:Int) c.toNat)=yS p (bM d (t:Int) c.toNat):=by
   rw [D,B];have:=congrArg (fun q=>q[k]?) g;simp only [Jx] at this;rw [xx (by rw [z.1]; exact x),xx (by rw [y.1]; exact x)] at this;simpa only [Option.map_some,Option.some.injEq] using this
  have n:=cT h (s:=(s:Int)) ⟨by omega,by omega⟩ c.toNat_lt;have m:=cT h (s:=(t:Int)) ⟨by omega,by omega⟩ c.toNat_lt;unfold yS at hn
  by_cases f:bM d (s:Int) c.toNat<0 <;> by_cases e:bM d (t:Int) c.toNat<0
  ·rw [jA f,jA e]
  ·rw [if_pos f,if_neg e] at hn;have:=v (bM d (t:Int) c.toNat).toNat (by have:=m.2; omega);unfold gp at this; omega
  ·rw [if_neg f,if_pos e] at hn;have:=v (bM d (s:Int) c.toNat).toNat (by have:=n.2; omega);unfold gp at this; omega
  ·rw [if_neg f,if_neg e] at hn;have:=ih (bM d (s:Int) c.toNat).toNat (bM d (t:Int) c.toNat).toNat (by have:=n.2; omega) (by have:=m.2; omega) (by unfold gp; omega)
   rwa [show ((bM d (s:Int) c.toNat).toNat:Int)=bM d (s:Int) c.toNat by omega,show ((bM d (t:Int) c.toNat).toNat:Int)=bM d (t:Int) c.toNat by omega] at this
include h hf in
theorem BH {p:List Int} (b:∀s,s<d.Next.length→0≤gp p s∧gp p s<(d.Next.length:Int)) {s:Nat} (hs:s<d.Next.length):(∀x∈ff d p s,tY x)∧(ff d p s).length≤1000000:=by
 have c:=h.max;have a:=eL h hs;constructor
 ·intro x hx;simp only [ff,Je,Jd,Js,Jt] at hx;rcases hx with rfl|rfl|⟨t,ht,rfl⟩
  ·have:=b s hs; unfold tY; omega
  ·unfold tY; rw [IntKind.wrap_i64]; omega
  ·unfold yS tY;split
   ·omega
   ·have:=b t.toNat (by have:=(a.2 t ht).2; omega);unfold gp at this; omega
 ·have:=lf hf;simp only [ff,IW,Jg,a.1];simp; omega
include h hf in
theorem ze {p:List Int} (hp:p.length=d.Next.length) (G:∀s,s<d.Next.length→0≤gp p s∧gp p s<(d.Next.length:Int)):Is (ba (fun (t:(List (Str×Int))×(List Int)×Int)=>match t with
   | (c,B,f)=>
    bif (decide (f<(d.Next.length:Int))) then
     (
      (bC d.Next f).bind fun J=>
      (bC p f).bind fun a6=>
      (bC d.Accept f).bind fun a5=>
      (
       ba (fun (t:(List Int)×Int)=>match t with
       | (o,n)=>
        bif (decide (n<(J.length:Int))) then
         (
          (bC J n).bind fun I=>
          bif (decide (I<0)) then
           (cD 8 o [0]).bind fun N=>
           some N
          else
           (bC p I).bind fun a4=>
           (bZ .i64 (a4+1)).bind fun V=>
           (cD 8 o [V]).bind fun L=>
           some L).bind fun (Q:(List Int))=>
         (bZ .i64 (n+1)).bind fun U=>
         some (.next (Q,U))
        else
         some (.stop o)) aZ ([a6,(IntKind.i64.wrap (a5+1))],(0:Int))).bind fun (z:(List Int))=>
      (M.i0 z).bind fun A=>
      (
       bif (!((cb c A).isSome)) then
        (M.i0 z).bind fun W=>
        some ((dQ c W (c.length:Int)),(c.length:Int))
       else
        some (c,((cb c A).getD 0))).bind fun (X,S)=>
      (dk B f S).bind fun K=>
      some (X,K)).bind fun (Y,R)=>
     (bZ .i64 (f+1)).bind fun T=>
     some (.next (Y,R,T))
    else
     some (.stop (c,B))) aZ (([]:(List (Str×Int))),List.replicate d.Next.length 0,(0:Int)))
    (fun r=>r.1.length=(DK (ff d p) d.Next.length).length∧r.2=(List.range d.Next.length).map (dK (ff d p))):=by
  have a8:=h.max;have hacc:=h.acc;have a9:=lf hf;refine Is.upto (fun i l=>dh (fun k=>∀x∈k,tY x) jW l.1 (DK (ff d p) i)∧l.2=(lM (dK (ff d p)) d.Next.length i,(i:Int))) d.Next.length (by omega) ⟨dh.nil,by rw [nW]; rfl⟩ ?_ ?_
  · rintro s ⟨m,_⟩ hs ⟨g,rfl⟩
    simp only [] at g ⊢;have D:=eL h hs;obtain ⟨a2,H⟩:=BH h hf G hs;have a1:bC d.Next (s:Int)=some (d.Next.getD s []):=by
      rw [be hs,IP,IQ hs]; rfl
    refine Is.dt (by omega) (Is.bnd (P:=fun r=>dh (fun k=>∀x∈k,tY x) jW r.1 (DK (ff d p) (s+1))∧r.2=lM (dK (ff d p)) d.Next.length (s+1)) ?_ ?_)
    · refine Is.bnq a1 (Is.bnq (x:=gp p s) ?_ (Is.bnq (x:=d.Accept.getD s 0) ?_ (Is.bnd (P:=fun r=>r=ff d p s) ?_ ?_)))
      · rw [be (by omega)]; unfold gp; rw [IP,IQ (by omega)]; rfl
      · rw [be (by omega)]; rw [IP,IQ (by omega)]; rfl
      · unfold ff
        generalize d.Next.getD s []=q at D;refine Is.upto (fun j l=>l=([gp p s,IntKind.i64.wrap (d.Accept.getD s 0+1)]++(q.take j).map (yS p),(j:Int))) q.length (by omega) (by simp) ?_ ?_
        · rintro j _ u rfl
          simp only [];have hq:=D.2 _ (IU u);refine Is.dt (by omega) (Is.bnd (P:=fun r=>r=[gp p s,IntKind.i64.wrap (d.Accept.getD s 0+1)]++(q.take (j+1)).map (yS p)) ?_ ?_)
          · rw [eE _ u,←Ja]
            refine Is.bnq (be u) (Is.dcd (fun y=>Is.bnq (bO (by simp; omega)) (Is.pure (by rw [show yS p q[j]=0 by unfold yS; rw [if_pos y]]))) fun y=>?_);have F:=G q[j].toNat (by have:=hq.2; omega);have a7:=hq.2;refine Is.bnq (eh (d:=0) (by omega) (by rw [hp]; exact hq.2)) (Is.bnq (dX (by unfold gp at F; omega) (by unfold gp at F; omega)) (Is.bnq (bO (by simp; omega)) (Is.pure ?_)));rw [show yS p q[j]=p.getD q[j].toNat 0+1 by unfold yS; rw [if_neg y]]
          · rintro _ rfl
            exact Is.bnq (aK (by omega)) (Is.next rfl)
        · rintro _ rfl
          exact Is.df (by simp) (Is.stop (by rw [IV]))
      · rintro _ rfl
        refine Is.bnq (pz H) (Is.bnd (P:=fun r=>dh (fun k=>∀x∈k,tY x) jW r.1 (DK (ff d p) (s+1))∧r.2=dK (ff d p) s) ?_ ?_)
        · rcases qL g (fun k k' a b=>nU a b) a2 with ⟨e,w,v,h4⟩|⟨e,w,v,h4⟩
          · rw [e,w]
            exact Is.cf rfl (Is.pure ⟨v,rfl⟩)
          · rw [e,g.1]
            exact Is.ct rfl (Is.bnq (pz H) (Is.pure ⟨v,w⟩))
        · rintro ⟨m2,_⟩ ⟨e,rfl⟩
          exact Is.bnq (qh hs) (Is.pure ⟨e,rfl⟩)
    · rintro ⟨m2,_⟩ ⟨e,rfl⟩
      exact Is.bnq (aK (by omega)) (Is.next ⟨e,rfl⟩)
  · rintro ⟨m,_⟩ ⟨g,rfl⟩
    exact Is.df (by omega) (Is.stop ⟨g.1,by rw [qc]⟩)
theorem kX {n:Nat} {f:Nat→Int} {s:Nat} (hs:s<n):gp ((List.range n).map f) s=f s:=by
 simp [gp,IP,hs]
include h hf hal hacc in
theorem tm:Is (M.i1 d) (PartOk d):=by
 have D:=h.max;have z:=h.pos;unfold M.i1;refine Is.bnq (dW (by omega)) ?_;refine Is.while (fun a=>∃k:Nat,a.2=(k:Int)∧a.1.length=d.Next.length∧(∀s,s<d.Next.length→0≤gp a.1 s∧gp a.1 s<(d.Next.length:Int))∧
  (∀s t,s<d.Next.length→t<d.Next.length→xO d (s:Int) (t:Int)→gp a.1 s=gp a.1 t)∧(k=0∨k=(DK (gp a.1) d.Next.length).length))
  (fun a=>d.Next.length - a.2.toNat) ⟨0,rfl,by simp,fun s hs=>?_,fun s t hs b _=>?_,.inl rfl⟩ (by simp only []; omega) ?_
 ·simp [gp,IP,hs]; omega
 ·simp [gp,IP,hs,b]
 rintro ⟨p,_⟩ ⟨k,rfl,hp,f,g,u⟩;simp only [] at hp f g u ⊢;rw [hp];refine Is.bnq (dW (by omega)) (Is.bnd (ze h hf hp f) ?_);rintro ⟨m,_⟩ ⟨q,rfl⟩;simp only [] at q ⊢;have l:∀i j,i<d.Next.length→j<d.Next.length→ff d p i=ff d p j→gp p i=gp p j:=fun i j _ _ e=>by
  simp only [ff,Je,List.cons.injEq] at e; exact e.1
 obtain ⟨F,y⟩:=yn (σ:=ff d p) (τ:=gp p) (n:=d.Next.length) l;have A:=rB (ff d p) d.Next.length;have B:0<(DK (gp p) d.Next.length).length:=by
  have:=gN (σ:=gp p) (i:=0) (j:=d.Next.length) (by omega);omega
 have o:∀s,s<d.Next.length→0≤dK (ff d p) s∧dK (ff d p) s<(d.Next.length:Int):=fun s hs=>by
  have:=gN (σ:=ff d p) hs;unfold dK; omega
 rw [q];refine Is.cnd (fun e=>Is.stop ?_) fun e=>Is.next ?_
 ·have e:=dA e;have r:=y (by omega);refine ⟨by simp,fun s hs=>by rw [kX hs]; exact o s hs,fun s t hs b=>?_⟩;rw [kX hs,kX b];constructor
  ·intro c w;have c:mV (ff d p) s=mV (ff d p) t:=by unfold dK at c; omega
   exact wq h hacc (fun s hs=>(f s hs).1) r w s t hs b (l s t hs b (fq.1 c))
  ·intro c;unfold dK;rw [fq.2 (qV h hf hal g hs b c)]
 ·have e:=nz e;refine ⟨⟨_,rfl,by simp,fun s hs=>by rw [kX hs]; exact o s hs,fun s t hs b c=>?_,.inr ?_⟩,by simp only [Jl]; omega⟩
  ·simp only [];rw [kX hs,kX b];unfold dK;rw [fq.2 (qV h hf hal g hs b c)]
  ·have:=(uF (σ:=ff d p) (τ:=gp ((List.range d.Next.length).map (dK (ff d p)))) (n:=d.Next.length) (fun i j x v=>by
    rw [kX x,kX v];unfold dK;rw [Int.ofNat_inj,fq])) d.Next.length (Nat.le_refl _)
   exact this.1
end
def gq (p:List Int) (x:Int):Int:=gp p x.toNat
theorem fp {α:Type} {l:List α} {i:Nat} (h:i<l.length) (r:List α) (x:α):(l++r).getD i x=l.getD i x:=by
 rw [IP,Jc h,←IP]
theorem xv {l:List Int} {i:Nat} (h:i<l.length):bC l (i:Int)=some (l.getD i 0):=by
 rw [be h,IP,IQ h]; rfl
section
variable {d:T_DFA} {p:List Int} (h:Ok d) (hf:Full d) (hp:PartOk d p)
include hp in
theorem oB {x:Int} (h0:0≤x) (h1:x<(d.Next.length:Int)):bC p x=some (gq p x):=by
 rw [eh (d:=0) h0 (by rw [hp.len]; exact h1)]; rfl
include hp in
theorem mj {x:Int} (h0:0≤x) (h1:x<(d.Next.length:Int)):0≤gq p x∧gq p x<(d.Next.length:Int):=hp.lt x.toNat (by omega)
include hp in
theorem mK {x y:Int} (h0:0≤x) (h1:x<(d.Next.length:Int)) (k0:0≤y) (k1:y<(d.Next.length:Int)):gq p x=gq p y↔xO d x y:=by
 have:=hp.eq x.toNat y.toNat (by omega) (by omega);rw [show (x.toNat:Int)=x by omega,show (y.toNat:Int)=y by omega] at this;exact this
include hp in
theorem fm {l:List Int} (hl:∀x∈l,0≤x∧x<(d.Next.length:Int)) (hn:(l.map (gq p)).Nodup):l.length≤d.Next.length:=by
 have:=gH d.Next.length (l.map fun x=>(gq p x).toNat) (by
  refine List.pairwise_map.2 ((List.pairwise_map.1 hn).imp_of_mem fun {a b} ha hb c e=>c ?_);have:=mj hp (hl a ha).1 (hl a ha).2;have:=mj hp (hl b hb).1 (hl b hb).2;omega) (fun x hx=>by
  obtain ⟨a,ha,rfl⟩:=Jt.1 hx;have:=mj hp (hl a ha).1 (hl a ha).2;omega)
 simpa using this
structure RchM (d:T_DFA) (p:List Int) (l:List Int):Prop where
  zero:(0:Int)∈l
  inr:∀x∈l,0≤x∧x<(d.Next.length:Int)
  walk:∀x∈l,∃w,walkN d 0 w=x
  nodup:(l.map (gq p)).Nodup
theorem iN (d:T_DFA) (s:Int) (w:Str) (c:UInt8):walkN d s (w++[c])=bM d (walkN d s w) c.toNat:=by simp [walkN]
include h hf in
theorem xY {x:Int} (k:0≤x) (j:x<(d.Next.length:Int)) (a:∃w,walkN d 0 w=x) {t:Int} (g:t∈d.Next.getD x.toNat []):∃w,walkN d 0 w=t:=by
 obtain ⟨w,a⟩:=a;obtain ⟨c,f,rfl⟩:=Ji.1 g;have hx:x.toNat<d.Next.length:=by omega
 obtain ⟨b,hb,e⟩:=ut h hf hx (c:=c) (by rw [←(eL h hx).1]; exact f);refine ⟨w++[UInt8.ofNat b],?_⟩;have i:(UInt8.ofNat b).toNat=b:=by simp; omega
 rw [show ((x.toNat:Nat):Int)=x by omega] at e;rw [iN,a,i,e];generalize d.Next.getD x.toNat []=q at f;rw [IP,IQ f]; rfl
include h hf hp in
theorem vI (hal:AllLive d):Is (M.k4 d p) (fun l=>RchM d p l∧∀w,0≤walkN d 0 w→∃x∈l,gq p x=gq p (walkN d 0 w)):=by
 have d0:=h.max;have c8:=h.pos;have c9:=hp.len;have d7:=lf hf;unfold M.k4;have z0:=mj hp (x:=0) (by omega) (by omega)
 -- what is n
 let Sn:List Bool→List Int→Prop:=fun n l=>n.length=d.Next.length∧∀v,v<d.Next.length→(n.getD v false=true↔∃x∈l,gq p x=(v:Int))
 have L:∀n l x,Sn n l→0≤x→x<(d.Next.length:Int)→Sn (n.set (gq p x).toNat true) (l++[x]):=by
  intro n l x ⟨h1,h2⟩ a9 a8;have u:=mj hp a9 a8;refine ⟨by simpa using h1,fun v I=>?_⟩;simp only [IP,Jy]
  by_cases e:(gq p x).toNat=v
  ·subst e;rw [if_pos rfl,if_pos (by omega)];simp only [Option.getD_some,true_iff];exact ⟨x,by simp,by omega⟩
  ·rw [if_neg e];have:=h2 v I;rw [IP] at this;rw [this];constructor
   ·rintro ⟨y,hy,e⟩; exact ⟨y,by simp [hy],e⟩
   ·rintro ⟨y,hy,Y⟩;rcases IZ.1 hy with hy|hy
    ·exact ⟨y,hy,Y⟩
    ·rw [IY.1 hy] at Y; omega
 refine Is.bnq (dW (by omega)) (Is.bnq (oB hp (by omega) (by omega)) (Is.bnq (iV z0.1 (by simpa using z0.2)) ?_));refine Is.bnd (P:=fun l=>RchM d p l∧∀w,0≤walkN d 0 w→∃x∈l,gq p x=gq p (walkN d 0 w)) ?_ (fun l hl=>Is.pure hl);refine Is.while (fun f=>∃k:Nat,f.2.2=(k:Int)∧k≤f.1.length∧RchM d p f.1∧Sn f.2.1 f.1∧∀j,j<k→∀t∈d.Next.getD (f.1.getD j 0).toNat [],0≤t→∃y∈f.1,gq p y=gq p t)
  (fun f=>d.Next.length - f.2.2.toNat) ⟨0,rfl,by simp,⟨by simp,by simp; omega,by simp; exact ⟨[],rfl⟩,by simp⟩,?_,by omega⟩ (by simp only []; omega) ?_
 ·exact L (List.replicate d.Next.length false) [] 0 ⟨by simp,fun v I=>by simp [IP,I]⟩ (by omega) (by omega)
 rintro ⟨l,n,_⟩ ⟨k,rfl,hk,hR,W,hd⟩;simp only [] at hk hR W hd ⊢;have d4:=fm hp hR.inr hR.nodup;refine Is.dcd (fun d1=>?_) fun d6=>Is.stop ⟨hR,fun w=>?_⟩
 ·have J:k<l.length:=by omega
  have R:l.getD k 0∈l:=cW J;have hx:=hR.inr _ R;have a7:(l.getD k 0).toNat<d.Next.length:=by omega
  have b7:bC d.Next (l.getD k 0)=some (d.Next.getD (l.getD k 0).toNat []):=eh hx.1 hx.2;have U:=eL h a7;have S:∀t∈d.Next.getD (l.getD k 0).toNat [],∃w,walkN d 0 w=t:=fun t i=>xY h hf hx.1 hx.2 (hR.walk _ R) i
  have d5:l.getD k 0=l.getD k 0:=rfl;refine Is.bnd (P:=fun f=>k<f.1.length∧RchM d p f.1∧Sn f.2 f.1∧(∃r,f.1=l++r)∧∀t∈d.Next.getD (l.getD k 0).toNat [],0≤t→∃y∈f.1,gq p y=gq p t) ?_ ?_
  ·refine Is.bnq (xv J) (Is.bnq b7 ?_);generalize d.Next.getD (l.getD k 0).toNat []=q at U S ⊢;refine Is.upto (fun j f=>f.2.2=(j:Int)∧k<f.1.length∧RchM d p f.1∧Sn f.2.1 f.1∧(∃r,f.1=l++r)∧∀t∈q.take j,0≤t→∃y∈f.1,gq p y=gq p t) q.length (by omega) ⟨rfl,J,hR,W,⟨[],by simp⟩,by simp⟩ ?_ ?_
   ·rintro j ⟨Q,N,_⟩ o ⟨rfl,B,m,a3,a4,a5⟩;simp only [] at B m a3 a4 a5 ⊢;have hq:=U.2 _ (IU o);have b9:=S _ (IU o);have d3:=fm hp m.inr m.nodup;refine Is.dt (by omega) (Is.bnd (P:=fun f=>k<f.1.length∧RchM d p f.1∧Sn f.2 f.1∧(∃r,f.1=l++r)∧∀t∈q.take (j+1),0≤t→∃y∈f.1,gq p y=gq p t) ?_ ?_)
    ·refine Is.bnq (be o) (Is.bnd (P:=fun b=>b=true↔(0≤q[j]∧¬ ∃y∈Q,gq p y=gq p q[j])) (Is.dcd (fun g=>?_) fun g=>Is.pure ⟨fun h=>(by cases h),fun h=>(g h.1).elim⟩) ?_)
     ·have u:=mj hp g hq.2;refine Is.bnq (oB hp g hq.2) (Is.bnq (eh (d:=false) u.1 (by rw [a3.1]; exact u.2)) (Is.pure ?_));have:=a3.2 (gq p q[j]).toNat (by omega);rw [show ((gq p q[j]).toNat:Int)=gq p q[j] by omega] at this;rw [←this];cases N.getD (gq p q[j]).toNat false <;> simp [g]
     ·intro b hb;cases b
      ·refine Is.cf rfl (Is.pure ⟨B,m,a3,a4,fun t i g=>?_⟩);rw [Jb o,IZ] at i;rcases i with i|i
       ·exact a5 t i g
       ·rw [IY.1 i] at g ⊢;exact Classical.byContradiction fun hn=>by have:=hb.2 ⟨g,hn⟩; cases this
      ·obtain ⟨g,c0⟩:=hb.1 rfl;have u:=mj hp g hq.2;refine Is.ct rfl (Is.bnq (oB hp g hq.2) (Is.bnq (iV u.1 (by rw [a3.1]; exact u.2)) (Is.bnq (bO (by simp; omega)) (Is.pure ⟨by simp; omega,⟨by simp [m.zero],?_,?_,?_⟩,L _ _ _ a3 g hq.2,?_,?_⟩))))
       ·intro x hx;rcases IZ.1 hx with hx|hx
        ·exact m.inr x hx
        ·rw [IY.1 hx]; exact ⟨g,hq.2⟩
       ·intro x hx;rcases IZ.1 hx with hx|hx
        ·exact m.walk x hx
        ·rw [IY.1 hx]; exact b9
       ·rw [Jh,List.nodup_append];refine ⟨m.nodup,by simp,fun a ha b hb=>?_⟩;obtain ⟨y,hy,rfl⟩:=Jt.1 ha;have hb:b=gq p q[j]:=by simpa using hb
        rw [hb];exact fun e=>c0 ⟨y,hy,e⟩
       ·obtain ⟨r,hr⟩:=a4;exact ⟨r++[q[j]],by simp [hr]⟩
       ·intro t i g;rw [Jb o,IZ] at i;rcases i with i|i
        ·obtain ⟨y,hy,e⟩:=a5 t i g;exact ⟨y,by simp [hy],e⟩
        ·rw [IY.1 i];exact ⟨q[j],by simp,rfl⟩
    ·rintro ⟨l2,s2⟩ ⟨K,z,F,A,D⟩;exact Is.bnq (aK (by omega)) (Is.next ⟨rfl,K,z,F,A,D⟩)
   ·rintro ⟨Q,N,_⟩ ⟨rfl,B,m,a3,a4,a5⟩;simp only [IV] at B m a3 a4 a5 ⊢;exact Is.df (by omega) (Is.stop ⟨B,m,a3,a4,a5⟩)
  ·rintro ⟨l2,s2⟩ ⟨K,z,F,⟨r,A⟩,D⟩;simp only [] at K z F A D ⊢;have d2:=fm hp z.inr z.nodup;refine Is.bnq (aK (by omega)) (Is.next ⟨⟨k+1,rfl,by simp only []; omega,z,F,fun j o t i g=>?_⟩,by simp only [Jl]; omega⟩);simp only [] at i ⊢;rw [A,fp (by omega)] at i
   by_cases e:j=k
   ·subst e; exact D t i g
   ·obtain ⟨y,hy,e⟩:=hd j (by omega) t i g;exact ⟨y,by rw [A]; simp [hy],e⟩
 ·-- nothing is missing
  obtain ⟨v,rfl⟩:∃v:Str,w=v.reverse:=⟨w.reverse,by simp⟩;induction v with
  | nil=>intro _; exact ⟨0,hR.zero,rfl⟩
  | cons c v ih=>
   rw [List.reverse_cons];generalize v.reverse=w at ih;rw [iN];intro g;have T:0≤walkN d 0 w:=by
    by_cases hn:walkN d 0 w<0
    ·unfold bM at g; rw [if_pos hn] at g; omega
    ·omega
   have H:=fD h (fY h) w;obtain ⟨x,hx,e⟩:=ih T;have G:=hR.inr x hx;have c3:=(mK hp G.1 G.2 T H.2).1 e;have V:=c3.step c.toNat_lt;obtain ⟨j,o,rfl⟩:=Ji.1 hx;have c2:l.getD j 0=l[j]:=by rw [IP,IQ o]; rfl
   have b0:=cT h (s:=l[j]) ⟨by omega,G.2⟩ c.toNat_lt;have b6:=cT h H c.toNat_lt
   by_cases hlive:0≤bM d l[j] c.toNat
   ·obtain ⟨cc,c4,_,X⟩:=qe h (s:=l[j].toNat) (by omega) c.toNat_lt;rw [show ((l[j].toNat:Nat):Int)=l[j] by omega] at X;obtain ⟨y,hy,ey⟩:=hd j (by omega) (bM d l[j] c.toNat) (by
     rw [c2,X];exact cW (by rw [(eL h (by omega)).1]; exact c4)) hlive
    exact ⟨y,hy,ey.trans ((mK hp hlive b0.2 g b6.2).2 V)⟩
   ·have:=V.neg (by omega) (fun _=>hal _ _ H c.toNat_lt g);omega
def kq (d:T_DFA) (p:List Int) (s:Int) (b:Nat):Int:=if 0≤bM d s b then gq p (bM d s b) else bM d s b
def keyC (d:T_DFA) (p:List Int) (states:List Int) (b:Nat):List Int:=states.map fun s=>kq d p s b
include h hp in
theorem De {s:Int} (hs:qX d s) {b:Nat} (hb:b<256):tY (kq d p s b):=by
 have hi:=cT h hs hb;have hm:=h.max;unfold kq tY;split
 ·rename_i h0;have:=mj hp h0 hi.2; omega
 ·have:=hi.1; omega
include h hp in
theorem wy {c:List Int} (l:∀x∈c,0≤x∧x<(d.Next.length:Int)) (hl:c.length≤500):M.k5 d c p=some ((List.range 256).map (dK (keyC d p c))):=by
 refine Is.eq ?_;unfold M.k5;have z:∀b,b<256→(∀x∈keyC d p c b,tY x)∧(keyC d p c b).length≤1000000:=by
  intro b hb;refine ⟨fun x hx=>?_,by simp [keyC]; omega⟩;obtain ⟨s,hs,rfl⟩:=Jt.1 hx;exact De h hp ⟨by have:=l s hs; omega,(l s hs).2⟩ hb
 refine Is.bnq (x:=List.replicate 256 0) (by rw [show (256:Int)=((256:Nat):Int) from rfl,dW (by omega)]) ?_;have D:((List.replicate 256 (0:Int)).length:Int)=256:=by rw [Jq]; rfl
 rw [D];refine Is.bnd (P:=fun r=>r=(List.range 256).map (dK (keyC d p c))) ?_ (fun r w=>Is.pure w);refine Is.upto (fun i s=>dh (fun k=>∀x∈k,tY x) jW s.2.1 (DK (keyC d p c) i)∧s.1=lM (dK (keyC d p c)) 256 i∧s.2.2=(i:Int)) 256 (by omega) ⟨dh.nil,by rw [nW],rfl⟩ ?_ ?_
 ·rintro b ⟨_,m,_⟩ hb ⟨f,rfl,rfl⟩;simp only [] at f ⊢;obtain ⟨y,u⟩:=z b hb;refine Is.dt (by omega) (Is.bnd (P:=fun r=>r.1=lM (dK (keyC d p c)) 256 (b+1)∧dh (fun k=>∀x∈k,tY x) jW r.2 (DK (keyC d p c) (b+1))) ?_ ?_)
  ·refine Is.bnd (P:=fun r=>r=keyC d p c b) (Is.upto (fun j s=>s=((c.take j).map (fun s=>kq d p s b),(j:Int))) c.length (by omega) (by simp) ?_ ?_) ?_
   ·rintro j _ n rfl;simp only [];have hs:=l _ (IU n);have A:=cT h (s:=c[j]) ⟨by omega,hs.2⟩ hb;refine Is.dt (by omega) (Is.bnq (be n) (Is.bnq (x:=bM d c[j] b) (by rw [mW hb]; exact mZ h ⟨by omega,hs.2⟩ hb) (Is.bnd (P:=fun t=>t=kq d p c[j] b) (Is.dcd (fun g=>?_) fun g=>Is.pure ?_) ?_)))
    ·exact Is.bnq (oB hp g A.2) (Is.pure (by unfold kq; rw [if_pos g]))
    ·unfold kq; rw [if_neg g]
    ·rintro _ rfl;refine Is.bnq (bO (by simp; omega)) (Is.bnq (aK (by omega)) (Is.next ?_));rw [eE _ n]
   ·rintro _ rfl;exact Is.df (by simp) (Is.stop (by rw [IV]; rfl))
   ·rintro _ rfl;refine Is.bnq (pz u) (Is.bnd (P:=fun r=>dh (fun k=>∀x∈k,tY x) jW r.1 (DK (keyC d p c) (b+1))∧r.2=dK (keyC d p c) b) ?_ ?_)
    ·rcases qL f (fun k k' a b=>nU a b) y with ⟨e,q,o,B⟩|⟨e,q,o,B⟩
     ·rw [e,q];exact Is.cf rfl (Is.pure ⟨o,rfl⟩)
     ·rw [e,f.1];exact Is.ct rfl (Is.bnq (pz u) (Is.pure ⟨o,q⟩))
    ·rintro ⟨v,_⟩ ⟨e,rfl⟩;exact Is.bnq (qh hb) (Is.pure ⟨rfl,e⟩)
  ·rintro ⟨_,v⟩ ⟨rfl,e⟩;exact Is.bnq (aK (by omega)) (Is.next ⟨e,rfl,rfl⟩)
 ·rintro ⟨_,m,_⟩ ⟨f,rfl,rfl⟩;exact Is.df (by omega) (Is.stop (by rw [qc]))
end
structure Reps {K:Type} [DecidableEq K] (σ:Nat→K) (l:List Int):Prop where
  len:l.length=(DK σ 256).length
  rep:∀c,c<l.length→∃b:Nat,b<256∧l.getD c 0=(b:Int)∧mV σ b=c
theorem vB {K:Type} [DecidableEq K] (σ:Nat→K):Is (M.i4 ((List.range 256).map (dK σ))) (Reps σ):=by
 unfold M.i4;have o:(((List.range 256).map (dK σ)).length:Int)=256:=by rw [Jg,Jw]; rfl
 rw [o];refine Is.bnd (P:=Reps σ) (Is.upto (fun i f=>f.2=(i:Int)∧f.1.length=(DK σ i).length∧∀c,c<f.1.length→∃b:Nat,b<256∧f.1.getD c 0=(b:Int)∧mV σ b=c) 256 (by omega) ⟨rfl,rfl,by simp⟩ ?_ ?_) (fun l hl=>Is.pure hl)
 ·rintro i ⟨l,_⟩ h ⟨rfl,d,a⟩;simp only [] at d a ⊢;have p:=rB σ i;have m:bC ((List.range 256).map (dK σ)) (i:Int)=some (dK σ i):=by
   rw [be (by rw [Jg,Jw]; exact h)];rw [JC,List.getElem_range]
  refine Is.dt (by omega) (Is.bnd (P:=fun r=>r.length=(DK σ (i+1)).length∧∀c,c<r.length→∃b:Nat,b<256∧r.getD c 0=(b:Int)∧mV σ b=c) ?_ ?_)
  ·refine Is.bnq m (Is.cnd (fun e=>?_) fun e=>Is.pure ?_)
   ·have e:=dA e;have k:σ i∉DK σ i:=fun g=>by have:=BA g; unfold dK at e; omega
    rw [mW h];refine Is.bnq (bO (by simp; omega)) (Is.pure ⟨by rw [rA k]; simp [d],fun c n=>?_⟩)
    by_cases hcl:c<l.length
    ·rw [fp hcl]; exact a c hcl
    ·have:c=l.length:=by simp at n; omega
     subst this;exact ⟨i,h,by simp [IP],by unfold dK at e; omega⟩
   ·have e:=nz e;have j:σ i∈DK σ i:=Classical.byContradiction fun g=>by have:=nA g; unfold dK at e; omega
    rw [lq j]; exact ⟨d,a⟩
  ·rintro r ⟨d,a⟩;exact Is.bnq (aK (by omega)) (Is.next ⟨rfl,d,a⟩)
 ·rintro ⟨l,_⟩ ⟨rfl,d,a⟩;exact Is.df (by omega) (Is.stop ⟨d,a⟩)
def oE (k:Nat) (l:List Int):Nat:=l.foldl (fun k v=>if v=(k:Int) then k+1 else k) k
theorem sL (k:Nat) (l:List Int) (v:Int):oE k (l++[v])=if v=(oE k l:Int) then oE k l+1 else oE k l:=by unfold oE; rw [List.foldl_append]; rfl
def FK (l:List Int):Prop:=∀i,i<l.length→l.getD i 0≤(oE 1 (l.take i):Int)
theorem FK.snoc {l:List Int} {v:Int} (h:FK l) (hv:v≤(oE 1 l:Int)):FK (l++[v]):=by
 intro i hi
 by_cases hl:i<l.length
 ·rw [fp hl,List.take_append_of_le_length (by omega)];exact h i hl
 ·have:i=l.length:=by simp at hi; omega
  subst this;rw [List.take_left];simpa [IP] using hv
theorem lJ {α:Type} (l:List α) (v x:α):(l++[v]).getD l.length x=v:=by simp [IP]
structure AJ (m:T_DFA):Prop where
  ok:Ok m
  cls:m.Class=(List.range 256).map (dK (dO m))
  cols:cols m=(DK (dO m) 256).length
  sep:∀b b',b<256→b'<256→(∀s:Nat,s<m.Next.length→bM m (s:Int) b=bM m (s:Int) b')→dO m b=dO m b'
  live:AllLive m
  reach:∀s:Nat,s<m.Next.length→∃w,walkN m 0 w=(s:Int)
  ineq:∀s t:Nat,s<m.Next.length→t<m.Next.length→xO m (s:Int) (t:Int)→s=t
  can:FK m.Next.flatten
  cnt:oE 1 m.Next.flatten=m.Next.length
  start:∀j,j<m.Next.length→j<oE 1 (m.Next.take j).flatten
section
variable (d:T_DFA) (p:List Int) (bytes:List Int)
def lY (order:List Int) (x:Int) (v:Int) (b:Nat):Prop:=(bM d x b<0∧v=-1)∨(0≤bM d x b∧∃k:Nat,v=(k:Int)∧k<order.length∧gq p (order.getD k 0)=gq p (bM d x b))
def DS (order:List Int) (x:Int) (row:List Int):Prop:=row.length=bytes.length∧∀c,c<bytes.length→lY d p order x (row.getD c 0) (bytes.getD c 0).toNat
structure MC (order:List Int) (rows:List (List Int)) (accs:List Int) (i:Nat) (done:List Int):Prop where
  z:order.getD 0 0=0∧0<order.length
  inr:∀x∈order,0≤x∧x<(d.Next.length:Int)
  walk:∀x∈order,∃w,walkN d 0 w=x
  nodup:(order.map (gq p)).Nodup
  rlen:rows.length=i
  accs:accs=(order.take i).map (fun x=>d.Accept.getD x.toNat 0)
  ile:i≤order.length
  ent:∀j,j<i→DS d p bytes order (order.getD j 0) (rows.getD j [])
  dent:∀c,c<done.length→lY d p order (order.getD i 0) (done.getD c 0) (bytes.getD c 0).toNat
  can:FK (rows.flatten++done)
  cnt:oE 1 (rows.flatten++done)=order.length
  start:∀j,j<i→j<oE 1 (rows.take j).flatten
  beg:done≠[]→i<oE 1 rows.flatten
end
section
variable {d:T_DFA} {p bytes order accs done:List Int} {rows:List (List Int)} {i:Nat}
theorem lY.mono {x v:Int} {b:Nat} (h:lY d p order x v b) (r:List Int):lY d p (order++r) x v b:=by
 rcases h with h|⟨h1,k,h2,h3,h4⟩
 ·exact .inl h
 ·exact .inr ⟨h1,k,h2,by simp; omega,by rw [fp h3]; exact h4⟩
theorem MC.start0 (hp:1≤d.Next.length):MC d p bytes [0] [] [] 0 [] where
 z:=⟨rfl,by simp⟩
 inr x hx:=by simp at hx; subst hx; omega
 walk x hx:=by simp at hx; subst hx; exact ⟨[],rfl⟩
 nodup:=by simp
 rlen:=rfl
 accs:=rfl
 ile:=by simp
 ent j hj:=by omega
 dent c hc:=by simp at hc
 can i hi:=by simp at hi
 cnt:=rfl
 start j hj:=by omega
 beg h:=(h rfl).elim
theorem MC.beg' (h:MC d p bytes order rows accs i done) (hi:i<order.length):i<oE 1 rows.flatten:=by
 cases done with
 | nil=>have:=h.cnt; simp at this; omega
 | cons a l=>exact h.beg (by simp)
theorem MC.old (h:MC d p bytes order rows accs i done) (b:i<order.length) {v:Int} (a:lY d p order (order.getD i 0) v (bytes.getD done.length 0).toNat):MC d p bytes order rows accs i (done++[v]):=by
 have f:v<(order.length:Int):=by
  have:=h.z.2;rcases a with ⟨_,rfl⟩|⟨_,k,rfl,g,_⟩ <;> omega
 refine ⟨h.z,h.inr,h.walk,h.nodup,h.rlen,h.accs,h.ile,h.ent,fun c e=>?_,?_,?_,h.start,fun _=>h.beg' b⟩
 ·by_cases hcl:c<done.length
  ·rw [fp hcl]; exact h.dent c hcl
  ·have:c=done.length:=by simp at e; omega
   subst this;rw [lJ]; exact a
 ·rw [←Ja];exact h.can.snoc (by rw [h.cnt]; omega)
 ·rw [←Ja,sL,h.cnt,if_neg (by omega)]
theorem MC.new (h:MC d p bytes order rows accs i done) (g:i<order.length) {t:Int} (f:t=bM d (order.getD i 0) (bytes.getD done.length 0).toNat) (k:0≤t) (n:t<(d.Next.length:Int)) (l:∃w,walkN d 0 w=t) (hn:gq p t∉order.map (gq p)) :
 MC d p bytes (order++[t]) rows accs i (done++[(order.length:Int)]):=by
 refine ⟨⟨by rw [fp h.z.2]; exact h.z.1,by simp⟩,?_,?_,?_,h.rlen,?_,by simp; omega,fun j m=>?_,fun c e=>?_,?_,?_,h.start,fun _=>h.beg' g⟩
 ·intro x hx;rcases IZ.1 hx with hx|hx
  ·exact h.inr x hx
  ·rw [IY.1 hx]; exact ⟨k,n⟩
 ·intro x hx;rcases IZ.1 hx with hx|hx
  ·exact h.walk x hx
  ·rw [IY.1 hx]; exact l
 ·rw [Jh,List.nodup_append];refine ⟨h.nodup,by simp,fun a ha b hb=>?_⟩;have hb:b=gq p t:=by simpa using hb
  rw [hb]; rintro rfl; exact hn ha
 ·rw [List.take_append_of_le_length (by omega)]; exact h.accs
 ·rw [fp (by omega)];have:=h.ent j m;exact ⟨this.1,fun c e=>(this.2 c e).mono [t]⟩
 ·rw [fp g]
  by_cases hcl:c<done.length
  ·rw [fp hcl]; exact (h.dent c hcl).mono [t]
  ·have:c=done.length:=by simp at e; omega
   subst this;rw [lJ];exact .inr ⟨by rw [←f]; exact k,order.length,rfl,by simp,by rw [lJ,f]⟩
 ·rw [←Ja];exact h.can.snoc (by rw [h.cnt]; omega)
 ·rw [←Ja,sL,h.cnt,if_pos rfl]; simp
theorem MC.turn (h:MC d p bytes order rows accs i done) (a:i<order.length) (hd:done.length=bytes.length):MC d p bytes order (rows++[done]) (accs++[d.Accept.getD (order.getD i 0).toNat 0]) (i+1) []:=by
 refine ⟨h.z,h.inr,h.walk,h.nodup,by simp [h.rlen],?_,by omega,fun j f=>?_,fun c b=>by simp at b,?_,?_,fun j f=>?_,fun h=>(h rfl).elim⟩
 ·rw [Jb a,Jh,h.accs,IP (l:=order),IQ a]; rfl
 ·by_cases e:j<i
  ·rw [fp (by rw [h.rlen]; exact e)]; exact h.ent j e
  ·have:j=rows.length:=by rw [h.rlen]; omega
   subst this;rw [lJ,h.rlen];exact ⟨hd,fun c b=>h.dent c (by omega)⟩
 ·simpa using h.can
 ·simpa using h.cnt
 ·by_cases e:j<i
  ·rw [List.take_append_of_le_length (by rw [h.rlen]; omega)]; exact h.start j e
  ·have:j=rows.length:=by rw [h.rlen]; omega
   subst this;rw [List.take_left];rw [h.rlen]; exact h.beg' a
end
section
variable {d:T_DFA} {p l bytes:List Int} (h:Ok d) (hf:Full d) (hal:AllLive d) (hp:PartOk d p) (hR:RchM d p l) (hRc:∀w,0≤walkN d 0 w→∃x∈l,gq p x=gq p (walkN d 0 w)) (hB:Reps (keyC d p l) bytes)
include h hal hp in
theorem mY {x y:Int} (hx:0≤x∧x<(d.Next.length:Int)) (hy:0≤y∧y<(d.Next.length:Int)) (i:gq p x=gq p y) {b:Nat} (hb:b<256):kq d p x b=kq d p y b:=by
 have e:=((mK hp hx.1 hx.2 hy.1 hy.2).1 i).step hb;have ix:=cT h (s:=x) ⟨by omega,hx.2⟩ hb;have g:=cT h (s:=y) ⟨by omega,hy.2⟩ hb;unfold kq
 by_cases c:0≤bM d x b
 ·have a:0≤bM d y b:=by
   by_cases a:bM d y b<0
   ·have:=e.symm.neg a (fun f=>hal x b ⟨by omega,hx.2⟩ hb f); omega
   ·omega
  rw [if_pos c,if_pos a];exact (mK hp c ix.2 a g.2).2 e
 ·have a:¬ 0≤bM d y b:=fun a=>by
   have:=e.neg (by omega) (fun f=>hal y b ⟨by omega,hy.2⟩ hb f); omega
  rw [if_neg c,if_neg a];have:=ix.1; have:=g.1; omega
include h hp in
theorem lY.iff {order:List Int} {x v:Int} (hx:0≤x∧x<(d.Next.length:Int)) {b:Nat} (hb:b<256):lY d p order x v b↔(kq d p x b=-1∧v=-1)∨(0≤kq d p x b∧∃k:Nat,v=(k:Int)∧k<order.length∧gq p (order.getD k 0)=kq d p x b):=by
 have ix:=cT h (s:=x) ⟨by omega,hx.2⟩ hb;unfold lY kq
 by_cases a:0≤bM d x b
 ·rw [if_pos a];have:=mj hp a ix.2;constructor
  ·rintro (h|h)
   ·omega
   ·exact .inr ⟨by omega,h.2⟩
  ·rintro (h|h)
   ·omega
   ·exact .inr ⟨a,h.2⟩
 ·rw [if_neg a];have:=ix.1;constructor
  ·rintro (h|h)
   ·exact .inl ⟨by omega,h.2⟩
   ·omega
  ·rintro (h|h)
   ·exact .inl ⟨by omega,h.2⟩
   ·omega
theorem xu {l:List Int} {f:Int→Int} (hn:(l.map f).Nodup) {i j:Nat} (b:i<l.length) (a:j<l.length) (h:f (l.getD i 0)=f (l.getD j 0)):i=j:=by
 have e:l.getD i 0=l[i]:=by rw [IP,IQ b]; rfl
 have d:l.getD j 0=l[j]:=by rw [IP,IQ a]; rfl
 rw [e,d] at h;have c:=List.pairwise_iff_getElem.1 hn;rcases Nat.lt_trichotomy i j with hl|hl|hl
 ·have:=c i j (by simpa using b) (by simpa using a) hl;simp only [JC] at this; exact (this h).elim
 ·exact hl
 ·have:=c j i (by simpa using a) (by simpa using b) hl;simp only [JC] at this; exact (this h.symm).elim
variable {order accs:List Int} {rows:List (List Int)} (hM:MC d p bytes order rows accs order.length [])
def kM (d:T_DFA) (p l:List Int) (rows:List (List Int)) (accs:List Int):T_DFA:=⟨(List.range 256).map (dK (keyC d p l)),rows,accs⟩
include h hal hp hR hRc in
theorem yu {x:Int} (hx:0≤x∧x<(d.Next.length:Int)) (hw:∃w,walkN d 0 w=x) {b b':Nat} (hb:b<256) (hb':b'<256) (he:keyC d p l b=keyC d p l b'):kq d p x b=kq d p x b':=by
 obtain ⟨w,hw⟩:=hw;obtain ⟨y,hy,e⟩:=hRc w (by rw [hw]; exact hx.1);rw [hw] at e;have hyi:=hR.inr y hy;rw [←mY h hal hp hyi hx e hb,←mY h hal hp hyi hx e hb'];unfold keyC at he;exact List.map_inj_left.1 he y hy
include hM in
theorem gM {i:Nat} (hi:i<order.length):0≤order.getD i 0∧order.getD i 0<(d.Next.length:Int):=hM.inr _ (cW hi)
theorem kL {b:Nat} (hb:b<256):dO (kM d p l rows accs) b=dK (keyC d p l) b:=by simp [dO,kM,IP,hb]
include h hal hp hR hRc hB hM in
theorem nu {i:Nat} (c:i<order.length) {b:Nat} (hb:b<256):lY d p order (order.getD i 0) (bM (kM d p l rows accs) (i:Int) b) b:=by
 have hx:=gM hM c;have g:=hM.walk _ (cW (d:=0) c);have j:=hM.ent i c;have a:=gN (σ:=keyC d p l) hb;rw [←hB.len] at a;obtain ⟨o,f,n,m⟩:=hB.rep _ a;have e:=j.2 _ a;rw [n,Jl] at e;rw [lY.iff h hp hx f] at e;rw [lY.iff h hp hx hb,←yu h hal hp hR hRc hx g f hb (fq.1 m)];have k:bM (kM d p l rows accs) (i:Int) b=(rows.getD i []).getD (mV (keyC d p l) b) 0:=na (d:=kM d p l rows accs) (kL hb);rw [k]; exact e
include h hal hp hR hRc hB hM in
theorem uE (w:Str):(walkN d 0 w<0∧walkN (kM d p l rows accs) 0 w=-1)∨(0≤walkN d 0 w∧∃k:Nat,k<order.length∧walkN (kM d p l rows accs) 0 w=(k:Int)∧gq p (order.getD k 0)=gq p (walkN d 0 w)):=by
 obtain ⟨v,rfl⟩:∃v:Str,w=v.reverse:=⟨w.reverse,by simp⟩;induction v with
 | nil=>exact .inr ⟨Int.le_refl _,0,hM.z.2,rfl,by rw [hM.z.1]; rfl⟩
 | cons c v ih=>
  rw [List.reverse_cons];generalize v.reverse=w at ih;rw [iN,iN];have i:=fD h (fY h) w;have m:=cT h i c.toNat_lt;rcases ih with ⟨g,f⟩|⟨g,k,j,f,o⟩
  ·refine .inl ⟨?_,?_⟩
   ·unfold bM; rw [if_pos g]; omega
   ·rw [f]; rfl
  ·rw [f];have a:=nu h hal hp hR hRc hB hM j c.toNat_lt;have hx:=gM hM j;rw [lY.iff h hp hx c.toNat_lt,mY h hal hp hx ⟨g,i.2⟩ o c.toNat_lt] at a;unfold kq at a
   by_cases e:0≤bM d (walkN d 0 w) c.toNat
   ·simp only [if_pos e] at a;have:=mj hp e m.2;rcases a with ⟨b,_⟩|⟨_,k',b,n,h6⟩
    ·omega
    ·exact .inr ⟨e,k',n,b,h6⟩
   ·simp only [if_neg e] at a;rcases a with ⟨_,b⟩|⟨b,_⟩
    ·exact .inl ⟨by omega,b⟩
    ·omega
include h hal hp hR hRc hB hM in
theorem pG (w:Str):∀i,i<order.length→rF (kM d p l rows accs) (i:Int) w=rF d (order.getD i 0) w:=by
 induction w with
 | nil=>
  intro i a;have hx:=gM hM a;rw [lz,lz];unfold eK;rw [if_neg (by omega),if_neg (by omega)];have e:(kM d p l rows accs).Accept=order.map (fun x=>d.Accept.getD x.toNat 0):=by
   show accs=_;have:=hM.accs
   rwa [IV] at this
  rw [e,Jl,IP,Jx,IQ a,IP (l:=order),IQ a];rfl
 | cons c w ih=>
  intro i a;have hx:=gM hM a;rw [ee,ee];have m:=cT h (s:=order.getD i 0) ⟨by omega,hx.2⟩ c.toNat_lt;rcases nu h hal hp hR hRc hB hM a c.toNat_lt with ⟨f,b⟩|⟨f,k,b,j,n⟩
  ·rw [b,jA f,jA (by omega)]
  ·rw [b,ih k j];have g:=gM hM j;exact (mK hp g.1 g.2 f m.2).1 n w
include h hal hp hR hRc hB hM in
theorem yl:AJ (kM d p l rows accs):=by
 have hlen:rows.length=order.length:=hM.rlen;have a8:=fm hp hM.inr hM.nodup;have Y:1≤bytes.length:=by
  rw [hB.len];have:=gN (σ:=keyC d p l) (i:=0) (j:=256) (by omega);omega
 have U:=hM.z.2;have G:cols (kM d p l rows accs)=bytes.length:=(hM.ent 0 U).1;have f:(kM d p l rows accs).Next=rows:=rfl;have hacc:(kM d p l rows accs).Accept=order.map (fun x=>d.Accept.getD x.toNat 0):=by
  show accs=_;have:=hM.accs
  rwa [IV] at this
 have V:Ok (kM d p l rows accs):=by
  refine ⟨by simp [kM],by rw [f]; omega,by rw [f]; have:=h.max; omega,by rw [hacc,f]; simp [hlen],by rw [G]; exact Y,fun c A=>?_,fun r Q=>?_,fun a ha=>?_⟩
  ·simp only [kM,Jt,Ju] at A;obtain ⟨b,hb,rfl⟩:=A;rw [G,hB.len];have:=gN (σ:=keyC d p l) hb;unfold dK; omega
  ·rw [f] at Q;obtain ⟨j,y,rfl⟩:=Ji.1 Q;have B:=hM.ent j (by omega);have e:rows.getD j []=rows[j]:=by rw [IP,IQ y]; rfl
   rw [e] at B;refine ⟨by rw [G]; exact B.1,fun t q=>?_⟩;obtain ⟨c,A,rfl⟩:=Ji.1 q;have:=B.2 c (by rw [←B.1]; exact A);have e:rows[j].getD c 0=rows[j][c]:=by rw [IP,IQ A]; rfl
   rw [e] at this;rw [f];rcases this with ⟨_,h⟩|⟨_,k,h,g,_⟩ <;> omega
  ·rw [hacc] at ha;obtain ⟨x,hx,rfl⟩:=Jt.1 ha;have:=hM.inr x hx;exact h.accs _ (cW (by rw [h.acc]; omega))
 have P:=uF (σ:=dO (kM d p l rows accs)) (τ:=keyC d p l) (n:=256) (fun i j F y=>by
  rw [kL F,kL y];unfold dK;rw [Int.ofNat_inj,fq]) 256 (Nat.le_refl _)
 refine ⟨V,?_,by rw [G,hB.len,P.1],fun b b' hb H hs=>?_,fun s b hs hb I=>?_,fun s hs=>?_,fun s t hs q X=>?_,?_,?_,fun j y=>?_⟩
 ·show (List.range 256).map (dK (keyC d p l))=_;refine List.map_congr_left fun b hb=>?_
  unfold dK;rw [P.2 b (Ju.1 hb)]
 ·-- classes are apart
  rw [kL hb,kL H];have:keyC d p l b=keyC d p l b':=by
   unfold keyC;refine List.map_congr_left fun x hx=>?_
   have N:=hR.inr x hx;obtain ⟨w,v⟩:=hR.walk x hx;rcases uE h hal hp hR hRc hB hM w with ⟨o,_⟩|⟨o,k,g,u,m⟩
   ·omega
   ·rw [v] at m;have D:=gM hM g;rw [←mY h hal hp D N m hb,←mY h hal hp D N m H];have J:=nu h hal hp hR hRc hB hM g hb;have R:=nu h hal hp hR hRc hB hM g H;rw [hs k (by rw [f]; omega)] at J;rw [lY.iff h hp D hb] at J;rw [lY.iff h hp D H] at R;rcases J with ⟨a1,a2⟩|⟨a1,T,a2,a3,a4⟩ <;> rcases R with ⟨c1,c2⟩|⟨c1,S,c2,c3,c4⟩
    ·omega
    ·omega
    ·omega
    ·have:T=S:=by omega
     subst this;omega
  unfold dK;rw [fq.2 this]
 ·-- targets live
  by_cases hn:s<0
  ·unfold bM at I; rw [if_pos hn] at I; omega
  ·obtain ⟨i,rfl⟩:=Jn (show 0≤s by omega);have F:i<order.length:=by have:=hs.2; rw [f] at this; omega
   have hx:=gM hM F;rcases nu h hal hp hR hRc hB hM F hb with ⟨o,u⟩|⟨o,k,u,m,h4⟩
   ·rw [u] at I; omega
   ·have W:=cT h (s:=order.getD i 0) ⟨by omega,hx.2⟩ hb;obtain ⟨w,v⟩:=hal (order.getD i 0) b ⟨by omega,hx.2⟩ hb o;have g:=gM hM m;refine ⟨w,?_⟩;rw [u,pG h hal hp hR hRc hB hM w k m,(mK hp g.1 g.2 o W.2).1 h4 w];exact v
 ·-- all states are reached
  rw [f,hlen] at hs;obtain ⟨w,v⟩:=hM.walk _ (cW (d:=0) hs);have hx:=gM hM hs;rcases uE h hal hp hR hRc hB hM w with ⟨o,_⟩|⟨o,k,g,u,m⟩
  ·omega
  ·rw [v] at m;have:=xu hM.nodup g hs m;subst this;exact ⟨w,u⟩
 ·rw [f,hlen] at hs q;have L:=gM hM hs;have K:=gM hM q;refine xu hM.nodup hs q ((mK hp L.1 L.2 K.1 K.2).2 fun w=>?_);rw [←pG h hal hp hR hRc hB hM w s hs,←pG h hal hp hR hRc hB hM w t q];exact X w
 ·have:=hM.can; rwa [List.append_nil] at this
 ·have:=hM.cnt; rw [List.append_nil] at this; rw [f,this,hlen]
 ·exact hM.start j (by rw [f] at y; omega)
end
end Go.Proofs.YtggpjcdhflcfmaaGreatDoor
