/- Part 14. -/
import Derived.Test.YtggpjcdhflcfmaaGreatDoorKLexspecKeywords13
set_option linter.unusedVariables false
set_option linter.unusedSimpArgs false
namespace Go.Proofs.YtggpjcdhflcfmaaGreatDoor
open Go.Lx
def zg (r:Nat) (s:Str):Nat:=s.foldl (fun r c=>r*256+c.toNat+1) r
def jg (s:Str):Nat:=zg 0 s
theorem lB (s:Str) (c:UInt8):jg (s++[c])=jg s*256+c.toNat+1:=by simp [jg,zg]
theorem Ga {x u v:Nat} (h1:x<u+256+1) (h2:u+256≤v):x<v+0+1:=by omega
theorem FZ {x r q:Nat} (h1:x<r*256+256+1) (h2:r<q):x<q*256+0+1:=
 Ga h1 (by rw [←Nat.succ_mul]; exact Jj 256 (Nat.succ_le_of_lt h2))
theorem FY {x r q c:Nat} (h1:x≤r*256+c+1) (h2:r≤q):x≤q*256+c+1:=
 Nat.le_trans h1 (Nat.add_le_add_right (Nat.add_le_add_right (Jj 256 h2) c) 1)
section
variable (a b:T_DFA)
def yQ (w:Str):Prop:=eK a (walkN a 0 w)≠eK b (walkN b 0 w)
def tP (r:Str×Bool):Prop:=(r.2=true∧yQ a b r.1∧∀w,yQ a b w→jg r.1≤jg w)∨(r=([],false)∧∀w,¬ yQ a b w)
abbrev EntD:=Int×Int×Str
def yi (e:EntD):Int×Int:=(e.1,e.2.1)
def fL (Q:List EntD) (i:Nat):EntD:=Q.getD i (0,0,[])
def nx (e:EntD) (c:Nat):Int×Int:=(bM a e.1 c,bM b e.2.1 c)
structure BJ (DK:Int×Int→Prop) (Q:List EntD) (i c:Nat):Prop where
  head:Q[0]?=some (0,0,[])
  walk:∀e∈Q,e.1=walkN a 0 e.2.2∧e.2.1=walkN b 0 e.2.2
  sorted:Q.Pairwise (fun e f=>jg e.2.2<jg f.2.2)
  nodup:(Q.map yi).Nodup
  done:∀j k,(j<i∨(j=i∧k<c))→k<256→j<Q.length→DK (nx a b (fL Q j) k)∨∃e∈Q,yi e=nx a b (fL Q j) k∧jg e.2.2≤jg (fL Q j).2.2*256+k+1
  same:∀j,j<i→j<Q.length→eK a (fL Q j).1=eK b (fL Q j).2.1
  bound:i<Q.length→∀e∈Q,jg e.2.2<jg (fL Q i).2.2*256+c+1
  len:∀j,j<Q.length→(fL Q j).2.2.length≤j
end
section
variable {a b:T_DFA} {DK:Int×Int→Prop} {Q:List EntD} {i c:Nat}
theorem xF (h:i<Q.length):fL Q i∈Q:=cW h
theorem pS {e:EntD} (h:i<Q.length):fL (Q++[e]) i=fL Q i:=by unfold fL; rw [IP,IP,Jc h]
theorem BJ.start:BJ a b DK [(0,0,[])] 0 0 where
 head:=rfl
 walk e he:=by simp at he; subst he; exact ⟨rfl,rfl⟩
 sorted:=by simp
 nodup:=by simp
 done j k h hk hj:=by omega
 same j h:=by omega
 bound _ e he:=by simp at he; subst he; simp [fL,jg,zg]
 len j hj:=by simp at hj; subst hj; simp [fL]
theorem BJ.skip (h:BJ a b DK Q i c) (hd:DK (nx a b (fL Q i) c)∨nx a b (fL Q i) c∈Q.map yi):BJ a b DK Q i (c+1) where
 head:=h.head
 walk:=h.walk
 sorted:=h.sorted
 nodup:=h.nodup
 done j k hjk hk hj:=by
  by_cases e:j=i∧k=c
  ·obtain ⟨rfl,rfl⟩:=e;rcases hd with hd|hd
   ·exact .inl hd
   ·obtain ⟨e,d,hp⟩:=Jt.1 hd;have:=h.bound hj e d;exact .inr ⟨e,d,hp,by omega⟩
  ·exact h.done j k (by omega) hk hj
 same:=h.same
 bound hi e d:=by have:=h.bound hi e d; omega
 len:=h.len
theorem BJ.push (h:BJ a b DK Q i c) (l:i<Q.length) (r:c<256) (hn:nx a b (fL Q i) c∉Q.map yi) :
 BJ a b DK (Q++[((nx a b (fL Q i) c).1,(nx a b (fL Q i) c).2,(fL Q i).2.2++[UInt8.ofNat c])]) i (c+1) where
 head:=by rw [Jc (by omega)]; exact h.head
 walk e d:=by
  rcases IZ.1 d with d|d
  ·exact h.walk e d
  ·rw [IY.1 d];have m:=h.walk _ (xF l);have g:(UInt8.ofNat c).toNat=c:=by simp; omega
   simp only [walkN,List.foldl_append,List.foldl_cons,List.foldl_nil,g,nx];unfold walkN at m;rw [←m.1,←m.2]; exact ⟨rfl,rfl⟩
 sorted:=by
  refine List.pairwise_append.2 ⟨h.sorted,by simp,fun e d f hf=>?_⟩;rw [IY.1 hf,lB];have g:(UInt8.ofNat c).toNat=c:=by simp; omega
  rw [g];exact h.bound l e d
 nodup:=by
  rw [Jh,List.nodup_append];refine ⟨h.nodup,by simp,fun p hp q hq e=>?_⟩;simp [yi] at hq;subst e hq;exact hn hp
 done j k hjk hk hj:=by
  rw [IW,IT] at hj;have n:j<Q.length:=by omega
  rw [pS n]
  by_cases e:j=i∧k=c
  ·obtain ⟨rfl,rfl⟩:=e;refine .inr ⟨_,List.mem_append_right _ (IY.2 rfl),rfl,?_⟩;rw [lB];have g:(UInt8.ofNat k).toNat=k:=by simp; omega
   rw [g]; exact Nat.le_refl _
  ·rcases h.done j k (by omega) hk n with h|⟨e,d,o⟩
   ·exact .inl h
   ·exact .inr ⟨e,List.mem_append_left _ d,o⟩
 same j hj hjl:=by
  rw [pS (by omega)];exact h.same j hj (by omega)
 bound hil e d:=by
  rw [pS l];rcases IZ.1 d with d|d
  ·have:=h.bound l e d; omega
  ·rw [IY.1 d,lB];have g:(UInt8.ofNat c).toNat=c:=by simp; omega
   rw [g]; omega
 len j hj:=by
  rw [IW,IT] at hj
  by_cases e:j<Q.length
  ·rw [pS e]; exact h.len j e
  ·have:j=Q.length:=by omega
   subst this;have:=h.len i l;simp [fL,IP] at this ⊢;omega
theorem BJ.turn (h:BJ a b DK Q i 256) (hs:i<Q.length→eK a (fL Q i).1=eK b (fL Q i).2.1):BJ a b DK Q (i+1) 0 where
 head:=h.head
 walk:=h.walk
 sorted:=h.sorted
 nodup:=h.nodup
 done j k hjk hk hj:=h.done j k (by omega) hk hj
 same j hj hjl:=by
  by_cases e:j=i
  ·subst e; exact hs hjl
  ·exact h.same j (by omega) hjl
 bound hil e he:=by
  have c:=h.bound (by omega) e he;have d:=List.pairwise_iff_getElem.1 h.sorted i (i+1) (by omega) hil (by omega);have g:fL Q i=Q[i]:=by simp [fL,IP,show i<Q.length by omega]
  have f:fL Q (i+1)=Q[i+1]:=by simp [fL,IP,hil]
  rw [g] at c;rw [f];exact FZ c d
 len:=h.len
theorem BJ.claim (h:BJ a b DK Q i 0) (r:∀p k,DK p→k<256→DK (bM a p.1 k,bM b p.2 k)) (w:Str) :
 DK (walkN a 0 w,walkN b 0 w)∨(∃j,j<Q.length∧yi (fL Q j)=(walkN a 0 w,walkN b 0 w)∧jg (fL Q j).2.2≤jg w)∨(i<Q.length∧jg (fL Q i).2.2≤jg w):=by
 obtain ⟨v,rfl⟩:∃v:Str,w=v.reverse:=⟨w.reverse,by simp⟩;induction v with
 | nil=>
  have n:=h.head;have hl:0<Q.length:=(IR.1 n).1;refine .inr (.inl ⟨0,hl,?_,?_⟩) <;> simp [fL,IP,n,yi,walkN]
 | cons x v ih=>
  rw [List.reverse_cons];generalize v.reverse=w at ih;have hx:=x.toNat_lt;have f:walkN a 0 (w++[x])=bM a (walkN a 0 w) x.toNat:=by simp [walkN]
  have d:walkN b 0 (w++[x])=bM b (walkN b 0 w) x.toNat:=by simp [walkN]
  rw [f,d,lB];rcases ih with ih|⟨j,hj,hp,hr⟩|⟨hi,hr⟩
  ·exact .inl (r _ _ ih hx)
  ·by_cases hji:j<i
   ·have g:nx a b (fL Q j) x.toNat=(bM a (walkN a 0 w) x.toNat,bM b (walkN b 0 w) x.toNat):=by
     have q:(fL Q j).1=walkN a 0 w:=congrArg (·.1) hp;have o:(fL Q j).2.1=walkN b 0 w:=congrArg (·.2) hp;simp only [nx,q,o]
    rcases h.done j x.toNat (.inl hji) hx hj with c|⟨e,he,c,m⟩
    ·rw [g] at c; exact .inl c
    ·rw [g] at c;obtain ⟨k,l,rfl⟩:=Ji.1 he;have ek:fL Q k=Q[k]:=by simp [fL,IP,l]
     exact .inr (.inl ⟨k,l,by rw [ek]; exact c,by rw [ek]; exact FY m hr⟩)
   ·have:jg (fL Q i).2.2≤jg (fL Q j).2.2:=by
     by_cases e:j=i
     ·subst e; exact Nat.le_refl _
     ·have m:=List.pairwise_iff_getElem.1 h.sorted i j (by omega) hj (by omega);have f:fL Q i=Q[i]'(by omega):=by simp [fL,IP,show i<Q.length by omega]
      have d:fL Q j=Q[j]:=by simp [fL,IP,hj]
      rw [f,d]; omega
    exact .inr (.inr ⟨by omega,by omega⟩)
  ·exact .inr (.inr ⟨hi,by omega⟩)
theorem BJ.found (h:BJ a b DK Q i 0) (n:∀p k,DK p→k<256→DK (bM a p.1 k,bM b p.2 k)) (m:∀p,DK p→eK a p.1=eK b p.2) (l:i<Q.length) (g:eK a (fL Q i).1≠eK b (fL Q i).2.1) :
 tP a b ((fL Q i).2.2,true):=by
 have c:=h.walk _ (xF l);refine .inl ⟨rfl,?_,fun w c=>?_⟩
 ·unfold yQ; simp only []; rw [←c.1,←c.2]; exact g
 ·rcases h.claim n w with o|⟨j,hj,hp,hr⟩|⟨_,hr⟩
  ·exact (c (m _ o)).elim
  ·by_cases hji:j<i
   ·have hs:=h.same j hji hj;have f:(fL Q j).1=walkN a 0 w:=congrArg (·.1) hp;have d:(fL Q j).2.1=walkN b 0 w:=congrArg (·.2) hp;rw [f,d] at hs;exact (c hs).elim
   ·have:jg (fL Q i).2.2≤jg (fL Q j).2.2:=by
     by_cases e:j=i
     ·subst e; exact Nat.le_refl _
     ·have s:=List.pairwise_iff_getElem.1 h.sorted i j (by omega) hj (by omega);have r:fL Q i=Q[i]'(by omega):=by simp [fL,IP,show i<Q.length by omega]
      have q:fL Q j=Q[j]:=by simp [fL,IP,hj]
      rw [r,q]; omega
    simp only []; omega
  ·exact hr
theorem BJ.none (h:BJ a b DK Q i 0) (g:∀p k,DK p→k<256→DK (bM a p.1 k,bM b p.2 k)) (f:∀p,DK p→eK a p.1=eK b p.2) (m:Q.length≤i):tP a b ([],false):=by
 refine .inr ⟨rfl,fun w c=>?_⟩;rcases h.claim g w with l|⟨j,hj,hp,hr⟩|⟨n,_⟩
 ·exact c (f _ l)
 ·have hs:=h.same j (by omega) hj;have e:(fL Q j).1=walkN a 0 w:=congrArg (·.1) hp;have d:(fL Q j).2.1=walkN b 0 w:=congrArg (·.2) hp;rw [e,d] at hs;exact c hs
 ·omega
theorem BJ.few (h:BJ a b DK Q i c) (ha:Ok a) (hb:Ok b):Q.length≤(a.Next.length+1)*(b.Next.length+1):=by
 have l:∀e∈Q,qX a e.1∧qX b e.2.1:=fun e d=>by
  have:=h.walk e d;rw [this.1,this.2];exact ⟨fD ha (fY ha) _,fD hb (fY hb) _⟩
 let f:EntD→Nat:=fun e=>(e.1+1).toNat*(b.Next.length+1)+(e.2.1+1).toNat
 have:=gH ((a.Next.length+1)*(b.Next.length+1)) (Q.map f) (by
  refine List.pairwise_map.2 ((List.pairwise_map.1 h.nodup).imp_of_mem fun {e g} d p o j=>o ?_);obtain ⟨⟨t,s⟩,r,q⟩:=l e d;obtain ⟨⟨z,y⟩,w,v⟩:=l g p;have m:(e.2.1+1).toNat<b.Next.length+1:=by omega
  have k:(g.2.1+1).toNat<b.Next.length+1:=by omega
  have n:(e.2.1+1).toNat=(g.2.1+1).toNat:=by
   have:=congrArg (· % (b.Next.length+1)) j;simpa [f,JI m,JI k,Nat.add_mod] using this
  have u:(e.1+1).toNat=(g.1+1).toNat:=by
   have j:(e.1+1).toNat*(b.Next.length+1)+(e.2.1+1).toNat=(g.1+1).toNat*(b.Next.length+1)+(g.2.1+1).toNat:=j;rw [n] at j;exact Nat.eq_of_mul_eq_mul_right (by omega:0<b.Next.length+1) (by omega)
  show (e.1,e.2.1)=(g.1,g.2.1);rw [Prod.mk.injEq];exact ⟨by omega,by omega⟩) (fun x hx=>by
  obtain ⟨e,d,rfl⟩:=Jt.1 hx;obtain ⟨⟨t,s⟩,r,q⟩:=l e d;have m:(e.2.1+1).toNat<b.Next.length+1:=by omega
  have k:(e.1+1).toNat+1≤a.Next.length+1:=by omega
  have:=Jj (b.Next.length+1) k;rw [Nat.succ_mul] at this;show (e.1+1).toNat*(b.Next.length+1)+(e.2.1+1).toNat<_;omega)
 simpa using this
end
def rD (e:cM):EntD:=(e.atv.a,e.atv.b,e.text)
def tN (m:List (bJ×Unit)) (L:List cM):Prop:=∀p:bJ,(cb m p).isSome=true↔(p.a,p.b)∈(L.map rD).map yi
theorem pR {L:List cM} {k:Nat} (h:k<L.length):fL (L.map rD) k=rD L[k]:=by simp [fL,IP,h]
section
variable {a b:T_DFA} (ha:Ok a) (hb:Ok b)
include ha hb
theorem Dw {DK:Int×Int→Prop} {Q:List EntD} {i c:Nat} (h:BJ a b DK Q i c) {e:EntD} (he:e∈Q):qX a e.1∧qX b e.2.1:=by
 have:=h.walk e he;rw [this.1,this.2];exact ⟨fD ha (fY ha) _,fD hb (fY hb) _⟩
theorem DM:(a.Next.length+1)*(b.Next.length+1)≤251001:=by
 have:=Nat.mul_le_mul (Nat.succ_le_succ ha.max) (Nat.succ_le_succ hb.max);exact this
theorem zV {DK:Int×Int→Prop} {Q:List EntD} {i c:Nat} (h:BJ a b DK Q i c):Q.length≤251001:=Nat.le_trans (h.few ha hb) (DM ha hb)
theorem sf:Is (M.f9 a b) (tP a b):=by
 unfold M.f9;have B:∀(p:Int×Int) (k:Nat),False→k<256→False:=fun _ _ h _=>h
 refine Is.bs (P:=fun _=>tP a b ([],false)) (Is.while (fun d=>∃k:Nat,d.2.2=(k:Int)∧k≤d.1.length∧BJ a b (fun _=>False) (d.1.map rD) k 0∧tN d.2.1 d.1) (fun d=>251002 - d.2.2.toNat) ?_ (by simp only []; omega) ?_) ?_
 ·refine ⟨0,rfl,by simp,BJ.start,fun p=>?_⟩;simp only [dQ,cb,List.find?_cons,List.find?_nil];obtain ⟨s,r⟩:=p
  by_cases h:bJ.mk 0 0=⟨s,r⟩
  ·rw [h];cases h; simp [rD,yi]
  ·rw [show ((bJ.mk 0 0) == ⟨s,r⟩)=false by simpa using h];simp [rD,yi];rintro rfl rfl; exact h rfl
 ·rintro ⟨L,m,_⟩ ⟨k,rfl,H,hB,A⟩;simp only [] at hB A H ⊢;refine Is.dcd (fun K=>?_) fun N=>Is.stop (hB.none B (fun _ h=>h.elim) (by simp; omega))
  have l:k<L.length:=by omega
  have G:k<(L.map rD).length:=by simpa using l
  have n:=Dw ha hb hB (e:=rD L[k]) (List.mem_map_of_mem (IU l));refine Is.bs (P:=fun d=>BJ a b (fun _=>False) (d.1.map rD) (k+1) 0∧tN d.2 d.1∧k<d.1.length) ?_ ?_
  ·refine Is.bnq (be l) (Is.bnq (nZ ha n.1) (Is.bnq (nZ hb n.2) (Is.cnd (fun F=>Is.stop ?_) fun v=>?_)))
   ·have:=hB.found B (fun _ h=>h.elim) G (by rw [pR l]; exact kO F);rw [pR l] at this;exact this
   ·have v:=eR v;refine Is.upto (fun c d=>d.2.2=(c:Int)∧BJ a b (fun _=>False) (d.1.map rD) k c∧tN d.2.1 d.1∧d.1[k]?=some L[k]) 256 (by omega) ⟨rfl,hB,A,IQ l⟩ ?_ ?_
    ·rintro c ⟨L',m',_⟩ o ⟨rfl,f,g,j⟩;simp only [] at f g j ⊢;obtain ⟨i,x⟩:=IR.1 j;have w:fL (L'.map rD) k=rD L[k]:=by rw [pR i,x]
     refine Is.dt (by omega) (Is.bnd (P:=fun d=>BJ a b (fun _=>False) (d.1.map rD) k (c+1)∧tN d.2 d.1∧d.1[k]?=some L[k]) ?_ ?_)
     ·rw [mW o];refine Is.bnd (P:=fun p=>p=nx a b (rD L[k]) c) (Is.bnq (mZ ha n.1 o) (Is.bnq (mZ hb n.2 o) (Is.pure rfl))) ?_;rintro _ rfl;have hs:=g ⟨(nx a b (rD L[k]) c).1,(nx a b (rD L[k]) c).2⟩;refine Is.cnd (fun t=>?_) fun D=>Is.pure ⟨f.skip (.inr ?_),g,j⟩
      ·have t:nx a b (fL (L'.map rD) k) c∉(L'.map rD).map yi:=by
        rw [w]; intro h;have:=hs.2 h;simp [this] at t
       have hp:=f.push (by simpa using i) o t;have hlen:=f.len k (by simpa using i);have u:=zV ha hb f;simp only [Jg] at u;rw [w] at hp hlen;have I:Aj L[k].text (cX [(c:Int)])=some (L[k].text++[UInt8.ofNat c]):=by
        unfold Aj cX;have:L[k].text.length≤k:=hlen;rw [if_pos (by simp; omega)];simp
       refine Is.bnq I (Is.bnq (bO (by simp; omega)) (Is.pure ⟨by rw [Jh]; exact hp,fun p=>?_,by rw [Jc i]; exact j⟩));simp only [Jh,IZ]
       by_cases hpe:p=⟨(nx a b (rD L[k]) c).1,(nx a b (rD L[k]) c).2⟩
       ·rw [hpe,ou]; simp [rD,yi]
       ·rw [pI hpe,g p];constructor
        ·exact .inl
        ·rintro (h|h)
         ·exact h
         ·simp [rD,yi] at h;exact (hpe (by obtain ⟨s,r⟩:=p; simp at h; rw [h.1,h.2]; rfl)).elim
      ·rw [w];exact hs.1 (by simpa using D)
     ·rintro ⟨Q,J⟩ ⟨q,z,y⟩;exact Is.bnq (aK (by omega)) (Is.next ⟨rfl,q,z,y⟩)
    ·rintro ⟨L',m',_⟩ ⟨rfl,f,g,j⟩;simp only [] at f g j ⊢;obtain ⟨i,x⟩:=IR.1 j;refine Is.df (by omega) (Is.stop ⟨f.turn fun _=>?_,g,i⟩);rw [pR i,x]; exact v
  ·rintro ⟨L',m'⟩ ⟨q,z,y⟩;have u:=zV ha hb q;simp only [Jg] at u y;exact Is.bnq (aK (by omega)) (Is.next ⟨⟨k+1,rfl,by simp only []; omega,q,z⟩,by simp only [Jl]; omega⟩)
 ·intro _ h;exact Is.pure h
end
theorem uh {d:T_DFA} (h:Ok d) {l:List Bool} (hl:∀s,s<(dG d).Next.length→(l.getD s false=true↔Live (dG d) (s:Int))) :
 Ok (co l (dG d))∧Full (co l (dG d))∧AllLive (co l (dG d))∧(∀w,rF (co l (dG d)) 0 w=rF d 0 w):=by
 have a:=ug h;have hf:=pZ h;refine ⟨Eu a,Bw a hf,fun s b hs hb e=>?_,fun w=>?_⟩
 ·have c:qX (dG d) s:=by
   have:(co l (dG d)).Next.length=(dG d).Next.length:=by simp [co]
   unfold qX at hs ⊢;rw [this] at hs; exact hs
  exact Bv a hl c hb e
 ·rw [zl a hl (fY a),xS h (fY h)]
theorem BK {f:Int→Int} {l:List Int} {v:Int} (h:v∈l.map f):f (l.getD ((l.map f).idxOf v) 0)=v:=by
 have hlt:=List.idxOf_lt_length_of_mem h;have e1:(l.map f)[(l.map f).idxOf v]'hlt=v:=by simp
 rw [JC] at e1;have hlt':(l.map f).idxOf v<l.length:=by simpa using hlt
 rw [IP,IQ hlt'];exact e1
theorem vr {d:T_DFA} (h:Ok d) (hacc:∀a∈d.Accept,a≤9223372036854775807) :
 Is (M.f4 d) (fun m=>AJ m∧(∀w,rF m 0 w=rF d 0 w)∧m.Next.length≤d.Next.length∧∀a∈m.Accept,a≤9223372036854775807):=by
 unfold M.f4;refine Is.bnq (Ba h) (Is.bnd (yh (ug h) (pZ h)) ?_);rintro _ ⟨H,rfl,R⟩;obtain ⟨n,hf,hal,L⟩:=uh h R;have W:∀a∈(co H (dG d)).Accept,a≤9223372036854775807:=hacc;have N:(co H (dG d)).Next.length=d.Next.length:=by simp [co,dG]
 simp only [←L,←N];clear L R N hacc;generalize co H (dG d)=e at *;clear h d H;have b6:=n.max;refine Is.bnd (tm n hf hal W) fun p hp=>?_
 refine Is.bnd (P:=fun c=>∃l,RchM e p l∧(∀w,0≤walkN e 0 w→∃x∈l,gq p x=gq p (walkN e 0 w))∧c=(List.range 256).map (dK (keyC e p l))) ?_ ?_
 ·refine Is.bnd (vI n hf hp hal) fun l ⟨hR,hRc⟩=>?_
  have:=fm hp hR.inr hR.nodup;exact Is.bnq (wy n hp hR.inr (by omega)) (Is.pure ⟨l,hR,hRc,rfl⟩)
 rintro _ ⟨l,hR,hRc,rfl⟩;refine Is.bnd (vB (keyC e p l)) fun bytes hB=>?_
 have a5:=n.pos;have c0:bytes.length≤256:=by rw [hB.len]; exact rB _ 256
 refine Is.bnq (oB hp (x:=0) (by omega) (by omega)) ?_;refine Is.bnd (P:=fun r=>∃order,MC e p bytes order r.1 r.2 order.length []) ?_ ?_
 ·refine Is.while (fun f=>∃k:Nat,f.2.2.2.2=(k:Int)∧MC e p bytes f.2.2.1 f.1 f.2.1 k []∧dh (fun _=>True) id f.2.2.2.1 (f.2.2.1.map (gq p))) (fun f=>e.Next.length - f.2.2.2.2.toNat) ⟨0,rfl,MC.start0 a5,?_⟩ (by simp only []; omega) ?_
  ·exact ((dh.nil (P:=fun _=>True) (enc:=id)).new (fun _ _ _ _ e=>e) (k:=gq p 0) trivial (by simp)).2
  rintro ⟨rows,accs,order,m,_⟩ ⟨k,rfl,hM,Q⟩;simp only [] at hM Q ⊢;have b8:=hM.ile;have a6:=fm hp hM.inr hM.nodup;refine Is.dcd (fun b7=>?_) fun b9=>Is.stop ⟨order,?_⟩
  rotate_left
  ·have:k=order.length:=by omega
   subst this; exact hM
  have hk:k<order.length:=by omega
  refine Is.bnd (P:=fun f=>k+1≤f.2.2.1.length∧MC e p bytes f.2.2.1 f.1 f.2.1 (k+1) []∧dh (fun _=>True) id f.2.2.2 (f.2.2.1.map (gq p))) ?_ ?_
  ·refine Is.bnq (dW (by omega)) (Is.bnd (P:=fun f=>k<f.1.length∧MC e p bytes f.1 rows accs k f.2.2∧f.2.2.length=bytes.length∧dh (fun _=>True) id f.2.1 (f.1.map (gq p))) ?_ ?_)
   ·refine Is.upto (fun c f=>f.2.2.2=(c:Int)∧k<f.1.length∧dh (fun _=>True) id f.2.1 (f.1.map (gq p))∧∃done:List Int,done.length=c∧f.2.2.1=done++List.replicate (bytes.length - c) 0∧MC e p bytes f.1 rows accs k done) bytes.length (by omega) ⟨rfl,hk,Q,[],rfl,by simp,hM⟩ ?_ ?_
    ·rintro c ⟨j,I,_,_⟩ U ⟨rfl,i,o,done,q,rfl,g⟩;simp only [] at i o g ⊢;have J:=fm hp g.inr g.nodup;obtain ⟨b,hb,X,_⟩:=hB.rep c U;have hx:=g.inr _ (cW (d:=0) i);have a4:List.replicate (bytes.length - c) (0:Int)=0::List.replicate (bytes.length - (c+1)) 0:=by
      rw [show bytes.length - c=(bytes.length - (c+1))+1 by omega,List.replicate_succ]
     have K:∀v u:Int,dk (done++v::List.replicate (bytes.length - (c+1)) 0) (c:Int) u=some ((done++[u])++List.replicate (bytes.length - (c+1)) 0):=by
      intro v u;rw [cK (by simp; omega),List.set_append,if_neg (by omega),q,Nat.sub_self,List.set_cons_zero,Ja]; rfl
     have V:((bytes.getD done.length 0).toNat)=b:=by rw [q,X]; rfl
     have S:=cT n (s:=j.getD k 0) ⟨by omega,hx.2⟩ hb;have T:∀v,lY e p j (j.getD k 0) v b→MC e p bytes j rows accs k (done++[v]):=fun v hv=>g.old i (by rw [V]; exact hv)
     refine Is.dt (by omega) (Is.bnd (P:=fun f=>k<f.1.length∧dh (fun _=>True) id f.2.1 (f.1.map (gq p))∧∃G:List Int,G.length=c+1∧f.2.2=G++List.replicate (bytes.length - (c+1)) 0∧MC e p bytes f.1 rows accs k G) ?_ ?_)
     ·refine Is.bnq (xv U) (Is.bnq (xv i) (Is.bnq (x:=bM e (j.getD k 0) b) (by rw [X]; exact mZ n ⟨by omega,hx.2⟩ hb) ?_));rw [a4];refine Is.bnq (K 0 (-1)) (Is.dcd (fun B=>Is.pure ⟨i,o,done++[-1],by simp [q],rfl,T _ (.inl ⟨B,rfl⟩)⟩) fun B=>?_);have B:0≤bM e (j.getD k 0) b:=by omega
      refine Is.bnq (oB hp B S.2) (Is.bnd (P:=fun r=>k<r.1.length∧dh (fun _=>True) id r.2.1 (r.1.map (gq p))∧MC e p bytes r.1 rows accs k (done++[r.2.2])) ?_ ?_)
      ·by_cases hmem:gq p (bM e (j.getD k 0) b)∈j.map (gq p)
       ·obtain ⟨t,A⟩:=o.old trivial hmem;simp only [id] at t A;rw [t,A];refine Is.cf rfl (Is.pure ⟨i,o,T _ (.inr ⟨B,_,rfl,?_,?_⟩)⟩)
        ·have:=List.idxOf_lt_length_of_mem hmem;simpa using this
        ·exact BK hmem
       ·obtain ⟨t,A⟩:=o.new (fun _ _ _ _ e=>e) trivial hmem;simp only [id] at t A;rw [t];rw [Jg] at A;refine Is.ct rfl (Is.bnq (bO (by simp; omega)) (Is.pure ⟨by simp; omega,by rw [Jh]; exact A,?_⟩));obtain ⟨w,hw⟩:=g.walk _ (cW (d:=0) i);refine g.new i (by rw [V]) B S.2 ⟨w++[UInt8.ofNat b],?_⟩ hmem;have e1:(UInt8.ofNat b).toNat=b:=by simp; omega
        rw [iN,hw,e1]
      ·rintro ⟨Y,m3,v⟩ ⟨F,y,D⟩;simp only [] at F y D ⊢;refine Is.bnq (x:=(done++[v])++List.replicate (bytes.length - (c+1)) 0) ?_ (Is.pure ⟨F,y,done++[v],by simp [q],rfl,D⟩);have:=K (-1) v
       rwa [show done++-1::List.replicate (bytes.length - (c+1)) 0=(done++[-1])++List.replicate (bytes.length - (c+1)) 0 by simp] at this
     ·rintro ⟨Y,m3,l3⟩ ⟨F,y,G,D,g4,g5⟩;exact Is.bnq (aK (by omega)) (Is.next ⟨rfl,F,y,G,D,g4,g5⟩)
    ·rintro ⟨j,I,_,_⟩ ⟨rfl,i,o,done,q,rfl,g⟩;simp only [] at i o g ⊢;refine Is.df (by omega) (Is.stop ?_);simp only [Nat.sub_self,List.replicate_zero,List.append_nil];exact ⟨i,g,q,o⟩
   ·rintro ⟨j,I,done⟩ ⟨i,g,q,o⟩;simp only [] at i g q o ⊢;have J:=fm hp g.inr g.nodup;have hx:=g.inr _ (cW (d:=0) i);have b5:=g.rlen;have a9:=congrArg List.length g.accs;simp at a9;have a8:=n.acc;refine Is.bnq (bO (by simp; omega)) (Is.bnq (xv i) (Is.bnq (eh (d:=0) hx.1 (by rw [a8]; exact hx.2)) (Is.bnq (bO (by simp; omega)) (Is.pure ⟨i,g.turn i q,o⟩))))
  ·rintro ⟨r2,a2,j,I⟩ ⟨F,y,D⟩;have J:=fm hp y.inr y.nodup;simp only [] at F J;exact Is.bnq (aK (by omega)) (Is.next ⟨⟨k+1,rfl,y,D⟩,by simp only [Jl]; omega⟩)
 ·rintro ⟨rows,accs⟩ ⟨order,hM⟩;simp only [] at hM ⊢;have a6:=fm hp hM.inr hM.nodup;refine Is.pure ⟨yl n hal hp hR hRc hB hM,fun w=>?_,?_,fun a ha=>?_⟩
  ·have:=pG n hal hp hR hRc hB hM w 0 hM.z.2;rw [hM.z.1] at this;exact this
  ·have:=hM.rlen;show rows.length≤_;omega
  ·have ha:a∈accs:=ha;have t:=hM.accs;rw [IV] at t;rw [t] at ha;obtain ⟨x,hx,rfl⟩:=Jt.1 ha;have:=hM.inr x hx;exact W _ (cW (by rw [n.acc]; omega))
theorem Bd {α:Type} {l:List α} {i j:Nat} (h1:i≤j) (h2:j≤l.length):qd l (i:Int) (j:Int)=some ((l.take j).drop i):=by unfold qd; rw [if_pos ⟨by omega,by omega,by omega⟩]; simp
theorem zQ {K:Int} (hK:0≤K) {a:List Int} {n:Nat} (h:∀x∈a,x≤K):∀x∈tV a n,x≤K:=by
 intro x hx;rcases IZ.1 hx with hx|hx
 ·exact h x hx
 ·rw [(List.mem_replicate.1 hx).2]; omega
theorem sE {K i:Int} (hi:i≤K):∀(la:List Nat) {a:List Int},(∀x∈a,x≤K)→∀x∈lN la i a,x≤K
 | [],_,h=>h
 | p::la,a,h=>sE hi la (a:=a.set p i) fun x hx=>by
  rcases List.mem_or_eq_of_mem_set hx with hx|rfl
  ·exact h x hx
  ·exact hi
theorem yy {K i:Int} (hi:i≤K) {n:Bool} {a:List Int} (h:∀x∈a,x≤K):∀x∈lU n i a,x≤K:=by
 unfold lU;cases n && decide (a.getD 0 0<0)
 ·exact h
 ·intro x hx;rcases List.mem_or_eq_of_mem_set hx with hx|rfl
  ·exact h x hx
  ·exact hi
theorem vk {K:Nat}:∀(l:List T_Regex) (i:Nat) (s:Bs×List Int),i+l.length≤K→(∀x∈s.2,x≤(K:Int))→∀x∈(dM i l s).2,x≤(K:Int)
 | [],_,_,_,h=>h
 | y::l,i,s,hi,h=>by
  simp only [Jp] at hi;exact vk l (i+1) (so i y s) (by omega) (yy (by omega) (sE (by omega) _ (zQ (by omega) h)))
theorem Cj {K:Int} (c:0≤K) {acc:List Int} (h:∀x∈acc,x≤K) (l:List Int):oJ acc l≤K:=by
 have b:∀k:Nat,acc.getD k 0≤K:=fun k=>by
  by_cases hk:k<acc.length
  ·exact h _ (cW hk)
  ·rw [IP,Jr (by omega)]; exact c
 have:∀(l:List Int) (o:Int),o≤K→l.foldl (gk acc) o≤K:=by
  intro l;induction l with
  | nil=>exact fun o a=>a
  | cons s l ih=>
   intro o a;refine ih _ ?_;unfold gk;cases (decide (0≤acc.getD s.toNat 0) && (decide (o<0) || decide (acc.getD s.toNat 0<o)))
   ·exact a
   ·exact b _
 exact this l (-1) (by omega)
structure Hy (l:List T_Regex) (d:T_DFA):Prop where
  val:∀y∈l,V 30 y=true
  prt:bF l≤500
  fin:tR (dg l)
  can:AJ d
  run:∀w:Str,AB l (bU w) (eK d (walkN d 0 w))
theorem rh {l:List T_Regex} (ok:∀x∈l,bQ x) (hp:bF l≤1048576):Is (M.b2 l) (fun r=>(r.2=0→Hy l r.1)∧((∀y∈l,V 30 y=true)→bF l≤500→tR (dg l)→r.2=0)):=by
 unfold M.b2;refine Is.bnd (BM ok hp) fun r c=>?_
 obtain ⟨n,e⟩:=r;rcases c with ⟨⟨y,hy,g⟩,b,f⟩|⟨_,t,b,f⟩|⟨j,d,b,f⟩
 ·obtain rfl:e=1:=b;exact Is.ct rfl (Is.pure ⟨fun e=>absurd (show (1:Int)=0 from e) (by decide),fun h=>by rw [h y hy] at g; cases g⟩)
 ·obtain rfl:e=11:=b;exact Is.ct rfl (Is.pure ⟨fun e=>absurd (show (11:Int)=0 from e) (by decide),fun _ h=>by omega⟩)
 ·obtain rfl:e=0:=b;obtain rfl:n=dg l:=f;have hn:=sv ok d;have hal:=(kQ d).2;refine Is.cf rfl (Is.bnd (Dz (n:=dg l) hn (by omega)) fun r c=>?_);rcases c with ⟨rfl,k⟩|⟨p,hf,hd⟩
  ·exact Is.ct rfl (Is.pure ⟨fun e=>absurd e (by decide),fun _ _ hf=>(BF k hf).elim⟩)
  ·refine Is.cf (by rw [p]; rfl) ?_;have s:=fy l;have o:∀a∈r.1.Accept,a≤9223372036854775807:=by
    intro a ha;obtain ⟨S,rfl⟩:=hd.2.2.2 a ha;refine Cj (by decide) (fun x hx=>?_) S;have:=vk (K:=l.length) l 0 dn (by omega) (by intro x hx; rw [show dn.2=[-1] from rfl] at hx; rw [IY.1 hx]; omega) x hx;omega
   refine Is.bnd (vr hd.1 o) fun m i=>Is.pure ⟨fun _=>⟨j,d,hf,i.1,fun w=>?_⟩,fun _ _ _=>rfl⟩
   have q:eK m (walkN m 0 w)=Dg (dg l) w:=(i.2.1 w).trans (hd.2.1 w);rw [q];exact xX hn w
theorem wI {c:UInt8} {w:List Nat}:L ⟨3,rT (eJ c.toNat c.toNat),[]⟩ w↔w=[c.toNat]:=by
 have a:eJ c.toNat c.toNat=[c.toNat]:=by
  unfold eJ;rw [show c.toNat+1 - c.toNat=1 by omega];simp
 have d:∀b,mem (rT (eJ c.toNat c.toNat)) b=decide (b=c.toNat):=fun b=>by
  rw [xp (by rw [a]; intro b hb; rw [IY.1 hb]; exact c.toNat_lt),a];simp
 rw [DZ];constructor
 ·rintro ⟨b,rfl,hb⟩;rw [d] at hb;rw [of_decide_eq_true hb]
 ·rintro rfl;exact ⟨_,rfl,by rw [d]; simp⟩
def pr (s:Str):List T_Regex:=s.map fun c=>⟨3,rT (eJ c.toNat c.toNat),[]⟩
theorem qT:∀s:Str,bF (pr s)=s.length
 | []=>rfl
 | c::s=>by
  have:=qT s;show parts _+bF (pr s)=_;rw [this];simp [parts,bF]; omega
theorem wH:∀(s:Str) (w:List Nat),LC (pr s) w↔w=bU s
 | [],w=>Iff.rfl
 | c::s,w=>by
  show (∃u v,w=u++v∧L _ u∧LC (pr s) v)↔w=c.toNat::bU s;constructor
  ·rintro ⟨u,v,rfl,h1,h2⟩;rw [(wH s v).1 h2,wI.1 h1]; rfl
  ·rintro rfl;exact ⟨[c.toNat],bU s,rfl,wI.2 rfl,(wH s _).2 rfl⟩
theorem wb {s:Str} (hs:s.length≤1000):Is (M.f0 s) (fun x=>bQ x∧parts x≤s.length+1∧∀w,L x w↔w=bU s):=by
 unfold M.f0;refine Is.bnq (x:=pr s) (Is.eq ?_) ?_
 ·refine Is.upto (fun i (b:List T_Regex×Int)=>b.2=(i:Int)∧b.1=pr (s.take i)) s.length (by omega) ⟨rfl,rfl⟩ ?_ ?_
  ·rintro i ⟨l,_⟩ d ⟨rfl,e⟩;obtain rfl:l=_:=e;refine Is.dt (by omega) (Is.bnq (dR d) (Is.bnq (nR (s[i]).toNat_lt (s[i]).toNat_lt) (Is.bnq (bO (by simp only [pr,Jg,Jo,IT]; omega)) (Is.bnq (aK (by omega)) (Is.next ⟨rfl,?_⟩)))));show pr (s.take i)++_=pr (s.take (i+1));rw [Jb d]; unfold pr; rw [Jh]; rfl
  ·rintro ⟨l,_⟩ ⟨rfl,e⟩;obtain rfl:l=_:=e;rw [IV];exact Is.df (by omega) (Is.stop rfl)
 ·have hlen:(pr s).length=s.length:=by simp [pr]
  refine Is.cnd (fun a=>?_) (fun a=>Is.pure ⟨fG (by omega) (by omega) ?_,?_,fun w=>FR.trans (wH s w)⟩)
  ·have a:=dA a;obtain ⟨c,rfl⟩:=List.length_eq_one_iff.1 (show s.length=1 by omega);exact Is.bnq (x:=⟨3,rT (eJ c.toNat c.toNat),[]⟩) rfl (Is.pure ⟨nw (lk _),by simp [parts,bF],fun w=>wI⟩)
  ·intro y hy;obtain ⟨c,_,rfl⟩:=Jt.1 hy;exact nw (lk _)
  ·have:=qT s;simp only [parts]; omega
theorem sP:∀ {s t:Str},bU s=bU t→s=t
 | [],[],_=>rfl
 | [],_::_,h=>by cases h
 | _::_,[],h=>by cases h
 | a::s,b::t,h=>by
  have h:a.toNat::bU s=b.toNat::bU t:=h;rw [UInt8.toNat_inj.1 (List.cons.inj h).1,sP (List.cons.inj h).2]
theorem xn {x:T_Regex} {d:T_DFA} (h:Hy [x] d) (w:Str):eK d (walkN d 0 w)=0↔L x (bU w):=by
 rcases h.run w with ⟨e,h1⟩|⟨j,hj,e,h1,_⟩
 ·rw [e];exact ⟨fun h=>by omega,fun h2=>absurd h2 (h1 0 (by simp))⟩
 ·simp only [IT] at hj;obtain rfl:j=0:=by omega
  exact ⟨fun _=>h1,fun _=>e⟩
theorem xm {x:T_Regex} {s:Str} (ok:bQ x) (hp:parts x≤100000) (hs:s.length≤1000):Is (M.d6 x s) (fun b=>b=true→∀w:Str,L x (bU w)↔w=s):=by
 have g:∀y:T_Regex,bF [y]=parts y:=fun y=>by simp [bF]
 unfold M.d6;refine Is.bnd (rh (l:=[x]) (by simpa using ok) (by rw [g]; omega)) fun a ha=>Is.bnd (wb hs) fun y hy=>Is.bnd (rh (l:=[y]) (by simpa using hy.1) (by have:=hy.2.1; rw [g]; omega)) fun b hb=>?_
 refine Is.bnd (P:=fun e=>e=false→a.2=0∧b.2=0) ?_ fun e k=>Is.cnd (fun _=>Is.pure fun h=>by cases h) (fun h=>?_)
 ·exact Is.cnd (fun h=>Is.pure fun h=>by cases h) (fun h=>Is.pure fun f=>⟨eR h,eR f⟩)
 obtain ⟨m,f⟩:=k h;have A:=ha.1 m;have B:=hb.1 f;refine Is.bnd (sf A.can.ok B.can.ok) fun d hd=>Is.pure fun hb w=>?_
 have i:¬ yQ a.1 b.1 w:=by
  rcases hd with ⟨c,_⟩|⟨_,c⟩
  ·rw [c] at hb; cases hb
  ·exact c w
 have j:eK a.1 (walkN a.1 0 w)=eK b.1 (walkN b.1 0 w):=by
  unfold yQ at i;exact Classical.not_not.1 i
 rw [←xn A w,j,xn B w,hy.2.2];exact ⟨sP,fun h=>by rw [h]⟩
def rx (d:bz):T_Regex×Int×Int:=(M.g0 d.Pattern).getD (⟨0,aV.zero 4,[]⟩,0,3)
structure Cu (d:bz):Prop where
  prog:M.g0 d.Pattern=some (rx d)
  ref:M.h1 d.Pattern=some (rx d)
  ok:bQ (rx d).1
  hgt:height (rx d).1≤92
  prt:parts (rx d).1≤31*2 ^ height (rx d).1
  val:(rx d).2.2=0→V 30 (rx d).1=true
theorem CD {d:bz} (h:d.Pattern.length≤30):Cu d:=by
 obtain ⟨r,h1,h2,h3,h4,h5,h6⟩:=yk (s:=d.Pattern) (by omega);have e:rx d=r:=by unfold rx; rw [h1]; rfl
 subst e;exact ⟨h1,h2,h3,by omega,Nat.le_trans h5 (Jj _ (by omega)),h6⟩
theorem qI {d:bz} (h:Cu d):M.g6 d=some (rx d).1:=by
 unfold M.g6;rw [h.ref]; rfl
structure yM (d:bz):Prop where
  ro:Cu d
  low:height (rx d).1≤8
  good:(rx d).2.2=0
theorem yM.parts {d:bz} (h:yM d):parts (rx d).1≤7936:=Nat.le_trans h.ro.prt (Nat.le_trans (Jk 31 (Nat.pow_le_pow_right (by omega) h.low)) (by decide))
theorem yM.fit {d:bz} (h:yM d):Fit (rx d).1:=tD _ 30 h.ro.ok (h.ro.val h.good) (by have:=h.parts; omega)
theorem yM.fh {d:bz} (h:yM d):FH (rx d).1:=⟨h.fit,by have:=h.low; unfold aZ; omega⟩
theorem yv {s:Str} (hs:s.length≤1000000):Is (M.h5 s) (fun _=>True):=by
 unfold M.h5;refine Is.bnd (P:=fun _=>True) ?_ fun b _=>Is.cnd (fun _=>Is.pure trivial) (fun _=>?_)
 ·exact Is.cnd (fun _=>Is.pure trivial) (fun _=>Is.cnd (fun _=>Is.pure trivial) (fun _=>Is.bnq rfl (Is.cnd (fun _=>Is.pure trivial) (fun _=>Is.bnq rfl (Is.cnd (fun _=>Is.pure trivial) (fun _=>Is.bnq rfl (Is.pure trivial)))))))
 ·refine Is.bs (P:=fun _=>True) (Is.upto (fun i a=>a=(i:Int)) s.length (by omega) rfl ?_ ?_) (fun _ _=>Is.pure trivial)
  ·rintro i _ c rfl;refine Is.dt (by omega) (Is.bnq (dR c) (Is.bnd (P:=fun _=>True) ?_ fun b _=>Is.bnd (P:=fun _=>True) ?_ fun b _=>Is.cnd (fun _=>Is.stop trivial) (fun _=>Is.bnq (aK (by omega)) (Is.next rfl)))) <;>
   repeat' (first|exact Is.pure trivial|refine Is.cnd (fun _=>?_) (fun _=>?_))
  ·rintro _ rfl;exact Is.df (by omega) (Is.stop trivial)
theorem tl {s:Str} (hs:s.length≤1000000):Is (M.f3 s) (fun _=>True):=by
 unfold M.f3;refine Is.bs (P:=fun _=>True) (Is.upto (fun i a=>a=(i:Int)) s.length (by omega) rfl ?_ ?_) (fun _ _=>Is.pure trivial)
 ·rintro i _ c rfl;exact Is.dt (by omega) (Is.bnd (P:=fun _=>True) (Is.bnq (dR c) (Is.cnd (fun _=>Is.pure trivial) (fun _=>Is.pure trivial))) fun b _=>Is.cnd (fun _=>Is.stop trivial) (fun _=>Is.bnq (aK (by omega)) (Is.next rfl)))
 ·rintro _ rfl;exact Is.df (by omega) (Is.stop trivial)
theorem Dx {l:List bz} {i:Nat} (c:i≤l.length) (hl:l.length≤1000000) (e:bz):Is (M.a5 l (i:Int) e) (fun _=>True):=by
 unfold M.a5;have hlen:((l.take i).drop 0).length=i:=by simp; omega
 refine Is.bs (P:=fun _=>True) (Is.bnq (Bd (i:=0) (j:=i) (by omega) c) (Is.upto (fun j a=>a=(j:Int)) ((l.take i).drop 0).length (by omega) rfl ?_ ?_)) (fun _ _=>Is.pure trivial)
 ·rintro j _ b rfl;exact Is.dt (by omega) (Is.bnq (be b) (Is.cnd (fun _=>Is.stop trivial) (fun _=>Is.bnq (aK (by omega)) (Is.next rfl))))
 ·rintro _ rfl;exact Is.df (by omega) (Is.stop trivial)
theorem sd {l:List bz} {i:Nat} (f:i<l.length) (hl:l.length≤1000000) (hf:FewD l[i] 30) (low:height (rx l[i]).1≤8) :
 Is (M.b5 l (i:Int)) (fun e=>e=0→yM l[i]∧¬ L (rx l[i]).1 []):=by
 have hx:=CD hf.2.1;unfold M.b5;refine Is.bnq (be f) (Is.bnq hx.prog ?_);refine Is.bs (P:=fun _=>yM l[i]∧¬ L (rx l[i]).1 []) (Q:=fun e:Int=>e=0→yM l[i]∧¬ L (rx l[i]).1 []) ?_ (fun _ h=>Is.pure fun _=>h);refine Is.bnq (x:=(6:Int)) rfl ?_;refine Is.upto (fun j d=>d=(j:Int)∧(4≤j→yM l[i])∧(5≤j→¬ L (rx l[i]).1 [])) 6 (by decide) ⟨rfl,by omega,by omega⟩ ?_ ?_
 ·rintro j _ k ⟨rfl,a,c⟩;refine Is.dt (by omega) ?_;obtain rfl|rfl|rfl|rfl|rfl|rfl:j=0∨j=1∨j=2∨j=3∨j=4∨j=5:=by omega
  ·refine Is.bnq rfl (Is.bnd (P:=fun _=>True) (show Is (M.b1 l[i]) _ from ?_) fun b _=>Is.cnd (fun _=>Is.stop fun e=>absurd (show (4:Int)=0 from e) (by decide)) (fun _=>Is.bnq (aK (by omega)) (Is.next ⟨rfl,by omega,by omega⟩)));exact Is.bnd (yv (by have:=hf.1; omega)) fun _ _=>Is.pure trivial
  ·exact Is.bnq rfl (Is.bnd (P:=fun _=>True) (show Is (M.a5 l (i:Int) l[i]) _ from Dx (by omega) hl _) fun b _=>Is.cnd (fun _=>Is.stop fun e=>absurd (show (5:Int)=0 from e) (by decide)) (fun _=>Is.bnq (aK (by omega)) (Is.next ⟨rfl,by omega,by omega⟩)))
  ·refine Is.bnq rfl (Is.bnd (P:=fun _=>True) (show Is (M.b0 l[i]) _ from ?_) fun b _=>Is.cnd (fun _=>Is.stop fun e=>absurd (show (1:Int)=0 from e) (by decide)) (fun _=>Is.bnq (aK (by omega)) (Is.next ⟨rfl,by omega,by omega⟩)));exact Is.bnd (P:=fun _=>True) (Is.cnd (fun _=>Is.pure trivial) (fun _=>Is.pure trivial)) fun _ _=>Is.pure trivial
  ·refine Is.bnq rfl (Is.bnq (x:=((rx l[i]).2.2 != 0)) rfl (Is.cnd (fun h=>Is.stop fun e=>absurd (show (rx l[i]).2.2=0 from e) (kO h)) (fun h=>Is.bnq (aK (by omega)) (Is.next ⟨rfl,fun _=>⟨hx,low,eR h⟩,by omega⟩))))
  ·have hp:=a (by omega);refine Is.bnq rfl (Is.bnq (x:=nb (rx l[i]).1) (show M.a6 (rx l[i]).1=_ from ?_) (Is.cnd (fun h=>Is.stop fun e=>absurd (show (10:Int)=0 from e) (by decide)) (fun h=>Is.bnq (aK (by omega)) (Is.next ⟨rfl,fun _=>hp,fun _ g=>?_⟩))))
   ·unfold M.a6;rw [uG aZ _ hp.fh.1 hp.fh.2]; rfl
   ·rw [(Ds _).2 g] at h; cases h
  ·have hp:=a (by omega);have hn:=c (by omega);refine Is.bnq rfl (Is.bnd (P:=fun _=>True) (show Is (M.a9 l[i]) _ from ?_) fun b _=>Is.cnd (fun _=>Is.stop fun e=>absurd (show (1:Int)=0 from e) (by decide)) (fun _=>Is.bnq (aK (by omega)) (Is.next ⟨rfl,fun _=>hp,fun _=>hn⟩)));exact Is.bnd (tl (by have:=hf.2.2.2; omega)) fun _ _=>Is.pure trivial
 ·rintro _ ⟨rfl,a,c⟩;exact Is.df (by omega) (Is.stop ⟨a (by omega),c (by omega)⟩)
def rS (x:T_LexSpec):List T_Regex:=x.Defs.map fun d=>(rx d).1
structure tS (x:T_LexSpec) (d:T_DFA):Prop where
  one:1≤x.Defs.length
  def0:∀i,i<x.Defs.length→M.b5 x.Defs (i:Int)=some 0
  pat:∀y∈x.Defs,yM y∧¬ L (rx y).1 []
  mis:(0≤x.Misspelling∧x.Misspelling≤1000)∧(0≤x.Unclosed∧x.Unclosed≤1000)
  blt:Hy (rS x) d
  smp:∀i (h:i<x.Defs.length),eK d (walkN d 0 x.Defs[i].Sample)=(i:Int)
  key0:∀i (h:i<x.Defs.length),x.Defs[i].Kind=3→M.d6 (rx x.Defs[i]).1 x.Defs[i].Sample=some true
section
variable {x:T_LexSpec} (h6:x.Defs.length≤6) (hf:∀d∈x.Defs,FewD d 30) (hlow:∀d∈x.Defs,height (rx d).1≤8)
include hf in
theorem Eh {d:bz} (hd:d∈x.Defs):Cu d:=CD (hf d hd).2.1
include hf hlow
theorem xl:(∀y∈rS x,bQ y)∧bF (rS x)≤x.Defs.length*7936:=by
 refine ⟨fun y hy=>?_,?_⟩
 ·obtain ⟨d,hd,rfl⟩:=Jt.1 hy;exact (Eh hf hd).ok
 ·have:∀l:List bz,(∀d∈l,d∈x.Defs)→bF (l.map fun d=>(rx d).1)≤l.length*7936:=by
   intro l;induction l with
   | nil=>intro _; simp [bF]
   | cons d l ih=>
    intro hl;have e:=ih fun z a=>hl z (by simp [a])
    have c:=(Eh hf (hl d (by simp))).prt;have b:31*2 ^ height (rx d).1≤31*2 ^ 8:=Jk 31 (Nat.pow_le_pow_right (by omega) (hlow d (hl d (by simp))));simp only [List.map_cons,bF,Jp]; omega
  exact this x.Defs fun _ h=>h
include h6
theorem wv:Is (M.b6 x) (fun r=>r.2.2=0→tS x r.1):=by
 obtain ⟨ok,S⟩:=xl hf hlow;unfold M.b6;refine Is.bnd (P:=fun b=>b=false→1≤x.Defs.length) ?_ fun b hb=>Is.cnd (fun _=>Is.pure fun e=>absurd (show (11:Int)=0 from e) (by decide)) (fun h=>?_)
 ·exact Is.dcd (fun _=>Is.pure fun h=>by cases h) (fun h=>Is.pure fun _=>by omega)
 have D:=hb h;refine Is.bs (P:=fun l=>l=rS x∧(∀j,j<x.Defs.length→M.b5 x.Defs (j:Int)=some 0)∧∀d∈x.Defs,yM d∧¬ L (rx d).1 []) (Q:=fun r:T_DFA×Int×Int=>r.2.2=0→tS x r.1) ?_ ?_
 ·refine Is.upto (fun i (m:List T_Regex×Int)=>m.2=(i:Int)∧m.1=(x.Defs.take i).map (fun d=>(rx d).1)∧(∀j,j<i→M.b5 x.Defs (j:Int)=some 0)∧∀d∈x.Defs.take i,yM d∧¬ L (rx d).1 []) x.Defs.length (by omega) ⟨rfl,rfl,fun _ h=>by omega,by simp⟩ ?_ ?_
  ·rintro i ⟨l,_⟩ c ⟨rfl,e,a,hd⟩;obtain rfl:l=_:=e;have f:=IU c;obtain ⟨e,A,K⟩:=sd c (by omega) (hf _ f) (hlow _ f);refine Is.dt (by omega) (Is.bnq (be c) (Is.bnq A (Is.cnd (fun n=>Is.stop fun e=>absurd e (kO n)) (fun u=>?_))));obtain rfl:e=0:=eR u;have hp:=K rfl;refine Is.bnq (Eh hf f).prog (Is.bnq (bO (by simp only [Jg,Jo,IT]; omega)) (Is.bnq (aK (by omega)) (Is.next ⟨rfl,?_,fun j I=>?_,fun d g=>?_⟩)))
   ·rw [Jb c,Jh]; rfl
   ·rcases Nat.lt_or_eq_of_le (Nat.le_of_lt_succ I) with k|rfl
    ·exact a j k
    ·exact A
   ·rw [Jb c,IZ] at g;rcases g with g|g
    ·exact hd d g
    ·rw [IY.1 g]; exact hp
  ·rintro ⟨l,_⟩ ⟨rfl,e,a,hd⟩;obtain rfl:l=_:=e;rw [IV] at hd ⊢;exact Is.df (by omega) (Is.stop ⟨rfl,a,hd⟩)
 rintro _ ⟨rfl,N,y⟩;refine Is.bnd (P:=fun b=>b=false→(0≤x.Misspelling∧x.Misspelling≤1000)∧(0≤x.Unclosed∧x.Unclosed≤1000)) ?_ fun b hb=>Is.cnd (fun _=>Is.pure fun e=>absurd (show (1:Int)=0 from e) (by decide)) (fun R=>?_)
 ·refine Is.dcd (fun _=>Is.pure fun h=>by cases h) (fun D=>Is.dcd (fun _=>Is.pure fun h=>by cases h) (fun T=>Is.dcd (fun _=>Is.pure fun h=>by cases h) (fun t=>Is.pure fun h=>?_)));have:=of_decide_eq_false h;exact ⟨by omega,by omega⟩
 have H:=hb R;refine Is.bnd (rh ok (by omega)) fun r F=>Is.cnd (fun n=>Is.pure fun e=>absurd e (kO n)) (fun u=>?_)
 have B:=F.1 (eR u);refine Is.bs (P:=fun _=>tS x r.1) (Q:=fun r:T_DFA×Int×Int=>r.2.2=0→tS x r.1) ?_ (fun _ h=>Is.pure fun _=>h);refine Is.upto (fun i m=>m=(i:Int)∧(∀j (h:j<x.Defs.length),j<i→eK r.1 (walkN r.1 0 x.Defs[j].Sample)=(j:Int))∧∀j (h:j<x.Defs.length),j<i→x.Defs[j].Kind=3→M.d6 (rx x.Defs[j]).1 x.Defs[j].Sample=some true) x.Defs.length (by omega) ⟨rfl,fun _ _ h=>by omega,fun _ _ h=>by omega⟩ ?_ ?_
 ·rintro i _ c ⟨rfl,p,o⟩;have f:=IU c;have z:=hf _ f;have v:=(y _ f).1;refine Is.dt (by omega) (Is.bnq (be c) (Is.bnq (DR B.can.ok (w:=x.Defs[i].Sample) (by have:=z.2.2.1; omega)) (Is.cnd (fun n=>Is.stop fun e=>absurd (show (13:Int)=0 from e) (by decide)) (fun hs=>?_))));have hs:=eR hs;refine Is.bnd (P:=fun b=>b=false→x.Defs[i].Kind=3→M.d6 (rx x.Defs[i]).1 x.Defs[i].Sample=some true) ?_ fun b hb=>Is.cnd (fun _=>Is.stop fun e=>absurd (show (14:Int)=0 from e) (by decide)) (fun h=>Is.bnq (aK (by omega)) (Is.next ⟨rfl,fun j a q=>?_,fun j a q=>?_⟩))
  ·refine Is.cnd (fun t=>?_) (fun t=>Is.pure fun _ h=>absurd h (nz t));have J:i<(rS x).length:=by simp [rS]; omega
   have G:(rS x)[i]=(rx x.Defs[i]).1:=by simp [rS]
   refine Is.bnq (be J) ?_;rw [G];obtain ⟨b,hb,_⟩:=xm v.ro.ok (by have:=v.parts; omega) (s:=x.Defs[i].Sample) (by have:=z.2.2.1; omega);exact Is.bnq hb (Is.pure fun h _=>by rw [hb]; simpa using h)
  ·rcases Nat.lt_or_eq_of_le (Nat.le_of_lt_succ q) with k|rfl
   ·exact p j a k
   ·exact hs
  ·rcases Nat.lt_or_eq_of_le (Nat.le_of_lt_succ q) with k|rfl
   ·exact o j a k
   ·exact hb h
 ·rintro _ ⟨rfl,p,o⟩;exact Is.df (by omega) (Is.stop ⟨D,N,y,H,B,fun j a=>p j a a,fun j a=>o j a a⟩)
end
theorem vG {l:List T_Regex} (ok:∀x∈l,bQ x) (hp:bF l≤1048576):Is (M.c8 l) (fun r=>(r=(dg l,0)∧bF l≤500)∨r.2≠0):=by
 by_cases hg:(∀y∈l,V 30 y=true)∧bF l≤500
 ·exact ⟨_,vF ok hg.1 hg.2,.inl ⟨rfl,hg.2⟩⟩
 ·unfold M.c8;refine Is.bnd (uX ok hp) fun e b=>?_
  have a:e≠0:=by
   rcases b with ⟨_,h,_⟩|⟨_,_,h,_⟩|⟨d,c,_,_⟩
   ·omega
   ·omega
   ·exact absurd ⟨d,c⟩ hg
  exact Is.ct (mp a) (Is.pure (.inr a))
theorem zK {x:T_LexSpec} (h6:x.Defs.length≤6) (hf:∀d∈x.Defs,FewD d 30) (hlow:∀d∈x.Defs,height (rx d).1≤8):Is (M.j7 x) (fun _=>True):=by
 obtain ⟨ok,h⟩:=xl hf hlow;unfold M.j7;refine Is.bs (P:=fun l=>l=rS x) (Q:=fun _:Bool=>True) ?_ ?_
 ·refine Is.upto (fun i (b:List T_Regex×Int)=>b.2=(i:Int)∧b.1=(x.Defs.take i).map (fun d=>(rx d).1)) x.Defs.length (by omega) ⟨rfl,rfl⟩ ?_ ?_
  ·rintro i ⟨l,_⟩ a ⟨rfl,e⟩;obtain rfl:l=_:=e;refine Is.dt (by omega) (Is.bnq (be a) (Is.bnq (Eh hf (IU a)).ref (Is.cnd (fun _=>Is.stop trivial) (fun _=>Is.bnq (bO (by simp only [Jg,Jo,IT]; omega)) (Is.bnq (aK (by omega)) (Is.next ⟨rfl,?_⟩))))));rw [Jb a,Jh]; rfl
  ·rintro ⟨l,_⟩ ⟨rfl,e⟩;obtain rfl:l=_:=e;rw [IV];exact Is.df (by omega) (Is.stop rfl)
 rintro _ rfl;refine Is.bnd (vG ok (by omega)) fun r f=>?_
 rcases f with ⟨rfl,c⟩|hne
 ·have g:=sv ok c;have hal:=(kQ c).2;refine Is.cf rfl (Is.bnd (yc (n:=dg (rS x)) g (by omega)) fun r _=>Is.bnd (P:=fun _=>True) (Is.cnd (fun _=>Is.pure trivial) (fun _=>Is.pure trivial)) fun _ _=>Is.pure trivial)
 ·exact Is.ct (mp hne) (Is.pure trivial)
theorem za {x:T_LexSpec} (ok:kN x):Is (M.k3 x) (fun b=>b=true→x.Defs.length≤6∧(∀d∈x.Defs,FewD d 30)∧∀d∈x.Defs,height (rx d).1≤8):=by
 have hl:x.Defs.length≤9223372036854775807:=Nat.le_trans ok.1.2 (by decide);unfold M.k3;refine Is.bnd (Du hl 6 30) fun b hb=>Is.cnd (fun _=>Is.pure fun h=>by cases h) (fun e=>?_)
 obtain ⟨h6,hf⟩:=hb (by simpa using e);refine Is.bs (P:=fun _=>∀d∈x.Defs,height (rx d).1≤8) (Q:=fun b:Bool=>b=true→x.Defs.length≤6∧(∀d∈x.Defs,FewD d 30)∧∀d∈x.Defs,height (rx d).1≤8) (Is.upto (fun i f=>f=(i:Int)∧∀d∈x.Defs.take i,height (rx d).1≤8) x.Defs.length hl ⟨rfl,by simp⟩ ?_ ?_) (fun _ hlow=>?_)
 ·rintro i _ c ⟨rfl,hd⟩;have hx:=Eh hf (IU c);refine Is.dt (by omega) (Is.bnq (be c) (Is.bnq (qI hx) (Is.bnq (AF aZ _ hx.ok (by have:=hx.hgt; unfold aZ; omega) (by have:=hx.hgt; omega)) (Is.dcd (fun _=>Is.stop fun h=>by cases h) (fun g=>Is.bnq (aK (by omega)) (Is.next ⟨rfl,fun d a=>?_⟩))))));rw [Jb c,IZ] at a;rcases a with a|a
  ·exact hd d a
  ·rw [IY.1 a]; omega
 ·rintro _ ⟨rfl,hd⟩;rw [IV] at hd;exact Is.df (by omega) (Is.stop hd)
 ·exact Is.bnd (zK h6 hf hlow) fun b _=>Is.pure fun _=>⟨h6,hf,hlow⟩
open Classical in
theorem tx (a:T_LexSpec) (g:kN a) (x1:Str) (_:(fun s:Str=>s.length≤maxLen) x1):M.e9 a x1=some true:=by
 refine Is.eq ?_;unfold M.e9;refine Is.bnd (P:=fun b=>b=false→(a.Defs.length≤6∧(∀d∈a.Defs,FewD d 30)∧∀d∈a.Defs,height (rx d).1≤8)∧x1.length≤16) ?_ fun b hb=>Is.cnd (fun _=>Is.bnq mT (Is.pure rfl)) (fun h=>?_)
 ·refine Is.bnd (za g) fun b hb=>Is.cnd (fun _=>Is.pure fun h=>by cases h) (fun h=>Is.pure fun n=>⟨hb (by simpa using h),?_⟩)
  have:=of_decide_eq_false n;omega
 obtain ⟨⟨h6,hf,hlow⟩,p⟩:=hb h;obtain ⟨r,j,l⟩:=wv h6 hf hlow;refine Is.bnq (x:=(r.2.1,r.2.2)) (show M.c5 a=_ from aR j rfl) (Is.cnd (fun _=>Is.bnq mT (Is.pure rfl)) (fun o=>?_));have C:=l (eR o);refine Is.bs (P:=fun _=>True) (Q:=fun b:Bool=>b=true) ?_ (fun _ _=>Is.bnq mT (Is.pure rfl));refine Is.upto (fun i f=>f=(i:Int)) a.Defs.length (by omega) rfl ?_ ?_
 ·rintro i _ c rfl;have e:=IU c;have hp:=(C.pat _ e).1;refine Is.dt (by omega) (Is.bnq (be c) (Is.bnd (P:=fun b=>b=false) ?_ fun b hb=>Is.cf hb (Is.bnq (aK (by omega)) (Is.next rfl))));refine Is.cnd (fun m=>?_) (fun _=>Is.pure rfl);refine Is.bnq (qI hp.ro) (Is.bnq (ux hp.fh (s:=x1) (by omega)) (Is.pure ?_));obtain ⟨b,hb,k⟩:=xm hp.ro.ok (by have:=hp.parts; omega) (s:=a.Defs[i].Sample) (by have:=(hf _ e).2.2.1; omega);rw [C.key0 i c (dA m)] at hb;obtain rfl:=Option.some.inj hb;have hd:decide (L (rx a.Defs[i]).1 (bU x1))=(x1 == a.Defs[i].Sample):=by
   rw [Bool.eq_iff_iff,decide_eq_true_iff,beq_iff_eq];exact k rfl x1
  rw [hd];simp
 ·rintro _ rfl;exact Is.df (by omega) (Is.stop trivial)
end Go.Proofs.YtggpjcdhflcfmaaGreatDoor
