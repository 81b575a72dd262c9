/- Part 12. -/
import Derived.Test.YtggpjcdhflcfmaaGreatDoorKLexspecPrefix11
set_option linter.unusedVariables false
set_option linter.unusedSimpArgs false
namespace Go.Proofs.YtggpjcdhflcfmaaGreatDoor
open Go.Lx
structure Pt where
  nl:Bool
  fi:List Nat
  la:List Nat
structure Bs where
  S:List (aT 4)
  P:List (Nat×Nat)
def dv (a b:List Nat):List (Nat×Nat):=a.flatMap fun p=>b.map fun q=>(p,q)
theorem eW {a b:List Nat} {p q:Nat}:(p,q)∈dv a b↔p∈a∧q∈b:=by
 unfold dv;rw [List.mem_flatMap];constructor
 ·rintro ⟨x,hx,h⟩;obtain ⟨y,hy,e⟩:=IP.1 h;cases e
  exact ⟨hx,hy⟩
 ·rintro ⟨h1,h2⟩;exact ⟨p,h1,IP.2 ⟨q,h2,rfl⟩⟩
theorem lB (a b:List Nat):(dv a b).length=a.length*b.length:=by
 unfold dv;induction a with
 | nil=>simp
 | cons x a ih=>rw [List.flatMap_cons,Ir,ih,IC,IK,Nat.succ_mul]; omega
def eJ (x y:Pt):Pt:=⟨x.nl && y.nl,bif x.nl then x.fi++y.fi else x.fi,bif y.nl then x.la++y.la else y.la⟩
def iJ (x y:Pt):Pt:=⟨x.nl || y.nl,x.fi++y.fi,x.la++y.la⟩
mutual
def bd:T_Regex→Bs→Pt×Bs
 | ⟨k,s,l⟩,b=>bif k == 3 then (⟨false,[b.S.length+1],[b.S.length+1]⟩,⟨b.S++[s],b.P⟩) else bif k == 4 then fI l ⟨true,[],[]⟩ b else bif k == 5 then gn l ⟨false,[],[]⟩ b else bif k == 6 then Aq l b else (⟨k == 2,[],[]⟩,b)
def fI:List T_Regex→Pt→Bs→Pt×Bs
 | [],x,b=>(x,b)
 | y::l,x,b=>fI l (eJ x (bd y b).1) ⟨(bd y b).2.S,(bd y b).2.P++dv x.la (bd y b).1.fi⟩
def gn:List T_Regex→Pt→Bs→Pt×Bs
 | [],x,b=>(x,b)
 | y::l,x,b=>gn l (iJ x (bd y b).1) (bd y b).2
def Aq:List T_Regex→Bs→Pt×Bs
 | [],b=>(⟨true,[],[]⟩,b)
 | y::_,b=>(⟨true,(bd y b).1.fi,(bd y b).1.la⟩,⟨(bd y b).2.S,(bd y b).2.P++dv (bd y b).1.la (bd y b).1.fi⟩)
end
def lT (M E:Nat→Nat→Prop):Nat→List Nat→Nat→Prop
 | p,[],q=>p=q
 | p,b::w,q=>∃r,E p r∧M r b∧lT M E r w q
section
variable {M E F:Nat→Nat→Prop}
theorem gE {R:Nat→Prop} (h:∀p r,R p→(E p r↔F p r)) (c:∀p r,R p→E p r→R r):∀(w:List Nat) {p q:Nat},R p→(lT M E p w q↔lT M F p w q)
 | [],p,q,_=>Iff.rfl
 | b::w,p,q,hp=>by
  simp only [lT];constructor
  ·rintro ⟨r,a,e,d⟩;exact ⟨r,(h p r hp).1 a,e,(gE h c w (c p r hp a)).1 d⟩
  ·rintro ⟨r,a,e,d⟩;have a:=(h p r hp).2 a;exact ⟨r,a,e,(gE h c w (c p r hp a)).2 d⟩
theorem nm (h:∀p r,E p r→F p r):∀(w:List Nat) {p q:Nat},lT M E p w q→lT M F p w q
 | [],_,_,e=>e
 | _::w,_,_,⟨r,h1,h2,h3⟩=>⟨r,h _ _ h1,h2,nm h w h3⟩
theorem kE {R:Nat→Prop} (hc:∀p r,R p→E p r→R r):∀(w:List Nat) {p q:Nat},R p→lT M E p w q→R q
 | [],_,_,hp,e=>by cases e; exact hp
 | _::w,p,_,hp,⟨r,h1,_,h3⟩=>kE hc w (hc p r hp h1) h3
theorem sY:∀(u:List Nat) {v:List Nat} {b p l f q:Nat},lT M E p u l→E l f→M f b→lT M E f v q→lT M E p (u++b::v) q
 | [],_,_,_,_,_,_,e,h1,h2,h3=>by cases e; exact ⟨_,h1,h2,h3⟩
 | _::u,_,_,_,_,_,_,⟨r,a1,a2,a3⟩,h1,h2,h3=>⟨r,a1,a2,sY u a3 h1 h2 h3⟩
structure oN (M E:Nat→Nat→Prop) (x:Pt) (G:List Nat→Prop):Prop where
  nl:x.nl=true↔G []
  ac:∀b w,G (b::w)↔∃p∈x.fi,M p b∧∃q∈x.la,lT M E p w q
structure lS (E:Nat→Nat→Prop) (x:Pt) (a c:Nat):Prop where
  le:a≤c
  fi:∀p∈x.fi,a<p∧p≤c
  la:∀p∈x.la,a<p∧p≤c
  e:∀p q,E p q→(a<p∧p≤c)∧(a<q∧q≤c)
theorem oN.congr {x:Pt} {G G':List Nat→Prop} (h:oN M E x G) (e:∀w,G w↔G' w):oN M E x G':=⟨h.nl.trans (e _),fun b w=>(e _).symm.trans (h.ac b w)⟩
theorem oN.edges {x:Pt} {G:List Nat→Prop} (h:oN M E x G) (e:∀p q,E p q↔F p q):oN M F x G:=by
 have:E=F:=funext fun p=>funext fun q=>propext (e p q)
 rw [←this]; exact h
theorem lS.edges {x:Pt} {a c:Nat} (h:lS E x a c) (e:∀p q,E p q↔F p q):lS F x a c:=by
 have:E=F:=funext fun p=>funext fun q=>propext (e p q)
 rw [←this]; exact h
variable {x y:Pt} {a m c:Nat} {Gx Gy:List Nat→Prop}
def yl (E F:Nat→Nat→Prop) (x y:Pt) (p q:Nat):Prop:=(E p q∨F p q)∨(p∈x.la∧q∈y.fi)
theorem lu (hx:lS E x a m) (hy:lS F y m c) {w:List Nat} {p q:Nat} (hp:m<p∧p≤c):lT M (yl E F x y) p w q↔lT M F p w q:=by
 refine gE (R:=fun p=>m<p∧p≤c) (fun p r hp=>?_) (fun p r hp h=>?_) w hp
 ·constructor
  ·rintro ((h|h)|h)
   ·have:=(hx.e _ _ h).1; omega
   ·exact h
   ·have:=hx.la _ h.1; omega
  ·exact fun h=>.inl (.inr h)
 ·rcases h with (h|h)|h
  ·have:=(hx.e _ _ h).1; omega
  ·exact (hy.e _ _ h).2
  ·have:=hx.la _ h.1; omega
theorem kD (hx:lS E x a m) (hy:lS F y m c):∀(w:List Nat) {p q:Nat},(a<p∧p≤m)→(lT M (yl E F x y) p w q↔((a<q∧q≤m)∧lT M E p w q)∨∃u b v l f,w=u++b::v∧l∈x.la∧lT M E p u l∧f∈y.fi∧M f b∧lT M F f v q)
 | [],p,q,hp=>by
  constructor
  ·intro e;cases e
   exact .inl ⟨hp,rfl⟩
  ·rintro (⟨_,h⟩|⟨u,b,v,l,f,h,_⟩)
   ·exact h
   ·cases u <;> cases h
 | b::w,p,q,hp=>by
  constructor
  ·rintro ⟨r,(h|h)|h,g,d⟩
   ·rcases (kD hx hy w (hx.e _ _ h).2).1 d with ⟨hq,d⟩|⟨u,n,v,l,f,rfl,j,i,h6⟩
    ·exact .inl ⟨hq,r,h,g,d⟩
    ·exact .inr ⟨b::u,n,v,l,f,rfl,j,⟨r,h,g,i⟩,h6⟩
   ·have:=(hy.e _ _ h).1; omega
   ·exact .inr ⟨[],b,w,p,r,rfl,h.1,rfl,h.2,g,(lu hx hy (hy.fi _ h.2)).1 d⟩
  ·rintro (⟨hq,r,k,g,d⟩|⟨u,n,v,l,f,e,j,i,h6,s,o⟩)
   ·exact ⟨r,.inl (.inl k),g,(kD hx hy w (hx.e _ _ k).2).2 (.inl ⟨hq,d⟩)⟩
   ·rw [e];exact sY u (nm (fun p r h=>.inl (.inl h)) u i) (.inr ⟨j,h6⟩) s ((lu hx hy (hy.fi _ h6)).2 o)
theorem lS.cat (hx:lS E x a m) (hy:lS F y m c):lS (yl E F x y) (eJ x y) a c:=by
 have d:=hx.le;have b:=hy.le;refine ⟨by omega,fun p hp=>?_,fun p hp=>?_,fun p q h=>?_⟩
 ·unfold eJ at hp;cases hn:x.nl <;> simp only [hn,cond_false,cond_true,Iv] at hp
  ·have:=hx.fi _ hp; omega
  ·rcases hp with hp|hp
   ·have:=hx.fi _ hp; omega
   ·have:=hy.fi _ hp; omega
 ·unfold eJ at hp;cases hn:y.nl <;> simp only [hn,cond_false,cond_true,Iv] at hp
  ·have:=hy.la _ hp; omega
  ·rcases hp with hp|hp
   ·have:=hx.la _ hp; omega
   ·have:=hy.la _ hp; omega
 ·rcases h with (h|h)|h
  ·have:=hx.e _ _ h; omega
  ·have:=hy.e _ _ h; omega
  ·have:=hx.la _ h.1;have:=hy.fi _ h.2;omega
theorem lA {p:Nat}:p∈(eJ x y).fi↔p∈x.fi∨(x.nl=true∧p∈y.fi):=by
 unfold eJ;cases x.nl <;> simp
theorem gH {p:Nat}:p∈(eJ x y).la↔p∈y.la∨(y.nl=true∧p∈x.la):=by
 unfold eJ;cases y.nl <;> simp [or_comm]
theorem oN.cat (hx:oN M E x Gx) (hy:oN M F y Gy) (rx:lS E x a m) (g:lS F y m c):oN M (yl E F x y) (eJ x y) (fun w=>∃u v,w=u++v∧Gx u∧Gy v):=by
 refine ⟨?_,fun b w=>?_⟩
 ·unfold eJ;rw [Bool.and_eq_true,hx.nl,hy.nl];constructor
  ·rintro ⟨j,d⟩; exact ⟨[],[],rfl,j,d⟩
  ·rintro ⟨u,v,e,j,d⟩;obtain ⟨rfl,rfl⟩:=List.append_eq_nil_iff.1 e.symm;exact ⟨j,d⟩
 ·constructor
  ·rintro ⟨u,v,e,j,d⟩;rcases kW.1 e with ⟨rfl,rfl⟩|⟨u,rfl,rfl⟩
   ·obtain ⟨p,hp,i,q,hq,h⟩:=(hy.ac b w).1 d;exact ⟨p,lA.2 (.inr ⟨hx.nl.2 j,hp⟩),i,q,gH.2 (.inl hq),(lu rx g (g.fi _ hp)).2 h⟩
   ·obtain ⟨p,hp,i,l,hl,h⟩:=(hx.ac b u).1 j;cases v with
    | nil=>
     refine ⟨p,lA.2 (.inl hp),i,l,gH.2 (.inr ⟨hy.nl.2 d,hl⟩),?_⟩;rw [List.append_nil];exact (kD rx g u (rx.fi _ hp)).2 (.inl ⟨rx.la _ hl,h⟩)
    | cons n v=>
     obtain ⟨f,hf,s,q,hq,z⟩:=(hy.ac n v).1 d;exact ⟨p,lA.2 (.inl hp),i,q,gH.2 (.inl hq),(kD rx g _ (rx.fi _ hp)).2 (.inr ⟨u,n,v,l,f,rfl,hl,h,hf,s,z⟩)⟩
  ·rintro ⟨p,hp,i,q,hq,h⟩;rcases lA.1 hp with hp|⟨hn,hp⟩
   ·rcases (kD rx g w (rx.fi _ hp)).1 h with ⟨A,h⟩|⟨u,n,v,l,f,rfl,hl,j,hf,s,d⟩
    ·rcases gH.1 hq with hq|⟨hn,hq⟩
     ·have:=g.la _ hq; omega
     ·exact ⟨b::w,[],by simp,(hx.ac b w).2 ⟨p,hp,i,q,hq,h⟩,hy.nl.1 hn⟩
    ·have o:q∈y.la:=by
      rcases gH.1 hq with hq|⟨_,hq⟩
      ·exact hq
      ·have k:=kE (R:=fun p=>m<p∧p≤c) (fun p r _ h=>(g.e _ _ h).2) v (g.fi _ hf) d;have t:=rx.la _ hq;have k:m<q∧q≤c:=k;omega
     exact ⟨b::u,n::v,rfl,(hx.ac b u).2 ⟨p,hp,i,l,hl,j⟩,(hy.ac n v).2 ⟨f,hf,s,q,o,d⟩⟩
   ·have d:=(lu rx g (g.fi _ hp)).1 h;have o:q∈y.la:=by
     rcases gH.1 hq with hq|⟨_,hq⟩
     ·exact hq
     ·have k:=kE (R:=fun p=>m<p∧p≤c) (fun p r _ h=>(g.e _ _ h).2) w (g.fi _ hp) d;have t:=rx.la _ hq;have k:m<q∧q≤c:=k;omega
    exact ⟨[],b::w,rfl,hx.nl.1 hn,(hy.ac b w).2 ⟨p,hp,i,q,o,d⟩⟩
def xw (E F:Nat→Nat→Prop) (p q:Nat):Prop:=E p q∨F p q
theorem ui (hx:lS E x a m) (hy:lS F y m c) {w:List Nat} {p q:Nat} (hp:a<p∧p≤m):lT M (xw E F) p w q↔lT M E p w q:=by
 refine gE (R:=fun p=>a<p∧p≤m) (fun p r hp=>?_) (fun p r hp h=>?_) w hp
 ·exact ⟨fun h=>h.elim id fun h=>(by have:=(hy.e _ _ h).1; omega),.inl⟩
 ·rcases h with h|h
  ·exact (hx.e _ _ h).2
  ·have:=(hy.e _ _ h).1; omega
theorem uh (hx:lS E x a m) (hy:lS F y m c) {w:List Nat} {p q:Nat} (hp:m<p∧p≤c):lT M (xw E F) p w q↔lT M F p w q:=by
 refine gE (R:=fun p=>m<p∧p≤c) (fun p r hp=>?_) (fun p r hp h=>?_) w hp
 ·exact ⟨fun h=>h.elim (fun h=>(by have:=(hx.e _ _ h).1; omega)) id,.inr⟩
 ·rcases h with h|h
  ·have:=(hx.e _ _ h).1; omega
  ·exact (hy.e _ _ h).2
theorem lS.uni (hx:lS E x a m) (hy:lS F y m c):lS (xw E F) (iJ x y) a c:=by
 have d:=hx.le;have b:=hy.le;refine ⟨by omega,fun p hp=>?_,fun p hp=>?_,fun p q h=>?_⟩
 ·rcases Iv.1 hp with hp|hp
  ·have:=hx.fi _ hp; omega
  ·have:=hy.fi _ hp; omega
 ·rcases Iv.1 hp with hp|hp
  ·have:=hx.la _ hp; omega
  ·have:=hy.la _ hp; omega
 ·rcases h with h|h
  ·have:=hx.e _ _ h; omega
  ·have:=hy.e _ _ h; omega
theorem oN.uni (hx:oN M E x Gx) (hy:oN M F y Gy) (rx:lS E x a m) (d:lS F y m c):oN M (xw E F) (iJ x y) (fun w=>Gx w∨Gy w):=by
 refine ⟨?_,fun b w=>?_⟩
 ·unfold iJ;rw [Bool.or_eq_true,hx.nl,hy.nl]
 ·rw [hx.ac,hy.ac];constructor
  ·rintro (⟨p,hp,f,q,hq,h⟩|⟨p,hp,f,q,hq,h⟩)
   ·exact ⟨p,List.mem_append_left _ hp,f,q,List.mem_append_left _ hq,(ui rx d (rx.fi _ hp)).2 h⟩
   ·exact ⟨p,List.mem_append_right _ hp,f,q,List.mem_append_right _ hq,(uh rx d (d.fi _ hp)).2 h⟩
  ·rintro ⟨p,hp,f,q,hq,h⟩;rcases Iv.1 hp with hp|hp
   ·have h:=(ui rx d (rx.fi _ hp)).1 h;have g:a<q∧q≤m:=kE (R:=fun p=>a<p∧p≤m) (fun p r _ h=>(rx.e _ _ h).2) w (rx.fi _ hp) h;rcases Iv.1 hq with hq|hq
    ·exact .inl ⟨p,hp,f,q,hq,h⟩
    ·have:=d.la _ hq; omega
   ·have h:=(uh rx d (d.fi _ hp)).1 h;have g:m<q∧q≤c:=kE (R:=fun p=>m<p∧p≤c) (fun p r _ h=>(d.e _ _ h).2) w (d.fi _ hp) h;rcases Iv.1 hq with hq|hq
    ·have:=rx.la _ hq; omega
    ·exact .inr ⟨p,hp,f,q,hq,h⟩
def rZ (E:Nat→Nat→Prop) (x:Pt) (p q:Nat):Prop:=E p q∨(p∈x.la∧q∈x.fi)
theorem lS.star (hx:lS E x a c):lS (rZ E x) ⟨true,x.fi,x.la⟩ a c:=by
 refine ⟨hx.le,hx.fi,hx.la,fun p q h=>?_⟩;rcases h with h|h
 ·exact hx.e _ _ h
 ·exact ⟨hx.la _ h.1,hx.fi _ h.2⟩
theorem wK (hx:oN M E x Gx):∀(w:List Nat) {p q:Nat},q∈x.la→lT M (rZ E x) p w q→∃u v l,w=u++v∧l∈x.la∧lT M E p u l∧St Gx v
 | [],p,q,hq,e=>by cases e; exact ⟨[],[],p,rfl,hq,rfl,.nil⟩
 | b::w,p,q,hq,⟨r,a,f,g⟩=>by
  obtain ⟨u,v,l,rfl,hl,d,c⟩:=wK hx w hq g;rcases a with a|⟨hp,hr⟩
  ·exact ⟨b::u,v,l,rfl,hl,⟨r,a,f,d⟩,c⟩
  ·exact ⟨[],b::(u++v),p,rfl,hp,rfl,St.cons (u:=b::u) ((hx.ac b u).2 ⟨r,hr,f,l,hl,d⟩) c⟩
theorem AF (hx:oN M E x Gx) {v:List Nat} (h:St Gx v):∀ {u:List Nat} {p l:Nat},l∈x.la→lT M E p u l→∃q∈x.la,lT M (rZ E x) p (u++v) q:=by
 induction h with
 | nil=>intro u p l hl h; rw [List.append_nil]; exact ⟨l,hl,nm (fun _ _ h=>.inl h) u h⟩
 | @cons a j i _ ih=>
  intro u p l hl h;cases a with
  | nil=>exact ih hl h
  | cons b a=>
   obtain ⟨f,hf,c,l',d,g⟩:=(hx.ac b a).1 i;obtain ⟨q,hq,e⟩:=ih d g;exact ⟨q,hq,sY u (nm (fun _ _ h=>.inl h) u h) (.inr ⟨hl,hf⟩) c e⟩
theorem oN.star (hx:oN M E x Gx):oN M (rZ E x) ⟨true,x.fi,x.la⟩ (St Gx):=by
 refine ⟨⟨fun _=>.nil,fun _=>rfl⟩,fun b w=>?_⟩;rw [xl];constructor
 ·rintro ⟨u,v,rfl,g,f⟩;obtain ⟨p,hp,a,l,hl,e⟩:=(hx.ac b u).1 g;obtain ⟨q,hq,c⟩:=AF hx f hl e;exact ⟨p,hp,a,q,hq,c⟩
 ·rintro ⟨p,hp,a,q,hq,h⟩;obtain ⟨u,v,l,rfl,hl,c,d⟩:=wK hx w hq h;exact ⟨u,v,rfl,(hx.ac b u).2 ⟨p,hp,a,l,hl,c⟩,d⟩
end
def rN (S:List (aT 4)) (p b:Nat):Prop:=∃v,S[p - 1]?=some v∧mem v b=true
def gu (Q:List (Nat×Nat)) (p q:Nat):Prop:=(p,q)∈Q
structure Ds (b:Bs) (r:Pt×Bs) (T:List (aT 4)) (Q:List (Nat×Nat)) (G:List Nat→Prop):Prop where
  S:r.2.S=b.S++T
  P:r.2.P=b.P++Q
  rng:lS (gu Q) r.1 b.S.length r.2.S.length
  rep:∀U,(∃V,U=r.2.S++V)→oN (rN U) (gu Q) r.1 G
theorem gj {M E:Nat→Nat→Prop} {G:List Nat→Prop} {n:Bool} (hn:n=true↔G []) (h:∀b w,¬ G (b::w)):oN M E ⟨n,[],[]⟩ G:=⟨hn,fun b w=>⟨fun h'=>absurd h' (h b w),fun ⟨p,hp,_⟩=>by simp at hp⟩⟩
theorem gh {n:Bool} {a:Nat}:lS (gu []) ⟨n,[],[]⟩ a a:=⟨Nat.le_refl _,by simp,by simp,fun p q h=>by simp [gu] at h⟩
mutual
theorem ib:∀(x:T_Regex) (b:Bs),∃T Q,Ds b (bd x b) T Q (L x)
 | ⟨k,s,l⟩,b=>by
  rcases gQ k with rfl|rfl|rfl|rfl|rfl|⟨i,j,m,H,h6⟩
  ·have e:bd ⟨2,s,l⟩ b=(⟨true,[],[]⟩,b):=by simp [bd]
   rw [e];exact ⟨[],[],by simp,by simp,gh,fun U _=>gj (by simp [GR]) (fun b w h=>by simp [GR] at h)⟩
  ·have e:bd ⟨3,s,l⟩ b=(⟨false,[b.S.length+1],[b.S.length+1]⟩,⟨b.S++[s],b.P⟩):=by simp [bd]
   rw [e];refine ⟨[s],[],rfl,by simp,⟨by simp,by simp,by simp,fun p q h=>by simp [gu] at h⟩,fun U f=>?_⟩;obtain ⟨V,rfl⟩:=f;have W:∀c,rN ((b.S++[s])++V) (b.S.length+1) c↔mem s c=true:=by
    intro c;unfold rN;rw [Nat.add_sub_cancel,Iw,IR (Nat.le_refl _),Nat.sub_self];simp
   refine ⟨by simp [Fj],fun c w=>?_⟩;rw [Fj];constructor
   ·rintro ⟨d,e,h⟩;cases e
    exact ⟨_,Iu.2 rfl,(W c).2 h,_,Iu.2 rfl,rfl⟩
   ·rintro ⟨p,hp,h,q,hq,i⟩;obtain rfl:=Iu.1 hp;obtain rfl:=Iu.1 hq;cases w with
    | nil=>exact ⟨c,rfl,(W c).1 h⟩
    | cons d w=>obtain ⟨r,j,_⟩:=i; simp [gu] at j
  ·have e:bd ⟨4,s,l⟩ b=fI l ⟨true,[],[]⟩ b:=by simp [bd]
   rw [e];obtain ⟨T,Q,n,i,j,m⟩:=nI l ⟨true,[],[]⟩ b [] (fun w=>w=[]) b.S.length gh (fun U _=>gj (by simp) (by simp));refine ⟨T,Q,n,i,j,fun U f=>(m U f).congr fun w=>?_⟩;rw [GQ];constructor
   ·rintro ⟨u,v,rfl,rfl,h⟩; exact h
   ·exact fun h=>⟨[],w,rfl,rfl,h⟩
  ·have e:bd ⟨5,s,l⟩ b=gn l ⟨false,[],[]⟩ b:=by simp [bd]
   rw [e];obtain ⟨T,Q,n,i,j,m⟩:=qZ l ⟨false,[],[]⟩ b [] (fun _=>False) b.S.length gh (fun U _=>gj (by simp) (by simp));refine ⟨T,Q,n,i,j,fun U f=>(m U f).congr fun w=>?_⟩;rw [GZ];simp
  ·have e:bd ⟨6,s,l⟩ b=Aq l b:=by simp [bd]
   rw [e]
   match l with
   | []=>
    refine ⟨[],[],by simp [Aq],by simp [Aq],gh,fun U _=>gj ⟨fun _=>Fi.2 .nil,fun _=>rfl⟩ (fun c w h=>?_)⟩;rw [Fi,xl] at h;obtain ⟨u,v,_,h,_⟩:=h;simp [LH] at h
   | y::l=>
    obtain ⟨T,Q,n,i,j,m⟩:=ib y b;refine ⟨T,Q++dv (bd y b).1.la (bd y b).1.fi,n,?_,?_,fun U f=>?_⟩
    ·show (bd y b).2.P++_=_;rw [i,Iw]
    ·refine j.star.edges fun p q=>?_
     unfold rZ gu;rw [Iv,eW]
    ·refine ((m U f).star.edges fun p q=>?_).congr fun w=>?_
     ·unfold rZ gu;rw [Iv,eW]
     ·rw [Fi];have:LH (y::l)=L y:=by funext w; simp [LH]
      rw [this]
  ·have e:bd ⟨k,s,l⟩ b=(⟨false,[],[]⟩,b):=by simp only [bd,cv i,cv j,cv m,cv H,cv h6,cond_false]
   rw [e];exact ⟨[],[],by simp,by simp,gh,fun U _=>gj ⟨fun h=>(by cases h),fun h=>absurd h (GS i j m H h6)⟩ (fun b w h=>absurd h (GS i j m H h6))⟩
theorem nI:∀(l:List T_Regex) (x:Pt) (b:Bs) (g:List (Nat×Nat)) (G:List Nat→Prop) (a:Nat),lS (gu g) x a b.S.length→(∀U,(∃V,U=b.S++V)→oN (rN U) (gu g) x G)→
 ∃T Q,(fI l x b).2.S=b.S++T∧(fI l x b).2.P=b.P++Q∧lS (gu (g++Q)) (fI l x b).1 a (fI l x b).2.S.length∧∀U,(∃V,U=(fI l x b).2.S++V)→oN (rN U) (gu (g++Q)) (fI l x b).1 (fun w=>∃u v,w=u++v∧G u∧LC l v)
 | [],x,b,g,G,a,hr,hp=>by
  refine ⟨[],[],by simp [fI],by simp [fI],by simpa [fI] using hr,fun U f=>?_⟩;have h:=hp U (by simpa [fI] using f);simp only [List.append_nil,fI];refine h.congr fun w=>⟨fun h=>⟨w,[],by simp,h,by simp [LC]⟩,?_⟩
  rintro ⟨u,v,rfl,n,i⟩;simp only [LC] at i;subst i;rw [List.append_nil]; exact n
 | y::l,x,b,g,G,a,hr,hp=>by
  obtain ⟨B,o,t,D,z,F⟩:=ib y b;have A:∀p q,yl (gu g) (gu o) x (bd y b).1 p q↔gu (g++(o++dv x.la (bd y b).1.fi)) p q:=by
   intro p q;unfold yl gu;rw [Iv,Iv,eW,or_assoc]
  obtain ⟨T,Q,n,i,j,m⟩:=nI l (eJ x (bd y b).1) ⟨(bd y b).2.S,(bd y b).2.P++dv x.la (bd y b).1.fi⟩ (g++(o++dv x.la (bd y b).1.fi)) (fun w=>∃u v,w=u++v∧G u∧L y v) a ((hr.cat z).edges A)
   (fun U f=>((hp U (by obtain ⟨V,rfl⟩:=f; exact ⟨B++V,by simp only [t,Iw]⟩)).cat (F U f) hr z).edges A)
  have e:fI (y::l) x b=fI l (eJ x (bd y b).1) ⟨(bd y b).2.S,(bd y b).2.P++dv x.la (bd y b).1.fi⟩:=by simp only [fI]
  rw [e];refine ⟨B++T,(o++dv x.la (bd y b).1.fi)++Q,by rw [n]; simp only [t,Iw],by rw [i]; simp only [D,Iw],by rw [←Iw]; exact j,fun U f=>?_⟩;rw [←Iw];refine (m U f).congr fun w=>?_
  simp only [LC];constructor
  ·rintro ⟨u,v,rfl,⟨Y,R,rfl,K,J⟩,I⟩;exact ⟨Y,R++v,by simp,K,R,v,rfl,J,I⟩
  ·rintro ⟨u,v,rfl,K,N,X,rfl,J,I⟩;exact ⟨u++N,X,by simp,⟨u,N,rfl,K,J⟩,I⟩
theorem qZ:∀(l:List T_Regex) (x:Pt) (b:Bs) (g:List (Nat×Nat)) (G:List Nat→Prop) (a:Nat),lS (gu g) x a b.S.length→(∀U,(∃V,U=b.S++V)→oN (rN U) (gu g) x G)→
 ∃T Q,(gn l x b).2.S=b.S++T∧(gn l x b).2.P=b.P++Q∧lS (gu (g++Q)) (gn l x b).1 a (gn l x b).2.S.length∧∀U,(∃V,U=(gn l x b).2.S++V)→oN (rN U) (gu (g++Q)) (gn l x b).1 (fun w=>G w∨LU l w)
 | [],x,b,g,G,a,hr,hp=>by
  refine ⟨[],[],by simp [gn],by simp [gn],by simpa [gn] using hr,fun U f=>?_⟩;have h:=hp U (by simpa [gn] using f);simp only [List.append_nil,gn];exact h.congr fun w=>by simp [LU]
 | y::l,x,b,g,G,a,hr,hp=>by
  obtain ⟨B,o,t,D,z,F⟩:=ib y b;have A:∀p q,xw (gu g) (gu o) p q↔gu (g++o) p q:=by
   intro p q;unfold xw gu;rw [Iv]
  obtain ⟨T,Q,n,i,j,m⟩:=qZ l (iJ x (bd y b).1) (bd y b).2 (g++o) (fun w=>G w∨L y w) a ((hr.uni z).edges A)
   (fun U f=>((hp U (by obtain ⟨V,rfl⟩:=f; exact ⟨B++V,by simp only [t,Iw]⟩)).uni (F U f) hr z).edges A)
  have e:gn (y::l) x b=gn l (iJ x (bd y b).1) (bd y b).2:=by simp only [gn]
  rw [e];refine ⟨B++T,o++Q,by rw [n]; simp only [t,Iw],by rw [i]; simp only [D,Iw],by rw [←Iw]; exact j,fun U f=>?_⟩;rw [←Iw];refine (m U f).congr fun w=>?_
  simp only [LU];rw [or_assoc]
end
def gz (l:List Nat):List Int:=l.map fun (n:Nat)=>(n:Int)
theorem cN (l:List Nat):(gz l).length=l.length:=by simp [gz]
theorem lm {l:List Nat} {i:Nat} (h:i<l.length):bD (gz l) (i:Int)=some (l[i]:Int):=by
 rw [aZ (by rw [cN]; exact h)]; simp [gz]
theorem jr (a b:List Nat):gz (a++b)=gz a++gz b:=by simp [gz]
theorem eO {l:List T_Regex} {i:Nat} (hi:i<l.length):bE (l.take (i+1))=bE (l.take i)+parts l[i]:=by
 rw [List.take_add_one,Ii hi,iC];simp [bE]
theorem cJ (l:List T_Regex) (i:Nat):bE (l.take i)≤bE l:=by
 have:=iC (l.take i) (l.drop i);rw [List.take_append_drop] at this;omega
theorem qw {l:List T_Regex} {f:T_Regex→Option Int} (hf:∀y∈l,f y=some (parts y:Int)) (hl:bE l≤1000000000) {body:Int×Int→Option (cO (Int×Int) Int)}
 (hb:∀n i,body (n,i)=bif decide (i<(l.length:Int)) then (bD l i).bind fun e=>(f e).bind fun r=>(cd .i64 (n+r)).bind fun t=>(cd .i64 (i+1)).bind fun u=>some (.next (t,u)) else some (.stop n)) :
 be body ba ((1:Int),(0:Int))=some ((bE l+1:Nat):Int):=by
 refine Is.eq ?_;have hlen:=fx l;refine Is.upto (fun i (c:Int×Int)=>c.2=(i:Int)∧c.1=((bE (l.take i)+1:Nat):Int)) l.length (by omega) ⟨rfl,by simp [bE]⟩ ?_ ?_
 ·rintro i ⟨n,_⟩ a ⟨rfl,b⟩;obtain rfl:n=_:=b;have d:=eO a;have g:=cJ l (i+1);rw [hb];refine Is.dt (by omega) (Is.bnq (aZ a) (Is.bnq (hf _ (Ip a)) (Is.bnq (x:=((bE (l.take (i+1))+1:Nat):Int)) ?_ (Is.bnq (aM (by omega)) (Is.next ⟨rfl,rfl⟩)))));rw [dO (by omega) (by omega),d]; congr 1; omega
 ·rintro ⟨n,_⟩ ⟨rfl,b⟩;obtain rfl:n=_:=b;rw [hb,Iq];exact Is.df (by omega) (Is.stop rfl)
theorem yV:∀(a:Nat) (x:T_Regex),parts x<a→parts x≤1000000000→M.g5 a x=some (parts x:Int):=by
 intro a;induction a with
 | zero=>intro x h; omega
 | succ a ih=>
  intro x d c;obtain ⟨k,s,l⟩:=x;have b:parts ⟨k,s,l⟩=bE l+1:=by simp [parts]
  rw [b] at d c;unfold M.g5;refine aN (qw (l:=l) (f:=fun y=>M.g5 a y) (fun y hy=>ih y (by have:=eV hy; omega) (by have:=eV hy; omega)) (by omega) (fun _ _=>rfl)) ?_;rw [b]
theorem ue:∀(a:Nat) (x:T_Regex),parts x<a→parts x≤1000000000→M.e4 a x=some (parts x:Int):=by
 intro a;induction a with
 | zero=>intro x h; omega
 | succ a ih=>
  intro x d c;obtain ⟨k,s,l⟩:=x;have b:parts ⟨k,s,l⟩=bE l+1:=by simp [parts]
  rw [b] at d c;unfold M.e4;refine aN (qw (l:=l) (f:=fun y=>M.e4 a y) (fun y hy=>ih y (by have:=eV hy; omega) (by have:=eV hy; omega)) (by omega) (fun _ _=>rfl)) ?_;rw [b]
mutual
theorem fu:∀(x:T_Regex) (b:Bs),(bd x b).1.fi.length≤parts x∧(bd x b).1.la.length≤parts x∧(bd x b).2.S.length≤b.S.length+parts x
 | ⟨k,s,l⟩,b=>by
  simp only [parts,bd];refine ?_;cases k == 3
  ·cases k == 4
   ·cases k == 5
    ·cases k == 6
     ·simp
     ·match l with
      | []=>simp [Aq]
      | y::l=>
       have h:=fu y b;simp only [cond_false,cond_true,Aq,bE];omega
    ·have h:=pF l ⟨false,[],[]⟩ b;simp only [cond_false,cond_true,List.length_nil] at h ⊢;omega
   ·have h:=pG l ⟨true,[],[]⟩ b;simp only [cond_false,cond_true,List.length_nil] at h ⊢;omega
  ·simp
theorem pG:∀(l:List T_Regex) (x:Pt) (b:Bs),(fI l x b).1.fi.length≤x.fi.length+bE l∧(fI l x b).1.la.length≤x.la.length+bE l∧(fI l x b).2.S.length≤b.S.length+bE l
 | [],x,b=>by simp [fI]
 | y::l,x,b=>by
  have h:=fu y b;have a:=pG l (eJ x (bd y b).1) ⟨(bd y b).2.S,(bd y b).2.P++dv x.la (bd y b).1.fi⟩;have d:(eJ x (bd y b).1).fi.length≤x.fi.length+(bd y b).1.fi.length:=by unfold eJ; cases x.nl <;> simp
  have c:(eJ x (bd y b).1).la.length≤x.la.length+(bd y b).1.la.length:=by unfold eJ; cases (bd y b).1.nl <;> simp
  simp only [fI,bE];simp only at a;omega
theorem pF:∀(l:List T_Regex) (x:Pt) (b:Bs),(gn l x b).1.fi.length≤x.fi.length+bE l∧(gn l x b).1.la.length≤x.la.length+bE l∧(gn l x b).2.S.length≤b.S.length+bE l
 | [],x,b=>by simp [gn]
 | y::l,x,b=>by
  have h:=fu y b;have a:=pF l (iJ x (bd y b).1) (bd y b).2;have d:(iJ x (bd y b).1).fi.length=x.fi.length+(bd y b).1.fi.length:=by simp [iJ]
  have c:(iJ x (bd y b).1).la.length=x.la.length+(bd y b).1.la.length:=by simp [iJ]
  simp only [gn,bE];omega
end
theorem ra (y:T_Regex):∀(l:List T_Regex) (x:Pt) (b:Bs),fI (l++[y]) x b=(eJ (fI l x b).1 (bd y (fI l x b).2).1,⟨(bd y (fI l x b).2).2.S,(bd y (fI l x b).2).2.P++dv (fI l x b).1.la (bd y (fI l x b).2).1.fi⟩)
 | [],x,b=>by simp [fI]
 | z::l,x,b=>by simp only [IA,fI]; exact ra y l _ _
theorem qX (y:T_Regex):∀(l:List T_Regex) (x:Pt) (b:Bs),gn (l++[y]) x b=(iJ (gn l x b).1 (bd y (gn l x b).2).1,(bd y (gn l x b).2).2)
 | [],x,b=>by simp [gn]
 | z::l,x,b=>by simp only [IA,gn]; exact qX y l _ _
theorem cP {α:Type} {l:List α} {i:Nat} (h:i<l.length):l.take (i+1)=l.take i++[l[i]]:=by rw [List.take_add_one,Ii h]; rfl
structure gy (beh:List (List (Int×Bool))) (n:Nat) (R:Nat→Nat→Prop):Prop where
  len:beh.length=n
  nd:∀(p:Nat) (m:List (Int×Bool)),beh[p]?=some m→(m.map (·.1)).Nodup
  mem:∀(p:Nat) (m:List (Int×Bool)),beh[p]?=some m→∀k:Int,k∈m.map (·.1)↔∃q:Nat,k=(q:Int)∧R p q
theorem gy.congr {beh:List (List (Int×Bool))} {n:Nat} {R R':Nat→Nat→Prop} (h:gy beh n R) (e:∀p q,R p q↔R' p q):gy beh n R':=by
 have:R=R':=funext fun p=>funext fun q=>propext (e p q)
 rw [←this]; exact h
theorem ut {m:List (Int×Bool)} {k a:Int} {v:Bool}:a∈(dM m k v).map (·.1)↔a∈m.map (·.1)∨a=k:=by
 induction m with
 | nil=>simp [dM]
 | cons p m ih=>
  unfold dM;cases hp:p.1 == k
  ·simp only [cond_false,List.map_cons,IN,ih,or_assoc]
  ·have e:p.1=k:=by simpa using hp
   simp only [cond_true,List.map_cons,IN,e];constructor
   ·rintro (h|h)
    ·exact .inr h
    ·exact .inl (.inr h)
   ·rintro ((h|h)|h)
    ·exact .inl h
    ·exact .inr h
    ·exact .inl h
theorem vC {m:List (Int×Bool)} {k:Int} {v:Bool} (h:(m.map (·.1)).Nodup):((dM m k v).map (·.1)).Nodup:=by
 induction m with
 | nil=>simp [dM]
 | cons p m ih=>
  rw [List.map_cons,List.nodup_cons] at h;unfold dM;cases hp:p.1 == k
  ·have e:p.1≠k:=by simpa using hp
   rw [cond_false,List.map_cons,List.nodup_cons,ut];exact ⟨fun a=>a.elim h.1 e,ih h.2⟩
  ·have e:p.1=k:=by simpa using hp
   rw [cond_true,List.map_cons,List.nodup_cons];exact ⟨by rw [←e]; exact h.1,h.2⟩
theorem gy.put {f:List (List (Int×Bool))} {n:Nat} {R:Nat→Nat→Prop} (h:gy f n R) {p q:Nat} {m:List (Int×Bool)} (d:f[p]?=some m):gy (f.set p (dM m (q:Int) true)) n (fun a c=>R a c∨(a=p∧c=q)):=by
 have hp:=(Ij.1 d).1;refine ⟨by rw [IV]; exact h.len,fun a m' ha=>?_,fun a m' ha k=>?_⟩
 ·rw [IU] at ha;split at ha
  ·cases ha
   exact vC (h.nd _ _ d)
  ·exact h.nd _ _ ha
 ·rw [IU] at ha;split at ha
  ·rename_i e;subst e;cases ha
   rw [ut,h.mem _ _ d];constructor
   ·rintro (⟨c,rfl,b⟩|rfl)
    ·exact ⟨c,rfl,.inl b⟩
    ·exact ⟨q,rfl,.inr ⟨rfl,rfl⟩⟩
   ·rintro ⟨c,rfl,b|⟨_,rfl⟩⟩
    ·exact .inl ⟨c,rfl,b⟩
    ·exact .inr rfl
  ·rename_i e;rw [h.mem _ _ ha];constructor
   ·rintro ⟨c,rfl,b⟩; exact ⟨c,rfl,.inl b⟩
   ·rintro ⟨c,rfl,b|⟨rfl,_⟩⟩
    ·exact ⟨c,rfl,b⟩
    ·exact absurd rfl e
theorem ti {S:List (aT 4)} {l:List (List (Int×Bool))} {n:Nat} {R:Nat→Nat→Prop} {fr to:List Nat} (h:gy l n R) (hf:∀p∈fr,p<n) (t:fr.length≤1000000000) (s:to.length≤1000000000) :
 Is (M.d4 ⟨S,l⟩ (gz fr) (gz to)) (fun r=>r.sets=S∧gy r.behind n (fun p q=>R p q∨(p∈fr∧q∈to))):=by
 unfold M.d4;refine Is.upto (fun i (d:List (List (Int×Bool))×Int)=>d.2=(i:Int)∧gy d.1 n (fun p q=>R p q∨(p∈fr.take i∧q∈to))) fr.length (by omega) ⟨rfl,h.congr (by simp)⟩ ?_ ?_
 ·rintro i ⟨j,_⟩ f ⟨rfl,hb⟩;have hb:gy j n _:=hb;have m:=hf _ (Ip f);refine Is.dt (by rw [cN]; omega) (Is.bnd (P:=fun g=>gy g n (fun p q=>R p q∨(p∈fr.take (i+1)∧q∈to))) (Is.bnq (lm f) ?_) (fun g o=>Is.bnq (aM (by omega)) (Is.next ⟨rfl,o⟩)));refine Is.upto (fun k (d:List (List (Int×Bool))×Int)=>d.2=(k:Int)∧gy d.1 n (fun p q=>(R p q∨(p∈fr.take i∧q∈to))∨(p=fr[i]∧q∈to.take k))) to.length (by omega) ⟨rfl,hb.congr (by simp)⟩ ?_ ?_
  ·rintro k ⟨e,_⟩ hk ⟨rfl,c⟩;have c:gy e n _:=c;have hl:fr[i]<e.length:=by rw [c.len]; exact m
   refine Is.dt (by rw [cN]; omega) (Is.bnq (lm hk) (Is.bnq (aZ hl) (Is.bnq (dk hl) (Is.bnq (aM (by omega)) (Is.next ⟨rfl,?_⟩)))));refine (c.put (q:=to[k]) (Ii hl)).congr fun p q=>?_
   rw [cP hk,Iv,Iu];constructor
   ·rintro ((h|⟨b,a⟩)|⟨b,a⟩)
    ·exact .inl h
    ·exact .inr ⟨b,.inl a⟩
    ·exact .inr ⟨b,.inr a⟩
   ·rintro (h|⟨b,a|a⟩)
    ·exact .inl (.inl h)
    ·exact .inl (.inr ⟨b,a⟩)
    ·exact .inr ⟨b,a⟩
  ·rintro ⟨e,_⟩ ⟨rfl,c⟩;have c:gy e n _:=c;refine Is.df (by rw [cN]; omega) (Is.stop (c.congr fun p q=>?_));rw [Iq,cP f,Iv,Iu];constructor
   ·rintro ((h|⟨b,a⟩)|⟨b,a⟩)
    ·exact .inl h
    ·exact .inr ⟨.inl b,a⟩
    ·exact .inr ⟨.inr b,a⟩
   ·rintro (h|⟨b|b,a⟩)
    ·exact .inl (.inl h)
    ·exact .inl (.inr ⟨b,a⟩)
    ·exact .inr ⟨b,a⟩
 ·rintro ⟨j,_⟩ ⟨rfl,hb⟩;rw [Iq] at hb;exact Is.df (by rw [cN]; omega) (Is.stop ⟨rfl,hb⟩)
theorem jN {a b:List Int} (h:a.length+b.length≤1000000000):M.a2 [a,b]=some (a++b):=by
 have hlen:([a,b]:List (List Int)).length=2:=rfl;refine Is.eq ?_;unfold M.a2;have hs:∀i,i≤2→((([a,b]:List (List Int)).take i).map List.length).sum≤1000000000:=by
  intro i c
  match i,c with
  | 0,_=>simp
  | 1,_=>simp; omega
  | 2,_=>simp; omega
 have f:∀i (c:i<([a,b]:List (List Int)).length),((([a,b]:List (List Int)).take (i+1)).map List.length).sum=((([a,b]:List (List Int)).take i).map List.length).sum+([a,b][i]).length:=by
  intro i c;rw [cP c,ID,List.sum_append];simp
 refine Is.bnq (x:=((a.length+b.length:Nat):Int)) (Is.eq ?_) ?_
 ·refine Is.upto (fun i (e:Int×Int)=>e.2=(i:Int)∧e.1=(((([a,b]:List (List Int)).take i).map List.length).sum:Nat)) 2 (by omega) ⟨rfl,by simp⟩ ?_ ?_
  ·rintro i ⟨n,_⟩ c ⟨rfl,d⟩;obtain rfl:n=_:=d;have j:=hs (i+1) (by omega);have g:=f i (by rw [hlen]; exact c);refine Is.dt (by rw [hlen]; omega) (Is.bnq (x:=(((([a,b]:List (List Int)).take (i+1)).map List.length).sum:Nat)) (Is.eq ?_) (Is.bnq (aM (by omega)) (Is.next ⟨rfl,rfl⟩)));refine Is.bnq (aZ (by rw [hlen]; exact c)) (Is.bnq (x:=(((([a,b]:List (List Int)).take (i+1)).map List.length).sum:Nat)) ?_ (Is.df (by omega) (Is.pure rfl)));rw [dO (by omega) (by omega),g]; congr 1
  ·rintro ⟨n,_⟩ ⟨rfl,d⟩;obtain rfl:n=_:=d;exact Is.df (by rw [hlen]; omega) (Is.stop (by simp))
 ·refine Is.bnq (x:=[]) (by unfold M.h5 wZ; rw [if_pos ⟨rfl,by omega,by omega⟩]) (Is.bnq (x:=a++b) (Is.eq ?_) (Is.pure rfl));refine Is.upto (fun i (e:List Int×Int)=>e.2=(i:Int)∧e.1=(([a,b]:List (List Int)).take i).flatten) 2 (by omega) ⟨rfl,by simp⟩ ?_ ?_
  ·rintro i ⟨n,_⟩ c ⟨rfl,d⟩;obtain rfl:n=_:=d;have j:=hs (i+1) (by omega);have g:=f i (by rw [hlen]; exact c);have k:((([a,b]:List (List Int)).take i).flatten).length=((([a,b]:List (List Int)).take i).map List.length).sum:=List.length_flatten;refine Is.dt (by rw [hlen]; omega) (Is.bnq (aZ (by rw [hlen]; exact c)) (Is.bnq (bN (by omega)) (Is.bnq (aM (by omega)) (Is.next ⟨rfl,?_⟩))));rw [cP (by rw [hlen]; exact c),List.flatten_append];simp
  ·rintro ⟨n,_⟩ ⟨rfl,d⟩;obtain rfl:n=_:=d;exact Is.df (by rw [hlen]; omega) (Is.stop (by simp))
def pt (x:Pt):bX:=⟨x.nl,gz x.fi,gz x.la⟩
def Ar (r:Pt×Bs) (v:bX×bn):Prop:=v.1=pt r.1∧v.2.sets=r.2.S∧gy v.2.behind (r.2.S.length+1) (gu r.2.P)
theorem qW (x:T_Regex) (b:Bs):(∀p∈(bd x b).1.fi,p≤(bd x b).2.S.length)∧(∀p∈(bd x b).1.la,p≤(bd x b).2.S.length):=by
 obtain ⟨T,Q,h⟩:=ib x b;exact ⟨fun p hp=>(h.rng.fi p hp).2,fun p hp=>(h.rng.la p hp).2⟩
theorem BM (l:List T_Regex) (b:Bs):∀p∈(fI l ⟨true,[],[]⟩ b).1.la,p≤(fI l ⟨true,[],[]⟩ b).2.S.length:=by
 obtain ⟨T,Q,_,_,h,_⟩:=nI l ⟨true,[],[]⟩ b [] (fun w=>w=[]) b.S.length gh (fun U _=>gj (by simp) (by simp));exact fun p hp=>(h.la p hp).2
theorem pE (x:T_Regex) (b:Bs):b.S.length≤(bd x b).2.S.length:=by
 obtain ⟨T,Q,h⟩:=ib x b;exact h.rng.le
theorem ym {a:List (List (Int×Bool))} {n:Nat} {R:Nat→Nat→Prop} (h:gy a n R) (hR:∀q,¬ R n q):gy (a++[[]]) (n+1) R:=by
 have hl:=h.len;refine ⟨by simp [hl],fun p m hp=>?_,fun p m hp k=>?_⟩
 ·rw [List.getElem?_append] at hp;split at hp
  ·exact h.nd _ _ hp
  ·rw [List.getElem?_singleton] at hp;split at hp <;> cases hp
   simp
 ·rw [List.getElem?_append] at hp;split at hp
  ·exact h.mem _ _ hp k
  ·rw [List.getElem?_singleton] at hp;split at hp <;> cases hp
   have:p=n:=by omega
   subst this;simp only [List.map_nil,List.not_mem_nil,false_iff];rintro ⟨q,_,h⟩;exact hR q h
theorem zV {d:Nat} {k:Int} {s:aT 4} {l:List T_Regex} (h:V (d+1) ⟨k,s,l⟩=true):iP k s l.length=true∧∀y∈l,V d y=true:=by
 simp only [V,Bool.and_eq_true,List.all_eq_true] at h;exact h
theorem sd {s:aT 4} {n:Nat} (h:iP 6 s n=true):n=1:=by
 simp only [iP] at h;simp at h;exact h.1
theorem pX {k:Int} {s:aT 4} {n:Nat} (h:iP k s n=true):k=1∨k=2∨k=3∨k=4∨k=5∨k=6:=by
 by_cases e:k=1; · exact .inl e
 by_cases d:k=2; · exact .inr (.inl d)
 by_cases c:k=3; · exact .inr (.inr (.inl c))
 by_cases b:k=4; · exact .inr (.inr (.inr (.inl b)))
 by_cases a:k=5; · exact .inr (.inr (.inr (.inr (.inl a))))
 by_cases h6:k=6; · exact .inr (.inr (.inr (.inr (.inr h6))))
 simp [iP,e,d,c,b,a,h6] at h
def Cx (b:Bs):Prop:=∀p q,(p,q)∈b.P→p≤b.S.length∧q≤b.S.length
theorem EW (x:T_Regex) {b:Bs} (h:Cx b):Cx (bd x b).2:=by
 obtain ⟨T,Q,hm⟩:=ib x b;intro p q hp;rw [hm.P,Iv] at hp;rcases hp with hp|hp
 ·have:=h p q hp; have:=hm.rng.le; omega
 ·have:=hm.rng.e p q hp; omega
theorem Do (l:List T_Regex) {b:Bs} (h:Cx b):Cx (fI l ⟨true,[],[]⟩ b).2:=by
 obtain ⟨T,Q,h1,h2,h3,_⟩:=nI l ⟨true,[],[]⟩ b [] (fun w=>w=[]) b.S.length gh (fun U _=>gj (by simp) (by simp));intro p q hp;rw [h2,Iv] at hp;rcases hp with hp|hp
 ·have:=h p q hp; have:=h3.le; omega
 ·have:=h3.e p q (by unfold gu; simpa using hp); omega
theorem Dn (l:List T_Regex) {b:Bs} (h:Cx b):Cx (gn l ⟨false,[],[]⟩ b).2:=by
 obtain ⟨T,Q,h1,h2,h3,_⟩:=qZ l ⟨false,[],[]⟩ b [] (fun _=>False) b.S.length gh (fun U _=>gj (by simp) (by simp));intro p q hp;rw [h2,Iv] at hp;rcases hp with hp|hp
 ·have:=h p q hp; have:=h3.le; omega
 ·have:=h3.e p q (by unfold gu; simpa using hp); omega
theorem Bq:∀(d o:Nat) (x:T_Regex) (b:Bs) (z:List (List (Int×Bool))),V d x=true→2*d+1≤o→gy z (b.S.length+1) (gu b.P)→Cx b→b.S.length+parts x≤100000→Is (M.b8 o ⟨b.S,z⟩ x) (Ar (bd x b)):=by
 intro d;induction d with
 | zero=>intro o x b z h; simp [V] at h
 | succ d ih=>
  intro o x b z hV a7 hB J hsz;obtain ⟨o,rfl⟩:∃f,o=f+1+1:=⟨o - 2,by omega⟩;obtain ⟨k,s,l⟩:=x;obtain ⟨R,K⟩:=zV hV;have a3:parts ⟨k,s,l⟩=bE l+1:=by simp [parts]
  rw [a3] at hsz;have a6:=fx l;unfold M.b8;rcases pX R with rfl|rfl|rfl|rfl|rfl|rfl
  ·refine Is.cf rfl (Is.cf rfl (Is.cf rfl (Is.cf rfl (Is.cf rfl (Is.ct rfl (Is.bnq (x:=(pt ⟨false,[],[]⟩,⟨b.S,z⟩)) rfl (Is.pure ?_)))))));exact ⟨rfl,rfl,hB⟩
  ·refine Is.cf rfl (Is.cf rfl (Is.cf rfl (Is.cf rfl (Is.ct rfl (Is.bnq (x:=(pt ⟨true,[],[]⟩,⟨b.S,z⟩)) rfl (Is.pure ?_))))));exact ⟨rfl,rfl,hB⟩
  ·have e:bd ⟨3,s,l⟩ b=(⟨false,[b.S.length+1],[b.S.length+1]⟩,⟨b.S++[s],b.P⟩):=by simp [bd]
   refine Is.cf rfl (Is.cf rfl (Is.cf rfl (Is.ct rfl ?_)));rw [e];have a8:=hB.len;refine Is.bnq (x:=(pt ⟨false,[b.S.length+1],[b.S.length+1]⟩,⟨b.S++[s],z++[[]]⟩)) (Is.eq ?_) (Is.pure ⟨rfl,rfl,?_⟩)
   ·unfold M.i1;refine Is.bnq (bN (by simp only [Il]; omega)) (Is.bnq (bN (by simp only [Il]; omega)) (Is.pure ?_));simp [pt,gz]
   ·have:=ym hB (fun q h=>by have:=J _ _ h; omega);simpa using this
  ·have e:bd ⟨4,s,l⟩ b=fI l ⟨true,[],[]⟩ b:=by simp [bd]
   refine Is.cf rfl (Is.cf rfl (Is.ct rfl ?_));rw [e];refine Is.bnd (P:=Ar (fI l ⟨true,[],[]⟩ b)) ?_ (fun v t=>Is.pure t);unfold M.e8;refine Is.bnd (P:=fun (v:Bool×List Int×List Int×List (aT 4)×List (List (Int×Bool)))=>Ar (fI l ⟨true,[],[]⟩ b) (⟨v.1,v.2.1,v.2.2.1⟩,⟨v.2.2.2.1,v.2.2.2.2⟩)) ?_ (fun v t=>Is.pure t);refine Is.upto (fun i (g:List (aT 4)×List (List (Int×Bool))×Bool×List Int×List Int×Int)=>g.2.2.2.2.2=(i:Int)∧Ar (fI (l.take i) ⟨true,[],[]⟩ b) (⟨g.2.2.1,g.2.2.2.1,g.2.2.2.2.1⟩,⟨g.1,g.2.1⟩)) l.length (by omega) ⟨rfl,by simp [fI,Ar,pt,gz,hB]⟩ ?_ ?_
   ·rintro i ⟨S,H,n,fi,la,_⟩ u ⟨rfl,c,D,A⟩;simp only at c D A;obtain ⟨rfl,rfl,rfl⟩:n=(fI (l.take i) ⟨true,[],[]⟩ b).1.nl∧fi=gz (fI (l.take i) ⟨true,[],[]⟩ b).1.fi∧la=gz (fI (l.take i) ⟨true,[],[]⟩ b).1.la:=by
     unfold pt at c; cases c; exact ⟨rfl,rfl,rfl⟩
    subst D;have hq:=pG (l.take i) ⟨true,[],[]⟩ b;have X:=BM (l.take i) b;have B:=Do (l.take i) J;have a1:=eO u;have a2:=cJ l (i+1);have a:=ra l[i] (l.take i) ⟨true,[],[]⟩ b;rw [←cP u] at a;generalize fI (l.take i) ⟨true,[],[]⟩ b=r at A hq X B a;simp only [List.length_nil] at hq;have hy:=fu l[i] r.2;have Q:=qW l[i] r.2;have a5:=pE l[i] r.2;refine Is.dt (show ((i:Nat):Int)<(l.length:Int) by omega) (Is.bnq (aZ u) (Is.bnd (ih o l[i] r.2 H (K _ (Ip u)) (by omega) A B (by omega)) ?_));rintro ⟨N,I⟩ ⟨w,m,j⟩;simp only at w m j;subst w;obtain ⟨vs,a0⟩:=I;simp only at m j;subst m;refine Is.bnd (ti j (fr:=r.1.la) (to:=(bd l[i] r.2).1.fi) (fun p hp=>by have:=X p hp; omega) (by omega) (by omega)) ?_;rintro ⟨Y,L⟩ ⟨G,F⟩;simp only at G F;subst G;refine Is.bnq (x:=gz (eJ r.1 (bd l[i] r.2).1).fi) (Is.eq (Is.cnd (fun hn=>?_) (fun hn=>?_))) ?_
    ·refine Is.bnq (jN (by simp only [pt,cN]; omega)) (Is.pure ?_);unfold eJ pt;rw [hn,cond_true,jr]
    ·refine Is.pure ?_;unfold eJ;rw [hn,cond_false]
    refine Is.bnq (x:=gz (eJ r.1 (bd l[i] r.2).1).la) (Is.eq (Is.cnd (fun hn=>?_) (fun hn=>?_))) ?_
    ·have hn:(bd l[i] r.2).1.nl=true:=hn;refine Is.bnq (jN (by simp only [pt,cN]; omega)) (Is.pure ?_);unfold eJ pt;rw [hn,cond_true,jr]
    ·have hn:(bd l[i] r.2).1.nl=false:=hn;refine Is.pure ?_;unfold eJ pt;rw [hn,cond_false]
    have T:gy L ((fI (l.take (i+1)) ⟨true,[],[]⟩ b).2.S.length+1) (gu (fI (l.take (i+1)) ⟨true,[],[]⟩ b).2.P):=by
     rw [a];refine F.congr fun p q=>?_
     unfold gu;rw [Iv,eW]
    refine Is.cnd (fun hn=>?_) (fun hn=>?_)
    ·refine Is.bnq (aM (by omega)) (Is.next ⟨rfl,?_,?_,T⟩)
     ·rw [a]; unfold pt eJ; rw [hn]; rfl
     ·rw [a]
    ·refine Is.bnq (aM (by omega)) (Is.next ⟨rfl,?_,?_,T⟩)
     ·rw [a]; unfold pt eJ; rw [hn]; rfl
     ·rw [a]
   ·rintro ⟨S,H,n,fi,la,_⟩ ⟨rfl,c⟩;rw [Iq] at c;exact Is.df (show ¬ ((l.length:Nat):Int)<(l.length:Int) by omega) (Is.stop c)
  ·have e:bd ⟨5,s,l⟩ b=gn l ⟨false,[],[]⟩ b:=by simp [bd]
   refine Is.cf rfl (Is.ct rfl ?_);rw [e];refine Is.bnd (P:=Ar (gn l ⟨false,[],[]⟩ b)) ?_ (fun v t=>Is.pure t);unfold M.f1;refine Is.bnd (P:=fun (v:Bool×List Int×List Int×List (aT 4)×List (List (Int×Bool)))=>Ar (gn l ⟨false,[],[]⟩ b) (⟨v.1,v.2.1,v.2.2.1⟩,⟨v.2.2.2.1,v.2.2.2.2⟩)) ?_ (fun v t=>Is.pure t);refine Is.upto (fun i (g:List (aT 4)×List (List (Int×Bool))×Bool×List Int×List Int×Int)=>g.2.2.2.2.2=(i:Int)∧Ar (gn (l.take i) ⟨false,[],[]⟩ b) (⟨g.2.2.1,g.2.2.2.1,g.2.2.2.2.1⟩,⟨g.1,g.2.1⟩)) l.length (by omega) ⟨rfl,by simp [gn,Ar,pt,gz,hB]⟩ ?_ ?_
   ·rintro i ⟨S,H,n,fi,la,_⟩ u ⟨rfl,c,D,A⟩;simp only at c D A;obtain ⟨rfl,rfl,rfl⟩:n=(gn (l.take i) ⟨false,[],[]⟩ b).1.nl∧fi=gz (gn (l.take i) ⟨false,[],[]⟩ b).1.fi∧la=gz (gn (l.take i) ⟨false,[],[]⟩ b).1.la:=by
     unfold pt at c; cases c; exact ⟨rfl,rfl,rfl⟩
    subst D;have hq:=pF (l.take i) ⟨false,[],[]⟩ b;have B:=Dn (l.take i) J;have a1:=eO u;have a2:=cJ l (i+1);have a:=qX l[i] (l.take i) ⟨false,[],[]⟩ b;rw [←cP u] at a;generalize gn (l.take i) ⟨false,[],[]⟩ b=r at A hq B a;simp only [List.length_nil] at hq;have hy:=fu l[i] r.2;refine Is.dt (show ((i:Nat):Int)<(l.length:Int) by omega) (Is.bnq (aZ u) (Is.bnd (ih o l[i] r.2 H (K _ (Ip u)) (by omega) A B (by omega)) ?_));rintro ⟨N,I⟩ ⟨w,m,j⟩;simp only at w m j;subst w;have W:M.a2 [gz r.1.fi,(pt (bd l[i] r.2).1).first]=some (gz (iJ r.1 (bd l[i] r.2).1).fi):=by
     rw [jN (by simp only [pt,cN]; omega)];unfold iJ pt;rw [jr]
    have U:M.a2 [gz r.1.la,(pt (bd l[i] r.2).1).last]=some (gz (iJ r.1 (bd l[i] r.2).1).la):=by
     rw [jN (by simp only [pt,cN]; omega)];unfold iJ pt;rw [jr]
    refine Is.cnd (fun hn=>?_) (fun hn=>?_)
    ·refine Is.bnq W (Is.bnq U (Is.bnq (aM (by omega)) (Is.next ⟨rfl,?_,?_,?_⟩)))
     ·rw [a]; unfold pt iJ; rw [hn]; rfl
     ·rw [a]; exact m
     ·rw [a]; exact j
    ·refine Is.bnq W (Is.bnq U (Is.bnq (aM (by omega)) (Is.next ⟨rfl,?_,?_,?_⟩)))
     ·rw [a]; unfold pt iJ; rw [hn]; rfl
     ·rw [a]; exact m
     ·rw [a]; exact j
   ·rintro ⟨S,H,n,fi,la,_⟩ ⟨rfl,c⟩;rw [Iq] at c;exact Is.df (show ¬ ((l.length:Nat):Int)<(l.length:Int) by omega) (Is.stop c)
  ·have c:=sd R
   match l,c with
   | [y],_=>
    have e:bd ⟨6,s,[y]⟩ b=(⟨true,(bd y b).1.fi,(bd y b).1.la⟩,⟨(bd y b).2.S,(bd y b).2.P++dv (bd y b).1.la (bd y b).1.fi⟩):=by simp [bd,Aq]
    refine Is.ct rfl ?_;rw [e];refine Is.bnd (P:=Ar (⟨true,(bd y b).1.fi,(bd y b).1.la⟩,⟨(bd y b).2.S,(bd y b).2.P++dv (bd y b).1.la (bd y b).1.fi⟩)) ?_ (fun v t=>Is.pure t);unfold M.f7;simp only [bE] at hsz;have hy:=fu y b;have Q:=qW y b;refine Is.bnq (x:=y) rfl (Is.bnd (ih o y b z (K y (by simp)) (by omega) hB J (by omega)) ?_);rintro ⟨N,I⟩ ⟨w,m,j⟩;simp only at w m j;subst w;obtain ⟨vs,a0⟩:=I;simp only at m j;subst m;refine Is.bnd (ti j (fr:=(bd y b).1.la) (to:=(bd y b).1.fi) (fun p hp=>by have:=Q.2 p hp; omega) (by omega) (by omega)) ?_;rintro ⟨Y,L⟩ ⟨G,F⟩;simp only at G F;subst G;refine Is.pure ⟨rfl,rfl,F.congr fun p q=>?_⟩;unfold gu;rw [Iv,eW]
def tG (a:List Int) (n:Nat):List Int:=a++List.replicate (n+1 - a.length) (-1)
def lJ (la:List Nat) (i:Int) (a:List Int):List Int:=la.foldl (fun a p=>a.set p i) a
def lQ (nl:Bool) (i:Int) (a:List Int):List Int:=bif nl && decide (a.getD 0 0<0) then a.set 0 i else a
def sa (i:Nat) (x:T_Regex) (s:Bs×List Int):Bs×List Int:=
 (⟨(bd x s.1).2.S,(bd x s.1).2.P++dv [0] (bd x s.1).1.fi⟩,lQ (bd x s.1).1.nl i (lJ (bd x s.1).1.la i (tG s.2 (bd x s.1).2.S.length)))
def dx:Nat→List T_Regex→Bs×List Int→Bs×List Int
 | _,[],s=>s
 | i,x::l,s=>dx (i+1) l (sa i x s)
theorem nC (y:T_Regex):∀(l:List T_Regex) (i:Nat) (s:Bs×List Int),dx i (l++[y]) s=sa (i+l.length) y (dx i l s)
 | [],i,s=>by simp [dx]
 | x::l,i,s=>by
  simp only [IA,dx,IK];rw [nC y l (i+1) (sa i x s)];congr 1; omega
def dc:Bs×List Int:=(⟨[],[]⟩,[-1])
theorem iR (i:Int):∀(la:List Nat) (a:List Int),(lJ la i a).length=a.length
 | [],a=>rfl
 | p::la,a=>by
  have:=iR i la (a.set p i);rw [IV] at this;exact this
theorem zt (nl:Bool) (i:Int) (a:List Int):(lQ nl i a).length=a.length:=by
 unfold lQ;cases nl && decide (a.getD 0 0<0) <;> simp
theorem px {a:List Int} {n:Nat} (h:a.length≤n+1):(tG a n).length=n+1:=by
 unfold tG;rw [Ir,IL];omega
structure DA (s:Bs×List Int):Prop where
  cl:Cx s.1
  pos:∀p q,(p,q)∈s.1.P→1≤q
  len:s.2.length=s.1.S.length+1
theorem CT {i:Nat} {x:T_Regex} {s:Bs×List Int} (h:DA s):DA (sa i x s):=by
 obtain ⟨T,Q,a⟩:=ib x s.1;have f:=pE x s.1;have c:=qW x s.1;have hl:=h.len;refine ⟨fun p q hp=>?_,fun p q hp=>?_,?_⟩
 ·rcases Iv.1 hp with hp|hp
  ·exact EW x h.cl p q hp
  ·obtain ⟨d,b⟩:=eW.1 hp;obtain rfl:=Iu.1 d;exact ⟨Nat.zero_le _,c.1 q b⟩
 ·rcases Iv.1 hp with hp|hp
  ·rw [a.P] at hp;rcases Iv.1 hp with hp|hp
   ·exact h.pos p q hp
   ·have:=a.rng.e p q hp; omega
  ·obtain ⟨_,b⟩:=eW.1 hp;have:=a.rng.fi q b; omega
 ·show (lQ _ _ _).length=(bd x s.1).2.S.length+1;rw [zt,iR,px (by omega)]
theorem gP:∀(l:List T_Regex) (i:Nat) (s:Bs×List Int),DA s→DA (dx i l s)
 | [],_,_,h=>h
 | x::l,i,s,h=>gP l (i+1) (sa i x s) (CT h)
theorem mf:DA dc:=⟨fun p q h=>by simp [dc] at h,fun p q h=>by simp [dc] at h,rfl⟩
theorem lC:∀(l:List T_Regex) (i:Nat) (s:Bs×List Int),(dx i l s).1.S.length≤s.1.S.length+bE l
 | [],_,s=>by simp [dx,bE]
 | x::l,i,s=>by
  have h1:=lC l (i+1) (sa i x s);have h2:(sa i x s).1.S.length≤s.1.S.length+parts x:=(fu x s.1).2.2;simp only [dx,bE];omega
theorem uk {a:List Int} {n:Nat} (h:a.length≤n+1) (hn:n≤1000000) {body:List Int→Option (cO (List Int) (List Int))}
 (hb:∀s,body s=bif decide ((s.length:Int)≤(n:Int)) then (cz 8 s [(-1)]).bind fun y=>some (.next y) else some (.stop s)):be body ba a=some (tG a n):=by
 refine Is.eq ?_;refine Is.while (fun s=>∃k,s=a++List.replicate k (-1)∧s.length≤n+1) (fun s=>n+1 - s.length) ⟨0,by simp,h⟩ (by omega) ?_;rintro s ⟨k,rfl,hl⟩;rw [hb];refine Is.dcd (fun b=>Is.bnq (bN (by simp only [Il]; omega)) (Is.next ⟨⟨k+1,by rw [Iw,List.replicate_succ'],by rw [Ir,Il]; omega⟩,?_⟩)) (fun b=>Is.stop ?_)
 ·rw [Ir,Il]; omega
 ·unfold tG;rw [Ir,IL] at b hl;congr 2; omega
theorem tW {a:List Int} {la:List Nat} {v:Int} (f:∀p∈la,p<a.length) (hl:la.length≤1000000) {body:List Int×Int→Option (cO (List Int×Int) (List Int))}
 (hb:∀s i,body (s,i)=bif decide (i<((gz la).length:Int)) then (bD (gz la) i).bind fun e=>(dE s e v).bind fun y=>(cd .i64 (i+1)).bind fun t=>some (.next (y,t)) else some (.stop s)):be body ba (a,(0:Int))=some (lJ la v a):=by
 refine Is.eq ?_;refine Is.upto (fun i (d:List Int×Int)=>d.2=(i:Int)∧d.1=lJ (la.take i) v a) la.length (by omega) ⟨rfl,rfl⟩ ?_ ?_
 ·rintro i ⟨s,_⟩ b ⟨rfl,c⟩;obtain rfl:s=_:=c;rw [hb];refine Is.dt (by rw [cN]; omega) (Is.bnq (lm b) (Is.bnq (dk (by rw [iR]; exact f _ (Ip b))) (Is.bnq (aM (by omega)) (Is.next ⟨rfl,?_⟩))));show List.set _ _ _=_;unfold lJ;rw [cP b,List.foldl_append];rfl
 ·rintro ⟨s,_⟩ ⟨rfl,c⟩;obtain rfl:s=_:=c;rw [hb,Iq];exact Is.df (by rw [cN]; omega) (Is.stop rfl)
theorem yb {a:List Int} (h:0<a.length):bD a 0=some (a.getD 0 0):=by
 have:=aZ (l:=a) (i:=0) h;rw [show ((0:Nat):Int)=0 from rfl] at this;rw [this];simp [Ih,h]
theorem zr {α:Type} {n:Bool} {a:List Int} {v:Int} {f:List Int→α} (h:0<a.length) :
 ((bif n then (bD a 0).bind fun e=>some (decide (e<0)) else some false).bind fun x=>bif x then (dE a 0 v).bind fun y=>some (f y) else some (f a))=some (f (lQ n v a)):=by
 have hs:dE a 0 v=some (a.set 0 v):=dk (i:=0) h;unfold lQ;cases n
 ·rfl
 ·rw [cond_true,yb h,hs];simp only [Ik,Bool.true_and];cases decide (a.getD 0 0<0) <;> rfl
def Ap (S:List (aT 4)) (p q:Nat):ca:=⟨p,q,false,S.getD (q - 1) (aT.zero 4)⟩
def oS (P:List (Nat×Nat)) (N p:Nat):List Nat:=(List.range N).filter fun q=>decide ((p,q)∈P)
def uO (S:List (aT 4)) (P:List (Nat×Nat)) (N p:Nat):List ca:=(oS P N p).map (Ap S p)
def gm (S:List (aT 4)) (P:List (Nat×Nat)) (N k:Nat):List ca:=(List.range k).flatMap (uO S P N)
def cx (l:List T_Regex):T_NFA:=⟨((dx 0 l dc).2.length:Int),0,gm (dx 0 l dc).1.S (dx 0 l dc).1.P (dx 0 l dc).2.length (dx 0 l dc).2.length,(dx 0 l dc).2⟩
theorem qa (P:List (Nat×Nat)) (N p:Nat):(oS P N p).length≤N:=by
 have:=List.length_filter_le (fun q=>decide ((p,q)∈P)) (List.range N);rw [IS] at this;exact this
theorem je {P:List (Nat×Nat)} {N p q:Nat}:q∈oS P N p↔q<N∧(p,q)∈P:=by
 unfold oS;rw [IX,IQ];simp
theorem oH (P:List (Nat×Nat)) (N p:Nat):(oS P N p).Pairwise (·<·):=List.Pairwise.filter _ List.pairwise_lt_range
theorem oF (S:List (aT 4)) (P:List (Nat×Nat)) (N:Nat):∀k,(gm S P N k).length≤k*N
 | 0=>by simp [gm]
 | k+1=>by
  have:=oF S P N k;have h2:=qa P N k;unfold gm at this ⊢;rw [IZ,List.flatMap_append,Ir,Nat.succ_mul];simp only [List.flatMap_cons,List.flatMap_nil,List.append_nil,uO,IC] at this ⊢;omega
theorem wj (S:List (aT 4)) (P:List (Nat×Nat)) (N k:Nat):gm S P N (k+1)=gm S P N k++uO S P N k:=by
 unfold gm;rw [IZ,List.flatMap_append];simp
theorem zl {g:List (List (Int×Bool))} {N:Nat} {P:List (Nat×Nat)} (h:gy g N (gu P)) (hq:∀p q,(p,q)∈P→q<N) (s:N≤1000000) {p:Nat} {m:List (Int×Bool)} (f:g[p]?=some m):sm m=some (gz (oS P N p)):=by
 have d:=h.mem p m f;have l:=h.nd p m f;have j:(gz (oS P N p)).Nodup:=by
  unfold gz;refine List.pairwise_map.2 ((oH P N p).imp ?_);intro a b n e;have:a=b:=by omega
  omega
 have c:(m.map (·.1)).Perm (gz (oS P N p)):=by
  refine (List.perm_ext_iff_of_nodup l j).2 fun k=>?_
  rw [d];unfold gz;rw [IP];constructor
  ·rintro ⟨q,rfl,hR⟩;exact ⟨q,je.2 ⟨hq p q hR,hR⟩,rfl⟩
  ·rintro ⟨q,hR,rfl⟩;exact ⟨q,rfl,(je.1 hR).2⟩
 have hlen:m.length≤N:=by
  have:=c.length_eq;rw [IC,cN] at this;have:=qa P N p;omega
 have i:∀x∈m,-9223372036854775808≤x.1∧x.1≤9223372036854775807:=by
  intro x hx;obtain ⟨q,e,hR⟩:=(d x.1).1 (IP.2 ⟨x,hx,rfl⟩);have:=hq p q hR;omega
 unfold sm;rw [if_pos ⟨by omega,i⟩];congr 1;refine List.Perm.eq_of_pairwise (le:=fun a b:Int=>a≤b) (fun a b _ _ r o=>Int.le_antisymm r o) (jI _) ?_ ((mF _).trans c);unfold gz;refine List.pairwise_map.2 ((oH P N p).imp ?_);intro a b n;omega
theorem wB {S:List (aT 4)} {q:Nat} (h1:1≤q) (h2:q≤S.length):bD S ((q:Int) - 1)=some (S.getD (q - 1) (aT.zero 4)):=by
 have:=aZ (l:=S) (i:=q - 1) (by omega);rw [show ((q - 1:Nat):Int)=(q:Int) - 1 by omega] at this;rw [this];simp [Ih,show q - 1<S.length by omega]
def zN:T_NFA:=⟨0,0,[],[]⟩
def Hc {α:Type} (l:List T_Regex) (e:Int) (x:α) (z n:α):Prop:=
 ((∃y∈l,V 30 y=false)∧e=1∧x=z)∨((∀y∈l,V 30 y=true)∧500<bE l∧e=11∧x=z)∨((∀y∈l,V 30 y=true)∧bE l≤500∧e=0∧x=n)
theorem qR {ρ:Type} {l:List T_Regex} (hp:bE l≤1048576) {v n:T_Regex→Option _} (f:∀y∈l,v y=some (V 30 y)) (hn:∀y∈l,n y=some (parts y:Int)) {z:ρ} {body:Int×Int→Option (cO (Int×Int) (cO Int ρ))}
 (hb:∀t i,body (t,i)=bif decide (i<(l.length:Int)) then (bD l i).bind fun e=>(v e).bind fun r=>bif (!r) then some (.stop (.stop z)) else (n e).bind fun m=>(cd .i64 (t+m)).bind fun t=>(cd .i64 (i+1)).bind fun u=>some (.next (t,u)) else some (.stop (.next t))) :
 Is (be body ba ((0:Int),(0:Int))) (SP (fun t=>(∀y∈l,V 30 y=true)∧t=(bE l:Int)) (fun r=>(∃y∈l,V 30 y=false)∧r=z)):=by
 have hlen:=fx l;refine Is.upto (fun i (d:Int×Int)=>d.2=(i:Int)∧(∀y∈l.take i,V 30 y=true)∧d.1=(bE (l.take i):Int)) l.length (by omega) ⟨rfl,by simp,by simp [bE]⟩ ?_ ?_
 ·rintro i ⟨t,_⟩ a ⟨rfl,b,c⟩;obtain rfl:t=_:=c;have g:=eO a;have j:=cJ l (i+1);rw [hb];refine Is.dt (by omega) (Is.bnq (aZ a) (Is.bnq (f _ (Ip a)) (Is.cnd (fun h=>Is.stop ⟨⟨_,Ip a,by simpa using h⟩,rfl⟩) (fun h=>?_))));refine Is.bnq (hn _ (Ip a)) (Is.bnq (x:=(bE (l.take (i+1)):Int)) (by rw [dO (by omega) (by omega),g]; congr 1) (Is.bnq (aM (by omega)) (Is.next ⟨rfl,fun y hy=>?_,rfl⟩)));rw [cP a] at hy;rcases Iv.1 hy with hy|hy
  ·exact b y hy
  ·obtain rfl:=Iu.1 hy;simpa using h
 ·rintro ⟨t,_⟩ ⟨rfl,b,c⟩;obtain rfl:t=_:=c;rw [Iq] at b;rw [hb];refine Is.df (by omega) (Is.stop ⟨b,by rw [Iq]⟩)
theorem wL {σ ρ:Type} {P:σ→Prop} {Q Q':ρ→Prop} {s:cO σ ρ} (h:SP P Q s) (k:∀r,Q r→Q' r):SP P Q' s:=by
 cases s
 ·exact h
 ·exact k _ h
theorem uG {l:List T_Regex} (ok:∀x∈l,bO x) (hp:bE l≤1048576):Is (M.j8 l) (fun e=>Hc l e () () ()):=by
 unfold M.j8;have hn:∀y∈l,M.e4 ba y=some (parts y:Int):=fun y hy=>ue ba y (by have:=eV hy; unfold ba; omega) (by have:=eV hy; omega)
 refine Is.bs (P:=fun t=>(∀y∈l,V 30 y=true)∧t=(bE l:Int)) ((qR hp (v:=M.g8) (n:=M.e4 ba) (fun y hy=>ku (ok y hy)) hn (z:=(1:Int)) (fun _ _=>rfl)).mono fun s hs=>wL hs fun r a=>.inl ⟨a.1,a.2,rfl⟩) fun t c=>?_
 obtain ⟨b,rfl⟩:=c;exact Is.dcd (fun h=>Is.pure (.inr (.inl ⟨b,by omega,rfl,rfl⟩))) (fun h=>Is.pure (.inr (.inr ⟨b,by omega,rfl,rfl⟩)))
theorem Dm:gy [[]] 1 (gu []):=by
 refine ⟨rfl,fun p m h=>?_,fun p m h k=>?_⟩
 ·rw [List.getElem?_singleton] at h;split at h <;> cases h
  simp
 ·rw [List.getElem?_singleton] at h;split at h <;> cases h
  simp [gu]
theorem Bk {l:List T_Regex} (ok:∀x∈l,bO x) (hp:bE l≤1048576):Is (M.d1 l) (fun r=>Hc l r.2 r.1 zN (cx l)):=by
 unfold M.d1;have hn:∀y∈l,M.g5 ba y=some (parts y:Int):=fun y hy=>yV ba y (by have:=eV hy; unfold ba; omega) (by have:=eV hy; omega)
 refine Is.bs (P:=fun t=>(∀y∈l,V 30 y=true)∧t=(bE l:Int)) ((qR hp (v:=M.g7) (n:=M.g5 ba) (fun y hy=>rf (ok y hy)) hn (z:=(zN,(1:Int))) (fun _ _=>rfl)).mono fun s hs=>wL hs fun r j=>.inl ⟨j.1,by rw [j.2],by rw [j.2]⟩) fun t X=>?_
 obtain ⟨G,rfl⟩:=X;refine Is.dcd (fun h=>Is.pure (.inr (.inl ⟨G,by omega,rfl,rfl⟩))) (fun h=>?_);have a5:bE l≤500:=by omega
 have hlen:=fx l;refine Is.mono (P:=fun r=>r=(cx l,0)) ?_ (fun r j=>.inr (.inr ⟨G,a5,by rw [j],by rw [j]⟩));have F:=gP l 0 dc mf;have b5:=lC l 0 dc;have b1:dc.1.S.length=0:=rfl;refine Is.bnd (P:=fun (v:List (aT 4)×List (List (Int×Bool))×List Int)=>v.1=(dx 0 l dc).1.S∧gy v.2.1 ((dx 0 l dc).1.S.length+1) (gu (dx 0 l dc).1.P)∧v.2.2=(dx 0 l dc).2) ?_ ?_
 ·refine Is.upto (fun i (c:List (aT 4)×List (List (Int×Bool))×List Int×Int)=>c.2.2.2=(i:Int)∧c.1=(dx 0 (l.take i) dc).1.S∧gy c.2.1 ((dx 0 (l.take i) dc).1.S.length+1) (gu (dx 0 (l.take i) dc).1.P)∧c.2.2.1=(dx 0 (l.take i) dc).2) l.length (by omega) ⟨rfl,rfl,Dm,rfl⟩ ?_ ?_
  ·rintro i ⟨S,B,a,_⟩ o ⟨rfl,e,b,d⟩;simp only at e b d;subst e d;have H:=gP (l.take i) 0 dc mf;have gl:=lC (l.take i) 0 dc;have b3:=eO o;have b4:=cJ l (i+1);have m:=nC l[i] (l.take i) 0 dc;rw [←cP o,show 0+(l.take i).length=i by rw [IJ]; omega] at m;generalize dx 0 (l.take i) dc=s at b H gl m;have hy:=fu l[i] s.1;have W:=qW l[i] s.1;have b0:=pE l[i] s.1;have hal:=H.len;refine Is.dt (by omega) (Is.bnd (P:=fun (v:List (aT 4)×List (List (Int×Bool))×List Int)=>v.1=(sa i l[i] s).1.S∧gy v.2.1 ((sa i l[i] s).1.S.length+1) (gu (sa i l[i] s).1.P)∧v.2.2=(sa i l[i] s).2) (Is.bnq (aZ o) (Is.bnd (Bq 30 ba l[i] s.1 B (G _ (Ip o)) (by unfold ba; omega) b H.cl (by omega)) ?_)) ?_)
   ·rintro ⟨vp,vs,U⟩ ⟨A,w,u⟩;simp only at A w u;subst A w;refine Is.bnd (ti u (fr:=[0]) (to:=(bd l[i] s.1).1.fi) (fun p hp=>by obtain rfl:=Iu.1 hp; omega) (by simp) (by omega)) ?_;rintro ⟨ws,T⟩ ⟨R,Q⟩;simp only at R Q;subst R;have K:(tG s.2 (bd l[i] s.1).2.S.length).length=(bd l[i] s.1).2.S.length+1:=px (by omega);refine Is.bnq (uk (a:=s.2) (n:=(bd l[i] s.1).2.S.length) (by omega) (by omega) (fun _=>rfl)) ?_;refine Is.bnq (tW (la:=(bd l[i] s.1).1.la) (v:=(i:Int)) (fun p hp=>by rw [K]; have:=W.2 p hp; omega) (by omega) (fun _ _=>rfl)) ?_;refine Is.of (zr (f:=fun y=>((bd l[i] s.1).2.S,T,y)) (by rw [iR,K]; omega)) ⟨rfl,Q.congr fun p q=>?_,rfl⟩;show _↔(p,q)∈(bd l[i] s.1).2.P++dv [0] (bd l[i] s.1).1.fi;rw [Iv,eW];rfl
   ·rintro ⟨vs,U,va⟩ ⟨A,w,u⟩;simp only at A w u;subst A u;refine Is.bnq (aM (by omega)) (Is.next ⟨rfl,?_,?_,?_⟩)
    ·rw [m]
    ·rw [m]; exact w
    ·rw [m]
  ·rintro ⟨S,B,a,_⟩ ⟨rfl,e,b,d⟩;simp only at e b d;rw [Iq] at e b d;exact Is.df (by omega) (Is.stop ⟨e,b,d⟩)
 ·rintro ⟨S,B,a⟩ ⟨e,b,d⟩;simp only at e b d;subst e d;have hal:=F.len;have a3:∀p q,(p,q)∈(dx 0 l dc).1.P→q<(dx 0 l dc).2.length:=fun p q h=>by have:=F.cl p q h; omega
  have a0:=F.pos;have N:(dx 0 l dc).2.length≤501:=by omega
  rw [←hal] at b;have b6:=b.len;unfold cx;generalize (dx 0 l dc).2=acc at *;generalize (dx 0 l dc).1.S=S at *;generalize (dx 0 l dc).1.P=P at *;have hL:=oF S P acc.length;have hk:∀k,k≤acc.length→(gm S P acc.length k).length≤251001:=fun k hk=>Nat.le_trans (hL k) (Nat.le_trans (Nat.mul_le_mul hk (Nat.le_refl _)) (Nat.le_trans (Nat.mul_le_mul N N) (by decide)))
  refine Is.bnq (x:=gm S P acc.length acc.length) (Is.eq ?_) (Is.pure rfl);refine Is.upto (fun i (c:List ca×Int)=>c.2=(i:Int)∧c.1=gm S P acc.length i) acc.length (by omega) ⟨rfl,rfl⟩ ?_ ?_
  ·rintro i ⟨I,_⟩ o ⟨rfl,g⟩;obtain rfl:I=_:=g;have L:i<B.length:=by omega
   refine Is.dt (by omega) (Is.bnq (x:=gm S P acc.length (i+1)) (Is.eq (Is.bnq (aZ L) (Is.bnq (zl b a3 (by omega) (Ii L)) ?_))) (Is.bnq (aM (by omega)) (Is.next ⟨rfl,rfl⟩)));have b2:=qa P acc.length i;refine Is.upto (fun k (c:List ca×Int)=>c.2=(k:Int)∧c.1=gm S P acc.length i++((oS P acc.length i).take k).map (Ap S i)) (oS P acc.length i).length (by omega) ⟨rfl,by simp⟩ ?_ ?_
   ·rintro k ⟨J,_⟩ D ⟨rfl,g⟩;obtain rfl:J=_:=g;have a1:=je.1 (Ip D);have Y:=a0 _ _ a1.2;have h6:=hk i (by omega);refine Is.dt (by rw [cN]; omega) (Is.bnq (lm D) (Is.bnq (x:=(((oS P acc.length i)[k]:Int)) - 1) (dO (by omega) (by omega)) (Is.bnq (wB Y (by omega)) (Is.bnq (bN ?_) (Is.bnq (aM (by omega)) (Is.next ⟨rfl,?_⟩))))))
    ·rw [Ir,IC,IJ,Il]; omega
    ·rw [cP D,ID,Iw];rfl
   ·rintro ⟨J,_⟩ ⟨rfl,g⟩;obtain rfl:J=_:=g;refine Is.df (by rw [cN]; omega) (Is.stop ?_);rw [Iq,wj];rfl
  ·rintro ⟨I,_⟩ ⟨rfl,g⟩;obtain rfl:I=_:=g;exact Is.df (by omega) (Is.stop rfl)
theorem Bb {a:List Int} {n:Nat} (h:∀x∈a,-1≤x):∀x∈tG a n,-1≤x:=by
 intro x hx;rcases Iv.1 hx with hx|hx
 ·exact h x hx
 ·rw [(List.mem_replicate.1 hx).2]; omega
theorem us {i:Int} (hi:0≤i):∀(la:List Nat) {a:List Int},(∀x∈a,-1≤x)→∀x∈lJ la i a,-1≤x
 | [],_,h=>h
 | p::la,a,h=>us hi la (a:=a.set p i) fun x hx=>by
  rcases List.mem_or_eq_of_mem_set hx with hx|rfl
  ·exact h x hx
  ·omega
theorem zb {i:Int} (hi:0≤i) {n:Bool} {a:List Int} (h:∀x∈a,-1≤x):∀x∈lQ n i a,-1≤x:=by
 unfold lQ;cases n && decide (a.getD 0 0<0)
 ·exact h
 ·intro x hx;rcases List.mem_or_eq_of_mem_set hx with hx|rfl
  ·exact h x hx
  ·omega
theorem xj:∀(l:List T_Regex) (i:Nat) (s:Bs×List Int),(∀x∈s.2,-1≤x)→∀x∈(dx i l s).2,-1≤x
 | [],_,_,h=>h
 | y::l,i,s,h=>xj l (i+1) (sa i y s) (zb (Int.natCast_nonneg i) (us (Int.natCast_nonneg i) _ (Bb h)))
theorem jf {S:List (aT 4)} {P:List (Nat×Nat)} {N k:Nat} {a:ca}:a∈gm S P N k↔∃p q,p<k∧q<N∧(p,q)∈P∧a=Ap S p q:=by
 unfold gm uO;rw [List.mem_flatMap];constructor
 ·rintro ⟨p,hp,h⟩;obtain ⟨q,hq,rfl⟩:=IP.1 h;exact ⟨p,q,IQ.1 hp,(je.1 hq).1,(je.1 hq).2,rfl⟩
 ·rintro ⟨p,q,hp,hq,hR,rfl⟩;exact ⟨p,IQ.2 hp,IP.2 ⟨q,je.2 ⟨hq,hR⟩,rfl⟩⟩
theorem kL {l:List T_Regex} (h:bE l≤500):VN (cx l)∧(cx l).Arcs.length≤251001:=by
 have c:=gP l 0 dc mf;have f:=lC l 0 dc;have d:dc.1.S.length=0:=rfl;have hal:=c.len;have b:(dx 0 l dc).2.length≤501:=by omega
 refine ⟨⟨?_,?_,⟨?_,?_⟩,rfl,xj l 0 dc (by simp [dc]),?_⟩,?_⟩
 ·show (1:Int)≤((dx 0 l dc).2.length:Int); omega
 ·show ((dx 0 l dc).2.length:Int)≤2000; omega
 ·show (0:Int)≤0; omega
 ·show (0:Int)<((dx 0 l dc).2.length:Int); omega
 ·intro a ha;obtain ⟨p,q,hp,hq,_,rfl⟩:=jf.1 ha;refine ⟨⟨?_,?_⟩,⟨?_,?_⟩,fun e=>by cases e⟩
  ·show (0:Int)≤(p:Int); omega
  ·show (p:Int)<((dx 0 l dc).2.length:Int); omega
  ·show (0:Int)≤(q:Int); omega
  ·show (q:Int)<((dx 0 l dc).2.length:Int); omega
 ·exact Nat.le_trans (oF _ _ _ _) (Nat.le_trans (Nat.mul_le_mul b b) (by decide))
end Go.Proofs.YtggpjcdhflcfmaaGreatDoor
namespace Go.Proofs.YtggpjcdhflcfmaaGreatDoor
open Go.Lx
open Classical
def big:Nat:=2199023255552
inductive Fit:T_Regex→Prop where
  | mk (x:T_Regex):W4 x.Set→x.Kids.length≤big→(x.Kind=6→∃y,x.Kids=[y])→(x.Kind=1→x=oJ)→(x.Kind=2→x=sX)→(∀y∈x.Kids,Fit y)→Fit x
theorem Fit.len {x} (h:Fit x):x.Kids.length≤big:=by cases h; assumption
theorem Fit.kids {x} (h:Fit x):∀y∈x.Kids,Fit y:=by cases h; assumption
theorem qI {x y:T_Regex} (h:y∈x.Kids):height y<height x:=by
 obtain ⟨k,s,l⟩:=x;have:height y≤cb l:=vS h;simp only [height];omega
theorem uo:∀b x,Fit x→height x<b→M.c6 b x=some (nb x):=by
 intro b;induction b with
 | zero=>intro a _ h; omega
 | succ b ih=>
  rintro ⟨k,s,l⟩ hF hh;have hl:l.length≤9223372036854775807:=Nat.le_trans hF.len (by decide);have hk:∀y∈l,M.c6 b y=some (nb y):=fun y hy=>ih y (hF.kids y hy) (by have:=qI (x:=⟨k,s,l⟩) hy; omega)
  have f:=qC (ρ:=cO Unit (cO Unit Bool)) (X:=.stop (.stop false)) (Y:=.next ()) hk hl;have c:=zh (ρ:=cO Unit Bool) (X:=.stop true) (Y:=.next ()) hk hl;unfold M.c6;rcases gQ k with rfl|rfl|rfl|rfl|rfl|⟨c,g,e,d,h6⟩
  ·simp [nb,bo]
  ·simp [nb,bo]
  ·refine Is.eq (Is.bs (P:=fun _=>False) (Is.bnq (x:=false) rfl (Is.cf rfl (Is.ct rfl ?_))) (fun _ h=>h.elim));rw [f];show Is _ (SP _ (fun r=>r=Dz l));rw [yX];cases l.all nb
   ·exact Is.stop rfl
   ·exact Is.stop rfl
  ·refine Is.eq (Is.bs (P:=fun _=>l.any nb=false) (Q:=fun r=>r=Dy l) (Is.bnq (x:=false) rfl (Is.cf rfl (Is.cf rfl (Is.ct rfl ?_)))) (fun _ h=>Is.pure (by rw [vD,h])));rw [c,vD];cases l.any nb
   ·exact Is.next rfl
   ·exact Is.stop rfl
  ·simp [nb,bo]
  ·simp [nb,bo,cv c,cv e,cv d,cv h6]
def FH (x:T_Regex):Prop:=Fit x∧height x<ba
mutual
def ua:T_Regex→List T_Regex
 | ⟨k,s,l⟩=>bif k == 5 then ⟨k,s,l⟩::Fk l else bif k == 1 then [] else [⟨k,s,l⟩]
def Fk:List T_Regex→List T_Regex
 | []=>[]
 | y::l=>ua y++Fk l
end
def GU (x:T_Regex):List T_Regex:=bif x.Kind == 5 then Fk x.Kids else bif x.Kind == 1 then [] else [x]
def Dw:List Nat→List (List Nat)
 | []=>[]
 | a::v=>(a::v)::Dw v
mutual
noncomputable def SS:T_Regex→List Nat→List T_Regex
 | ⟨k,s,l⟩,v=>bif k == 4 then SC l v else bif k == 5 then SU l v
  else bif k == 6 then ⟨k,s,l⟩::(Dw v).map (fun u=>ct [Fw (l.headD oJ) u,⟨k,s,l⟩]) else [⟨k,s,l⟩,oJ,sX]
noncomputable def SU:List T_Regex→List Nat→List T_Regex
 | [],_=>[]
 | y::l,v=>SS y v++SU l v
noncomputable def SC:List T_Regex→List Nat→List T_Regex
 | [],_=>[]
 | y::l,v=>(if ne l=[] then (Dw v).flatMap (fun u=>SS y u) else (Dw v).flatMap (fun u=>GU (ct (Fw y u::l))))++SC l v
end
noncomputable def hd (y:T_Regex) (l:List T_Regex) (v:List Nat):List T_Regex:=
 if ne l=[] then (Dw v).flatMap (fun u=>SS y u) else (Dw v).flatMap (fun u=>GU (ct (Fw y u::l)))
def ix (l:List Bool) (j:Nat):Bool:=l.getD j false
theorem vc {s:aT 4} {n:Nat} (h:iP 6 s n=true):n=1:=by
 simp [iP] at h; exact h.1
theorem yE {k:Int} {s:aT 4} {n:Nat} (hk:k=1∨k=2) (h:iP k s n=true):n=0∧s=aT.zero 4:=by
 rcases hk with rfl|rfl
 ·simp only [iP,beq_self_eq_true,Bool.true_or,cond_true,Bool.and_eq_true,beq_iff_eq] at h; exact h
 ·simp only [iP,beq_self_eq_true,Bool.or_true,cond_true,Bool.and_eq_true,beq_iff_eq] at h; exact h
theorem tm:∀x d,bO x→V d x=true→parts x≤100000→Fit x:=by
 refine T_Regex.ind fun k s l ih d ok a hp=>?_
 have h:bE l+1≤100000:=hp;have hlen:=fx l;cases d with
 | zero=>cases a
 | succ d=>
  rw [V,Bool.and_eq_true,List.all_eq_true] at a;obtain ⟨hs,a⟩:=a;have f:∀j,k=j→j=1∨j=2→(⟨k,s,l⟩:T_Regex)=⟨j,aT.zero 4,[]⟩:=fun j e g=>by
   subst e;obtain ⟨c,b⟩:=yE g hs;have b:s=aT.zero 4:=b;have c:l=[]:=Jd c;rw [b,c]
  refine .mk _ (Ca (yR ok)) (by show l.length≤big; unfold big; omega) (fun e=>?_) (fun e=>f 1 e (.inl rfl)) (fun e=>f 2 e (.inr rfl))
   (fun y hy=>ih y hy d (jB ok y hy) (a y hy) (by have:parts y≤bE l:=eV hy; omega))
  obtain rfl:k=6:=e;have:=vc hs;exact List.length_eq_one_iff.1 this
theorem Ai:∀b x,bO x→height x<b→height x≤1000→M.h0 b x=some (height x:Int):=by
 intro b;induction b with
 | zero=>intro a _ h; omega
 | succ b ih=>
  rintro ⟨k,s,l⟩ ok hh hb;have hl:l.length≤9223372036854775807:=Nat.le_trans (vz ok) (by decide);unfold M.h0;refine Is.eq ?_;refine Is.bnd (P:=fun r=>r=((cb l:Nat):Int)) ?_ ?_
  ·refine Is.upto (fun i (e:Int×Int)=>e.2=(i:Int)∧e.1=((cb (l.take i):Nat):Int)) l.length hl ⟨rfl,by simp [cb]⟩ ?_ ?_
   ·rintro i ⟨a,_⟩ c ⟨rfl,d⟩;obtain rfl:a=_:=d;have hk:=qI (x:=⟨k,s,l⟩) (Ip c);refine Is.dt (show (i:Int)<(l.length:Int) by omega) (Is.bnq (aZ c) (Is.bnq (ih _ (jB ok _ (Ip c)) (by omega) (by omega)) (Is.bnq (aM (by omega)) (Is.next ⟨rfl,?_⟩))));rw [List.take_add_one,Ii c,kR];simp only [zf,Option.toList,cb];split <;> omega
   ·rintro ⟨a,_⟩ ⟨rfl,d⟩;obtain rfl:a=_:=d;refine Is.df (show ¬ (l.length:Int)<(l.length:Int) by omega) (Is.stop ?_);rw [Iq]
  ·rintro _ rfl;have:height (⟨k,s,l⟩:T_Regex)=cb l+1:=rfl;exact Is.bnq (aM (by omega)) (Is.pure (by rw [this]))
section
variable {P N H:Nat} (hP:3≤P) (hM:1≤N) (hB:P*P*(N+1)≤big) (hH:H≤1000) {x:T_Regex} (hF:Fit x) (hp:parts x≤P) (hh:height x≤H)
include hP hM hB hH hF hp hh
end
end Go.Proofs.YtggpjcdhflcfmaaGreatDoor
namespace Go.Proofs.YtggpjcdhflcfmaaGreatDoor
open Go.Lx
def pv (p:Nat×Nat):aT 2:=⟨[(p.1:Int),(p.2:Int)],rfl⟩
def pr (P:List (Nat×Nat)):List (aT 2):=P.map pv
theorem AR (P Q:List (Nat×Nat)):pr (P++Q)=pr P++pr Q:=by simp [pr]
theorem pq (P:List (Nat×Nat)):(pr P).length=P.length:=by simp [pr]
theorem vw (a b:List Nat) (p:Nat):dv (a++[p]) b=dv a b++b.map fun q=>(p,q):=by simp [dv]
theorem wk {S:List (aT 4)} {P:List (Nat×Nat)} {la fi:List Nat} (h:P.length+la.length*fi.length≤1000000000) (f:la.length≤1000000) (d:fi.length≤1000000) :
 M.c7 ⟨S,pr P⟩ (gz la) (gz fi)=some ⟨S,pr (P++dv la fi)⟩:=by
 refine Is.eq ?_;unfold M.c7;refine Is.upto (fun i (a:List (aT 2)×Int)=>a.2=(i:Int)∧a.1=pr (P++dv (la.take i) fi)) la.length (by omega) ⟨rfl,by simp [dv]⟩ ?_ ?_
 ·rintro i ⟨s,_⟩ b ⟨rfl,e⟩;obtain rfl:s=_:=e;have c:(i+1)*fi.length≤la.length*fi.length:=IF _ b;rw [Nat.succ_mul] at c;have hlen:(P++dv (la.take i) fi).length=P.length+i*fi.length:=by rw [Ir,lB,IJ,Nat.min_eq_left (Nat.le_of_lt b)]
  refine Is.dt (by rw [cN]; omega) (Is.bnq (x:=pr (P++dv (la.take (i+1)) fi)) (Is.eq ?_) (Is.bnq (aM (by omega)) (Is.next ⟨rfl,rfl⟩)));refine Is.upto (fun k (a:List (aT 2)×Int)=>a.2=(k:Int)∧a.1=pr ((P++dv (la.take i) fi)++(fi.take k).map fun q=>(la[i],q))) fi.length (by omega) ⟨rfl,by simp⟩ ?_ ?_
  ·rintro k ⟨s,_⟩ hk ⟨rfl,e⟩;obtain rfl:s=_:=e;refine Is.dt (by rw [cN]; omega) (Is.bnq (lm b) (Is.bnq (lm hk) (Is.bnq (bN ?_) (Is.bnq (aM (by omega)) (Is.next ⟨rfl,?_⟩)))))
   ·rw [pq,Ir,hlen,IC,IJ,Il]; omega
   ·rw [cP hk,ID,←Iw,AR (_++_) (List.map _ [fi[k]])];rfl
  ·rintro ⟨s,_⟩ ⟨rfl,e⟩;obtain rfl:s=_:=e;refine Is.df (by rw [cN]; omega) (Is.stop ?_);rw [Iq,cP b,vw,Iw]
 ·rintro ⟨s,_⟩ ⟨rfl,e⟩;obtain rfl:s=_:=e;refine Is.df (by rw [cN]; omega) (Is.stop ?_);rw [Iq]
def uV (x:Pt):cB:=⟨x.nl,gz x.fi,gz x.la⟩
theorem vo {S:List (aT 4)} {P:List (Nat×Nat)} {x y:Pt} (h:P.length+x.la.length*y.fi.length≤1000000000) (d:x.la.length≤100000) (c:y.fi.length≤100000) (b:x.fi.length≤100000) (a:y.la.length≤100000) :
 M.d9 ⟨S,pr P⟩ (uV x) (uV y)=some (uV (eJ x y),⟨S,pr (P++dv x.la y.fi)⟩):=by
 refine Is.eq ?_;unfold M.d9;refine Is.bnq (wk h (by omega) (by omega)) ?_;refine Is.bnq (x:=x.nl && y.nl) (Is.eq (Is.cnd (fun hn=>Is.pure ?_) (fun hn=>Is.pure ?_))) ?_
 ·have hn:x.nl=true:=hn;rw [hn]; rfl
 ·have hn:x.nl=false:=hn;rw [hn]; rfl
 refine Is.bnq (x:=gz (eJ x y).fi) (Is.eq (Is.cnd (fun hn=>?_) (fun hn=>Is.pure ?_))) ?_
 ·have hn:x.nl=true:=hn;refine Is.bnq (bN (by simp only [uV,cN,List.length_nil]; omega)) (Is.bnq (bN (by simp only [uV,cN,Iz]; omega)) (Is.pure ?_));unfold eJ uV;rw [hn,cond_true,jr,Iz]
 ·have hn:x.nl=false:=hn;unfold eJ uV;rw [hn,cond_false]
 refine Is.bnq (x:=gz (eJ x y).la) (Is.eq (Is.cnd (fun hn=>?_) (fun hn=>Is.pure ?_))) (Is.pure rfl)
 ·have hn:y.nl=true:=hn;refine Is.bnq (bN (by simp only [uV,cN,List.length_nil]; omega)) (Is.bnq (bN (by simp only [uV,cN,Iz]; omega)) (Is.pure ?_));unfold eJ uV;rw [hn,cond_true,jr,Iz]
 ·have hn:y.nl=false:=hn;unfold eJ uV;rw [hn,cond_false]
section
variable {K q:Nat} (hq:K*K≤q)
include hq
mutual
theorem jO:∀(x:T_Regex) (b:Bs),parts x≤K→(bd x b).2.P.length+q≤b.P.length+2*(parts x*q)
 | ⟨k,s,l⟩,b,hK=>by
  simp only [parts] at hK ⊢;rw [Nat.add_mul,Nat.one_mul];simp only [bd];cases k == 3
  ·cases k == 4
   ·cases k == 5
    ·cases k == 6
     ·simp only [cond_false]; omega
     ·match l,hK with
      | [],_=>simp only [cond_false,cond_true,Aq]; omega
      | y::l,hK=>
       simp only [bE] at hK;have h:=jO y b (by omega);have d:=fu y b;have c:(bd y b).1.la.length*(bd y b).1.fi.length≤q:=Nat.le_trans (Nat.mul_le_mul (by omega) (by omega)) hq;simp only [cond_false,cond_true,Aq,bE,Ir,lB,Nat.add_mul];omega
    ·have h:=qY l ⟨false,[],[]⟩ b (by omega);simp only [cond_false,cond_true] at h ⊢;omega
   ·have h:=rb l ⟨true,[],[]⟩ b (by simp only [List.length_nil]; omega);simp only [cond_false,cond_true] at h ⊢;omega
  ·simp only [cond_true]; omega
theorem rb:∀(l:List T_Regex) (x:Pt) (b:Bs),x.la.length+bE l≤K→(fI l x b).2.P.length≤b.P.length+2*(bE l*q)
 | [],x,b,_=>by simp [fI,bE]
 | y::l,x,b,hK=>by
  simp only [bE] at hK;have h:=jO y b (by omega);have d:=fu y b;have c:x.la.length*(bd y b).1.fi.length≤q:=Nat.le_trans (Nat.mul_le_mul (by omega) (by omega)) hq;have e:(eJ x (bd y b).1).la.length≤x.la.length+(bd y b).1.la.length:=by unfold eJ; cases (bd y b).1.nl <;> simp
  have a:=rb l (eJ x (bd y b).1) ⟨(bd y b).2.S,(bd y b).2.P++dv x.la (bd y b).1.fi⟩ (by omega);simp only [Ir,lB] at a;simp only [fI,bE,Nat.add_mul];omega
theorem qY:∀(l:List T_Regex) (x:Pt) (b:Bs),bE l≤K→(gn l x b).2.P.length≤b.P.length+2*(bE l*q)
 | [],x,b,_=>by simp [gn,bE]
 | y::l,x,b,hK=>by
  simp only [bE] at hK;have h:=jO y b (by omega);have a:=qY l (iJ x (bd y b).1) (bd y b).2 (by omega);simp only [gn,bE,Nat.add_mul];omega
end
theorem qK (a:1≤K):∀(l:List T_Regex) (i:Nat) (s:Bs×List Int),bE l≤K→(dx i l s).1.P.length≤s.1.P.length+2*(bE l*q)
 | [],i,s,_=>by simp [dx,bE]
 | y::l,i,s,hK=>by
  simp only [bE] at hK;have h:=jO hq y s.1 (by omega);have d:=fu y s.1;have c:K≤q:=Nat.le_trans (by rw [←Nat.mul_one K,Nat.mul_assoc]; exact IG _ (by omega)) hq;have b:=qK a l (i+1) (sa i y s) (by omega);have h6:(sa i y s).1.P.length=(bd y s.1).2.P.length+(bd y s.1).1.fi.length:=by
   show ((bd y s.1).2.P++dv [0] (bd y s.1).1.fi).length=_;rw [Ir,lB];simp
  simp only [dx,bE,Nat.add_mul];omega
end
theorem zO:∀(d a:Nat) (x:T_Regex) (b:Bs),V d x=true→d+1≤a→b.S.length+parts x≤500→b.P.length+500000*parts x≤500000000→M.a9 a ⟨b.S,pr b.P⟩ x=some (uV (bd x b).1,⟨(bd x b).2.S,pr (bd x b).2.P⟩):=by
 intro d;induction d with
 | zero=>intro a x b h; simp [V] at h
 | succ d ih=>
  intro a x b H L hsz t;obtain ⟨a,rfl⟩:∃f,a=f+1:=⟨a - 1,by omega⟩;obtain ⟨k,s,l⟩:=x;obtain ⟨p,n⟩:=zV H;have B:parts ⟨k,s,l⟩=bE l+1:=by simp [parts]
  rw [B] at hsz t;have J:=fx l;refine Is.eq ?_;unfold M.a9;have fin:∀ {o:Option (Bool×List Int×List Int×List (aT 4)×List (aT 2))} {r:Pt×Bs},bd ⟨k,s,l⟩ b=r→Is o (fun v=>v=(r.1.nl,gz r.1.fi,gz r.1.la,r.2.S,pr r.2.P))→
   Is (o.bind fun x=>some ((cB.mk x.1 x.2.1 x.2.2.1),(bS.mk x.2.2.2.1 x.2.2.2.2))) (fun v=>v=(uV (bd ⟨k,s,l⟩ b).1,⟨(bd ⟨k,s,l⟩ b).2.S,pr (bd ⟨k,s,l⟩ b).2.P⟩)):=by
   intro o r G D;refine Is.bnd D fun v w=>Is.pure ?_
   rw [w,G];rfl
  have hq:500*500≤250000:=by decide
  rcases pX p with rfl|rfl|rfl|rfl|rfl|rfl
  ·exact fin (r:=(⟨false,[],[]⟩,b)) (by simp [bd]) (Is.cf rfl (Is.cf rfl (Is.cf rfl (Is.cf rfl (Is.cf rfl (Is.pure rfl))))))
  ·exact fin (r:=(⟨true,[],[]⟩,b)) (by simp [bd]) (Is.ct rfl (Is.pure rfl))
  ·refine fin (r:=(⟨false,[b.S.length+1],[b.S.length+1]⟩,⟨b.S++[s],b.P⟩)) (by simp [bd]) (Is.cf rfl (Is.ct rfl (Is.bnq (bN (by simp only [Il]; omega)) (Is.pure ?_))));simp [gz]
  ·refine fin (r:=fI l ⟨true,[],[]⟩ b) (by simp [bd]) (Is.cf rfl (Is.cf rfl (Is.ct rfl ?_)));refine Is.upto (fun i (j:List (aT 4)×List (aT 2)×Bool×List Int×List Int×Int)=>j=((fI (l.take i) ⟨true,[],[]⟩ b).2.S,pr (fI (l.take i) ⟨true,[],[]⟩ b).2.P,(fI (l.take i) ⟨true,[],[]⟩ b).1.nl,gz (fI (l.take i) ⟨true,[],[]⟩ b).1.fi,gz (fI (l.take i) ⟨true,[],[]⟩ b).1.la,(i:Int))) l.length (by omega) (by simp [fI,gz]) ?_ ?_
   ·rintro i _ c rfl;have g:=pG (l.take i) ⟨true,[],[]⟩ b;have m:=rb (K:=500) (q:=250000) hq (l.take i) ⟨true,[],[]⟩ b (by have:=cJ l i; simp only [List.length_nil]; omega);have z:=eO c;have A:=cJ l (i+1);have e:=ra l[i] (l.take i) ⟨true,[],[]⟩ b;rw [←cP c] at e;generalize fI (l.take i) ⟨true,[],[]⟩ b=r at g m e;simp only [List.length_nil] at g;have hy:=fu l[i] r.2;have u:=jO (K:=500) (q:=250000) hq l[i] r.2 (by omega);have F:r.1.la.length*(bd l[i] r.2).1.fi.length≤250000:=Nat.le_trans (Nat.mul_le_mul (show _≤500 by omega) (show _≤500 by omega)) hq;refine Is.dt (show ((i:Nat):Int)<(l.length:Int) by omega) (Is.bnq (aZ c) (Is.bnq (ih a l[i] r.2 (n _ (Ip c)) (by omega) (by omega) (by omega)) ?_));refine Is.bnq (vo (x:=r.1) (y:=(bd l[i] r.2).1) (by omega) (by omega) (by omega) (by omega) (by omega)) (Is.bnq (aM (by omega)) (Is.next ?_));rw [e];rfl
   ·rintro _ rfl;refine Is.df (show ¬ ((l.length:Nat):Int)<(l.length:Int) by omega) (Is.stop ?_);rw [Iq]
  ·refine fin (r:=gn l ⟨false,[],[]⟩ b) (by simp [bd]) (Is.cf rfl (Is.cf rfl (Is.cf rfl (Is.ct rfl ?_))));refine Is.upto (fun i (j:List (aT 4)×List (aT 2)×Bool×List Int×List Int×Int)=>j=((gn (l.take i) ⟨false,[],[]⟩ b).2.S,pr (gn (l.take i) ⟨false,[],[]⟩ b).2.P,(gn (l.take i) ⟨false,[],[]⟩ b).1.nl,gz (gn (l.take i) ⟨false,[],[]⟩ b).1.fi,gz (gn (l.take i) ⟨false,[],[]⟩ b).1.la,(i:Int))) l.length (by omega) (by simp [gn,gz]) ?_ ?_
   ·rintro i _ c rfl;have g:=pF (l.take i) ⟨false,[],[]⟩ b;have m:=qY (K:=500) (q:=250000) hq (l.take i) ⟨false,[],[]⟩ b (by have:=cJ l i; omega);have z:=eO c;have A:=cJ l (i+1);have e:=qX l[i] (l.take i) ⟨false,[],[]⟩ b;rw [←cP c] at e;generalize gn (l.take i) ⟨false,[],[]⟩ b=r at g m e;simp only [List.length_nil] at g;have hy:=fu l[i] r.2;refine Is.dt (show ((i:Nat):Int)<(l.length:Int) by omega) (Is.bnq (aZ c) (Is.bnq (ih a l[i] r.2 (n _ (Ip c)) (by omega) (by omega) (by omega)) ?_));refine Is.bnq (x:=r.1.nl || (bd l[i] r.2).1.nl) (Is.eq (Is.cnd (fun hn=>Is.pure ?_) (fun hn=>Is.pure ?_))) ?_
    ·rw [hn]; rfl
    ·rw [hn]; rfl
    refine Is.bnq (bN (by simp only [cN,List.length_nil]; omega)) (Is.bnq (bN (by simp only [uV,cN,Iz]; omega)) (Is.bnq (bN (by simp only [cN,List.length_nil]; omega)) (Is.bnq (bN (by simp only [uV,cN,Iz]; omega)) (Is.bnq (aM (by omega)) (Is.next ?_)))));rw [e];simp only [Iz,uV,iJ,jr]
   ·rintro _ rfl;refine Is.df (show ¬ ((l.length:Nat):Int)<(l.length:Int) by omega) (Is.stop ?_);rw [Iq]
  ·have I:=sd p;obtain ⟨y,rfl⟩:=List.length_eq_one_iff.1 I;simp only [bE] at hsz t;have hy:=fu y b;have u:=jO (K:=500) (q:=250000) hq y b (by omega);have F:(bd y b).1.la.length*(bd y b).1.fi.length≤250000:=Nat.le_trans (Nat.mul_le_mul (show _≤500 by omega) (show _≤500 by omega)) hq;refine fin (r:=(⟨true,(bd y b).1.fi,(bd y b).1.la⟩,⟨(bd y b).2.S,(bd y b).2.P++dv (bd y b).1.la (bd y b).1.fi⟩)) (by simp [bd,Aq]) (Is.cf rfl (Is.cf rfl (Is.cf rfl (Is.cf rfl (Is.ct rfl ?_)))));refine Is.bnq (x:=y) rfl (Is.bnq (ih a y b (n y (by simp)) (by omega) (by omega) (by omega)) ?_);refine Is.bnq (wk (la:=(bd y b).1.la) (fi:=(bd y b).1.fi) (by omega) (by omega) (by omega)) (Is.pure rfl)
theorem su {α:Type} (N:Nat) (f:Nat→Bool) (g:Nat→α):∀k,((List.range (k*N)).filter f).map g=(List.range k).flatMap fun p=>((List.range N).filter fun q=>f (p*N+q)).map fun q=>g (p*N+q)
 | 0=>by simp
 | k+1=>by
  rw [Nat.succ_mul,List.range_add,List.filter_append,ID,su N f g k,IZ,List.flatMap_append];congr 1;simp only [List.flatMap_cons,List.flatMap_nil,List.append_nil];rw [List.filter_map,Ja];rfl
theorem nE {N p q:Nat} (hq:q<N):(p*N+q) / N=p∧(p*N+q) % N=q:=by
 have hN:0<N:=by omega
 rw [Nat.mul_comm p N,Nat.mul_add_div hN,Nat.div_eq_of_lt hq,Nat.mul_add_mod,Jc hq];exact ⟨Nat.add_zero _,rfl⟩
theorem kT {α β:Type} {f g:α→List β}:∀ {l:List α},(∀x∈l,f x=g x)→l.flatMap f=l.flatMap g
 | [],_=>rfl
 | x::l,h=>by rw [List.flatMap_cons,List.flatMap_cons,h x (by simp),kT fun y hy=>h y (by simp [hy])]
theorem wh (S:List (aT 4)) (P:List (Nat×Nat)) (N:Nat):((List.range (N*N)).filter fun i=>decide ((i / N,i % N)∈P)).map (fun i=>Ap S (i / N) (i % N))=gm S P N N:=by
 rw [su];unfold gm;refine kT fun p _=>?_
 unfold uO oS;have a:((List.range N).filter fun q=>decide (((p*N+q) / N,(p*N+q) % N)∈P))=(List.range N).filter fun q=>decide ((p,q)∈P):=by
  refine IW fun q hq=>?_
  rw [(nE (IQ.1 hq)).1,(nE (IQ.1 hq)).2]
 rw [a];refine List.map_congr_left fun q hq=>?_
 have hq:=IQ.1 (IX.1 hq).1;rw [(nE hq).1,(nE hq).2]
theorem Ax (p:Nat×Nat):ie (pv p) 0=some (p.1:Int):=by simp [ie,pv]
theorem Aw (p:Nat×Nat):ie (pv p) 1=some (p.2:Int):=by simp [ie,pv]
theorem Db {n:Nat} (h:n≤9223372036854775807):cd .i64 (n:Int)=some (n:Int):=dO (by omega) (by omega)
theorem DB {n:Nat} (h:n≤9223372036854775807):IntKind.i64.wrap (n:Int)=(n:Int):=fC (by omega) (by omega)
theorem vk {l:List T_Regex} (ok:∀x∈l,bO x) (u:∀y∈l,V 30 y=true) (hp:bE l≤500):M.c8 l=some (cx l,0):=by
 refine Is.eq ?_;unfold M.c8;refine Is.bnd (uG ok (by omega)) fun e Q=>?_
 obtain rfl:e=0:=by
  rcases Q with ⟨⟨y,hy,h⟩,_⟩|⟨_,h,_⟩|⟨_,_,h,_⟩
  ·rw [u y hy] at h; cases h
  ·omega
  ·exact h
 refine Is.cf rfl ?_;have hlen:=fx l;have a1:dc.1.S.length=0:=rfl;have a5:dc.1.P.length=0:=rfl;have hq:500*500≤250000:=by decide
 have r:=gP l 0 dc mf;have a8:=lC l 0 dc;have a7:=qK (K:=500) (q:=250000) hq (by omega) l 0 dc (by omega);refine Is.bnq (x:=((dx 0 l dc).1.S,pr (dx 0 l dc).1.P,(dx 0 l dc).2)) (Is.eq ?_) ?_
 ·refine Is.upto (fun i (c:List (aT 4)×List (aT 2)×List Int×Int)=>c=((dx 0 (l.take i) dc).1.S,pr (dx 0 (l.take i) dc).1.P,(dx 0 (l.take i) dc).2,(i:Int))) l.length (by omega) rfl ?_ ?_
  ·rintro i _ b rfl;have F:=gP (l.take i) 0 dc mf;have R:=lC (l.take i) 0 dc;have a3:=eO b;have a4:=cJ l (i+1);have gp:=qK (K:=500) (q:=250000) hq (by omega) (l.take i) 0 dc (by omega);have o:=nC l[i] (l.take i) 0 dc;rw [←cP b,show 0+(l.take i).length=i by rw [IJ]; omega] at o;generalize dx 0 (l.take i) dc=s at F R gp o;have hy:=fu l[i] s.1;have G:=qW l[i] s.1;have Y:=pE l[i] s.1;have a0:=jO (K:=500) (q:=250000) hq l[i] s.1 (by omega);have hal:=F.len;have w:(tG s.2 (bd l[i] s.1).2.S.length).length=(bd l[i] s.1).2.S.length+1:=px (by omega);refine Is.dt (by omega) (Is.bnq (x:=((sa i l[i] s).1.S,pr (sa i l[i] s).1.P,(sa i l[i] s).2)) (Is.eq (Is.bnq (aZ b) (Is.bnq (zO 30 ba l[i] s.1 (u _ (Ip b)) (by unfold ba; omega) (by omega) (by omega)) ?_))) (Is.bnq (aM (by omega)) (Is.next (by rw [o]))));refine Is.bnq (wk (la:=[0]) (fi:=(bd l[i] s.1).1.fi) (by simp only [Il]; omega) (by simp) (by omega)) ?_;refine Is.bnq (uk (a:=s.2) (n:=(bd l[i] s.1).2.S.length) (by omega) (by omega) (fun _=>rfl)) ?_;refine Is.bnq (tW (la:=(bd l[i] s.1).1.la) (v:=(i:Int)) (fun p hp=>by rw [w]; have:=G.2 p hp; omega) (by omega) (fun _ _=>rfl)) ?_;exact Is.of (zr (f:=fun y=>((bd l[i] s.1).2.S,pr ((bd l[i] s.1).2.P++dv [0] (bd l[i] s.1).1.fi),y)) (by rw [iR,w]; omega)) rfl
  ·rintro _ rfl;refine Is.df (by omega) (Is.stop ?_);rw [Iq]
 have hal:=r.len;have B:∀p q,(p,q)∈(dx 0 l dc).1.P→p<(dx 0 l dc).2.length∧q<(dx 0 l dc).2.length:=fun p q h=>by have:=r.cl p q h; omega
 have I:=r.pos;have D:(dx 0 l dc).2.length≤501:=by omega
 unfold cx;generalize (dx 0 l dc).2=acc at *;generalize (dx 0 l dc).1.S=S at *;generalize (dx 0 l dc).1.P=P at *;have b0:acc.length*acc.length≤251001:=Nat.le_trans (Nat.mul_le_mul D D) (by decide);have b1:0<acc.length:=by omega
 refine Is.bnq (x:=((acc.length*acc.length:Nat):Int)) (by rw [show (acc.length:Int)*(acc.length:Int)=((acc.length*acc.length:Nat):Int) by rw [Int.natCast_mul]]; exact Db (by omega)) ?_;refine Is.bnq (eI (by omega)) ?_;have L:∀p q,p<acc.length→q<acc.length→p*acc.length+q<acc.length*acc.length:=fun p q k d=>by
  have:(p+1)*acc.length≤acc.length*acc.length:=IF _ k;rw [Nat.succ_mul] at this;omega
 refine Is.bnd (P:=fun h:List Bool=>h.length=acc.length*acc.length∧∀j,j<acc.length*acc.length→(h[j]?=some true↔(j / acc.length,j % acc.length)∈P)) ?_ ?_
 ·refine Is.upto (fun i (c:List Bool×Int)=>c.2=(i:Int)∧c.1.length=acc.length*acc.length∧∀j,j<acc.length*acc.length→(c.1[j]?=some true↔(j / acc.length,j % acc.length)∈P.take i)) P.length (by omega) ⟨rfl,by simp,fun j z=>by simp [z]⟩ ?_ ?_
  ·rintro i ⟨h,_⟩ b ⟨rfl,k,d⟩;simp only at k d;obtain ⟨c1,c2⟩:=B P[i].1 P[i].2 (Ip b);have z:=L _ _ c1 c2;have a6:P[i].1*acc.length≤acc.length*acc.length:=IF _ (by omega);refine Is.dt (by rw [pq]; omega) (Is.bnq (x:=pv P[i]) (by rw [aZ (by rw [pq]; exact b)]; simp [pr]) (Is.bnq (Ax _) (Is.bnq (x:=((P[i].1*acc.length:Nat):Int)) (by rw [show ((P[i].1:Nat):Int)*(acc.length:Int)=((P[i].1*acc.length:Nat):Int) by rw [Int.natCast_mul]]; exact Db (by omega)) (Is.bnq (Aw _) (Is.bnq (x:=((P[i].1*acc.length+P[i].2:Nat):Int)) (by rw [show ((P[i].1*acc.length:Nat):Int)+((P[i].2:Nat):Int)=((P[i].1*acc.length+P[i].2:Nat):Int) by omega]; exact Db (by omega)) (Is.bnq (dk (by omega)) (Is.bnq (aM (by omega)) (Is.next ⟨rfl,by rw [IV]; exact k,fun j J=>?_⟩))))))));rw [IU,cP b,Iv,Iu];obtain ⟨X,W⟩:=nE (p:=P[i].1) c2
   by_cases e:P[i].1*acc.length+P[i].2=j
   ·rw [if_pos e,if_pos (by omega)];subst e;rw [X,W];simp
   ·rw [if_neg e,d j J];constructor
    ·exact .inl
    ·rintro (m|m)
     ·exact m
     ·exfalso;have U:j / acc.length=P[i].1:=by rw [←m]
      have T:j % acc.length=P[i].2:=by rw [←m]
      have:=Nat.div_add_mod j acc.length;rw [U,T,Nat.mul_comm] at this;exact e this
  ·rintro ⟨h,_⟩ ⟨rfl,k,d⟩;rw [Iq] at d;exact Is.df (by rw [pq]; omega) (Is.stop ⟨k,d⟩)
 ·rintro h ⟨k,d⟩;refine Is.bnq (x:=gm S P acc.length acc.length) (Is.eq ?_) (Is.pure rfl);rw [←wh];refine Is.upto (fun i (c:List ca×Int)=>c.2=(i:Int)∧c.1=((List.range i).filter fun i=>decide ((i / acc.length,i % acc.length)∈P)).map (fun i=>Ap S (i / acc.length) (i % acc.length))) (acc.length*acc.length) (by omega) ⟨rfl,rfl⟩ ?_ ?_
  ·rintro i ⟨t,_⟩ b ⟨rfl,e⟩;obtain rfl:t=_:=e;have N:=List.length_filter_le (fun i=>decide ((i / acc.length,i % acc.length)∈P)) (List.range i);rw [IS] at N;have A:i<h.length:=by omega
   have hk:=d i b;rw [Ii A] at hk;refine Is.dt (by omega) (Is.bnq (x:=((List.range (i+1)).filter fun i=>decide ((i / acc.length,i % acc.length)∈P)).map (fun i=>Ap S (i / acc.length) (i % acc.length))) (Is.eq (Is.bnq (aZ A) (Is.cnd (fun hb=>?_) (fun hb=>Is.pure ?_)))) (Is.bnq (aM (by omega)) (Is.next ⟨rfl,rfl⟩)))
   ·have g:=hk.1 (by rw [hb]);have H:=I _ _ g;have a2:=(B _ _ g).2;have a9:i / acc.length≤i:=Nat.div_le_self _ _;refine Is.bnq (wP (by omega) (DB (by omega))) (Is.bnq (nc (by omega)) (Is.bnq (x:=((i % acc.length:Nat):Int) - 1) (dO (by omega) (by omega)) (Is.bnq (wB H (by omega)) (Is.bnq (bN (by rw [IC,Il]; omega)) (Is.pure ?_)))));rw [IZ,List.filter_append,ID];simp [g,Ap]
   ·have g:¬ (i / acc.length,i % acc.length)∈P:=fun g=>by have:=hk.2 g; rw [hb] at this; cases this
    rw [IZ,List.filter_append,ID];simp [g]
  ·rintro ⟨t,_⟩ ⟨rfl,e⟩;obtain rfl:t=_:=e;exact Is.df (by omega) (Is.stop rfl)
mutual
theorem pD:∀(x:T_Regex) (b:Bs),bO x→(∀v∈b.S,W4 v)→∀v∈(bd x b).2.S,W4 v
 | ⟨k,s,l⟩,b,ok,h=>by
  simp only [bd];cases k == 3
  ·cases k == 4
   ·cases k == 5
    ·cases k == 6
     ·exact h
     ·match l,ok with
      | [],_=>exact h
      | y::l,ok=>exact pD y b (jB ok y (by simp)) h
    ·exact uM l _ b (jB ok) h
   ·exact uN l _ b (jB ok) h
  ·intro v a;rcases Iv.1 a with a|a
   ·exact h v a
   ·rw [Iu.1 a]; exact Ca (yR ok)
theorem uN:∀(l:List T_Regex) (x:Pt) (b:Bs),(∀y∈l,bO y)→(∀v∈b.S,W4 v)→∀v∈(fI l x b).2.S,W4 v
 | [],_,_,_,h=>by simpa [fI] using h
 | y::l,x,b,ok,h=>by
  simp only [fI];exact uN l _ _ (fun z c=>ok z (by simp [c])) (pD y b (ok y (by simp)) h)
theorem uM:∀(l:List T_Regex) (x:Pt) (b:Bs),(∀y∈l,bO y)→(∀v∈b.S,W4 v)→∀v∈(gn l x b).2.S,W4 v
 | [],_,_,_,h=>by simpa [gn] using h
 | y::l,x,b,ok,h=>by
  simp only [gn];exact uM l _ _ (fun z c=>ok z (by simp [c])) (pD y b (ok y (by simp)) h)
end
theorem uy:∀(l:List T_Regex) (i:Nat) (s:Bs×List Int),(∀y∈l,bO y)→(∀v∈s.1.S,W4 v)→∀v∈(dx i l s).1.S,W4 v
 | [],_,_,_,h=>h
 | y::l,i,s,ok,h=>uy l (i+1) (sa i y s) (fun z hz=>ok z (by simp [hz])) (pD y s.1 (ok y (by simp)) h)
theorem ly {l:List T_Regex} (ok:∀x∈l,bO x) (hp:bE l≤500):FitN (cx l):=by
 obtain ⟨b,hl⟩:=kL hp;refine b.fit (by omega) fun a ha=>?_
 obtain ⟨p,q,_,_,_,rfl⟩:=jf.1 ha;show W4 ((dx 0 l dc).1.S.getD (q - 1) (aT.zero 4));rw [Ih];cases h:(dx 0 l dc).1.S[q - 1]? with
 | none=>exact jP
 | some v=>exact uy l 0 dc ok (by simp [dc]) v (List.mem_of_getElem? h)
section
variable (l:List T_Regex)
def sJ (j:Nat):Bs×List Int:=dx 0 (l.take j) dc
def xJ (j:Nat):T_Regex:=l.getD j oJ
def pJ (j:Nat):Pt:=(bd (xJ l j) (sJ l j).1).1
def lo (j:Nat):Nat:=(sJ l j).1.S.length
theorem Cy {j:Nat} (h:j<l.length):xJ l j=l[j]:=by simp [xJ,Ih,h]
theorem mZ {j:Nat} (h:j<l.length):sJ l (j+1)=sa j (xJ l j) (sJ l j):=by
 unfold sJ;rw [cP h,nC,Cy l h];congr 1;rw [IJ]; omega
theorem vH (j:Nat):∃T Q,Ds (sJ l j).1 (bd (xJ l j) (sJ l j).1) T Q (L (xJ l j)):=ib _ _
noncomputable def tJ (j:Nat):List (aT 4):=(vH l j).choose
noncomputable def qJ (j:Nat):List (Nat×Nat):=(vH l j).choose_spec.choose
theorem mJ (j:Nat):Ds (sJ l j).1 (bd (xJ l j) (sJ l j).1) (tJ l j) (qJ l j) (L (xJ l j)):=(vH l j).choose_spec.choose_spec
theorem th {j:Nat} (h:j<l.length):lo l (j+1)=(bd (xJ l j) (sJ l j).1).2.S.length:=by
 unfold lo;rw [mZ l h];rfl
theorem ko {j:Nat} (h:j<l.length):lS (gu (qJ l j)) (pJ l j) (lo l j) (lo l (j+1)):=by
 rw [th l h];exact (mJ l j).rng
theorem gb {i j:Nat} (hij:i≤j) (hj:j≤l.length):lo l i≤lo l j:=by
 induction hij with
 | refl=>exact Nat.le_refl _
 | @step j hij ih=>exact Nat.le_trans (ih (by omega)) (ko l (j:=j) (by omega)).le
theorem Ce {i j:Nat} (hij:i≤j) (hj:j≤l.length):∃V,(sJ l j).1.S=(sJ l i).1.S++V:=by
 induction hij with
 | refl=>exact ⟨[],by simp⟩
 | @step j hij ih=>
  obtain ⟨V,hV⟩:=ih (by omega);refine ⟨V++tJ l j,?_⟩;rw [mZ l (by omega)];show (bd (xJ l j) (sJ l j).1).2.S=_;rw [(mJ l j).S,hV,Iw]
theorem yI {j:Nat} (h:j<l.length):oN (rN (sJ l l.length).1.S) (gu (qJ l j)) (pJ l j) (L (xJ l j)):=by
 refine (mJ l j).rep _ ?_;obtain ⟨V,hV⟩:=Ce l (i:=j+1) (j:=l.length) (by omega) (Nat.le_refl _);refine ⟨V,?_⟩;rw [hV,mZ l h];rfl
theorem jL:∀k,k≤l.length→∀p r,(p,r)∈(sJ l k).1.P↔∃j,j<k∧(gu (qJ l j) p r∨(p=0∧r∈(pJ l j).fi))
 | 0,_,p,r=>by simp [sJ,dx,dc]
 | k+1,hk,p,r=>by
  rw [mZ l (by omega)];show (p,r)∈(bd (xJ l k) (sJ l k).1).2.P++dv [0] (bd (xJ l k) (sJ l k).1).1.fi↔_;rw [Iv,eW,(mJ l k).P,Iv,jL k (by omega),Iu];constructor
  ·rintro ((⟨j,a,h⟩|h)|h)
   ·exact ⟨j,by omega,h⟩
   ·exact ⟨k,by omega,.inl h⟩
   ·exact ⟨k,by omega,.inr h⟩
  ·rintro ⟨j,a,h⟩
   by_cases e:j=k
   ·subst e;rcases h with h|h
    ·exact .inl (.inr h)
    ·exact .inr h
   ·exact .inl (.inl ⟨j,by omega,h⟩)
theorem yO {M:Nat→Nat→Prop} {j:Nat} (c:j<l.length) {p q:Nat} (hp:lo l j<p∧p≤lo l (j+1)) {w:List Nat}:lT M (gu (sJ l l.length).1.P) p w q↔lT M (gu (qJ l j)) p w q:=by
 have f:=ko l c;refine gE (R:=fun p=>lo l j<p∧p≤lo l (j+1)) (fun p r hp=>?_) (fun p r hp h=>?_) w hp
 ·show (p,r)∈(sJ l l.length).1.P↔_;rw [jL l l.length (Nat.le_refl _)];constructor
  ·rintro ⟨i,b,h|h⟩
   ·have d:=((ko l b).e _ _ h).1
    by_cases e:i=j
    ·subst e; exact h
    ·exfalso;rcases Nat.lt_or_gt_of_ne e with a|a
     ·have:=gb l (i:=i+1) (j:=j) a (by omega); omega
     ·have:=gb l (i:=j+1) (j:=i) a (by omega); omega
   ·omega
  ·exact fun h=>⟨j,c,.inl h⟩
 ·have h:(p,r)∈(sJ l l.length).1.P:=h;rw [jL l l.length (Nat.le_refl _)] at h;obtain ⟨i,b,h|h⟩:=h
  ·have d:=(ko l b).e _ _ h
   by_cases e:i=j
   ·subst e; exact d.2
   ·exfalso;rcases Nat.lt_or_gt_of_ne e with a|a
    ·have:=gb l (i:=i+1) (j:=j) a (by omega); omega
    ·have:=gb l (i:=j+1) (j:=i) a (by omega); omega
  ·omega
end
theorem sN {v:Int} {p:Nat}:∀(la:List Nat) (a:List Int),p<a.length→p∈la→(lJ la v a)[p]?=some v
 | [],_,_,h=>by simp at h
 | q::la,a,hp,h=>by
  show (lJ la v (a.set q v))[p]?=some v
  by_cases b:p∈la
  ·exact sN la _ (by rw [IV]; exact hp) b
  ·obtain rfl:p=q:=by
    rcases IN.1 h with h|h
    ·exact h
    ·exact absurd h b
   have:∀(la:List Nat) (a:List Int),p∉la→(lJ la v a)[p]?=a[p]?:=by
    intro la;induction la with
    | nil=>intro a _; rfl
    | cons r la ih=>
     intro a hn;show (lJ la v (a.set r v))[p]?=_;rw [ih _ (fun h=>hn (by simp [h])),List.getElem?_set_ne (fun e=>hn (by simp [e]))]
   rw [this la _ b,List.getElem?_set_self hp]
theorem mY {v:Int} {p:Nat}:∀(la:List Nat) (a:List Int),p∉la→(lJ la v a)[p]?=a[p]?
 | [],_,_=>rfl
 | r::la,a,hn=>by
  show (lJ la v (a.set r v))[p]?=_;rw [mY la _ (fun h=>hn (by simp [h])),List.getElem?_set_ne (fun e=>hn (by simp [e]))]
theorem tb {a:List Int} {n p:Nat} (h:p<a.length):(tG a n)[p]?=a[p]?:=by unfold tG; rw [Iy h]
theorem AW {a:List Int} {n p:Nat} (h:a.length≤p) {v:Int} (hv:(tG a n)[p]?=some v):v=-1:=by
 unfold tG at hv;rw [IR h,List.getElem?_replicate] at hv;split at hv <;> cases hv
 rfl
theorem uB {n:Bool} {v:Int} {a:List Int} {p:Nat} (hp:0<p):(lQ n v a)[p]?=a[p]?:=by
 unfold lQ;cases n && decide (a.getD 0 0<0)
 ·rfl
 ·rw [cond_true,List.getElem?_set_ne (by omega)]
structure Hd (l:List T_Regex) (k:Nat) (a:List Int):Prop where
  inn:∀j,j<k→∀p∈(pJ l j).la,a[p]?=some (j:Int)
  out:∀p v,0<p→a[p]?=some v→0≤v→∃j,j<k∧v=(j:Int)∧p∈(pJ l j).la
  zero:(a[0]?=some (-1)∧∀j,j<k→(pJ l j).nl=false)∨∃j,j<k∧a[0]?=some (j:Int)∧(pJ l j).nl=true∧∀i,i<j→(pJ l i).nl=false
theorem Cv (l:List T_Regex):∀k,k≤l.length→Hd l k (sJ l k).2
 | 0,_=>by
  refine ⟨fun j h=>by omega,fun p v hp h=>?_,.inl ⟨rfl,fun j h=>by omega⟩⟩;have h:([-1]:List Int)[p]?=some v:=h;rw [List.getElem?_singleton,if_neg (by omega)] at h;cases h
 | k+1,hk=>by
  have ih:=Cv l k (by omega);have m:k<l.length:=by omega
  have u:DA (sJ l k):=gP _ _ _ mf;have q:=ko l m;have hlen:(sJ l k).2.length=lo l k+1:=u.len;rw [mZ l m];have r:(tG (sJ l k).2 (bd (xJ l k) (sJ l k).1).2.S.length).length=lo l (k+1)+1:=by
   rw [th l m,px];rw [hlen,←th l m];have:=q.le;omega
  have g:∀p∈(pJ l k).la,lo l k<p∧p≤lo l (k+1):=q.la;have s:(0:Nat)∉(pJ l k).la:=fun h=>by have:=g 0 h; omega
  have b:(lJ (pJ l k).la (k:Int) (tG (sJ l k).2 (bd (xJ l k) (sJ l k).1).2.S.length))[0]?=(sJ l k).2[0]?:=by
   rw [mY _ _ s,tb (by omega)]
  show Hd l (k+1) (lQ (pJ l k).nl (k:Int) (lJ (pJ l k).la (k:Int) (tG (sJ l k).2 (bd (xJ l k) (sJ l k).1).2.S.length)));refine ⟨fun j o p hp=>?_,fun p v hp a h=>?_,?_⟩
  ·have x:=(ko l (j:=j) (by omega)).la p hp;rw [uB (by omega)]
   by_cases e:j=k
   ·subst e;exact sN _ _ (by rw [r]; have:=g p hp; omega) hp
   ·have d:=gb l (i:=j+1) (j:=k) (by omega) (by omega);rw [mY _ _ (fun h=>by have:=g p h; omega),tb (by omega)];exact ih.inn j (by omega) p hp
  ·rw [uB hp] at a
   by_cases d:p∈(pJ l k).la
   ·by_cases c:p<(tG (sJ l k).2 (bd (xJ l k) (sJ l k).1).2.S.length).length
    ·rw [sN _ _ c d] at a;exact ⟨k,by omega,(Option.some.inj a).symm,d⟩
    ·have:=g p d; omega
   ·rw [mY _ _ d] at a;rcases Nat.lt_or_ge p (sJ l k).2.length with c|c
    ·rw [tb c] at a;obtain ⟨j,o,e,t⟩:=ih.out p v hp a h;exact ⟨j,by omega,e,t⟩
    ·have:=AW c a; omega
  ·generalize hA:lJ (pJ l k).la (k:Int) (tG (sJ l k).2 (bd (xJ l k) (sJ l k).1).2.S.length)=A at b;have w:0<A.length:=by rw [←hA,iR,r]; omega
   rcases ih.zero with ⟨n,f⟩|⟨j,o,n,f,z3⟩
   ·rw [n] at b;have hd:A.getD 0 0=-1:=by rw [Ih,b]; rfl
    cases hn:(pJ l k).nl
    ·left;refine ⟨by unfold lQ; exact b,fun j o=>?_⟩
     by_cases e:j=k
     ·subst e; exact hn
     ·exact f j (by omega)
    ·right;refine ⟨k,by omega,?_,hn,f⟩;unfold lQ;rw [hd];show (A.set 0 (k:Int))[0]?=_;rw [List.getElem?_set_self w]
   ·right;rw [n] at b;have hd:A.getD 0 0=(j:Int):=by rw [Ih,b]; rfl
    refine ⟨j,by omega,?_,f,z3⟩;unfold lQ;rw [hd];have:decide ((j:Int)<0)=false:=decide_eq_false (by omega);rw [this,Bool.and_false];exact b
theorem gf {l:List T_Regex} (hn:FitN (cx l)) {T:List Int} {s:Int}:s∈clo (cx l) T↔s∈T∧0≤s∧s<((dx 0 l dc).2.length:Int):=by
 rw [lz hn];constructor
 ·intro h;cases h with
  | base h1 h2 h3=>exact ⟨h1,h2,h3⟩
  | arc ha he _=>
   obtain ⟨p,q,_,_,_,rfl⟩:=jf.1 ha;cases he
 ·rintro ⟨h1,h2,h3⟩;exact .base h1 h2 h3
open Classical in
theorem po {l:List T_Regex} (hn:FitN (cx l)) {T:List Int} {b:Nat} {r:Nat} (m:∀s∈T,0≤s∧s<((dx 0 l dc).2.length:Int)) :
 (r:Int)∈fp (cx l) T b↔∃p:Nat,(p:Int)∈T∧(p,r)∈(dx 0 l dc).1.P∧rN (dx 0 l dc).1.S r b:=by
 have c:=gP l 0 dc mf;have hal:=c.len;unfold fp;rw [gf hn];unfold An;constructor
 ·rintro ⟨n,_,_⟩;obtain ⟨a,ha,e⟩:=IP.1 n;obtain ⟨k,d⟩:=IX.1 ha;obtain ⟨p,q,_,_,hR,rfl⟩:=jf.1 k;obtain rfl:q=r:=by have e:((q:Nat):Int)=(r:Int):=e; omega
  simp only [Ap,Bool.not_false,Bool.true_and,Bool.and_eq_true] at d;have j:=c.cl p q hR;have hp:=c.pos p q hR;refine ⟨p,((gf hn).1 (of_decide_eq_true d.1)).1,hR,_,Ii (show q - 1<(dx 0 l dc).1.S.length by omega),?_⟩;have f:=d.2;rw [Ih,Ii (show q - 1<(dx 0 l dc).1.S.length by omega)] at f;exact f
 ·rintro ⟨p,hp,hR,v,g,i⟩;have j:=c.cl p r hR;have h:=m _ hp;refine ⟨IP.2 ⟨Ap (dx 0 l dc).1.S p r,IX.2 ⟨jf.2 ⟨p,r,by omega,by omega,hR,rfl⟩,?_⟩,rfl⟩,by omega,by omega⟩;simp only [Ap,Bool.not_false,Bool.true_and,Bool.and_eq_true];refine ⟨decide_eq_true ((gf hn).2 ⟨hp,h⟩),?_⟩;rw [Ih,g];exact i
theorem rY {l:List T_Regex} (hn:FitN (cx l)):∀(w:List Nat) (T:List Int) (q:Nat),(∀s∈T,0≤s∧s<((dx 0 l dc).2.length:Int))→
 ((q:Int)∈w.foldl (fp (cx l)) T↔∃p:Nat,(p:Int)∈T∧lT (rN (dx 0 l dc).1.S) (gu (dx 0 l dc).1.P) p w q)
 | [],T,q,_=>by
  simp only [List.foldl_nil,lT];exact ⟨fun h=>⟨q,h,rfl⟩,fun ⟨p,h,e⟩=>e ▸ h⟩
 | b::w,T,q,hT=>by
  rw [List.foldl_cons,rY hn w (fp (cx l) T b) q (fun s hs=>((gf hn).1 hs).2)];constructor
  ·rintro ⟨r,f,h⟩;obtain ⟨p,d,c,a⟩:=(po hn hT).1 f;exact ⟨p,d,r,c,a,h⟩
  ·rintro ⟨p,d,r,c,a,h⟩;exact ⟨r,(po hn hT).2 ⟨p,d,c,a⟩,h⟩
theorem qT (acc:List Int):∀(l:List Int) (o:Int),-1≤o→((l.foldl (gk acc) o=o∧∀s∈l,0≤acc.getD s.toNat 0→0≤o∧o≤acc.getD s.toNat 0)∨(0≤l.foldl (gk acc) o∧(∃s∈l,acc.getD s.toNat 0=l.foldl (gk acc) o)∧(0≤o→l.foldl (gk acc) o≤o)∧∀s∈l,0≤acc.getD s.toNat 0→l.foldl (gk acc) o≤acc.getD s.toNat 0))
 | [],o,_=>.inl ⟨rfl,by simp⟩
 | x::l,o,ho=>by
  rw [List.foldl_cons];have hb:(gk acc o x=o∧(0≤acc.getD x.toNat 0→0≤o∧o≤acc.getD x.toNat 0))∨(gk acc o x=acc.getD x.toNat 0∧0≤acc.getD x.toNat 0∧(0≤o→acc.getD x.toNat 0≤o)):=by
   unfold gk
   by_cases a:0≤acc.getD x.toNat 0
   ·by_cases d:o<0
    ·right;rw [decide_eq_true a,decide_eq_true d];exact ⟨rfl,a,fun h=>by omega⟩
    ·by_cases i:acc.getD x.toNat 0<o
     ·right;rw [decide_eq_true a,decide_eq_true i,Bool.or_true];exact ⟨rfl,a,fun h=>by omega⟩
     ·left;rw [decide_eq_false d,decide_eq_false i,Bool.or_false,Bool.and_false];exact ⟨rfl,fun h=>by omega⟩
   ·left;rw [decide_eq_false a,Bool.false_and];exact ⟨rfl,fun h=>absurd h a⟩
  rcases hb with ⟨e,a⟩|⟨e,a,d⟩
  ·rw [e];rcases qT acc l o ho with ⟨c,b⟩|⟨c,⟨s,hs,b⟩,f,g⟩
   ·refine .inl ⟨c,fun s hs h=>?_⟩;rcases IN.1 hs with rfl|hs
    ·exact a h
    ·exact b s hs h
   ·refine .inr ⟨c,⟨s,by simp [hs],b⟩,f,fun s hs h=>?_⟩;rcases IN.1 hs with rfl|hs
    ·have:=a h; have:=f this.1; omega
    ·exact g s hs h
  ·rw [e];rcases qT acc l (acc.getD x.toNat 0) (by omega) with ⟨c,b⟩|⟨c,⟨s,hs,b⟩,f,g⟩
   ·right;rw [c];refine ⟨a,⟨x,by simp,rfl⟩,d,fun s hs h=>?_⟩;rcases IN.1 hs with rfl|hs
    ·exact Int.le_refl _
    ·exact (b s hs h).2
   ·right;refine ⟨c,⟨s,by simp [hs],b⟩,fun h=>?_,fun s hs h=>?_⟩
    ·have:=f a; have:=d h; omega
    ·rcases IN.1 hs with rfl|hs
     ·exact f a
     ·exact g s hs h
def rh (l:List T_Regex) (w:List Nat) (r:Int):Prop:=
 (r=-1∧∀j,j<l.length→¬ L (xJ l j) w)∨∃j,j<l.length∧r=(j:Int)∧L (xJ l j) w∧∀i,i<j→¬ L (xJ l i) w
theorem vL {l:List T_Regex} {w:List Nat} {r r':Int} (h:rh l w r) (h':rh l w r'):r=r':=by
 rcases h with ⟨rfl,h⟩|⟨j,hj,rfl,h1,h2⟩ <;> rcases h' with ⟨rfl,h'⟩|⟨j',hj',rfl,h1',h2'⟩
 ·rfl
 ·exact absurd h1' (h j' hj')
 ·exact absurd h1 (h' j hj)
 ·rcases Nat.lt_trichotomy j j' with h3|rfl|h3
  ·exact absurd h1 (h2' j h3)
  ·rfl
  ·exact absurd h1' (h2 j' h3)
theorem nU (l:List T_Regex):sJ l l.length=dx 0 l dc:=by unfold sJ; rw [Iq]
theorem nK {l:List T_Regex} {b:Nat} {w:List Nat} {j:Nat} (d:j<l.length) :
 L (xJ l j) (b::w)↔∃q:Nat,q∈(pJ l j).la∧lT (rN (dx 0 l dc).1.S) (gu (dx 0 l dc).1.P) 0 (b::w) q:=by
 have n:=ko l d;have m:=yI l d;rw [nU] at m;have t:∀p r,gu (dx 0 l dc).1.P p r↔∃j,j<l.length∧(gu (qJ l j) p r∨(p=0∧r∈(pJ l j).fi)):=by
  intro p r;have:=jL l l.length (Nat.le_refl _) p r;rw [nU] at this;exact this
 have x:∀ {p q:Nat},(lo l j<p∧p≤lo l (j+1))→(lT (rN (dx 0 l dc).1.S) (gu (dx 0 l dc).1.P) p w q↔lT (rN (dx 0 l dc).1.S) (gu (qJ l j)) p w q):=by
  intro p q hp;have:=yO l (M:=rN (dx 0 l dc).1.S) d hp (w:=w) (q:=q);rw [nU] at this;exact this
 rw [m.ac];constructor
 ·rintro ⟨p,hp,f,q,hq,h⟩;exact ⟨q,hq,p,(t 0 p).2 ⟨j,d,.inr ⟨rfl,hp⟩⟩,f,(x (n.fi p hp)).2 h⟩
 ·rintro ⟨q,hq,p,a,f,h⟩;obtain ⟨i,g,a⟩:=(t 0 p).1 a;have s:p∈(pJ l i).fi:=by
   rcases a with a|⟨_,a⟩
   ·have:=((ko l g).e _ _ a).1; omega
   ·exact a
  have k:=ko l g;have o:=k.fi p s;have v:=yO l (M:=rN (dx 0 l dc).1.S) g o (w:=w) (q:=q);rw [nU] at v;have u:=v.1 h;have y:lo l i<q∧q≤lo l (i+1):=kE (R:=fun p=>lo l i<p∧p≤lo l (i+1)) (fun p r _ h=>(k.e _ _ h).2) w o u;have z:=n.la q hq;obtain rfl:i=j:=by
   rcases Nat.lt_trichotomy i j with c|c|c
   ·have:=gb l (i:=i+1) (j:=j) c (by omega); omega
   ·exact c
   ·have:=gb l (i:=j+1) (j:=i) c (by omega); omega
  exact ⟨p,s,f,q,hq,u⟩
theorem xA {l:List T_Regex} (hn:FitN (cx l)) (s:Str):rh l (cW s) (CB (cx l) s):=by
 have hacc:=Cv l l.length (Nat.le_refl _);rw [nU] at hacc;have k:=gP l 0 dc mf;have hal:=k.len;have h0:∀x∈([0]:List Int),0≤x∧x<((dx 0 l dc).2.length:Int):=by intro x hx; rw [Iu.1 hx]; omega
 have H:∀x,x∈clo (cx l) [0]↔x=0:=by
  intro x;rw [gf hn,Iu];exact ⟨fun h=>h.1,fun h=>⟨h,h0 x (by simp [h])⟩⟩
 have W:∀x∈clo (cx l) [0],0≤x∧x<((dx 0 l dc).2.length:Int):=fun x hx=>((gf hn).1 hx).2
 have J:=rY hn (cW s) (clo (cx l) [0]);have t:∀q:Nat,(q:Int)∈tU (cx l) [0] s↔lT (rN (dx 0 l dc).1.S) (gu (dx 0 l dc).1.P) 0 (cW s) q:=by
  intro q;show (q:Int)∈(cW s).foldl (fp (cx l)) (clo (cx l) [0])↔_;rw [J q W];constructor
  ·rintro ⟨p,hp,h⟩;obtain rfl:p=0:=by have:=(H _).1 hp; omega
   exact h
  ·exact fun h=>⟨0,(H _).2 rfl,h⟩
 have U:∀x∈tU (cx l) [0] s,∃q:Nat,x=(q:Int):=by
  obtain ⟨T,v⟩:=AC (n:=cx l) (s.map UInt8.toNat) _ ⟨[0],rfl⟩;have v:tU (cx l) [0] s=clo (cx l) T:=v;intro x hx;rw [v] at hx;obtain ⟨q,rfl⟩:=II ((gf hn).1 hx).2.1;exact ⟨q,rfl⟩
 -- numbers of the places that are reached
 have key:∀j,(∃q:Nat,(q:Int)∈tU (cx l) [0] s∧(dx 0 l dc).2.getD q 0=(j:Nat))→j<l.length∧L (xJ l j) (cW s):=by
  rintro j ⟨q,hq,a⟩;have hp:=(t q).1 hq;cases hw:cW s with
  | nil=>
   rw [hw] at hp;have hp:0=q:=hp;subst hp;rcases hacc.zero with ⟨g,_⟩|⟨i,f,g,m,_⟩
   ·rw [Ih,g] at a;have a:(-1:Int)=(j:Int):=a;omega
   ·rw [Ih,g] at a;have a:(i:Int)=(j:Int):=a;obtain rfl:i=j:=by omega
    have K:=yI l f;exact ⟨f,K.nl.1 m⟩
  | cons b w=>
   rw [hw] at hp;obtain ⟨r,z,Y,y⟩:=hp;have N:0<q:=kE (M:=rN (dx 0 l dc).1.S) (E:=gu (dx 0 l dc).1.P) (R:=fun p=>0<p) (fun p r _ h=>k.pos p r h) w (k.pos 0 r z) y;have F:q<(dx 0 l dc).2.length:=by
    have:=kE (M:=rN (dx 0 l dc).1.S) (E:=gu (dx 0 l dc).1.P) (R:=fun p=>p<(dx 0 l dc).2.length) (fun p r _ h=>by have:=k.cl p r h; omega) w (by have:=k.cl 0 r z; omega) y;exact this
   have V:(dx 0 l dc).2[q]?=some (j:Int):=by
    rw [Ih,Ii F] at a;rw [Ii F];exact congrArg some a
   obtain ⟨i,f,e,u⟩:=hacc.out q _ N V (by omega);obtain rfl:i=j:=by omega
   exact ⟨f,(nK f).2 ⟨q,u,r,z,Y,y⟩⟩
 have B:∀j,j<l.length→L (xJ l j) (cW s)→∃i,i≤j∧∃q:Nat,(q:Int)∈tU (cx l) [0] s∧(dx 0 l dc).2.getD q 0=(i:Nat):=by
  intro j c d;cases hw:cW s with
  | nil=>
   rw [hw] at d;have D:=(yI l c).nl.2 d;rcases hacc.zero with ⟨_,m⟩|⟨i,f,g,m,z3⟩
   ·have:=m j c; rw [D] at this; cases this
   ·refine ⟨i,?_,0,(t 0).2 (by rw [hw]; rfl),by rw [Ih,g]; rfl⟩;rcases Nat.lt_or_ge j i with h|h
    ·have:=z3 j h; rw [D] at this; cases this
    ·exact h
  | cons b w=>
   rw [hw] at d;obtain ⟨q,u,hp⟩:=(nK c).1 d;refine ⟨j,Nat.le_refl _,q,(t q).2 (by rw [hw]; exact hp),?_⟩;rw [Ih,hacc.inn j c q u];rfl
 show rh l (cW s) ((tU (cx l) [0] s).foldl (gk (dx 0 l dc).2) (-1));rcases qT (dx 0 l dc).2 (tU (cx l) [0] s) (-1) (by omega) with ⟨A,o⟩|⟨A,⟨x,hx,o⟩,_,I⟩
 ·rw [A];refine .inl ⟨rfl,fun j c d=>?_⟩;obtain ⟨i,_,q,hq,e⟩:=B j c d;have:=o _ hq (by rw [IH,e]; omega);omega
 ·obtain ⟨q,rfl⟩:=U x hx;obtain ⟨j,G⟩:=II A;rw [IH] at o;obtain ⟨c,d⟩:=key j ⟨q,hx,by rw [o]; exact G⟩;rw [G] at I ⊢;refine .inr ⟨j,c,rfl,d,fun i f X=>?_⟩;obtain ⟨i',a3,q',Q,e⟩:=B i (by omega) X;have:=I _ Q (by rw [IH,e]; omega);rw [IH,e] at this;omega
def dQ {α β:Type} (A:Option α) (B:Option β) (Q:α→β→Prop):Prop:=∃a b,A=some a∧B=some b∧Q a b
section
variable {α β α' β' σ τ:Type} {P:α→β→Prop} {Q:α'→β'→Prop}
theorem dQ.pure {a:α'} {b:β'} (h:Q a b):dQ (some a) (some b) Q:=⟨a,b,rfl,rfl,h⟩
theorem dQ.bb {A:Option α} {B:Option β} {f:α→Option α'} {g:β→Option β'} (h:dQ A B P) (k:∀a b,P a b→dQ (f a) (g b) Q):dQ (A.bind f) (B.bind g) Q:=by
 obtain ⟨a,b,rfl,rfl,hp⟩:=h;exact k a b hp
theorem dQ.l {A:Option α} {B:Option β'} {f:α→Option α'} {a:α} (h:A=some a) (k:dQ (f a) B Q):dQ (A.bind f) B Q:=by subst h; exact k
theorem dQ.r {A:Option α'} {B:Option β} {g:β→Option β'} {b:β} (h:B=some b) (k:dQ A (g b) Q):dQ A (B.bind g) Q:=by subst h; exact k
theorem dQ.sl {ρ:Type} {R:ρ→β'→Prop} {A:Option (cO σ ρ)} {B:Option β'} {f:σ→Option ρ} {a:σ} (h:A=some (.next a)) (k:dQ (f a) B R):dQ (bo A f) B R:=by subst h; exact k
theorem dQ.er {A:Option α'} {B B':Option β'} (h:B=B') (k:dQ A B' Q):dQ A B Q:=h ▸ k
theorem dQ.sb {ρ:Type} {P:cO σ ρ→β→Prop} {R:ρ→β'→Prop} {A:Option (cO σ ρ)} {B:Option β} {f:σ→Option ρ} {g:β→Option β'} (h:dQ A B P) (kn:∀a b,P (.next a) b→dQ (f a) (g b) R)
 (ks:∀x b,P (.stop x) b→dQ (some x) (g b) R):dQ (bo A f) (B.bind g) R:=by
 obtain ⟨a,b,rfl,rfl,hp⟩:=h;cases a with
 | next a=>exact kn a b hp
 | stop x=>exact ks x b hp
theorem dQ.on_ret {γ:Type} {x:γ} {k:γ→Option α'} {pp:Int→Option α'} {B:Option β'} (h:dQ (k x) B Q):dQ ((Rt.ret x).on k pp) B Q:=h
theorem dQ.on_pan {γ:Type} {x:Int} {k:γ→Option α'} {pp:Int→Option α'} {B:Option β'} (h:dQ (pp x) B Q):dQ ((Rt.pan x:Rt γ).on k pp) B Q:=h
theorem hY {α:Type} {b:Bool} {x y r:α} (h:b=true) (k:x=r):(bif b then x else y)=r:=by subst h; exact k
theorem ed {α:Type} {b:Bool} {x y r:α} (h:b=false) (k:y=r):(bif b then x else y)=r:=by subst h; exact k
theorem dQ.loop {ρ ρ':Type} {Q:ρ→ρ'→Prop} {bA:σ→Option (cO σ ρ)} {bB:τ→Option (cO τ ρ')} (R:σ→τ→Nat→Prop)
    (h:∀m a b,R a b m→(∃i c m',bA a=some (.next i)∧bB b=some (.next c)∧m'<m∧R i c m')∨
      (∃x,bA a=some (.stop x)∧((∃y,bB b=some (.stop y)∧Q x y)∨∃c y,bB b=some (.next c)∧bB c=some (.stop y)∧Q x y))) :
    ∀m e d a b,m<e→m+1<d→R a b m→dQ (be bA e a) (be bB d b) Q:=by
  intro m;induction m using Nat.strongRecOn with
  | _ m ih=>
    intro e d a b o hB hR;obtain ⟨e,rfl⟩:∃k,e=k+1:=⟨e - 1,by omega⟩;obtain ⟨d,rfl⟩:∃k,d=k+2:=⟨d - 2,by omega⟩;rcases h m a b hR with ⟨i,c,m',g,f,j,l⟩|⟨x,g,⟨y,f,hq⟩|⟨c,y,f,n,hq⟩⟩
    · have:=ih m' j e (d+1) i c (by omega) (by omega) l
      simp only [be,g,f] at this ⊢;exact this
    · exact ⟨x,y,by simp only [be,g],by simp only [be,f],hq⟩
    · exact ⟨x,y,by simp only [be,g],by simp only [be,f,n],hq⟩
end
def Ft (br:Bool):Str:=bif br then [93,92,45] else [40,41,91,93,124,42,43,63,46,92]
def pl (br:Bool) (c:Nat):Bool:=decide (32≤c∧c≤126) && !((Ft br).map UInt8.toNat).contains c
theorem AV:∀br,∀c:Nat,c<256→(bif decide ((c:Int)<32) then some true else bif decide (126<(c:Int)) then some true else (M.i6 (Ft br) (c:Int)).bind fun r=>some (decide (0≤r)))=some (!pl br c):=by decide +kernel
theorem CP:∀br,∀c:Nat,c<256→M.j9 (c:Int) br=some (pl br c):=by decide +kernel
theorem CQ:∀br,M.j9 (-1) br=some false:=by decide +kernel
def es (c:Nat):Bool:=decide (32≤c∧c≤126) && !(decide (48≤c∧c≤57) || decide (97≤c∧c≤122) || decide (65≤c∧c≤90))
theorem Br:∀c:Nat,c<256→(bif decide ((c:Int)<32) then some true else bif decide (126<(c:Int)) then some true else (M.g1 (c:Int)).bind fun r=>some r)=some (!es c):=by decide +kernel
theorem zw:∀c:Nat,c<256→(bif decide (32≤(c:Int)) then bif decide ((c:Int)≤126) then (M.i7 (c:Int)).bind fun r=>some (!r) else some false else some false)=some (es c):=by decide +kernel
theorem CW:(bif decide ((32:Int)≤-1) then bif decide ((-1:Int)≤126) then (M.i7 (-1)).bind fun r=>some (!r) else some false else some false)=some false:=by decide +kernel
section
variable {s:Str} (hs:s.length≤1000000)
theorem gw {p:Nat} {b:Bool} (h:p<s.length):M.a0 ⟨s,p,b⟩=some ((s[p]).toNat:Int):=by
 unfold M.a0;simp only [eQ (show ¬ (s.length:Int)≤(p:Int) by omega),cond_false,dY h,Ik];rw [fC (by omega) (by have:=(s[p]).toNat_lt; omega)]
theorem kM {b:Bool}:M.a0 ⟨s,(s.length:Nat),b⟩=some (-1):=by
 unfold M.a0;simp only [eg (show (s.length:Int)≤(s.length:Int) by omega),cond_true]
theorem wR {p:Nat} (h:p<s.length):M.a3 ⟨s,p⟩=some ((s[p]).toNat:Int):=by
 unfold M.a3;simp only [eg (show (p:Int)<(s.length:Int) by omega),cond_true,dY h,Ik]
theorem yN:M.a3 ⟨s,(s.length:Nat)⟩=some 0:=by
 unfold M.a3;simp only [eQ (show ¬ (s.length:Int)<(s.length:Int) by omega),cond_false]
def GO (s:Str) (p:Nat) (a:Rt (Int×aD)) (b:Int×aG):Prop:=
 (∃c q:Nat,p+1≤q∧q≤s.length∧c<256∧a=.ret ((c:Int),⟨s,q⟩)∧b=((c:Int),⟨s,q,false⟩))∨(∃q:Nat,q≤s.length∧a=.pan q∧b=(0,⟨s,q,true⟩))
include hs
theorem vY {p:Nat} (hp:p≤s.length):∃a,M.e2 ⟨s,p⟩=some a∧((∃c:Nat,p<s.length∧c<256∧a=.ret ((c:Int),⟨s,(p+1:Nat)⟩)∧
 (∃h:p<s.length,((s[p]).toNat=110∧c=10)∨((s[p]).toNat≠110∧(s[p]).toNat=116∧c=9)∨((s[p]).toNat≠110∧(s[p]).toNat≠116∧es (s[p]).toNat=true∧c=(s[p]).toNat)))∨
 (a=.pan p∧(p=s.length∨∃h:p<s.length,(s[p]).toNat≠110∧(s[p]).toNat≠116∧es (s[p]).toNat=false))):=by
 unfold M.e2;rcases Nat.lt_or_eq_of_le hp with h|h
 ·have e:(s[p]).toNat<256:=(s[p]).toNat_lt;have g:(((p:Nat):Int) == (s.length:Int))=false:=cv (by omega);simp only [g,cond_false,bo,dY h,Ik]
  by_cases b:(s[p]).toNat=110
  ·simp only [qV (show ((s[p]).toNat:Int)=110 by omega),cond_true,aM (show p<9223372036854775807 by omega),Ik];exact ⟨_,rfl,.inl ⟨10,h,by omega,rfl,h,.inl ⟨b,rfl⟩⟩⟩
  ·by_cases d:(s[p]).toNat=116
   ·simp only [cv (show ((s[p]).toNat:Int)≠110 by omega),qV (show ((s[p]).toNat:Int)=116 by omega),cond_false,cond_true,aM (show p<9223372036854775807 by omega),Ik];exact ⟨_,rfl,.inl ⟨9,h,by omega,rfl,h,.inr (.inl ⟨b,d,rfl⟩)⟩⟩
   ·simp only [cv (show ((s[p]).toNat:Int)≠110 by omega),cv (show ((s[p]).toNat:Int)≠116 by omega),cond_false,Br _ e,Ik];cases f:es (s[p]).toNat
    ·simp only [Bool.not_false,cond_true,M.a4,Ik,Rt.on];exact ⟨_,rfl,.inr ⟨rfl,.inr ⟨h,b,d,f⟩⟩⟩
    ·simp only [Bool.not_true,cond_false,aM (show p<9223372036854775807 by omega),Ik];exact ⟨_,rfl,.inl ⟨_,h,e,rfl,h,.inr (.inr ⟨b,d,f,rfl⟩)⟩⟩
 ·subst h;simp only [beq_self_eq_true,cond_true,M.a4,Ik,Rt.on,bo];exact ⟨_,rfl,.inr ⟨rfl,.inl trivial⟩⟩
theorem qS {p:Nat} (hp:p≤s.length) (b:Bool):dQ (M.c1 ⟨s,p⟩ (Ft b)) (M.b5 ⟨s,p,false⟩ b) (GO s p):=by
 unfold M.c1 M.b5;rcases Nat.lt_or_eq_of_le hp with h|h
 ·have e:(s[p]).toNat<256:=(s[p]).toNat_lt;have m:(((p:Nat):Int) == (s.length:Int))=false:=cv (by omega);simp only [m,cond_false,bo,dY h,Ik,gw h]
  by_cases r:(s[p]).toNat=92
  ·simp only [qV (show ((s[p]).toNat:Int)=92 by omega),cond_true,aM (show p<9223372036854775807 by omega),Ik];obtain ⟨a,ha,l⟩:=vY hs (p:=p+1) h;simp only [ha,Ik];rcases l with ⟨c,n,o,rfl,hh,k⟩|⟨rfl,hh⟩
   ·have d:(s[p+1]).toNat<256:=(s[p+1]).toNat_lt;have i:cd .i64 (((p+1:Nat):Int)+1)=some ((p+1+1:Nat):Int):=aM (by omega);simp only [Rt.on,gw hh,Ik];rcases k with ⟨g,rfl⟩|⟨g,j,rfl⟩|⟨g,j,f,rfl⟩
    ·simp only [qV (show ((s[p+1]).toNat:Int)=110 by omega),cond_true,i,Ik];exact .pure (.inl ⟨10,p+1+1,by omega,hh,by omega,rfl,rfl⟩)
    ·simp only [cv (show ((s[p+1]).toNat:Int)≠110 by omega),qV (show ((s[p+1]).toNat:Int)=116 by omega),cond_false,cond_true,i,Ik];exact .pure (.inl ⟨9,p+1+1,by omega,hh,by omega,rfl,rfl⟩)
    ·simp only [cv (show ((s[p+1]).toNat:Int)≠110 by omega),cv (show ((s[p+1]).toNat:Int)≠116 by omega),cond_false,zw _ d,f,Ik,cond_true,i];exact .pure (.inl ⟨_,p+1+1,by omega,hh,d,rfl,rfl⟩)
   ·simp only [Rt.on];rcases hh with hh|⟨hh,g,j,f⟩
    ·rw [hh,kM];simp only [Ik,show ((-1:Int) == 110)=false from rfl,show ((-1:Int) == 116)=false from rfl,cond_false,CW];exact .pure (.inr ⟨s.length,Nat.le_refl _,by rw [←hh],rfl⟩)
    ·have d:(s[p+1]).toNat<256:=(s[p+1]).toNat_lt;simp only [gw hh,Ik,cv (show ((s[p+1]).toNat:Int)≠110 by omega),cv (show ((s[p+1]).toNat:Int)≠116 by omega),cond_false,zw _ d,f];exact .pure (.inr ⟨p+1,h,rfl,rfl⟩)
  ·simp only [cv (show ((s[p]).toNat:Int)≠92 by omega),cond_false,AV b _ e,CP b _ e,Ik];cases q:pl b (s[p]).toNat
   ·simp only [Bool.not_false,cond_true,M.a4,Ik,Rt.on];exact .pure (.inr ⟨p,hp,rfl,rfl⟩)
   ·simp only [Bool.not_true,cond_false,aM (show p<9223372036854775807 by omega),Ik];exact .pure (.inl ⟨_,p+1,by omega,h,e,rfl,rfl⟩)
 ·subst h;simp only [beq_self_eq_true,cond_true,M.a4,Ik,Rt.on,bo,kM,show ((-1:Int) == 92)=false from rfl,cond_false,CQ,Bool.not_false];exact .pure (.inr ⟨s.length,Nat.le_refl _,rfl,rfl⟩)
end
theorem mw {v:aT 4} (a:W4 v) {c:Nat} (o:c<256):M.g2 v (c:Int)=some (fg v c):=by
 have d:2 ^ (c % 64)<18446744073709551616:=Nat.pow_lt_pow_right (n:=64) (by omega) (Nat.mod_lt _ (by omega));have m:=nk (k:=.i64) (c:=c) (fC (by omega) (by omega));have l:=jp a (i:=c / 64) (by omega);have j:lK (c:Int) 64=some ((c % 64:Nat):Int):=nc (b:=64) (by omega);have h:=pW (t:=c % 64) (by omega);have g:=ia (iH a (c / 64)) d;have f:=ki (v:=v) (i:=c / 64) (x:=wd v (c / 64) ||| 2 ^ (c % 64)) (by omega);have e:IntKind.u64.wrap ((c % 64:Nat):Int)=((c % 64:Nat):Int):=kh (by omega) (by omega);unfold M.g2 fg;simp only [m,l,j,e,h,g,f,Ik]
theorem xD {v:aT 4} (hv:W4 v):M.m1 v=some (mq v):=iF hv
theorem pK (l:List Nat) {v:aT 4} (hv:W4 v):W4 (l.foldl fg v):=uA l v hv
theorem ug {lo hi:Nat} (h:hi<256):∀b∈eD lo hi,b<256:=by
 intro b hb;simp only [eD,IP,IQ] at hb;obtain ⟨i,hi,rfl⟩:=hb;omega
theorem tQ {v:aT 4} (hv:W4 v) {lo hi:Nat} (h:hi<256):mp v (rG (eD lo hi))=(eD lo hi).foldl fg v:=by
 refine AI (zU hv (ld _)) (pK _ hv) fun b hb=>?_
 rw [xT hb,wU (ug h),sr _ _ (ug h)]
theorem qB {σ ρ:Type} {body:σ→Option (cO σ ρ)} {a:σ} {r:ρ} (k:Nat) (h:body a=some (.stop r)):be body (k+1) a=some r:=by simp only [be,h]
theorem vJ {σ ρ:Type} {body:σ→Option (cO σ ρ)} {a b:σ} (k:Nat) (h:body a=some (.next b)):be body (k+1) a=be body k b:=by simp only [be,h]
theorem sq:ba=18446744073709551615+1:=by unfold ba; rfl
theorem jg {σ ρ:Type} {body:σ→Option (cO σ ρ)} {a:σ} {r:ρ} (h:body a=some (.stop r)):be body ba a=some r:=by rw [sq]; exact qB _ h
theorem sj {σ ρ:Type} {body:σ→Option (cO σ ρ)} {a b:σ} (h:body a=some (.next b)):be body ba a=be body 18446744073709551615 b:=by rw [sq]; exact vJ _ h
theorem rU {ρ:Type} {set:aT 4} (b:W4 set) {lo a:Nat} (hl:lo≤a) (hh:a<256) {X:aT 4→ρ} {body:aT 4×Int→Option (cO (aT 4×Int) ρ)}
 (hb:∀v x,body (v,x)=(some (decide (x≤(a:Int)))).bind fun c=>bif c then (M.g2 v x).bind fun r=>(cd .i64 (x+1)).bind fun t=>some (.next (r,t)) else some (.stop (X v))) :
 be body ba (set,(lo:Int))=some (X ((eD lo a).foldl fg set)):=by
 have key:∀i,i≤a - lo+1→W4 (((List.range i).map (lo+·)).foldl fg set):=fun i _=>pK _ b
 refine fw (body:=body) (fun i=>(((List.range i).map (lo+·)).foldl fg set,((lo+i:Nat):Int))) (a+1 - lo) (fun i d=>?_) ?_ ba (gY (by omega))
 ·have e:cd .i64 (((lo+i:Nat):Int)+1)=some ((lo+(i+1):Nat):Int):=by rw [dO (by omega) (by omega)]; rfl
  rw [hb];simp only [eg (show ((lo+i:Nat):Int)≤(a:Int) by omega),Ik,cond_true,mw (key i (by omega)) (show lo+i<256 by omega),e];rw [IZ,ID,List.foldl_append];rfl
 ·rw [hb];simp only [eQ (show ¬ ((lo+(a+1 - lo):Nat):Int)≤(a:Int) by omega),Ik,cond_false];rfl
def wN (s:Str) (p:Int) (set:aT 4):Option (cO (Str×Int×Bool×(aT 4)×Bool) (Str×Int×Bool×(aT 4))):=
    (M.b5 (aG.mk s p false) true).bind fun a=>
    (
     (
      bif (!a.2.bad) then
       (M.a0 a.2).bind fun o=>
       some (o == 45)
      else
       some false).bind fun (i:Bool)=>
     bif i then
      (cd .i64 (a.2.atv+1)).bind fun f=>
      (M.b5 (aG.mk a.2.s f a.2.bad) true).bind fun b=>
      (
       bif (!b.2.bad) then
        some (decide (b.1<a.1))
       else
        some false).bind fun (h:Bool)=>
      bif h then
       some (b.2.s,f,true,b.1)
      else
       some (b.2.s,b.2.atv,b.2.bad,b.1)
     else
      some (a.2.s,a.2.atv,a.2.bad,a.1)).bind fun (k,l,e,j)=>
    be (fun (m:(aT 4)×Int)=>match m with
    | (d,c)=>
     (
      bif (!e) then
       some (decide (c≤j))
      else
       some false).bind fun (g:Bool)=>
     bif g then
      (M.g2 d c).bind fun n=>
      (cd .i64 (c+1)).bind fun t46=>
      some (.next (n,t46))
     else
      some (.stop (.next (k,l,e,d,false)))) ba (set,a.1)
section
variable {s:Str} (hs:s.length≤1000000)
theorem gF {q:Nat} (hq:q≤s.length):∃x y,M.a3 ⟨s,q⟩=some x∧M.a0 ⟨s,q,false⟩=some y∧(∀v:Int,v≠0→v≠-1→(x == v)=(y == v))∧(∀v:Int,v≠0→x=v→q<s.length):=by
 rcases Nat.lt_or_eq_of_le hq with h|h
 ·exact ⟨_,_,wR h,gw h,fun _ _ _=>rfl,fun _ _ _=>h⟩
 ·subst h;exact ⟨_,_,yN,kM,fun v b a=>by rw [cv (fun e=>b e.symm),cv (fun e=>a e.symm)],fun v b a=>absurd a.symm b⟩
def GN (s:Str) (p:Nat) (set:aT 4) (a:Rt ((aT 4)×aD)) (b:cO (Str×Int×Bool×(aT 4)×Bool) (Str×Int×Bool×(aT 4))):Prop:=
 (∃lo hi q:Nat,p+1≤q∧q≤s.length∧lo≤hi∧hi<256∧a=.ret (rG (eD lo hi),⟨s,q⟩)∧b=.next (s,q,false,(eD lo hi).foldl fg set,false))∨
 (∃q:Nat,q≤s.length∧a=.pan q∧b=.next (s,q,true,set,false))
include hs
theorem uC {p:Nat} (hp:p≤s.length) {set:aT 4} (g:W4 set):dQ (M.c5 ⟨s,p⟩) (wN s p set) (GN s p set):=by
 unfold M.c5 wN;have F:=qS hs hp true;refine dQ.bb F ?_;rintro a b (⟨c,q,o,k,e,rfl,rfl⟩|⟨q,hq,rfl,rfl⟩)
 ·simp only [Rt.on];obtain ⟨x,y,hx,hy,m,t⟩:=gF k;have B:=m 45 (by decide) (by decide);simp only [Bool.not_false,cond_true,hx,hy,Ik];rw [←B];cases h:(x == (45:Int))
  ·refine dQ.sl rfl (dQ.l (nN e e) (dQ.r (b:=(s,(q:Int),false,(c:Int))) rfl ?_));refine ⟨_,_,rfl,rU g (Nat.le_refl c) e (X:=fun v=>.next (s,(q:Int),false,v,false)) (fun v x=>rfl),.inl ⟨c,c,q,o,k,Nat.le_refl _,e,rfl,rfl⟩⟩
  ·have j:=t 45 (by decide) (dw h);simp only [cond_true,aM (show q<9223372036854775807 by omega),Ik];have D:=qS hs (p:=q+1) j true;obtain ⟨G,I,A,w,u⟩:=D;have z:M.c1 ⟨s,((q+1:Nat):Int)⟩ [93,92,45]=some G:=A;simp only [z,w,Ik];rcases u with ⟨c2,d,i,n,f,rfl,rfl⟩|⟨d,i,rfl,rfl⟩
   ·simp only [Rt.on,Bool.not_false,cond_true,Ik]
    by_cases H:c2<c
    ·simp only [eg (show (c2:Int)<(c:Int) by omega),cond_true,M.a4,Ik,Rt.on,bo];exact ⟨_,_,rfl,jg rfl,.inr ⟨q+1,j,rfl,rfl⟩⟩
    ·rw [show decide ((c2:Int)<(c:Int))=false from eQ (by omega)];refine dQ.sl rfl (dQ.l (nN e f) (dQ.r (b:=(s,(d:Int),false,(c2:Int))) rfl ?_));exact ⟨_,_,rfl,rU g (by omega:c≤c2) f (X:=fun v=>.next (s,(d:Int),false,v,false)) (fun v x=>rfl),.inl ⟨c,c2,d,by omega,n,by omega,f,rfl,rfl⟩⟩
   ·simp only [Rt.on,Bool.not_true,cond_false,Ik,bo];exact ⟨_,_,rfl,jg rfl,.inr ⟨d,i,rfl,rfl⟩⟩
 ·simp only [Rt.on,Bool.not_true,cond_false,Ik];exact ⟨_,_,rfl,jg rfl,.inr ⟨q,hq,rfl,rfl⟩⟩
def GP (s:Str) (p:Nat) (a:Rt ((aT 4)×aD)) (b:T_Regex×aG):Prop:=
 (∃(set:aT 4) (q:Nat),p+1≤q∧q≤s.length∧W4 set∧a=.ret (set,⟨s,q⟩)∧b=(⟨3,set,[]⟩,⟨s,q,false⟩))∨(∃(q:Nat) (y:T_Regex),q≤s.length∧a=.pan q∧b=(y,⟨s,q,true⟩))
theorem uJ {p:Nat} (hp:p<s.length) (R:(s[p]).toNat=91):dQ (M.d8 ⟨s,p⟩) (M.d3 ⟨s,(p+1:Nat),false⟩) (GP s p):=by
  unfold M.d8 M.d3;have J:M.a5 ⟨s,p⟩ 91=some (.ret ⟨s,(p+1:Nat)⟩):=by
    unfold M.a5;simp only [cv (show (p:Int)≠(s.length:Int) by omega),cond_false,dY hp,Ik,sC (show ((s[p]).toNat:Int)=91 by omega),bo,aM (show p<9223372036854775807 by omega)]
  obtain ⟨x,y,hx,hy,n,u⟩:=gF (s:=s) (q:=p+1) hp;have K:=n 94 (by decide) (by decide);simp only [J,Ik,Rt.on,hx,hy];rw [←K]
  -- the place behind the sign
  obtain ⟨g,H,Q,hsel⟩:∃g:Nat,g≤s.length∧p+1≤g∧(bif x == (94:Int) then (cd .i64 (((p+1:Nat):Int)+1)).bind fun D=>some D else some ((p+1:Nat):Int))=some (g:Int):=by
    cases h:(x == (94:Int))
    · exact ⟨p+1,hp,Nat.le_refl _,rfl⟩
    · have:=u 94 (by decide) (dw h)
      exact ⟨p+2,by omega,by omega,by rw [cond_true,aM (by omega)]; rfl⟩
  generalize hng:(x == (94:Int))=ng at hsel ⊢;refine dQ.l hsel (dQ.r hsel ?_);obtain ⟨N,L,k,f,w⟩:=uC hs H jP;refine dQ.l k ?_;rcases w with ⟨lo,v,q,F,o,I,z,rfl,rfl⟩|⟨q,hq,rfl,rfl⟩
  · refine dQ.sb (P:=fun (a:cO (Str×Int×(aT 4)) (Rt ((aT 4)×aD))) (b:Str×Int×Bool×(aT 4))=>
        (∃(q:Nat) (set:aT 4),q<s.length∧p+1≤q∧W4 set∧a=.next (s,(q:Int),set)∧b=(s,(q:Int),false,set))∨(∃(q:Nat) (set:aT 4),q≤s.length∧a=.stop (.pan q)∧b=(s,(q:Int),true,set)))
      (dQ.er (sj f) (dQ.loop (fun (a:Str×Int×(aT 4)) (b:Str×Int×Bool×(aT 4)×Bool) m=>∃(q:Nat) (set:aT 4),q≤s.length∧p+1≤q∧W4 set∧a=(s,(q:Int),set)∧b=(s,(q:Int),false,set,false)∧m=s.length - q) ?_
        (s.length - q) _ _ _ _ (by unfold ba; omega) (by omega) ⟨q,(eD lo v).foldl fg (aT.zero 4),o,by omega,pK _ jP,rfl,rfl,rfl⟩)) ?_ ?_
    · rintro m _ _ ⟨q,set,hq,t,c,rfl,rfl,rfl⟩
      obtain ⟨x,y,hx,hy,n,u⟩:=gF hq;have B:=n 93 (by decide) (by decide);cases h:(x == (93:Int))
      · have f:(x != (93:Int))=true:=by rw [bne,h]; rfl
        have j:(y != (93:Int))=true:=by rw [bne,←B,h]; rfl
        obtain ⟨N,L,k,A,w⟩:=uC hs hq c;rcases w with ⟨lo,v,d,F,o,I,z,rfl,rfl⟩|⟨d,G,rfl,rfl⟩
        · refine .inl ⟨(s,(d:Int),mp set (rG (eD lo v))),_,s.length - d,aN hx (hY f (aN k (aN (zW c (ld _)) rfl))),aN (x:=true) (aN hy (congrArg some j)) A,by omega,?_⟩
          exact ⟨d,_,o,by omega,pK _ c,by rw [tQ c z],rfl,rfl⟩
        · refine .inr ⟨.stop (.pan d),aN hx (hY f (aN k rfl)),.inr ⟨(s,(d:Int),true,set,false),(s,(d:Int),true,set),aN (x:=true) (aN hy (congrArg some j)) A,rfl,?_⟩⟩
          exact .inr ⟨d,set,G,rfl,rfl⟩
      · have f:(x != (93:Int))=false:=by rw [bne,h]; rfl
        have j:(y != (93:Int))=false:=by rw [bne,←B,h]; rfl
        refine .inr ⟨.next (s,(q:Int),set),aN hx (ed f rfl),.inl ⟨(s,(q:Int),false,set),aN (x:=false) (aN hy (congrArg some j)) rfl,?_⟩⟩;exact .inl ⟨q,set,u 93 (by decide) (dw h),t,c,rfl,rfl⟩
    · rintro a b (⟨q,set,hq,t,c,e,rfl⟩|⟨q,set,hq,e,rfl⟩)
      · cases e
        refine dQ.l (aM (i:=q) (by omega)) (dQ.r (aM (i:=q) (by omega)) ?_);cases ng
        · exact .pure (.inl ⟨set,q+1,by omega,hq,c,rfl,rfl⟩)
        · exact dQ.l (iF c) (dQ.r (b:=mq set) (aN (xD c) rfl) (.pure (.inl ⟨mq set,q+1,by omega,hq,uR c,rfl,rfl⟩)))
      · cases e
    · rintro x b (⟨q,set,hq,t,c,e,rfl⟩|⟨q,set,hq,e,rfl⟩)
      · cases e
      · cases e
        exact .pure (.inr ⟨q,_,hq,rfl,rfl⟩)
  · exact dQ.r (b:=(s,(q:Int),true,aT.zero 4)) ((sj f).trans (qB 18446744073709551614 rfl)) (.pure (.inr ⟨q,_,hq,rfl,rfl⟩))
end
end Go.Proofs.YtggpjcdhflcfmaaGreatDoor
