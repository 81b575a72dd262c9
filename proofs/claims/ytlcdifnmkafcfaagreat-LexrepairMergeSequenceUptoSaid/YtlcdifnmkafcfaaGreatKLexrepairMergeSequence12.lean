/- Part 12. -/
import Derived.Test.YtlcdifnmkafcfaaGreatKLexrepairMergeSequence11
namespace Go.Proofs.YtlcdifnmkafcfaaGreat
open Go.Lx
structure Pt where
  nl:Bool
  fi:List Nat
  la:List Nat
structure Bs where
  S:List (az 4)
  P:List (Nat×Nat)
def dE (a b:List Nat):List (Nat×Nat):=a.flatMap fun p=>b.map fun q=>(p,q)
theorem hZ {a b:List Nat} {p q:Nat}:(p,q)∈dE a b↔p∈a∧q∈b:=by
  unfold dE
  rw [List.mem_flatMap]
  constructor
  · rintro ⟨x,hx,h⟩
    obtain ⟨y,hy,e⟩:=List.mem_map.1 h
    cases e
    exact ⟨hx,hy⟩
  · rintro ⟨h1,h2⟩
    exact ⟨p,h1,List.mem_map.2 ⟨q,h2,rfl⟩⟩
theorem jJ (a b:List Nat):(dE a b).length=a.length*b.length:=by
  unfold dE
  induction a with
  | nil=>simp
  | cons x a ih=>rw [List.flatMap_cons,List.length_append,ih,List.length_map,List.length_cons,Nat.succ_mul]; omega
def eS (x y:Pt):Pt:=⟨x.nl && y.nl,bif x.nl then x.fi++y.fi else x.fi,bif y.nl then x.la++y.la else y.la⟩
def kN (x y:Pt):Pt:=⟨x.nl || y.nl,x.fi++y.fi,x.la++y.la⟩
mutual
def bd:T_Regex→Bs→Pt×Bs
  | ⟨k,s,l⟩,b=>bif k == 3 then (⟨false,[b.S.length+1],[b.S.length+1]⟩,⟨b.S++[s],b.P⟩) else bif k == 4 then fW l ⟨true,[],[]⟩ b else bif k == 5 then gQ l ⟨false,[],[]⟩ b else bif k == 6 then yJ l b else (⟨k == 2,[],[]⟩,b)
def fW:List T_Regex→Pt→Bs→Pt×Bs
  | [],x,b=>(x,b)
  | y::l,x,b=>fW l (eS x (bd y b).1) ⟨(bd y b).2.S,(bd y b).2.P++dE x.la (bd y b).1.fi⟩
def gQ:List T_Regex→Pt→Bs→Pt×Bs
  | [],x,b=>(x,b)
  | y::l,x,b=>gQ l (kN x (bd y b).1) (bd y b).2
def yJ:List T_Regex→Bs→Pt×Bs
  | [],b=>(⟨true,[],[]⟩,b)
  | y::_,b=>(⟨true,(bd y b).1.fi,(bd y b).1.la⟩,⟨(bd y b).2.S,(bd y b).2.P++dE (bd y b).1.la (bd y b).1.fi⟩)
end
def mT (M E:Nat→Nat→Prop):Nat→List Nat→Nat→Prop
  | p,[],q=>p=q
  | p,b::w,q=>∃r,E p r∧M r b∧mT M E r w q
section
variable {M E F:Nat→Nat→Prop}
theorem hO {R:Nat→Prop} (h:∀p r,R p→(E p r↔F p r)) (hc:∀p r,R p→E p r→R r):∀(w:List Nat) {p q:Nat},R p→(mT M E p w q↔mT M F p w q)
  | [],p,q,_=>Iff.rfl
  | b::w,p,q,hp=>by
    simp only [mT]
    constructor
    · rintro ⟨r,a,d,c⟩
      exact ⟨r,(h p r hp).1 a,d,(hO h hc w (hc p r hp a)).1 c⟩
    · rintro ⟨r,a,d,c⟩
      have a:=(h p r hp).2 a
      exact ⟨r,a,d,(hO h hc w (hc p r hp a)).2 c⟩
theorem lg (h:∀p r,E p r→F p r):∀(w:List Nat) {p q:Nat},mT M E p w q→mT M F p w q
  | [],_,_,e=>e
  | _::w,_,_,⟨r,h1,h2,h3⟩=>⟨r,h _ _ h1,h2,lg h w h3⟩
theorem nU {R:Nat→Prop} (hc:∀p r,R p→E p r→R r):∀(w:List Nat) {p q:Nat},R p→mT M E p w q→R q
  | [],_,_,hp,e=>by cases e; exact hp
  | _::w,p,_,hp,⟨r,h1,_,h3⟩=>nU hc w (hc p r hp h1) h3
theorem qc:∀(u:List Nat) {v:List Nat} {b p l f q:Nat},mT M E p u l→E l f→M f b→mT M E f v q→mT M E p (u++b::v) q
  | [],_,_,_,_,_,_,e,h1,h2,h3=>by cases e; exact ⟨_,h1,h2,h3⟩
  | _::u,_,_,_,_,_,_,⟨r,a1,a2,a3⟩,h1,h2,h3=>⟨r,a1,a2,qc u a3 h1 h2 h3⟩
structure mS (M E:Nat→Nat→Prop) (x:Pt) (G:List Nat→Prop):Prop where
  nl:x.nl=true↔G []
  ac:∀b w,G (b::w)↔∃p∈x.fi,M p b∧∃q∈x.la,mT M E p w q
structure kd (E:Nat→Nat→Prop) (x:Pt) (a c:Nat):Prop where
  le:a≤c
  fi:∀p∈x.fi,a<p∧p≤c
  la:∀p∈x.la,a<p∧p≤c
  e:∀p q,E p q→(a<p∧p≤c)∧(a<q∧q≤c)
theorem mS.congr {x:Pt} {G G':List Nat→Prop} (h:mS M E x G) (e:∀w,G w↔G' w):mS M E x G':=⟨h.nl.trans (e _),fun b w=>(e _).symm.trans (h.ac b w)⟩
theorem mS.edges {x:Pt} {G:List Nat→Prop} (h:mS M E x G) (e:∀p q,E p q↔F p q):mS M F x G:=by
  have:E=F:=funext fun p=>funext fun q=>propext (e p q)
  rw [←this]; exact h
theorem kd.edges {x:Pt} {a c:Nat} (h:kd E x a c) (e:∀p q,E p q↔F p q):kd F x a c:=by
  have:E=F:=funext fun p=>funext fun q=>propext (e p q)
  rw [←this]; exact h
variable {x y:Pt} {a m c:Nat} {Gx Gy:List Nat→Prop}
def vr (E F:Nat→Nat→Prop) (x y:Pt) (p q:Nat):Prop:=(E p q∨F p q)∨(p∈x.la∧q∈y.fi)
theorem jB (hx:kd E x a m) (hy:kd F y m c) {w:List Nat} {p q:Nat} (hp:m<p∧p≤c):mT M (vr E F x y) p w q↔mT M F p w q:=by
  refine hO (R:=fun p=>m<p∧p≤c) (fun p r hp=>?_) (fun p r hp h=>?_) w hp
  · constructor
    · rintro ((h|h)|h)
      · have:=(hx.e _ _ h).1; omega
      · exact h
      · have:=hx.la _ h.1; omega
    · exact fun h=>.inl (.inr h)
  · rcases h with (h|h)|h
    · have:=(hx.e _ _ h).1; omega
    · exact (hy.e _ _ h).2
    · have:=hx.la _ h.1; omega
theorem jh (hx:kd E x a m) (hy:kd F y m c):∀(w:List Nat) {p q:Nat},(a<p∧p≤m)→(mT M (vr E F x y) p w q↔((a<q∧q≤m)∧mT M E p w q)∨∃u b v l f,w=u++b::v∧l∈x.la∧mT M E p u l∧f∈y.fi∧M f b∧mT M F f v q)
  | [],p,q,hp=>by
    constructor
    · intro e
      cases e
      exact .inl ⟨hp,rfl⟩
    · rintro (⟨_,h⟩|⟨u,b,v,l,f,h,_⟩)
      · exact h
      · cases u <;> cases h
  | b::w,p,q,hp=>by
    constructor
    · rintro ⟨r,(h|h)|h,g,d⟩
      · rcases (jh hx hy w (hx.e _ _ h).2).1 d with ⟨hq,d⟩|⟨u,b',v,l,f,rfl,j,i,h6⟩
        · exact .inl ⟨hq,r,h,g,d⟩
        · exact .inr ⟨b::u,b',v,l,f,rfl,j,⟨r,h,g,i⟩,h6⟩
      · have:=(hy.e _ _ h).1; omega
      · exact .inr ⟨[],b,w,p,r,rfl,h.1,rfl,h.2,g,(jB hx hy (hy.fi _ h.2)).1 d⟩
    · rintro (⟨hq,r,k,g,d⟩|⟨u,b',v,l,f,e,j,i,h6,o,n⟩)
      · exact ⟨r,.inl (.inl k),g,(jh hx hy w (hx.e _ _ k).2).2 (.inl ⟨hq,d⟩)⟩
      · rw [e]
        exact qc u (lg (fun p r h=>.inl (.inl h)) u i) (.inr ⟨j,h6⟩) o ((jB hx hy (hy.fi _ h6)).2 n)
theorem kd.cat (hx:kd E x a m) (hy:kd F y m c):kd (vr E F x y) (eS x y) a c:=by
  have d:=hx.le
  have b:=hy.le
  refine ⟨by omega,fun p hp=>?_,fun p hp=>?_,fun p q h=>?_⟩
  · unfold eS at hp
    cases hn:x.nl <;> simp only [hn,cond_false,cond_true,List.mem_append] at hp
    · have:=hx.fi _ hp; omega
    · rcases hp with hp|hp
      · have:=hx.fi _ hp; omega
      · have:=hy.fi _ hp; omega
  · unfold eS at hp
    cases hn:y.nl <;> simp only [hn,cond_false,cond_true,List.mem_append] at hp
    · have:=hy.la _ hp; omega
    · rcases hp with hp|hp
      · have:=hx.la _ hp; omega
      · have:=hy.la _ hp; omega
  · rcases h with (h|h)|h
    · have:=hx.e _ _ h; omega
    · have:=hy.e _ _ h; omega
    · have:=hx.la _ h.1
      have:=hy.fi _ h.2
      omega
theorem jH {p:Nat}:p∈(eS x y).fi↔p∈x.fi∨(x.nl=true∧p∈y.fi):=by
  unfold eS
  cases x.nl <;> simp
theorem fE {p:Nat}:p∈(eS x y).la↔p∈y.la∨(y.nl=true∧p∈x.la):=by
  unfold eS
  cases y.nl <;> simp [or_comm]
theorem mS.cat (hx:mS M E x Gx) (hy:mS M F y Gy) (rx:kd E x a m) (ry:kd F y m c):mS M (vr E F x y) (eS x y) (fun w=>∃u v,w=u++v∧Gx u∧Gy v):=by
  refine ⟨?_,fun b w=>?_⟩
  · unfold eS
    rw [Bool.and_eq_true,hx.nl,hy.nl]
    constructor
    · rintro ⟨g,d⟩; exact ⟨[],[],rfl,g,d⟩
    · rintro ⟨u,v,e,g,d⟩
      obtain ⟨rfl,rfl⟩:=List.append_eq_nil_iff.1 e.symm
      exact ⟨g,d⟩
  · constructor
    · rintro ⟨u,v,e,g,d⟩
      rcases fR.1 e with ⟨rfl,rfl⟩|⟨u,rfl,rfl⟩
      · obtain ⟨p,hp,hm,q,hq,h⟩:=(hy.ac b w).1 d
        exact ⟨p,jH.2 (.inr ⟨hx.nl.2 g,hp⟩),hm,q,fE.2 (.inl hq),(jB rx ry (ry.fi _ hp)).2 h⟩
      · obtain ⟨p,hp,hm,l,hl,h⟩:=(hx.ac b u).1 g
        cases v with
        | nil=>
          refine ⟨p,jH.2 (.inl hp),hm,l,fE.2 (.inr ⟨hy.nl.2 d,hl⟩),?_⟩
          rw [List.append_nil]
          exact (jh rx ry u (rx.fi _ hp)).2 (.inl ⟨rx.la _ hl,h⟩)
        | cons b' v=>
          obtain ⟨f,hf,hm',q,hq,h'⟩:=(hy.ac b' v).1 d
          exact ⟨p,jH.2 (.inl hp),hm,q,fE.2 (.inl hq),(jh rx ry _ (rx.fi _ hp)).2 (.inr ⟨u,b',v,l,f,rfl,hl,h,hf,hm',h'⟩)⟩
    · rintro ⟨p,hp,hm,q,hq,h⟩
      rcases jH.1 hp with hp|⟨hn,hp⟩
      · rcases (jh rx ry w (rx.fi _ hp)).1 h with ⟨hr,h⟩|⟨u,b',v,l,f,rfl,hl,g,hf,hm',d⟩
        · rcases fE.1 hq with hq|⟨hn,hq⟩
          · have:=ry.la _ hq; omega
          · exact ⟨b::w,[],by simp,(hx.ac b w).2 ⟨p,hp,hm,q,hq,h⟩,hy.nl.1 hn⟩
        · have hq':q∈y.la:=by
            rcases fE.1 hq with hq|⟨_,hq⟩
            · exact hq
            · have i:=nU (R:=fun p=>m<p∧p≤c) (fun p r _ h=>(ry.e _ _ h).2) v (ry.fi _ hf) d
              have j:=rx.la _ hq
              have i:m<q∧q≤c:=i
              omega
          exact ⟨b::u,b'::v,rfl,(hx.ac b u).2 ⟨p,hp,hm,l,hl,g⟩,(hy.ac b' v).2 ⟨f,hf,hm',q,hq',d⟩⟩
      · have d:=(jB rx ry (ry.fi _ hp)).1 h
        have hq':q∈y.la:=by
          rcases fE.1 hq with hq|⟨_,hq⟩
          · exact hq
          · have i:=nU (R:=fun p=>m<p∧p≤c) (fun p r _ h=>(ry.e _ _ h).2) w (ry.fi _ hp) d
            have j:=rx.la _ hq
            have i:m<q∧q≤c:=i
            omega
        exact ⟨[],b::w,rfl,hx.nl.1 hn,(hy.ac b w).2 ⟨p,hp,hm,q,hq',d⟩⟩
def uF (E F:Nat→Nat→Prop) (p q:Nat):Prop:=E p q∨F p q
theorem rf (hx:kd E x a m) (hy:kd F y m c) {w:List Nat} {p q:Nat} (hp:a<p∧p≤m):mT M (uF E F) p w q↔mT M E p w q:=by
  refine hO (R:=fun p=>a<p∧p≤m) (fun p r hp=>?_) (fun p r hp h=>?_) w hp
  · exact ⟨fun h=>h.elim id fun h=>(by have:=(hy.e _ _ h).1; omega),.inl⟩
  · rcases h with h|h
    · exact (hx.e _ _ h).2
    · have:=(hy.e _ _ h).1; omega
theorem re (hx:kd E x a m) (hy:kd F y m c) {w:List Nat} {p q:Nat} (hp:m<p∧p≤c):mT M (uF E F) p w q↔mT M F p w q:=by
  refine hO (R:=fun p=>m<p∧p≤c) (fun p r hp=>?_) (fun p r hp h=>?_) w hp
  · exact ⟨fun h=>h.elim (fun h=>(by have:=(hx.e _ _ h).1; omega)) id,.inr⟩
  · rcases h with h|h
    · have:=(hx.e _ _ h).1; omega
    · exact (hy.e _ _ h).2
theorem kd.uni (hx:kd E x a m) (hy:kd F y m c):kd (uF E F) (kN x y) a c:=by
  have d:=hx.le
  have b:=hy.le
  refine ⟨by omega,fun p hp=>?_,fun p hp=>?_,fun p q h=>?_⟩
  · rcases List.mem_append.1 hp with hp|hp
    · have:=hx.fi _ hp; omega
    · have:=hy.fi _ hp; omega
  · rcases List.mem_append.1 hp with hp|hp
    · have:=hx.la _ hp; omega
    · have:=hy.la _ hp; omega
  · rcases h with h|h
    · have:=hx.e _ _ h; omega
    · have:=hy.e _ _ h; omega
theorem mS.uni (hx:mS M E x Gx) (hy:mS M F y Gy) (rx:kd E x a m) (ry:kd F y m c):mS M (uF E F) (kN x y) (fun w=>Gx w∨Gy w):=by
  refine ⟨?_,fun b w=>?_⟩
  · unfold kN
    rw [Bool.or_eq_true,hx.nl,hy.nl]
  · rw [hx.ac,hy.ac]
    constructor
    · rintro (⟨p,hp,hm,q,hq,h⟩|⟨p,hp,hm,q,hq,h⟩)
      · exact ⟨p,List.mem_append_left _ hp,hm,q,List.mem_append_left _ hq,(rf rx ry (rx.fi _ hp)).2 h⟩
      · exact ⟨p,List.mem_append_right _ hp,hm,q,List.mem_append_right _ hq,(re rx ry (ry.fi _ hp)).2 h⟩
    · rintro ⟨p,hp,hm,q,hq,h⟩
      rcases List.mem_append.1 hp with hp|hp
      · have h:=(rf rx ry (rx.fi _ hp)).1 h
        have d:a<q∧q≤m:=nU (R:=fun p=>a<p∧p≤m) (fun p r _ h=>(rx.e _ _ h).2) w (rx.fi _ hp) h
        rcases List.mem_append.1 hq with hq|hq
        · exact .inl ⟨p,hp,hm,q,hq,h⟩
        · have:=ry.la _ hq; omega
      · have h:=(re rx ry (ry.fi _ hp)).1 h
        have d:m<q∧q≤c:=nU (R:=fun p=>m<p∧p≤c) (fun p r _ h=>(ry.e _ _ h).2) w (ry.fi _ hp) h
        rcases List.mem_append.1 hq with hq|hq
        · have:=rx.la _ hq; omega
        · exact .inr ⟨p,hp,hm,q,hq,h⟩
def pj (E:Nat→Nat→Prop) (x:Pt) (p q:Nat):Prop:=E p q∨(p∈x.la∧q∈x.fi)
theorem kd.star (hx:kd E x a c):kd (pj E x) ⟨true,x.fi,x.la⟩ a c:=by
  refine ⟨hx.le,hx.fi,hx.la,fun p q h=>?_⟩
  rcases h with h|h
  · exact hx.e _ _ h
  · exact ⟨hx.la _ h.1,hx.fi _ h.2⟩
theorem tK (hx:mS M E x Gx):∀(w:List Nat) {p q:Nat},q∈x.la→mT M (pj E x) p w q→∃u v l,w=u++v∧l∈x.la∧mT M E p u l∧St Gx v
  | [],p,q,hq,e=>by cases e; exact ⟨[],[],p,rfl,hq,rfl,.nil⟩
  | b::w,p,q,hq,⟨r,a,f,g⟩=>by
    obtain ⟨u,v,l,rfl,hl,d,c⟩:=tK hx w hq g
    rcases a with a|⟨hp,hr⟩
    · exact ⟨b::u,v,l,rfl,hl,⟨r,a,f,d⟩,c⟩
    · exact ⟨[],b::(u++v),p,rfl,hp,rfl,St.cons (u:=b::u) ((hx.ac b u).2 ⟨r,hr,f,l,hl,d⟩) c⟩
theorem xL (hx:mS M E x Gx) {v:List Nat} (h:St Gx v):∀ {u:List Nat} {p l:Nat},l∈x.la→mT M E p u l→∃q∈x.la,mT M (pj E x) p (u++v) q:=by
  induction h with
  | nil=>intro u p l hl h; rw [List.append_nil]; exact ⟨l,hl,lg (fun _ _ h=>.inl h) u h⟩
  | @cons a g e _ ih=>
    intro u p l hl h
    cases a with
    | nil=>exact ih hl h
    | cons b a=>
      obtain ⟨f,hf,hm,l',hl',d⟩:=(hx.ac b a).1 e
      obtain ⟨q,hq,c⟩:=ih hl' d
      exact ⟨q,hq,qc u (lg (fun _ _ h=>.inl h) u h) (.inr ⟨hl,hf⟩) hm c⟩
theorem mS.star (hx:mS M E x Gx):mS M (pj E x) ⟨true,x.fi,x.la⟩ (St Gx):=by
  refine ⟨⟨fun _=>.nil,fun _=>rfl⟩,fun b w=>?_⟩
  rw [qA]
  constructor
  · rintro ⟨u,v,rfl,f,e⟩
    obtain ⟨p,hp,hm,l,hl,d⟩:=(hx.ac b u).1 f
    obtain ⟨q,hq,a⟩:=xL hx e hl d
    exact ⟨p,hp,hm,q,hq,a⟩
  · rintro ⟨p,hp,hm,q,hq,h⟩
    obtain ⟨u,v,l,rfl,hl,a,c⟩:=tK hx w hq h
    exact ⟨u,v,rfl,(hx.ac b u).2 ⟨p,hp,hm,l,hl,a⟩,c⟩
end
def zI (S:List (az 4)) (p b:Nat):Prop:=∃v,S[p - 1]?=some v∧fF v b=true
def mX (Q:List (Nat×Nat)) (p q:Nat):Prop:=(p,q)∈Q
structure Dn (b:Bs) (r:Pt×Bs) (T:List (az 4)) (Q:List (Nat×Nat)) (G:List Nat→Prop):Prop where
  S:r.2.S=b.S++T
  P:r.2.P=b.P++Q
  rng:kd (mX Q) r.1 b.S.length r.2.S.length
  rep:∀U,(∃V,U=r.2.S++V)→mS (zI U) (mX Q) r.1 G
theorem iV {M E:Nat→Nat→Prop} {G:List Nat→Prop} {n:Bool} (hn:n=true↔G []) (h:∀b w,¬ G (b::w)):mS M E ⟨n,[],[]⟩ G:=⟨hn,fun b w=>⟨fun h'=>absurd h' (h b w),fun ⟨p,hp,_⟩=>by simp at hp⟩⟩
theorem iU {n:Bool} {a:Nat}:kd (mX []) ⟨n,[],[]⟩ a a:=⟨Nat.le_refl _,by simp,by simp,fun p q h=>by simp [mX] at h⟩
mutual
theorem iC:∀(x:T_Regex) (b:Bs),∃T Q,Dn b (bd x b) T Q (L x)
  | ⟨k,s,l⟩,b=>by
    rcases ea k with rfl|rfl|rfl|rfl|rfl|⟨g,i,j,D,h6⟩
    · have e:bd ⟨2,s,l⟩ b=(⟨true,[],[]⟩,b):=by simp [bd]
      rw [e]
      exact ⟨[],[],by simp,by simp,iU,fun U _=>iV (by simp [zt]) (fun b w h=>by simp [zt] at h)⟩
    · have e:bd ⟨3,s,l⟩ b=(⟨false,[b.S.length+1],[b.S.length+1]⟩,⟨b.S++[s],b.P⟩):=by simp [bd]
      rw [e]
      refine ⟨[s],[],rfl,by simp,⟨by simp,by simp,by simp,fun p q h=>by simp [mX] at h⟩,fun U hU=>?_⟩
      obtain ⟨V,rfl⟩:=hU
      have hm:∀c,zI ((b.S++[s])++V) (b.S.length+1) c↔fF s c=true:=by
        intro c
        unfold zI
        rw [Nat.add_sub_cancel,List.append_assoc,List.getElem?_append_right (Nat.le_refl _),Nat.sub_self]
        simp
      refine ⟨by simp [Av],fun c w=>?_⟩
      rw [Av]
      constructor
      · rintro ⟨d,e,h⟩
        cases e
        exact ⟨_,List.mem_singleton.2 rfl,(hm c).2 h,_,List.mem_singleton.2 rfl,rfl⟩
      · rintro ⟨p,hp,h,q,hq,g⟩
        obtain rfl:=List.mem_singleton.1 hp
        obtain rfl:=List.mem_singleton.1 hq
        cases w with
        | nil=>exact ⟨c,rfl,(hm c).1 h⟩
        | cons d w=>obtain ⟨r,i,_⟩:=g; simp [mX] at i
    · have e:bd ⟨4,s,l⟩ b=fW l ⟨true,[],[]⟩ b:=by simp [bd]
      rw [e]
      obtain ⟨T,Q,m,g,i,j⟩:=sf l ⟨true,[],[]⟩ b [] (fun w=>w=[]) b.S.length iU (fun U _=>iV (by simp) (by simp))
      refine ⟨T,Q,m,g,i,fun U hU=>(j U hU).congr fun w=>?_⟩
      rw [BS]
      constructor
      · rintro ⟨u,v,rfl,rfl,h⟩; exact h
      · exact fun h=>⟨[],w,rfl,rfl,h⟩
    · have e:bd ⟨5,s,l⟩ b=gQ l ⟨false,[],[]⟩ b:=by simp [bd]
      rw [e]
      obtain ⟨T,Q,m,g,i,j⟩:=sc l ⟨false,[],[]⟩ b [] (fun _=>False) b.S.length iU (fun U _=>iV (by simp) (by simp))
      refine ⟨T,Q,m,g,i,fun U hU=>(j U hU).congr fun w=>?_⟩
      rw [Au]
      simp
    · have e:bd ⟨6,s,l⟩ b=yJ l b:=by simp [bd]
      rw [e]
      match l with
      | []=>
        refine ⟨[],[],by simp [yJ],by simp [yJ],iU,fun U _=>iV ⟨fun _=>An.2 .nil,fun _=>rfl⟩ (fun c w h=>?_)⟩
        rw [An,qA] at h
        obtain ⟨u,v,_,h,_⟩:=h
        simp [LH] at h
      | y::l=>
        obtain ⟨T,Q,m,g,i,j⟩:=iC y b
        refine ⟨T,Q++dE (bd y b).1.la (bd y b).1.fi,m,?_,?_,fun U hU=>?_⟩
        · show (bd y b).2.P++_=_
          rw [g,List.append_assoc]
        · refine i.star.edges fun p q=>?_
          unfold pj mX
          rw [List.mem_append,hZ]
        · refine ((j U hU).star.edges fun p q=>?_).congr fun w=>?_
          · unfold pj mX
            rw [List.mem_append,hZ]
          · rw [An]
            have:LH (y::l)=L y:=by funext w; simp [LH]
            rw [this]
    · have e:bd ⟨k,s,l⟩ b=(⟨false,[],[]⟩,b):=by simp only [bd,bM g,bM i,bM j,bM D,bM h6,cond_false]
      rw [e]
      exact ⟨[],[],by simp,by simp,iU,fun U _=>iV ⟨fun h=>(by cases h),fun h=>absurd h (BT g i j D h6)⟩ (fun b w h=>absurd h (BT g i j D h6))⟩
theorem sf:∀(l:List T_Regex) (x:Pt) (b:Bs) (f:List (Nat×Nat)) (G:List Nat→Prop) (a:Nat),kd (mX f) x a b.S.length→(∀U,(∃V,U=b.S++V)→mS (zI U) (mX f) x G)→
    ∃T Q,(fW l x b).2.S=b.S++T∧(fW l x b).2.P=b.P++Q∧kd (mX (f++Q)) (fW l x b).1 a (fW l x b).2.S.length∧∀U,(∃V,U=(fW l x b).2.S++V)→mS (zI U) (mX (f++Q)) (fW l x b).1 (fun w=>∃u v,w=u++v∧G u∧LC l v)
  | [],x,b,f,G,a,hr,hp=>by
    refine ⟨[],[],by simp [fW],by simp [fW],by simpa [fW] using hr,fun U hU=>?_⟩
    have h:=hp U (by simpa [fW] using hU)
    simp only [List.append_nil,fW]
    refine h.congr fun w=>⟨fun h=>⟨w,[],by simp,h,by simp [LC]⟩,?_⟩
    rintro ⟨u,v,rfl,m,g⟩
    simp only [LC] at g
    subst g
    rw [List.append_nil]; exact m
  | y::l,x,b,f,G,a,hr,hp=>by
    obtain ⟨z,n,o,A,t,B⟩:=iC y b
    have he:∀p q,vr (mX f) (mX n) x (bd y b).1 p q↔mX (f++(n++dE x.la (bd y b).1.fi)) p q:=by
      intro p q
      unfold vr mX
      rw [List.mem_append,List.mem_append,hZ,or_assoc]
    obtain ⟨T,Q,m,g,i,j⟩:=sf l (eS x (bd y b).1) ⟨(bd y b).2.S,(bd y b).2.P++dE x.la (bd y b).1.fi⟩ (f++(n++dE x.la (bd y b).1.fi)) (fun w=>∃u v,w=u++v∧G u∧L y v) a ((hr.cat t).edges he)
      (fun U hU=>((hp U (by obtain ⟨V,rfl⟩:=hU; exact ⟨z++V,by simp only [o,List.append_assoc]⟩)).cat (B U hU) hr t).edges he)
    have e:fW (y::l) x b=fW l (eS x (bd y b).1) ⟨(bd y b).2.S,(bd y b).2.P++dE x.la (bd y b).1.fi⟩:=by simp only [fW]
    rw [e]
    refine ⟨z++T,(n++dE x.la (bd y b).1.fi)++Q,by rw [m]; simp only [o,List.append_assoc],by rw [g]; simp only [A,List.append_assoc],by rw [←List.append_assoc]; exact i,fun U hU=>?_⟩
    rw [←List.append_assoc]
    refine (j U hU).congr fun w=>?_
    simp only [LC]
    constructor
    · rintro ⟨u,v,rfl,⟨N,J,rfl,g1,H⟩,F⟩
      exact ⟨N,J++v,by simp,g1,J,v,rfl,H,F⟩
    · rintro ⟨u,v,rfl,g1,I,K,rfl,H,F⟩
      exact ⟨u++I,K,by simp,⟨u,I,rfl,g1,H⟩,F⟩
theorem sc:∀(l:List T_Regex) (x:Pt) (b:Bs) (f:List (Nat×Nat)) (G:List Nat→Prop) (a:Nat),kd (mX f) x a b.S.length→(∀U,(∃V,U=b.S++V)→mS (zI U) (mX f) x G)→
    ∃T Q,(gQ l x b).2.S=b.S++T∧(gQ l x b).2.P=b.P++Q∧kd (mX (f++Q)) (gQ l x b).1 a (gQ l x b).2.S.length∧∀U,(∃V,U=(gQ l x b).2.S++V)→mS (zI U) (mX (f++Q)) (gQ l x b).1 (fun w=>G w∨LU l w)
  | [],x,b,f,G,a,hr,hp=>by
    refine ⟨[],[],by simp [gQ],by simp [gQ],by simpa [gQ] using hr,fun U hU=>?_⟩
    have h:=hp U (by simpa [gQ] using hU)
    simp only [List.append_nil,gQ]
    exact h.congr fun w=>by simp [LU]
  | y::l,x,b,f,G,a,hr,hp=>by
    obtain ⟨z,n,o,A,t,B⟩:=iC y b
    have he:∀p q,uF (mX f) (mX n) p q↔mX (f++n) p q:=by
      intro p q
      unfold uF mX
      rw [List.mem_append]
    obtain ⟨T,Q,m,g,i,j⟩:=sc l (kN x (bd y b).1) (bd y b).2 (f++n) (fun w=>G w∨L y w) a ((hr.uni t).edges he)
      (fun U hU=>((hp U (by obtain ⟨V,rfl⟩:=hU; exact ⟨z++V,by simp only [o,List.append_assoc]⟩)).uni (B U hU) hr t).edges he)
    have e:gQ (y::l) x b=gQ l (kN x (bd y b).1) (bd y b).2:=by simp only [gQ]
    rw [e]
    refine ⟨z++T,n++Q,by rw [m]; simp only [o,List.append_assoc],by rw [g]; simp only [A,List.append_assoc],by rw [←List.append_assoc]; exact i,fun U hU=>?_⟩
    rw [←List.append_assoc]
    refine (j U hU).congr fun w=>?_
    simp only [LU]
    rw [or_assoc]
end
end Go.Proofs.YtlcdifnmkafcfaaGreat
namespace Go.Proofs.YtlcdifnmkafcfaaGreat
open Go.Lx
def mB (l:List Nat):List Int:=l.map fun (n:Nat)=>(n:Int)
theorem dP (l:List Nat):(mB l).length=l.length:=by simp [mB]
theorem pM {l:List Nat} {i:Nat} (h:i<l.length):bo (mB l) (i:Int)=some (l[i]:Int):=by
  rw [ba (by rw [dP]; exact h)]; simp [mB]
theorem pN (a b:List Nat):mB (a++b)=mB a++mB b:=by simp [mB]
theorem eZ {l:List T_Regex} {i:Nat} (hi:i<l.length):bm (l.take (i+1))=bm (l.take i)+parts l[i]:=by
  rw [List.take_add_one,List.getElem?_eq_getElem hi,gK]
  simp [bm]
theorem dw (l:List T_Regex) (i:Nat):bm (l.take i)≤bm l:=by
  have:=gK (l.take i) (l.drop i)
  rw [List.take_append_drop] at this
  omega
theorem sX {l:List T_Regex} {f:T_Regex→Option Int} (hf:∀y∈l,f y=some (parts y:Int)) (hl:bm l≤1000000000) {body:Int×Int→Option (cD (Int×Int) Int)}
    (hb:∀n i,body (n,i)=bif decide (i<(l.length:Int)) then (bo l i).bind fun e=>(f e).bind fun r=>(bU .i64 (n+r)).bind fun t=>(bU .i64 (i+1)).bind fun u=>some (.next (t,u)) else some (.stop n)) :
    aT body aR ((1:Int),(0:Int))=some ((bm l+1:Nat):Int):=by
  refine Is.eq ?_
  have hlen:=fG l
  refine Is.upto (fun i (st:Int×Int)=>st.2=(i:Int)∧st.1=((bm (l.take i)+1:Nat):Int)) l.length (by omega) ⟨rfl,by simp [bm]⟩ ?_ ?_
  · rintro i ⟨n,_⟩ hi ⟨rfl,a⟩
    obtain rfl:n=_:=a
    have b:=eZ hi
    have c:=dw l (i+1)
    rw [hb]
    refine Is.dt (by omega) (Is.bnq (ba hi) (Is.bnq (hf _ (List.getElem_mem hi)) (Is.bnq (x:=((bm (l.take (i+1))+1:Nat):Int)) ?_ (Is.bnq (bc (by omega)) (Is.next ⟨rfl,rfl⟩)))))
    rw [cJ (by omega) (by omega),b]; congr 1; omega
  · rintro ⟨n,_⟩ ⟨rfl,a⟩
    obtain rfl:n=_:=a
    rw [hb,List.take_length]
    exact Is.df (by omega) (Is.stop rfl)
theorem qW:∀(fl:Nat) (x:T_Regex),parts x<fl→parts x≤1000000000→M.d1 fl x=some (parts x:Int):=by
  intro fl
  induction fl with
  | zero=>intro x h; omega
  | succ fl ih=>
    intro x c b
    obtain ⟨k,s,l⟩:=x
    have a:parts ⟨k,s,l⟩=bm l+1:=by simp [parts]
    rw [a] at c b
    unfold M.d1
    refine aL (sX (l:=l) (f:=fun y=>M.d1 fl y) (fun y hy=>ih y (by have:=dM hy; omega) (by have:=dM hy; omega)) (by omega) (fun _ _=>rfl)) ?_
    rw [a]
mutual
theorem fS:∀(x:T_Regex) (b:Bs),(bd x b).1.fi.length≤parts x∧(bd x b).1.la.length≤parts x∧(bd x b).2.S.length≤b.S.length+parts x
  | ⟨k,s,l⟩,b=>by
    simp only [parts,bd]
    refine ?_
    cases k == 3
    · cases k == 4
      · cases k == 5
        · cases k == 6
          · simp
          · match l with
            | []=>simp [yJ]
            | y::l=>
              have h:=fS y b
              simp only [cond_false,cond_true,yJ,bm]
              omega
        · have h:=qx l ⟨false,[],[]⟩ b
          simp only [cond_false,cond_true,List.length_nil] at h ⊢
          omega
      · have h:=qy l ⟨true,[],[]⟩ b
        simp only [cond_false,cond_true,List.length_nil] at h ⊢
        omega
    · simp
theorem qy:∀(l:List T_Regex) (x:Pt) (b:Bs),(fW l x b).1.fi.length≤x.fi.length+bm l∧(fW l x b).1.la.length≤x.la.length+bm l∧(fW l x b).2.S.length≤b.S.length+bm l
  | [],x,b=>by simp [fW]
  | y::l,x,b=>by
    have h:=fS y b
    have a:=qy l (eS x (bd y b).1) ⟨(bd y b).2.S,(bd y b).2.P++dE x.la (bd y b).1.fi⟩
    have d:(eS x (bd y b).1).fi.length≤x.fi.length+(bd y b).1.fi.length:=by unfold eS; cases x.nl <;> simp
    have c:(eS x (bd y b).1).la.length≤x.la.length+(bd y b).1.la.length:=by unfold eS; cases (bd y b).1.nl <;> simp
    simp only [fW,bm]
    simp only at a
    omega
theorem qx:∀(l:List T_Regex) (x:Pt) (b:Bs),(gQ l x b).1.fi.length≤x.fi.length+bm l∧(gQ l x b).1.la.length≤x.la.length+bm l∧(gQ l x b).2.S.length≤b.S.length+bm l
  | [],x,b=>by simp [gQ]
  | y::l,x,b=>by
    have h:=fS y b
    have a:=qx l (kN x (bd y b).1) (bd y b).2
    have d:(kN x (bd y b).1).fi.length=x.fi.length+(bd y b).1.fi.length:=by simp [kN]
    have c:(kN x (bd y b).1).la.length=x.la.length+(bd y b).1.la.length:=by simp [kN]
    simp only [gQ,bm]
    omega
end
theorem sd (y:T_Regex):∀(l:List T_Regex) (x:Pt) (b:Bs),fW (l++[y]) x b=(eS (fW l x b).1 (bd y (fW l x b).2).1,⟨(bd y (fW l x b).2).2.S,(bd y (fW l x b).2).2.P++dE (fW l x b).1.la (bd y (fW l x b).2).1.fi⟩)
  | [],x,b=>by simp [fW]
  | z::l,x,b=>by simp only [List.cons_append,fW]; exact sd y l _ _
theorem rZ (y:T_Regex):∀(l:List T_Regex) (x:Pt) (b:Bs),gQ (l++[y]) x b=(kN (gQ l x b).1 (bd y (gQ l x b).2).1,(bd y (gQ l x b).2).2)
  | [],x,b=>by simp [gQ]
  | z::l,x,b=>by simp only [List.cons_append,gQ]; exact rZ y l _ _
theorem eB {α:Type} {l:List α} {i:Nat} (h:i<l.length):l.take (i+1)=l.take i++[l[i]]:=by rw [List.take_add_one,List.getElem?_eq_getElem h]; rfl
theorem wW (x:T_Regex) (b:Bs):(∀p∈(bd x b).1.fi,p≤(bd x b).2.S.length)∧(∀p∈(bd x b).1.la,p≤(bd x b).2.S.length):=by
  obtain ⟨T,Q,h⟩:=iC x b
  exact ⟨fun p hp=>(h.rng.fi p hp).2,fun p hp=>(h.rng.la p hp).2⟩
theorem ux (x:T_Regex) (b:Bs):b.S.length≤(bd x b).2.S.length:=by
  obtain ⟨T,Q,h⟩:=iC x b
  exact h.rng.le
theorem Ak {d:Nat} {k:Int} {s:az 4} {l:List T_Regex} (h:V (d+1) ⟨k,s,l⟩=true):gS k s l.length=true∧∀y∈l,V d y=true:=by
  simp only [V,Bool.and_eq_true,List.all_eq_true] at h
  exact h
theorem uI {s:az 4} {n:Nat} (h:gS 6 s n=true):n=1:=by
  simp only [gS] at h
  simp at h
  exact h.1
theorem sA {k:Int} {s:az 4} {n:Nat} (h:gS k s n=true):k=1∨k=2∨k=3∨k=4∨k=5∨k=6:=by
  by_cases e:k=1; · exact .inl e
  by_cases d:k=2; · exact .inr (.inl d)
  by_cases c:k=3; · exact .inr (.inr (.inl c))
  by_cases b:k=4; · exact .inr (.inr (.inr (.inl b)))
  by_cases a:k=5; · exact .inr (.inr (.inr (.inr (.inl a))))
  by_cases h6:k=6; · exact .inr (.inr (.inr (.inr (.inr h6))))
  simp [gS,e,d,c,b,a,h6] at h
def Dp (b:Bs):Prop:=∀p q,(p,q)∈b.P→p≤b.S.length∧q≤b.S.length
theorem BM (x:T_Regex) {b:Bs} (h:Dp b):Dp (bd x b).2:=by
  obtain ⟨T,Q,hm⟩:=iC x b
  intro p q hp
  rw [hm.P,List.mem_append] at hp
  rcases hp with hp|hp
  · have:=h p q hp; have:=hm.rng.le; omega
  · have:=hm.rng.e p q hp; omega
end Go.Proofs.YtlcdifnmkafcfaaGreat
namespace Go.Proofs.YtlcdifnmkafcfaaGreat
open Go.Lx
def zD (a:List Int) (n:Nat):List Int:=a++List.replicate (n+1 - a.length) (-1)
def uJ (la:List Nat) (i:Int) (a:List Int):List Int:=la.foldl (fun a p=>a.set p i) a
def rH (nl:Bool) (i:Int) (a:List Int):List Int:=bif nl && decide (a.getD 0 0<0) then a.set 0 i else a
def tL (i:Nat) (x:T_Regex) (s:Bs×List Int):Bs×List Int:=
  (⟨(bd x s.1).2.S,(bd x s.1).2.P++dE [0] (bd x s.1).1.fi⟩,rH (bd x s.1).1.nl i (uJ (bd x s.1).1.la i (zD s.2 (bd x s.1).2.S.length)))
def gM:Nat→List T_Regex→Bs×List Int→Bs×List Int
  | _,[],s=>s
  | i,x::l,s=>gM (i+1) l (tL i x s)
theorem rB (y:T_Regex):∀(l:List T_Regex) (i:Nat) (s:Bs×List Int),gM i (l++[y]) s=tL (i+l.length) y (gM i l s)
  | [],i,s=>by simp [gM]
  | x::l,i,s=>by
    simp only [List.cons_append,gM,List.length_cons]
    rw [rB y l (i+1) (tL i x s)]
    congr 1; omega
def fA:Bs×List Int:=(⟨[],[]⟩,[-1])
theorem kR (i:Int):∀(la:List Nat) (a:List Int),(uJ la i a).length=a.length
  | [],a=>rfl
  | p::la,a=>by
    have:=kR i la (a.set p i)
    rw [List.length_set] at this
    exact this
theorem wA (nl:Bool) (i:Int) (a:List Int):(rH nl i a).length=a.length:=by
  unfold rH
  cases nl && decide (a.getD 0 0<0) <;> simp
theorem tW {a:List Int} {n:Nat} (h:a.length≤n+1):(zD a n).length=n+1:=by
  unfold zD
  rw [List.length_append,List.length_replicate]
  omega
structure BV (s:Bs×List Int):Prop where
  cl:Dp s.1
  pos:∀p q,(p,q)∈s.1.P→1≤q
  len:s.2.length=s.1.S.length+1
theorem zK {i:Nat} {x:T_Regex} {s:Bs×List Int} (h:BV s):BV (tL i x s):=by
  obtain ⟨T,Q,hm⟩:=iC x s.1
  have hg:=ux x s.1
  have hbn:=wW x s.1
  have hl:=h.len
  refine ⟨fun p q hp=>?_,fun p q hp=>?_,?_⟩
  · rcases List.mem_append.1 hp with hp|hp
    · exact BM x h.cl p q hp
    · obtain ⟨b,a⟩:=hZ.1 hp
      obtain rfl:=List.mem_singleton.1 b
      exact ⟨Nat.zero_le _,hbn.1 q a⟩
  · rcases List.mem_append.1 hp with hp|hp
    · rw [hm.P] at hp
      rcases List.mem_append.1 hp with hp|hp
      · exact h.pos p q hp
      · have:=hm.rng.e p q hp; omega
    · obtain ⟨_,a⟩:=hZ.1 hp
      have:=hm.rng.fi q a; omega
  · show (rH _ _ _).length=(bd x s.1).2.S.length+1
    rw [wA,kR,tW (by omega)]
theorem qm:∀(l:List T_Regex) (i:Nat) (s:Bs×List Int),BV s→BV (gM i l s)
  | [],_,_,h=>h
  | x::l,i,s,h=>qm l (i+1) (tL i x s) (zK h)
theorem wy:BV fA:=⟨fun p q h=>by simp [fA] at h,fun p q h=>by simp [fA] at h,rfl⟩
theorem mY:∀(l:List T_Regex) (i:Nat) (s:Bs×List Int),(gM i l s).1.S.length≤s.1.S.length+bm l
  | [],_,s=>by simp [gM,bm]
  | x::l,i,s=>by
    have h1:=mY l (i+1) (tL i x s)
    have h2:(tL i x s).1.S.length≤s.1.S.length+parts x:=(fS x s.1).2.2
    simp only [gM,bm]
    omega
theorem vY {a:List Int} {n:Nat} (h:a.length≤n+1) (hn:n≤1000000) {body:List Int→Option (cD (List Int) (List Int))}
    (hb:∀s,body s=bif decide ((s.length:Int)≤(n:Int)) then (cO 8 s [(-1)]).bind fun y=>some (.next y) else some (.stop s)):aT body aR a=some (zD a n):=by
  refine Is.eq ?_
  refine Is.while (fun s=>∃k,s=a++List.replicate k (-1)∧s.length≤n+1) (fun s=>n+1 - s.length) ⟨0,by simp,h⟩ (by omega) ?_
  rintro s ⟨k,rfl,hl⟩
  rw [hb]
  refine Is.dcd (fun b=>Is.bnq (cV (by simp only [List.length_singleton]; omega)) (Is.next ⟨⟨k+1,by rw [List.append_assoc,List.replicate_succ'],by rw [List.length_append,List.length_singleton]; omega⟩,?_⟩)) (fun b=>Is.stop ?_)
  · rw [List.length_append,List.length_singleton]; omega
  · unfold zD
    rw [List.length_append,List.length_replicate] at b hl
    congr 2; omega
theorem vL {a:List Int} {la:List Nat} {v:Int} (hla:∀p∈la,p<a.length) (hl:la.length≤1000000) {body:List Int×Int→Option (cD (List Int×Int) (List Int))}
    (hb:∀s i,body (s,i)=bif decide (i<((mB la).length:Int)) then (bo (mB la) i).bind fun e=>(cZ s e v).bind fun y=>(bU .i64 (i+1)).bind fun t=>some (.next (y,t)) else some (.stop s)):aT body aR (a,(0:Int))=some (uJ la v a):=by
  refine Is.eq ?_
  refine Is.upto (fun i (st:List Int×Int)=>st.2=(i:Int)∧st.1=uJ (la.take i) v a) la.length (by omega) ⟨rfl,rfl⟩ ?_ ?_
  · rintro i ⟨s,_⟩ hi ⟨rfl,b⟩
    obtain rfl:s=_:=b
    rw [hb]
    refine Is.dt (by rw [dP]; omega) (Is.bnq (pM hi) (Is.bnq (dK (by rw [kR]; exact hla _ (List.getElem_mem hi))) (Is.bnq (bc (by omega)) (Is.next ⟨rfl,?_⟩))))
    show List.set _ _ _=_
    unfold uJ
    rw [eB hi,List.foldl_append]
    rfl
  · rintro ⟨s,_⟩ ⟨rfl,b⟩
    obtain rfl:s=_:=b
    rw [hb,List.take_length]
    exact Is.df (by rw [dP]; omega) (Is.stop rfl)
theorem vh {a:List Int} (h:0<a.length):bo a 0=some (a.getD 0 0):=by
  have:=ba (l:=a) (i:=0) h
  rw [show ((0:Nat):Int)=0 from rfl] at this
  rw [this]
  simp [List.getD_eq_getElem?_getD,h]
theorem zN {α:Type} {n:Bool} {a:List Int} {v:Int} {f:List Int→α} (h:0<a.length) :
    ((bif n then (bo a 0).bind fun e=>some (decide (e<0)) else some false).bind fun x=>bif x then (cZ a 0 v).bind fun y=>some (f y) else some (f a))=some (f (rH n v a)):=by
  have hs:cZ a 0 v=some (a.set 0 v):=dK (i:=0) h
  unfold rH
  cases n
  · rfl
  · rw [cond_true,vh h,hs]
    simp only [Option.bind_some,Bool.true_and]
    cases decide (a.getD 0 0<0) <;> rfl
def As (S:List (az 4)) (p q:Nat):dh:=⟨p,q,false,S.getD (q - 1) (az.zero 4)⟩
def vO (P:List (Nat×Nat)) (N p:Nat):List Nat:=(List.range N).filter fun q=>decide ((p,q)∈P)
def uy (S:List (az 4)) (P:List (Nat×Nat)) (N p:Nat):List dh:=(vO P N p).map (As S p)
def lw (S:List (az 4)) (P:List (Nat×Nat)) (N k:Nat):List dh:=(List.range k).flatMap (uy S P N)
def nX (l:List T_Regex):T_NFA:=⟨((gM 0 l fA).2.length:Int),0,lw (gM 0 l fA).1.S (gM 0 l fA).1.P (gM 0 l fA).2.length (gM 0 l fA).2.length,(gM 0 l fA).2⟩
theorem vN (P:List (Nat×Nat)) (N p:Nat):(vO P N p).length≤N:=by
  have:=List.length_filter_le (fun q=>decide ((p,q)∈P)) (List.range N)
  rw [List.length_range] at this
  exact this
theorem oa {P:List (Nat×Nat)} {N p q:Nat}:q∈vO P N p↔q<N∧(p,q)∈P:=by
  unfold vO
  rw [List.mem_filter,List.mem_range]
  simp
theorem pI (S:List (az 4)) (P:List (Nat×Nat)) (N:Nat):∀k,(lw S P N k).length≤k*N
  | 0=>by simp [lw]
  | k+1=>by
    have:=pI S P N k
    have h2:=vN P N k
    unfold lw at this ⊢
    rw [List.range_succ,List.flatMap_append,List.length_append,Nat.succ_mul]
    simp only [List.flatMap_cons,List.flatMap_nil,List.append_nil,uy,List.length_map] at this ⊢
    omega
theorem xC {S:List (az 4)} {q:Nat} (h1:1≤q) (h2:q≤S.length):bo S ((q:Int) - 1)=some (S.getD (q - 1) (az.zero 4)):=by
  have:=ba (l:=S) (i:=q - 1) (by omega)
  rw [show ((q - 1:Nat):Int)=(q:Int) - 1 by omega] at this
  rw [this]
  simp [List.getD_eq_getElem?_getD,show q - 1<S.length by omega]
def Dz {α:Type} (l:List T_Regex) (e:Int) (x:α) (z n:α):Prop:=
  ((∃y∈l,V 30 y=false)∧e=1∧x=z)∨((∀y∈l,V 30 y=true)∧500<bm l∧e=11∧x=z)∨((∀y∈l,V 30 y=true)∧bm l≤500∧e=0∧x=n)
theorem tp {ρ:Type} {l:List T_Regex} (hp:bm l≤1048576) {v n:T_Regex→Option _} (hv:∀y∈l,v y=some (V 30 y)) (hn:∀y∈l,n y=some (parts y:Int)) {z:ρ} {body:Int×Int→Option (cD (Int×Int) (cD Int ρ))}
    (hb:∀t i,body (t,i)=bif decide (i<(l.length:Int)) then (bo l i).bind fun e=>(v e).bind fun r=>bif (!r) then some (.stop (.stop z)) else (n e).bind fun m=>(bU .i64 (t+m)).bind fun t=>(bU .i64 (i+1)).bind fun u=>some (.next (t,u)) else some (.stop (.next t))) :
    Is (aT body aR ((0:Int),(0:Int))) (SP (fun t=>(∀y∈l,V 30 y=true)∧t=(bm l:Int)) (fun r=>(∃y∈l,V 30 y=false)∧r=z)):=by
  have hlen:=fG l
  refine Is.upto (fun i (st:Int×Int)=>st.2=(i:Int)∧(∀y∈l.take i,V 30 y=true)∧st.1=(bm (l.take i):Int)) l.length (by omega) ⟨rfl,by simp,by simp [bm]⟩ ?_ ?_
  · rintro i ⟨t,_⟩ hi ⟨rfl,a,b⟩
    obtain rfl:t=_:=b
    have c:=eZ hi
    have d:=dw l (i+1)
    rw [hb]
    refine Is.dt (by omega) (Is.bnq (ba hi) (Is.bnq (hv _ (List.getElem_mem hi)) (Is.cnd (fun h=>Is.stop ⟨⟨_,List.getElem_mem hi,by simpa using h⟩,rfl⟩) (fun h=>?_))))
    refine Is.bnq (hn _ (List.getElem_mem hi)) (Is.bnq (x:=(bm (l.take (i+1)):Int)) (by rw [cJ (by omega) (by omega),c]; congr 1) (Is.bnq (bc (by omega)) (Is.next ⟨rfl,fun y hy=>?_,rfl⟩)))
    rw [eB hi] at hy
    rcases List.mem_append.1 hy with hy|hy
    · exact a y hy
    · obtain rfl:=List.mem_singleton.1 hy
      simpa using h
  · rintro ⟨t,_⟩ ⟨rfl,a,b⟩
    obtain rfl:t=_:=b
    rw [List.take_length] at a
    rw [hb]
    refine Is.df (by omega) (Is.stop ⟨a,by rw [List.take_length]⟩)
theorem xM {σ ρ:Type} {P:σ→Prop} {Q Q':ρ→Prop} {s:cD σ ρ} (h:SP P Q s) (k:∀r,Q r→Q' r):SP P Q' s:=by
  cases s
  · exact h
  · exact k _ h
theorem rR {l:List T_Regex} (ok:∀x∈l,bP x) (hp:bm l≤1048576):Is (M.i1 l) (fun e=>Dz l e () () ()):=by
  unfold M.i1
  have hn:∀y∈l,M.d1 aR y=some (parts y:Int):=fun y hy=>qW aR y (by have:=dM hy; unfold aR; omega) (by have:=dM hy; omega)
  refine Is.bs (P:=fun t=>(∀y∈l,V 30 y=true)∧t=(bm l:Int)) ((tp hp (v:=M.f7) (n:=M.d1 aR) (fun y hy=>iY (ok y hy)) hn (z:=(1:Int)) (fun _ _=>rfl)).mono fun s hs=>xM hs fun r hr=>.inl ⟨hr.1,hr.2,rfl⟩) fun t ht=>?_
  obtain ⟨a,rfl⟩:=ht
  exact Is.dcd (fun h=>Is.pure (.inr (.inl ⟨a,by omega,rfl,rfl⟩))) (fun h=>Is.pure (.inr (.inr ⟨a,by omega,rfl,rfl⟩)))
theorem yf {a:List Int} {n:Nat} (h:∀x∈a,-1≤x):∀x∈zD a n,-1≤x:=by
  intro x hx
  rcases List.mem_append.1 hx with hx|hx
  · exact h x hx
  · rw [(List.mem_replicate.1 hx).2]; omega
theorem rp {i:Int} (hi:0≤i):∀(la:List Nat) {a:List Int},(∀x∈a,-1≤x)→∀x∈uJ la i a,-1≤x
  | [],_,h=>h
  | p::la,a,h=>rp hi la (a:=a.set p i) fun x hx=>by
    rcases List.mem_or_eq_of_mem_set hx with hx|rfl
    · exact h x hx
    · omega
theorem wl {i:Int} (hi:0≤i) {n:Bool} {a:List Int} (h:∀x∈a,-1≤x):∀x∈rH n i a,-1≤x:=by
  unfold rH
  cases n && decide (a.getD 0 0<0)
  · exact h
  · intro x hx
    rcases List.mem_or_eq_of_mem_set hx with hx|rfl
    · exact h x hx
    · omega
theorem uA:∀(l:List T_Regex) (i:Nat) (s:Bs×List Int),(∀x∈s.2,-1≤x)→∀x∈(gM i l s).2,-1≤x
  | [],_,_,h=>h
  | y::l,i,s,h=>uA l (i+1) (tL i y s) (wl (Int.natCast_nonneg i) (rp (Int.natCast_nonneg i) _ (yf h)))
theorem pt {S:List (az 4)} {P:List (Nat×Nat)} {N k:Nat} {a:dh}:a∈lw S P N k↔∃p q,p<k∧q<N∧(p,q)∈P∧a=As S p q:=by
  unfold lw uy
  rw [List.mem_flatMap]
  constructor
  · rintro ⟨p,hp,h⟩
    obtain ⟨q,hq,rfl⟩:=List.mem_map.1 h
    exact ⟨p,q,List.mem_range.1 hp,(oa.1 hq).1,(oa.1 hq).2,rfl⟩
  · rintro ⟨p,q,hp,hq,hR,rfl⟩
    exact ⟨p,List.mem_range.2 hp,List.mem_map.2 ⟨q,oa.2 ⟨hq,hR⟩,rfl⟩⟩
theorem mv {l:List T_Regex} (h:bm l≤500):VN (nX l)∧(nX l).Arcs.length≤251001:=by
  have hg:=qm l 0 fA wy
  have hgl:=mY l 0 fA
  have b:fA.1.S.length=0:=rfl
  have hal:=hg.len
  have hN:(gM 0 l fA).2.length≤501:=by omega
  refine ⟨⟨?_,?_,⟨?_,?_⟩,rfl,uA l 0 fA (by simp [fA]),?_⟩,?_⟩
  · show (1:Int)≤((gM 0 l fA).2.length:Int); omega
  · show ((gM 0 l fA).2.length:Int)≤2000; omega
  · show (0:Int)≤0; omega
  · show (0:Int)<((gM 0 l fA).2.length:Int); omega
  · intro a ha
    obtain ⟨p,q,hp,hq,_,rfl⟩:=pt.1 ha
    refine ⟨⟨?_,?_⟩,⟨?_,?_⟩,fun e=>by cases e⟩
    · show (0:Int)≤(p:Int); omega
    · show (p:Int)<((gM 0 l fA).2.length:Int); omega
    · show (0:Int)≤(q:Int); omega
    · show (q:Int)<((gM 0 l fA).2.length:Int); omega
  · exact Nat.le_trans (pI _ _ _ _) (Nat.le_trans (Nat.mul_le_mul hN hN) (by decide))
end Go.Proofs.YtlcdifnmkafcfaaGreat
namespace Go.Proofs.YtlcdifnmkafcfaaGreat
open Go.Lx
open Classical
def big:Nat:=2199023255552
inductive Fit:T_Regex→Prop where
  | mk (x:T_Regex):W4 x.Set→x.Kids.length≤big→(x.Kind=6→∃y,x.Kids=[y])→(x.Kind=1→x=dc)→(x.Kind=2→x=cN)→(∀y∈x.Kids,Fit y)→Fit x
theorem Fit.set {x} (h:Fit x):W4 x.Set:=by cases h; assumption
theorem Fit.len {x} (h:Fit x):x.Kids.length≤big:=by cases h; assumption
theorem Fit.star {x} (h:Fit x):x.Kind=6→∃y,x.Kids=[y]:=by cases h; assumption
theorem Fit.kids {x} (h:Fit x):∀y∈x.Kids,Fit y:=by cases h; assumption
theorem ie:Fit dc:=.mk _ eP (by simp [dc]) (by simp [dc]) (fun _=>rfl) (by simp [dc]) (by simp [dc])
theorem jL:Fit cN:=.mk _ eP (by simp [cN]) (by simp [cN]) (by simp [cN]) (fun _=>rfl) (by simp [cN])
theorem ey {x y:T_Regex} (h:y∈x.Kids):height y<height x:=by
  obtain ⟨k,s,l⟩:=x
  have:height y≤bK l:=ew h
  simp only [height]
  omega
theorem wD:∀fl a b,Fit a→height a<fl→M.e5 fl a b=some (decide (a=b)):=by
  intro fl
  induction fl with
  | zero=>intro a b _ h; omega
  | succ fl ih=>
    rintro ⟨k,s,l⟩ ⟨k',s',l'⟩ hF hh
    unfold M.e5
    refine Is.eq ?_
    have ib:Is (bif k != k' then some true else bif s != s' then some true else some ((l.length:Int) != (l'.length:Int))) (fun r=>r=!decide (k=k'∧s=s'∧l.length=l'.length)):=by
      refine Is.cnd (fun h=>Is.pure ?_) (fun h=>Is.cnd (fun c=>Is.pure ?_) (fun c=>Is.pure ?_))
      · have:=fN h
        simp [this]
      · have:s≠s':=by simpa using c
        simp [this]
      · have n:=eM h
        have m:s=s':=by simpa using c
        subst n; subst m
        by_cases f:l.length=l'.length
        · rw [mx (by omega)]; simp [f]
        · rw [ij (by omega)]; simp [f]
    refine Is.bnd ib ?_
    rintro _ rfl
    refine Is.cnd (fun h=>Is.pure ?_) (fun h=>?_)
    · have h:¬ (k=k'∧s=s'∧l.length=l'.length):=of_decide_eq_false (by simpa only [Bool.not_eq_true'] using h)
      refine (dI ?_).symm
      intro e
      injection e with j g d
      exact h ⟨j,g,by rw [d]⟩
    · have h:k=k'∧s=s'∧l.length=l'.length:=of_decide_eq_true (by simpa only [Bool.not_eq_false'] using h)
      obtain ⟨rfl,rfl,hl⟩:=h
      refine Is.bs (P:=fun _=>l=l') (Q:=fun r=>r=decide ((⟨k,s,l⟩:T_Regex)=⟨k,s,l'⟩)) ?_ (fun _ e=>Is.pure (dH (by rw [e])).symm)
      have hb:=hF.len
      refine Is.upto (fun i st=>st=(i:Int)∧l.take i=l'.take i) l.length (Nat.le_trans hb (by decide)) ⟨rfl,rfl⟩ ?_ ?_
      · rintro i _ hi ⟨rfl,hJ⟩
        refine Is.dt (show (i:Int)<(l.length:Int) by omega) (Is.bnq (ba hi) (Is.bnq (ba (hl ▸ hi)) ?_))
        have hk:=ey (x:=⟨k,s,l⟩) (List.getElem_mem hi)
        refine Is.bnq (ih _ _ (hF.kids _ (List.getElem_mem hi)) (by omega)) ?_
        refine Is.cnd (fun h=>Is.stop ?_) (fun h=>?_)
        · have h:l[i]≠l'[i]:=by simpa using h
          refine (dI ?_).symm
          intro e
          injection e with j g d
          subst d
          exact h rfl
        · have h:l[i]=l'[i]:=by simpa using h
          refine Is.bnq (bc (by unfold big at hb; simp only at hb; omega)) (Is.next ⟨rfl,?_⟩)
          rw [List.take_add_one,List.take_add_one,hJ,List.getElem?_eq_getElem hi,List.getElem?_eq_getElem (hl ▸ hi),h]
      · rintro _ ⟨rfl,hJ⟩
        refine Is.df (show ¬ (l.length:Int)<(l.length:Int) by omega) (Is.stop ?_)
        rw [List.take_length,hl,List.take_length] at hJ
        exact hJ
theorem mu:∀fl x,Fit x→height x<fl→M.a5 fl x=some (nb x):=by
  intro fl
  induction fl with
  | zero=>intro a _ h; omega
  | succ fl ih=>
    rintro ⟨k,s,l⟩ hF hh
    have hl:l.length≤9223372036854775807:=Nat.le_trans hF.len (by decide)
    have hk:∀y∈l,M.a5 fl y=some (nb y):=fun y hy=>ih y (hF.kids y hy) (by have:=ey (x:=⟨k,s,l⟩) hy; omega)
    have e:=ol (ρ:=cD Unit (cD Unit Bool)) (X:=.stop (.stop false)) (Y:=.next ()) hk hl
    have b:=rr (ρ:=cD Unit Bool) (X:=.stop true) (Y:=.next ()) hk hl
    unfold M.a5
    rcases ea k with rfl|rfl|rfl|rfl|rfl|⟨b,f,d,c,h6⟩
    · simp [nb,bg]
    · simp [nb,bg]
    · refine Is.eq (Is.bs (P:=fun _=>False) (Is.bnq (x:=false) rfl (Is.cf rfl (Is.ct rfl ?_))) (fun _ h=>h.elim))
      rw [e]
      show Is _ (SP _ (fun r=>r=Ar l))
      rw [wg]
      cases l.all nb
      · exact Is.stop rfl
      · exact Is.stop rfl
    · refine Is.eq (Is.bs (P:=fun _=>l.any nb=false) (Q:=fun r=>r=Aq l) (Is.bnq (x:=false) rfl (Is.cf rfl (Is.cf rfl (Is.ct rfl ?_)))) (fun _ h=>Is.pure (by rw [sY,h])))
      rw [b,sY]
      cases l.any nb
      · exact Is.next rfl
      · exact Is.stop rfl
    · simp [nb,bg]
    · simp [nb,bg,bM b,bM d,bM c,bM h6]
def FH (x:T_Regex):Prop:=Fit x∧height x<aR
theorem FH.kid {x y:T_Regex} (h:FH x) (hy:y∈x.Kids):FH y:=⟨h.1.kids y hy,by have:=ey hy; have:=h.2; omega⟩
theorem mb (l:List T_Regex):∀ks,ks.length≤(l.foldl fX ks).length:=by
  induction l with
  | nil=>exact fun _=>Nat.le_refl _
  | cons y l ih=>
    intro ks
    refine Nat.le_trans ?_ (ih (fX ks y))
    unfold fX
    split <;> simp
theorem jr {l m:List T_Regex} (h:l.length+m.length≤big):cO 64 l m=some (l++m):=cV (by unfold big at h; omega)
theorem yL {r a:T_Regex} (h:FH r) (ha:a∈mn r):FH a:=by
  unfold mn at ha
  rw [List.mem_filter] at ha
  cases hk:r.Kind == 5
  · rw [hk,cond_false,List.mem_singleton] at ha; exact ha.1 ▸ h
  · rw [hk,cond_true] at ha; exact h.kid ha.1
theorem qM {l:List T_Regex} (hF:∀r∈l,FH r) (hl:l.length≤big) (hn:(kM l).length≤big):M.g8 l=some (un l):=by
  refine Is.eq ?_
  unfold M.g8
  refine Is.bnd (P:=fun r=>r=kM l) ?_ ?_
  · refine Is.upto (fun i (st:List T_Regex×Int)=>st.2=(i:Int)∧st.1=kM (l.take i)) l.length (Nat.le_trans hl (by decide)) ⟨rfl,rfl⟩ ?_ ?_
    · rintro i ⟨_,_⟩ hi ⟨rfl,rfl⟩
      refine Is.dt (show (i:Int)<(l.length:Int) by omega) ?_
      have hi':i<9223372036854775807:=by unfold big at hl; omega
      refine Is.bnd (P:=fun r=>r=kM (l.take (i+1))) ?_ (fun r hr=>Is.bnq (bc hi') (Is.next ⟨rfl,hr⟩))
      refine Is.bnq (ba hi) ?_
      have hf:=hF _ (List.getElem_mem hi)
      have hun:kM (l.take (i+1))=(mn l[i]).foldl fX (kM (l.take i)):=by
        unfold kM
        rw [List.take_add_one,List.getElem?_eq_getElem hi,List.flatMap_append,List.foldl_append]
        simp
      have hsum:kM l=((l.drop (i+1)).flatMap mn).foldl fX (kM (l.take (i+1))):=by
        unfold kM
        rw [←List.foldl_append,←List.flatMap_append,List.take_append_drop]
      have hle:(kM (l.take (i+1))).length≤big:=Nat.le_trans (by rw [hsum]; exact mb _ _) hn
      generalize hm:(bif l[i].Kind == 5 then l[i].Kids else [l[i]])=m
      have hmF:∀y∈m,FH y:=by
        intro y hy
        subst hm
        cases hk:l[i].Kind == 5
        · rw [hk,cond_false,List.mem_singleton] at hy; exact hy ▸ hf
        · rw [hk,cond_true] at hy; exact hf.kid hy
      have hml:m.length≤big:=by
        subst hm
        cases hk:l[i].Kind == 5
        · rw [cond_false]; show 1≤big; decide
        · rw [cond_true]; exact hf.1.len
      have ha:mn l[i]=m.filter (·.Kind != 1):=by subst hm; rfl
      refine Is.bnd (P:=fun r=>r=m) ?_ ?_
      · subst hm
        refine Is.cnd (fun h=>Is.pure (by rw [h]; rfl)) (fun h=>Is.pure (by rw [h]; rfl))
      intro r hr
      rw [hr,hun,ha]
      rw [hun,ha] at hle
      refine Is.upto (fun j (st:List T_Regex×Int)=>st.2=(j:Int)∧st.1=((m.take j).filter (·.Kind != 1)).foldl fX (kM (l.take i))) m.length (Nat.le_trans hml (by decide)) ⟨rfl,rfl⟩ ?_ ?_
      · rintro j ⟨_,_⟩ hj ⟨rfl,rfl⟩
        refine Is.dt (show (j:Int)<(m.length:Int) by omega) ?_
        have hj':j<9223372036854775807:=by unfold big at hml; omega
        refine Is.bnd (P:=fun r=>r=((m.take (j+1)).filter (·.Kind != 1)).foldl fX (kM (l.take i))) ?_ (fun r hr=>Is.bnq (bc hj') (Is.next ⟨rfl,hr⟩))
        have c:(m.take (j+1)).filter (·.Kind != 1)=(m.take j).filter (·.Kind != 1)++[m[j]].filter (·.Kind != 1):=by
          rw [List.take_add_one,List.getElem?_eq_getElem hj,List.filter_append]; rfl
        have b:m.filter (·.Kind != 1)=(m.take (j+1)).filter (·.Kind != 1)++(m.drop (j+1)).filter (·.Kind != 1):=by
          rw [←List.filter_append,List.take_append_drop]
        have a:(((m.take (j+1)).filter (·.Kind != 1)).foldl fX (kM (l.take i))).length≤big:=by
          refine Nat.le_trans ?_ hle
          rw [b,List.foldl_append]
          exact mb _ _
        rw [c,List.foldl_append] at a ⊢
        generalize hks:((m.take j).filter (·.Kind != 1)).foldl fX (kM (l.take i))=ks at a ⊢
        have hksF:∀y∈ks,FH y:=by
          intro y hy
          rw [←hks,pr] at hy
          rcases hy with hy|hy
          · obtain ⟨r,hr,hy⟩:=jF.1 hy
            exact yL (hF r (List.mem_of_mem_take hr)) hy
          · exact hmF y (List.mem_of_mem_take (List.mem_filter.1 hy).1)
        have hksl:ks.length≤big:=Nat.le_trans (mb _ _) a
        refine Is.bnq (ba hj) ?_
        refine Is.cnd (fun h=>Is.pure ?_) (fun h=>?_)
        · rw [List.filter_cons,if_neg (by simp [cS h])]; rfl
        · have hfl:[m[j]].filter (·.Kind != 1)=[m[j]]:=by rw [List.filter_cons,if_pos (by simpa using eN h)]; rfl
          rw [hfl] at a ⊢
          have hloop:=rr (ρ:=cD Unit (List T_Regex)) (l:=ks) (f:=fun e=>M.e5 aR e m[j]) (p:=fun e=>decide (e=m[j])) (X:=.stop ks) (Y:=.next ())
            (fun y hy=>wD aR y m[j] (hksF y hy).1 (hksF y hy).2) (Nat.le_trans hksl (by decide))
          rw [hloop]
          by_cases hc:m[j]∈ks
          · rw [if_pos (List.any_eq_true.2 ⟨_,hc,by simp⟩)]
            refine Is.pure ?_
            show ks=fX ks m[j]
            unfold fX
            rw [if_pos hc]
          · rw [if_neg (by
              intro h
              obtain ⟨y,hy,he⟩:=List.any_eq_true.1 h
              exact hc (of_decide_eq_true he ▸ hy))]
            have he:fX ks m[j]=ks++[m[j]]:=by unfold fX; rw [if_neg hc]
            have hlen:ks.length+1≤big:=by
              have:([m[j]].foldl fX ks).length≤big:=a
              rw [List.foldl_cons,List.foldl_nil,he,List.length_append] at this
              exact this
            refine Is.bnq (jr hlen) (Is.pure ?_)
            show ks++[m[j]]=fX ks m[j]
            rw [he]
      · rintro ⟨_,_⟩ ⟨rfl,rfl⟩
        refine Is.df (show ¬ (m.length:Int)<(m.length:Int) by omega) (Is.stop ?_)
        rw [List.take_length]
    · rintro ⟨_,_⟩ ⟨rfl,rfl⟩
      refine Is.df (show ¬ (l.length:Int)<(l.length:Int) by omega) (Is.stop ?_)
      rw [List.take_length]
  · rintro _ rfl
    unfold un
    generalize kM l=ks
    match ks with
    | []=>exact Is.pure rfl
    | [y]=>exact Is.cf (by simp) (Is.ct (by simp) (Is.bnq (ba (i:=0) (by simp)) (Is.pure rfl)))
    | y::z::ks=>exact Is.cf (bM (by simp only [List.length_cons]; omega)) (Is.cf (bM (by simp only [List.length_cons]; omega)) (Is.pure rfl))
theorem pD {l:List T_Regex} (hl:l.length≤big):M.g3 l=some (ct l):=by
  refine Is.eq ?_
  unfold M.g3
  refine Is.bs (P:=fun r=>r=ne l∧l.find? (·.Kind == 1)=none) ?_ ?_
  · refine Is.upto (fun i (st:List T_Regex×Int)=>st.2=(i:Int)∧st.1=ne (l.take i)∧(l.take i).find? (·.Kind == 1)=none) l.length (Nat.le_trans hl (by decide)) ⟨rfl,rfl,rfl⟩ ?_ ?_
    · rintro i ⟨_,_⟩ hi ⟨rfl,rfl,hJ⟩
      refine Is.dt (show (i:Int)<(l.length:Int) by omega) ?_
      have hi':i<9223372036854775807:=by unfold big at hl; omega
      have hnl:(ne (l.take i)).length≤i:=Nat.le_trans (List.length_filter_le _ _) (by rw [List.length_take]; omega)
      have hs:l.take (i+1)=l.take i++[l[i]]:=by rw [List.take_add_one,List.getElem?_eq_getElem hi]; rfl
      refine Is.bs (P:=fun r=>r=ne (l.take (i+1))∧(l.take (i+1)).find? (·.Kind == 1)=none) ?_ (fun r hr=>Is.bnq (bc hi') (Is.next ⟨rfl,hr.1,hr.2⟩))
      refine Is.bnq (ba hi) (Is.cnd (fun h=>Is.stop ?_) (fun h=>?_))
      · have hf:l.find? (·.Kind == 1)=some l[i]:=by
          have:l=l.take i++l[i]::l.drop (i+1):=by rw [List.getElem_cons_drop,List.take_append_drop]
          refine (congrArg (List.find? (fun x=>x.Kind == 1)) this).trans ?_
          rw [List.find?_append,hJ,List.find?_cons,h]
          rfl
        show l[i]=ct l
        unfold ct
        rw [hf]
      · have hf:(l.take (i+1)).find? (·.Kind == 1)=none:=by
          rw [hs,List.find?_append,hJ,List.find?_cons,h]; rfl
        refine Is.cnd (fun a=>?_) (fun a=>Is.next ⟨?_,hf⟩)
        · refine Is.bnq (jr (by simp only [List.length_singleton]; omega)) (Is.next ⟨?_,hf⟩)
          unfold ne
          rw [hs,List.filter_append]
          congr 1
          rw [List.filter_cons,if_pos a]; rfl
        · unfold ne
          rw [hs,List.filter_append,List.filter_cons,if_neg (by rw [a]; simp)]
          simp
    · rintro ⟨_,_⟩ ⟨rfl,rfl,hJ⟩
      refine Is.df (show ¬ (l.length:Int)<(l.length:Int) by omega) (Is.stop ⟨?_,?_⟩)
      · rw [List.take_length]
      · rw [List.take_length] at hJ; exact hJ
  · rintro _ ⟨rfl,hf⟩
    unfold ct
    rw [hf]
    generalize ne l=ks
    match ks with
    | []=>exact Is.pure rfl
    | [y]=>exact Is.cf (by simp) (Is.ct (by simp) (Is.bnq (ba (i:=0) (by simp)) (Is.pure rfl)))
    | y::z::ks=>exact Is.cf (bM (by simp only [List.length_cons]; omega)) (Is.cf (bM (by simp only [List.length_cons]; omega)) (Is.pure rfl))
def Gd (x:T_Regex):Prop:=∀b:Nat,b<256→∀fl,height x<fl→M.a6 fl x b=some (dr x b)
theorem jo {x:T_Regex} (hF:Fit x) (c:x.Kind≠4) (a:x.Kind≠5) (h6:x.Kind≠6):Gd x:=by
  intro b hb fl hfl
  obtain ⟨fl,rfl⟩:∃f,fl=f+1:=⟨fl - 1,by omega⟩
  obtain ⟨k,s,l⟩:=x
  unfold M.a6
  have hm:=wv hF.set hb
  simp only at hm c a h6
  by_cases d:k=3
  · subst d
    simp only [beq_self_eq_true,cond_true,hm,Option.bind_some,dr]
    cases fF s b <;> rfl
  · simp only [bM d,bM c,bM a,bM h6,cond_false,bg,dr]
    rfl
theorem yl {s:az 4} {y:T_Regex} (hy:Gd y):Gd ⟨6,s,[y]⟩:=by
  intro b hb fl hfl
  obtain ⟨fl,rfl⟩:∃f,fl=f+1:=⟨fl - 1,by omega⟩
  unfold M.a6
  have hh:height y<fl:=by simp only [height,bK] at hfl; omega
  refine Is.eq ?_
  refine Is.bs (P:=fun _=>False) (Is.cf rfl (Is.cf rfl (Is.cf rfl (Is.ct rfl ?_)))) (fun _ h=>h.elim)
  refine Is.bnq (ba (i:=0) (by simp)) (Is.bnq (hy b hb fl hh) (Is.bnq (pD (by show 2≤big; decide)) (Is.stop rfl)))
theorem yv (l:List T_Regex) (b:Nat):(lr l b).length≤l.length:=by
  induction l with
  | nil=>simp [lr]
  | cons y l ih=>
    rw [lr]
    cases nb y
    · simp
    · simp only [cond_true,List.length_cons]; omega
theorem yu (l:List T_Regex) (b:Nat):(lq l b).length=l.length:=by
  induction l with
  | nil=>simp [lq]
  | cons y l ih=>simp [lq,ih]
theorem vH {l:List T_Regex} {i:Nat} (h:i≤l.length):iS l (i:Int) (l.length:Int)=some (l.drop i):=by
  unfold iS
  rw [if_pos ⟨by omega,by omega,by omega⟩]
  simp
theorem vi {s:az 4} {l:List T_Regex} (hF:∀y∈l,FH y∧Gd y) (hl:l.length≤big) (hd:∀b<256,(kM (lr l b)).length≤big∧∀r∈lr l b,FH r):Gd ⟨4,s,l⟩:=by
  intro b hb fl hfl
  obtain ⟨fl,rfl⟩:∃f,fl=f+1:=⟨fl - 1,by omega⟩
  unfold M.a6
  have hh:∀y∈l,height y<fl:=fun y hy=>by have:=ey (x:=⟨4,s,l⟩) hy; omega
  refine Is.eq ?_
  refine Is.bs (P:=fun _=>False) (Is.cf rfl (Is.ct rfl ?_)) (fun _ h=>h.elim)
  refine Is.bnd (P:=fun r=>r=lr l b) ?_ (fun r hr=>by
    subst hr
    exact Is.bnq (qM (hd b hb).2 (Nat.le_trans (yv l b) hl) (hd b hb).1) (Is.stop rfl))
  refine Is.upto (fun i (st:List T_Regex×Int)=>st.2=(i:Int)∧st.1++lr (l.drop i) b=lr l b∧st.1.length≤i) l.length (Nat.le_trans hl (by decide)) ⟨rfl,by simp,by simp⟩ ?_ ?_
  · rintro i ⟨out,_⟩ hi ⟨rfl,hJ,hlen⟩
    simp only at hJ hlen
    have hi':i<9223372036854775807:=by unfold big at hl; omega
    have hm:=List.getElem_mem hi
    have hds:l.drop i=l[i]::l.drop (i+1):=(List.getElem_cons_drop hi).symm
    refine Is.dt (show (i:Int)<(l.length:Int) by omega) (Is.bnq (ba hi) (Is.bnq (bc hi') (Is.bnq (vH (l:=l) (i:=i+1) hi) ?_)))
    refine Is.bnq ((hF _ hm).2 b hb fl (hh _ hm)) (Is.bnq (jr (by show 1+(l.drop (i+1)).length≤big; rw [List.length_drop]; omega)) ?_)
    refine Is.bnq (pD (by simp only [List.length_append,List.length_singleton,List.length_drop]; omega)) (Is.bnq (jr (by simp only [List.length_singleton]; omega)) ?_)
    refine Is.bnq (mu aR _ (hF _ hm).1.1 (hF _ hm).1.2) ?_
    rw [hds,lr] at hJ
    refine Is.cnd (fun h=>Is.stop ?_) (fun h=>Is.next ⟨rfl,?_,?_⟩)
    · have h:nb l[i]=false:=by simpa using h
      rw [h] at hJ
      exact hJ
    · have h:nb l[i]=true:=by simpa using h
      rw [h] at hJ
      rw [List.append_assoc]
      exact hJ
    · simp only [List.length_append,List.length_singleton]; omega
  · rintro ⟨out,_⟩ ⟨rfl,hJ,hlen⟩
    refine Is.df (show ¬ (l.length:Int)<(l.length:Int) by omega) (Is.stop ?_)
    rw [List.drop_length] at hJ
    simpa [lr] using hJ
theorem wx {s:az 4} {l:List T_Regex} (hF:∀y∈l,Gd y) (hl:l.length≤big) (hd:∀b<256,(kM (lq l b)).length≤big∧∀r∈lq l b,FH r):Gd ⟨5,s,l⟩:=by
  intro b hb fl hfl
  obtain ⟨fl,rfl⟩:∃f,fl=f+1:=⟨fl - 1,by omega⟩
  unfold M.a6
  have hh:∀y∈l,height y<fl:=fun y hy=>by have:=ey (x:=⟨4,s,l⟩) hy; simp only [height] at hfl this; omega
  refine Is.eq ?_
  refine Is.bs (P:=fun _=>False) (Is.cf rfl (Is.cf rfl (Is.ct rfl ?_))) (fun _ h=>h.elim)
  refine Is.bnd (P:=fun r=>r=lq l b) ?_ (fun r hr=>by
    subst hr
    exact Is.bnq (qM (hd b hb).2 (by rw [yu]; exact hl) (hd b hb).1) (Is.stop rfl))
  refine Is.upto (fun i (st:List T_Regex×Int)=>st.2=(i:Int)∧st.1++lq (l.drop i) b=lq l b∧st.1.length≤i) l.length (Nat.le_trans hl (by decide)) ⟨rfl,by simp,by simp⟩ ?_ ?_
  · rintro i ⟨out,_⟩ hi ⟨rfl,hJ,hlen⟩
    simp only at hJ hlen
    have hi':i<9223372036854775807:=by unfold big at hl; omega
    have hm:=List.getElem_mem hi
    have hds:l.drop i=l[i]::l.drop (i+1):=(List.getElem_cons_drop hi).symm
    refine Is.dt (show (i:Int)<(l.length:Int) by omega) (Is.bnq (ba hi) ?_)
    refine Is.bnq (hF _ hm b hb fl (hh _ hm)) (Is.bnq (jr (by simp only [List.length_singleton]; omega)) (Is.bnq (bc hi') (Is.next ⟨rfl,?_,?_⟩)))
    · rw [hds,lq] at hJ
      rw [List.append_assoc]
      exact hJ
    · simp only [List.length_append,List.length_singleton]; omega
  · rintro ⟨out,_⟩ ⟨rfl,hJ,hlen⟩
    refine Is.df (show ¬ (l.length:Int)<(l.length:Int) by omega) (Is.stop ?_)
    rw [List.drop_length] at hJ
    simpa [lq] using hJ
end Go.Proofs.YtlcdifnmkafcfaaGreat
namespace Go.Proofs.YtlcdifnmkafcfaaGreat
open Go.Lx
open Classical
inductive Cn:T_Regex→Prop where
  | mk (x:T_Regex):W4 x.Set→(x.Kind=6→∃y,x.Kids=[y])→(x.Kind=1→x=dc)→(x.Kind=2→x=cN)→(∀y∈x.Kids,Cn y)→Cn x
theorem Cn.star {x} (h:Cn x):x.Kind=6→∃y,x.Kids=[y]:=by cases h; assumption
theorem Cn.none {x} (h:Cn x):x.Kind=1→x=dc:=by cases h; assumption
theorem Cn.empty {x} (h:Cn x):x.Kind=2→x=cN:=by cases h; assumption
theorem Cn.kids {x} (h:Cn x):∀y∈x.Kids,Cn y:=by cases h; assumption
theorem Fit.cn {x} (h:Fit x):Cn x:=by
  induction h with
  | mk x h1 _ h3 h4 h5 _ ih=>exact .mk x h1 h3 h4 h5 ih
theorem na:Cn dc:=ie.cn
theorem rP:Cn cN:=jL.cn
theorem yx {k:Int} {l:List T_Regex} (hk:k=4∨k=5) (h:∀y∈l,Cn y):Cn ⟨k,az.zero 4,l⟩:=
  .mk _ eP (fun e=>by simp only at e; omega) (fun e=>by simp only at e; omega) (fun e=>by simp only at e; omega) h
theorem zi {k:Int} {e:T_Regex} {l:List T_Regex} (hk:k=4∨k=5) (he:Cn e) (h:∀y∈l,Cn y):Cn (wr k e l):=by
  match l with
  | []=>exact he
  | [y]=>exact h y (by simp)
  | y::z::l=>exact yx hk h
theorem yK {r a:T_Regex} (h:Cn r) (ha:a∈mn r):Cn a:=by
  unfold mn at ha
  rw [List.mem_filter] at ha
  cases hk:r.Kind == 5
  · rw [hk,cond_false,List.mem_singleton] at ha; exact ha.1 ▸ h
  · rw [hk,cond_true] at ha; exact h.kids a ha.1
theorem zj {l:List T_Regex} (h:∀r∈l,Cn r):Cn (un l):=zi (.inr rfl) na fun y hy=>by
  obtain ⟨r,hr,hy⟩:=jF.1 hy
  exact yK (h r hr) hy
theorem wK {l:List T_Regex} (h:∀r∈l,Cn r):Cn (ct l):=by
  unfold ct
  split
  · rename_i e he; exact h e (List.mem_of_find?_eq_some he)
  · exact zi (.inl rfl) rP fun y hy=>h y (List.mem_filter.1 hy).1
theorem qh {l:List T_Regex} {b:Nat} {r:T_Regex} (h:r∈lr l b):∃pre y l',l=pre++y::l'∧r=ct (dr y b::l'):=by
  induction l with
  | nil=>cases h
  | cons y l ih=>
    rw [lr,List.mem_cons] at h
    rcases h with rfl|h
    · exact ⟨[],y,l,rfl,rfl⟩
    · cases hn:nb y
      · rw [hn] at h; cases h
      · rw [hn] at h
        obtain ⟨pre,z,l',rfl,rfl⟩:=ih h
        exact ⟨y::pre,z,l',rfl,rfl⟩
theorem mW {l:List T_Regex} {b:Nat} {r:T_Regex}:r∈lq l b↔∃y∈l,r=dr y b:=by
  induction l with
  | nil=>simp [lq]
  | cons y l ih=>simp [lq,ih]
theorem zU {s l b}:dr ⟨4,s,l⟩ b=un (lr l b):=by rw [dr]; rfl
theorem zT {s l b}:dr ⟨5,s,l⟩ b=un (lq l b):=by rw [dr]; rfl
theorem zS {s y b}:dr ⟨6,s,[y]⟩ b=ct [dr y b,⟨6,s,[y]⟩]:=by rw [dr,lq,lq]; rfl
theorem zV {s l b}:dr ⟨3,s,l⟩ b=bif fF s b then cN else dc:=by rw [dr]; rfl
theorem rL {k s l b} (h3:k≠3) (h4:k≠4) (h5:k≠5) (h6:k≠6):dr ⟨k,s,l⟩ b=dc:=by
  rw [dr,bM h3,bM h4,bM h5,bM h6]; rfl
theorem AZ {x:T_Regex} {b:Nat} (h:x.Kind=1):dr x b=dc:=by
  obtain ⟨k,s,l⟩:=x
  obtain rfl:k=1:=h
  exact rL (by decide) (by decide) (by decide) (by decide)
theorem il {x:T_Regex} (hC:Cn x) (h:x.Kind=6):∃s y,x=⟨6,s,[y]⟩∧Cn y:=by
  obtain ⟨y,hy⟩:=hC.star h
  obtain ⟨k,s,l⟩:=x
  cases h; cases hy
  exact ⟨s,y,rfl,hC.kids y (by simp)⟩
theorem us (b:Nat):∀x,Cn x→Cn (dr x b):=by
  refine T_Regex.ind fun k s l ih hC=>?_
  have hk:=hC.kids
  rcases ea k with rfl|rfl|rfl|rfl|rfl|⟨f,d,c,a,h6⟩
  · rw [rL (by decide) (by decide) (by decide) (by decide)]; exact na
  · rw [zV]
    cases fF s b
    · exact na
    · exact rP
  · rw [zU]
    refine zj fun r hr=>?_
    obtain ⟨pre,y,l',rfl,rfl⟩:=qh hr
    refine wK fun z hz=>?_
    rcases List.mem_cons.1 hz with rfl|hz
    · exact ih y (by simp) (hk y (by simp))
    · exact hk z (by simp [hz])
  · rw [zT]
    refine zj fun r hr=>?_
    obtain ⟨y,hy,rfl⟩:=mW.1 hr
    exact ih y hy (hk y hy)
  · obtain ⟨s',y,e,hy⟩:=il hC rfl
    cases e
    rw [zS]
    refine wK fun z hz=>?_
    rcases List.mem_cons.1 hz with rfl|hz
    · exact ih y (by simp) hy
    · rw [List.mem_singleton.1 hz]; exact hC
  · rw [rL d c a h6]; exact na
theorem wJ (v:List Nat):∀x,Cn x→Cn (fP x v):=by
  induction v with
  | nil=>exact fun _ h=>h
  | cons b v ih=>exact fun x h=>ih _ (us b x h)
theorem wH {z:T_Regex} (h:Cn z):ct [z]=z:=by
  unfold ct ne
  by_cases h1:z.Kind=1
  · rw [List.find?_cons,kb h1]
  · rw [List.find?_cons,bM h1]
    by_cases h2:z.Kind=2
    · simp [h2,wr,←h.empty h2]
    · simp [h2,wr]
theorem AU (l:List T_Regex):ne (ne l)=ne l:=by unfold ne; rw [List.filter_filter]; simp
theorem yp (l:List T_Regex):(ne l).find? (·.Kind == 1)=l.find? (·.Kind == 1):=by
  induction l with
  | nil=>rfl
  | cons y l ih=>
    unfold ne
    by_cases h:y.Kind=2
    · rw [List.filter_cons,if_neg (by simp [h]),List.find?_cons,bM (by omega:y.Kind≠1)]
      exact ih
    · rw [List.filter_cons,if_pos (by simp [h]),List.find?_cons,List.find?_cons]
      cases y.Kind == 1
      · exact ih
      · rfl
theorem wI (z:T_Regex) (l:List T_Regex):ct (z::ne l)=ct (z::l):=by
  have h1:(z::ne l).find? (·.Kind == 1)=(z::l).find? (·.Kind == 1):=by rw [List.find?_cons,List.find?_cons,yp]
  have h2:ne (z::ne l)=ne (z::l):=by
    have e:∀m,ne (z::m)=ne [z]++ne m:=fun m=>by unfold ne; rw [←List.filter_append]; rfl
    rw [e,e l,AU]
  unfold ct
  rw [h1,h2]
theorem fQ (E:T_Regex) (l:List T_Regex):(ct (E::l)).Kind=1∨(E.Kind=2∧ct (E::l)=wr 4 cN (ne l))∨(E.Kind≠2∧E.Kind≠1∧ct (E::l)=wr 4 cN (E::ne l)):=by
  unfold ct
  split
  · rename_i e he
    exact .inl (by simpa using List.find?_some he)
  · rename_i he
    by_cases h:E.Kind=2
    · refine .inr (.inl ⟨h,?_⟩)
      unfold ne
      rw [List.filter_cons,if_neg (by simp [h])]
    · refine .inr (.inr ⟨h,?_,?_⟩)
      · rw [List.find?_cons] at he
        intro a
        rw [kb a] at he
        cases he
      · unfold ne
        rw [List.filter_cons,if_pos (by simp [h])]
mutual
def ua:T_Regex→List T_Regex
  | ⟨k,s,l⟩=>bif k == 5 then ⟨k,s,l⟩::sv l else bif k == 1 then [] else [⟨k,s,l⟩]
def sv:List T_Regex→List T_Regex
  | []=>[]
  | y::l=>ua y++sv l
end
def lY (x:T_Regex):List T_Regex:=bif x.Kind == 5 then sv x.Kids else bif x.Kind == 1 then [] else [x]
theorem jG {l:List T_Regex} {a:T_Regex}:a∈sv l↔∃y∈l,a∈ua y:=by
  induction l with
  | nil=>simp [sv]
  | cons y l ih=>simp [sv,ih]
theorem uG {s l}:ua ⟨5,s,l⟩=⟨5,s,l⟩::sv l:=by rw [ua]; rfl
theorem xE {x:T_Regex} (h:x.Kind=1):ua x=[]:=by obtain ⟨k,s,l⟩:=x; obtain rfl:k=1:=h; rw [ua]; rfl
theorem qN {x:T_Regex} (h1:x.Kind≠1) (h5:x.Kind≠5):ua x=[x]:=by obtain ⟨k,s,l⟩:=x; rw [ua,bM h1,bM h5]; rfl
theorem pn {x:T_Regex} (h:x.Kind=1):lY x=[]:=by unfold lY; rw [h]; rfl
theorem gZ {x:T_Regex} (h1:x.Kind≠1) (h5:x.Kind≠5):lY x=[x]:=by unfold lY; rw [bM h1,bM h5]; rfl
theorem AR {s l}:lY ⟨5,s,l⟩=sv l:=rfl
theorem tO {x:T_Regex} (h:x.Kind≠1):x∈ua x:=by
  by_cases h5:x.Kind=5
  · obtain ⟨k,s,l⟩:=x; obtain rfl:k=5:=h5; rw [uG]; simp
  · rw [qN h h5]; simp
theorem qb {x c:T_Regex} (h:c∈lY x):c∈ua x:=by
  by_cases h1:x.Kind=1
  · rw [pn h1] at h; cases h
  · by_cases h5:x.Kind=5
    · obtain ⟨k,s,l⟩:=x; obtain rfl:k=5:=h5; rw [uG]; exact List.mem_cons_of_mem _ h
    · rw [gZ h1 h5] at h; rw [qN h1 h5]; exact h
theorem oD {r a:T_Regex} (ha:a∈mn r):a∈ua a∧∀c∈ua a,c∈lY r:=by
  unfold mn at ha
  rw [List.mem_filter] at ha
  have b:a.Kind≠1:=by simpa using ha.2
  refine ⟨tO b,fun c hc=>?_⟩
  cases hk:r.Kind == 5
  · rw [hk,cond_false,List.mem_singleton] at ha
    obtain rfl:=ha.1
    rw [qN b (eN hk)] at hc
    rw [gZ b (eN hk)]
    exact hc
  · rw [hk,cond_true] at ha
    obtain ⟨k,s,l⟩:=r
    obtain rfl:k=5:=cS hk
    exact jG.2 ⟨a,ha.1,hc⟩
theorem kL {l:List T_Regex} {a:T_Regex} (h:a∈kM l):∃r∈l,a∈lY r:=by
  obtain ⟨r,hr,h⟩:=jF.1 h
  exact ⟨r,hr,(oD h).2 a (oD h).1⟩
theorem vU {l:List T_Regex} {c:T_Regex} (h:c∈lY (un l)):∃r∈l,c∈lY r:=by
  unfold un at h
  have ib:∀a∈kM l,c∈ua a→∃r∈l,c∈lY r:=fun a ha hc=>by
    obtain ⟨r,hr,h⟩:=jF.1 ha
    exact ⟨r,hr,(oD h).2 c hc⟩
  generalize kM l=ks at h ib
  match ks with
  | []=>cases h
  | [y]=>exact ib y (by simp) (qb h)
  | y::z::ks=>
    obtain ⟨a,ha,hc⟩:=jG.1 (show c∈sv (y::z::ks) from h)
    exact ib a ha hc
noncomputable def zf (x:T_Regex) (b:Nat):List T_Regex:=bif x.Kind == 4 then lr x.Kids b else bif x.Kind == 5 then lq x.Kids b else [dr x b]
def lB (x:T_Regex) (b:Nat) (c:T_Regex):Prop:=∃r∈zf x b,c∈lY r
theorem ze {s l b}:zf ⟨4,s,l⟩ b=lr l b:=rfl
theorem AE {s l b}:zf ⟨5,s,l⟩ b=lq l b:=rfl
theorem tS {x:T_Regex} {b:Nat} (h4:x.Kind≠4) (h5:x.Kind≠5):zf x b=[dr x b]:=by unfold zf; rw [bM h4,bM h5]; rfl
theorem nT {x:T_Regex} {b:Nat} {c:T_Regex} (h:c∈lY (dr x b)):lB x b c:=by
  by_cases h4:x.Kind=4
  · obtain ⟨k,s,l⟩:=x; obtain rfl:k=4:=h4
    rw [zU] at h
    exact vU h
  · by_cases h5:x.Kind=5
    · obtain ⟨k,s,l⟩:=x; obtain rfl:k=5:=h5
      rw [zT] at h
      exact vU h
    · exact ⟨_,by rw [tS h4 h5]; simp,h⟩
theorem nQ {x:T_Regex} {b:Nat} {c:T_Regex} (h4:x.Kind≠4) (h5:x.Kind≠5) (h:lB x b c):c∈lY (dr x b):=by
  obtain ⟨r,hr,hc⟩:=h
  rw [tS h4 h5,List.mem_singleton] at hr
  exact hr ▸ hc
theorem sI {x:T_Regex} {b:Nat} {c:T_Regex} (h1:x.Kind=1):¬ lB x b c:=by
  intro h
  have:=nQ (by omega) (by omega) h
  rw [AZ h1] at this
  cases this
theorem qQ {E x c:T_Regex} (hx:x.Kind=6) (h:c∈lY (ct [E,x])):c=ct [E,x]:=by
  have hn:ne [x]=[x]:=by unfold ne; rw [List.filter_cons,if_pos (by simp [hx])]; rfl
  rcases fQ E [x] with b|⟨_,a⟩|⟨_,_,a⟩
  · rw [pn b] at h; cases h
  · rw [hn] at a
    rw [a,show wr 4 cN [x]=x from rfl,gZ (by omega) (by omega),List.mem_singleton] at h
    rw [a]; exact h
  · rw [hn] at a
    rw [a,show wr 4 cN [E,x]=⟨4,az.zero 4,[E,x]⟩ from rfl,gZ (by show (4:Int)≠1; decide) (by show (4:Int)≠5; decide),List.mem_singleton] at h
    rw [a]; exact h
theorem rK {x:T_Regex} (hC:Cn x) (b:Nat):dr x b=dc∨lB x b (dr x b)∨∃ks,dr x b=⟨5,az.zero 4,ks⟩∧ks=kM (zf x b):=by
  have ib:∀l,zf x b=l→dr x b=un l→dr x b=dc∨lB x b (dr x b)∨∃ks,dr x b=⟨5,az.zero 4,ks⟩∧ks=kM (zf x b):=by
    intro l hr hd
    have hm:∀a∈kM l,lB x b a:=fun a ha=>by
      obtain ⟨r,c,f⟩:=kL ha
      exact ⟨r,hr ▸ c,f⟩
    rw [hd,hr]
    unfold un
    generalize kM l=ks at hm
    match ks with
    | []=>exact .inl rfl
    | [y]=>exact .inr (.inl (hm y (by simp)))
    | y::z::ks=>exact .inr (.inr ⟨_,rfl,rfl⟩)
  have hcd:=us b x hC
  by_cases c:(dr x b).Kind=1
  · exact .inl (hcd.none c)
  obtain ⟨k,s,l⟩:=x
  rcases ea k with rfl|rfl|rfl|rfl|rfl|⟨f,i,g,d,h6⟩
  · exact .inl (rL (by decide) (by decide) (by decide) (by decide))
  · have e:=@zV s l b
    cases hm:fF s b
    · rw [hm] at e; exact .inl e
    · rw [hm] at e
      refine .inr (.inl ⟨dr ⟨3,s,l⟩ b,by rw [tS (by show (3:Int)≠4; decide) (by show (3:Int)≠5; decide)]; simp,?_⟩)
      rw [e]; simp [lY,cN]
  · exact ib _ ze zU
  · exact ib _ AE zT
  · obtain ⟨s',y,e,hy⟩:=il hC rfl
    cases e
    refine .inr (.inl ⟨dr ⟨6,s,[y]⟩ b,by rw [tS (by show (6:Int)≠4; decide) (by show (6:Int)≠5; decide)]; simp,?_⟩)
    have d:(dr ⟨6,s,[y]⟩ b).Kind≠5:=by
      rw [zS] at c ⊢
      have hn:ne [(⟨6,s,[y]⟩:T_Regex)]=[⟨6,s,[y]⟩]:=by unfold ne; rw [List.filter_cons,if_pos (by simp)]; rfl
      rcases fQ (dr y b) [⟨6,s,[y]⟩] with h|⟨_,h⟩|⟨_,_,h⟩
      · exact absurd h c
      · rw [h,hn]; show (6:Int)≠5; decide
      · rw [h,hn]; show (4:Int)≠5; decide
    rw [gZ c d]; simp
  · exact .inl (rL i g d h6)
def km:List Nat→List (List Nat)
  | []=>[]
  | a::v=>(a::v)::km v
theorem tN (v:List Nat):(km v).length=v.length:=by
  induction v with
  | nil=>rfl
  | cons a v ih=>simp [km,ih]
theorem lH {v u:List Nat} (h:u∈km v):u.length≤v.length:=by
  induction v with
  | nil=>cases h
  | cons a v ih=>
    rw [km,List.mem_cons] at h
    rcases h with rfl|h
    · exact Nat.le_refl _
    · have:=ih h; simp only [List.length_cons]; omega
theorem nq {v u:List Nat} {b:Nat} (h:u∈km v):u++[b]∈km (v++[b]):=by
  induction v with
  | nil=>cases h
  | cons a v ih=>
    rw [km,List.mem_cons] at h
    rw [List.cons_append,km,List.mem_cons]
    rcases h with rfl|h
    · exact .inl rfl
    · exact .inr (ih h)
theorem kP (v:List Nat) (b:Nat):[b]∈km (v++[b]):=by
  induction v with
  | nil=>simp [km]
  | cons a v ih=>rw [List.cons_append,km]; exact List.mem_cons_of_mem _ ih
theorem ep (x:T_Regex) (v:List Nat) (b:Nat):fP x (v++[b])=dr (fP x v) b:=by unfold fP; rw [List.foldl_append]; rfl
mutual
noncomputable def SS:T_Regex→List Nat→List T_Regex
  | ⟨k,s,l⟩,v=>bif k == 4 then SC l v else bif k == 5 then SU l v
    else bif k == 6 then ⟨k,s,l⟩::(km v).map (fun u=>ct [fP (l.headD dc) u,⟨k,s,l⟩]) else [⟨k,s,l⟩,dc,cN]
noncomputable def SU:List T_Regex→List Nat→List T_Regex
  | [],_=>[]
  | y::l,v=>SS y v++SU l v
noncomputable def SC:List T_Regex→List Nat→List T_Regex
  | [],_=>[]
  | y::l,v=>(if ne l=[] then (km v).flatMap (fun u=>SS y u) else (km v).flatMap (fun u=>lY (ct (fP y u::l))))++SC l v
end
noncomputable def hd (y:T_Regex) (l:List T_Regex) (v:List Nat):List T_Regex:=
  if ne l=[] then (km v).flatMap (fun u=>SS y u) else (km v).flatMap (fun u=>lY (ct (fP y u::l)))
theorem qi {l:List T_Regex} {v:List Nat} {c:T_Regex}:c∈SU l v↔∃y∈l,c∈SS y v:=by
  induction l with
  | nil=>simp [SU]
  | cons y l ih=>simp [SU,ih]
theorem kw {l:List T_Regex} {v:List Nat} {c:T_Regex}:c∈SC l v↔∃pre y l',l=pre++y::l'∧c∈hd y l' v:=by
  induction l with
  | nil=>simp [SC]
  | cons y l ih=>
    rw [SC,List.mem_append,ih]
    constructor
    · rintro (h|⟨pre,z,l',rfl,h⟩)
      · exact ⟨[],y,l,rfl,h⟩
      · exact ⟨y::pre,z,l',rfl,h⟩
    · rintro ⟨pre,z,l',e,h⟩
      cases pre with
      | nil=>cases e; exact .inl h
      | cons p pre=>cases e; exact .inr ⟨pre,z,l',rfl,h⟩
theorem xj {s l v}:SS ⟨4,s,l⟩ v=SC l v:=by rw [SS]; rfl
theorem xi {s l v}:SS ⟨5,s,l⟩ v=SU l v:=by rw [SS]; rfl
theorem xh {s y v}:SS ⟨6,s,[y]⟩ v=⟨6,s,[y]⟩::(km v).map (fun u=>ct [fP y u,⟨6,s,[y]⟩]):=by rw [SS]; rfl
theorem xk {k s l v} (h4:k≠4) (h5:k≠5) (h6:k≠6):SS ⟨k,s,l⟩ v=[⟨k,s,l⟩,dc,cN]:=by rw [SS,bM h4,bM h5,bM h6]; rfl
theorem zW {l:List T_Regex} {b:Nat} {r:T_Regex} (h:r∈lr (ne l) b):∃pre y l',l=pre++y::l'∧r=ct (dr y b::l'):=by
  induction l with
  | nil=>cases h
  | cons y l ih=>
    unfold ne at h
    by_cases a:y.Kind=2
    · rw [List.filter_cons,if_neg (by simp [a])] at h
      obtain ⟨pre,z,l',rfl,rfl⟩:=ih h
      exact ⟨y::pre,z,l',rfl,rfl⟩
    · rw [List.filter_cons,if_pos (by simp [a]),lr,List.mem_cons] at h
      rcases h with h|h
      · exact ⟨[],y,l,rfl,h.trans (wI _ l)⟩
      · cases hn:nb y
        · rw [hn] at h; cases h
        · rw [hn] at h
          obtain ⟨pre,z,l',rfl,rfl⟩:=ih h
          exact ⟨y::pre,z,l',rfl,rfl⟩
theorem uW {l:List T_Regex} {z:T_Regex} (h:ne l=[z]):∃pre l',l=pre++z::l'∧ne l'=[]:=by
  induction l with
  | nil=>cases h
  | cons y l ih=>
    unfold ne at h
    by_cases a:y.Kind=2
    · rw [List.filter_cons,if_neg (by simp [a])] at h
      obtain ⟨pre,l',rfl,hn⟩:=ih h
      exact ⟨y::pre,l',rfl,hn⟩
    · rw [List.filter_cons,if_pos (by simp [a])] at h
      simp only [List.cons.injEq] at h
      obtain ⟨rfl,hn⟩:=h
      exact ⟨[],l,rfl,hn⟩
theorem lZ {l:List T_Regex} {z:T_Regex} (h:z∈ne l):z∈l:=(List.mem_filter.1 h).1
def Do (x:T_Regex):Prop:=∀b a,(a=x∨a∈ua x)→∀c,lB a b c→c∈SS x [b]
def Dv (x:T_Regex):Prop:=∀v b,∀a∈SS x v,∀c,lB a b c→c∈SS x (v++[b])
theorem C1 {l pre l':List T_Regex} {y:T_Regex} {b:Nat} {w:List Nat} {c:T_Regex} (hl:l=pre++y::l') (hB:Do y) (hC:Cn y) (hw:[b]∈km w) (h:c∈lY (ct (dr y b::l'))):c∈SC l w:=by
  refine kw.2 ⟨pre,y,l',hl,?_⟩
  unfold hd
  split
  · rename_i hn
    refine List.mem_flatMap.2 ⟨[b],hw,?_⟩
    rw [←wI,hn,wH (us b y hC)] at h
    exact hB b y (.inl rfl) c (nT h)
  · exact List.mem_flatMap.2 ⟨[b],hw,h⟩
theorem qt:∀x,Cn x→Do x∧Dv x:=by
  refine T_Regex.ind fun k s l ih hC=>?_
  have hk:=hC.kids
  have ihB:∀y∈l,Do y:=fun y hy=>(ih y hy (hk y hy)).1
  have ihC:∀y∈l,Dv y:=fun y hy=>(ih y hy (hk y hy)).2
  by_cases j:k=4
  · subst j
    have hself:∀a,(a=(⟨4,s,l⟩:T_Regex)∨a∈ua ⟨4,s,l⟩)→a=⟨4,s,l⟩:=by
      rintro a (h|h)
      · exact h
      · rwa [qN (by show (4:Int)≠1; decide) (by show (4:Int)≠5; decide),List.mem_singleton] at h
    refine ⟨fun b a ha c hc=>?_,fun v b a ha c hc=>?_⟩
    · obtain rfl:=hself a ha
      obtain ⟨r,hr,hc⟩:=hc
      obtain ⟨pre,y,l',rfl,rfl⟩:=qh hr
      rw [xj]
      exact C1 rfl (ihB y (by simp)) (hk y (by simp)) (kP [] b) hc
    · rw [xj] at ha ⊢
      obtain ⟨pre,y,l',el,hb⟩:=kw.1 ha
      clear ha
      have ha:=hb
      clear hb
      subst el
      have hsub:∀i z l'',l'=i++z::l''→pre++y::l'=(pre++y::i)++z::l'':=by rintro i z l'' rfl; simp
      have hdC:∀r,r∈lr (ne l') b→c∈lY r→c∈SC (pre++y::l') (v++[b]):=by
        intro r hr hc
        obtain ⟨i,z,l'',e,rfl⟩:=zW hr
        exact C1 (hsub _ _ _ e) (ihB z (by simp [e])) (hk z (by simp [e])) (kP v b) hc
      unfold hd at ha
      split at ha
      · rename_i hn
        obtain ⟨u,hu,ha⟩:=List.mem_flatMap.1 ha
        refine kw.2 ⟨pre,y,l',rfl,?_⟩
        unfold hd
        rw [if_pos hn]
        exact List.mem_flatMap.2 ⟨u++[b],nq hu,ihC y (by simp) u b a ha c hc⟩
      · rename_i hn
        obtain ⟨u,hu,ha⟩:=List.mem_flatMap.1 ha
        rcases fQ (fP y u) l' with g|⟨_,d⟩|⟨_,_,d⟩
        · rw [pn g] at ha; cases ha
        · rw [d] at ha
          cases hz:ne l' with
          | nil=>exact absurd hz hn
          | cons z m=>
            cases m with
            | nil=>
              rw [hz] at ha
              have hzl:z∈l':=lZ (by rw [hz]; simp)
              obtain ⟨i,l'',e,t⟩:=uW hz
              refine kw.2 ⟨_,z,l'',hsub _ _ _ e,?_⟩
              unfold hd
              rw [if_pos t]
              exact List.mem_flatMap.2 ⟨[b],kP v b,ihB z (by simp [hzl]) b a (.inr (qb ha)) c hc⟩
            | cons z' m=>
              have e:wr 4 cN (ne l')=⟨4,az.zero 4,ne l'⟩:=by rw [hz]; rfl
              rw [e,gZ (by show (4:Int)≠1; decide) (by show (4:Int)≠5; decide),List.mem_singleton] at ha
              subst ha
              obtain ⟨r,hr,hc⟩:=hc
              exact hdC r hr hc
        · rw [d] at ha
          have e:wr 4 cN (fP y u::ne l')=⟨4,az.zero 4,fP y u::ne l'⟩:=by
            cases hz:ne l' with
            | nil=>exact absurd hz hn
            | cons z m=>rfl
          rw [e,gZ (by show (4:Int)≠1; decide) (by show (4:Int)≠5; decide),List.mem_singleton] at ha
          subst ha
          obtain ⟨r,hr,hc⟩:=hc
          rw [ze,lr,List.mem_cons] at hr
          rcases hr with rfl|hr
          · refine kw.2 ⟨pre,y,l',rfl,?_⟩
            unfold hd
            rw [if_neg hn]
            refine List.mem_flatMap.2 ⟨u++[b],nq hu,?_⟩
            rw [ep,←wI]
            exact hc
          · cases hnb:nb (fP y u)
            · rw [hnb] at hr; cases hr
            · rw [hnb] at hr; exact hdC r hr hc
  · by_cases f:k=5
    · subst f
      refine ⟨fun b a ha c hc=>?_,fun v b a ha c hc=>?_⟩
      · rw [xi,qi]
        have ha:a=⟨5,s,l⟩∨a∈sv l:=by
          rcases ha with h|h
          · exact .inl h
          · rwa [uG,List.mem_cons] at h
        rcases ha with rfl|h
        · obtain ⟨r,hr,hc⟩:=hc
          obtain ⟨y,hy,rfl⟩:=mW.1 hr
          exact ⟨y,hy,ihB y hy b y (.inl rfl) c (nT hc)⟩
        · obtain ⟨y,hy,h⟩:=jG.1 h
          exact ⟨y,hy,ihB y hy b a (.inr h) c hc⟩
      · rw [xi,qi] at ha ⊢
        obtain ⟨y,hy,ha⟩:=ha
        exact ⟨y,hy,ihC y hy v b a ha c hc⟩
    · have hua:∀a,(a=(⟨k,s,l⟩:T_Regex)∨a∈ua ⟨k,s,l⟩)→a=⟨k,s,l⟩:=by
        rintro a (h|h)
        · exact h
        · by_cases g:k=1
          · subst g; rw [xE rfl] at h; cases h
          · rwa [qN g f,List.mem_singleton] at h
      by_cases h6:k=6
      · subst h6
        obtain ⟨s',y,e,hy⟩:=il hC rfl
        cases e
        have hx:∀v b c,lB ⟨6,s,[y]⟩ b c→c∈SS ⟨6,s,[y]⟩ (v++[b]):=by
          intro v b c hc
          have:=nQ (by show (6:Int)≠4; decide) (by show (6:Int)≠5; decide) hc
          rw [zS] at this
          rw [xh,qQ rfl this]
          exact List.mem_cons_of_mem _ (List.mem_map.2 ⟨[b],kP v b,rfl⟩)
        refine ⟨fun b a ha c hc=>by obtain rfl:=hua a ha; exact hx [] b c hc,fun v b a ha c hc=>?_⟩
        rw [xh,List.mem_cons] at ha
        rcases ha with rfl|ha
        · exact hx v b c hc
        · obtain ⟨u,hu,rfl⟩:=List.mem_map.1 ha
          have hn:ne [(⟨6,s,[y]⟩:T_Regex)]=[⟨6,s,[y]⟩]:=by unfold ne; rw [List.filter_cons,if_pos (by simp)]; rfl
          rcases fQ (fP y u) [⟨6,s,[y]⟩] with g|⟨_,d⟩|⟨_,_,d⟩
          · exact absurd hc (sI g)
          · rw [d,hn] at hc
            exact hx v b c hc
          · rw [d,hn] at hc
            obtain ⟨r,hr,hc⟩:=hc
            have hr:r∈lr [fP y u,⟨6,s,[y]⟩] b:=hr
            rw [lr,List.mem_cons] at hr
            rcases hr with rfl|hr
            · rw [←ep] at hc
              rw [xh,qQ rfl hc]
              exact List.mem_cons_of_mem _ (List.mem_map.2 ⟨u++[b],nq hu,rfl⟩)
            · cases hnb:nb (fP y u)
              · rw [hnb] at hr; cases hr
              · rw [hnb,cond_true,lr,lr,show nb (⟨6,s,[y]⟩:T_Regex)=true from rfl,cond_true,List.mem_singleton,wH (us b _ hC)] at hr
                subst hr
                exact hx v b c (nT hc)
      · have p:∀a b,(a=(⟨k,s,l⟩:T_Regex)∨a=dc∨a=cN)→∀c,lB a b c→c=cN:=by
          intro a b ha c hc
          have n:dr a b=dc∨dr a b=cN:=by
            rcases ha with rfl|rfl|rfl
            · by_cases q:k=3
              · subst q
                rw [zV]
                cases fF s b
                · exact .inl rfl
                · exact .inr rfl
              · exact .inl (rL q j f h6)
            · exact .inl (rL (by decide) (by decide) (by decide) (by decide))
            · exact .inl (rL (by decide) (by decide) (by decide) (by decide))
          have o:c∈lY (dr a b):=by
            rcases ha with rfl|rfl|rfl
            · exact nQ j f hc
            · exact nQ (by show (1:Int)≠4; decide) (by show (1:Int)≠5; decide) hc
            · exact nQ (by show (2:Int)≠4; decide) (by show (2:Int)≠5; decide) hc
          rcases n with n|n
          · rw [n] at o; cases o
          · rw [n] at o
            exact List.mem_singleton.1 o
        refine ⟨fun b a ha c hc=>?_,fun v b a ha c hc=>?_⟩
        · rw [xk j f h6,p a b (.inl (hua a ha)) c hc]; simp
        · rw [xk j f h6] at ha ⊢
          rw [p a b (by simpa using ha) c hc]; simp
theorem kl (v:List Nat):v=[]∨∃u b,v=u++[b]:=by
  rcases List.eq_nil_or_concat v with h|⟨u,b,h⟩
  · exact .inl h
  · exact .inr ⟨u,b,by rw [h,List.concat_eq_append]⟩
theorem pY {x:T_Regex} (hC:Cn x):∀n v b,v.length=n→∀c,lB (fP x v) b c→c∈SS x (v++[b]):=by
  intro n
  induction n with
  | zero=>
    intro v b hv c hc
    obtain rfl:=List.eq_nil_of_length_eq_zero hv
    exact (qt x hC).1 b x (.inl rfl) c hc
  | succ n ih=>
    intro v b hv c hc
    rcases kl v with rfl|⟨u,d,rfl⟩
    · cases hv
    rw [List.length_append,List.length_singleton] at hv
    have hp:∀a∈lY (fP x (u++[d])),a∈SS x (u++[d]):=fun a ha=>by
      rw [ep] at ha
      exact ih u d (by omega) a (nT ha)
    have hcl:=(qt x hC).2
    generalize fP x (u++[d])=y at hc hp
    by_cases g:y.Kind=1
    · exact absurd hc (sI g)
    · by_cases f:y.Kind=5
      · obtain ⟨k,s,l⟩:=y
        cases f
        obtain ⟨r,hr,hc⟩:=hc
        obtain ⟨a,ha,rfl⟩:=mW.1 hr
        have hc:=nT hc
        by_cases e:a.Kind=1
        · exact absurd hc (sI e)
        · exact hcl _ b a (hp a (jG.2 ⟨a,ha,tO e⟩)) c hc
      · exact hcl _ b y (hp y (by rw [gZ g f]; simp)) c hc
end Go.Proofs.YtlcdifnmkafcfaaGreat
namespace Go.Proofs.YtlcdifnmkafcfaaGreat
open Go.Lx
open Classical
theorem uh {l:List T_Regex} (h:∀y∈l,(ua y).length≤parts y):(sv l).length≤bm l:=by
  induction l with
  | nil=>simp [sv]
  | cons y l ih=>
    rw [sv,List.length_append,bm]
    have:=h y (by simp)
    have:=ih fun z hz=>h z (by simp [hz])
    omega
theorem zH:∀x,(ua x).length≤parts x:=by
  refine T_Regex.ind fun k s l ih=>?_
  have:=uh ih
  rw [parts]
  by_cases h1:k=1
  · rw [xE h1]; simp
  · by_cases h5:k=5
    · subst h5; rw [uG,List.length_cons]; omega
    · rw [qN h1 h5]; simp
theorem ui (x:T_Regex):(lY x).length≤parts x:=by
  by_cases h1:x.Kind=1
  · rw [pn h1]; simp
  · by_cases h5:x.Kind=5
    · obtain ⟨k,s,l⟩:=x
      obtain rfl:k=5:=h5
      rw [AR,parts]
      have:=uh (l:=l) fun y _=>zH y
      omega
    · rw [gZ h1 h5]; exact jC x
theorem wq {α β:Type} {l:List α} {f:α→List β} {K:Nat} (h:∀u∈l,(f u).length≤K):(l.flatMap f).length≤l.length*K:=by
  induction l with
  | nil=>simp
  | cons a l ih=>
    rw [List.flatMap_cons,List.length_append,List.length_cons,Nat.succ_mul]
    have:=h a (by simp)
    have:=ih fun u hu=>h u (by simp [hu])
    omega
theorem xy {e:T_Regex} {m:List T_Regex} {P:Nat} (he:parts e≤P) (h:∀z∈m,parts z≤P) (hP:1≤P):(lY (wr 4 e m)).length≤P:=by
  match m with
  | []=>exact Nat.le_trans (ui _) he
  | [z]=>exact Nat.le_trans (ui _) (h z (by simp))
  | y::z::m=>rw [show wr 4 e (y::z::m)=⟨4,az.zero 4,y::z::m⟩ from rfl,gZ (by show (4:Int)≠1; decide) (by show (4:Int)≠5; decide)]; simpa using hP
theorem sQ {E:T_Regex} {l:List T_Regex} {P:Nat} (hn:ne l≠[]) (h:∀z∈l,parts z≤P) (hP:1≤P):(lY (ct (E::l))).length≤P:=by
  rcases fQ E l with b|⟨_,a⟩|⟨_,_,a⟩
  · rw [pn b]; simp
  · rw [a]
    exact xy (by simp only [cN,parts,bm]; omega) (fun z hz=>h z (lZ hz)) hP
  · rw [a]
    cases hz:ne l with
    | nil=>exact absurd hz hn
    | cons z m=>rw [show wr 4 cN (E::z::m)=⟨4,az.zero 4,E::z::m⟩ from rfl,gZ (by show (4:Int)≠1; decide) (by show (4:Int)≠5; decide)]; simpa using hP
theorem pP {v:List Nat}:∀ {u w:List Nat},(u=v∨u∈km v)→w∈km u→w∈km v:=by
  induction v with
  | nil=>
    rintro u w (rfl|h) hw
    · exact hw
    · cases h
  | cons a v ih=>
    rintro u w (rfl|h) hw
    · exact hw
    · rw [km,List.mem_cons] at h
      rcases h with rfl|h
      · exact hw
      · exact List.mem_cons_of_mem _ (ih (.inr h) hw)
def NB (S:List T_Regex):Prop:=∀ks:List T_Regex,ks.Nodup→(∀c∈ks,c∈S)→ks.length≤big
theorem Al {P M:Nat} (hP:3≤P) (hM:1≤M):∀x,parts x≤P→∀v,v.length≤M→∃T:List T_Regex,T.length≤P*parts x*(M+1)∧∀u,(u=v∨u∈km v)→∀c∈SS x u,c∈T:=by
  refine T_Regex.ind fun k s l ih hp v hv=>?_
  have hpl:bm l+1≤P:=hp
  have hk:∀y∈l,parts y≤P:=fun y hy=>by have:=dM hy; omega
  have j:1≤parts (⟨k,s,l⟩:T_Regex):=jC _
  have hPM:P*(M+1)≤P*parts (⟨k,s,l⟩:T_Regex)*(M+1):=Nat.mul_le_mul_right _ (Nat.le_mul_of_pos_right P j)
  have o:3*(M+1)≤P*(M+1):=Nat.mul_le_mul_right _ hP
  have top:P*bm l*(M+1)≤P*parts (⟨k,s,l⟩:T_Regex)*(M+1):=Nat.mul_le_mul_right _ (Nat.mul_le_mul_left P (by show bm l≤bm l+1; omega))
  by_cases i:k=4
  · subst i
    have ib:∀m:List T_Regex,(∀y∈m,y∈l)→∃T:List T_Regex,T.length≤P*bm m*(M+1)∧∀u,(u=v∨u∈km v)→∀c∈SC m u,c∈T:=by
      intro m
      induction m with
      | nil=>exact fun _=>⟨[],Nat.zero_le _,fun u _ c hc=>by simp [SC] at hc⟩
      | cons y m ihm=>
        intro hm
        obtain ⟨T,d,a⟩:=ihm fun z hz=>hm z (by simp [hz])
        have hy:=hk y (hm y (by simp))
        have:∃T:List T_Regex,T.length≤P*parts y*(M+1)∧∀u,(u=v∨u∈km v)→∀c∈hd y m u,c∈T:=by
          by_cases hn:ne m=[]
          · obtain ⟨T,e,b⟩:=ih y (hm y (by simp)) hy v hv
            refine ⟨T,e,fun u hu c hc=>?_⟩
            unfold hd at hc
            rw [if_pos hn] at hc
            obtain ⟨w,hw,hc⟩:=List.mem_flatMap.1 hc
            exact b w (.inr (pP hu hw)) c hc
          · refine ⟨(km v).flatMap (fun u=>lY (ct (fP y u::m))),?_,fun u hu c hc=>?_⟩
            · have:=wq (K:=P) (l:=km v) (f:=fun u=>lY (ct (fP y u::m))) fun u _=>sQ hn (fun z hz=>hk z (hm z (by simp [hz]))) (by omega)
              rw [tN] at this
              refine Nat.le_trans this ?_
              have n:v.length*P≤(M+1)*P:=Nat.mul_le_mul_right _ (by omega)
              have p:P*(M+1)≤P*parts y*(M+1):=Nat.mul_le_mul_right _ (Nat.le_mul_of_pos_right P (jC y))
              rw [Nat.mul_comm (M+1)] at n
              omega
            · unfold hd at hc
              rw [if_neg hn] at hc
              obtain ⟨w,hw,hc⟩:=List.mem_flatMap.1 hc
              exact List.mem_flatMap.2 ⟨w,pP hu hw,hc⟩
        obtain ⟨T',e,b⟩:=this
        refine ⟨T'++T,?_,fun u hu c hc=>?_⟩
        · rw [List.length_append,bm,Nat.mul_add P (parts y),Nat.add_mul]; omega
        · rcases List.mem_append.1 (show c∈hd y m u++SC m u from hc) with hc|hc
          · exact List.mem_append_left _ (b u hu c hc)
          · exact List.mem_append_right _ (a u hu c hc)
    obtain ⟨T,d,a⟩:=ib l fun _ h=>h
    exact ⟨T,by omega,fun u hu c hc=>a u hu c (by rwa [xj] at hc)⟩
  · by_cases g:k=5
    · subst g
      have ib:∀m:List T_Regex,(∀y∈m,y∈l)→∃T:List T_Regex,T.length≤P*bm m*(M+1)∧∀u,(u=v∨u∈km v)→∀c∈SU m u,c∈T:=by
        intro m
        induction m with
        | nil=>exact fun _=>⟨[],Nat.zero_le _,fun u _ c hc=>by simp [SU] at hc⟩
        | cons y m ihm=>
          intro hm
          obtain ⟨T,d,a⟩:=ihm fun z hz=>hm z (by simp [hz])
          obtain ⟨T',e,b⟩:=ih y (hm y (by simp)) (hk y (hm y (by simp))) v hv
          refine ⟨T'++T,?_,fun u hu c hc=>?_⟩
          · rw [List.length_append,bm,Nat.mul_add P (parts y),Nat.add_mul]; omega
          · rw [SU] at hc
            rcases List.mem_append.1 hc with hc|hc
            · exact List.mem_append_left _ (b u hu c hc)
            · exact List.mem_append_right _ (a u hu c hc)
      obtain ⟨T,d,a⟩:=ib l fun _ h=>h
      exact ⟨T,by omega,fun u hu c hc=>a u hu c (by rwa [xi] at hc)⟩
    · by_cases h6:k=6
      · subst h6
        refine ⟨⟨6,s,l⟩::(km v).map (fun u=>ct [fP (l.headD dc) u,⟨6,s,l⟩]),?_,fun u hu c hc=>?_⟩
        · rw [List.length_cons,List.length_map,tN]; omega
        · rw [SS] at hc
          have hc:c∈⟨6,s,l⟩::(km u).map (fun u=>ct [fP (l.headD dc) u,⟨6,s,l⟩]):=hc
          rw [List.mem_cons] at hc ⊢
          rcases hc with hc|hc
          · exact .inl hc
          · obtain ⟨w,hw,rfl⟩:=List.mem_map.1 hc
            exact .inr (List.mem_map.2 ⟨w,pP hu hw,rfl⟩)
      · refine ⟨[⟨k,s,l⟩,dc,cN],?_,fun u _ c hc=>by rwa [xk i g h6] at hc⟩
        simp only [List.length_cons,List.length_nil]; omega
theorem rF {k:Int} {l:List T_Regex} (hk:k=4∨k=5) (hl:l.length≤big) (h:∀y∈l,Fit y):Fit ⟨k,az.zero 4,l⟩:=
  .mk _ eP hl (fun e=>by simp only at e; omega) (fun e=>by simp only at e; omega) (fun e=>by simp only at e; omega) h
theorem oo {l:List T_Regex} {h:Nat} (hh:∀y∈l,height y≤h):bK l≤h:=by
  induction l with
  | nil=>simp [bK]
  | cons y l ih=>
    have:=hh y (by simp)
    have:=ih fun z hz=>hh z (by simp [hz])
    simp only [bK]; omega
theorem zL {k:Int} {e:T_Regex} {l:List T_Regex} {h:Nat} (hk:k=4∨k=5) (hl:l.length≤big) (he:Fit e∧height e≤h+1) (hy:∀y∈l,Fit y∧height y≤h) :
    Fit (wr k e l)∧height (wr k e l)≤h+1:=by
  match l with
  | []=>exact he
  | [y]=>exact ⟨(hy y (by simp)).1,by have:=(hy y (by simp)).2; simp only [wr]; omega⟩
  | y::z::l=>
    refine ⟨rF hk hl fun y h=>(hy y h).1,?_⟩
    have:=oo fun y h=>(hy y h).2
    simp only [wr,height]; omega
theorem mw:height dc=1:=by simp [dc,height,bK]
theorem lp:height cN=1:=by simp [cN,height,bK]
theorem tj {l:List T_Regex} {h:Nat} (hl:l.length≤big) (hy:∀y∈l,Fit y∧height y≤h):Fit (ct l)∧height (ct l)≤h+1:=by
  unfold ct
  split
  · rename_i e he
    have:=hy e (List.mem_of_find?_eq_some he)
    exact ⟨this.1,by omega⟩
  · exact zL (.inl rfl) (Nat.le_trans (List.length_filter_le _ _) hl) ⟨jL,by rw [lp]; omega⟩ fun y h=>hy y (lZ h)
theorem wz {a:T_Regex} {b h:Nat} {S:List T_Regex} (hC:Cn a) (hS:∀c,lB a b c→c∈S) (hF:∀c∈S,Fit c∧height c≤h) (hl:NB S):Fit (dr a b)∧height (dr a b)≤h+1:=by
  rcases rK hC b with e|e|⟨ks,e,hks⟩
  · rw [e,mw]; exact ⟨ie,by omega⟩
  · have:=hF _ (hS _ e)
    exact ⟨this.1,by omega⟩
  · have hm:∀c∈ks,c∈S:=fun c hc=>by
      rw [hks] at hc
      obtain ⟨r,f,d⟩:=kL hc
      exact hS c ⟨r,f,d⟩
    rw [e]
    refine ⟨rF (.inr rfl) (hl _ (by rw [hks]; exact jD _) hm) fun y hy=>(hF y (hm y hy)).1,?_⟩
    have:=oo fun y hy=>(hF y (hm y hy)).2
    simp only [height]; omega
theorem yn {l:List T_Regex} (h:∀y∈l,∀a∈ua y,Fit a∧height a≤height y):∀a∈sv l,Fit a∧height a≤bK l:=by
  intro a ha
  obtain ⟨y,hy,ha⟩:=jG.1 ha
  have h1:=h y hy a ha
  have:=ew hy
  exact ⟨h1.1,by omega⟩
theorem zM:∀x,Fit x→∀a∈ua x,Fit a∧height a≤height x:=by
  refine T_Regex.ind fun k s l ih hF a ha=>?_
  by_cases c:k=1
  · rw [xE c] at ha; cases ha
  · by_cases b:k=5
    · subst b
      rw [uG,List.mem_cons] at ha
      rcases ha with rfl|ha
      · exact ⟨hF,Nat.le_refl _⟩
      · have:=yn (fun y hy=>ih y hy (hF.kids y hy)) a ha
        exact ⟨this.1,by simp only [height]; omega⟩
    · rw [qN c b,List.mem_singleton] at ha
      subst ha
      exact ⟨hF,Nat.le_refl _⟩
theorem Ce {m:List T_Regex} {s:az 4} (hm:m.length≤big) (hz:∀z∈m,Fit z∧height z≤3000∧Gd z∧∀b,Fit (dr z b)∧height (dr z b)≤3000)
    (S:Nat→List T_Regex) (hS:∀b c,lB ⟨4,s,m⟩ b c→c∈S b) (hl:∀b,NB (S b)):Gd ⟨4,s,m⟩:=by
  refine vi (fun y hy=>⟨⟨(hz y hy).1,by have:=(hz y hy).2.1; unfold aR; omega⟩,(hz y hy).2.2.1⟩) hm fun b _=>⟨?_,fun r hr=>?_⟩
  · refine hl b _ (jD _) fun c hc=>?_
    obtain ⟨r,d,a⟩:=kL hc
    exact hS b c ⟨r,d,a⟩
  · obtain ⟨pre,y,l',e,rfl⟩:=qh hr
    have hy:y∈m:=by rw [e]; simp
    have hl':∀z∈l',z∈m:=fun z hz=>by rw [e]; simp [hz]
    have:=tj (l:=dr y b::l') (h:=3000) (by rw [e,List.length_append,List.length_cons] at hm; rw [List.length_cons]; omega) (fun z hz'=>by
      rcases List.mem_cons.1 hz' with rfl|h
      · exact (hz y hy).2.2.2 b
      · exact ⟨(hz z (hl' z h)).1,(hz z (hl' z h)).2.1⟩)
    exact ⟨this.1,by unfold aR; omega⟩
theorem Ds {m:List T_Regex} {s:az 4} (hm:m.length≤big) (hz:∀z∈m,Gd z∧∀b,Fit (dr z b)∧height (dr z b)≤3000)
    (S:Nat→List T_Regex) (hS:∀b c,lB ⟨5,s,m⟩ b c→c∈S b) (hl:∀b,NB (S b)):Gd ⟨5,s,m⟩:=by
  refine wx (fun y hy=>(hz y hy).1) hm fun b _=>⟨?_,fun r hr=>?_⟩
  · refine hl b _ (jD _) fun c hc=>?_
    obtain ⟨r,d,a⟩:=kL hc
    exact hS b c ⟨r,d,a⟩
  · obtain ⟨y,hy,rfl⟩:=mW.1 hr
    have:=(hz y hy).2 b
    exact ⟨this.1,by unfold aR; omega⟩
section
variable {P M H:Nat} (hP:3≤P) (hM:1≤M) (hB:P*P*(M+1)≤big) (hH:H≤1000)
include hP hM hB
theorem iD {x:T_Regex} (hp:parts x≤P) (hh:height x≤H) {v:List Nat} (hv:v.length≤M):NB (SS x v):=fun ks hn hm=>by
  obtain ⟨T,t1,t2⟩:=Al hP hM x hp v hv
  have h1:=uU hn fun c hc=>t2 v (.inl rfl) c (hm c hc)
  have h2:P*parts x*(M+1)≤P*P*(M+1):=Nat.mul_le_mul_right _ (Nat.mul_le_mul_left P hp)
  omega
theorem mZ:∀x,Fit x→parts x≤P→height x≤H→(∀v,v.length≤M→∀a∈SS x v,Fit a∧height a≤2*height x)∧(∀v,v.length≤M→Fit (fP x v)∧height (fP x v)≤2*height x+1):=by
  refine T_Regex.ind fun k s l ih hF hp hh=>?_
  have hpl:bm l+1≤P:=hp
  have hhl:bK l+1≤H:=hh
  have hx:height (⟨k,s,l⟩:T_Regex)=bK l+1:=rfl
  have hky:∀y∈l,Fit y∧parts y≤P∧height y≤H∧height y≤bK l:=fun y hy=>⟨hF.kids y hy,by have:=dM hy; omega,by have:=ew hy; omega,ew hy⟩
  have ihk:=fun y hy=>ih y hy (hky y hy).1 (hky y hy).2.1 (hky y hy).2.2.1
  have hlb:l.length≤big:=hF.len
  have first:∀v,v.length≤M→∀a∈SS (⟨k,s,l⟩:T_Regex) v,Fit a∧height a≤2*height (⟨k,s,l⟩:T_Regex):=by
    intro v hv a ha
    by_cases d:k=4
    · subst d
      rw [xj] at ha
      obtain ⟨pre,y,l',el,ha⟩:=kw.1 ha
      have hyl:y∈l:=by rw [el]; simp
      have hl':∀z∈l',z∈l:=fun z hz=>by rw [el]; simp [hz]
      have hle:l'.length+1≤big:=by
        rw [el,List.length_append,List.length_cons] at hlb; omega
      unfold hd at ha
      split at ha
      · obtain ⟨u,hu,ha⟩:=List.mem_flatMap.1 ha
        have:=(ihk y hyl).1 u (Nat.le_trans (lH hu) hv) a ha
        exact ⟨this.1,by have:=(hky y hyl).2.2.2; omega⟩
      · obtain ⟨u,hu,ha⟩:=List.mem_flatMap.1 ha
        have hE:=(ihk y hyl).2 u (Nat.le_trans (lH hu) hv)
        have hct:=tj (l:=fP y u::l') (h:=2*bK l+1) (by rw [List.length_cons]; exact hle) (fun z hz=>by
          rcases List.mem_cons.1 hz with rfl|hz
          · exact ⟨hE.1,by have:=(hky y hyl).2.2.2; omega⟩
          · exact ⟨(hky z (hl' z hz)).1,by have:=(hky z (hl' z hz)).2.2.2; omega⟩)
        have:=zM _ hct.1 a (qb ha)
        exact ⟨this.1,by omega⟩
    · by_cases c:k=5
      · subst c
        rw [xi,qi] at ha
        obtain ⟨y,hy,ha⟩:=ha
        have:=(ihk y hy).1 v hv a ha
        exact ⟨this.1,by have:=(hky y hy).2.2.2; omega⟩
      · by_cases h6:k=6
        · subst h6
          obtain ⟨s',y,e,hy⟩:=il hF.cn rfl
          cases e
          rw [xh,List.mem_cons] at ha
          rcases ha with rfl|ha
          · exact ⟨hF,by omega⟩
          · obtain ⟨u,hu,rfl⟩:=List.mem_map.1 ha
            have hE:=(ihk y (by simp)).2 u (Nat.le_trans (lH hu) hv)
            have hct:=tj (l:=[fP y u,⟨6,s,[y]⟩]) (h:=2*bK [y]+1) (by show 2≤big; decide) (fun z hz=>by
              rcases List.mem_cons.1 hz with rfl|hz
              · exact ⟨hE.1,by have:=(hky y (by simp)).2.2.2; omega⟩
              · rw [List.mem_singleton.1 hz]; exact ⟨hF,by omega⟩)
            exact ⟨hct.1,by omega⟩
        · rw [xk d c h6] at ha
          simp only [List.mem_cons,List.not_mem_nil,or_false] at ha
          rcases ha with rfl|rfl|rfl
          · exact ⟨hF,by omega⟩
          · exact ⟨ie,by rw [mw]; omega⟩
          · exact ⟨jL,by rw [lp]; omega⟩
  refine ⟨first,fun v hv=>?_⟩
  rcases kl v with rfl|⟨u,b,rfl⟩
  · exact ⟨hF,by show height (⟨k,s,l⟩:T_Regex)≤_; omega⟩
  · rw [ep]
    exact wz (wJ u _ hF.cn) (pY hF.cn _ u b rfl) (first _ hv) (iD hP hM hB hp hh hv)
include hH
theorem zJ:∀x,Fit x→parts x≤P→height x≤H→(∀a,(a=x∨a∈ua x)→Gd a)∧(∀v,v.length<M→∀a∈SS x v,Gd a)∧(∀v,v.length<M→Gd (fP x v)):=by
  refine T_Regex.ind fun k s l ih hF hp hh=>?_
  have hpl:bm l+1≤P:=hp
  have hhl:bK l+1≤H:=hh
  have hx:height (⟨k,s,l⟩:T_Regex)=bK l+1:=rfl
  have hky:∀y∈l,Fit y∧parts y≤P∧height y≤H∧height y≤bK l:=fun y hy=>⟨hF.kids y hy,by have:=dM hy; omega,by have:=ew hy; omega,ew hy⟩
  have ihk:=fun y hy=>ih y hy (hky y hy).1 (hky y hy).2.1 (hky y hy).2.2.1
  have fit:=fun y hy=>mZ hP hM hB y (hky y hy).1 (hky y hy).2.1 (hky y hy).2.2.1
  have fitx:=mZ hP hM hB _ hF hp hh
  have hlb:l.length≤big:=hF.len
  have hcl:=qt _ hF.cn
  have hdrk:∀y∈l,∀b,Fit (dr y b)∧height (dr y b)≤3000:=fun y hy b=>by
    have:=(fit y hy).2 [b] hM
    exact ⟨this.1,Nat.le_trans this.2 (by have:=(hky y hy).2.2.2; omega)⟩
  have o:∀y∈l,Fit y∧height y≤3000∧Gd y∧∀b,Fit (dr y b)∧height (dr y b)≤3000:=fun y hy=>
    ⟨(hky y hy).1,by have:=(hky y hy).2.2.2; omega,(ihk y hy).1 y (.inl rfl),hdrk y hy⟩
  have self:∀a,(a=(⟨k,s,l⟩:T_Regex)∨a∈ua ⟨k,s,l⟩)→Gd a:=by
    intro a ha
    by_cases i:k=5
    · subst i
      have ha:a=⟨5,s,l⟩∨a∈sv l:=by
        rcases ha with h|h
        · exact .inl h
        · rwa [uG,List.mem_cons] at h
      rcases ha with rfl|ha
      · exact Ds hlb (fun y hy=>⟨(o y hy).2.2.1,hdrk y hy⟩) (fun b=>SS ⟨5,s,l⟩ [b]) (fun b=>hcl.1 b _ (.inl rfl)) fun b=>iD hP hM hB hp hh hM
      · obtain ⟨y,hy,ha⟩:=jG.1 ha
        exact (ihk y hy).1 a (.inr ha)
    · have ha:a=⟨k,s,l⟩:=by
        rcases ha with h|h
        · exact h
        · by_cases g:k=1
          · subst g; rw [xE rfl] at h; cases h
          · rwa [qN g i,List.mem_singleton] at h
      subst ha
      by_cases j:k=4
      · subst j
        exact Ce hlb o (fun b=>SS ⟨4,s,l⟩ [b]) (fun b=>hcl.1 b _ (.inl rfl)) fun b=>iD hP hM hB hp hh hM
      · by_cases h6:k=6
        · subst h6
          obtain ⟨s',y,e,hy⟩:=il hF.cn rfl
          cases e
          exact yl ((ihk y (by simp)).1 y (.inl rfl))
        · exact jo hF j i h6
  have mid:∀v,v.length<M→∀a∈SS (⟨k,s,l⟩:T_Regex) v,Gd a:=by
    intro v hv a ha
    have hlen:∀b,(v++[b]).length≤M:=fun b=>by rw [List.length_append,List.length_singleton]; omega
    have hcC:=fun b=>hcl.2 v b a ha
    by_cases j:k=4
    · subst j
      have t:=ha
      rw [xj] at ha
      obtain ⟨pre,y,l',el,hb⟩:=kw.1 ha
      have hyl:y∈l:=by rw [el]; simp
      have hl':∀z∈l',z∈l:=fun z hz=>by rw [el]; simp [hz]
      have hle:l'.length+1≤big:=by
        rw [el,List.length_append,List.length_cons] at hlb; omega
      unfold hd at hb
      split at hb
      · obtain ⟨u,hu,hb⟩:=List.mem_flatMap.1 hb
        exact (ihk y hyl).2.1 u (Nat.lt_of_le_of_lt (lH hu) hv) a hb
      · rename_i hn
        obtain ⟨u,hu,hb⟩:=List.mem_flatMap.1 hb
        have hul:u.length<M:=Nat.lt_of_le_of_lt (lH hu) hv
        have hnl:(ne l').length≤l'.length:=List.length_filter_le _ _
        rcases fQ (fP y u) l' with g|⟨_,f⟩|⟨_,_,f⟩
        · rw [pn g] at hb; cases hb
        · rw [f] at hb
          cases hz:ne l' with
          | nil=>exact absurd hz hn
          | cons z m=>
            cases m with
            | nil=>
              rw [hz] at hb
              exact (ihk z (hl' z (lZ (by rw [hz]; simp)))).1 a (.inr (qb hb))
            | cons z' m=>
              have e:wr 4 cN (ne l')=⟨4,az.zero 4,ne l'⟩:=by rw [hz]; rfl
              rw [e,gZ (by show (4:Int)≠1; decide) (by show (4:Int)≠5; decide),List.mem_singleton] at hb
              subst hb
              exact Ce (by omega) (fun z hz=>o z (hl' z (lZ hz))) (fun b=>SS ⟨4,s,l⟩ (v++[b])) hcC fun b=>iD hP hM hB hp hh (hlen b)
        · rw [f] at hb
          have e:wr 4 cN (fP y u::ne l')=⟨4,az.zero 4,fP y u::ne l'⟩:=by
            cases hz:ne l' with
            | nil=>exact absurd hz hn
            | cons z m=>rfl
          rw [e,gZ (by show (4:Int)≠1; decide) (by show (4:Int)≠5; decide),List.mem_singleton] at hb
          subst hb
          refine Ce (by rw [List.length_cons]; omega) (fun z hz=>?_) (fun b=>SS ⟨4,s,l⟩ (v++[b])) hcC fun b=>iD hP hM hB hp hh (hlen b)
          rcases List.mem_cons.1 hz with rfl|hz
          · have p:=(fit y hyl).2 u (Nat.le_of_lt hul)
            have hyh:=(hky y hyl).2.2.2
            refine ⟨p.1,by omega,(ihk y hyl).2.2 u hul,fun b=>?_⟩
            have n:=(fit y hyl).2 (u++[b]) (by rw [List.length_append,List.length_singleton]; omega)
            rw [ep] at n
            exact ⟨n.1,by omega⟩
          · exact o z (hl' z (lZ hz))
    · by_cases i:k=5
      · subst i
        rw [xi,qi] at ha
        obtain ⟨y,hy,ha⟩:=ha
        exact (ihk y hy).2.1 v hv a ha
      · by_cases h6:k=6
        · subst h6
          obtain ⟨s',y,e,hy⟩:=il hF.cn rfl
          cases e
          have t:=ha
          rw [xh,List.mem_cons] at ha
          rcases ha with rfl|ha
          · exact self _ (.inl rfl)
          · obtain ⟨u,hu,rfl⟩:=List.mem_map.1 ha
            have hul:u.length<M:=Nat.lt_of_le_of_lt (lH hu) hv
            have hn:ne [(⟨6,s,[y]⟩:T_Regex)]=[⟨6,s,[y]⟩]:=by unfold ne; rw [List.filter_cons,if_pos (by simp)]; rfl
            have p:=(fit y (by simp)).2 u (Nat.le_of_lt hul)
            have hyh:=(hky y (by simp)).2.2.2
            rcases fQ (fP y u) [⟨6,s,[y]⟩] with g|⟨_,f⟩|⟨_,_,f⟩
            · have hcn:Cn (ct [fP y u,⟨6,s,[y]⟩]):=wK fun z hz=>by
                rcases List.mem_cons.1 hz with rfl|hz
                · exact p.1.cn
                · rw [List.mem_singleton.1 hz]; exact hF.cn
              rw [hcn.none g]
              exact jo ie (by decide) (by decide) (by decide)
            · rw [f,hn]
              exact self _ (.inl rfl)
            · rw [f,hn] at hcC ⊢
              refine Ce (by show 2≤big; decide) (fun z hz=>?_) (fun b=>SS ⟨6,s,[y]⟩ (v++[b])) hcC fun b=>iD hP hM hB hp hh (hlen b)
              rcases List.mem_cons.1 hz with rfl|hz
              · refine ⟨p.1,by omega,(ihk y (by simp)).2.2 u hul,fun b=>?_⟩
                have n:=(fit y (by simp)).2 (u++[b]) (by rw [List.length_append,List.length_singleton]; omega)
                rw [ep] at n
                exact ⟨n.1,by omega⟩
              · rw [List.mem_singleton.1 hz]
                refine ⟨hF,by omega,self _ (.inl rfl),fun b=>?_⟩
                have:=fitx.2 [b] hM
                exact ⟨this.1,Nat.le_trans this.2 (by omega)⟩
        · rw [xk j i h6] at ha
          simp only [List.mem_cons,List.not_mem_nil,or_false] at ha
          rcases ha with rfl|rfl|rfl
          · exact self _ (.inl rfl)
          · exact jo ie (by decide) (by decide) (by decide)
          · exact jo jL (by decide) (by decide) (by decide)
  refine ⟨self,mid,fun v hv=>?_⟩
  rcases kl v with rfl|⟨u,b,rfl⟩
  · exact self _ (.inl rfl)
  · have q:=pY hF.cn _ u b rfl
    rcases rK (wJ u _ hF.cn) b with e|e|⟨ks,e,hks⟩
    · rw [ep,e]; exact jo ie (by decide) (by decide) (by decide)
    · rw [ep]; exact mid _ hv _ (q _ e)
    · have hm:∀c∈ks,c∈SS (⟨k,s,l⟩:T_Regex) (u++[b]):=fun c hc=>by
        rw [hks] at hc
        obtain ⟨r,g,f⟩:=kL hc
        exact q c ⟨r,g,f⟩
      have hsl:=iD hP hM hB hp hh (x:=⟨k,s,l⟩) (Nat.le_of_lt hv)
      have hlen:∀d,(u++[b]++[d]).length≤M:=fun d=>by rw [List.length_append,List.length_singleton]; omega
      have hrd:=fun d=>pY hF.cn _ (u++[b]) d rfl
      rw [ep,e] at hrd ⊢
      refine Ds (hsl _ (by rw [hks]; exact jD _) hm) (fun z hz=>⟨mid _ hv z (hm z hz),fun d=>?_⟩) (fun d=>SS ⟨k,s,l⟩ (u++[b]++[d])) hrd
        fun d=>iD hP hM hB hp hh (hlen d)
      have fz:=fitx.1 _ (Nat.le_of_lt hv) z (hm z hz)
      have:=wz fz.1.cn (hcl.2 _ d z (hm z hz)) (fitx.1 _ (hlen d)) (iD hP hM hB hp hh (hlen d))
      exact ⟨this.1,by omega⟩
end
end Go.Proofs.YtlcdifnmkafcfaaGreat
namespace Go.Proofs.YtlcdifnmkafcfaaGreat
open Go.Lx
open Classical
def ix (l:List Bool) (j:Nat):Bool:=l.getD j false
theorem jm {l:List Bool} {j:Nat} (h:j<l.length):bo l (j:Int)=some (ix l j):=by
  rw [ba h]; simp [ix,List.getD_eq_getElem?_getD,h]
theorem mf {l:List Bool} {k j:Nat} {v:Bool} (h:k<l.length):ix (l.set k v) j=if j=k then v else ix l j:=by
  unfold ix
  simp only [List.getD_eq_getElem?_getD,List.getElem?_set]
  by_cases e:k=j
  · subst e; simp [h]
  · rw [if_neg e,if_neg (fun h=>e h.symm)]
theorem qk (n j:Nat):ix (List.replicate n false) j=false:=by
  unfold ix
  simp only [List.getD_eq_getElem?_getD,List.getElem?_replicate]
  split <;> rfl
def mP (p:Nat→Bool):Nat→Nat
  | 0=>0
  | n+1=>mP p n+(bif p n then 0 else 1)
theorem ur {p q:Nat→Bool} {n:Nat} (h:∀j,j<n→p j=true→q j=true):mP q n≤mP p n:=by
  induction n with
  | zero=>exact Nat.le_refl _
  | succ n ih=>
    have h1:=ih fun j hj=>h j (by omega)
    have h2:=h n (by omega)
    simp only [mP]
    cases hp:p n
    · cases q n <;> simp <;> omega
    · rw [h2 hp]; simpa using h1
theorem yw {p q:Nat→Bool} {n:Nat} (h:∀j,j<n→p j=true→q j=true) {i:Nat} (hi:i<n) (hp:p i=false) (hq:q i=true):mP q n<mP p n:=by
  induction n with
  | zero=>omega
  | succ n ih=>
    have a:=h n (by omega)
    simp only [mP]
    by_cases e:i=n
    · subst e
      have:=ur (p:=p) (q:=q) (n:=i) fun j hj=>h j (by omega)
      rw [hp,hq]; simp; omega
    · have b:=ih (fun j hj=>h j (by omega)) (by omega)
      cases hpn:p n
      · cases q n <;> simp <;> omega
      · rw [a hpn]; simpa using b
theorem tn (p:Nat→Bool) (n:Nat):mP p n≤n:=by
  induction n with
  | zero=>exact Nat.le_refl _
  | succ n ih=>simp only [mP]; cases p n <;> simp <;> omega
def lI (w:List Nat) (i j:Nat):List Nat:=(w.take j).drop i
theorem jy {w:List Nat} {i j:Nat} (hij:i≤j) (hj:j≤w.length) (P Q:List Nat→Prop) :
    (∃u v,lI w i j=u++v∧P u∧Q v)↔∃m,i≤m∧m≤j∧P (lI w i m)∧Q (lI w m j):=by
  have cut:∀m,i≤m→m≤j→lI w i j=lI w i m++lI w m j:=by
    intro m b a
    unfold lI
    have e:w.take j=w.take m++(w.take j).drop m:=by
      have:=List.take_append_drop m (w.take j)
      rw [List.take_take,Nat.min_eq_left a] at this
      exact this.symm
    have hl:(w.take m).length=m:=by rw [List.length_take]; omega
    conv=>lhs; rw [e]
    rw [List.drop_append,hl,Nat.sub_eq_zero_of_le b,List.drop_zero]
  constructor
  · rintro ⟨u,v,h,hu,hv⟩
    have hlen:(lI w i j).length=j - i:=by unfold lI; rw [List.length_drop,List.length_take]; omega
    have hl:=congrArg List.length h
    rw [List.length_append,hlen] at hl
    have a:=cut (i+u.length) (by omega) (by omega)
    have hlu:(lI w i (i+u.length)).length=u.length:=by unfold lI; rw [List.length_drop,List.length_take]; omega
    rw [h] at a
    obtain ⟨d,c⟩:=List.append_inj a hlu.symm
    exact ⟨i+u.length,by omega,by omega,d ▸ hu,c ▸ hv⟩
  · rintro ⟨m,b,a,hp,hq⟩
    exact ⟨_,_,cut m b a,hp,hq⟩
theorem nr (w:List Nat) (i:Nat):lI w i i=[]:=by
  unfold lI
  exact List.drop_eq_nil_of_le (by rw [List.length_take]; omega)
theorem tQ {w:List Nat} {i j:Nat} (hij:i≤j) (hj:j≤w.length):lI w i j=[]↔i=j:=by
  constructor
  · intro h
    have:=congrArg List.length h
    unfold lI at this
    rw [List.length_drop,List.length_take,List.length_nil] at this
    omega
  · rintro rfl; exact nr w i
theorem tP {w:List Nat} {i j b:Nat} (hij:i≤j) (hj:j≤w.length):lI w i j=[b]↔j=i+1∧w[i]?=some b:=by
  have a:i<w.length→lI w i (i+1)=[w[i]?.getD 0]:=by
    intro h
    unfold lI
    rw [List.take_add_one,List.drop_append,List.length_take,Nat.min_eq_left (by omega),Nat.sub_self,List.drop_zero,List.drop_eq_nil_of_le (by rw [List.length_take]; omega),List.getElem?_eq_getElem h]
    rfl
  constructor
  · intro h
    have hl:=congrArg List.length h
    unfold lI at hl
    rw [List.length_drop,List.length_take,List.length_singleton] at hl
    have e:j=i+1:=by omega
    subst e
    rw [a (by omega)] at h
    refine ⟨rfl,?_⟩
    rw [List.getElem?_eq_getElem (by omega)] at h ⊢
    simpa using h
  · rintro ⟨rfl,h⟩
    rw [a (by omega),h]; rfl
theorem vz {l m:List T_Regex}:∀ {w:List Nat},LC (l++m) w↔∃u v,w=u++v∧LC l u∧LC m v:=by
  induction l with
  | nil=>
    intro w
    exact ⟨fun h=>⟨[],w,rfl,rfl,h⟩,fun ⟨u,v,e,hu,hv⟩=>by cases hu; subst e; exact hv⟩
  | cons y l ih=>
    intro w
    simp only [List.cons_append,LC,ih]
    constructor
    · rintro ⟨u,v,rfl,hu,a,d,rfl,c,b⟩
      exact ⟨u++a,d,by simp,⟨u,a,rfl,hu,c⟩,b⟩
    · rintro ⟨u,v,rfl,⟨f,a,rfl,g,c⟩,b⟩
      exact ⟨f,a++v,by simp,g,a,v,rfl,c,b⟩
theorem yO {P:List Nat→Prop} {u v:List Nat} (hu:St P u) (hv:P v):St P (u++v):=by
  induction hu with
  | nil=>have:=St.cons hv .nil; rwa [List.append_nil] at this
  | cons h _ ih=>rw [List.append_assoc]; exact .cons h ih
theorem yZ {s y} {fr:List Bool} {W:List Nat} {j:Nat} {z:Bool}:((z=true)↔∃i,i≤j∧ix fr i=true∧L ⟨6,s,[y]⟩ (lI W i j))↔((z=true)↔∃i,i≤j∧ix fr i=true∧St (L y) (lI W i j)):=by
  simp only [An]
  rfl
theorem vy {y:T_Regex} {w:List Nat}:LC [y] w↔L y w:=by simp [LC]
theorem pm {v:az 4} (hv:W4 v) {c:Nat} (hc:c<256):M.i8 v (c:Int)=some (fF v c):=by
  have l:=jg (k:=.i64) (c:=c) (ej (by omega) (by omega))
  have j:=fZ hv (i:=c / 64) (by omega)
  have g:jP (c:Int) 64=some ((c % 64:Nat):Int):=jz (b:=64) (by omega)
  have f:=tM (a:=wd v (c / 64)) (t:=c % 64) (by omega)
  have hlt:wd v (c / 64) >>> (c % 64)<18446744073709551616:=Nat.lt_of_le_of_lt (Nat.shiftRight_le _ _) (fY hv _)
  have e:=lv (b:=1) hlt (by omega)
  have d:IntKind.u64.wrap ((c % 64:Nat):Int)=((c % 64:Nat):Int):=gR (by omega) (by omega)
  unfold M.i8 fF
  simp only [l,j,g,d,f,Option.bind_some]
  rw [show (1:Int)=((1:Nat):Int) from rfl,e]
  congr 1
  rw [Nat.testBit,Nat.and_comm 1,Nat.and_one_is_mod]
  rcases Nat.mod_two_eq_zero_or_one (wd v (c / 64) >>> (c % 64)) with h|h <;> rw [h] <;> rfl
def lC (R:List Nat→Prop) (w:List Nat) (fr out:List Bool):Prop:=out.length=w.length+1∧∀j,j≤w.length→(ix out j=true↔∃i,i≤j∧ix fr i=true∧R (lI w i j))
theorem lC.congr {R R':List Nat→Prop} {w:List Nat} {fr out:List Bool} (h:lC R w fr out) (e:∀u,R u↔R' u):lC R' w fr out:=
  ⟨h.1,fun j hj=>(h.2 j hj).trans ⟨fun ⟨i,a,b,c⟩=>⟨i,a,b,(e _).1 c⟩,fun ⟨i,a,b,c⟩=>⟨i,a,b,(e _).2 c⟩⟩⟩
theorem lC.comp {R Q:List Nat→Prop} {w:List Nat} {fr mid out:List Bool} (b:lC R w fr mid) (a:lC Q w mid out):lC (fun x=>∃u v,x=u++v∧R u∧Q v) w fr out:=by
  refine ⟨a.1,fun j hj=>(a.2 j hj).trans ?_⟩
  constructor
  · rintro ⟨m,hm,hx,hq⟩
    obtain ⟨i,hi,hf,hr⟩:=(b.2 m (by omega)).1 hx
    exact ⟨i,by omega,hf,(jy (by omega) hj R Q).2 ⟨m,hi,hm,hr,hq⟩⟩
  · rintro ⟨i,hi,hf,h⟩
    obtain ⟨m,d,c,hr,hq⟩:=(jy hi hj R Q).1 h
    exact ⟨m,c,(b.2 m (by omega)).2 ⟨i,d,hf,hr⟩,hq⟩
theorem vE (u:UInt8):u.toNat<256:=u.toNat_lt
theorem jN (s:Str):(bW s).length=s.length:=by simp [bW]
theorem mj {s:Str} {i:Nat} (h:i<s.length):(bW s)[i]?=some (s[i]).toNat:=by simp [bW,h]
theorem ya {ρ:Type} {body:List Bool×Int→Option (cD (List Bool×Int) ρ)} {a b:List Bool} {n:Nat} {Q:ρ→Prop} (hn:n≤4611686018427387903) (ha:a.length=n) (hb:b.length=n)
    (step:∀k st,k<n→st.length=n→body (st,(k:Int))=if ix st k then (some (.next (st.set k true,((k+1:Nat):Int)))) else some (.next (st.set k (ix b k),((k+1:Nat):Int))))
    (last:∀st,st.length=n→(∀j,j<n→ix st j=(ix a j || ix b j))→∃r,body (st,(n:Int))=some (.stop r)∧Q r):Is (aT body aR (a,(0:Int))) Q:=by
  refine Is.upto (fun k (st:List Bool×Int)=>st.2=(k:Int)∧st.1.length=n∧∀j,j<n→ix st.1 j=(ix a j || (decide (j<k) && ix b j))) n (by omega) ⟨rfl,ha,by simp⟩ ?_ ?_
  · rintro k ⟨st,_⟩ hk ⟨rfl,hl,hJ⟩
    simp only at hl hJ
    rw [step k st hk hl]
    have hkk:=hJ k hk
    rw [dI (by omega:¬ k<k),Bool.false_and,Bool.or_false] at hkk
    split
    · rename_i h
      refine Is.next ⟨rfl,by simpa using hl,fun j hj=>?_⟩
      rw [mf (by omega)]
      by_cases e:j=k
      · subst e; rw [if_pos rfl,←hkk,h]; rfl
      · rw [if_neg e,hJ j hj]
        congr 2
        exact decide_eq_decide.2 (by omega)
    · rename_i h
      refine Is.next ⟨rfl,by simpa using hl,fun j hj=>?_⟩
      rw [mf (by omega)]
      have h:ix st k=false:=by simpa using h
      by_cases e:j=k
      · subst e; rw [if_pos rfl,←hkk,h,dH (by omega:j<j+1)]; simp
      · rw [if_neg e,hJ j hj]
        congr 2
        exact decide_eq_decide.2 (by omega)
  · rintro ⟨st,_⟩ ⟨rfl,hl,hJ⟩
    obtain ⟨r,hr,hq⟩:=last st hl fun j hj=>by rw [hJ j hj,dH hj,Bool.true_and]
    exact ⟨_,hr,hq⟩
theorem yr:∀fl x,Fit x→height x<fl→∀(s:Str) (fr:List Bool),s.length≤1000000→fr.length=s.length+1→Is (M.e2 fl x s fr) (lC (L x) (bW s) fr):=by
  intro fl
  induction fl with
  | zero=>intro a _ h; omega
  | succ fl ih=>
    rintro ⟨k,st,l⟩ hF hh s fr hs hfr
    have hb:=jN s
    have hk:∀y∈l,∀fr:List Bool,fr.length=s.length+1→Is (M.e2 fl y s fr) (lC (L y) (bW s) fr):=fun y hy fr hfr=>
      ih y (hF.kids y hy) (by have:=ey (x:=⟨k,st,l⟩) hy; omega) s fr hs hfr
    have hll:l.length≤4611686018427387903:=Nat.le_trans hF.len (by decide)
    unfold M.e2
    refine Is.bnq (bc (i:=s.length) (by omega)) (Is.bnq (eO (n:=s.length+1) (by omega)) ?_)
    have hcopy:gn (List.replicate (s.length+1) false) fr=fr:=by
      unfold gn
      rw [List.length_replicate,←hfr,List.take_length,List.drop_eq_nil_of_le (by rw [List.length_replicate]; omega),List.append_nil]
    simp only [hcopy]
    have hfrE:lC (fun u=>u=[]) (bW s) fr fr:=by
      refine ⟨by omega,fun j hj=>⟨fun h=>⟨j,Nat.le_refl _,h,nr _ _⟩,?_⟩⟩
      rintro ⟨i,hi,h,e⟩
      rw [(tQ hi hj).1 e] at h
      exact h
    refine Is.bnd (P:=fun r=>lC (L ⟨k,st,l⟩) (bW s) fr r) ?_ (fun r hr=>Is.pure hr)
    rcases ea k with rfl|rfl|rfl|rfl|rfl|⟨f,g,p,w,h6⟩
    · refine Is.ct rfl (Is.pure (hfrE.congr fun u=>zt.symm))
    · refine Is.cf rfl (Is.ct rfl ?_)
      refine Is.upto (fun i (z:List Bool×Int)=>z.2=(i:Int)∧z.1.length=s.length+1∧∀j,j≤s.length→(ix z.1 j=true↔j≤i∧∃i',j=i'+1∧ix fr i'=true∧∃b,(bW s)[i']?=some b∧fF st b=true)) s.length (by omega) ⟨rfl,by simp,?_⟩ ?_ ?_
      · intro j hj
        simp only [qk]
        refine ⟨fun h=>by simp at h,?_⟩
        rintro ⟨h,i',rfl,_⟩
        omega
      · rintro i ⟨z,_⟩ hi ⟨rfl,hl,hJ⟩
        simp only at hl hJ
        dsimp only
        refine Is.dt (show (i:Int)<(s.length:Int) by omega) (Is.bnq (bc (by omega)) (Is.bnq (jm (by omega)) ?_))
        have hz:∀v,(v=true↔ix fr i=true∧fF st (s[i]).toNat=true)→∀j,j≤s.length→(ix (z.set (i+1) v) j=true↔j≤i+1∧∃i',j=i'+1∧ix fr i'=true∧∃b,(bW s)[i']?=some b∧fF st b=true):=by
          intro v hv j hj
          rw [mf (by omega)]
          by_cases e:j=i+1
          · subst e
            rw [if_pos rfl,hv]
            constructor
            · rintro ⟨d,f⟩
              exact ⟨Nat.le_refl _,i,rfl,d,_,mj hi,f⟩
            · rintro ⟨_,i',e,d,b,f,g⟩
              obtain rfl:i=i':=by omega
              rw [mj hi] at f
              cases f
              exact ⟨d,g⟩
          · rw [if_neg e,hJ j hj]
            constructor
            · rintro ⟨d,f⟩; exact ⟨by omega,f⟩
            · rintro ⟨d,f⟩; exact ⟨by omega,f⟩
        refine Is.cnd (fun h=>?_) (fun h=>?_)
        · refine Is.bnq (dB hi) ?_
          rw [ej (n:=((s[i]).toNat:Int)) (by omega) (by have:=vE s[i]; omega)]
          refine Is.bnq (pm hF.set (vE _)) (Is.bnq (dK (by omega)) (Is.next ⟨rfl,by simpa using hl,hz _ ?_⟩))
          rw [h]; simp
        · refine Is.bnq (dK (by omega)) (Is.next ⟨rfl,by simpa using hl,hz _ ?_⟩)
          rw [h]; simp
      · rintro ⟨z,_⟩ ⟨rfl,hl,hJ⟩
        simp only at hl hJ
        refine Is.df (show ¬ (s.length:Int)<(s.length:Int) by omega) (Is.stop ⟨by show z.length=_; omega,fun j hj=>(hJ j (by omega)).trans ?_⟩)
        constructor
        · rintro ⟨_,i',rfl,d,b,f,g⟩
          exact ⟨i',by omega,d,Av.2 ⟨b,(tP (by omega) hj).2 ⟨rfl,f⟩,g⟩⟩
        · rintro ⟨i,hi,d,h⟩
          obtain ⟨b,G,g⟩:=Av.1 h
          obtain ⟨rfl,f⟩:=(tP hi hj).1 G
          exact ⟨by omega,i,rfl,d,b,f,g⟩
    · refine Is.cf rfl (Is.cf rfl (Is.ct rfl ?_))
      refine Is.upto (fun i (z:List Bool×Int)=>z.2=(i:Int)∧lC (LC (l.take i)) (bW s) fr z.1) l.length (by omega) ⟨rfl,hfrE⟩ ?_ ?_
      · rintro i ⟨z,_⟩ hi ⟨rfl,hJ⟩
        simp only at hJ
        refine Is.dt (show (i:Int)<(l.length:Int) by omega) (Is.bnq (ba hi) (Is.bnd (hk _ (List.getElem_mem hi) z (by have:=hJ.1; omega)) fun r hr=>Is.bnq (bc (by omega)) (Is.next ⟨rfl,?_⟩)))
        refine (hJ.comp hr).congr fun u=>?_
        rw [List.take_add_one,List.getElem?_eq_getElem hi]
        show _↔LC (l.take i++[l[i]]) u
        rw [vz]
        simp only [vy]
      · rintro ⟨z,_⟩ ⟨rfl,hJ⟩
        refine Is.df (show ¬ (l.length:Int)<(l.length:Int) by omega) (Is.stop ?_)
        rw [List.take_length] at hJ
        exact hJ.congr fun u=>BS.symm
    · refine Is.cf rfl (Is.cf rfl (Is.cf rfl (Is.ct rfl ?_)))
      refine Is.upto (fun i (z:List Bool×Int)=>z.2=(i:Int)∧lC (LU (l.take i)) (bW s) fr z.1) l.length (by omega) ⟨rfl,?_⟩ ?_ ?_
      · refine ⟨by simp [hb],fun j hj=>?_⟩
        show ix (List.replicate (s.length+1) false) j=true↔_
        rw [qk]
        simp [LU]
      · rintro i ⟨z,_⟩ hi ⟨rfl,hJ⟩
        simp only at hJ
        refine Is.dt (show (i:Int)<(l.length:Int) by omega) ?_
        refine Is.bnd (P:=fun r=>lC (LU (l.take (i+1))) (bW s) fr r) ?_ (fun r hr=>Is.bnq (bc (by omega)) (Is.next ⟨rfl,hr⟩))
        refine Is.bnq (ba hi) (Is.bnd (hk _ (List.getElem_mem hi) fr hfr) fun r hr=>?_)
        have F:=hr.1
        have H:=hJ.1
        refine ya (n:=s.length+1) (a:=z) (b:=r) (by omega) (by omega) (by omega) (fun k st hk hl=>?_) (fun st hl hst=>⟨st,?_,by omega,fun j hj=>?_⟩)
        · simp only [dH (show (k:Int)<(r.length:Int) by omega),cond_true,jm (show k<st.length by omega),Option.bind_some]
          cases hix:ix st k
          · simp only [cond_false,jm (show k<r.length by omega),Option.bind_some,dK (show k<st.length by omega),bc (show k<9223372036854775807 by omega)]
            rfl
          · simp only [cond_true,Option.bind_some,dK (show k<st.length by omega),bc (show k<9223372036854775807 by omega)]
            rfl
        · simp only [dI (show ¬ (((s.length+1:Nat):Int)<(r.length:Int)) by omega),cond_false]
        · rw [hst j (by omega),Bool.or_eq_true,hJ.2 j hj,hr.2 j hj]
          have e:∀u,LU (l.take (i+1)) u↔LU (l.take i) u∨L l[i] u:=by
            intro u
            rw [oF,oF,List.take_add_one,List.getElem?_eq_getElem hi]
            simp only [Option.toList,List.mem_append,List.mem_singleton]
            constructor
            · rintro ⟨y,hy|rfl,h⟩
              · exact .inl ⟨y,hy,h⟩
              · exact .inr h
            · rintro (⟨y,hy,h⟩|h)
              · exact ⟨y,.inl hy,h⟩
              · exact ⟨_,.inr rfl,h⟩
          constructor
          · rintro (⟨o,a,b,c⟩|⟨o,a,b,c⟩)
            · exact ⟨o,a,b,(e _).2 (.inl c)⟩
            · exact ⟨o,a,b,(e _).2 (.inr c)⟩
          · rintro ⟨o,a,b,c⟩
            rcases (e _).1 c with c|c
            · exact .inl ⟨o,a,b,c⟩
            · exact .inr ⟨o,a,b,c⟩
      · rintro ⟨z,_⟩ ⟨rfl,hJ⟩
        refine Is.df (show ¬ (l.length:Int)<(l.length:Int) by omega) (Is.stop ?_)
        rw [List.take_length] at hJ
        exact hJ.congr fun u=>Au.symm
    · refine Is.cf rfl (Is.cf rfl (Is.cf rfl (Is.cf rfl (Is.ct rfl ?_))))
      obtain ⟨s',y,e,hy⟩:=il hF.cn rfl
      cases e
      have hky:=hk y (by simp)
      refine Is.while (fun (z:List Bool×Bool)=>z.1.length=s.length+1∧(∀j,j≤s.length→ix fr j=true→ix z.1 j=true)∧(∀j,j≤s.length→ix z.1 j=true→∃i,i≤j∧ix fr i=true∧St (L y) (lI (bW s) i j))∧
          (z.2=false→∀i j,i≤j→j≤s.length→ix z.1 i=true→L y (lI (bW s) i j)→ix z.1 j=true)) (fun z=>mP (ix z.1) (s.length+1)+(bif z.2 then 1 else 0))
        ⟨hfr,fun _ _ h=>h,fun j _ h=>⟨j,Nat.le_refl _,h,by rw [nr]; exact .nil⟩,fun h=>by cases h⟩ ?_ ?_
      · have:=tn (ix fr) (s.length+1)
        simp only [cond_true]; omega
      · rintro ⟨z,more⟩ ⟨hzl,A,t,B⟩
        simp only at hzl A t B
        cases more with
        | false=>
          refine Is.cf rfl (Is.stop ⟨by show z.length=_; omega,fun j hj=>?_⟩)
          rw [yZ]
          refine ⟨fun h=>t j (by omega) h,?_⟩
          rintro ⟨i,hi,d,f⟩
          have ib:∀u,St (L y) u→∀i,i≤j→ix z i=true→lI (bW s) i j=u→ix z j=true:=by
            intro u hu
            induction hu with
            | nil=>
              intro i hi d e
              rw [(tQ hi hj).1 e] at d
              exact d
            | @cons u v hu hv ihv=>
              intro i hi d e
              obtain ⟨m,f,g,p,w⟩:=(jy hi hj (·=u) (·=v)).1 ⟨u,v,e,rfl,rfl⟩
              exact ihv m g (B rfl i m f (by omega) d (p ▸ hu)) w
          exact ib _ f i hi (A i (by omega) d) rfl
        | true=>
          refine Is.ct rfl (Is.bnq (ba (i:=0) (by simp)) ?_)
          refine Is.bnd (hky z hzl) fun r hr=>?_
          have F:=hr.1
          refine Is.upto (fun k (q:List Bool×Bool×Int)=>q.2.2=(k:Int)∧q.1.length=s.length+1∧(∀j,j<s.length+1→ix q.1 j=(ix z j || (decide (j<k) && ix r j)))∧(q.2.1=true↔∃j,j<k∧ix r j=true∧ix z j=false)) (s.length+1) (by omega)
            ⟨rfl,hzl,by simp,by simp⟩ ?_ ?_
          · rintro k ⟨q,mo,_⟩ hk ⟨rfl,hl,hJ,hmo⟩
            simp only at hl hJ hmo
            dsimp only
            have hkk:=hJ k hk
            rw [dI (by omega:¬ k<k),Bool.false_and,Bool.or_false] at hkk
            refine Is.dt (show (k:Int)<(r.length:Int) by omega) ?_
            refine Is.bnd (P:=fun b=>b=(mo || (ix r k && !ix z k))) ?_ ?_
            · refine Is.cnd (fun h=>Is.pure (by rw [h]; rfl)) (fun h=>?_)
              rw [h]
              refine Is.bnq (jm (by omega)) (Is.cnd (fun h=>?_) (fun h=>Is.pure (by rw [h]; rfl)))
              rw [h]
              exact Is.bnq (jm (by omega)) (Is.pure (by rw [hkk]; rfl))
            · rintro _ rfl
              have D:((mo || (ix r k && !ix z k))=true↔∃j,j<k+1∧ix r j=true∧ix z j=false):=by
                rw [Bool.or_eq_true,hmo]
                constructor
                · rintro (⟨j,a,b⟩|h)
                  · exact ⟨j,by omega,b⟩
                  · exact ⟨k,by omega,by simpa using h⟩
                · rintro ⟨j,a,b⟩
                  by_cases e:j=k
                  · subst e; right; simpa using b
                  · left; exact ⟨j,by omega,b⟩
              refine Is.bnq (jm (by omega)) (Is.cnd (fun h=>?_) (fun h=>?_))
              · refine Is.bnq (dK (by omega)) (Is.bnq (bc (by omega)) (Is.next ⟨rfl,by simpa using hl,fun j hj=>?_,D⟩))
                show ix (q.set k true) j=_
                rw [mf (by omega)]
                by_cases e:j=k
                · subst e; rw [if_pos rfl,←hkk,h]; rfl
                · rw [if_neg e,hJ j hj]
                  congr 2
                  exact decide_eq_decide.2 (by omega)
              · refine Is.bnq (jm (by omega)) (Is.bnq (dK (by omega)) (Is.bnq (bc (by omega)) (Is.next ⟨rfl,by simpa using hl,fun j hj=>?_,D⟩)))
                show ix (q.set k (ix r k)) j=_
                rw [mf (by omega)]
                by_cases e:j=k
                · subst e; rw [if_pos rfl,←hkk,h,dH (by omega:j<j+1)]; simp
                · rw [if_neg e,hJ j hj]
                  congr 2
                  exact decide_eq_decide.2 (by omega)
          · rintro ⟨q,mo,_⟩ ⟨rfl,hl,hJ,hmo⟩
            simp only at hl hJ hmo
            have hJ:∀j,j<s.length+1→ix q j=(ix z j || ix r j):=fun j hj=>by rw [hJ j hj,dH hj,Bool.true_and]
            refine Is.df (show ¬ (((s.length+1:Nat):Int)<(r.length:Int)) by omega) (Is.stop ?_)
            refine ⟨⟨hl,fun j hj h=>?_,fun j hj h=>?_,fun hm i j hi hj d f=>?_⟩,?_⟩
            · show ix q j=true
              rw [hJ j (by omega),A j hj h]; rfl
            · have h:ix q j=true:=h
              rw [hJ j (by omega),Bool.or_eq_true] at h
              rcases h with h|h
              · exact t j hj h
              · obtain ⟨m,hm,d,f⟩:=(hr.2 j (by omega)).1 h
                obtain ⟨i,hi,g,p⟩:=t m (by omega) d
                refine ⟨i,by omega,g,?_⟩
                obtain ⟨u,v,e,hu,hv⟩:=(jy (by omega) (by omega:j≤(bW s).length) (St (L y)) (L y)).2 ⟨m,hi,hm,p,f⟩
                rw [e]
                exact yO hu hv
            · have hm:mo=false:=hm
              have hno:∀j,j<s.length+1→ix r j=true→ix z j=true:=by
                intro j hj h
                cases hz:ix z j
                · rw [hm] at hmo
                  exact absurd (hmo.2 ⟨j,hj,h,hz⟩) (by simp)
                · rfl
              have d:ix q i=true:=d
              rw [hJ i (by omega),Bool.or_eq_true] at d
              have d:ix z i=true:=d.elim id (hno i (by omega))
              show ix q j=true
              rw [hJ j (by omega),Bool.or_eq_true]
              right
              exact (hr.2 j (by omega)).2 ⟨i,hi,d,f⟩
            · have mono:∀j,j<s.length+1→ix z j=true→ix q j=true:=fun j hj h=>by rw [hJ j hj,h]; rfl
              show mP (ix q) (s.length+1)+(bif mo then 1 else 0)<mP (ix z) (s.length+1)+1
              cases mo with
              | false=>have:=ur mono; simp only [cond_false]; omega
              | true=>
                obtain ⟨j,hj,d,f⟩:=hmo.1 rfl
                have:=yw mono hj f (by rw [hJ j hj,d,f]; rfl)
                simp only [cond_true]; omega
    · refine Is.cf (bM f) (Is.cf (bM g) (Is.cf (bM p) (Is.cf (bM w) (Is.cf (bM h6) (Is.pure ⟨by simp [hb],fun j hj=>?_⟩)))))
      rw [qk]
      refine ⟨fun h=>by simp at h,?_⟩
      rintro ⟨i,_,_,h⟩
      exact absurd h (BT f g p w h6)
theorem iZ {x:T_Regex} (hF:FH x) {s:Str} (hs:s.length≤1000000):M.g0 x s=some (decide (L x (bW s))):=by
  refine Is.eq ?_
  unfold M.g0
  refine Is.bnq (bc (i:=s.length) (by omega)) (Is.bnq (eO (n:=s.length+1) (by omega)) (Is.bnq (dK (i:=0) (by simp)) ?_))
  refine Is.bnd (yr aR x hF.1 hF.2 s _ hs (by simp)) fun r hr=>?_
  have hb:=jN s
  have hl:=hr.1
  refine Is.bnq (jm (by omega)) (Is.pure ?_)
  have b:∀i,ix ((List.replicate (s.length+1) false).set 0 true) i=true↔i=0:=by
    intro i
    rw [mf (by simp)]
    by_cases e:i=0
    · rw [if_pos e]; simp [e]
    · rw [if_neg e,qk]; simp [e]
  have hseg:lI (bW s) 0 s.length=bW s:=by unfold lI; rw [←hb,List.take_length]; rfl
  have ib:ix r s.length=true↔L x (bW s):=by
    rw [hr.2 s.length (by omega)]
    constructor
    · rintro ⟨i,_,c,a⟩
      rw [(b i).1 c,hseg] at a
      exact a
    · exact fun h=>⟨0,by omega,(b 0).2 rfl,by rw [hseg]; exact h⟩
  rw [Bool.eq_iff_iff,ib]
  simp
end Go.Proofs.YtlcdifnmkafcfaaGreat
namespace Go.Proofs.YtlcdifnmkafcfaaGreat
open Go.Lx
open Classical
theorem sy {s:az 4} {n:Nat} (h:gS 6 s n=true):n=1:=by
  simp [gS] at h; exact h.1
theorem vK {k:Int} {s:az 4} {n:Nat} (hk:k=1∨k=2) (h:gS k s n=true):n=0∧s=az.zero 4:=by
  rcases hk with rfl|rfl
  · simp only [gS,beq_self_eq_true,Bool.true_or,cond_true,Bool.and_eq_true,beq_iff_eq] at h; exact h
  · simp only [gS,beq_self_eq_true,Bool.or_true,cond_true,Bool.and_eq_true,beq_iff_eq] at h; exact h
theorem qn:∀x d,bP x→V d x=true→parts x≤100000→Fit x:=by
  refine T_Regex.ind fun k s l ih d ok hv hp=>?_
  have hpl:bm l+1≤100000:=hp
  have hlen:=fG l
  cases d with
  | zero=>cases hv
  | succ d=>
    rw [V,Bool.and_eq_true,List.all_eq_true] at hv
    obtain ⟨hs,hv⟩:=hv
    have he:∀j,k=j→j=1∨j=2→(⟨k,s,l⟩:T_Regex)=⟨j,az.zero 4,[]⟩:=fun j e hj=>by
      subst e
      obtain ⟨b,a⟩:=vK hj hs
      have a:s=az.zero 4:=a
      have b:l=[]:=List.eq_nil_of_length_eq_zero b
      rw [a,b]
    refine .mk _ (zd (wa ok)) (by show l.length≤big; unfold big; omega) (fun e=>?_) (fun e=>he 1 e (.inl rfl)) (fun e=>he 2 e (.inr rfl))
      (fun y hy=>ih y hy d (iy ok y hy) (hv y hy) (by have:parts y≤bm l:=dM hy; omega))
    obtain rfl:k=6:=e
    have:=sy hs
    exact List.length_eq_one_iff.1 this
theorem xr:∀fl x,bP x→height x<fl→height x≤1000→M.g1 fl x=some (height x:Int):=by
  intro fl
  induction fl with
  | zero=>intro a _ h; omega
  | succ fl ih=>
    rintro ⟨k,s,l⟩ ok hh hb
    have hl:l.length≤9223372036854775807:=Nat.le_trans (sT ok) (by decide)
    unfold M.g1
    refine Is.eq ?_
    refine Is.bnd (P:=fun r=>r=((bK l:Nat):Int)) ?_ ?_
    · refine Is.upto (fun i (st:Int×Int)=>st.2=(i:Int)∧st.1=((bK (l.take i):Nat):Int)) l.length hl ⟨rfl,by simp [bK]⟩ ?_ ?_
      · rintro i ⟨a,_⟩ hi ⟨rfl,b⟩
        obtain rfl:a=_:=b
        have hk:=ey (x:=⟨k,s,l⟩) (List.getElem_mem hi)
        refine Is.dt (show (i:Int)<(l.length:Int) by omega) (Is.bnq (ba hi) (Is.bnq (ih _ (iy ok _ (List.getElem_mem hi)) (by omega) (by omega)) (Is.bnq (bc (by omega)) (Is.next ⟨rfl,?_⟩))))
        rw [List.take_add_one,List.getElem?_eq_getElem hi,jn]
        simp only [ob,Option.toList,bK]
        split <;> omega
      · rintro ⟨a,_⟩ ⟨rfl,b⟩
        obtain rfl:a=_:=b
        refine Is.df (show ¬ (l.length:Int)<(l.length:Int) by omega) (Is.stop ?_)
        rw [List.take_length]
    · rintro _ rfl
      have:height (⟨k,s,l⟩:T_Regex)=bK l+1:=rfl
      exact Is.bnq (bc (by omega)) (Is.pure (by rw [this]))
section
variable {P N H:Nat} (hP:3≤P) (hM:1≤N) (hB:P*P*(N+1)≤big) (hH:H≤1000) {x:T_Regex} (hF:Fit x) (hp:parts x≤P) (hh:height x≤H)
include hP hM hB hH hF hp hh
theorem zE {v:List Nat} (hv:v.length≤N):M.a5 aR (fP x v)=some (decide (L x v)):=by
  have:=(mZ hP hM hB x hF hp hh).2 v hv
  rw [mu aR _ this.1 (by unfold aR; omega)]
  congr 1
  rw [Bool.eq_iff_iff,we,AY]
  simp
theorem rN {v:List Nat} {s:Str} (hv:v.length+s.length≤N) (hs:s.length≤1000000) {body:Int×(az 4)×(List T_Regex)×Int→Option (cD (Int×(az 4)×(List T_Regex)×Int) (Int×(az 4)×(List T_Regex)))}
    (hb:∀a b c i,body (a,b,c,i)=bif decide (i<(s.length:Int)) then (fa s i).bind fun d=>(M.a6 aR (T_Regex.mk a b c) d).bind fun rv=>(bU .i64 (i+1)).bind fun t=>some (.next (rv.Kind,rv.Set,rv.Kids,t)) else some (.stop (a,b,c))) :
    aT body aR ((fP x v).Kind,(fP x v).Set,(fP x v).Kids,(0:Int))=some ((fP x (v++bW s)).Kind,(fP x (v++bW s)).Set,(fP x (v++bW s)).Kids):=by
  refine Is.eq ?_
  have hbl:=jN s
  refine Is.upto (fun i (st:Int×(az 4)×(List T_Regex)×Int)=>st=((fP x (v++(bW s).take i)).Kind,(fP x (v++(bW s).take i)).Set,(fP x (v++(bW s).take i)).Kids,(i:Int))) s.length (by omega) (by simp) ?_ ?_
  · rintro i _ hi rfl
    rw [hb]
    refine Is.dt (by omega) (Is.bnq (dB hi) ?_)
    have hlen:(v++(bW s).take i).length<N:=by rw [List.length_append,List.length_take]; omega
    have hg:=(zJ hP hM hB hH x hF hp hh).2.2 _ hlen
    have hf:=(mZ hP hM hB x hF hp hh).2 _ (Nat.le_of_lt hlen)
    have hd:=hg (s[i]).toNat (vE _) aR (Nat.lt_of_le_of_lt hf.2 (by unfold aR; omega))
    generalize hy:fP x (v++(bW s).take i)=y at hd ⊢
    have hd:M.a6 aR (T_Regex.mk y.Kind y.Set y.Kids) ((s[i]).toNat:Int)=some (dr y (s[i]).toNat):=by cases y; exact hd
    refine Is.bnq hd (Is.bnq (bc (i:=i) (by omega)) (Is.next ?_))
    have e:v++(bW s).take (i+1)=(v++(bW s).take i)++[(s[i]).toNat]:=by
      rw [List.take_add_one,mj hi,List.append_assoc]; rfl
    rw [e,ep,hy]
  · rintro _ rfl
    rw [hb]
    refine Is.df (by omega) (Is.stop ?_)
    rw [←hbl,List.take_length]
theorem te {v:List Nat} {s:Str} (hv:v.length+s.length≤N) (hs:s.length≤1000000):M.f1 (fP x v) s=some (decide (L x (v++bW s))):=by
  unfold M.f1
  rw [rN hP hM hB hH hF hp hh hv hs (fun _ _ _ _=>rfl)]
  show (M.a5 aR (fP x (v++bW s))).bind _=_
  rw [zE hP hM hB hH hF hp hh (by rw [List.length_append,jN]; exact hv)]
  rfl
theorem wo {s:Str} (hs:s.length≤N) (hs2:s.length≤1000000):M.f1 x s=some (decide (L x (bW s))):=
  te hP hM hB hH hF hp hh (v:=[]) (by simpa using hs) hs2
end
end Go.Proofs.YtlcdifnmkafcfaaGreat
namespace Go.Proofs.YtlcdifnmkafcfaaGreat
open Go.Lx
def pv (p:Nat×Nat):az 2:=⟨[(p.1:Int),(p.2:Int)],rfl⟩
def mV (P:List (Nat×Nat)):List (az 2):=P.map pv
theorem xW (P Q:List (Nat×Nat)):mV (P++Q)=mV P++mV Q:=by simp [mV]
theorem mU (P:List (Nat×Nat)):(mV P).length=P.length:=by simp [mV]
theorem sR (a b:List Nat) (p:Nat):dE (a++[p]) b=dE a b++b.map fun q=>(p,q):=by simp [dE]
theorem tt {S:List (az 4)} {P:List (Nat×Nat)} {la fi:List Nat} (h:P.length+la.length*fi.length≤1000000000) (b:la.length≤1000000) (a:fi.length≤1000000) :
    M.b5 ⟨S,mV P⟩ (mB la) (mB fi)=some ⟨S,mV (P++dE la fi)⟩:=by
  refine Is.eq ?_
  unfold M.b5
  refine Is.upto (fun i (st:List (az 2)×Int)=>st.2=(i:Int)∧st.1=mV (P++dE (la.take i) fi)) la.length (by omega) ⟨rfl,by simp [dE]⟩ ?_ ?_
  · rintro i ⟨s,_⟩ hi ⟨rfl,e⟩
    obtain rfl:s=_:=e
    have hmul:(i+1)*fi.length≤la.length*fi.length:=Nat.mul_le_mul_right _ hi
    rw [Nat.succ_mul] at hmul
    have hlen:(P++dE (la.take i) fi).length=P.length+i*fi.length:=by rw [List.length_append,jJ,List.length_take,Nat.min_eq_left (Nat.le_of_lt hi)]
    refine Is.dt (by rw [dP]; omega) (Is.bnq (x:=mV (P++dE (la.take (i+1)) fi)) (Is.eq ?_) (Is.bnq (bc (by omega)) (Is.next ⟨rfl,rfl⟩)))
    refine Is.upto (fun k (st:List (az 2)×Int)=>st.2=(k:Int)∧st.1=mV ((P++dE (la.take i) fi)++(fi.take k).map fun q=>(la[i],q))) fi.length (by omega) ⟨rfl,by simp⟩ ?_ ?_
    · rintro k ⟨s,_⟩ hk ⟨rfl,e⟩
      obtain rfl:s=_:=e
      refine Is.dt (by rw [dP]; omega) (Is.bnq (pM hi) (Is.bnq (pM hk) (Is.bnq (cV ?_) (Is.bnq (bc (by omega)) (Is.next ⟨rfl,?_⟩)))))
      · rw [mU,List.length_append,hlen,List.length_map,List.length_take,List.length_singleton]; omega
      · rw [eB hk,List.map_append,←List.append_assoc,xW (_++_) (List.map _ [fi[k]])]
        rfl
    · rintro ⟨s,_⟩ ⟨rfl,e⟩
      obtain rfl:s=_:=e
      refine Is.df (by rw [dP]; omega) (Is.stop ?_)
      rw [List.take_length,eB hi,sR,List.append_assoc]
  · rintro ⟨s,_⟩ ⟨rfl,e⟩
    obtain rfl:s=_:=e
    refine Is.df (by rw [dP]; omega) (Is.stop ?_)
    rw [List.take_length]
def sr (x:Pt):cw:=⟨x.nl,mB x.fi,mB x.la⟩
theorem sH {S:List (az 4)} {P:List (Nat×Nat)} {x y:Pt} (h:P.length+x.la.length*y.fi.length≤1000000000) (d:x.la.length≤100000) (c:y.fi.length≤100000) (b:x.fi.length≤100000) (a:y.la.length≤100000) :
    M.c5 ⟨S,mV P⟩ (sr x) (sr y)=some (sr (eS x y),⟨S,mV (P++dE x.la y.fi)⟩):=by
  refine Is.eq ?_
  unfold M.c5
  refine Is.bnq (tt h (by omega) (by omega)) ?_
  refine Is.bnq (x:=x.nl && y.nl) (Is.eq (Is.cnd (fun hn=>Is.pure ?_) (fun hn=>Is.pure ?_))) ?_
  · have hn:x.nl=true:=hn
    rw [hn]; rfl
  · have hn:x.nl=false:=hn
    rw [hn]; rfl
  refine Is.bnq (x:=mB (eS x y).fi) (Is.eq (Is.cnd (fun hn=>?_) (fun hn=>Is.pure ?_))) ?_
  · have hn:x.nl=true:=hn
    refine Is.bnq (cV (by simp only [sr,dP,List.length_nil]; omega)) (Is.bnq (cV (by simp only [sr,dP,List.nil_append]; omega)) (Is.pure ?_))
    unfold eS sr
    rw [hn,cond_true,pN,List.nil_append]
  · have hn:x.nl=false:=hn
    unfold eS sr
    rw [hn,cond_false]
  refine Is.bnq (x:=mB (eS x y).la) (Is.eq (Is.cnd (fun hn=>?_) (fun hn=>Is.pure ?_))) (Is.pure rfl)
  · have hn:y.nl=true:=hn
    refine Is.bnq (cV (by simp only [sr,dP,List.length_nil]; omega)) (Is.bnq (cV (by simp only [sr,dP,List.nil_append]; omega)) (Is.pure ?_))
    unfold eS sr
    rw [hn,cond_true,pN,List.nil_append]
  · have hn:y.nl=false:=hn
    unfold eS sr
    rw [hn,cond_false]
section
variable {K q:Nat} (hq:K*K≤q)
include hq
mutual
theorem iB:∀(x:T_Regex) (b:Bs),parts x≤K→(bd x b).2.P.length+q≤b.P.length+2*(parts x*q)
  | ⟨k,s,l⟩,b,hK=>by
    simp only [parts] at hK ⊢
    rw [Nat.add_mul,Nat.one_mul]
    simp only [bd]
    cases k == 3
    · cases k == 4
      · cases k == 5
        · cases k == 6
          · simp only [cond_false]; omega
          · match l,hK with
            | [],_=>simp only [cond_false,cond_true,yJ]; omega
            | y::l,hK=>
              simp only [bm] at hK
              have h:=iB y b (by omega)
              have d:=fS y b
              have c:(bd y b).1.la.length*(bd y b).1.fi.length≤q:=Nat.le_trans (Nat.mul_le_mul (by omega) (by omega)) hq
              simp only [cond_false,cond_true,yJ,bm,List.length_append,jJ,Nat.add_mul]
              omega
        · have h:=oA l ⟨false,[],[]⟩ b (by omega)
          simp only [cond_false,cond_true] at h ⊢
          omega
      · have h:=oB l ⟨true,[],[]⟩ b (by simp only [List.length_nil]; omega)
        simp only [cond_false,cond_true] at h ⊢
        omega
    · simp only [cond_true]; omega
theorem oB:∀(l:List T_Regex) (x:Pt) (b:Bs),x.la.length+bm l≤K→(fW l x b).2.P.length≤b.P.length+2*(bm l*q)
  | [],x,b,_=>by simp [fW,bm]
  | y::l,x,b,hK=>by
    simp only [bm] at hK
    have h:=iB y b (by omega)
    have d:=fS y b
    have c:x.la.length*(bd y b).1.fi.length≤q:=Nat.le_trans (Nat.mul_le_mul (by omega) (by omega)) hq
    have e:(eS x (bd y b).1).la.length≤x.la.length+(bd y b).1.la.length:=by unfold eS; cases (bd y b).1.nl <;> simp
    have a:=oB l (eS x (bd y b).1) ⟨(bd y b).2.S,(bd y b).2.P++dE x.la (bd y b).1.fi⟩ (by omega)
    simp only [List.length_append,jJ] at a
    simp only [fW,bm,Nat.add_mul]
    omega
theorem oA:∀(l:List T_Regex) (x:Pt) (b:Bs),bm l≤K→(gQ l x b).2.P.length≤b.P.length+2*(bm l*q)
  | [],x,b,_=>by simp [gQ,bm]
  | y::l,x,b,hK=>by
    simp only [bm] at hK
    have h:=iB y b (by omega)
    have a:=oA l (kN x (bd y b).1) (bd y b).2 (by omega)
    simp only [gQ,bm,Nat.add_mul]
    omega
end
theorem oq (a:1≤K):∀(l:List T_Regex) (i:Nat) (s:Bs×List Int),bm l≤K→(gM i l s).1.P.length≤s.1.P.length+2*(bm l*q)
  | [],i,s,_=>by simp [gM,bm]
  | y::l,i,s,hK=>by
    simp only [bm] at hK
    have h:=iB hq y s.1 (by omega)
    have d:=fS y s.1
    have c:K≤q:=Nat.le_trans (by rw [←Nat.mul_one K,Nat.mul_assoc]; exact Nat.mul_le_mul_left _ (by omega)) hq
    have b:=oq a l (i+1) (tL i y s) (by omega)
    have h6:(tL i y s).1.P.length=(bd y s.1).2.P.length+(bd y s.1).1.fi.length:=by
      show ((bd y s.1).2.P++dE [0] (bd y s.1).1.fi).length=_
      rw [List.length_append,jJ]
      simp
    simp only [gM,bm,Nat.add_mul]
    omega
end
theorem wS:∀(d fl:Nat) (x:T_Regex) (b:Bs),V d x=true→d+1≤fl→b.S.length+parts x≤500→b.P.length+500000*parts x≤500000000→M.a4 fl ⟨b.S,mV b.P⟩ x=some (sr (bd x b).1,⟨(bd x b).2.S,mV (bd x b).2.P⟩):=by
  intro d
  induction d with
  | zero=>intro fl x b h; simp [V] at h
  | succ d ih=>
    intro fl x b hV hfl hsz hpz
    obtain ⟨fl,rfl⟩:∃f,fl=f+1:=⟨fl - 1,by omega⟩
    obtain ⟨k,s,l⟩:=x
    obtain ⟨hsh,hkid⟩:=Ak hV
    have hparts:parts ⟨k,s,l⟩=bm l+1:=by simp [parts]
    rw [hparts] at hsz hpz
    have hll:=fG l
    refine Is.eq ?_
    unfold M.a4
    have fin:∀ {o:Option (Bool×List Int×List Int×List (az 4)×List (az 2))} {r:Pt×Bs},bd ⟨k,s,l⟩ b=r→Is o (fun v=>v=(r.1.nl,mB r.1.fi,mB r.1.la,r.2.S,mV r.2.P))→
        Is (o.bind fun x=>some ((cw.mk x.1 x.2.1 x.2.2.1),(bO.mk x.2.2.2.1 x.2.2.2.2))) (fun v=>v=(sr (bd ⟨k,s,l⟩ b).1,⟨(bd ⟨k,s,l⟩ b).2.S,mV (bd ⟨k,s,l⟩ b).2.P⟩)):=by
      intro o r he ho
      refine Is.bnd ho fun v hv=>Is.pure ?_
      rw [hv,he]
      rfl
    have hq:500*500≤250000:=by decide
    rcases sA hsh with rfl|rfl|rfl|rfl|rfl|rfl
    · exact fin (r:=(⟨false,[],[]⟩,b)) (by simp [bd]) (Is.cf rfl (Is.cf rfl (Is.cf rfl (Is.cf rfl (Is.cf rfl (Is.pure rfl))))))
    · exact fin (r:=(⟨true,[],[]⟩,b)) (by simp [bd]) (Is.ct rfl (Is.pure rfl))
    · refine fin (r:=(⟨false,[b.S.length+1],[b.S.length+1]⟩,⟨b.S++[s],b.P⟩)) (by simp [bd]) (Is.cf rfl (Is.ct rfl (Is.bnq (cV (by simp only [List.length_singleton]; omega)) (Is.pure ?_))))
      simp [mB]
    · refine fin (r:=fW l ⟨true,[],[]⟩ b) (by simp [bd]) (Is.cf rfl (Is.cf rfl (Is.ct rfl ?_)))
      refine Is.upto (fun i (st:List (az 4)×List (az 2)×Bool×List Int×List Int×Int)=>st=((fW (l.take i) ⟨true,[],[]⟩ b).2.S,mV (fW (l.take i) ⟨true,[],[]⟩ b).2.P,(fW (l.take i) ⟨true,[],[]⟩ b).1.nl,mB (fW (l.take i) ⟨true,[],[]⟩ b).1.fi,mB (fW (l.take i) ⟨true,[],[]⟩ b).1.la,(i:Int))) l.length (by omega) (by simp [fW,mB]) ?_ ?_
      · rintro i _ hi rfl
        have a:=qy (l.take i) ⟨true,[],[]⟩ b
        have c:=oB (K:=500) (q:=250000) hq (l.take i) ⟨true,[],[]⟩ b (by have:=dw l i; simp only [List.length_nil]; omega)
        have hpt:=eZ hi
        have hpl:=dw l (i+1)
        have hsn:=sd l[i] (l.take i) ⟨true,[],[]⟩ b
        rw [←eB hi] at hsn
        generalize fW (l.take i) ⟨true,[],[]⟩ b=r at a c hsn
        simp only [List.length_nil] at a
        have hy:=fS l[i] r.2
        have e:=iB (K:=500) (q:=250000) hq l[i] r.2 (by omega)
        have hm:r.1.la.length*(bd l[i] r.2).1.fi.length≤250000:=Nat.le_trans (Nat.mul_le_mul (show _≤500 by omega) (show _≤500 by omega)) hq
        refine Is.dt (show ((i:Nat):Int)<(l.length:Int) by omega) (Is.bnq (ba hi) (Is.bnq (ih fl l[i] r.2 (hkid _ (List.getElem_mem hi)) (by omega) (by omega) (by omega)) ?_))
        refine Is.bnq (sH (x:=r.1) (y:=(bd l[i] r.2).1) (by omega) (by omega) (by omega) (by omega) (by omega)) (Is.bnq (bc (by omega)) (Is.next ?_))
        rw [hsn]
        rfl
      · rintro _ rfl
        refine Is.df (show ¬ ((l.length:Nat):Int)<(l.length:Int) by omega) (Is.stop ?_)
        rw [List.take_length]
    · refine fin (r:=gQ l ⟨false,[],[]⟩ b) (by simp [bd]) (Is.cf rfl (Is.cf rfl (Is.cf rfl (Is.ct rfl ?_))))
      refine Is.upto (fun i (st:List (az 4)×List (az 2)×Bool×List Int×List Int×Int)=>st=((gQ (l.take i) ⟨false,[],[]⟩ b).2.S,mV (gQ (l.take i) ⟨false,[],[]⟩ b).2.P,(gQ (l.take i) ⟨false,[],[]⟩ b).1.nl,mB (gQ (l.take i) ⟨false,[],[]⟩ b).1.fi,mB (gQ (l.take i) ⟨false,[],[]⟩ b).1.la,(i:Int))) l.length (by omega) (by simp [gQ,mB]) ?_ ?_
      · rintro i _ hi rfl
        have a:=qx (l.take i) ⟨false,[],[]⟩ b
        have c:=oA (K:=500) (q:=250000) hq (l.take i) ⟨false,[],[]⟩ b (by have:=dw l i; omega)
        have hpt:=eZ hi
        have hpl:=dw l (i+1)
        have hsn:=rZ l[i] (l.take i) ⟨false,[],[]⟩ b
        rw [←eB hi] at hsn
        generalize gQ (l.take i) ⟨false,[],[]⟩ b=r at a c hsn
        simp only [List.length_nil] at a
        have hy:=fS l[i] r.2
        refine Is.dt (show ((i:Nat):Int)<(l.length:Int) by omega) (Is.bnq (ba hi) (Is.bnq (ih fl l[i] r.2 (hkid _ (List.getElem_mem hi)) (by omega) (by omega) (by omega)) ?_))
        refine Is.bnq (x:=r.1.nl || (bd l[i] r.2).1.nl) (Is.eq (Is.cnd (fun hn=>Is.pure ?_) (fun hn=>Is.pure ?_))) ?_
        · rw [hn]; rfl
        · rw [hn]; rfl
        refine Is.bnq (cV (by simp only [dP,List.length_nil]; omega)) (Is.bnq (cV (by simp only [sr,dP,List.nil_append]; omega)) (Is.bnq (cV (by simp only [dP,List.length_nil]; omega)) (Is.bnq (cV (by simp only [sr,dP,List.nil_append]; omega)) (Is.bnq (bc (by omega)) (Is.next ?_)))))
        rw [hsn]
        simp only [List.nil_append,sr,kN,pN]
      · rintro _ rfl
        refine Is.df (show ¬ ((l.length:Nat):Int)<(l.length:Int) by omega) (Is.stop ?_)
        rw [List.take_length]
    · have g:=uI hsh
      obtain ⟨y,rfl⟩:=List.length_eq_one_iff.1 g
      simp only [bm] at hsz hpz
      have hy:=fS y b
      have e:=iB (K:=500) (q:=250000) hq y b (by omega)
      have hm:(bd y b).1.la.length*(bd y b).1.fi.length≤250000:=Nat.le_trans (Nat.mul_le_mul (show _≤500 by omega) (show _≤500 by omega)) hq
      refine fin (r:=(⟨true,(bd y b).1.fi,(bd y b).1.la⟩,⟨(bd y b).2.S,(bd y b).2.P++dE (bd y b).1.la (bd y b).1.fi⟩)) (by simp [bd,yJ]) (Is.cf rfl (Is.cf rfl (Is.cf rfl (Is.cf rfl (Is.ct rfl ?_)))))
      refine Is.bnq (x:=y) rfl (Is.bnq (ih fl y b (hkid y (by simp)) (by omega) (by omega) (by omega)) ?_)
      refine Is.bnq (tt (la:=(bd y b).1.la) (fi:=(bd y b).1.fi) (by omega) (by omega) (by omega)) (Is.pure rfl)
theorem pC {α:Type} (N:Nat) (f:Nat→Bool) (g:Nat→α):∀k,((List.range (k*N)).filter f).map g=(List.range k).flatMap fun p=>((List.range N).filter fun q=>f (p*N+q)).map fun q=>g (p*N+q)
  | 0=>by simp
  | k+1=>by
    rw [Nat.succ_mul,List.range_add,List.filter_append,List.map_append,pC N f g k,List.range_succ,List.flatMap_append]
    congr 1
    simp only [List.flatMap_cons,List.flatMap_nil,List.append_nil]
    rw [List.filter_map,List.map_map]
    rfl
theorem ls {N p q:Nat} (hq:q<N):(p*N+q) / N=p∧(p*N+q) % N=q:=by
  have hN:0<N:=by omega
  rw [Nat.mul_comm p N,Nat.mul_add_div hN,Nat.div_eq_of_lt hq,Nat.mul_add_mod,Nat.mod_eq_of_lt hq]
  exact ⟨Nat.add_zero _,rfl⟩
theorem jp {α β:Type} {f g:α→List β}:∀ {l:List α},(∀x∈l,f x=g x)→l.flatMap f=l.flatMap g
  | [],_=>rfl
  | x::l,h=>by rw [List.flatMap_cons,List.flatMap_cons,h x (by simp),jp fun y hy=>h y (by simp [hy])]
theorem tr (S:List (az 4)) (P:List (Nat×Nat)) (N:Nat):((List.range (N*N)).filter fun i=>decide ((i / N,i % N)∈P)).map (fun i=>As S (i / N) (i % N))=lw S P N N:=by
  rw [pC]
  unfold lw
  refine jp fun p _=>?_
  unfold uy vO
  have a:((List.range N).filter fun q=>decide (((p*N+q) / N,(p*N+q) % N)∈P))=(List.range N).filter fun q=>decide ((p,q)∈P):=by
    refine List.filter_congr fun q hq=>?_
    rw [(ls (List.mem_range.1 hq)).1,(ls (List.mem_range.1 hq)).2]
  rw [a]
  refine List.map_congr_left fun q hq=>?_
  have hq:=List.mem_range.1 (List.mem_filter.1 hq).1
  rw [(ls hq).1,(ls hq).2]
theorem xB (p:Nat×Nat):fU (pv p) 0=some (p.1:Int):=by simp [fU,pv]
theorem xA (p:Nat×Nat):fU (pv p) 1=some (p.2:Int):=by simp [fU,pv]
theorem Ab {n:Nat} (h:n≤9223372036854775807):bU .i64 (n:Int)=some (n:Int):=cJ (by omega) (by omega)
theorem Ax {n:Nat} (h:n≤9223372036854775807):IntKind.i64.wrap (n:Int)=(n:Int):=ej (by omega) (by omega)
theorem sE {l:List T_Regex} (ok:∀x∈l,bP x) (hv:∀y∈l,V 30 y=true) (hp:bm l≤500):M.b6 l=some (nX l,0):=by
  refine Is.eq ?_
  unfold M.b6
  refine Is.bnd (rR ok (by omega)) fun e he=>?_
  obtain rfl:e=0:=by
    rcases he with ⟨⟨y,hy,h⟩,_⟩|⟨_,h,_⟩|⟨_,_,h,_⟩
    · rw [hv y hy] at h; cases h
    · omega
    · exact h
  refine Is.cf rfl ?_
  have hlen:=fG l
  have z:fA.1.S.length=0:=rfl
  have B:fA.1.P.length=0:=rfl
  have hq:500*500≤250000:=by decide
  have hg:=qm l 0 fA wy
  have hgl:=mY l 0 fA
  have hgp:=oq (K:=500) (q:=250000) hq (by omega) l 0 fA (by omega)
  refine Is.bnq (x:=((gM 0 l fA).1.S,mV (gM 0 l fA).1.P,(gM 0 l fA).2)) (Is.eq ?_) ?_
  · refine Is.upto (fun i (st:List (az 4)×List (az 2)×List Int×Int)=>st=((gM 0 (l.take i) fA).1.S,mV (gM 0 (l.take i) fA).1.P,(gM 0 (l.take i) fA).2,(i:Int))) l.length (by omega) rfl ?_ ?_
    · rintro i _ hi rfl
      have gi:=qm (l.take i) 0 fA wy
      have gl:=mY (l.take i) 0 fA
      have hpt:=eZ hi
      have hpl:=dw l (i+1)
      have gp:=oq (K:=500) (q:=250000) hq (by omega) (l.take i) 0 fA (by omega)
      have hsn:=rB l[i] (l.take i) 0 fA
      rw [←eB hi,show 0+(l.take i).length=i by rw [List.length_take]; omega] at hsn
      generalize gM 0 (l.take i) fA=s at gi gl gp hsn
      have hy:=fS l[i] s.1
      have hyb:=wW l[i] s.1
      have hyg:=ux l[i] s.1
      have w:=iB (K:=500) (q:=250000) hq l[i] s.1 (by omega)
      have hal:=gi.len
      have g:(zD s.2 (bd l[i] s.1).2.S.length).length=(bd l[i] s.1).2.S.length+1:=tW (by omega)
      refine Is.dt (by omega) (Is.bnq (x:=((tL i l[i] s).1.S,mV (tL i l[i] s).1.P,(tL i l[i] s).2)) (Is.eq (Is.bnq (ba hi) (Is.bnq (wS 30 aR l[i] s.1 (hv _ (List.getElem_mem hi)) (by unfold aR; omega) (by omega) (by omega)) ?_))) (Is.bnq (bc (by omega)) (Is.next (by rw [hsn]))))
      refine Is.bnq (tt (la:=[0]) (fi:=(bd l[i] s.1).1.fi) (by simp only [List.length_singleton]; omega) (by simp) (by omega)) ?_
      refine Is.bnq (vY (a:=s.2) (n:=(bd l[i] s.1).2.S.length) (by omega) (by omega) (fun _=>rfl)) ?_
      refine Is.bnq (vL (la:=(bd l[i] s.1).1.la) (v:=(i:Int)) (fun p hp=>by rw [g]; have:=hyb.2 p hp; omega) (by omega) (fun _ _=>rfl)) ?_
      exact Is.of (zN (f:=fun y=>((bd l[i] s.1).2.S,mV ((bd l[i] s.1).2.P++dE [0] (bd l[i] s.1).1.fi),y)) (by rw [kR,g]; omega)) rfl
    · rintro _ rfl
      refine Is.df (by omega) (Is.stop ?_)
      rw [List.take_length]
  have hal:=hg.len
  have hcl:∀p q,(p,q)∈(gM 0 l fA).1.P→p<(gM 0 l fA).2.length∧q<(gM 0 l fA).2.length:=fun p q h=>by have:=hg.cl p q h; omega
  have hpos:=hg.pos
  have hN:(gM 0 l fA).2.length≤501:=by omega
  unfold nX
  generalize (gM 0 l fA).2=acc at *
  generalize (gM 0 l fA).1.S=S at *
  generalize (gM 0 l fA).1.P=P at *
  have hNN:acc.length*acc.length≤251001:=Nat.le_trans (Nat.mul_le_mul hN hN) (by decide)
  have D:0<acc.length:=by omega
  refine Is.bnq (x:=((acc.length*acc.length:Nat):Int)) (by rw [show (acc.length:Int)*(acc.length:Int)=((acc.length*acc.length:Nat):Int) by rw [Int.natCast_mul]]; exact Ab (by omega)) ?_
  refine Is.bnq (eO (by omega)) ?_
  have hij:∀p q,p<acc.length→q<acc.length→p*acc.length+q<acc.length*acc.length:=fun p q c b=>by
    have:(p+1)*acc.length≤acc.length*acc.length:=Nat.mul_le_mul_right _ c
    rw [Nat.succ_mul] at this
    omega
  refine Is.bnd (P:=fun h:List Bool=>h.length=acc.length*acc.length∧∀j,j<acc.length*acc.length→(h[j]?=some true↔(j / acc.length,j % acc.length)∈P)) ?_ ?_
  · refine Is.upto (fun i (st:List Bool×Int)=>st.2=(i:Int)∧st.1.length=acc.length*acc.length∧∀j,j<acc.length*acc.length→(st.1[j]?=some true↔(j / acc.length,j % acc.length)∈P.take i)) P.length (by omega) ⟨rfl,by simp,fun j hj=>by simp [hj]⟩ ?_ ?_
    · rintro i ⟨h,_⟩ hi ⟨rfl,c,b⟩
      simp only at c b
      obtain ⟨c1,c2⟩:=hcl P[i].1 P[i].2 (List.getElem_mem hi)
      have hj:=hij _ _ c1 c2
      have hmul:P[i].1*acc.length≤acc.length*acc.length:=Nat.mul_le_mul_right _ (by omega)
      refine Is.dt (by rw [mU]; omega) (Is.bnq (x:=pv P[i]) (by rw [ba (by rw [mU]; exact hi)]; simp [mV]) (Is.bnq (xB _) (Is.bnq (x:=((P[i].1*acc.length:Nat):Int)) (by rw [show ((P[i].1:Nat):Int)*(acc.length:Int)=((P[i].1*acc.length:Nat):Int) by rw [Int.natCast_mul]]; exact Ab (by omega)) (Is.bnq (xA _) (Is.bnq (x:=((P[i].1*acc.length+P[i].2:Nat):Int)) (by rw [show ((P[i].1*acc.length:Nat):Int)+((P[i].2:Nat):Int)=((P[i].1*acc.length+P[i].2:Nat):Int) by omega]; exact Ab (by omega)) (Is.bnq (dK (by omega)) (Is.bnq (bc (by omega)) (Is.next ⟨rfl,by rw [List.length_set]; exact c,fun j m=>?_⟩))))))))
      rw [List.getElem?_set,eB hi,List.mem_append,List.mem_singleton]
      obtain ⟨u,t⟩:=ls (p:=P[i].1) c2
      by_cases e:P[i].1*acc.length+P[i].2=j
      · rw [if_pos e,if_pos (by omega)]
        subst e
        rw [u,t]
        simp
      · rw [if_neg e,b j m]
        constructor
        · exact .inl
        · rintro (d|d)
          · exact d
          · exfalso
            have r:j / acc.length=P[i].1:=by rw [←d]
            have o:j % acc.length=P[i].2:=by rw [←d]
            have:=Nat.div_add_mod j acc.length
            rw [r,o,Nat.mul_comm] at this
            exact e this
    · rintro ⟨h,_⟩ ⟨rfl,c,b⟩
      rw [List.take_length] at b
      exact Is.df (by rw [mU]; omega) (Is.stop ⟨c,b⟩)
  · rintro h ⟨c,b⟩
    refine Is.bnq (x:=lw S P acc.length acc.length) (Is.eq ?_) (Is.pure rfl)
    rw [←tr]
    refine Is.upto (fun i (st:List dh×Int)=>st.2=(i:Int)∧st.1=((List.range i).filter fun i=>decide ((i / acc.length,i % acc.length)∈P)).map (fun i=>As S (i / acc.length) (i % acc.length))) (acc.length*acc.length) (by omega) ⟨rfl,rfl⟩ ?_ ?_
    · rintro i ⟨ar,_⟩ hi ⟨rfl,e⟩
      obtain rfl:ar=_:=e
      have hfl:=List.length_filter_le (fun i=>decide ((i / acc.length,i % acc.length)∈P)) (List.range i)
      rw [List.length_range] at hfl
      have hib:i<h.length:=by omega
      have hk:=b i hi
      rw [List.getElem?_eq_getElem hib] at hk
      refine Is.dt (by omega) (Is.bnq (x:=((List.range (i+1)).filter fun i=>decide ((i / acc.length,i % acc.length)∈P)).map (fun i=>As S (i / acc.length) (i % acc.length))) (Is.eq (Is.bnq (ba hib) (Is.cnd (fun hb=>?_) (fun hb=>Is.pure ?_)))) (Is.bnq (bc (by omega)) (Is.next ⟨rfl,rfl⟩)))
      · have hm:=hk.1 (by rw [hb])
        have k:=hpos _ _ hm
        have A:=(hcl _ _ hm).2
        have hdv:i / acc.length≤i:=Nat.div_le_self _ _
        refine Is.bnq (tU (by omega) (Ax (by omega))) (Is.bnq (jz (by omega)) (Is.bnq (x:=((i % acc.length:Nat):Int) - 1) (cJ (by omega) (by omega)) (Is.bnq (xC k (by omega)) (Is.bnq (cV (by rw [List.length_map,List.length_singleton]; omega)) (Is.pure ?_)))))
        rw [List.range_succ,List.filter_append,List.map_append]
        simp [hm,As]
      · have hm:¬ (i / acc.length,i % acc.length)∈P:=fun hm=>by have:=hk.2 hm; rw [hb] at this; cases this
        rw [List.range_succ,List.filter_append,List.map_append]
        simp [hm]
    · rintro ⟨ar,_⟩ ⟨rfl,e⟩
      obtain rfl:ar=_:=e
      exact Is.df (by omega) (Is.stop rfl)
end Go.Proofs.YtlcdifnmkafcfaaGreat
namespace Go.Proofs.YtlcdifnmkafcfaaGreat
open Go.Lx
mutual
theorem nd:∀(x:T_Regex) (b:Bs),bP x→(∀v∈b.S,W4 v)→∀v∈(bd x b).2.S,W4 v
  | ⟨k,s,l⟩,b,ok,h=>by
    simp only [bd]
    cases k == 3
    · cases k == 4
      · cases k == 5
        · cases k == 6
          · exact h
          · match l,ok with
            | [],_=>exact h
            | y::l,ok=>exact nd y b (iy ok y (by simp)) h
        · exact sa l _ b (iy ok) h
      · exact se l _ b (iy ok) h
    · intro v hv
      rcases List.mem_append.1 hv with hv|hv
      · exact h v hv
      · rw [List.mem_singleton.1 hv]; exact zd (wa ok)
theorem se:∀(l:List T_Regex) (x:Pt) (b:Bs),(∀y∈l,bP y)→(∀v∈b.S,W4 v)→∀v∈(fW l x b).2.S,W4 v
  | [],_,_,_,h=>by simpa [fW] using h
  | y::l,x,b,ok,h=>by
    simp only [fW]
    exact se l _ _ (fun z hz=>ok z (by simp [hz])) (nd y b (ok y (by simp)) h)
theorem sa:∀(l:List T_Regex) (x:Pt) (b:Bs),(∀y∈l,bP y)→(∀v∈b.S,W4 v)→∀v∈(gQ l x b).2.S,W4 v
  | [],_,_,_,h=>by simpa [gQ] using h
  | y::l,x,b,ok,h=>by
    simp only [gQ]
    exact sa l _ _ (fun z hz=>ok z (by simp [hz])) (nd y b (ok y (by simp)) h)
end
theorem rC:∀(l:List T_Regex) (i:Nat) (s:Bs×List Int),(∀y∈l,bP y)→(∀v∈s.1.S,W4 v)→∀v∈(gM i l s).1.S,W4 v
  | [],_,_,_,h=>h
  | y::l,i,s,ok,h=>rC l (i+1) (tL i y s) (fun z hz=>ok z (by simp [hz])) (nd y s.1 (ok y (by simp)) h)
theorem uV {l:List T_Regex} (ok:∀x∈l,bP x) (hp:bm l≤500):FitN (nX l):=by
  obtain ⟨hv,hl⟩:=mv hp
  refine hv.fit (by omega) fun a ha=>?_
  obtain ⟨p,q,_,_,_,rfl⟩:=pt.1 ha
  show W4 ((gM 0 l fA).1.S.getD (q - 1) (az.zero 4))
  rw [List.getD_eq_getElem?_getD]
  cases h:(gM 0 l fA).1.S[q - 1]? with
  | none=>exact eP
  | some v=>exact rC l 0 fA ok (by simp [fA]) v (List.mem_of_getElem? h)
section
variable (l:List T_Regex)
def sJ (j:Nat):Bs×List Int:=gM 0 (l.take j) fA
def lo (j:Nat):Nat:=(sJ l j).1.S.length
end
end Go.Proofs.YtlcdifnmkafcfaaGreat
