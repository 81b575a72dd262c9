/- Part 13. -/
import Derived.Lib.IndexLaws
import Derived.Test.YtlcdifnmkafcfaaGreatKLexrepairMergeKeepsText12
namespace Go.Proofs.YtlcdifnmkafcfaaGreat
open Go.Lx
def dH {α β:Type} (A:Option α) (B:Option β) (Q:α→β→Prop):Prop:=∃a b,A=some a∧B=some b∧Q a b
section
variable {α β α' β' σ τ:Type} {P:α→β→Prop} {Q:α'→β'→Prop}
theorem dH.pure {a:α'} {b:β'} (h:Q a b):dH (some a) (some b) Q:=⟨a,b,rfl,rfl,h⟩
theorem dH.bb {A:Option α} {B:Option β} {f:α→Option α'} {g:β→Option β'} (h:dH A B P) (k:∀a b,P a b→dH (f a) (g b) Q):dH (A.bind f) (B.bind g) Q:=by
  obtain ⟨a,b,rfl,rfl,hp⟩:=h
  exact k a b hp
theorem dH.l {A:Option α} {B:Option β'} {f:α→Option α'} {a:α} (h:A=some a) (k:dH (f a) B Q):dH (A.bind f) B Q:=by subst h; exact k
theorem dH.r {A:Option α'} {B:Option β} {g:β→Option β'} {b:β} (h:B=some b) (k:dH A (g b) Q):dH A (B.bind g) Q:=by subst h; exact k
theorem dH.sl {ρ:Type} {R:ρ→β'→Prop} {A:Option (cC σ ρ)} {B:Option β'} {f:σ→Option ρ} {a:σ} (h:A=some (.next a)) (k:dH (f a) B R):dH (bc A f) B R:=by subst h; exact k
theorem dH.er {A:Option α'} {B B':Option β'} (h:B=B') (k:dH A B' Q):dH A B Q:=h ▸ k
theorem dH.sb {ρ:Type} {P:cC σ ρ→β→Prop} {R:ρ→β'→Prop} {A:Option (cC σ ρ)} {B:Option β} {f:σ→Option ρ} {g:β→Option β'} (h:dH A B P) (kn:∀a b,P (.next a) b→dH (f a) (g b) R)
    (ks:∀x b,P (.stop x) b→dH (some x) (g b) R):dH (bc A f) (B.bind g) R:=by
  obtain ⟨a,b,rfl,rfl,hp⟩:=h
  cases a with
  | next a=>exact kn a b hp
  | stop x=>exact ks x b hp
theorem dH.on_ret {γ:Type} {x:γ} {k:γ→Option α'} {pp:Int→Option α'} {B:Option β'} (h:dH (k x) B Q):dH ((Rt.ret x).on k pp) B Q:=h
theorem dH.on_pan {γ:Type} {x:Int} {k:γ→Option α'} {pp:Int→Option α'} {B:Option β'} (h:dH (pp x) B Q):dH ((Rt.pan x:Rt γ).on k pp) B Q:=h
theorem fp {α:Type} {b:Bool} {x y r:α} (h:b=true) (k:x=r):(bif b then x else y)=r:=by subst h; exact k
theorem dD {α:Type} {b:Bool} {x y r:α} (h:b=false) (k:y=r):(bif b then x else y)=r:=by subst h; exact k
theorem dH.loop {ρ ρ':Type} {Q:ρ→ρ'→Prop} {bA:σ→Option (cC σ ρ)} {bB:τ→Option (cC τ ρ')} (R:σ→τ→Nat→Prop)
    (h:∀m a b,R a b m→(∃a' b' m',bA a=some (.next a')∧bB b=some (.next b')∧m'<m∧R a' b' m')∨
      (∃x,bA a=some (.stop x)∧((∃y,bB b=some (.stop y)∧Q x y)∨∃b' y,bB b=some (.next b')∧bB b'=some (.stop y)∧Q x y))) :
    ∀m kA kB a b,m<kA→m+1<kB→R a b m→dH (aU bA kA a) (aU bB kB b) Q:=by
  intro m
  induction m using Nat.strongRecOn with
  | _ m ih=>
    intro kA kB a b hA hB hR
    obtain ⟨kA,rfl⟩:∃k,kA=k+1:=⟨kA - 1,by omega⟩
    obtain ⟨kB,rfl⟩:∃k,kB=k+2:=⟨kB - 2,by omega⟩
    rcases h m a b hR with ⟨a',b',m',d,c,hm,hR'⟩|⟨x,d,⟨y,c,hq⟩|⟨b',y,c,e,hq⟩⟩
    · have:=ih m' hm kA (kB+1) a' b' (by omega) (by omega) hR'
      simp only [aU,d,c] at this ⊢
      exact this
    · exact ⟨x,y,by simp only [aU,d],by simp only [aU,c],hq⟩
    · exact ⟨x,y,by simp only [aU,d],by simp only [aU,c,e],hq⟩
end
def CE (br:Bool):Str:=bif br then [93,92,45] else [40,41,91,93,124,42,43,63,46,92]
def pl (br:Bool) (c:Nat):Bool:=decide (32≤c∧c≤126) && !((CE br).map UInt8.toNat).contains c
theorem yc:∀br,∀c:Nat,c<256→(bif decide ((c:Int)<32) then some true else bif decide (126<(c:Int)) then some true else (M.h1 (CE br) (c:Int)).bind fun r=>some (decide (0≤r)))=some (!pl br c):=by decide +kernel
theorem zQ:∀br,∀c:Nat,c<256→M.i1 (c:Int) br=some (pl br c):=by decide +kernel
theorem zR:∀br,M.i1 (-1) br=some false:=by decide +kernel
def es (c:Nat):Bool:=decide (32≤c∧c≤126) && !(decide (48≤c∧c≤57) || decide (97≤c∧c≤122) || decide (65≤c∧c≤90))
theorem yC:∀c:Nat,c<256→(bif decide ((c:Int)<32) then some true else bif decide (126<(c:Int)) then some true else (M.e6 (c:Int)).bind fun r=>some r)=some (!es c):=by decide +kernel
theorem wC:∀c:Nat,c<256→(bif decide (32≤(c:Int)) then bif decide ((c:Int)≤126) then (M.h2 (c:Int)).bind fun r=>some (!r) else some false else some false)=some (es c):=by decide +kernel
theorem Aj:(bif decide ((32:Int)≤-1) then bif decide ((-1:Int)≤126) then (M.h2 (-1)).bind fun r=>some (!r) else some false else some false)=some false:=by decide +kernel
section
variable {s:Str} (hs:s.length≤1000000)
theorem fD {p:Nat} {b:Bool} (h:p<s.length):M.a0 ⟨s,p,b⟩=some ((s[p]).toNat:Int):=by
  unfold M.a0
  simp only [dM (show ¬ (s.length:Int)≤(p:Int) by omega),cond_false,dq h,Option.bind_some]
  rw [ej (by omega) (by have:=(s[p]).toNat_lt; omega)]
theorem jp {b:Bool}:M.a0 ⟨s,(s.length:Nat),b⟩=some (-1):=by
  unfold M.a0
  simp only [dK (show (s.length:Int)≤(s.length:Int) by omega),cond_true]
theorem tY {p:Nat} (h:p<s.length):M.a1 ⟨s,p⟩=some ((s[p]).toNat:Int):=by
  unfold M.a1
  simp only [dK (show (p:Int)<(s.length:Int) by omega),cond_true,dq h,Option.bind_some]
theorem vT:M.a1 ⟨s,(s.length:Nat)⟩=some 0:=by
  unfold M.a1
  simp only [dM (show ¬ (s.length:Int)<(s.length:Int) by omega),cond_false]
def DD (s:Str) (p:Nat) (a:Rt (Int×aA)) (b:Int×aI):Prop:=
  (∃c q:Nat,p+1≤q∧q≤s.length∧c<256∧a=.ret ((c:Int),⟨s,q⟩)∧b=((c:Int),⟨s,q,false⟩))∨(∃q:Nat,q≤s.length∧a=.pan q∧b=(0,⟨s,q,true⟩))
include hs
theorem tn {p:Nat} (hp:p≤s.length):∃a,M.d0 ⟨s,p⟩=some a∧((∃c:Nat,p<s.length∧c<256∧a=.ret ((c:Int),⟨s,(p+1:Nat)⟩)∧
      (∃h:p<s.length,((s[p]).toNat=110∧c=10)∨((s[p]).toNat≠110∧(s[p]).toNat=116∧c=9)∨((s[p]).toNat≠110∧(s[p]).toNat≠116∧es (s[p]).toNat=true∧c=(s[p]).toNat)))∨
      (a=.pan p∧(p=s.length∨∃h:p<s.length,(s[p]).toNat≠110∧(s[p]).toNat≠116∧es (s[p]).toNat=false))):=by
  unfold M.d0
  rcases Nat.lt_or_eq_of_le hp with h|h
  · have hc:(s[p]).toNat<256:=(s[p]).toNat_lt
    have f:(((p:Nat):Int) == (s.length:Int))=false:=bI (by omega)
    simp only [f,cond_false,bc,dq h,Option.bind_some]
    by_cases b:(s[p]).toNat=110
    · simp only [jx (show ((s[p]).toNat:Int)=110 by omega),cond_true,aQ (show p<9223372036854775807 by omega),Option.bind_some]
      exact ⟨_,rfl,.inl ⟨10,h,by omega,rfl,h,.inl ⟨b,rfl⟩⟩⟩
    · by_cases d:(s[p]).toNat=116
      · simp only [bI (show ((s[p]).toNat:Int)≠110 by omega),jx (show ((s[p]).toNat:Int)=116 by omega),cond_false,cond_true,aQ (show p<9223372036854775807 by omega),Option.bind_some]
        exact ⟨_,rfl,.inl ⟨9,h,by omega,rfl,h,.inr (.inl ⟨b,d,rfl⟩)⟩⟩
      · simp only [bI (show ((s[p]).toNat:Int)≠110 by omega),bI (show ((s[p]).toNat:Int)≠116 by omega),cond_false,yC _ hc,Option.bind_some]
        cases e:es (s[p]).toNat
        · simp only [Bool.not_false,cond_true,M.a2,Option.bind_some,Rt.on]
          exact ⟨_,rfl,.inr ⟨rfl,.inr ⟨h,b,d,e⟩⟩⟩
        · simp only [Bool.not_true,cond_false,aQ (show p<9223372036854775807 by omega),Option.bind_some]
          exact ⟨_,rfl,.inl ⟨_,h,hc,rfl,h,.inr (.inr ⟨b,d,e,rfl⟩)⟩⟩
  · subst h
    simp only [beq_self_eq_true,cond_true,M.a2,Option.bind_some,Rt.on,bc]
    exact ⟨_,rfl,.inr ⟨rfl,.inl trivial⟩⟩
theorem ov {p:Nat} (hp:p≤s.length) (br:Bool):dH (M.b2 ⟨s,p⟩ (CE br)) (M.a7 ⟨s,p,false⟩ br) (DD s p):=by
  unfold M.b2 M.a7
  rcases Nat.lt_or_eq_of_le hp with h|h
  · have hc:(s[p]).toNat<256:=(s[p]).toNat_lt
    have g:(((p:Nat):Int) == (s.length:Int))=false:=bI (by omega)
    simp only [g,cond_false,bc,dq h,Option.bind_some,fD h]
    by_cases l:(s[p]).toNat=92
    · simp only [jx (show ((s[p]).toNat:Int)=92 by omega),cond_true,aQ (show p<9223372036854775807 by omega),Option.bind_some]
      obtain ⟨a,ha,hcase⟩:=tn hs (p:=p+1) h
      simp only [ha,Option.bind_some]
      rcases hcase with ⟨c,i,j,rfl,hh,hcc⟩|⟨rfl,hh⟩
      · have b:(s[p+1]).toNat<256:=(s[p+1]).toNat_lt
        have e:bR .i64 (((p+1:Nat):Int)+1)=some ((p+1+1:Nat):Int):=aQ (by omega)
        simp only [Rt.on,fD hh,Option.bind_some]
        rcases hcc with ⟨g1,rfl⟩|⟨g1,f,rfl⟩|⟨g1,f,d,rfl⟩
        · simp only [jx (show ((s[p+1]).toNat:Int)=110 by omega),cond_true,e,Option.bind_some]
          exact .pure (.inl ⟨10,p+1+1,by omega,hh,by omega,rfl,rfl⟩)
        · simp only [bI (show ((s[p+1]).toNat:Int)≠110 by omega),jx (show ((s[p+1]).toNat:Int)=116 by omega),cond_false,cond_true,e,Option.bind_some]
          exact .pure (.inl ⟨9,p+1+1,by omega,hh,by omega,rfl,rfl⟩)
        · simp only [bI (show ((s[p+1]).toNat:Int)≠110 by omega),bI (show ((s[p+1]).toNat:Int)≠116 by omega),cond_false,wC _ b,d,Option.bind_some,cond_true,e]
          exact .pure (.inl ⟨_,p+1+1,by omega,hh,b,rfl,rfl⟩)
      · simp only [Rt.on]
        rcases hh with hh|⟨hh,g1,f,d⟩
        · rw [hh,jp]
          simp only [Option.bind_some,show ((-1:Int) == 110)=false from rfl,show ((-1:Int) == 116)=false from rfl,cond_false,Aj]
          exact .pure (.inr ⟨s.length,Nat.le_refl _,by rw [←hh],rfl⟩)
        · have b:(s[p+1]).toNat<256:=(s[p+1]).toNat_lt
          simp only [fD hh,Option.bind_some,bI (show ((s[p+1]).toNat:Int)≠110 by omega),bI (show ((s[p+1]).toNat:Int)≠116 by omega),cond_false,wC _ b,d]
          exact .pure (.inr ⟨p+1,h,rfl,rfl⟩)
    · simp only [bI (show ((s[p]).toNat:Int)≠92 by omega),cond_false,yc br _ hc,zQ br _ hc,Option.bind_some]
      cases k:pl br (s[p]).toNat
      · simp only [Bool.not_false,cond_true,M.a2,Option.bind_some,Rt.on]
        exact .pure (.inr ⟨p,hp,rfl,rfl⟩)
      · simp only [Bool.not_true,cond_false,aQ (show p<9223372036854775807 by omega),Option.bind_some]
        exact .pure (.inl ⟨_,p+1,by omega,h,hc,rfl,rfl⟩)
  · subst h
    simp only [beq_self_eq_true,cond_true,M.a2,Option.bind_some,Rt.on,bc,jp,show ((-1:Int) == 92)=false from rfl,cond_false,zR,Bool.not_false]
    exact .pure (.inr ⟨s.length,Nat.le_refl _,rfl,rfl⟩)
end
theorem ku {v:az 4} (hv:W4 v) {c:Nat} (hc:c<256):M.e7 v (c:Int)=some (em v c):=by
  have a:2 ^ (c % 64)<18446744073709551616:=Nat.pow_lt_pow_right (n:=64) (by omega) (Nat.mod_lt _ (by omega))
  have l:=jl (k:=.i64) (c:=c) (ej (by omega) (by omega))
  have j:=ga hv (i:=c / 64) (by omega)
  have h:jT (c:Int) 64=some ((c % 64:Nat):Int):=jE (b:=64) (by omega)
  have g:=np (t:=c % 64) (by omega)
  have f:=gq (fZ hv (c / 64)) a
  have e:=iV (v:=v) (i:=c / 64) (x:=wd v (c / 64) ||| 2 ^ (c % 64)) (by omega)
  have d:IntKind.u64.wrap ((c % 64:Nat):Int)=((c % 64:Nat):Int):=gT (by omega) (by omega)
  unfold M.e7 em
  simp only [l,j,h,d,g,f,e,Option.bind_some]
theorem uH {v:az 4} (hv:W4 v):M.k4 v=some (kk v):=gR hv
theorem nh (l:List Nat) {v:az 4} (hv:W4 v):W4 (l.foldl em v):=rF l v hv
theorem qY {lo hi:Nat} (h:hi<256):∀b∈fv lo hi,b<256:=by
  intro b hb
  simp only [fv,List.mem_map,List.mem_range] at hb
  obtain ⟨i,hi,rfl⟩:=hb
  omega
theorem qJ {v:az 4} (hv:W4 v) {lo hi:Nat} (h:hi<256):kj v (rh (fv lo hi))=(fv lo hi).foldl em v:=by
  refine xT (xh hv (mt _)) (nh _ hv) fun b hb=>?_
  rw [uU hb,yo (qY h),px _ _ (qY h)]
theorem oa {σ ρ:Type} {body:σ→Option (cC σ ρ)} {a:σ} {r:ρ} (k:Nat) (h:body a=some (.stop r)):aU body (k+1) a=some r:=by simp only [aU,h]
theorem ti {σ ρ:Type} {body:σ→Option (cC σ ρ)} {a b:σ} (k:Nat) (h:body a=some (.next b)):aU body (k+1) a=aU body k b:=by simp only [aU,h]
theorem pw:aS=18446744073709551615+1:=by unfold aS; rfl
theorem ig {σ ρ:Type} {body:σ→Option (cC σ ρ)} {a:σ} {r:ρ} (h:body a=some (.stop r)):aU body aS a=some r:=by rw [pw]; exact oa _ h
theorem pr {σ ρ:Type} {body:σ→Option (cC σ ρ)} {a b:σ} (h:body a=some (.next b)):aU body aS a=aU body 18446744073709551615 b:=by rw [pw]; exact ti _ h
theorem pd {ρ:Type} {set:az 4} (hv:W4 set) {lo hi:Nat} (hl:lo≤hi) (hh:hi<256) {X:az 4→ρ} {body:az 4×Int→Option (cC (az 4×Int) ρ)}
    (hb:∀v x,body (v,x)=(some (decide (x≤(hi:Int)))).bind fun c=>bif c then (M.e7 v x).bind fun r=>(bR .i64 (x+1)).bind fun t=>some (.next (r,t)) else some (.stop (X v))) :
    aU body aS (set,(lo:Int))=some (X ((fv lo hi).foldl em set)):=by
  have gN:∀i,i≤hi - lo+1→W4 (((List.range i).map (lo+·)).foldl em set):=fun i _=>nh _ hv
  refine gj (body:=body) (fun i=>(((List.range i).map (lo+·)).foldl em set,((lo+i:Nat):Int))) (hi+1 - lo) (fun i hi'=>?_) ?_ aS (jM (by omega))
  · have e:bR .i64 (((lo+i:Nat):Int)+1)=some ((lo+(i+1):Nat):Int):=by rw [cG (by omega) (by omega)]; rfl
    rw [hb]
    simp only [dK (show ((lo+i:Nat):Int)≤(hi:Int) by omega),Option.bind_some,cond_true,ku (gN i (by omega)) (show lo+i<256 by omega),e]
    rw [List.range_succ,List.map_append,List.foldl_append]
    rfl
  · rw [hb]
    simp only [dM (show ¬ ((lo+(hi+1 - lo):Nat):Int)≤(hi:Int) by omega),Option.bind_some,cond_false]
    rfl
def tU (s:Str) (p:Int) (set:az 4):Option (cC (Str×Int×Bool×(az 4)×Bool) (Str×Int×Bool×(az 4))):=
    (M.a7 (aI.mk s p false) true).bind fun a=>
    (
     (
      bif (!a.2.bad) then
       (M.a0 a.2).bind fun o=>
       some (o == 45)
      else
       some false).bind fun (i:Bool)=>
     bif i then
      (bR .i64 (a.2.atv+1)).bind fun f=>
      (M.a7 (aI.mk a.2.s f a.2.bad) true).bind fun b=>
      (
       bif (!b.2.bad) then
        some (decide (b.1<a.1))
       else
        some false).bind fun (h:Bool)=>
      bif h then
       some (b.2.s,f,true,b.1)
      else
       some (b.2.s,b.2.atv,b.2.bad,b.1)
     else
      some (a.2.s,a.2.atv,a.2.bad,a.1)).bind fun (k,l,e,j)=>
    aU (fun (m:(az 4)×Int)=>match m with
    | (d,c)=>
     (
      bif (!e) then
       some (decide (c≤j))
      else
       some false).bind fun (g:Bool)=>
     bif g then
      (M.e7 d c).bind fun n=>
      (bR .i64 (c+1)).bind fun t46=>
      some (.next (n,t46))
     else
      some (.stop (.next (k,l,e,d,false)))) aS (set,a.1)
section
variable {s:Str} (hs:s.length≤1000000)
theorem fI {q:Nat} (hq:q≤s.length):∃x y,M.a1 ⟨s,q⟩=some x∧M.a0 ⟨s,q,false⟩=some y∧(∀v:Int,v≠0→v≠-1→(x == v)=(y == v))∧(∀v:Int,v≠0→x=v→q<s.length):=by
  rcases Nat.lt_or_eq_of_le hq with h|h
  · exact ⟨_,_,tY h,fD h,fun _ _ _=>rfl,fun _ _ _=>h⟩
  · subst h
    exact ⟨_,_,vT,jp,fun v b a=>by rw [bI (fun e=>b e.symm),bI (fun e=>a e.symm)],fun v b a=>absurd a.symm b⟩
def DC (s:Str) (p:Nat) (set:az 4) (a:Rt ((az 4)×aA)) (b:cC (Str×Int×Bool×(az 4)×Bool) (Str×Int×Bool×(az 4))):Prop:=
  (∃lo hi q:Nat,p+1≤q∧q≤s.length∧lo≤hi∧hi<256∧a=.ret (rh (fv lo hi),⟨s,q⟩)∧b=.next (s,q,false,(fv lo hi).foldl em set,false))∨
  (∃q:Nat,q≤s.length∧a=.pan q∧b=.next (s,q,true,set,false))
include hs
theorem rJ {p:Nat} (hp:p≤s.length) {set:az 4} (hv:W4 set):dH (M.b6 ⟨s,p⟩) (tU s p set) (DC s p set):=by
  unfold M.b6 tU
  have u:=ov hs hp true
  refine dH.bb u ?_
  rintro a b (⟨c,q,k,i,hc,rfl,rfl⟩|⟨q,hq,rfl,rfl⟩)
  · simp only [Rt.on]
    obtain ⟨x,y,hx,hy,hxy,hlt⟩:=fI i
    have o:=hxy 45 (by decide) (by decide)
    simp only [Bool.not_false,cond_true,hx,hy,Option.bind_some]
    rw [←o]
    cases h:(x == (45:Int))
    · refine dH.sl rfl (dH.l (oC hc hc) (dH.r (b:=(s,(q:Int),false,(c:Int))) rfl ?_))
      refine ⟨_,_,rfl,pd hv (Nat.le_refl c) hc (X:=fun v=>.next (s,(q:Int),false,v,false)) (fun v x=>rfl),.inl ⟨c,c,q,k,i,Nat.le_refl _,hc,rfl,rfl⟩⟩
    · have g:=hlt 45 (by decide) (cF h)
      simp only [cond_true,aQ (show q<9223372036854775807 by omega),Option.bind_some]
      have t:=ov hs (p:=q+1) g true
      obtain ⟨w,A,n,m,hcase⟩:=t
      have ha2':M.b2 ⟨s,((q+1:Nat):Int)⟩ [93,92,45]=some w:=n
      simp only [ha2',m,Option.bind_some]
      rcases hcase with ⟨c2,d,f,j,e,rfl,rfl⟩|⟨d,f,rfl,rfl⟩
      · simp only [Rt.on,Bool.not_false,cond_true,Option.bind_some]
        by_cases z:c2<c
        · simp only [dK (show (c2:Int)<(c:Int) by omega),cond_true,M.a2,Option.bind_some,Rt.on,bc]
          exact ⟨_,_,rfl,ig rfl,.inr ⟨q+1,g,rfl,rfl⟩⟩
        · rw [show decide ((c2:Int)<(c:Int))=false from dM (by omega)]
          refine dH.sl rfl (dH.l (oC hc e) (dH.r (b:=(s,(d:Int),false,(c2:Int))) rfl ?_))
          exact ⟨_,_,rfl,pd hv (by omega:c≤c2) e (X:=fun v=>.next (s,(d:Int),false,v,false)) (fun v x=>rfl),.inl ⟨c,c2,d,by omega,j,by omega,e,rfl,rfl⟩⟩
      · simp only [Rt.on,Bool.not_true,cond_false,Option.bind_some,bc]
        exact ⟨_,_,rfl,ig rfl,.inr ⟨d,f,rfl,rfl⟩⟩
  · simp only [Rt.on,Bool.not_true,cond_false,Option.bind_some]
    exact ⟨_,_,rfl,ig rfl,.inr ⟨q,hq,rfl,rfl⟩⟩
def DE (s:Str) (p:Nat) (a:Rt ((az 4)×aA)) (b:T_Regex×aI):Prop:=
  (∃(set:az 4) (q:Nat),p+1≤q∧q≤s.length∧W4 set∧a=.ret (set,⟨s,q⟩)∧b=(⟨3,set,[]⟩,⟨s,q,false⟩))∨(∃(q:Nat) (y:T_Regex),q≤s.length∧a=.pan q∧b=(y,⟨s,q,true⟩))
theorem rT {p:Nat} (hp:p<s.length) (A:(s[p]).toNat=91):dH (M.c5 ⟨s,p⟩) (M.c1 ⟨s,(p+1:Nat),false⟩) (DE s p):=by
  unfold M.c5 M.c1
  have hex:M.a3 ⟨s,p⟩ 91=some (.ret ⟨s,(p+1:Nat)⟩):=by
    unfold M.a3
    simp only [bI (show (p:Int)≠(s.length:Int) by omega),cond_false,dq hp,Option.bind_some,mz (show ((s[p]).toNat:Int)=91 by omega),bc,aQ (show p<9223372036854775807 by omega)]
  obtain ⟨x,y,hx,hy,hxy,hlt⟩:=fI (s:=s) (q:=p+1) hp
  have u:=hxy 94 (by decide) (by decide)
  simp only [hex,Option.bind_some,Rt.on,hx,hy]
  rw [←u]
  -- the place behind the sign
  obtain ⟨d,t,z,hsel⟩:∃d:Nat,d≤s.length∧p+1≤d∧(bif x == (94:Int) then (bR .i64 (((p+1:Nat):Int)+1)).bind fun n=>some n else some ((p+1:Nat):Int))=some (d:Int):=by
    cases h:(x == (94:Int))
    · exact ⟨p+1,hp,Nat.le_refl _,rfl⟩
    · have:=hlt 94 (by decide) (cF h)
      exact ⟨p+2,by omega,by omega,by rw [cond_true,aQ (by omega)]; rfl⟩
  generalize hng:(x == (94:Int))=ng at hsel ⊢
  refine dH.l hsel (dH.r hsel ?_)
  obtain ⟨w,v,g,c,hcase⟩:=rJ hs t eQ
  refine dH.l g ?_
  rcases hcase with ⟨lo,hi,q,o,j,hlh,hhi,rfl,rfl⟩|⟨q,hq,rfl,rfl⟩
  · refine dH.sb (P:=fun (a:cC (Str×Int×(az 4)) (Rt ((az 4)×aA))) (b:Str×Int×Bool×(az 4))=>
        (∃(q:Nat) (set:az 4),q<s.length∧p+1≤q∧W4 set∧a=.next (s,(q:Int),set)∧b=(s,(q:Int),false,set))∨(∃(q:Nat) (set:az 4),q≤s.length∧a=.stop (.pan q)∧b=(s,(q:Int),true,set)))
      (dH.er (pr c) (dH.loop (fun (a:Str×Int×(az 4)) (b:Str×Int×Bool×(az 4)×Bool) m=>∃(q:Nat) (set:az 4),q≤s.length∧p+1≤q∧W4 set∧a=(s,(q:Int),set)∧b=(s,(q:Int),false,set,false)∧m=s.length - q) ?_
        (s.length - q) _ _ _ _ (by unfold aS; omega) (by omega) ⟨q,(fv lo hi).foldl em (az.zero 4),j,by omega,nh _ eQ,rfl,rfl,rfl⟩)) ?_ ?_
    · rintro m _ _ ⟨q,set,hq,hpq,hv,rfl,rfl,rfl⟩
      obtain ⟨x,y,hx,hy,hxy,hlt⟩:=fI hq
      have k:=hxy 93 (by decide) (by decide)
      cases h:(x == (93:Int))
      · have c:(x != (93:Int))=true:=by rw [bne,h]; rfl
        have f:(y != (93:Int))=true:=by rw [bne,←k,h]; rfl
        obtain ⟨w,v,g,hb1',hcase⟩:=rJ hs hq hv
        rcases hcase with ⟨lo,hi,q',o,j,hlh,hhi,rfl,rfl⟩|⟨q',hq',rfl,rfl⟩
        · refine .inl ⟨(s,(q':Int),kj set (rh (fv lo hi))),_,s.length - q',aL hx (fp c (aL g (aL (xi hv (mt _)) rfl))),aL (x:=true) (aL hy (congrArg some f)) hb1',by omega,?_⟩
          exact ⟨q',_,j,by omega,nh _ hv,by rw [qJ hv hhi],rfl,rfl⟩
        · refine .inr ⟨.stop (.pan q'),aL hx (fp c (aL g rfl)),.inr ⟨(s,(q':Int),true,set,false),(s,(q':Int),true,set),aL (x:=true) (aL hy (congrArg some f)) hb1',rfl,?_⟩⟩
          exact .inr ⟨q',set,hq',rfl,rfl⟩
      · have c:(x != (93:Int))=false:=by rw [bne,h]; rfl
        have f:(y != (93:Int))=false:=by rw [bne,←k,h]; rfl
        refine .inr ⟨.next (s,(q:Int),set),aL hx (dD c rfl),.inl ⟨(s,(q:Int),false,set),aL (x:=false) (aL hy (congrArg some f)) rfl,?_⟩⟩
        exact .inl ⟨q,set,hlt 93 (by decide) (cF h),hpq,hv,rfl,rfl⟩
    · rintro a b (⟨q,set,hq,hpq,hv,e,rfl⟩|⟨q,set,hq,e,rfl⟩)
      · cases e
        refine dH.l (aQ (i:=q) (by omega)) (dH.r (aQ (i:=q) (by omega)) ?_)
        cases ng
        · exact .pure (.inl ⟨set,q+1,by omega,hq,hv,rfl,rfl⟩)
        · exact dH.l (gR hv) (dH.r (b:=kk set) (aL (uH hv) rfl) (.pure (.inl ⟨kk set,q+1,by omega,hq,sg hv,rfl,rfl⟩)))
      · cases e
    · rintro x b (⟨q,set,hq,hpq,hv,e,rfl⟩|⟨q,set,hq,e,rfl⟩)
      · cases e
      · cases e
        exact .pure (.inr ⟨q,_,hq,rfl,rfl⟩)
  · exact dH.r (b:=(s,(q:Int),true,az.zero 4)) ((pr c).trans (oa 18446744073709551614 rfl)) (.pure (.inr ⟨q,_,hq,rfl,rfl⟩))
end
end Go.Proofs.YtlcdifnmkafcfaaGreat
namespace Go.Proofs.YtlcdifnmkafcfaaGreat
open Go.Lx
theorem pu {k:Int} (h:0≤k∧k≤10):xw .i64 k:=⟨by show (-9223372036854775808:Int)≤k; omega,by show k≤(9223372036854775807:Int); omega⟩
theorem va:∀x∈(az.zero 4).1,xw .u64 x:=fun x hx=>by simp [az.zero] at hx; subst hx; exact ⟨by decide,by decide⟩
theorem fk {k:Int} {l:List T_Regex} (hk:0≤k∧k≤10) (hl:l.length≤2000000) (h:∀y∈l,bO y):bO ⟨k,az.zero 4,l⟩:=
  .mk _ (pu hk) va h (Nat.le_trans hl (by decide))
theorem pZ {v:az 4} (hv:W4 v):bO ⟨3,v,[]⟩:=
  .mk _ (pu (k:=3) (by omega)) (fun x hx=>by have:=hv x hx; exact ⟨by show (0:Int)≤x; omega,by show x≤(18446744073709551615:Int); omega⟩) (fun _ h=>by cases h) (by show 0≤maxLen; omega)
theorem rz {l:List T_Regex} {h:Nat} (hh:∀y∈l,height y≤h):bH l≤h:=by
  induction l with
  | nil=>simp [bH]
  | cons y l ih=>
    have:=hh y (by simp)
    have:=ih fun z hz=>hh z (by simp [hz])
    simp only [bH]; omega
def Bp (x:T_Regex) (c:Nat):Prop:=parts x≤c*2 ^ height x
def Bl (l:List T_Regex) (c:Nat):Prop:=bl l≤c*2 ^ bH l
theorem Bp.more {x:T_Regex} {c d:Nat} (h:Bp x c) (hd:c≤d):Bp x d:=Nat.le_trans h (Nat.mul_le_mul_right _ hd)
theorem Bl.more {l:List T_Regex} {c d:Nat} (h:Bl l c) (hd:c≤d):Bl l d:=Nat.le_trans h (Nat.mul_le_mul_right _ hd)
theorem Bl.nil (c:Nat):Bl [] c:=Nat.zero_le _
theorem nQ (k:Nat):1≤2 ^ k:=Nat.one_le_two_pow
theorem Bl.snoc {l:List T_Regex} {x:T_Regex} {c d:Nat} (h:Bl l c) (hx:Bp x d):Bl (l++[x]) (c+d):=by
  unfold Bl
  rw [gM,jt]
  simp only [bl,bH,Nat.add_zero,Nat.max_zero]
  rw [Nat.add_mul]
  exact Nat.add_le_add (Nat.le_trans h (Nat.mul_le_mul_left _ (Nat.pow_le_pow_right (by omega) (by omega)))) (Nat.le_trans hx (Nat.mul_le_mul_left _ (Nat.pow_le_pow_right (by omega) (by omega))))
theorem Bl.one {x:T_Regex} {c:Nat} (hx:Bp x c):Bl [x] c:=by
  unfold Bl
  simp only [bl,bH,Nat.add_zero,Nat.max_zero]
  exact hx
theorem Bl.node {l:List T_Regex} {c:Nat} (h:Bl l c) (hc:1≤c) (k:Int) (s:az 4):Bp ⟨k,s,l⟩ c:=by
  unfold Bp
  simp only [parts,height]
  have a:=nQ (bH l)
  have e:1≤c*2 ^ bH l:=Nat.le_trans hc (Nat.le_mul_of_pos_right _ a)
  have d:c*2 ^ (bH l+1)=c*2 ^ bH l+c*2 ^ bH l:=by rw [Nat.pow_succ,←Nat.mul_assoc,Nat.mul_two]
  have b:bl l≤c*2 ^ bH l:=h
  omega
theorem Bl.of1 {y:T_Regex} {c:Nat} (h:Bl [y] c):Bp y c:=by
  unfold Bl at h
  unfold Bp
  simpa only [bl,bH,Nat.add_zero,Nat.max_zero] using h
theorem Bp.leaf (k:Int) (s:az 4) {c:Nat} (hc:1≤c):Bp ⟨k,s,[]⟩ c:=Bl.node (Bl.nil c) hc k s
theorem Bp.opt {z:T_Regex} {c:Nat} (h:Bp z c) (hc:1≤c) (k:Int) (s s':az 4) (k':Int):Bp ⟨k,s,[z,⟨k',s',[]⟩]⟩ (c+1):=by
  have:=(Bl.one h).snoc (Bp.leaf k' s' (c:=1) (by omega))
  exact this.node (by omega) k s
theorem Bp.more1 {z:T_Regex} {c:Nat} (h:Bp z c) (hc:1≤c) (k k':Int) (s s':az 4):Bp ⟨k,s,[z,⟨k',s',[z]⟩]⟩ c:=by
  unfold Bp at h ⊢
  simp only [parts,bl,height,bH,Nat.add_zero,Nat.max_zero]
  rw [show max (height z) (height z+1)+1=height z+2 by omega,Nat.pow_add,show 2 ^ 2=4 from rfl,←Nat.mul_assoc]
  have:=Nat.le_trans hc (Nat.le_mul_of_pos_right c (nQ (height z)))
  omega
def xl (s:Str) (p k d:Nat) (a:Rt (T_Regex×aA)) (b:T_Regex×aI):Prop:=
  (∃(x:T_Regex) (q:Nat),p+d≤q∧q≤s.length∧bO x∧(height x≤3*(q - p)+k∧Bp x (q - p+1 - d))∧a=.ret (x,⟨s,q⟩)∧b=(x,⟨s,q,false⟩))∨(∃(q:Nat) (y:T_Regex),q≤s.length∧a=.pan q∧b=(y,⟨s,q,true⟩))
theorem Ar:M.i5=M.k8:=by decide +kernel
theorem wI:M.i5=some (kk (rh [10])):=by
  unfold M.i5
  have h:M.h4 [10]=some (rh [10]):=Cq (s:=[10]) (by decide)
  rw [h,Option.bind_some,gR (mt _),Option.bind_some]
theorem uI (b:Nat):fv b b=[b]:=by unfold fv; rw [show b+1 - b=1 by omega]; rfl
theorem vl {s:Str} {q:Nat} (hs:s.length≤1000000) (h:q<s.length) (a:(s[q]).toNat=41):M.a3 ⟨s,q⟩ 41=some (.ret ⟨s,(q+1:Nat)⟩):=by
  unfold M.a3
  refine cR (aL (x:=false) (dD (bI (show (q:Int)≠(s.length:Int) by omega)) (aL (dq h) (congrArg some (mz (show ((s[q]).toNat:Int)=41 by omega))))) rfl) (aL (aQ (show q<9223372036854775807 by omega)) rfl)
theorem vk {s:Str} {q:Nat} (h:q<s.length) (h1:(s[q]).toNat≠41):M.a3 ⟨s,q⟩ 41=some (.pan q):=by
  unfold M.a3
  exact dR (aL (x:=true) (dD (bI (show (q:Int)≠(s.length:Int) by omega)) (aL (dq h) (congrArg some (go (show ((s[q]).toNat:Int)≠41 by omega))))) rfl)
theorem tm {s:Str}:M.a3 ⟨s,(s.length:Nat)⟩ 41=some (.pan (s.length:Nat)):=by
  unfold M.a3
  exact dR (aL (x:=true) (fp (jx rfl) rfl) rfl)
section
variable {s:Str} (hs:s.length≤1000000)
def PA (s:Str) (m:Nat):Prop:=∀p:Nat,p≤s.length→s.length - p≤m→∀fl,4*m+1≤fl→dH (M.c7 fl ⟨s,p⟩) (M.c8 fl ⟨s,p,false⟩) (xl s p 0 1)
def PP (s:Str) (m:Nat):Prop:=∀p:Nat,p≤s.length→s.length - p≤m→∀fl,4*m+2≤fl→dH (M.b9 fl ⟨s,p⟩) (M.c0 fl ⟨s,p,false⟩) (xl s p 0 1)
def PB (s:Str) (m:Nat):Prop:=∀p:Nat,p≤s.length→s.length - p≤m→∀fl,4*m+3≤fl→dH (M.b0 fl ⟨s,p⟩) (M.b1 fl ⟨s,p,false⟩) (xl s p 1 0)
def PR (s:Str) (m:Nat):Prop:=∀p:Nat,p≤s.length→s.length - p≤m→∀fl,4*m+4≤fl→dH (M.b4 fl ⟨s,p⟩) (M.b5 fl ⟨s,p,false⟩) (xl s p 2 0)
include hs
theorem xb {m:Nat} (h:∀m',m'<m→PR s m'):PA s m:=by
  intro p hp hm fl hfl
  obtain ⟨fl,rfl⟩:∃f,fl=f+1:=⟨fl - 1,by omega⟩
  unfold M.c7 M.c8
  obtain ⟨x,y,hx,hy,hxy,hlt⟩:=fI hp
  refine dH.l hx (dH.r hy ?_)
  rw [←hxy 40 (by decide) (by decide),←hxy 91 (by decide) (by decide),←hxy 46 (by decide) (by decide)]
  cases n:(x == (40:Int))
  · cases g:(x == (91:Int))
    · cases k:(x == (46:Int))
      · refine dH.bb (ov hs hp false) ?_
        rintro a b (⟨c,q,e,d,hc,rfl,rfl⟩|⟨q,hq,rfl,rfl⟩)
        · refine dH.l (oC hc hc) (dH.r (b:=⟨3,em (az.zero 4) c,[]⟩) ?_ (.pure (.inl ⟨⟨3,em (az.zero 4) c,[]⟩,q,e,d,pZ (sf eQ c),⟨?_,Bp.leaf _ _ (by omega)⟩,?_,rfl⟩)))
          · unfold M.k3
            exact aL (ku eQ hc) rfl
          · simp only [height,bH]; omega
          · rw [uI]; rfl
        · refine dH.r (b:=⟨3,em (az.zero 4) 0,[]⟩) ?_ (.pure (.inr ⟨q,_,hq,rfl,rfl⟩))
          unfold M.k3
          exact aL (ku eQ (c:=0) (by omega)) rfl
      · have hlt':=hlt 46 (by decide) (cF k)
        refine dH.l (aQ (i:=p) (by omega)) (dH.l wI (dH.r (aQ (i:=p) (by omega)) (dH.r (Ar.symm.trans wI) (.pure (.inl ⟨_,p+1,Nat.le_refl _,hlt',pZ (sg (mt _)),⟨?_,Bp.leaf _ _ (by omega)⟩,rfl,rfl⟩)))))
        simp only [height,bH]; omega
    · have hlt':=hlt 91 (by decide) (cF g)
      have h91':(s[p]).toNat=91:=by
        rw [tY hlt'] at hx
        have:=Option.some.inj hx
        have:=cF g
        omega
      refine dH.r (aQ (i:=p) (by omega)) (dH.bb (rT hs hlt' h91') ?_)
      rintro a b (⟨set,q,e,d,hv,rfl,rfl⟩|⟨q,y,hq,rfl,rfl⟩)
      · refine .pure (.inl ⟨⟨3,set,[]⟩,q,e,d,pZ hv,⟨?_,Bp.leaf _ _ (by omega)⟩,rfl,rfl⟩)
        simp only [height,bH]; omega
      · exact .pure (.inr ⟨q,_,hq,rfl,rfl⟩)
  · have hlt':=hlt 40 (by decide) (cF n)
    refine dH.l (aQ (i:=p) (by omega)) (dH.r (aQ (i:=p) (by omega)) ?_)
    refine dH.bb (h (m - 1) (by omega) (p+1) hlt' (by omega) fl (by omega)) ?_
    rintro a b (⟨z,q,e,d,hok,hh,rfl,rfl⟩|⟨q,y,hq,rfl,rfl⟩)
    · rcases Nat.lt_or_eq_of_le d with hq|hq
      · by_cases j:(s[q]).toNat=41
        · refine dH.l (vl hs hq j) (dH.r (fD hq) ?_)
          rw [mz (show ((s[q]).toNat:Int)=41 by omega)]
          exact dH.r (aQ (i:=q) (by omega)) (.pure (.inl ⟨z,q+1,by omega,hq,hok,⟨by omega,hh.2.more (by omega)⟩,rfl,rfl⟩))
        · refine dH.l (vk hq j) (dH.r (fD hq) ?_)
          rw [go (show ((s[q]).toNat:Int)≠41 by omega)]
          exact .pure (.inr ⟨q,_,d,rfl,rfl⟩)
      · subst hq
        exact dH.l tm (dH.r jp (.pure (.inr ⟨s.length,_,d,rfl,rfl⟩)))
    · exact .pure (.inr ⟨q,_,hq,rfl,rfl⟩)
theorem sB {m:Nat} (h:PA s m):PP s m:=by
  intro p hp hm fl hfl
  obtain ⟨fl,rfl⟩:∃f,fl=f+1:=⟨fl - 1,by omega⟩
  unfold M.b9 M.c0
  refine dH.bb (h p hp hm fl (by omega)) ?_
  rintro a b (⟨z,q,J,A,hok,hh,rfl,rfl⟩|⟨q,y,hq,rfl,rfl⟩)
  · refine dH.on_ret ?_
    have gN:=dH.loop (Q:=fun (a:Rt (T_Regex×aA)) (b:cC (Int×az 4×List T_Regex×Int) (T_Regex×aI))=>∃c,b=.stop c∧xl s p 0 1 a c)
      (bA:=fun (D:Int×Int×(az 4)×(List T_Regex))=>match D with
        | (I,r,o,t)=>bc ((M.a1 (aA.mk s I)).bind fun H=>
            bif (H == 42) then some (.next ((6:Int),([(T_Regex.mk r o t)]:(List T_Regex))))
            else bif (H == 43) then some (.next ((4:Int),([(T_Regex.mk r o t),(T_Regex.mk 6 (az.zero 4) [(T_Regex.mk r o t)])]:(List T_Regex))))
            else bif (H == 63) then some (.next ((5:Int),([(T_Regex.mk r o t),(T_Regex.mk 2 (az.zero 4) [])]:(List T_Regex))))
            else some (.stop (.stop (.ret ((T_Regex.mk r o t),(aA.mk s I)))))) fun (W,P)=>
          (bR .i64 (I+1)).bind fun t3=>some (.next (t3,W,(az.zero 4),P)))
      (bB:=fun (D:Int×Int×(az 4)×(List T_Regex))=>match D with
        | (v,n,j,g)=>bif (!false) then bc ((M.a0 (aI.mk s v false)).bind fun G=>
            bif (G == 42) then (M.h3 (T_Regex.mk n j g)).bind fun F=>some (.next (F.Kind,F.Set,F.Kids))
            else bif (G == 43) then (M.h3 (T_Regex.mk n j g)).bind fun S=>some (.next ((4:Int),(az.zero 4),([(T_Regex.mk n j g),S]:(List T_Regex))))
            else bif (G == 63) then some (.next ((5:Int),(az.zero 4),([(T_Regex.mk n j g),(T_Regex.mk 2 (az.zero 4) [])]:(List T_Regex))))
            else some (.stop (.stop (.stop ((T_Regex.mk n j g),(aI.mk s v false)))))) fun (V,U,T)=>
          (bR .i64 (v+1)).bind fun R=>some (.next (R,V,U,T))
          else some (.stop (.next (n,j,g,v))))
      (fun a b m=>∃(z:T_Regex) (q:Nat),p+1≤q∧q≤s.length∧bO z∧(height z≤3*(q - p)∧Bp z (q - p))∧a=((q:Int),z.Kind,z.Set,z.Kids)∧b=((q:Int),z.Kind,z.Set,z.Kids)∧m=s.length - q) ?_
      (s.length - q) aS aS ((q:Int),z.Kind,z.Set,z.Kids) ((q:Int),z.Kind,z.Set,z.Kids) (by unfold aS; omega) (by unfold aS; omega) ⟨z,q,J,A,hok,hh,rfl,rfl,rfl⟩
    · obtain ⟨a,b,ha,hb,c,rfl,hc⟩:=gN
      exact ⟨a,c,ha,dR hb,hc⟩
    · rintro m _ _ ⟨⟨k,st,l⟩,q,J,A,hok,hh,rfl,rfl,rfl⟩
      obtain ⟨x,y,hx,hy,hxy,hlt⟩:=fI A
      have B:=hxy 42 (by decide) (by decide)
      have K:=hxy 43 (by decide) (by decide)
      have N:=hxy 63 (by decide) (by decide)
      have L:∀w∈[(⟨k,st,l⟩:T_Regex)],bO w:=fun w hw=>by rw [List.mem_singleton.1 hw]; exact hok
      cases d:(x == (42:Int))
      · cases e:(x == (43:Int))
        · cases u:(x == (63:Int))
          · refine .inr ⟨_,dR (aL hx (dD d (dD e (dD u rfl)))),.inl ⟨_,dR (aL hy (dD (B ▸ d) (dD (K ▸ e) (dD (N ▸ u) rfl)))),_,rfl,.inl ⟨_,q,J,A,hok,hh,rfl,rfl⟩⟩⟩
          · have hl:=hlt 63 (by decide) (cF u)
            refine .inl ⟨_,_,s.length - (q+1),cR (aL hx (dD d (dD e (fp u rfl)))) (aL (aQ (i:=q) (by omega)) rfl),
              cR (aL hy (dD (B ▸ d) (dD (K ▸ e) (fp (N ▸ u) rfl)))) (aL (aQ (i:=q) (by omega)) rfl),by omega,⟨5,az.zero 4,[⟨k,st,l⟩,⟨2,az.zero 4,[]⟩]⟩,q+1,by omega,hl,?_,⟨?_,(hh.2.opt (by omega) _ _ _ _).more (by omega)⟩,rfl,rfl,rfl⟩
            · refine fk (by omega) (by simp) fun w hw=>?_
              rcases List.mem_cons.1 hw with rfl|hw
              · exact hok
              · rw [List.mem_singleton.1 hw]; exact fk (by omega) (by simp) (by simp)
            · have:height (⟨5,az.zero 4,[⟨k,st,l⟩,⟨2,az.zero 4,[]⟩]⟩:T_Regex)≤height (⟨k,st,l⟩:T_Regex)+1:=by simp only [height,bH]; omega
              omega
        · have hl:=hlt 43 (by decide) (cF e)
          refine .inl ⟨_,_,s.length - (q+1),cR (aL hx (dD d (fp e rfl))) (aL (aQ (i:=q) (by omega)) rfl),
            cR (aL hy (dD (B ▸ d) (fp (K ▸ e) rfl))) (aL (aQ (i:=q) (by omega)) rfl),by omega,⟨4,az.zero 4,[⟨k,st,l⟩,⟨6,az.zero 4,[⟨k,st,l⟩]⟩]⟩,q+1,by omega,hl,?_,⟨?_,(hh.2.more1 (by omega) _ _ _ _).more (by omega)⟩,rfl,rfl,rfl⟩
          · refine fk (by omega) (by simp) fun w hw=>?_
            rcases List.mem_cons.1 hw with rfl|hw
            · exact hok
            · rw [List.mem_singleton.1 hw]; exact fk (by omega) (by simp) L
          · have:height (⟨4,az.zero 4,[⟨k,st,l⟩,⟨6,az.zero 4,[⟨k,st,l⟩]⟩]⟩:T_Regex)≤height (⟨k,st,l⟩:T_Regex)+2:=by simp only [height,bH]; omega
            omega
      · have hl:=hlt 42 (by decide) (cF d)
        refine .inl ⟨_,_,s.length - (q+1),cR (aL hx (fp d rfl)) (aL (aQ (i:=q) (by omega)) rfl),
          cR (aL hy (fp (B ▸ d) rfl)) (aL (aQ (i:=q) (by omega)) rfl),by omega,⟨6,az.zero 4,[⟨k,st,l⟩]⟩,q+1,by omega,hl,fk (by omega) (by simp) L,⟨?_,((Bl.one hh.2).node (by omega) _ _).more (by omega)⟩,rfl,rfl,rfl⟩
        have:height (⟨6,az.zero 4,[⟨k,st,l⟩]⟩:T_Regex)≤height (⟨k,st,l⟩:T_Regex)+1:=by simp only [height,bH]; omega
        omega
  · exact ⟨_,(⟨y.Kind,y.Set,y.Kids⟩,⟨s,q,true⟩),rfl,cR (ig rfl) rfl,.inr ⟨q,_,hq,rfl,rfl⟩⟩
omit hs in
theorem rA (k:Int) (l:List T_Regex) (hl:l≠[]):∃x,M.h6 k l=some x∧((∃y,l=[y]∧x=y)∨(2≤l.length∧x=⟨k,az.zero 4,l⟩)):=by
  match l with
  | []=>exact absurd rfl hl
  | [y]=>exact ⟨y,rfl,.inl ⟨y,rfl,rfl⟩⟩
  | y::z::l=>
    refine ⟨_,dD (bI (by simp only [List.length_cons]; omega)) rfl,.inr ⟨by simp only [List.length_cons]; omega,rfl⟩⟩
omit hs in
theorem vZ {l:List T_Regex} (h:2≤l.length):((l.length:Int) == 1)=false:=bI (by omega)
omit hs in
theorem rO {q:Nat} (hq:q≤s.length):∃g,((bif (decide ((q:Int)<(s.length:Int))) then (ee s q).bind fun a=>bif (a != 124) then some (a != 41) else some false else some false)=some g)∧
    ((bif (!false) then (M.a0 (aI.mk s q false)).bind fun d=>bif (d != (-1)) then (M.a0 (aI.mk s q false)).bind fun c=>
      bif (c != 124) then (M.a0 (aI.mk s q false)).bind fun b=>some (b != 41) else some false else some false else some false)=some g)∧(g=true→q<s.length):=by
  rcases Nat.lt_or_eq_of_le hq with h|h
  · refine ⟨bif (((s[q]).toNat:Int) != 124) then (((s[q]).toNat:Int) != 41) else false,fp (dK (by omega)) (aL (dq h) ?_),aL (fD h) (fp (go (by omega)) (aL (fD h) ?_)),fun _=>h⟩
    · cases (((s[q]).toNat:Int) != 124) <;> rfl
    · cases (((s[q]).toNat:Int) != 124)
      · rfl
      · exact aL (fD h) rfl
  · subst h
    exact ⟨false,dD (dM (by omega)) rfl,aL jp rfl,fun h=>by cases h⟩
def ki (h:Nat) (l:List T_Regex):Prop:=∀y∈l,bO y∧height y≤h
omit hs in
theorem ki.snoc {h h':Nat} {l:List T_Regex} {x:T_Regex} (hl:ki h l) (hh:h≤h') (hx:bO x∧height x≤h'):ki h' (l++[x]):=by
  intro y hy
  rcases List.mem_append.1 hy with hy|hy
  · exact ⟨(hl y hy).1,Nat.le_trans (hl y hy).2 hh⟩
  · rw [List.mem_singleton.1 hy]; exact hx
omit hs in
theorem ki.node {h:Nat} {l:List T_Regex} (hl:ki h l) {k:Int} (hk:0≤k∧k≤10) (hn:l.length≤2000000):bO ⟨k,az.zero 4,l⟩∧height (⟨k,az.zero 4,l⟩:T_Regex)≤h+1:=by
  refine ⟨fk hk hn fun y hy=>(hl y hy).1,?_⟩
  have:=rz fun y hy=>(hl y hy).2
  simp only [height]; omega
theorem tv {m:Nat} (h:PP s m):PB s m:=by
  intro p hp hm fl hfl
  obtain ⟨fl,rfl⟩:∃f,fl=f+1:=⟨fl - 1,by omega⟩
  unfold M.b0 M.b1
  refine dH.sb (P:=fun (a:cC (List T_Regex×Str×Int) (Rt (T_Regex×aA))) (b:List T_Regex×Str×Int×Bool)=>
      (∃(l:List T_Regex) (q:Nat),p≤q∧q≤s.length∧(ki (3*(q - p)) l∧Bl l (q - p))∧l.length≤q - p∧a=.next (l,s,(q:Int))∧b=(l,s,(q:Int),false))∨(∃(l:List T_Regex) (q:Nat),q≤s.length∧a=.stop (.pan q)∧b=(l,s,(q:Int),true)))
    (dH.loop (fun (a:Str×Int×(List T_Regex)) (b:Str×Int×Bool×(List T_Regex)) k=>∃(l:List T_Regex) (q:Nat),p≤q∧q≤s.length∧(ki (3*(q - p)) l∧Bl l (q - p))∧l.length≤q - p∧a=(s,(q:Int),l)∧b=(s,(q:Int),false,l)∧k=s.length - q) ?_
      (s.length - p) _ _ _ _ (by unfold aS; omega) (by unfold aS; omega) ⟨[],p,Nat.le_refl _,hp,⟨(show ki (3*(p - p)) [] from fun y hy=>absurd hy (by simp)),Bl.nil _⟩,by simp,rfl,rfl,rfl⟩) ?_ ?_
  · rintro k _ _ ⟨l,q,hpq,hq,hg,hl,rfl,rfl,rfl⟩
    obtain ⟨g,gA,gB,hlt⟩:=rO hq
    cases g
    · exact .inr ⟨.next (l,s,(q:Int)),aL gA rfl,.inl ⟨(l,s,(q:Int),false),aL gB rfl,.inl ⟨l,q,hpq,hq,hg,hl,rfl,rfl⟩⟩⟩
    · obtain ⟨u,t,j,i,hcase⟩:=h q hq (by omega) fl (by omega)
      rcases hcase with ⟨x,q',r,n,hok,hh,rfl,rfl⟩|⟨q',y,hq',rfl,rfl⟩
      · have happ:cP 64 l [x]=some (l++[x]):=cV (by simp only [List.length_singleton]; omega)
        refine .inl ⟨(s,(q':Int),l++[x]),(s,(q':Int),false,l++[x]),s.length - q',aL gA (aL j (aL happ rfl)),aL gB (aL i (aL happ rfl)),by omega,
          l++[x],q',by omega,n,⟨hg.1.snoc (by omega) ⟨hok,by omega⟩,(hg.2.snoc hh.2).more (by omega)⟩,by simp only [List.length_append,List.length_singleton]; omega,rfl,rfl,rfl⟩
      · have happ:cP 64 l [y]=some (l++[y]):=cV (by simp only [List.length_singleton]; omega)
        exact .inr ⟨.stop (.pan q'),aL gA (aL j rfl),.inr ⟨(s,(q':Int),true,l++[y]),(l++[y],s,(q':Int),true),aL gB (aL i (aL happ rfl)),aL (x:=false) rfl rfl,.inr ⟨l++[y],q',hq',rfl,rfl⟩⟩⟩
  · rintro a b (⟨l,q,hpq,hq,hg,hl,e,rfl⟩|⟨l,q,hq,e,rfl⟩)
    · cases e
      by_cases c:l=[]
      · subst c
        refine ⟨.ret (⟨2,az.zero 4,[]⟩,⟨s,q⟩),(⟨2,az.zero 4,[]⟩,⟨s,q,false⟩),rfl,rfl,.inl ⟨⟨2,az.zero 4,[]⟩,q,hpq,hq,fk (by omega) (by simp) (by simp),⟨?_,Bp.leaf _ _ (by omega)⟩,rfl,rfl⟩⟩
        simp only [height,bH]; omega
      · have d:((l.length:Int) == 0)=false:=bI (fun e=>c (List.eq_nil_of_length_eq_zero (by omega)))
        obtain ⟨x,hx,⟨y,rfl,e⟩|⟨o,rfl⟩⟩:=rA 4 l c
        · have:=hg.1 y (by simp)
          exact ⟨.ret (y,⟨s,q⟩),(y,⟨s,q,false⟩),rfl,rfl,.inl ⟨y,q,hpq,hq,this.1,⟨by omega,hg.2.of1.more (by omega)⟩,rfl,rfl⟩⟩
        · have:=hg.1.node (k:=4) (by omega) (by omega)
          exact ⟨.ret (⟨4,az.zero 4,l⟩,⟨s,q⟩),(⟨4,az.zero 4,l⟩,⟨s,q,false⟩),dD d (aL hx rfl),dD d (dD (vZ o) rfl),.inl ⟨_,q,hpq,hq,this.1,⟨this.2,(hg.2.more (show q - p≤q - p+1 - 0 by omega)).node (by omega) _ _⟩,rfl,rfl⟩⟩
    · cases e
  · rintro x b (⟨l,q,hpq,hq,hg,hl,e,rfl⟩|⟨l,q,hq,e,rfl⟩)
    · cases e
    · cases e
      match l with
      | []=>exact ⟨_,(⟨2,az.zero 4,[]⟩,⟨s,q,true⟩),rfl,rfl,.inr ⟨q,_,hq,rfl,rfl⟩⟩
      | [y]=>exact ⟨_,(y,⟨s,q,true⟩),rfl,rfl,.inr ⟨q,_,hq,rfl,rfl⟩⟩
      | y::z::l=>
        exact ⟨_,(⟨4,az.zero 4,y::z::l⟩,⟨s,q,true⟩),rfl,dD (bI (by simp only [List.length_cons]; omega)) (dD (bI (by simp only [List.length_cons]; omega)) rfl),.inr ⟨q,_,hq,rfl,rfl⟩⟩
theorem uG {m:Nat} (h:PB s m):PR s m:=by
  intro p hp hm fl hfl
  obtain ⟨fl,rfl⟩:∃f,fl=f+1:=⟨fl - 1,by omega⟩
  unfold M.b4 M.b5
  refine dH.bb (h p hp hm fl (by omega)) ?_
  rintro a b (⟨z,d,o,j,hok,hh,rfl,rfl⟩|⟨q,y,hq,rfl,rfl⟩)
  · refine dH.on_ret ?_
    refine dH.sb (P:=fun (a:cC (List T_Regex×Str×Int) (Rt (T_Regex×aA))) (b:List T_Regex×Str×Int×Bool)=>
        (∃(l:List T_Regex) (q:Nat),p≤q∧q≤s.length∧(ki (3*(q - p)+1) l∧Bl l (q - p+1))∧l.length≤q - p+1∧l≠[]∧a=.next (l,s,(q:Int))∧b=(l,s,(q:Int),false))∨(∃(l:List T_Regex) (q:Nat),q≤s.length∧a=.stop (.pan q)∧b=(l,s,(q:Int),true)))
      (dH.loop (fun (a:Str×Int×(List T_Regex)) (b:Str×Int×Bool×(List T_Regex)) k=>∃(l:List T_Regex) (q:Nat),p≤q∧q≤s.length∧(ki (3*(q - p)+1) l∧Bl l (q - p+1))∧l.length≤q - p+1∧l≠[]∧a=(s,(q:Int),l)∧b=(s,(q:Int),false,l)∧k=s.length - q) ?_
        (s.length - d) _ _ _ _ (by unfold aS; omega) (by unfold aS; omega) ⟨[z],d,by omega,j,⟨fun y hy=>by rw [List.mem_singleton.1 hy]; exact ⟨hok,hh.1⟩,Bl.one hh.2⟩,by simp,by simp,rfl,rfl,rfl⟩) ?_ ?_
    · rintro k _ _ ⟨l,q,hpq,hq,hg,hl,hne,rfl,rfl,rfl⟩
      obtain ⟨x,y,hx,hy,hxy,hlt⟩:=fI hq
      have e:=hxy 124 (by decide) (by decide)
      cases c:(x == (124:Int))
      · exact .inr ⟨.next (l,s,(q:Int)),aL hx (dD c rfl),.inl ⟨(l,s,(q:Int),false),aL (x:=false) (aL hy (congrArg some (e ▸ c))) rfl,.inl ⟨l,q,hpq,hq,hg,hl,hne,rfl,rfl⟩⟩⟩
      · have hlt':=hlt 124 (by decide) (cF c)
        have hc:bR .i64 ((q:Int)+1)=some ((q+1:Nat):Int):=aQ (by omega)
        obtain ⟨u,t,i,g,hcase⟩:=h (q+1) hlt' (by omega) fl (by omega)
        rcases hcase with ⟨w,q',hq1',hq2',hok',hh',rfl,rfl⟩|⟨q',w,hq',rfl,rfl⟩
        · have happ:cP 64 l [w]=some (l++[w]):=cV (by simp only [List.length_singleton]; omega)
          refine .inl ⟨(s,(q':Int),l++[w]),(s,(q':Int),false,l++[w]),s.length - q',aL hx (fp c (aL hc (aL i (aL happ rfl)))),aL (x:=true) (aL hy (congrArg some (e ▸ c))) (aL hc (aL g (aL happ rfl))),by omega,
            l++[w],q',by omega,hq2',⟨hg.1.snoc (by omega) ⟨hok',by omega⟩,(hg.2.snoc hh'.2).more (by omega)⟩,by simp only [List.length_append,List.length_singleton]; omega,by simp,rfl,rfl,rfl⟩
        · have happ:cP 64 l [w]=some (l++[w]):=cV (by simp only [List.length_singleton]; omega)
          exact .inr ⟨.stop (.pan q'),aL hx (fp c (aL hc (aL i rfl))),.inr ⟨(s,(q':Int),true,l++[w]),(l++[w],s,(q':Int),true),aL (x:=true) (aL hy (congrArg some (e ▸ c))) (aL hc (aL g (aL happ rfl))),aL (x:=false) rfl rfl,.inr ⟨l++[w],q',hq',rfl,rfl⟩⟩⟩
    · rintro a b (⟨l,q,hpq,hq,hg,hl,hne,e,rfl⟩|⟨l,q,hq,e,rfl⟩)
      · cases e
        obtain ⟨x,hx,⟨y,rfl,e⟩|⟨n,rfl⟩⟩:=rA 5 l hne
        · have:=hg.1 y (by simp)
          exact ⟨.ret (y,⟨s,q⟩),(y,⟨s,q,false⟩),rfl,rfl,.inl ⟨y,q,hpq,hq,this.1,⟨by omega,hg.2.of1⟩,rfl,rfl⟩⟩
        · have:=hg.1.node (k:=5) (by omega) (by omega)
          exact ⟨.ret (⟨5,az.zero 4,l⟩,⟨s,q⟩),(⟨5,az.zero 4,l⟩,⟨s,q,false⟩),aL hx rfl,dD (vZ n) rfl,.inl ⟨_,q,hpq,hq,this.1,⟨this.2,hg.2.node (by omega) _ _⟩,rfl,rfl⟩⟩
      · cases e
    · rintro x b (⟨l,q,hpq,hq,hg,hl,hne,e,rfl⟩|⟨l,q,hq,e,rfl⟩)
      · cases e
      · cases e
        match l with
        | []=>exact ⟨_,(⟨5,az.zero 4,[]⟩,⟨s,q,true⟩),rfl,rfl,.inr ⟨q,_,hq,rfl,rfl⟩⟩
        | [y]=>exact ⟨_,(y,⟨s,q,true⟩),rfl,rfl,.inr ⟨q,_,hq,rfl,rfl⟩⟩
        | y::z::l=>exact ⟨_,(⟨5,az.zero 4,y::z::l⟩,⟨s,q,true⟩),rfl,dD (bI (by simp only [List.length_cons]; omega)) rfl,.inr ⟨q,_,hq,rfl,rfl⟩⟩
  · exact dH.on_pan ⟨_,(y,⟨s,q,true⟩),rfl,aL (ig (r:=([y],s,(q:Int),true)) rfl) rfl,.inr ⟨q,_,hq,rfl,rfl⟩⟩
theorem za:∀m,PR s m:=by
  intro m
  induction m using Nat.strongRecOn with
  | _ m ih=>exact uG hs (tv hs (sB hs (xb hs ih)))
theorem uN:∃r,M.f0 s=some r∧M.f8 s=some r∧bO r.1∧height r.1≤3*s.length+2∧Bp r.1 (s.length+1)∧(r.2.2=0→V 30 r.1=true):=by
  obtain ⟨a,b,ha,hb,hcase⟩:=za hs s.length 0 (by omega) (by omega) aS (by unfold aS; omega)
  have d:bO ⟨0,az.zero 4,[]⟩:=fk (by omega) (by simp) (by simp)
  have c:height (⟨0,az.zero 4,[]⟩:T_Regex)≤3*s.length+2∧Bp ⟨0,az.zero 4,[]⟩ (s.length+1):=⟨by simp only [height,bH]; omega,Bp.leaf _ _ (by omega)⟩
  unfold M.f0 M.f8
  rcases hcase with ⟨x,q,f,e,hok,hh,rfl,rfl⟩|⟨q,y,hq,rfl,rfl⟩
  · rcases Nat.lt_or_eq_of_le e with hq|hq
    · refine ⟨(⟨0,az.zero 4,[]⟩,(q:Int),3),aL ha (dR (fp (dK (by show (q:Int)<(s.length:Int); omega)) rfl)),aL hb (aL (x:=true) (congrArg some (dK (by show (q:Int)<(s.length:Int); omega))) rfl),d,c.1,c.2,fun h=>absurd (show (3:Int)=0 from h) (by decide)⟩
    · have hd:decide ((q:Int)<(s.length:Int))=false:=dM (by omega)
      cases hv:V 30 x
      · exact ⟨(⟨0,az.zero 4,[]⟩,0,11),aL ha (cR (dD hd rfl) (aL ((sh hok).trans (congrArg some hv)) rfl)),aL hb (aL (x:=false) (congrArg some hd) (aL ((jb hok).trans (congrArg some hv)) rfl)),d,c.1,c.2,fun h=>absurd h (by decide)⟩
      · exact ⟨(x,0,0),aL ha (cR (dD hd rfl) (aL ((sh hok).trans (congrArg some hv)) rfl)),aL hb (aL (x:=false) (congrArg some hd) (aL ((jb hok).trans (congrArg some hv)) rfl)),hok,by show height x≤_; omega,hh.2.more (by omega),fun _=>hv⟩
  · exact ⟨(⟨0,az.zero 4,[]⟩,(q:Int),3),aL ha rfl,aL hb rfl,d,c.1,c.2,fun h=>absurd (show (3:Int)=0 from h) (by decide)⟩
end
end Go.Proofs.YtlcdifnmkafcfaaGreat
set_option linter.unusedVariables false
namespace Go.Proofs.YtlcdifnmkafcfaaGreat
open Go.Lx
theorem qq {a b:Str} (h:a.length+b.length≤1000000000):qr a b=some (a++b):=by unfold qr; rw [if_pos (by omega)]
theorem jC {α:Type} {l:List α} {i j:Nat} (h1:i≤j) (h2:j≤l.length):iP l (i:Int) (j:Int)=some ((l.take j).drop i):=by unfold iP; rw [if_pos ⟨by omega,by omega,by omega⟩]; simp
def FewD (d:bK) (n:Nat):Prop:=d.Name.length≤40∧d.Pattern.length≤n∧d.Sample.length≤n∧d.Close.length≤n
theorem Ai {x:T_LexSpec} (hl:x.Defs.length≤9223372036854775807) (m n:Nat):Is (M.k2 x (m:Int) (n:Int)) (fun b=>b=true→x.Defs.length≤m∧∀d∈x.Defs,FewD d n):=by
  unfold M.k2
  refine Is.dcd (fun _=>Is.pure (fun h=>by cases h)) (fun j=>?_)
  refine Is.bs (P:=fun _=>∀d∈x.Defs,FewD d n) (Is.upto (fun i st=>st=(i:Int)∧∀d∈x.Defs.take i,FewD d n) x.Defs.length hl ⟨rfl,by simp⟩ ?_ ?_) (fun _ h=>Is.pure fun _=>⟨by omega,h⟩)
  · rintro i _ hi ⟨rfl,hd⟩
    refine Is.dt (by omega) (Is.bnq (aX hi) (Is.bnd (P:=fun b=>b=false→FewD x.Defs[i] n) ?_ fun b hb=>Is.cnd (fun _=>Is.stop (fun h=>by cases h)) (fun e=>Is.bnq (aQ (by omega)) (Is.next ⟨rfl,fun d hm=>?_⟩))))
    · refine Is.dcd (fun _=>Is.pure (fun h=>by cases h)) (fun g=>Is.dcd (fun _=>Is.pure (fun h=>by cases h)) (fun f=>Is.dcd (fun _=>Is.pure (fun h=>by cases h)) (fun c=>Is.pure (fun h=>?_))))
      have a:=of_decide_eq_false h
      exact ⟨by omega,by omega,by omega,by omega⟩
    · rw [List.take_succ_eq_append_getElem hi,List.mem_append] at hm
      rcases hm with hm|hm
      · exact hd d hm
      · rw [List.mem_singleton.1 hm]; exact hb e
  · rintro _ ⟨rfl,hd⟩
    rw [List.take_length] at hd
    exact Is.df (by omega) (Is.stop hd)
def rx (d:bK):T_Regex×Int×Int:=(M.f0 d.Pattern).getD (⟨0,az.zero 4,[]⟩,0,3)
structure zi (d:bK):Prop where
  prog:M.f0 d.Pattern=some (rx d)
  ref:M.f8 d.Pattern=some (rx d)
  ok:bO (rx d).1
  hgt:height (rx d).1≤92
  prt:parts (rx d).1≤31*2 ^ height (rx d).1
  val:(rx d).2.2=0→V 30 (rx d).1=true
theorem Bc {d:bK} (h:d.Pattern.length≤30):zi d:=by
  obtain ⟨r,h1,h2,h3,h4,h5,h6⟩:=uN (s:=d.Pattern) (by omega)
  have e:rx d=r:=by unfold rx; rw [h1]; rfl
  subst e
  exact ⟨h1,h2,h3,by omega,Nat.le_trans h5 (Nat.mul_le_mul_right _ (by omega)),h6⟩
theorem iy {d:bK} (h:zi d):M.d3 d=some (rx d).1:=by
  unfold M.d3
  rw [h.ref]; rfl
structure zj (d:bK):Prop where
  ro:zi d
  low:height (rx d).1≤6
  good:(rx d).2.2=0
theorem zj.parts {d:bK} (h:zj d):parts (rx d).1≤1984:=Nat.le_trans h.ro.prt (Nat.le_trans (Nat.mul_le_mul_left 31 (Nat.pow_le_pow_right (by omega) h.low)) (by decide))
theorem zj.fit {d:bK} (h:zj d):Fit (rx d).1:=qk _ 30 h.ro.ok (h.ro.val h.good) (by have:=h.parts; omega)
theorem zj.fh {d:bK} (h:zj d):FH (rx d).1:=⟨h.fit,by have:=h.low; unfold aS; omega⟩
theorem oo {l:List Str} {m:Nat} (h:∀w∈l,w.length≤m):Is (M.f3 l) (fun r=>r.length≤2∧∀w∈r,w.length≤m):=by
  unfold M.f3
  refine Is.dcd (fun hl=>Is.bnq (jC (i:=0) (j:=2) (by omega) (by omega)) (Is.pure ⟨?_,fun w hw=>h w ?_⟩)) (fun hl=>Is.pure ⟨by omega,h⟩)
  · rw [List.drop_zero,List.length_take]; omega
  · rw [List.drop_zero] at hw; exact List.mem_of_mem_take hw
theorem xe {l:List Str} {s:Str} {m:Nat} (h:∀w∈l,w.length≤m) (hs:s.length≤m) (hl:l.length≤1000000):Is (M.i6 l s) (fun r=>r.length≤l.length+1∧∀w∈r,w.length≤m):=by
  unfold M.i6
  refine Is.bs (P:=fun _=>True) (Q:=fun r:List Str=>r.length≤l.length+1∧∀w∈r,w.length≤m) (Is.upto (fun i st=>st=(i:Int)) l.length (by omega) rfl ?_ ?_) (fun _ _=>?_)
  · rintro i _ hi rfl
    exact Is.dt (by omega) (Is.bnq (aX hi) (Is.cnd (fun _=>Is.stop ⟨by omega,h⟩) (fun _=>Is.add1 (by omega) (Is.next rfl))))
  · rintro _ rfl
    exact Is.df (by omega) (Is.stop trivial)
  · refine Is.bnq (cV (by simp only [List.length_nil]; omega)) (Is.app1 (by rw [List.nil_append]; omega) (Is.pure ⟨by simp,fun w hw=>?_⟩))
    rw [List.nil_append] at hw
    rcases List.mem_append.1 hw with hw|hw
    · exact h w hw
    · rw [List.mem_singleton.1 hw]; exact hs
theorem vx:∀(fl:Nat) (x:T_Regex),Fit x→height x<fl→parts x≤100000→Is (M.d2 fl x) (fun r=>r.1.length≤2∧∀w∈r.1,w.length≤parts x):=by
  intro fl
  induction fl with
  | zero=>intro x _ h; omega
  | succ fl ih=>
    rintro ⟨k,s,l⟩ hF hh hp
    have hx:parts (⟨k,s,l⟩:T_Regex)=bl l+1:=rfl
    have hll:=fL l
    have hkid:∀y∈l,Is (M.d2 fl y) (fun r=>r.1.length≤2∧∀w∈r.1,w.length≤parts y):=fun y hy=>
      ih y (hF.kids y hy) (by have:=eA hy; have:height (⟨k,s,l⟩:T_Regex)=bH l+1:=rfl; omega) (by have:=dJ hy; omega)
    unfold M.d2
    refine Is.cnd (fun _=>Is.pure ⟨by decide,fun w hw=>by rw [List.mem_singleton.1 hw]; simp⟩) (fun _=>?_)
    refine Is.cnd (fun _=>?_) (fun _=>Is.cnd (fun _=>?_) (fun _=>Is.cnd (fun _=>?_) (fun _=>Is.cnd (fun h6=>?_) (fun _=>Is.pure ⟨by decide,fun w hw=>by cases hw⟩))))
    · -- a set
      refine Is.bnd (P:=fun m:List Str=>∀w∈m,w.length≤parts (⟨k,s,l⟩:T_Regex)) ?_ fun m hm=>Is.bnd (oo hm) fun r hr=>Is.pure hr
      refine Is.upto (fun i (st:List Str×Int)=>st.2=(i:Int)∧st.1.length≤i∧∀w∈st.1,w.length≤parts (⟨k,s,l⟩:T_Regex)) 256 (by omega) ⟨rfl,Nat.le_refl _,fun w hw=>by cases hw⟩ ?_ ?_
      · rintro i ⟨m,_⟩ hi ⟨rfl,g1,c⟩
        simp only at g1 c
        refine Is.dt (by omega) (Is.bnd (P:=fun m:List Str=>m.length≤i+1∧∀w∈m,w.length≤parts (⟨k,s,l⟩:T_Regex)) ?_ fun m hm=>Is.add1 (by omega) (Is.next ⟨rfl,hm⟩))
        refine Is.bnq (pi hF.set hi) (Is.cnd (fun _=>Is.app1 (by omega) (Is.pure ⟨by simp only [List.length_append,List.length_singleton]; omega,fun w hw=>?_⟩)) (fun _=>Is.pure ⟨by omega,c⟩))
        rcases List.mem_append.1 hw with hw|hw
        · exact c w hw
        · rw [List.mem_singleton.1 hw,hx]; simp [kN]
      · rintro ⟨m,_⟩ ⟨rfl,g1,c⟩
        exact Is.df (by omega) (Is.stop c)
    · -- a union
      refine Is.bnd (P:=fun st:List Str×Bool=>∀w∈st.1,w.length≤parts (⟨k,s,l⟩:T_Regex)) ?_ (fun ⟨m,fin⟩ hm=>Is.bnd (P:=fun st:List Str×Bool=>st.1.length≤2∧∀w∈st.1,w.length≤parts (⟨k,s,l⟩:T_Regex)) (Is.bnd (oo hm) fun r hr=>Is.cnd (fun _=>Is.pure hr) (fun _=>Is.pure hr)) (fun ⟨a,b⟩ h=>Is.pure h))
      refine Is.upto (fun i (st:List Str×Bool×Int)=>st.2.2=(i:Int)∧st.1.length≤2*i∧∀w∈st.1,w.length≤parts (⟨k,s,l⟩:T_Regex)) l.length (by omega) ⟨rfl,Nat.le_refl _,fun w hw=>by cases hw⟩ ?_ ?_
      · rintro i ⟨m,fin,_⟩ hi ⟨rfl,g1,c⟩
        simp only at g1 c
        refine Is.dt (show ((i:Nat):Int)<(l.length:Int) by omega) (Is.bnd (P:=fun st:List Str×Bool=>st.1.length≤2*(i+1)∧∀w∈st.1,w.length≤parts (⟨k,s,l⟩:T_Regex)) ?_ (fun ⟨a,b⟩ h=>Is.add1 (by omega) (Is.next ⟨rfl,h⟩)))
        refine Is.bnq (aX hi) (Is.bnd (hkid _ (List.getElem_mem hi)) fun r hr=>?_)
        have hpm:=dJ (List.getElem_mem hi)
        refine Is.bnd (P:=fun _=>True) (Is.cnd (fun _=>Is.pure trivial) (fun _=>Is.pure trivial)) fun b _=>?_
        refine Is.upto (fun j (st:List Str×Int)=>st.2=(j:Int)∧st.1.length≤2*i+j∧∀w∈st.1,w.length≤parts (⟨k,s,l⟩:T_Regex)) r.1.length (by omega) ⟨rfl,by simpa using g1,c⟩ ?_ ?_
        · rintro j ⟨t,_⟩ hj ⟨rfl,f,d⟩
          simp only at f d
          refine Is.dt (by omega) (Is.bnq (aX hj) (Is.bnd (xe d (by have:=hr.2 _ (List.getElem_mem hj); omega) (by omega)) fun g n=>Is.add1 (by omega) (Is.next ⟨rfl,by simp only; omega,n.2⟩)))
        · rintro ⟨t,_⟩ ⟨rfl,f,d⟩
          exact Is.df (by omega) (Is.stop ⟨by simp only at f ⊢; omega,d⟩)
      · rintro ⟨m,fin,_⟩ ⟨rfl,g1,c⟩
        exact Is.df (show ¬ ((l.length:Nat):Int)<(l.length:Int) by omega) (Is.stop c)
    · -- a concatenation
      refine Is.bs (P:=fun st:List Str×Bool=>st.1.length≤2∧∀w∈st.1,w.length≤parts (⟨k,s,l⟩:T_Regex)) (Q:=fun r:List Str×Bool=>r.1.length≤2∧∀w∈r.1,w.length≤parts (⟨k,s,l⟩:T_Regex)) ?_ (fun ⟨a,b⟩ h=>Is.pure h)
      refine Is.upto (fun i (st:List Str×Bool×Int)=>st.2.2=(i:Int)∧st.1.length≤2∧∀w∈st.1,w.length≤bl (l.take i)) l.length (by omega) ⟨rfl,by simp,fun w hw=>by rw [List.mem_singleton.1 hw]; simp⟩ ?_ ?_
      · rintro i ⟨m,fin,_⟩ hi ⟨rfl,g1,c⟩
        simp only at g1 c
        have hpt:=fa hi
        have hpl:=dx l (i+1)
        refine Is.dt (show ((i:Nat):Int)<(l.length:Int) by omega) ?_
        refine Is.bs (P:=fun st:List Str×Bool=>st.1.length≤2∧∀w∈st.1,w.length≤bl (l.take (i+1))) ?_ (fun ⟨a,b⟩ h=>Is.add1 (by omega) (Is.next ⟨rfl,h⟩))
        refine Is.bnq (aX hi) (Is.bnd (hkid _ (List.getElem_mem hi)) fun r hr=>?_)
        refine Is.bnd (P:=fun g:List Str=>∀w∈g,w.length≤bl (l.take (i+1))) ?_ fun g n=>?_
        · refine Is.upto (fun j (st:List Str×Int)=>st.2=(j:Int)∧st.1.length≤2*j∧∀w∈st.1,w.length≤bl (l.take (i+1))) m.length (by omega) ⟨rfl,Nat.le_refl _,fun w hw=>by cases hw⟩ ?_ ?_
          · rintro j ⟨t,_⟩ hj ⟨rfl,f,d⟩
            simp only at f d
            refine Is.dt (by omega) (Is.bnd (P:=fun g:List Str=>g.length≤2*(j+1)∧∀w∈g,w.length≤bl (l.take (i+1))) ?_ fun g n=>Is.add1 (by omega) (Is.next ⟨rfl,n⟩))
            refine Is.upto (fun q (st:List Str×Int)=>st.2=(q:Int)∧st.1.length≤2*j+q∧∀w∈st.1,w.length≤bl (l.take (i+1))) r.1.length (by omega) ⟨rfl,by simpa using f,d⟩ ?_ ?_
            · rintro q ⟨u,_⟩ hq ⟨rfl,p,o⟩
              simp only at p o
              have F:=c _ (List.getElem_mem hj)
              have D:=hr.2 _ (List.getElem_mem hq)
              refine Is.dt (by omega) (Is.bnq (aX hj) (Is.bnq (aX hq) (Is.bnq (qq (by omega)) (Is.bnd (xe o (by rw [List.length_append]; omega) (by omega)) fun B z=>Is.add1 (by omega) (Is.next ⟨rfl,by simp only; omega,z.2⟩)))))
            · rintro ⟨u,_⟩ ⟨rfl,p,o⟩
              exact Is.df (by omega) (Is.stop ⟨by simp only at p ⊢; omega,o⟩)
          · rintro ⟨t,_⟩ ⟨rfl,f,d⟩
            exact Is.df (by omega) (Is.stop d)
        · refine Is.cnd (fun _=>Is.stop ⟨by decide,fun w hw=>by cases hw⟩) (fun _=>?_)
          refine Is.bnd (P:=fun _=>True) (Is.cnd (fun _=>Is.cnd (fun _=>Is.pure trivial) (fun _=>Is.pure trivial)) (fun _=>Is.pure trivial)) fun b _=>Is.bnd (oo n) fun A v=>Is.next v
      · rintro ⟨m,fin,_⟩ ⟨rfl,g1,c⟩
        rw [List.take_length] at c
        exact Is.df (show ¬ ((l.length:Nat):Int)<(l.length:Int) by omega) (Is.stop ⟨g1,fun w hw=>by have:=c w hw; omega⟩)
    · -- a repetition
      obtain ⟨y,e⟩:=hF.star (cF h6)
      obtain rfl:l=[y]:=e
      refine Is.bnq (x:=y) rfl (Is.bnd (hkid y (by simp)) fun r hr=>?_)
      refine Is.bs (P:=fun _=>True) (Q:=fun r:List Str×Bool=>r.1.length≤2∧∀w∈r.1,w.length≤parts (⟨k,s,[y]⟩:T_Regex)) (Is.upto (fun i st=>st=(i:Int)) r.1.length (by omega) rfl ?_ ?_) (fun _ _=>Is.pure ⟨by decide,fun w hw=>by rw [List.mem_singleton.1 hw]; simp⟩)
      · rintro i _ hi rfl
        refine Is.dt (by omega) (Is.bnq (aX hi) (Is.cnd (fun _=>Is.stop ⟨by simp,fun w hw=>?_⟩) (fun _=>Is.add1 (by omega) (Is.next rfl))))
        simp only [List.mem_cons,List.not_mem_nil,or_false] at hw
        rcases hw with rfl|rfl
        · simp
        · have:=hr.2 _ (List.getElem_mem hi)
          simp only [bl] at hx; omega
      · rintro _ rfl
        exact Is.df (by omega) (Is.stop trivial)
theorem yg {x:T_Regex} {s:Str} (hF:Fit x) (hh:height x≤100) (hp:parts x≤100000):Is (M.j1 x s) (fun _=>True):=by
  unfold M.j1
  refine Is.bnd (vx aS x hF (by unfold aS; omega) hp) fun r hr=>Is.bnd (P:=fun _=>True) (Is.cnd (fun _=>Is.cnd (fun h=>?_) (fun _=>Is.pure trivial)) (fun _=>Is.pure trivial)) fun _ _=>Is.pure trivial
  have:=cF h
  exact Is.idx (by omega) (by omega) fun _ _ _=>Is.pure trivial
theorem pt (b:Int):Is (M.g3 b) (fun _=>True):=by
  unfold M.g3
  refine Is.bnd (P:=fun _=>True) ?_ fun _ _=>Is.pure trivial
  refine Is.cnd (fun _=>Is.cnd (fun _=>Is.pure trivial) (fun _=>Is.cnd (fun _=>Is.pure trivial) (fun _=>Is.pure trivial))) (fun _=>Is.cnd (fun _=>Is.pure trivial) (fun _=>Is.pure trivial))
theorem yh {s:Str} (hs:s.length≤1000000):Is (M.j2 s) (fun _=>True):=by
  unfold M.j2
  refine Is.bnd (P:=fun b=>b=false→1≤s.length) ?_ fun b hb=>Is.cnd (fun _=>Is.pure trivial) (fun _=>?_)
  · refine Is.dcd (fun _=>Is.pure fun h=>by cases h) (fun a=>Is.dcd (fun _=>Is.pure fun h=>by cases h) (fun _=>?_))
    exact Is.bnq (dq (i:=0) (by omega)) (Is.bnd (pt _) fun _ _=>Is.pure fun _=>by omega)
  · refine Is.bs (P:=fun _=>True) (Is.upto (fun i st=>st=(i:Int)) s.length (by omega) rfl ?_ ?_) (fun _ _=>Is.pure trivial)
    · rintro i _ hi rfl
      refine Is.dt (by omega) (Is.bnd (P:=fun _=>True) (Is.bnq (dq hi) (Is.bnd (pt _) fun _ _=>?_)) fun _ _=>Is.cnd (fun _=>Is.stop trivial) (fun _=>Is.add1 (by omega) (Is.next rfl)))
      refine Is.cnd (fun _=>Is.cnd (fun _=>Is.cnd (fun _=>Is.pure trivial) (fun _=>Is.pure trivial)) (fun _=>Is.cnd (fun _=>Is.pure trivial) (fun _=>Is.pure trivial))) (fun _=>Is.pure trivial)
    · rintro _ rfl
      exact Is.df (by omega) (Is.stop trivial)
theorem vS {s:Str} (hs:s.length≤1000000):Is (M.e8 s) (fun _=>True):=by
  unfold M.e8
  refine Is.bs (P:=fun _=>True) (Is.upto (fun i st=>st=(i:Int)) s.length (by omega) rfl ?_ ?_) (fun _ _=>Is.pure trivial)
  · rintro i _ hi rfl
    exact Is.dt (by omega) (Is.bnd (P:=fun _=>True) (Is.bnq (dq hi) (Is.cnd (fun _=>Is.pure trivial) (fun _=>Is.pure trivial))) fun _ _=>Is.cnd (fun _=>Is.stop trivial) (fun _=>Is.add1 (by omega) (Is.next rfl)))
  · rintro _ rfl
    exact Is.df (by omega) (Is.stop trivial)
section
variable {x:T_LexSpec} (h6:x.Defs.length≤6) (hf:∀d∈x.Defs,FewD d 30) (hlow:∀d∈x.Defs,height (rx d).1≤6)
include hf in
theorem xV {d:bK} (hd:d∈x.Defs):zi d:=Bc (hf d hd).2.1
include hf hlow
theorem ri {d:bK} (hd:d∈x.Defs) (he:(rx d).2.2=0):Is (M.f9 (rx d).1) (fun _=>True):=by
  unfold M.f9
  exact Is.bnq (mu (zj.fh ⟨xV hf hd,hlow d hd,he⟩) (s:=[]) (by simp)) (Is.pure trivial)
include h6
theorem pa {i:Nat} (hi:i<x.Defs.length):Is (M.e4 x (i:Int)) (fun e=>e=0→(rx x.Defs[i]).2.2=0):=by
  have hd:=List.getElem_mem hi
  have hfd:=hf _ hd
  unfold M.e4
  refine Is.bnq (aX hi) (Is.bnd (P:=fun _=>True) ?_ fun b _=>Is.cnd (fun _=>Is.pure fun e=>absurd e (by decide)) (fun _=>?_))
  · exact Is.bnd (yh (by have:=hfd.1; omega)) fun _ _=>Is.cnd (fun _=>Is.pure trivial) (fun _=>Is.cnd (fun _=>Is.pure trivial) (fun _=>Is.cnd (fun _=>Is.pure trivial) (fun _=>Is.pure trivial)))
  · refine Is.bs (P:=fun _=>True) (Q:=fun e:Int=>e=0→(rx x.Defs[i]).2.2=0) (Is.upto (fun j st=>st=(j:Int)) i (by omega) rfl ?_ ?_) (fun _ _=>?_)
    · rintro j _ hj rfl
      exact Is.dt (by omega) (Is.bnq (aX (by omega)) (Is.cnd (fun _=>Is.stop fun e=>absurd e (by decide)) (fun _=>Is.add1 (by omega) (Is.next rfl))))
    · rintro _ rfl
      exact Is.df (by omega) (Is.stop trivial)
    · refine Is.bnd (P:=fun _=>True) (Is.cnd (fun _=>Is.pure trivial) (fun _=>Is.pure trivial)) fun b _=>Is.cnd (fun _=>Is.pure fun e=>absurd e (by decide)) (fun _=>?_)
      refine Is.bnq (xV hf hd).ref (Is.cnd (fun hne=>Is.pure fun e=>absurd e (ic hne)) (fun he=>?_))
      have he:=fm he
      refine Is.bnd (ri hf hlow hd he) fun b _=>Is.cnd (fun _=>Is.pure fun _=>he) (fun _=>Is.bnd (vS (by have:=hfd.2.2.2; omega)) fun _ _=>Is.cnd (fun _=>Is.pure fun _=>he) (fun _=>Is.pure fun _=>he))
omit h6 hf hlow in
theorem yy {l:List T_Regex} (ok:∀x∈l,bO x) (hp:bl l≤1048576):Is (M.b8 l) (fun r=>(r=(nV l,0)∧bl l≤500)∨r.2≠0):=by
  by_cases hg:(∀y∈l,V 30 y=true)∧bl l≤500
  · exact ⟨_,sF ok hg.1 hg.2,.inl ⟨rfl,hg.2⟩⟩
  · unfold M.b8
    refine Is.bnd (rQ ok hp) fun e he=>?_
    have hne:e≠0:=by
      rcases he with ⟨_,h,_⟩|⟨_,_,h,_⟩|⟨b,a,_,_⟩
      · omega
      · omega
      · exact absurd ⟨b,a⟩ hg
    exact Is.ct (go hne) (Is.pure (.inr hne))
def uM (x:T_LexSpec):List T_Regex:=x.Defs.map fun d=>(rx d).1
omit h6 in
theorem yd:(∀y∈uM x,bO y)∧bl (uM x)≤x.Defs.length*1984:=by
  refine ⟨fun y hy=>?_,?_⟩
  · obtain ⟨d,hd,rfl⟩:=List.mem_map.1 hy
    exact (xV hf hd).ok
  · have:∀l:List bK,(∀d∈l,d∈x.Defs)→bl (l.map fun d=>(rx d).1)≤l.length*1984:=by
      intro l
      induction l with
      | nil=>intro _; simp [bl]
      | cons d l ih=>
        intro hl
        have c:=ih fun z hz=>hl z (by simp [hz])
        have b:=(xV hf (hl d (by simp))).prt
        have a:31*2 ^ height (rx d).1≤31*2 ^ 6:=Nat.mul_le_mul_left 31 (Nat.pow_le_pow_right (by omega) (hlow d (hl d (by simp))))
        simp only [List.map_cons,bl,List.length_cons]; omega
    exact this x.Defs fun _ h=>h
theorem wX:Is (M.f4 x) (fun r=>r.2=0→bl (uM x)≤500∧WM r.1):=by
  unfold M.f4
  refine Is.bnq (x:=uM x) (Is.eq ?_) ?_
  · refine Is.upto (fun i (st:List T_Regex×Int)=>st.2=(i:Int)∧st.1=(x.Defs.take i).map fun d=>(rx d).1) x.Defs.length (by omega) ⟨rfl,rfl⟩ ?_ ?_
    · rintro i ⟨l,_⟩ hi ⟨rfl,e⟩
      obtain rfl:l=_:=e
      refine Is.dt (by omega) (Is.bnq (aX hi) (Is.bnq (iy (xV hf (List.getElem_mem hi))) (Is.app1 (by rw [List.length_map,List.length_take]; omega) (Is.add1 (by omega) (Is.next ⟨rfl,?_⟩)))))
      rw [List.take_succ_eq_append_getElem hi,List.map_append]; rfl
    · rintro ⟨l,_⟩ ⟨rfl,e⟩
      obtain rfl:l=_:=e
      rw [List.take_length]
      exact Is.df (by omega) (Is.stop rfl)
  obtain ⟨ok,hp⟩:=yd hf hlow
  refine Is.bnd (yy ok (by omega)) fun r hr=>?_
  rcases hr with ⟨rfl,a⟩|hne
  · refine Is.cf rfl ?_
    have hfit:=uQ ok a
    have hal:=(mw a).2
    refine Is.bnd (vK (n:=nV (uM x)) hfit (by omega)) fun r hr=>Is.cnd (fun hne=>Is.pure fun e=>absurd e (ic hne)) (fun he=>?_)
    obtain ⟨c,b⟩:=hr (fm he)
    exact Is.bnd (tc c b) fun m hm=>Is.pure fun _=>⟨a,hm⟩
  · exact Is.ct (go hne) (Is.pure fun e=>absurd e hne)
structure SpecOk (x:T_LexSpec):Prop where
  six:x.Defs.length≤6
  few:∀d∈x.Defs,FewD d 30
  pat:∀d∈x.Defs,zj d
  prt:bl (uM x)≤500
  mis:0≤x.Misspelling∧x.Misspelling≤1000
  unc:0≤x.Unclosed∧x.Unclosed≤1000
  dfa:∃d,M.f4 x=some (d,0)∧WM d
theorem wQ:Is (M.d4 x) (fun r=>r.2=0→SpecOk x):=by
  unfold M.d4
  refine Is.bnd (P:=fun _=>True) (Is.cnd (fun _=>Is.pure trivial) (fun _=>Is.pure trivial)) fun b _=>Is.cnd (fun _=>Is.pure fun e=>absurd e (by decide)) (fun _=>?_)
  refine Is.bs (P:=fun _=>∀d∈x.Defs,(rx d).2.2=0) (Q:=fun r:Int×Int=>r.2=0→SpecOk x) (Is.upto (fun i st=>st=(i:Int)∧∀d∈x.Defs.take i,(rx d).2.2=0) x.Defs.length (by omega) ⟨rfl,by simp⟩ ?_ ?_) (fun _ hgood=>?_)
  · rintro i _ hi ⟨rfl,hd⟩
    refine Is.dt (by omega) (Is.bnd (pa h6 hf hlow hi) fun e he=>Is.cnd (fun hne=>Is.stop fun e=>absurd e (ic hne)) (fun a=>Is.add1 (by omega) (Is.next ⟨rfl,fun d hm=>?_⟩)))
    rw [List.take_succ_eq_append_getElem hi,List.mem_append] at hm
    rcases hm with hm|hm
    · exact hd d hm
    · rw [List.mem_singleton.1 hm]; exact he (fm a)
  · rintro _ ⟨rfl,hd⟩
    rw [List.take_length] at hd
    exact Is.df (by omega) (Is.stop hd)
  refine Is.bnd (P:=fun b=>b=false→(0≤x.Misspelling∧x.Misspelling≤1000)∧(0≤x.Unclosed∧x.Unclosed≤1000)) ?_ fun b hb=>Is.cnd (fun _=>Is.pure fun e=>absurd (show (1:Int)=0 from e) (by decide)) (fun e=>?_)
  · refine Is.dcd (fun _=>Is.pure fun h=>by cases h) (fun m=>Is.dcd (fun _=>Is.pure fun h=>by cases h) (fun l=>Is.dcd (fun _=>Is.pure fun h=>by cases h) (fun g=>Is.pure fun h=>?_)))
    have:=of_decide_eq_false h
    exact ⟨by omega,by omega⟩
  obtain ⟨f,c⟩:=hb e
  have hpat:∀d∈x.Defs,zj d:=fun d hd=>⟨xV hf hd,hlow d hd,hgood d hd⟩
  obtain ⟨⟨bd,be⟩,hbr,hr⟩:=wX h6 hf hlow
  refine Is.bnq hbr (Is.cnd (fun hne=>Is.pure fun e=>absurd e (ic hne)) (fun a=>?_))
  obtain rfl:be=0:=fm a
  have ok:SpecOk x:=⟨h6,hf,hpat,(hr rfl).1,f,c,bd,hbr,(hr rfl).2⟩
  refine Is.bs (P:=fun _=>True) (Q:=fun r:Int×Int=>r.2=0→SpecOk x) (Is.upto (fun i st=>st=(i:Int)) x.Defs.length (by omega) rfl ?_ ?_) (fun _ _=>Is.pure fun _=>ok)
  · rintro i _ hi rfl
    have hd:=List.getElem_mem hi
    refine Is.dt (by omega) (Is.bnq (aX hi) (Is.bnd (P:=fun _=>True) ?_ fun k _=>Is.cnd (fun _=>Is.stop fun _=>ok) (fun _=>Is.bnd (P:=fun _=>True) ?_ fun b _=>Is.cnd (fun _=>Is.stop fun _=>ok) (fun _=>Is.add1 (by omega) (Is.next rfl)))))
    · unfold M.k6
      refine Is.bs (P:=fun _=>True) (Is.upto (fun i st=>st=(i:Int)) x.Defs.length (by omega) rfl ?_ ?_) (fun _ _=>Is.pure trivial)
      · rintro j _ hj rfl
        have hdj:=List.getElem_mem hj
        exact Is.dt (by omega) (Is.bnq (aX hj) (Is.bnq (iy (xV hf hdj)) (Is.bnq (mu (s:=x.Defs[i].Sample) (hpat _ hdj).fh (by have:=(hf _ hd).2.2.1; omega)) (Is.cnd (fun _=>Is.stop trivial) (fun _=>Is.add1 (by omega) (Is.next rfl))))))
      · rintro _ rfl
        exact Is.df (by omega) (Is.stop trivial)
    · exact Is.cnd (fun _=>Is.bnq (iy (xV hf hd)) (Is.bnd (yg (hpat _ hd).fit (by have:=hlow _ hd; omega) (by have:=(hpat _ hd).parts; omega)) fun _ _=>Is.pure trivial)) (fun _=>Is.pure trivial)
  · rintro _ rfl
    exact Is.df (by omega) (Is.stop trivial)
end
theorem vD {x:T_LexSpec} (ok:jo x):Is (M.i2 x) (fun b=>b=true→SpecOk x∧∃k,M.d4 x=some (k,0)):=by
  have hl:x.Defs.length≤9223372036854775807:=Nat.le_trans ok.1.2 (by decide)
  unfold M.i2
  refine Is.bnd (Ai hl 6 30) fun b hb=>Is.cnd (fun _=>Is.pure fun h=>by cases h) (fun e=>?_)
  obtain ⟨h6,hf⟩:=hb (by simpa using e)
  refine Is.bs (P:=fun _=>∀d∈x.Defs,height (rx d).1≤6) (Q:=fun b:Bool=>b=true→SpecOk x∧∃k,M.d4 x=some (k,0)) (Is.upto (fun i st=>st=(i:Int)∧∀d∈x.Defs.take i,height (rx d).1≤6) x.Defs.length hl ⟨rfl,by simp⟩ ?_ ?_) (fun _ hlow=>?_)
  · rintro i _ hi ⟨rfl,hd⟩
    have hx:=xV hf (List.getElem_mem hi)
    refine Is.dt (by omega) (Is.bnq (aX hi) (Is.bnq (iy hx) (Is.bnq (xz aS _ hx.ok (by have:=hx.hgt; unfold aS; omega) (by have:=hx.hgt; omega)) (Is.dcd (fun _=>Is.stop fun h=>by cases h) (fun hle=>Is.add1 (by omega) (Is.next ⟨rfl,fun d hm=>?_⟩))))))
    rw [List.take_succ_eq_append_getElem hi,List.mem_append] at hm
    rcases hm with hm|hm
    · exact hd d hm
    · rw [List.mem_singleton.1 hm]; omega
  · rintro _ ⟨rfl,hd⟩
    rw [List.take_length] at hd
    exact Is.df (by omega) (Is.stop hd)
  · obtain ⟨⟨k,e⟩,a,c⟩:=wQ h6 hf hlow
    refine Is.bnq a (Is.pure fun h=>?_)
    obtain rfl:e=0:=cF h
    exact ⟨c rfl,k,a⟩
end Go.Proofs.YtlcdifnmkafcfaaGreat
set_option linter.unusedVariables false
namespace Go.Proofs.YtlcdifnmkafcfaaGreat
open Go.Lx
open Classical
noncomputable def cl (x:T_LexSpec) (d:bK) (s:Str):Bool:=decide (0<x.Unclosed) && (d.Kind != 2) && (d.Close != []) && decide (L (rx d).1 (bX (s++d.Close)))
noncomputable def mT (x:T_LexSpec) (s:Str):Bool:=x.Defs.any fun d=>cl x d s
section
variable {x:T_LexSpec} (h:SpecOk x)
include h
theorem ye {d:bK} (hd:d∈x.Defs):parts (rx d).1≤500:=Nat.le_trans (dJ (List.mem_map.2 ⟨d,hd,rfl⟩)) h.prt
theorem zW {d:bK} (hd:d∈x.Defs) {s:Str} (hs:s.length≤20):M.f1 (rx d).1 (s++d.Close)=some (decide (L (rx d).1 (bX (s++d.Close)))):=by
  have hc:=(h.few d hd).2.2.2
  exact wp (s:=s++d.Close) (P:=500) (N:=50) (H:=6) (by decide) (by decide) (by decide) (by decide) (h.pat d hd).fit (ye h hd) (h.pat d hd).low (by rw [List.length_append]; omega) (by rw [List.length_append]; omega)
theorem my {d:bK} (hd:d∈x.Defs) {s:Str} (hs:s.length≤20):M.c2 x d s=some (cl x d s):=by
  have hc:=(h.few d hd).2.2.2
  refine Is.eq ?_
  unfold M.c2 cl
  refine Is.bnd (P:=fun b=>b=!(decide (0<x.Unclosed) && (d.Kind != 2) && (d.Close != []))) ?_ fun b hb=>?_
  · refine Is.dcd (fun c=>Is.pure ?_) (fun c=>Is.cnd (fun a=>Is.pure ?_) (fun a=>Is.pure ?_))
    · rw [dM (show ¬ 0<x.Unclosed by omega)]; rfl
    · rw [show (d.Kind != 2)=false by rw [bne,a]; rfl]; simp
    · rw [dK (show 0<x.Unclosed by omega),show (d.Kind != 2)=true by rw [bne,a]; rfl]; simp [bne]
  subst hb
  refine Is.cnd (fun e=>Is.pure ?_) (fun e=>?_)
  · rw [Bool.not_eq_true'] at e
    rw [e]; rfl
  · rw [Bool.not_eq_false'] at e
    rw [e]
    refine Is.bnq (h.pat d hd).ro.prog (Is.bnd (P:=fun b=>b=decide (L (rx d).1 (bX (s++d.Close)))) (Is.ct (jx (h.pat d hd).good) (Is.bnq (qq (by omega)) (Is.bnq (zW h hd hs) (Is.pure rfl)))) fun b hb=>Is.pure (by rw [hb]; rfl))
theorem AB {s:Str} (hs:s.length≤20):M.e2 s x=some (mT x s):=by
  have h6:=h.six
  refine Is.eq ?_
  unfold M.e2
  refine Is.bs (P:=fun _=>mT x s=false) (Is.upto (fun i st=>st=(i:Int)∧∀d∈x.Defs.take i,cl x d s=false) x.Defs.length (by omega) ⟨rfl,by simp⟩ ?_ ?_) (fun _ e=>Is.pure e.symm)
  · rintro i _ hi ⟨rfl,hd⟩
    have hm:=List.getElem_mem hi
    refine Is.dt (by omega) (Is.bnq (aX hi) (Is.bnq (my h hm hs) (Is.cnd (fun e=>Is.stop (List.any_eq_true.2 ⟨_,hm,e⟩).symm) (fun e=>Is.add1 (by omega) (Is.next ⟨rfl,fun d hdm=>?_⟩)))))
    rw [List.take_succ_eq_append_getElem hi,List.mem_append] at hdm
    rcases hdm with hdm|hdm
    · exact hd d hdm
    · rw [List.mem_singleton.1 hdm]; exact e
  · rintro _ ⟨rfl,hd⟩
    rw [List.take_length] at hd
    exact Is.df (by omega) (Is.stop (List.any_eq_false.2 fun d hm=>by rw [hd d hm]; simp))
end
def tx (l:List T_Token):Str:=l.flatMap (·.Text)
theorem ew (t:T_Token) (l:List T_Token):tx (t::l)=t.Text++tx l:=rfl
theorem gv (l m:List T_Token):tx (l++m)=tx l++tx m:=by simp [tx]
theorem pI {l:List T_Token} {i:Nat} (hi:i<l.length):tx (l.take (i+1))=tx (l.take i)++l[i].Text:=by rw [List.take_succ_eq_append_getElem hi,gv]; simp [tx]
theorem kl (l:List T_Token) (i:Nat):(tx (l.take i)).length≤(tx l).length:=by
  have:tx l=tx (l.take i)++tx (l.drop i):=by rw [←gv,List.take_append_drop]
  rw [this,List.length_append]; omega
theorem pe {l:List T_Token} {i:Nat} (hi:i≤l.length) (hl:l.length≤1000000) (ht:(tx l).length≤1000000) {body:Str×Int→Option (cC (Str×Int) Str)}
    (hb:∀s k,body (s,k)=bif decide (k<(l.length:Int)) then (bm l k).bind fun e=>(qr s e.Text).bind fun s=>(bR .i64 (k+1)).bind fun t=>some (.next (s,t)) else some (.stop s)) :
    aU body aS (([]:Str),(i:Int))=some (tx (l.drop i)):=by
  have hle:(tx (l.drop i)).length≤(tx l).length:=by
    have:tx l=tx (l.take i)++tx (l.drop i):=by rw [←gv,List.take_append_drop]
    rw [this,List.length_append]; omega
  refine Is.eq ?_
  refine Is.upto (fun j (st:Str×Int)=>st.2=((i+j:Nat):Int)∧st.1=tx ((l.drop i).take j)) (l.drop i).length (by rw [List.length_drop]; omega) ⟨rfl,rfl⟩ ?_ ?_
  · rintro j ⟨s,_⟩ hj ⟨rfl,e⟩
    obtain rfl:s=_:=e
    rw [List.length_drop] at hj
    rw [hb]
    have c:=kl (l.drop i) (j+1)
    have a:=pI (l:=l.drop i) (i:=j) (by rw [List.length_drop]; exact hj)
    have b:(l.drop i)[j]'(by rw [List.length_drop]; exact hj)=l[i+j]'(by omega):=List.getElem_drop ..
    rw [b] at a
    rw [a,List.length_append] at c
    refine Is.dt (by omega) (Is.bnq (aX (by omega)) (Is.bnq (qq (by omega)) (Is.add1 (by omega) (Is.next ⟨rfl,?_⟩))))
    rw [a]
  · rintro ⟨s,_⟩ ⟨rfl,e⟩
    obtain rfl:s=_:=e
    rw [hb,List.length_drop,List.take_of_length_le (by rw [List.length_drop]; omega)]
    exact Is.df (by omega) (Is.stop rfl)
theorem xN {l:List T_Token} (hl:l.length≤1000000) (ht:(tx l).length≤1000000):M.j8 l=some (tx l):=by
  refine Is.eq ?_
  unfold M.j8
  exact Is.bnq (pe (i:=0) (Nat.zero_le _) hl ht fun _ _=>rfl) (Is.pure rfl)
theorem sC {l:List T_Token} (hl:l.length≤1000000) (ht:(tx l).length≤1000000):M.i9 l=some (tx l):=by
  refine Is.eq ?_
  unfold M.i9
  exact Is.bnq (pe (i:=0) (Nat.zero_le _) hl ht fun _ _=>rfl) (Is.pure rfl)
def dm (s:Str):Str:=s.takeWhile (· != 10)
theorem yt (s:Str):(dm s).length≤s.length:=by
  induction s with
  | nil=>exact Nat.le_refl _
  | cons a s ih=>
    unfold dm at ih ⊢
    rw [List.takeWhile_cons]
    split
    · simp only [List.length_cons]; omega
    · simp
theorem yu {s:Str} {n:Nat} (hn:s[n]?=some 10) (hk:∀k,k<n→s[k]?≠some 10):s.take n=dm s:=by
  induction s generalizing n with
  | nil=>simp at hn
  | cons a s ih=>
    cases n with
    | zero=>
      simp only [List.getElem?_cons_zero,Option.some.injEq] at hn
      simp [dm,hn]
    | succ n=>
      have b:a≠10:=fun e=>hk 0 (by omega) (by rw [e]; rfl)
      have:=ih (n:=n) (by simpa using hn) fun k hkn=>by have:=hk (k+1) (by omega); simpa using this
      unfold dm at this ⊢
      rw [List.take_succ_cons,this,List.takeWhile_cons,if_pos (by simpa using b)]
theorem uX {s:Str} (hk:∀k:Nat,s[k]?≠some 10):dm s=s:=by
  induction s with
  | nil=>rfl
  | cons a s ih=>
    have h0:a≠10:=fun e=>hk 0 (by rw [e]; rfl)
    have:=ih fun k=>by have:=hk (k+1); simpa using this
    unfold dm at this ⊢
    rw [List.takeWhile_cons,if_pos (by simpa using h0),this]
theorem As {s:Str} (hs:s.length≤1000000):Is (M.h5 s [10]) (fun r=>r.1=dm s):=by
  unfold M.h5
  refine Is.bnd (P:=fun r:Str×Str×Bool=>r.1=dm s) ?_ fun r hr=>Is.pure hr
  unfold M.c4
  refine Is.bnq (x:=Lib.indexByte s 10) rfl (Is.dcd (fun h=>?_) (fun h=>Is.pure ?_))
  · obtain ⟨n,hn⟩:=Int.eq_ofNat_of_zero_le h
    obtain ⟨a,c⟩:=Lib.indexByte_some hn
    have hlt:=(List.getElem?_eq_some_iff.1 a).1
    rw [hn]
    refine Is.bnq (jC (i:=0) (j:=n) (by omega) (by omega)) (Is.add1 (i:=n) (by omega) (Is.bnq (jC (i:=n+1) (j:=s.length) (by omega) (by omega)) (Is.pure ?_)))
    rw [List.drop_zero]
    exact yu a c
  · have:=Lib.indexByte_ge s 10
    have b:Lib.indexByte s 10=-1:=by omega
    exact (uX (Lib.indexByte_none b)).symm
end Go.Proofs.YtlcdifnmkafcfaaGreat
set_option linter.unusedVariables false
namespace Go.Proofs.YtlcdifnmkafcfaaGreat
open Go.Lx
open Classical
def en:List T_Token→Nat→Nat→Nat
  | [],_,_=>0
  | t::l,m,a=>if a+t.Text.length=m then 1 else match en l m (a+t.Text.length) with
    | 0=>0
    | k+1=>k+2
theorem uk:∀(l:List T_Token) (m a:Nat),en l m a≤l.length
  | [],_,_=>Nat.le_refl _
  | t::l,m,a=>by
    have:=uk l m (a+t.Text.length)
    unfold en
    split
    · simp
    · split <;> simp only [List.length_cons] <;> omega
theorem ql {t:T_Token} {l:List T_Token} {m a:Nat} (h:a+t.Text.length≠m):en (t::l) m a=if en l m (a+t.Text.length)=0 then 0 else en l m (a+t.Text.length)+1:=by
  rw [en,if_neg h]
  split
  · rename_i h0; rw [h0]; rfl
  · rename_i k hk; rw [hk,if_neg (by omega)]
theorem ot {t:T_Token} {l:List T_Token} {m a:Nat} (h:a+t.Text.length=m):en (t::l) m a=1:=by rw [en,if_pos h]
theorem wE {ρ:Type} {l:List T_Token} {i m:Nat} (hi:i≤l.length) (hl:l.length≤1000000) (ht:(tx l).length≤1000000) {X:Nat→ρ} {Y:cC Unit ρ} {body:Int×Int→Option (cC (Int×Int) (cC Unit ρ))}
    (hb:∀(a k:Nat) (hk:k<l.length),i≤k→a≤1000000→body ((a:Int),(k:Int))=bif ((a+l[k].Text.length:Nat):Int) == (m:Int) then some (.stop (.stop (X (k+1 - i)))) else some (.next (((a+l[k].Text.length:Nat):Int),((k+1:Nat):Int))))
    (he:∀a:Int,body (a,(l.length:Int))=some (.stop Y)) :
    aU body aS ((0:Int),(i:Int))=some (if en (l.drop i) m 0=0 then Y else .stop (X (en (l.drop i) m 0))):=by
  refine Is.eq ?_
  refine Is.upto (fun j (st:Int×Int)=>st.2=((i+j:Nat):Int)∧st.1=((tx ((l.drop i).take j)).length:Int)∧
      en (l.drop i) m 0=if en (l.drop (i+j)) m (tx ((l.drop i).take j)).length=0 then 0 else en (l.drop (i+j)) m (tx ((l.drop i).take j)).length+j) (l.drop i).length (by rw [List.length_drop]; omega) ⟨rfl,rfl,?_⟩ ?_ ?_
  · show en (l.drop i) m 0=if en (l.drop (i+0)) m 0=0 then 0 else en (l.drop (i+0)) m 0+0
    rw [Nat.add_zero]
    split <;> omega
  · rintro j ⟨a,_⟩ hj ⟨rfl,e,hen⟩
    obtain rfl:a=_:=e
    rw [List.length_drop] at hj
    have hlt:i+j<l.length:=by omega
    have g:=kl (l.drop i) j
    have c:=pI (l:=l.drop i) (i:=j) (by rw [List.length_drop]; exact hj)
    have f:(l.drop i)[j]'(by rw [List.length_drop]; exact hj)=l[i+j]:=List.getElem_drop ..
    rw [f] at c
    have hle:(tx (l.drop i)).length≤(tx l).length:=by
      have:tx l=tx (l.take i)++tx (l.drop i):=by rw [←gv,List.take_append_drop]
      rw [this,List.length_append]; omega
    have b:(tx ((l.drop i).take (j+1))).length=(tx ((l.drop i).take j)).length+l[i+j].Text.length:=by rw [c,List.length_append]
    rw [hb _ _ hlt (by omega) (by omega)]
    rw [List.drop_eq_getElem_cons hlt] at hen
    refine Is.cnd (fun hc=>Is.stop ?_) (fun hc=>Is.next ⟨rfl,by rw [b],?_⟩)
    · have:=cF hc
      rw [ot (by omega),if_neg (by decide)] at hen
      rw [hen,if_neg (by omega),show i+j+1 - i=1+j by omega]
    · have:=dX hc
      rw [ql (by omega)] at hen
      rw [b,hen]
      generalize en (l.drop (i+j+1)) m _=z
      by_cases d:z=0
      · simp [d]
      · simp only [d,if_false]
        rw [if_neg (by omega)]; omega
  · rintro ⟨a,_⟩ ⟨rfl,e,hen⟩
    obtain rfl:a=_:=e
    rw [List.length_drop] at hen ⊢
    rw [show i+(l.length - i)=l.length by omega] at hen ⊢
    rw [List.drop_length,en,if_pos rfl] at hen
    rw [he,hen,if_pos rfl]
    exact Is.stop rfl
def TB (t:T_Token):Prop:=(0≤t.At∧t.At≤1000000)∧(0≤t.Look∧t.Look≤1000000)
def uW (t:T_Token) (a:Int) (y:T_Token):Int:=nY a (y.At+y.Look - t.At)
def lk (t:T_Token) (l:List T_Token):Int:=l.foldl (uW t) 0
theorem qg {t:T_Token} (h:TB t):uW t 0 t=t.Look∧uW t t.Look t=t.Look:=by
  have:=h.2.1
  unfold uW nY
  constructor <;> split <;> omega
theorem rt {t:T_Token} (ht:TB t):∀(l:List T_Token) (a:Int),(∀y∈l,TB y)→0≤a∧a≤3000000→0≤l.foldl (uW t) a∧l.foldl (uW t) a≤3000000
  | [],a,_,h=>h
  | y::l,a,hl,h=>by
    refine rt ht l _ (fun z hz=>hl z (by simp [hz])) ?_
    have h1:=hl y (by simp)
    have h2:=h1.1; have h3:=h1.2; have h4:=ht.1
    unfold uW nY
    split <;> omega
variable (x:T_LexSpec)
noncomputable def nx (t:T_Token) (l:List T_Token):Str×Int×Nat:=
  if t.Kind=-1∧0<en (t::l) (dm (tx (t::l))).length 0∧mT x (dm (tx (t::l)))=true then (dm (tx (t::l)),lk t ((t::l).take (en (t::l) (dm (tx (t::l))).length 0)),en (t::l) (dm (tx (t::l))).length 0) else (t.Text,t.Look,1)
theorem nU (t:T_Token) (l:List T_Token):1≤(nx x t l).2.2∧(nx x t l).2.2≤l.length+1:=by
  unfold nx
  split
  · rename_i h
    have:=uk (t::l) (dm (tx (t::l))).length 0
    exact ⟨h.2.1,by simpa using this⟩
  · exact ⟨Nat.le_refl _,by show 1≤_; omega⟩
noncomputable def mg:Nat→List T_Token→List T_Token
  | 0,_=>[]
  | _+1,[]=>[]
  | n+1,t::l=>⟨t.Kind,t.At,(nx x t l).1,(nx x t l).2.1⟩::mg n ((t::l).drop (nx x t l).2.2)
theorem ud:∀(n m:Nat) (l:List T_Token),l.length≤n→l.length≤m→mg x n l=mg x m l
  | 0,0,l,_,_=>rfl
  | 0,m+1,l,hn,_=>by
    obtain rfl:=List.eq_nil_of_length_eq_zero (Nat.le_zero.1 hn)
    rfl
  | n+1,0,l,_,hm=>by
    obtain rfl:=List.eq_nil_of_length_eq_zero (Nat.le_zero.1 hm)
    rfl
  | n+1,m+1,[],_,_=>rfl
  | n+1,m+1,t::l,hn,hm=>by
    have:=nU x t l
    simp only [List.length_cons] at hn hm
    rw [mg,mg,ud n m ((t::l).drop (nx x t l).2.2) (by rw [List.length_drop,List.length_cons]; omega) (by rw [List.length_drop,List.length_cons]; omega)]
noncomputable def im (l:List T_Token):List T_Token:=mg x l.length l
theorem ep (t:T_Token) (l:List T_Token):im x (t::l)=⟨t.Kind,t.At,(nx x t l).1,(nx x t l).2.1⟩::im x ((t::l).drop (nx x t l).2.2):=by
  have:=nU x t l
  unfold im
  rw [List.length_cons,mg]
  congr 1
  exact ud x _ _ _ (by rw [List.length_drop,List.length_cons]; omega) (Nat.le_refl _)
theorem yj:im x []=[]:=rfl
variable {x}
theorem xW {l:List T_Token} (hl:l.length≤20) (ht:(tx l).length≤20):M.g1 l=some (dm (tx l),(en l (dm (tx l)).length 0:Int)):=by
  refine Is.eq ?_
  unfold M.g1
  refine Is.bnq (xN (by omega) (by omega)) (Is.bnd (As (by omega)) ?_)
  rintro ⟨s,r⟩ e
  obtain rfl:s=_:=e
  refine Is.bs (P:=fun _=>en l (dm (tx l)).length 0=0) (Q:=fun r=>r=(dm (tx l),(en l (dm (tx l)).length 0:Int))) ?_ (fun _ e=>Is.pure (by rw [e]; rfl))
  refine Is.of (wE (l:=l) (i:=0) (m:=(dm (tx l)).length) (X:=fun k=>(dm (tx l),(k:Int))) (Y:=.next ()) (Nat.zero_le _) (by omega) (by omega) ?_ ?_) ?_
  · intro a k hk _ ha
    have:=kl l (k+1)
    rw [pI hk,List.length_append] at this
    refine fp (dK (by omega)) (aL (aX hk) (aL (x:=((a+l[k].Text.length:Nat):Int)) (cG (by omega) (by omega)) ?_))
    cases hc:((a+l[k].Text.length:Nat):Int) == ((dm (tx l)).length:Int)
    · exact dD rfl (aL (aQ (by omega)) rfl)
    · exact fp rfl (aL (aQ (by omega)) rfl)
  · exact fun a=>dD (dM (by omega)) rfl
  · rw [List.drop_zero]
    split
    · rename_i e; exact e
    · rfl
theorem yq {t:T_Token} {l:List T_Token} (hlen:l.length≤1000000) {b:Int} {ρ:Type} {X:Int→ρ} {i:Nat} {body:Int×Int→Option (cC (Int×Int) ρ)}
    (hb:∀(a:Int) (j:Nat) (hj:j<l.length),body (a,((i+j:Nat):Int))=some (.next (uW t a l[j],((i+j+1:Nat):Int))))
    (he:∀a:Int,body (a,((i+l.length:Nat):Int))=some (.stop (X a))):aU body aS (b,(i:Int))=some (X (l.foldl (uW t) b)):=by
  refine Is.eq ?_
  refine Is.upto (fun j (st:Int×Int)=>st.2=((i+j:Nat):Int)∧st.1=(l.take j).foldl (uW t) b) l.length (by omega) ⟨rfl,rfl⟩ ?_ ?_
  · rintro j ⟨a,_⟩ hj ⟨rfl,e⟩
    obtain rfl:a=_:=e
    rw [hb _ _ hj]
    refine Is.next ⟨rfl,?_⟩
    rw [List.take_succ_eq_append_getElem hj,List.foldl_append]; rfl
  · rintro ⟨a,_⟩ ⟨rfl,e⟩
    obtain rfl:a=_:=e
    rw [he,List.take_length]
    exact Is.stop rfl
theorem zX {t y:T_Token} (ht:TB t) (hy:TB y) {α:Type} {f:Int→Option α}:((bR .i64 (y.At+y.Look)).bind fun p=>(bR .i64 (p - t.At)).bind fun q=>f q)=f (y.At+y.Look - t.At):=by
  have h1:=hy.1; have h2:=hy.2; have h3:=ht.1
  rw [cG (by omega) (by omega),Option.bind_some,cG (by omega) (by omega),Option.bind_some]
theorem vi {t:T_Token} (ht:TB t) {l:List T_Token} {k:Nat} (hk:1≤k):((t::l).take k).foldl (uW t) t.Look=lk t ((t::l).take k):=by
  obtain ⟨k,rfl⟩:∃j,k=j+1:=⟨k - 1,by omega⟩
  unfold lk
  rw [List.take_succ_cons,List.foldl_cons,List.foldl_cons,(qg ht).1,(qg ht).2]
theorem su (l:List T_Token) (i:Nat):(tx (l.drop i)).length≤(tx l).length:=by
  have:tx l=tx (l.take i)++tx (l.drop i):=by rw [←gv,List.take_append_drop]
  rw [this,List.length_append]; omega
section
variable (h:SpecOk x)
include h
theorem rn {l:List T_Token} (hl:l.length≤20) (ht:(tx l).length≤20) (hb:∀t∈l,TB t):M.c9 x l=some (im x l):=by
  refine Is.eq ?_
  unfold M.c9
  refine Is.bnd (P:=fun r=>r=im x l) ?_ fun r hr=>Is.pure hr
  refine Is.while (fun st:List T_Token×List T_Token=>∃i:Nat,st.1=l.drop i∧i≤l.length∧st.2++im x st.1=im x l∧st.2.length≤i) (fun st=>st.1.length) ⟨0,rfl,Nat.zero_le _,rfl,Nat.le_refl _⟩ (by simp only; omega) ?_
  rintro ⟨g,out⟩ ⟨i,e,hi,hm,ho⟩
  simp only at e hm ho
  cases g with
  | nil=>
    rw [yj,List.append_nil] at hm
    exact Is.df (by simp) (Is.stop hm)
  | cons t c=>
    have hlen:(t::c).length+i=l.length:=by rw [e,List.length_drop]; omega
    have n:(t::c).length=c.length+1:=rfl
    have htx:(tx (t::c)).length≤20:=by rw [e]; exact Nat.le_trans (su l i) ht
    have hB:∀y∈t::c,TB y:=fun y hy=>hb y (by rw [e] at hy; exact List.mem_of_mem_drop hy)
    have htB:=hB t (by simp)
    have hll:=yt (tx (t::c))
    have hnx:=nU x t c
    refine Is.dt (by omega) (Is.bnq (x:=t) (aX (l:=t::c) (i:=0) (by omega)) ?_)
    refine Is.bnd (P:=fun v:Str×Int×Int=>v=((nx x t c).1,(nx x t c).2.1,((nx x t c).2.2:Int))) ?_ ?_
    · refine Is.cnd (fun hk=>?_) (fun hk=>Is.pure ?_)
      · refine Is.bnq (xW (l:=t::c) (by omega) htx) ?_
        refine Is.bnd (P:=fun b:Bool=>b=true↔(0<en (t::c) (dm (tx (t::c))).length 0∧mT x (dm (tx (t::c)))=true)) ?_ fun b f=>?_
        · refine Is.dcd (fun d=>Is.bnq (AB h (by simp only; omega)) (Is.pure ⟨fun e=>⟨by simp only at d; omega,e⟩,fun e=>e.2⟩)) (fun d=>Is.pure ⟨(fun e=>by cases e),fun e=>absurd e.1 (by simp only at d; omega)⟩)
        · refine Is.cnd (fun hc=>?_) (fun hc=>Is.pure ?_)
          · have hcc:=f.1 hc
            have hle:=uk (t::c) (dm (tx (t::c))).length 0
            have hnxe:nx x t c=(dm (tx (t::c)),lk t ((t::c).take (en (t::c) (dm (tx (t::c))).length 0)),en (t::c) (dm (tx (t::c))).length 0):=by
              unfold nx
              rw [if_pos ⟨cF hk,hcc⟩]
            refine Is.bnq (jC (i:=0) (Nat.zero_le _) hle) ?_
            rw [List.drop_zero]
            refine Is.of (yq (t:=t) (l:=(t::c).take (en (t::c) (dm (tx (t::c))).length 0)) (i:=0) (X:=fun a=>(dm (tx (t::c)),a,(en (t::c) (dm (tx (t::c))).length 0:Int))) (by rw [List.length_take]; omega) ?_ ?_) ?_
            · intro a j hj
              have hjm:((t::c).take (en (t::c) (dm (tx (t::c))).length 0))[j]∈t::c:=List.mem_of_mem_take (List.getElem_mem hj)
              have o:j<1000000:=by rw [List.length_take] at hj; omega
              rw [Nat.zero_add]
              refine fp (dK (by omega)) (aL (aX hj) ((zX htB (hB _ hjm)).trans (aL (aQ (by omega)) rfl)))
            · intro a
              rw [Nat.zero_add]
              exact dD (dM (by omega)) rfl
            · show _=_
              rw [hnxe,vi htB hcc.1]
          · have:nx x t c=(t.Text,t.Look,1):=by
              unfold nx
              rw [if_neg]
              rintro ⟨_,k⟩
              rw [f.2 k] at hc; cases hc
            rw [this]; rfl
      · have:nx x t c=(t.Text,t.Look,1):=by
          unfold nx
          rw [if_neg]
          rintro ⟨m,_⟩
          exact dX hk m
        rw [this]; rfl
    · rintro _ rfl
      refine Is.app1 (by omega) (Is.bnq (jC (by omega) (Nat.le_refl _)) (Is.next ⟨⟨i+(nx x t c).2.2,?_,by omega,?_,by simp only [List.length_append,List.length_singleton]; omega⟩,?_⟩))
      · rw [List.take_length,e,List.drop_drop]
      · rw [List.take_length,←hm,ep,List.append_assoc]; rfl
      · rw [List.take_length]
        show ((t::c).drop _).length<(t::c).length
        rw [List.length_drop]; omega
end
end Go.Proofs.YtlcdifnmkafcfaaGreat
namespace Go.Proofs.YtlcdifnmkafcfaaGreat
open Go.Lx
set_option maxRecDepth 100000 in
theorem oA:M.i3=some true:=by decide +kernel
end Go.Proofs.YtlcdifnmkafcfaaGreat
set_option linter.unusedVariables false
namespace Go.Proofs.YtlcdifnmkafcfaaGreat
open Go.Lx
open Classical
theorem sE {l:List T_Token} (hl:l.length≤1000000):M.j0 l l=some true:=by
  refine Is.eq ?_
  unfold M.j0
  refine Is.cf (mz rfl) (Is.bs (P:=fun _=>True) (Is.upto (fun i st=>st=(i:Int)) l.length (by omega) rfl ?_ ?_) (fun _ _=>Is.pure rfl))
  · rintro i _ hi rfl
    exact Is.dt (by omega) (Is.bnq (aX hi) (Is.bnq (aX hi) (Is.bnq (x:=false) (by simp) (Is.cf rfl (Is.add1 (by omega) (Is.next rfl))))))
  · rintro _ rfl
    exact Is.df (by omega) (Is.stop trivial)
def zf (l:List T_Token):Prop:=(∀t∈l,(0≤t.At∧t.At≤10000)∧(0≤t.Look∧t.Look≤10000))∧∀i (h:i+1<l.length),l[i+1].At=l[i].At+(l[i].Text.length:Int)
theorem qQ {l:List T_Token} (hl:l.length≤9223372036854775807) (ht:∀t∈l,t.Text.length≤4611686018427387904):Is (M.f2 l) (fun b=>b=true↔zf l):=by
  unfold M.f2
  refine Is.bs (P:=fun _=>zf l) (Q:=fun b:Bool=>b=true↔zf l) (Is.upto (fun i st=>st=(i:Int)∧(∀t∈l.take i,(0≤t.At∧t.At≤10000)∧(0≤t.Look∧t.Look≤10000))∧∀j (h:j+1<l.length),j+1<i→l[j+1].At=l[j].At+(l[j].Text.length:Int)) l.length hl ⟨rfl,by simp,fun j _ hj=>by omega⟩ ?_ ?_) (fun _ h=>Is.pure ⟨fun _=>h,fun _=>rfl⟩)
  · rintro i _ hi ⟨rfl,g1,c⟩
    refine Is.dt (by omega) (Is.bnd (P:=fun b:Bool=>b=false↔((0≤l[i].At∧l[i].At≤10000)∧(0≤l[i].Look∧l[i].Look≤10000))∧∀j (h:j+1<l.length),j+1=i→l[j+1].At=l[j].At+(l[j].Text.length:Int)) ?_ fun b hb=>Is.cnd (fun e=>Is.stop ⟨(fun e=>by cases e),fun hs=>?_⟩) (fun e=>Is.bnq (aQ (by omega)) (Is.next ⟨rfl,fun t hm=>?_,fun j hj d=>?_⟩)))
    · refine Is.bnq (aX hi) (Is.dcd (fun a=>Is.pure ⟨(fun e=>by cases e),fun h=>by omega⟩) (fun a=>Is.dcd (fun m=>Is.pure ⟨(fun e=>by cases e),fun h=>by omega⟩) (fun m=>Is.dcd (fun k=>Is.pure ⟨(fun e=>by cases e),fun h=>by omega⟩) (fun k=>Is.dcd (fun g=>Is.pure ⟨(fun e=>by cases e),fun h=>by omega⟩) (fun g=>Is.dcd (fun f=>?_) (fun f=>Is.pure ⟨fun _=>⟨⟨⟨by omega,by omega⟩,by omega,by omega⟩,fun j _ hj=>by omega⟩,fun _=>rfl⟩))))))
      obtain ⟨j,rfl⟩:∃j,i=j+1:=⟨i - 1,by omega⟩
      have hj:j<l.length:=by omega
      have hp:=g1 l[j] (List.mem_take_iff_getElem.2 ⟨j,by omega,rfl⟩)
      have htl:=ht _ (List.getElem_mem hj)
      refine Is.bnq (x:=(j:Int)) (by rw [cG (by omega) (by omega)]; congr 1; omega) (Is.bnq (aX hj) (Is.bnq (cG (by omega) (by omega)) (Is.pure ?_)))
      constructor
      · intro e
        exact ⟨⟨⟨by omega,by omega⟩,by omega,by omega⟩,fun q hq n=>by obtain rfl:q=j:=(by omega); exact fm e⟩
      · intro h
        exact mz (h.2 j hi rfl)
    · exfalso
      have:b=false:=hb.2 ⟨hs.1 _ (List.getElem_mem hi),fun j h _=>hs.2 j h⟩
      rw [this] at e; cases e
    · rw [List.take_succ_eq_append_getElem hi,List.mem_append] at hm
      rcases hm with hm|hm
      · exact g1 t hm
      · rw [List.mem_singleton.1 hm]; exact (hb.1 e).1
    · rcases Nat.lt_or_eq_of_le (Nat.le_of_lt_succ d) with a|a
      · exact c j hj a
      · exact (hb.1 e).2 j hj a
  · rintro _ ⟨rfl,g1,c⟩
    rw [List.take_length] at g1
    exact Is.df (by omega) (Is.stop ⟨g1,fun i h=>c i h h⟩)
theorem vA {l:List T_Token} {t:T_Token} (h:t∈l):t.Text.length≤(tx l).length:=by
  obtain ⟨a,b,rfl⟩:=List.append_of_mem h
  rw [gv,ew,List.length_append,List.length_append]; omega
end Go.Proofs.YtlcdifnmkafcfaaGreat
namespace Go.Lx
def eL (a b:Str):Nat→Nat→Nat
  | 0,j=>j
  | i+1,0=>i+1
  | 1,j+1=>min (min (eL a b 0 (j+1)+1) (eL a b 1 j+1)) (eL a b 0 j+(if a.getD 0 0=b.getD j 0 then 0 else 1))
  | i+2,1=>min (min (eL a b (i+1) 1+1) (eL a b (i+2) 0+1)) (eL a b (i+1) 0+(if a.getD (i+1) 0=b.getD 0 0 then 0 else 1))
  | i+2,j+2=>if a.getD (i+1) 0=b.getD j 0∧a.getD i 0=b.getD (j+1) 0
      then min (min (min (eL a b (i+1) (j+2)+1) (eL a b (i+2) (j+1)+1)) (eL a b (i+1) (j+1)+(if a.getD (i+1) 0=b.getD (j+1) 0 then 0 else 1))) (eL a b i j+1)
      else min (min (eL a b (i+1) (j+2)+1) (eL a b (i+2) (j+1)+1)) (eL a b (i+1) (j+1)+(if a.getD (i+1) 0=b.getD (j+1) 0 then 0 else 1))
termination_by i j=>i+j
def wL (a b:Str) (i j:Nat):Nat:=if a.getD i 0=b.getD j 0 then 0 else 1
def jQ (a b:Str) (i j:Nat):Prop:=a.getD (i+1) 0=b.getD j 0∧a.getD i 0=b.getD (j+1) 0
theorem tq {a b:Str} {i j:Nat}:wL a b i j≤1:=by unfold wL; split <;> omega
theorem vY {a b:Str} {j:Nat}:eL a b 0 j=j:=by rw [eL]
theorem sS {a b:Str} {i:Nat}:eL a b i 0=i:=by cases i <;> rw [eL]
def fC (a b:Str) (i j:Nat):Nat:=min (min (eL a b i (j+1)+1) (eL a b (i+1) j+1)) (eL a b i j+wL a b i j)
theorem vX {a b:Str} {j:Nat}:eL a b 1 (j+1)=fC a b 0 j:=by rw [eL]; rfl
theorem sR {a b:Str} {i:Nat}:eL a b (i+1) 1=fC a b i 0:=by cases i <;> (rw [eL]; rfl)
theorem vW {a b:Str} {i j:Nat} (h:jQ a b i j):eL a b (i+2) (j+2)=min (fC a b (i+1) (j+1)) (eL a b i j+1):=by rw [eL]; exact if_pos h
theorem rg {a b:Str} {i j:Nat} (h:¬ jQ a b i j):eL a b (i+2) (j+2)=fC a b (i+1) (j+1):=by rw [eL]; exact if_neg h
theorem uO (a b:Str) (i j:Nat):eL a b (i+1) (j+1)=fC a b i j∨∃i' j',i=i'+1∧j=j'+1∧jQ a b i' j'∧eL a b (i+1) (j+1)=min (fC a b i j) (eL a b i' j'+1):=by
  cases i with
  | zero=>exact .inl vX
  | succ i=>
    cases j with
    | zero=>exact .inl sR
    | succ j=>
      by_cases h:jQ a b i j
      · exact .inr ⟨i,j,rfl,rfl,h,vW h⟩
      · exact .inl (rg h)
theorem CH {P:Nat→Nat→Prop} (h:∀i j,(∀i' j',i'+j'<i+j→P i' j')→P i j):∀i j,P i j:=by
  have gN:∀n i j,i+j≤n→P i j:=by
    intro n
    induction n with
    | zero=>intro i j hn; exact h i j fun i' j' h'=>by omega
    | succ n ih=>intro i j hn; exact h i j fun i' j' h'=>ih i' j' (by omega)
  exact fun i j=>gN (i+j) i j (Nat.le_refl _)
theorem nS (a b:Str):∀i j,i≤eL a b i j+j∧j≤eL a b i j+i∧eL a b i j≤max i j:=by
  refine CH fun i j ih=>?_
  cases i with
  | zero=>rw [vY]; omega
  | succ i=>
    cases j with
    | zero=>rw [sS]; omega
    | succ j=>
      have f:=ih i (j+1) (by omega)
      have e:=ih (i+1) j (by omega)
      have d:=ih i j (by omega)
      have hc:=tq (a:=a) (b:=b) (i:=i) (j:=j)
      rcases uO a b i j with h|⟨i',j',rfl,rfl,_,h⟩
      · rw [h]; unfold fC; omega
      · have c:=ih i' j' (by omega)
        rw [h]; unfold fC; omega
end Go.Lx
namespace Go.Proofs.YtlcdifnmkafcfaaGreat.Os
open Go.Lx
theorem fS {i:Nat} (h:i≤9223372036854775807):bR .i64 (((i+1:Nat):Int) - 1)=some (i:Int):=by rw [cG (by omega) (by omega)]; congr 1; omega
theorem fc {i:Nat} (h:i≤9223372036854775807):bR .i64 (((i+1+1:Nat):Int) - 2)=some (i:Int):=by rw [cG (by omega) (by omega)]; congr 1; omega
theorem fx {s:Str} {p:Nat} (h:p<s.length):ee s (p:Int)=some ((s.getD p 0).toNat:Int):=by
  rw [dq h,List.getD_eq_getElem?_getD,List.getElem?_eq_getElem h]; rfl
theorem AY {a b:UInt8}:(((a.toNat:Int)) != (b.toNat:Int))=!decide (a=b):=by
  by_cases h:a=b
  · subst h; simp
  · have:a.toNat≠b.toNat:=fun e=>h (UInt8.toNat_inj.1 e)
    rw [go (by omega),decide_eq_false h]; rfl
theorem qM {a b:UInt8}:(((a.toNat:Int)) == (b.toNat:Int))=decide (a=b):=by
  by_cases h:a=b
  · subst h; simp
  · have:a.toNat≠b.toNat:=fun e=>h (UInt8.toNat_inj.1 e)
    rw [bI (by omega),decide_eq_false h]
def pc (a b:Str) (i k:Nat) (l:List Int):Prop:=l.length=b.length+1∧∀q,q<k→l.getD q 0=(eL a b i q:Int)
theorem pc.idx {a b:Str} {i k:Nat} {l:List Int} (h:pc a b i k l) {q:Nat} (hq:q<k) (hb:q≤b.length):bm l (q:Int)=some (eL a b i q:Int):=by
  rw [og (d:=0) (by omega) (by rw [h.1]; omega),Int.toNat_natCast,h.2 q hq]
theorem pc.put {a b:Str} {i k:Nat} {l:List Int} (h:pc a b i k l) (hk:k≤b.length):cJ l (k:Int) (eL a b i k:Int)=some (l.set k (eL a b i k:Int))∧pc a b i (k+1) (l.set k (eL a b i k:Int)):=by
  refine ⟨cT (by rw [h.1]; omega),by rw [List.length_set]; exact h.1,fun q hq=>?_⟩
  rw [List.getD_eq_getElem?_getD,List.getElem?_set]
  split
  · rename_i e
    subst e
    rw [if_pos (by rw [h.1]; omega)]; rfl
  · have:=h.2 q (by omega)
    rw [List.getD_eq_getElem?_getD] at this
    exact this
theorem lm {a b:Nat}:oX (a:Int) (b:Int)=((min a b:Nat):Int):=by unfold oX; split <;> omega
theorem rm {a b c:Nat}:qd (a:Int) (b:Int) (c:Int)=((min (min a b) c:Nat):Int):=by unfold qd; rw [lm,lm]
theorem dist_ok {a b:Str} (ha:a.length≤1000) (hb:b.length≤1000):M.a8 a b=some (eL a b a.length b.length:Int):=by
  have hbd:∀i j,i≤1001→j≤1001→eL a b i j≤1001:=fun i j hi hj=>by have:=(nS a b i j).2.2; omega
  refine Is.eq ?_
  unfold M.a8
  refine Is.bnq (x:=List.replicate (b.length+1) (0:Int)) (aL (aQ (by omega)) (aL (dT (by omega)) rfl)) ?_
  refine Is.bnd (P:=pc a b 0 (b.length+1)) ?_ fun v t=>?_
  · refine Is.upto (fun i (st:List Int×Int)=>st.2=(i:Int)∧pc a b 0 i st.1) (b.length+1) (by omega) ⟨rfl,by simp,fun q hq=>by omega⟩ ?_ ?_
    · rintro i ⟨l,_⟩ hi ⟨rfl,h⟩
      have hp:=h.put (by omega)
      rw [vY] at hp
      exact Is.dt (by simp only [List.length_replicate]; omega) (Is.bnq hp.1 (Is.bnq (aQ (by omega)) (Is.next ⟨rfl,hp.2⟩)))
    · rintro ⟨l,_⟩ ⟨rfl,h⟩
      exact Is.df (by simp only [List.length_replicate]; omega) (Is.stop h)
  refine Is.bnd (P:=pc a b a.length (b.length+1)) ?_ fun l h=>Is.bnq (h.idx (by omega) (by omega)) (Is.pure rfl)
  refine Is.upto (fun i (st:List Int×List Int×List Int×Int)=>st.2.2.2=((i+1:Nat):Int)∧st.1.length=b.length+1∧(∀i',i=i'+1→pc a b i' (b.length+1) st.2.1)∧st.2.1.length=b.length+1∧pc a b i (b.length+1) st.2.2.1) a.length (by omega)
    ⟨rfl,by simp,fun _ h=>by omega,by simp,t⟩ ?_ ?_
  · rintro i ⟨p,s,r,_⟩ hi ⟨rfl,g,f,h33l,d⟩
    simp only at g f d h33l
    refine Is.dt (by omega) ?_
    have o:=pc.put (a:=a) (b:=b) (i:=i+1) (k:=0) (l:=p) ⟨g,fun q hq=>by omega⟩ (by omega)
    rw [sS] at o
    refine Is.bnd (P:=pc a b (i+1) (b.length+1)) (Is.bnq o.1 ?_) fun y hy=>Is.bnq (aQ (by omega)) (Is.next ⟨rfl,h33l,fun i' e=>(show i=i' by omega) ▸ d,d.1,hy⟩)
    refine Is.upto (fun j (st:List Int×Int)=>st.2=((j+1:Nat):Int)∧pc a b (i+1) (j+1) st.1) b.length (by omega) ⟨rfl,o.2⟩ ?_ ?_
    · rintro j ⟨y,_⟩ hj ⟨rfl,hy⟩
      refine Is.dt (by omega) ?_
      have F:=hbd i j (by omega) (by omega)
      have D:=hbd i (j+1) (by omega) (by omega)
      have B:=hbd (i+1) j (by omega) (by omega)
      have hcs:=tq (a:=a) (b:=b) (i:=i) (j:=j)
      refine Is.bnd (P:=pc a b (i+1) (j+2)) ?_ fun y' hy'=>Is.bnq (aQ (by omega)) (Is.next ⟨rfl,hy'⟩)
      refine Is.bnq (fS (by omega)) (Is.bnq (d.idx (by omega) (by omega)) ?_)
      refine Is.bnq (x:=((eL a b i j+wL a b i j:Nat):Int)) ?_ ?_
      · refine aL (fS (by omega)) (aL (fx hi) (aL (fx hj) ?_))
        rw [AY]
        unfold wL
        by_cases hc:a.getD i 0=b.getD j 0
        · rw [if_pos hc,decide_eq_true hc]; rfl
        · rw [if_neg hc,decide_eq_false hc]
          exact aL (aQ (by omega)) rfl
      refine Is.bnq (d.idx (by omega) (by omega)) (Is.bnq (aQ (by omega)) (Is.bnq (hy.idx (by omega) (by omega)) (Is.bnq (aQ (by omega)) ?_)))
      have u:qd (((eL a b i j+wL a b i j:Nat):Int)) ((eL a b i (j+1)+1:Nat):Int) ((eL a b (i+1) j+1:Nat):Int)=(fC a b i j:Int):=by
        rw [rm]; unfold fC; omega
      rw [u]
      have A:fC a b i j≤1002:=by unfold fC; omega
      have hyl:j+1<y.length:=by rw [hy.1]; omega
      refine Is.bnq (cT hyl) ?_
      have hyy:∀z:Nat,eL a b (i+1) (j+1)=z→pc a b (i+1) (j+2) (y.set (j+1) (z:Int)):=by
        intro z hz
        have:=(hy.put (k:=j+1) (by omega)).2
        rw [hz] at this
        exact this
      have hfst:∀z:Int,bm (y.set (j+1) z) ((j+1:Nat):Int)=some z:=by
        intro z
        rw [aX (by rw [List.length_set]; exact hyl),List.getElem_set_self]
      refine Is.bnd (P:=fun c:Bool=>(c=true→∃i' j',i=i'+1∧j=j'+1∧jQ a b i' j')∧(c=false→eL a b (i+1) (j+1)=fC a b i j)) ?_ fun c hc=>?_
      · cases i with
        | zero=>exact Is.df (by omega) (Is.pure ⟨fun h=>(by cases h),fun _=>vX⟩)
        | succ i=>
          refine Is.dt (by omega) ?_
          cases j with
          | zero=>exact Is.df (by omega) (Is.pure ⟨fun h=>(by cases h),fun _=>sR⟩)
          | succ j=>
            refine Is.dt (by omega) (Is.bnq (fS (by omega)) (Is.bnq (fx hi) (Is.bnq (fc (by omega)) (Is.bnq (fx (by omega)) ?_))))
            rw [qM]
            refine Is.dcd (fun n=>?_) (fun n=>Is.pure ⟨fun h=>(by cases h),fun _=>rg fun h=>n h.1⟩)
            refine Is.bnq (fc (by omega)) (Is.bnq (fx (by omega)) (Is.bnq (fx hj) (Is.pure ?_)))
            rw [qM]
            exact ⟨fun m=>⟨i,j,rfl,rfl,n,of_decide_eq_true m⟩,fun m=>rg fun h=>of_decide_eq_false m h.2⟩
      · refine Is.cnd (fun h=>?_) (fun h=>Is.pure (hyy _ (hc.2 h)))
        obtain ⟨i',j',rfl,rfl,hx⟩:=hc.1 h
        have w:=hbd i' j' (by omega) (by omega)
        refine Is.bnq (hfst _) (Is.bnq (fc (by omega)) (Is.bnq ((f i' rfl).idx (by omega) (by omega)) (Is.bnq (aQ (by omega)) ?_)))
        rw [lm]
        refine Is.bnq (cT (by rw [List.length_set]; exact hyl)) (Is.pure ?_)
        rw [List.set_set]
        exact hyy _ (vW hx)
    · rintro ⟨y,_⟩ ⟨rfl,hy⟩
      exact Is.df (by omega) (Is.stop hy)
  · rintro ⟨p,s,r,_⟩ ⟨rfl,g,f,h33l,d⟩
    exact Is.df (by omega) (Is.stop d)
end Go.Proofs.YtlcdifnmkafcfaaGreat.Os
namespace Go.Proofs.YtlcdifnmkafcfaaGreat.Os
open Go.Lx
def xj (a b:Str) (i:Nat) (l:List (List Int)):Prop:=l.length=a.length+1∧∀r,r<i→pc a b r (b.length+1) (l.getD r [])
theorem kO {a:Str} {l:List (List Int)} (h:l.length=a.length+1) {r:Nat} (hr:r≤a.length):bm l (r:Int)=some (l.getD r []):=by
  rw [og (d:=[]) (by omega) (by omega),Int.toNat_natCast]
theorem rD {α:Type} {l:List α} {i r:Nat} {x d:α} (hi:i<l.length):(l.set i x).getD r d=if i=r then x else l.getD r d:=by
  rw [List.getD_eq_getElem?_getD,List.getElem?_set]
  by_cases h:i=r
  · rw [if_pos h,if_pos h,if_pos (by omega)]; rfl
  · rw [if_neg h,if_neg h,List.getD_eq_getElem?_getD]
theorem xj.put {a b:Str} {i:Nat} {l:List (List Int)} (h:xj a b i l) (hi:i≤a.length) (x:List Int):cJ l (i:Int) x=some (l.set i x)∧xj a b i (l.set i x)∧(l.set i x).getD i []=x:=by
  have hl:=h.1
  refine ⟨cT (by omega),⟨by rw [List.length_set]; exact hl,fun r hr=>?_⟩,?_⟩
  · rw [rD (by omega),if_neg (by omega)]
    exact h.2 r hr
  · rw [rD (by omega),if_pos rfl]
theorem refDist_ok {a b:Str} (ha:a.length≤1000) (hb:b.length≤1000):M.i8 a b=some (eL a b a.length b.length:Int):=by
  have hbd:∀i j,i≤1001→j≤1001→eL a b i j≤1001:=fun i j hi hj=>by have:=(nS a b i j).2.2; omega
  refine Is.eq ?_
  unfold M.i8
  refine Is.bnq (aQ (by omega)) (Is.bnq (dT (by omega)) ?_)
  refine Is.bnd (P:=xj a b (a.length+1)) ?_ fun l h=>Is.bnq (kO h.1 (Nat.le_refl _)) (Is.bnq ((h.2 _ (by omega)).idx (by omega) (Nat.le_refl _)) (Is.pure rfl))
  refine Is.upto (fun i (st:List (List Int)×Int)=>st.2=(i:Int)∧xj a b i st.1) (a.length+1) (by omega) ⟨rfl,by simp,fun r hr=>by omega⟩ ?_ ?_
  · rintro i ⟨l,_⟩ hi ⟨rfl,h⟩
    simp only at h
    refine Is.dt (by omega) ?_
    refine Is.bnd (P:=xj a b (i+1)) ?_ fun A m=>Is.bnq (aQ (by omega)) (Is.next ⟨rfl,m⟩)
    obtain ⟨H,G,F⟩:=h.put (by omega) (List.replicate (b.length+1) 0)
    refine Is.bnq (aQ (by omega)) (Is.bnq (dT (by omega)) (Is.bnq H ?_))
    refine Is.mono (P:=fun l=>xj a b i l∧pc a b i (b.length+1) (l.getD i [])) ?_ fun A ⟨o,f⟩=>⟨o.1,fun r hr=>?_⟩
    · refine Is.upto (fun j (st:List (List Int)×Int)=>st.2=(j:Int)∧xj a b i st.1∧pc a b i j (st.1.getD i [])) (b.length+1) (by omega) ⟨rfl,G,by rw [F]; exact ⟨by simp,fun q hq=>by omega⟩⟩ ?_ ?_
      · rintro j ⟨d,_⟩ hj ⟨rfl,g,n⟩
        simp only at g n
        refine Is.dt (by omega) ?_
        refine Is.bnd (P:=fun l=>xj a b i l∧pc a b i (j+1) (l.getD i [])) ?_ fun A m=>Is.bnq (aQ (by omega)) (Is.next ⟨rfl,m.1,m.2⟩)
        -- a row with its next entry
        have fin:∀(t:List (List Int)) (row:List Int) (z:Nat),xj a b i t→row=(d.getD i []).set j (z:Int)→eL a b i j=z→∃p,cJ t (i:Int) row=some p∧xj a b i p∧pc a b i (j+1) (p.getD i []):=by
          intro t row z J N L
          obtain ⟨o,f,s⟩:=J.put (by omega) row
          refine ⟨_,o,f,?_⟩
          rw [s,N]
          have:=(n.put (k:=j) (by omega)).2
          rw [L] at this
          exact this
        have hidx:bm d (i:Int)=some (d.getD i []):=kO g.1 (by omega)
        have hjl:j<(d.getD i []).length:=by rw [n.1]; omega
        have hset:∀z:Int,cJ (d.getD i []) (j:Int) z=some ((d.getD i []).set j z):=fun z=>cT hjl
        refine Is.bnd (P:=fun c:Bool=>c=true↔i=0∨j=0) ?_ fun c hc=>?_
        · refine Is.cnd (fun h=>Is.pure ?_) (fun h=>Is.pure ?_)
          · have:=cF h
            exact ⟨fun _=>.inl (by omega),fun _=>rfl⟩
          · have:=dX h
            rw [beq_iff_eq]
            exact ⟨fun h=>.inr (by omega),fun h=>by omega⟩
        refine Is.cnd (fun h=>?_) (fun h=>?_)
        · have e:eL a b i j=i+j:=by
            rcases hc.1 h with rfl|rfl
            · rw [vY]; omega
            · rw [sS]; rfl
          have ch:bR .i64 ((i:Int)+(j:Int))=some ((i+j:Nat):Int):=by rw [cG (by omega) (by omega)]; rfl
          obtain ⟨p,y,w,v⟩:=fin d _ _ g rfl e
          exact Is.bnq hidx (Is.bnq ch (Is.bnq (hset _) (Is.bnq y (Is.pure ⟨w,v⟩))))
        · have hnot:¬ (i=0∨j=0):=fun e=>by rw [hc.2 e] at h; cases h
          obtain ⟨i,rfl⟩:∃k,i=k+1:=⟨i - 1,by omega⟩
          obtain ⟨j,rfl⟩:∃k,j=k+1:=⟨j - 1,by omega⟩
          have U:=hbd i j (by omega) (by omega)
          have T:=hbd i (j+1) (by omega) (by omega)
          have S:=hbd (i+1) j (by omega) (by omega)
          have hcs:=tq (a:=a) (b:=b) (i:=i) (j:=j)
          have D:i<a.length:=by omega
          have B:j<b.length:=by omega
          have prev:=g.2 i (by omega)
          refine Is.bnq (x:=((wL a b i j:Nat):Int)) ?_ ?_
          · refine aL (fS (by omega)) (aL (fx D) (aL (fS (by omega)) (aL (fx B) ?_)))
            rw [qM]
            unfold wL
            by_cases hcc:a.getD i 0=b.getD j 0
            · rw [if_pos hcc,decide_eq_true hcc]; rfl
            · rw [if_neg hcc,decide_eq_false hcc]; rfl
          have chc:bR .i64 ((eL a b i j:Int)+(wL a b i j:Int))=some ((eL a b i j+wL a b i j:Nat):Int):=by rw [cG (by omega) (by omega)]; rfl
          refine Is.bnq hidx (Is.bnq (fS (by omega)) (Is.bnq (kO g.1 (by omega)) (Is.bnq (prev.idx (by omega) (by omega)) (Is.bnq (aQ (by omega)) (Is.bnq (fS (by omega)) (Is.bnq (n.idx (by omega) (by omega)) (Is.bnq (aQ (by omega)) (Is.bnq (prev.idx (by omega) (by omega)) (Is.bnq chc ?_)))))))))
          have K:qd ((eL a b i (j+1)+1:Nat):Int) ((eL a b (i+1) j+1:Nat):Int) (((eL a b i j+wL a b i j:Nat):Int))=(fC a b i j:Int):=by
            rw [rm]; rfl
          rw [K]
          have R:fC a b i j≤1002:=by unfold fC; omega
          obtain ⟨o,f,s⟩:=g.put (by omega) ((d.getD (i+1) []).set (j+1) (fC a b i j:Int))
          refine Is.bnq (hset _) (Is.bnq o ?_)
          refine Is.bnd (P:=fun c:Bool=>(c=true→∃i' j',i=i'+1∧j=j'+1∧jQ a b i' j')∧(c=false→eL a b (i+1) (j+1)=fC a b i j)) ?_ fun c hc=>?_
          · cases i with
            | zero=>exact Is.df (by omega) (Is.pure ⟨fun h=>(by cases h),fun _=>vX⟩)
            | succ i=>
              refine Is.dt (by omega) ?_
              cases j with
              | zero=>exact Is.df (by omega) (Is.pure ⟨fun h=>(by cases h),fun _=>sR⟩)
              | succ j=>
                refine Is.dt (by omega) (Is.bnq (fx D) (Is.bnq (fc (by omega)) (Is.bnq (fx (by omega)) ?_)))
                rw [qM]
                refine Is.dcd (fun u=>?_) (fun u=>Is.pure ⟨fun h=>(by cases h),fun _=>rg fun h=>u h.1⟩)
                refine Is.bnq (fc (by omega)) (Is.bnq (fx (by omega)) (Is.bnq (fx B) (Is.pure ?_)))
                rw [qM]
                exact ⟨fun m=>⟨i,j,rfl,rfl,u,of_decide_eq_true m⟩,fun m=>rg fun h=>of_decide_eq_false m h.2⟩
          · refine Is.cnd (fun h=>?_) (fun h=>Is.pure ⟨f,?_⟩)
            · obtain ⟨i',j',rfl,rfl,hx⟩:=hc.1 h
              have Q:=hbd i' j' (by omega) (by omega)
              have I:bm ((d.set (i'+1+1) ((d.getD (i'+1+1) []).set (j'+1+1) (fC a b (i'+1) (j'+1):Int)))) ((i'+1+1:Nat):Int)=some ((d.getD (i'+1+1) []).set (j'+1+1) (fC a b (i'+1) (j'+1):Int)):=by
                rw [kO f.1 (by omega),s]
              have hget:bm ((d.getD (i'+1+1) []).set (j'+1+1) (fC a b (i'+1) (j'+1):Int)) ((j'+1+1:Nat):Int)=some (fC a b (i'+1) (j'+1):Int):=by
                rw [aX (by rw [List.length_set]; exact hjl),List.getElem_set_self]
              obtain ⟨p,y,w,v⟩:=fin _ (((d.getD (i'+1+1) []).set (j'+1+1) (fC a b (i'+1) (j'+1):Int)).set (j'+1+1) ((min (fC a b (i'+1) (j'+1)) (eL a b i' j'+1):Nat):Int)) _ f (by rw [List.set_set]) (vW hx)
              refine Is.bnq I (Is.bnq hget (Is.bnq (fc (by omega)) (Is.bnq (kO f.1 (by omega)) (Is.bnq (fc (by omega)) (Is.bnq ((f.2 i' (by omega)).idx (by omega) (by omega)) (Is.bnq (aQ (by omega)) ?_))))))
              rw [lm]
              exact Is.bnq (cT (by rw [List.length_set]; exact hjl)) (Is.bnq y (Is.pure ⟨w,v⟩))
            · show pc a b (i+1) (j+1+1) _
              rw [s]
              have:=(n.put (k:=j+1) (by omega)).2
              rw [hc.2 h] at this
              exact this
      · rintro ⟨d,_⟩ ⟨rfl,g,n⟩
        exact Is.df (by omega) (Is.stop ⟨g,n⟩)
    · rcases Nat.lt_or_eq_of_le (Nat.le_of_lt_succ hr) with hlt|rfl
      · exact o.2 r hlt
      · exact f
  · rintro ⟨l,_⟩ ⟨rfl,h⟩
    exact Is.df (by omega) (Is.stop h)
end Go.Proofs.YtlcdifnmkafcfaaGreat.Os
set_option linter.unusedVariables false
namespace Go.Proofs.YtlcdifnmkafcfaaGreat
open Go.Lx
open Classical
def yE (a b:Str):Nat:=eL a b a.length b.length
noncomputable def AO (x:T_LexSpec) (t:T_Token) (p:Bool) (k:Nat):Option bv:=match x.Defs[k]? with
  | none=>none
  | some d=>
    if t.Kind=-1 then (if cl x d t.Text=true then some ⟨k,x.Unclosed⟩ else none)
    else if p=true∧0<x.Misspelling∧d.Kind=3∧1≤yE t.Text d.Sample∧yE t.Text d.Sample≤2 then some ⟨k,x.Misspelling*(yE t.Text d.Sample:Int)⟩ else none
noncomputable def jn (x:T_LexSpec) (t:T_Token):Bool:=decide (0≤t.Kind∧∃d,x.Defs[t.Kind.toNat]?=some d∧d.Kind=1)
noncomputable def wS (x:T_LexSpec) (t:T_Token) (n:Nat):List bv:=(List.range n).filterMap (AO x t (jn x t))
theorem wR (x:T_LexSpec) (t:T_Token) (n:Nat):wS x t (n+1)=wS x t n++(AO x t (jn x t) n).toList:=by
  unfold wS
  rw [List.range_succ,List.filterMap_append]
  cases h:AO x t (jn x t) n <;> simp [List.filterMap_cons,h]
theorem yL (x:T_LexSpec) (t:T_Token) (n:Nat):(wS x t n).length≤n:=by
  unfold wS
  exact Nat.le_trans (List.length_filterMap_le _ _) (by simp)
section
variable {x:T_LexSpec} (h:SpecOk x) {t:T_Token} (ht:t.Text.length≤20)
include h ht
theorem BA {k:Nat} (hk:k<x.Defs.length):M.a8 t.Text x.Defs[k].Sample=some (yE t.Text x.Defs[k].Sample:Int)∧M.i8 t.Text x.Defs[k].Sample=some (yE t.Text x.Defs[k].Sample:Int):=by
  have:=(h.few _ (List.getElem_mem hk)).2.2.1
  exact ⟨Go.Proofs.YtlcdifnmkafcfaaGreat.Os.dist_ok (a:=t.Text) (b:=x.Defs[k].Sample) (by omega) (by omega),Go.Proofs.YtlcdifnmkafcfaaGreat.Os.refDist_ok (a:=t.Text) (b:=x.Defs[k].Sample) (by omega) (by omega)⟩
theorem yH:M.a9 x t=some (wS x t x.Defs.length):=by
  have h6:=h.six
  have hm:=h.mis
  refine Is.eq ?_
  unfold M.a9
  refine Is.bnq (x:=jn x t) (Is.eq ?_) (Is.bnd (P:=fun r=>r=wS x t x.Defs.length) ?_ fun r hr=>Is.pure hr)
  · unfold jn
    refine Is.dcd (fun g=>Is.dcd (fun j=>?_) (fun j=>Is.pure ?_)) (fun g=>Is.pure ?_)
    · obtain ⟨n,hn⟩:=Int.eq_ofNat_of_zero_le g
      rw [hn]
      have hlt:n<x.Defs.length:=by omega
      refine Is.bnq (aX hlt) (Is.pure ?_)
      rw [Bool.eq_iff_iff,beq_iff_eq,decide_eq_true_eq]
      show _↔0≤(n:Int)∧∃d,x.Defs[n]?=some d∧d.Kind=1
      rw [List.getElem?_eq_getElem hlt]
      exact ⟨fun e=>⟨by omega,_,rfl,e⟩,fun ⟨_,d,e,a⟩=>by cases e; exact a⟩
    · refine (decide_eq_false ?_).symm
      rintro ⟨_,d,e,_⟩
      have:=(List.getElem?_eq_some_iff.1 e).1
      omega
    · exact (decide_eq_false fun e=>g e.1).symm
  · refine Is.upto (fun i (st:List bv×Int)=>st.2=(i:Int)∧st.1=wS x t i) x.Defs.length (by omega) ⟨rfl,rfl⟩ ?_ ?_
    · rintro i ⟨l,_⟩ hi ⟨rfl,e⟩
      obtain rfl:l=_:=e
      have hl:=yL x t i
      have hd:=List.getElem_mem hi
      refine Is.dt (by omega) (Is.bnd (P:=fun l=>l=wS x t (i+1)) ?_ fun l hl=>Is.add1 (by omega) (Is.next ⟨rfl,hl⟩))
      rw [wR]
      have hg:AO x t (jn x t) i=if t.Kind=-1 then (if cl x x.Defs[i] t.Text=true then some ⟨i,x.Unclosed⟩ else none)
          else if jn x t=true∧0<x.Misspelling∧x.Defs[i].Kind=3∧1≤yE t.Text x.Defs[i].Sample∧yE t.Text x.Defs[i].Sample≤2 then some ⟨i,x.Misspelling*(yE t.Text x.Defs[i].Sample:Int)⟩ else none:=by
        unfold AO
        rw [List.getElem?_eq_getElem hi]
      rw [hg]
      refine Is.bnq (aX hi) (Is.cnd (fun hk=>?_) (fun hk=>?_))
      · rw [if_pos (cF hk)]
        refine Is.bnq (my h hd ht) (Is.cnd (fun e=>?_) (fun e=>Is.pure ?_))
        · rw [if_pos e]
          exact Is.app1 (by omega) (Is.pure rfl)
        · rw [if_neg (by rw [e]; simp)]; simp
      · rw [if_neg (dX hk)]
        refine Is.bnd (P:=fun b:Bool=>b=true↔jn x t=true∧0<x.Misspelling∧x.Defs[i].Kind=3) ?_ fun b hb=>?_
        · refine Is.cnd (fun f=>Is.dcd (fun a=>Is.pure ⟨fun e=>⟨f,a,cF e⟩,fun e=>jx e.2.2⟩) (fun a=>Is.pure ⟨(fun e=>by cases e),fun e=>absurd e.2.1 a⟩)) (fun f=>Is.pure ⟨(fun e=>by cases e),fun e=>by rw [f] at e; cases e.1⟩)
        · refine Is.cnd (fun e=>?_) (fun e=>Is.pure ?_)
          · obtain ⟨o,m,k⟩:=hb.1 e
            refine Is.bnq (BA h ht hi).1 ?_
            generalize yE t.Text x.Defs[i].Sample=n
            refine Is.bnd (P:=fun b:Bool=>b=true↔1≤n∧n≤2) ?_ fun c hc=>Is.cnd (fun e=>?_) (fun e=>Is.pure ?_)
            · refine Is.dcd (fun f=>Is.pure ⟨fun e=>⟨by omega,by have:=of_decide_eq_true e; omega⟩,fun e=>dK (by omega)⟩) (fun f=>Is.pure ⟨(fun e=>by cases e),fun e=>absurd e.1 (by omega)⟩)
            · obtain ⟨c1,c2⟩:=hc.1 e
              have hmul:x.Misspelling*(n:Int)≤1000*2:=Int.mul_le_mul hm.2 (by omega) (by omega) (by omega)
              have p:0≤x.Misspelling*(n:Int):=Int.mul_nonneg hm.1 (by omega)
              rw [if_pos ⟨o,m,k,c1,c2⟩]
              exact Is.bnq (cG (by omega) (by omega)) (Is.app1 (by omega) (Is.pure rfl))
            · rw [if_neg (fun a=>by rw [hc.2 a.2.2.2] at e; cases e)]; simp
          · rw [if_neg (fun a=>by rw [hb.2 ⟨a.1,a.2.1,a.2.2.1⟩] at e; cases e)]; simp
    · rintro ⟨l,_⟩ ⟨rfl,e⟩
      exact Is.df (by omega) (Is.stop e)
end
end Go.Proofs.YtlcdifnmkafcfaaGreat
set_option linter.unusedVariables false
namespace Go.Proofs.YtlcdifnmkafcfaaGreat
open Go.Lx
open Classical
def Ps:Int→List T_Token→Prop
  | _,[]=>True
  | a,t::l=>t.At=a∧Ps (a+(t.Text.length:Int)) l
theorem Ps.snoc:∀(l:List T_Token) (a:Int) (t:T_Token),Ps a l→t.At=a+((tx l).length:Int)→Ps a (l++[t])
  | [],a,t,_,h=>⟨by rw [h]; simp [tx],trivial⟩
  | u::l,a,t,h,e=>⟨h.1,Ps.snoc l _ t h.2 (by rw [e,ew,List.length_append]; omega)⟩
theorem Ps.drop:∀(n:Nat) (l:List T_Token) (a:Int),Ps a l→Ps (a+((tx (l.take n)).length:Int)) (l.drop n)
  | 0,l,a,h=>by simpa [tx] using h
  | n+1,[],a,h=>trivial
  | n+1,t::l,a,h=>by
    have:=Ps.drop n l _ h.2
    rw [List.take_succ_cons,ew,List.length_append,List.drop_succ_cons]
    rw [show a+((t.Text.length+(tx (l.take n)).length:Nat):Int)=a+(t.Text.length:Int)+((tx (l.take n)).length:Int) by omega]
    exact this
theorem Ps.next:∀(l:List T_Token) (a:Int),Ps a l→∀i (h:i+1<l.length),l[i+1].At=l[i].At+(l[i].Text.length:Int)
  | [],_,_,i,h=>by simp at h
  | [t],_,_,i,h=>by simp at h
  | t::u::l,a,h,0,_=>by show u.At=t.At+(t.Text.length:Int); rw [h.2.1,h.1]
  | t::u::l,a,h,i+1,hi=>Ps.next (u::l) _ h.2 i (by simpa using hi)
structure LT (l:List T_Token):Prop where
  one:∀t∈l,1≤t.Text.length∧(t.Kind=-1→t.Text.length=1)∧(0≤t.At∧t.At≤20)∧(0≤t.Look∧t.Look≤21)
  ps:Ps 0 l
theorem LT.len {l:List T_Token} (h:LT l):l.length≤(tx l).length:=by
  have:=h.one
  clear h
  induction l with
  | nil=>exact Nat.zero_le _
  | cons t l ih=>
    have h1:=ih fun y hy=>this y (by simp [hy])
    have h2:=this t (by simp)
    rw [ew,List.length_append,List.length_cons]; omega
section
variable {d:T_DFA} (h:WM d)
include h
theorem Co {s:Str} {i:Nat} (hs:s.length≤20) (hi:i<s.length):Is (M.k7 d s (i:Int)) (fun t=>t.At=(i:Int)∧∃k:Nat,1≤k∧i+k≤s.length∧t.Text=(s.take (i+k)).drop i∧(t.Kind=-1→k=1)∧(0≤t.Look∧t.Look≤21)):=by
  unfold M.k7
  refine Is.bnd (P:=fun v:Int×Int×Int=>(0≤v.1∧v.1≤21)∧∃k:Nat,v.2.2=(k:Int)∧1≤k∧i+k≤s.length∧(v.2.1=-1→k=1)) ?_ ?_
  · refine Is.while (fun st:Int×Int×Int×Int=>(∃q:Nat,st.1=(q:Int)∧q<d.Next.length)∧(∃m:Nat,st.2.1=(m:Int)∧i+m≤s.length)∧∃k:Nat,st.2.2.2=(k:Int)∧1≤k∧i+k≤s.length∧(st.2.2.1=-1→k=1)) (fun st=>s.length - st.2.1.toNat) ⟨⟨0,rfl,h.pos⟩,⟨0,rfl,by omega⟩,1,rfl,Nat.le_refl _,by omega,fun _=>rfl⟩ (by simp only; omega) ?_
    rintro ⟨_,_,kd,_⟩ ⟨⟨q,rfl,hq⟩,⟨m,rfl,hm⟩,k,rfl,f,b,a⟩
    simp only at a ⊢
    refine Is.bnq (x:=((i+m:Nat):Int)) (by rw [cG (by omega) (by omega)]; congr 1) ?_
    refine Is.cnd (fun he=>Is.bnq (aQ (by omega)) (Is.stop ⟨⟨by omega,by omega⟩,k,rfl,f,b,a⟩)) (fun hne=>?_)
    have hne:=dX hne
    have hlt:i+m<s.length:=by omega
    have hr:=h.row _ (List.getElem_mem hq)
    have hb:(s[i+m]).toNat<256:=(s[i+m]).toNat_lt
    have hc:(s[i+m]).toNat<d.Class.length:=by rw [h.cls]; exact hb
    have hcl:=h.inc _ (List.getElem_mem hc)
    refine Is.bnq (aX hq) (Is.bnq (dq hlt) (Is.bnq (aX hc) ?_))
    generalize d.Class[(s[i+m]).toNat]=c at hcl
    obtain ⟨c,rfl⟩:=Int.eq_ofNat_of_zero_le hcl.1
    have hcr:c<(d.Next[q]).length:=by rw [hr.1]; omega
    have hto:=hr.2 _ (List.getElem_mem hcr)
    refine Is.bnq (aX hcr) (Is.bnq (aQ (by omega)) ?_)
    generalize (d.Next[q])[c]=e at hto
    refine Is.dcd (fun hneg=>Is.stop ⟨⟨by omega,by omega⟩,k,rfl,f,b,a⟩) (fun hpos=>?_)
    obtain ⟨e,rfl⟩:=Int.eq_ofNat_of_zero_le (show 0≤e by omega)
    have hel:e<d.Next.length:=by omega
    refine Is.bnq (aX (show e<d.Accept.length by rw [h.acc]; exact hel)) ?_
    refine Is.dcd (fun ha=>Is.next ⟨⟨⟨e,rfl,hel⟩,⟨m+1,rfl,by omega⟩,m+1,rfl,by omega,by omega,fun g=>by simp only at g; omega⟩,by simp only; omega⟩) (fun _=>Is.next ⟨⟨⟨e,rfl,hel⟩,⟨m+1,rfl,by omega⟩,k,rfl,f,b,a⟩,by simp only; omega⟩)
  · rintro ⟨lk,kd,_⟩ ⟨hl,k,rfl,f,b,a⟩
    exact Is.bnq (x:=((i+k:Nat):Int)) (by rw [cG (by omega) (by omega)]; congr 1) (Is.bnq (jC (by omega) b) (Is.pure ⟨rfl,k,f,b,rfl,a,hl⟩))
theorem zY {s:Str} (hs:s.length≤20):Is (M.k1 d s) (fun l=>tx l=s∧LT l):=by
  unfold M.k1
  refine Is.bnd (P:=fun l=>tx l=s∧LT l) ?_ fun l hl=>Is.pure hl
  refine Is.while (fun st:List T_Token×Int=>∃i:Nat,st.2=(i:Int)∧i≤s.length∧tx st.1=s.take i∧LT st.1) (fun st=>s.length - st.2.toNat) ⟨0,rfl,Nat.zero_le _,rfl,⟨by simp,trivial⟩⟩ (by simp only; omega) ?_
  rintro ⟨l,_⟩ ⟨i,rfl,hi,ht,hl⟩
  simp only at ht hl
  refine Is.dcd (fun hlt=>?_) (fun hge=>Is.stop ?_)
  · have hlt:i<s.length:=by omega
    refine Is.bnd (Co h hs hlt) ?_
    rintro t ⟨g,k,j,b,a,f,c⟩
    have htl:t.Text.length=k:=by rw [a,List.length_drop,List.length_take]; omega
    have hll:=hl.len
    rw [ht,List.length_take] at hll
    refine Is.app1 (by omega) (Is.bnq (x:=((i+k:Nat):Int)) (by rw [htl,cG (by omega) (by omega)]; congr 1) (Is.next ⟨⟨i+k,rfl,b,?_,⟨?_,?_⟩⟩,by simp only; omega⟩))
    · show tx (l++[t])=_
      rw [gv,ht,ew,a]
      show s.take i++((s.take (i+k)).drop i++[])=_
      rw [List.append_nil]
      have:s.take i=(s.take (i+k)).take i:=by rw [List.take_take]; congr 1; omega
      rw [this,List.take_append_drop]
    · intro y hy
      rcases List.mem_append.1 hy with hy|hy
      · exact hl.one y hy
      · rw [List.mem_singleton.1 hy]
        exact ⟨by omega,fun e=>by rw [htl]; exact f e,⟨by omega,by omega⟩,c⟩
    · refine Ps.snoc l 0 t hl.ps ?_
      rw [ht,g,List.length_take]; omega
  · have:i=s.length:=by omega
    subst this
    rw [List.take_length] at ht
    exact ⟨ht,hl⟩
end
theorem LT.tb {l:List T_Token} (h:LT l):∀t∈l,TB t:=fun t ht=>by have:=h.one t ht; exact ⟨⟨this.2.2.1.1,by omega⟩,this.2.2.2.1,by omega⟩
theorem zV {x:T_LexSpec}:∀n l,(mg x n l).length≤n:=by
  intro n
  induction n with
  | zero=>intro l; exact Nat.le_refl _
  | succ n ih=>
    intro l
    cases l with
    | nil=>exact Nat.zero_le _
    | cons t l=>rw [mg,List.length_cons]; have:=ih ((t::l).drop (nx x t l).2.2); omega
theorem yl {x:T_LexSpec} (l:List T_Token):(im x l).length≤l.length:=zV l.length l
theorem tr {x:T_LexSpec} (h:SpecOk x) {k:Int} (hc:M.d4 x=some (k,0)):Is (M.g5 x) (fun r=>WM r.1):=by
  obtain ⟨d,hb,hw⟩:=h.dfa
  unfold M.g5
  exact Is.bnq hc (Is.cf rfl (Is.bnq hb (Is.pure hw)))
theorem wG:∀(l:List T_Token) (m a:Nat),0<en l m a→a+(tx (l.take (en l m a))).length=m
  | [],m,a,h=>absurd h (Nat.lt_irrefl _)
  | t::l,m,a,h=>by
    by_cases e:a+t.Text.length=m
    · rw [ot e,List.take_succ_cons,ew]; simpa [tx] using e
    · rw [ql e] at h ⊢
      by_cases b:en l m (a+t.Text.length)=0
      · rw [if_pos b] at h; exact absurd h (Nat.lt_irrefl _)
      · rw [if_neg b,List.take_succ_cons,ew,List.length_append]
        have:=wG l m (a+t.Text.length) (by omega)
        omega
theorem zz:∀(n:Nat) (l:List T_Token) (m a:Nat),n<l.length→a+(tx (l.take (n+1))).length=m→0<en l m a
  | n,[],m,a,h,_=>by simp at h
  | 0,t::l,m,a,h,e=>by
    rw [ot (by simpa [tx] using e)]; exact Nat.one_pos
  | n+1,t::l,m,a,h,e=>by
    by_cases b:a+t.Text.length=m
    · rw [ot b]; exact Nat.one_pos
    · rw [List.take_succ_cons,ew,List.length_append] at e
      have:=zz n l m (a+t.Text.length) (by simpa using h) (by omega)
      rw [ql b,if_neg (by omega)]; omega
theorem wq (s:Str):s.take (dm s).length=dm s:=by
  induction s with
  | nil=>rfl
  | cons c s ih=>
    unfold dm at ih ⊢
    rw [List.takeWhile_cons]
    split
    · rw [List.length_cons,List.take_succ_cons,ih]
    · rfl
variable {x:T_LexSpec}
theorem qa (t:T_Token) (l:List T_Token):(nx x t l).1=tx ((t::l).take (nx x t l).2.2):=by
  unfold nx
  split
  · rename_i h
    have b:=wG _ _ _ h.2.1
    simp only
    have a:=wq (tx (t::l))
    generalize hL:dm (tx (t::l))=L at b a ⊢
    generalize en (t::l) L.length 0=k at b ⊢
    have d:tx (t::l)=tx ((t::l).take k)++tx ((t::l).drop k):=by rw [←gv,List.take_append_drop]
    have c:L.length=(tx ((t::l).take k)).length:=by omega
    rw [c,d,List.take_left] at a
    exact a.symm
  · simp [tx]
theorem li {C:List T_Token→Prop} (a:C []) (b:∀t l,C ((t::l).drop (nx x t l).2.2)→C (t::l)) (l:List T_Token):C l:=by
  have:∀n (l:List T_Token),l.length≤n→C l:=by
    intro n
    induction n with
    | zero=>intro l hl; obtain rfl:=List.eq_nil_of_length_eq_zero (Nat.le_zero.1 hl); exact a
    | succ n ih=>
      intro l hl
      cases l with
      | nil=>exact a
      | cons t l=>
        have:=nU x t l
        exact b t l (ih _ (by rw [List.length_drop]; simp only [List.length_cons] at hl ⊢; omega))
  exact this l.length l (Nat.le_refl _)
theorem wj (l:List T_Token):tx (im x l)=tx l:=by
  refine li (x:=x) (C:=fun l=>tx (im x l)=tx l) rfl (fun t l ih=>?_) l
  rw [ep,ew,ih]
  show (nx x t l).1++_=_
  rw [qa,←gv,List.take_append_drop]
theorem zU (l:List T_Token):∀a,Ps a l→Ps a (im x l):=by
  refine li (x:=x) (C:=fun l=>∀a,Ps a l→Ps a (im x l)) (fun _ h=>h) (fun t l ih a h=>?_) l
  rw [ep]
  refine ⟨h.1,?_⟩
  show Ps (a+((nx x t l).1.length:Int)) _
  rw [qa]
  exact ih _ (Ps.drop _ _ _ h)
theorem yi (l:List T_Token):∀n,n≤(im x l).length→∃k,n≤k∧k≤l.length∧tx ((im x l).take n)=tx (l.take k):=by
  refine li (x:=x) (C:=fun l=>∀n,n≤(im x l).length→∃k,n≤k∧k≤l.length∧tx ((im x l).take n)=tx (l.take k)) (fun n hn=>⟨0,hn,Nat.le_refl _,by cases n with|zero=>rfl|succ n=>exact absurd hn (Nat.not_succ_le_zero _)⟩) (fun t l ih n hn=>?_) l
  cases n with
  | zero=>exact ⟨0,Nat.le_refl _,Nat.zero_le _,rfl⟩
  | succ n=>
    rw [ep,List.length_cons] at hn
    obtain ⟨k,c,a,b⟩:=ih n (by omega)
    have hp:=nU x t l
    rw [List.length_drop] at a
    simp only [List.length_cons] at a ⊢
    refine ⟨(nx x t l).2.2+k,by omega,by omega,?_⟩
    rw [ep,List.take_succ_cons,ew,b]
    show (nx x t l).1++_=_
    rw [qa,←gv,List.take_add]
theorem Ak {l:List T_Token} {t:T_Token} {m:Nat} (h:0<en (t::im x l) m 0):0<en (t::l) m 0:=by
  have a:=wG _ _ _ h
  have hle:=uk (t::im x l) m 0
  obtain ⟨n,hn⟩:∃n,en (t::im x l) m 0=n+1:=⟨en (t::im x l) m 0 - 1,by omega⟩
  rw [hn,List.length_cons] at hle
  obtain ⟨k,d,c,b⟩:=yi (x:=x) l n (by omega)
  rw [hn,List.take_succ_cons,ew,b] at a
  exact zz k (t::l) m 0 (by simp only [List.length_cons]; omega) (by rw [List.take_succ_cons,ew]; exact a)
theorem wb (t:T_Token) (l:List T_Token) (hb:TB ⟨t.Kind,t.At,(nx x t l).1,(nx x t l).2.1⟩) :
    nx x ⟨t.Kind,t.At,(nx x t l).1,(nx x t l).2.1⟩ (im x ((t::l).drop (nx x t l).2.2))=((nx x t l).1,(nx x t l).2.1,1):=by
  have htx:tx (⟨t.Kind,t.At,(nx x t l).1,(nx x t l).2.1⟩::im x ((t::l).drop (nx x t l).2.2))=tx (t::l):=by rw [←ep,wj]
  by_cases hc:t.Kind=-1∧0<en (t::l) (dm (tx (t::l))).length 0∧mT x (dm (tx (t::l)))=true
  · have b:(nx x t l).1=dm (tx (t::l)):=by unfold nx; rw [if_pos hc]
    generalize f:im x ((t::l).drop (nx x t l).2.2)=c at htx ⊢
    generalize hlook:(nx x t l).2.1=lo at htx hb ⊢
    rw [b] at htx hb ⊢
    have e:en (⟨t.Kind,t.At,dm (tx (t::l)),lo⟩::c) (dm (tx (t::l))).length 0=1:=ot (by simp)
    have d:=(qg hb).1
    show (if t.Kind=-1∧0<en _ (dm (tx _)).length 0∧mT x (dm (tx _))=true then _ else _)=_
    rw [htx,e,if_pos ⟨hc.1,Nat.one_pos,hc.2.2⟩]
    refine Prod.ext rfl (Prod.ext ?_ rfl)
    exact d
  · have b:nx x t l=(t.Text,t.Look,1):=by unfold nx; rw [if_neg hc]
    rw [b] at htx ⊢
    simp only [List.drop_succ_cons,List.drop_zero] at htx ⊢
    show (if t.Kind=-1∧0<en (t::im x l) (dm (tx _)).length 0∧mT x (dm (tx _))=true then _ else _)=_
    rw [htx,if_neg fun a=>hc ⟨a.1,Ak a.2.1,a.2.2⟩]
theorem zy {t:T_Token} (ht:0≤t.At) {A B:Int}:∀(l:List T_Token) (a:Int),(∀y∈l,y.At≤A∧y.Look≤B)→a≤A+B→l.foldl (uW t) a≤A+B
  | [],a,_,h=>h
  | y::l,a,hl,h=>by
    refine zy ht l _ (fun z hz=>hl z (by simp [hz])) ?_
    have h1:=hl y (by simp)
    unfold uW nY
    split <;> omega
theorem yk (l:List T_Token):(∀t∈l,(0≤t.At∧t.At≤20)∧(0≤t.Look∧t.Look≤21))→∀y∈im x l,((0≤y.At∧y.At≤20)∧(0≤y.Look∧y.Look≤41))∧(y∈l∨(y.Kind=-1∧mT x y.Text=true)):=by
  refine li (x:=x) (C:=fun l=>(∀t∈l,(0≤t.At∧t.At≤20)∧(0≤t.Look∧t.Look≤21))→∀y∈im x l,((0≤y.At∧y.At≤20)∧(0≤y.Look∧y.Look≤41))∧(y∈l∨(y.Kind=-1∧mT x y.Text=true))) (fun _ y hy=>by cases hy) (fun t l ih hB y hy=>?_) l
  rw [ep,List.mem_cons] at hy
  rcases hy with rfl|hy
  · have a:=hB t (by simp)
    by_cases hc:t.Kind=-1∧0<en (t::l) (dm (tx (t::l))).length 0∧mT x (dm (tx (t::l)))=true
    · have b:nx x t l=(dm (tx (t::l)),lk t ((t::l).take (en (t::l) (dm (tx (t::l))).length 0)),en (t::l) (dm (tx (t::l))).length 0):=by unfold nx; rw [if_pos hc]
      rw [b]
      refine ⟨⟨a.1,?_,?_⟩,.inr ⟨hc.1,hc.2.2⟩⟩
      · have htb:TB t:=⟨⟨a.1.1,by omega⟩,a.2.1,by omega⟩
        exact (rt htb _ 0 (fun z hz=>by have:=hB z (List.mem_of_mem_take hz); exact ⟨⟨this.1.1,by omega⟩,this.2.1,by omega⟩) (by omega)).1
      · exact zy (A:=20) (B:=21) a.1.1 _ 0 (fun z hz=>by have:=hB z (List.mem_of_mem_take hz); exact ⟨this.1.2,this.2.2⟩) (by omega)
    · have b:nx x t l=(t.Text,t.Look,1):=by unfold nx; rw [if_neg hc]
      rw [b]
      exact ⟨⟨a.1,a.2.1,by have:=a.2.2; show t.Look≤41; omega⟩,.inl (by simp)⟩
  · obtain ⟨a,c⟩:=ih (fun z hz=>hB z (List.mem_of_mem_drop hz)) y hy
    exact ⟨a,c.imp_left fun h=>List.mem_of_mem_drop h⟩
theorem uS (l:List T_Token):(∀y∈im x l,TB y)→im x (im x l)=im x l:=by
  refine li (x:=x) (C:=fun l=>(∀y∈im x l,TB y)→im x (im x l)=im x l) (fun _=>rfl) (fun t l ih hB=>?_) l
  rw [ep] at hB
  rw [ep x t l,ep,wb t l (hB _ (by simp))]
  simp only [List.drop_succ_cons,List.drop_zero]
  rw [ih fun y hy=>hB y (by simp [hy])]
theorem uY (a:T_LexSpec) (g:jo a) (x1:Str) (m:x1.length≤maxLen):M.b3 a x1=some true:=by
  refine Is.eq ?_
  unfold M.b3
  refine Is.bnd (P:=fun b:Bool=>b=false→(SpecOk a∧∃k,M.d4 a=some (k,0))∧x1.length≤20) ?_ fun b hb=>Is.cnd (fun _=>Is.bnq oA (Is.pure rfl)) (fun e=>?_)
  · exact Is.bnd (vD g) fun b hb=>Is.cnd (fun _=>Is.pure fun h=>by cases h) (fun e=>Is.pure fun h=>⟨hb (by simpa using e),by have:=of_decide_eq_false h; omega⟩)
  obtain ⟨⟨h,k,hk⟩,j⟩:=hb e
  refine Is.bnd (tr h hk) fun r hw=>Is.bnd (zY hw j) ?_
  rintro l ⟨htx,hl⟩
  have hll:=hl.len
  rw [htx] at hll
  have hml:=yl (x:=a) l
  have hmt:tx (im a l)=x1:=by rw [wj,htx]
  have hmem:=yk (x:=a) l fun t ht=>(hl.one t ht).2.2
  have htb:∀y∈im a l,TB y:=fun y hy=>by have:=(hmem y hy).1; exact ⟨⟨this.1.1,by omega⟩,this.2.1,by omega⟩
  have hsq:zf (im a l):=⟨fun y hy=>by have:=(hmem y hy).1; exact ⟨⟨this.1.1,by omega⟩,this.2.1,by omega⟩,Ps.next _ _ (zU l 0 hl.ps)⟩
  refine Is.bnq (rn h (by omega) (by rw [htx]; omega) hl.tb) ?_
  refine Is.bnd (P:=fun b:Bool=>b=false) ?_ ?_
  · refine Is.bnq (sC (by omega) (by rw [hmt]; omega)) (Is.cf (by rw [hmt]; simp) ?_)
    refine Is.bnd (qQ (by omega) fun t ht=>Nat.le_trans (vA ht) (by rw [hmt]; omega)) fun b hb=>?_
    refine Is.cf (by rw [hb.2 hsq]; rfl) (Is.df (by omega) (Is.bnq (rn h (by omega) (by rw [hmt]; omega) htb) ?_))
    rw [uS l htb]
    exact Is.bnq (sE (by omega)) (Is.pure rfl)
  · rintro _ rfl
    refine Is.cf rfl (Is.bs (P:=fun _=>True) (Q:=fun b=>b=true) (Is.upto (fun i st=>st=(i:Int)) (im a l).length (by omega) rfl ?_ ?_) (fun _ _=>Is.bnq oA (Is.pure rfl)))
    · rintro i _ hi rfl
      refine Is.dt (by omega) (Is.bnd (P:=fun b:Bool=>b=false) (Is.bnq (aX hi) ?_) ?_)
      · have hm:=List.getElem_mem hi
        have htl:=vA hm
        rw [hmt] at htl
        obtain ⟨_,hor⟩:=hmem _ hm
        generalize (im a l)[i]=y at hor htl
        refine Is.cnd (fun c=>Is.dcd (fun n=>?_) (fun _=>Is.pure rfl)) (fun _=>Is.pure rfl)
        have c:=cF c
        refine Is.bnq (yH h (by omega)) (Is.pure (bI ?_))
        have hany:mT a y.Text=true:=by
          rcases hor with f|f
          · have:=(hl.one y f).2.1 c; omega
          · exact f.2
        unfold mT at hany
        obtain ⟨d,hd,hcl⟩:=List.any_eq_true.1 hany
        obtain ⟨q,hq,rfl⟩:=List.mem_iff_getElem.1 hd
        have:(⟨q,a.Unclosed⟩:bv)∈wS a y a.Defs.length:=by
          unfold wS
          refine List.mem_filterMap.2 ⟨q,List.mem_range.2 hq,?_⟩
          unfold AO
          rw [List.getElem?_eq_getElem hq]
          simp only
          rw [if_pos c,if_pos hcl]
        have:=List.length_pos_of_mem this
        omega
      · rintro _ rfl
        exact Is.cf rfl (Is.add1 (by omega) (Is.next rfl))
    · rintro _ rfl
      exact Is.df (by omega) (Is.stop trivial)
end Go.Proofs.YtlcdifnmkafcfaaGreat
