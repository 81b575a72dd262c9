/- Part 13. -/
import Derived.Lib.IndexLaws
import Derived.Test.YtlcdifnmkafcfaaGreatKLexrepairMergeSequence12
namespace Go.Proofs.YtlcdifnmkafcfaaGreat
open Go.Lx
def dG {α β:Type} (A:Option α) (B:Option β) (Q:α→β→Prop):Prop:=∃a b,A=some a∧B=some b∧Q a b
section
variable {α β α' β' σ τ:Type} {P:α→β→Prop} {Q:α'→β'→Prop}
theorem dG.pure {a:α'} {b:β'} (h:Q a b):dG (some a) (some b) Q:=⟨a,b,rfl,rfl,h⟩
theorem dG.bb {A:Option α} {B:Option β} {f:α→Option α'} {g:β→Option β'} (h:dG A B P) (k:∀a b,P a b→dG (f a) (g b) Q):dG (A.bind f) (B.bind g) Q:=by
  obtain ⟨a,b,rfl,rfl,hp⟩:=h
  exact k a b hp
theorem dG.l {A:Option α} {B:Option β'} {f:α→Option α'} {a:α} (h:A=some a) (k:dG (f a) B Q):dG (A.bind f) B Q:=by subst h; exact k
theorem dG.r {A:Option α'} {B:Option β} {g:β→Option β'} {b:β} (h:B=some b) (k:dG A (g b) Q):dG A (B.bind g) Q:=by subst h; exact k
theorem dG.sl {ρ:Type} {R:ρ→β'→Prop} {A:Option (cD σ ρ)} {B:Option β'} {f:σ→Option ρ} {a:σ} (h:A=some (.next a)) (k:dG (f a) B R):dG (bg A f) B R:=by subst h; exact k
theorem dG.er {A:Option α'} {B B':Option β'} (h:B=B') (k:dG A B' Q):dG A B Q:=h ▸ k
theorem dG.sb {ρ:Type} {P:cD σ ρ→β→Prop} {R:ρ→β'→Prop} {A:Option (cD σ ρ)} {B:Option β} {f:σ→Option ρ} {g:β→Option β'} (h:dG A B P) (kn:∀a b,P (.next a) b→dG (f a) (g b) R)
    (ks:∀x b,P (.stop x) b→dG (some x) (g b) R):dG (bg A f) (B.bind g) R:=by
  obtain ⟨a,b,rfl,rfl,hp⟩:=h
  cases a with
  | next a=>exact kn a b hp
  | stop x=>exact ks x b hp
theorem dG.on_ret {γ:Type} {x:γ} {k:γ→Option α'} {pp:Int→Option α'} {B:Option β'} (h:dG (k x) B Q):dG ((Rt.ret x).on k pp) B Q:=h
theorem dG.on_pan {γ:Type} {x:Int} {k:γ→Option α'} {pp:Int→Option α'} {B:Option β'} (h:dG (pp x) B Q):dG ((Rt.pan x:Rt γ).on k pp) B Q:=h
theorem eF {α:Type} {b:Bool} {x y r:α} (h:b=true) (k:x=r):(bif b then x else y)=r:=by subst h; exact k
theorem du {α:Type} {b:Bool} {x y r:α} (h:b=false) (k:y=r):(bif b then x else y)=r:=by subst h; exact k
theorem dG.loop {ρ ρ':Type} {Q:ρ→ρ'→Prop} {bA:σ→Option (cD σ ρ)} {bB:τ→Option (cD τ ρ')} (R:σ→τ→Nat→Prop)
    (h:∀m a b,R a b m→(∃a' b' m',bA a=some (.next a')∧bB b=some (.next b')∧m'<m∧R a' b' m')∨
      (∃x,bA a=some (.stop x)∧((∃y,bB b=some (.stop y)∧Q x y)∨∃b' y,bB b=some (.next b')∧bB b'=some (.stop y)∧Q x y))) :
    ∀m kA kB a b,m<kA→m+1<kB→R a b m→dG (aT bA kA a) (aT bB kB b) Q:=by
  intro m
  induction m using Nat.strongRecOn with
  | _ m ih=>
    intro kA kB a b hA hB hR
    obtain ⟨kA,rfl⟩:∃k,kA=k+1:=⟨kA - 1,by omega⟩
    obtain ⟨kB,rfl⟩:∃k,kB=k+2:=⟨kB - 2,by omega⟩
    rcases h m a b hR with ⟨a',b',m',d,c,hm,hR'⟩|⟨x,d,⟨y,c,hq⟩|⟨b',y,c,e,hq⟩⟩
    · have:=ih m' hm kA (kB+1) a' b' (by omega) (by omega) hR'
      simp only [aT,d,c] at this ⊢
      exact this
    · exact ⟨x,y,by simp only [aT,d],by simp only [aT,c],hq⟩
    · exact ⟨x,y,by simp only [aT,d],by simp only [aT,c,e],hq⟩
end
def Ch (br:Bool):Str:=bif br then [93,92,45] else [40,41,91,93,124,42,43,63,46,92]
def pl (br:Bool) (c:Nat):Bool:=decide (32≤c∧c≤126) && !((Ch br).map UInt8.toNat).contains c
theorem xX:∀br,∀c:Nat,c<256→(bif decide ((c:Int)<32) then some true else bif decide (126<(c:Int)) then some true else (M.h1 (Ch br) (c:Int)).bind fun r=>some (decide (0≤r)))=some (!pl br c):=by decide +kernel
theorem zB:∀br,∀c:Nat,c<256→M.i2 (c:Int) br=some (pl br c):=by decide +kernel
theorem zC:∀br,M.i2 (-1) br=some false:=by decide +kernel
def es (c:Nat):Bool:=decide (32≤c∧c≤126) && !(decide (48≤c∧c≤57) || decide (97≤c∧c≤122) || decide (65≤c∧c≤90))
theorem yq:∀c:Nat,c<256→(bif decide ((c:Int)<32) then some true else bif decide (126<(c:Int)) then some true else (M.e6 (c:Int)).bind fun r=>some r)=some (!es c):=by decide +kernel
theorem wC:∀c:Nat,c<256→(bif decide (32≤(c:Int)) then bif decide ((c:Int)≤126) then (M.h2 (c:Int)).bind fun r=>some (!r) else some false else some false)=some (es c):=by decide +kernel
theorem zP:(bif decide ((32:Int)≤-1) then bif decide ((-1:Int)≤126) then (M.h2 (-1)).bind fun r=>some (!r) else some false else some false)=some false:=by decide +kernel
section
variable {s:Str} (hs:s.length≤1000000)
theorem fw {p:Nat} {b:Bool} (h:p<s.length):M.a0 ⟨s,p,b⟩=some ((s[p]).toNat:Int):=by
  unfold M.a0
  simp only [dI (show ¬ (s.length:Int)≤(p:Int) by omega),cond_false,dB h,Option.bind_some]
  rw [ej (by omega) (by have:=(s[p]).toNat_lt; omega)]
theorem jj {b:Bool}:M.a0 ⟨s,(s.length:Nat),b⟩=some (-1):=by
  unfold M.a0
  simp only [dH (show (s.length:Int)≤(s.length:Int) by omega),cond_true]
theorem tV {p:Nat} (h:p<s.length):M.a1 ⟨s,p⟩=some ((s[p]).toNat:Int):=by
  unfold M.a1
  simp only [dH (show (p:Int)<(s.length:Int) by omega),cond_true,dB h,Option.bind_some]
theorem vW:M.a1 ⟨s,(s.length:Nat)⟩=some 0:=by
  unfold M.a1
  simp only [dI (show ¬ (s.length:Int)<(s.length:Int) by omega),cond_false]
def Dl (s:Str) (p:Nat) (a:Rt (Int×aB)) (b:Int×aH):Prop:=
  (∃c q:Nat,p+1≤q∧q≤s.length∧c<256∧a=.ret ((c:Int),⟨s,q⟩)∧b=((c:Int),⟨s,q,false⟩))∨(∃q:Nat,q≤s.length∧a=.pan q∧b=(0,⟨s,q,true⟩))
include hs
theorem tm {p:Nat} (hp:p≤s.length):∃a,M.c8 ⟨s,p⟩=some a∧((∃c:Nat,p<s.length∧c<256∧a=.ret ((c:Int),⟨s,(p+1:Nat)⟩)∧
      (∃h:p<s.length,((s[p]).toNat=110∧c=10)∨((s[p]).toNat≠110∧(s[p]).toNat=116∧c=9)∨((s[p]).toNat≠110∧(s[p]).toNat≠116∧es (s[p]).toNat=true∧c=(s[p]).toNat)))∨
      (a=.pan p∧(p=s.length∨∃h:p<s.length,(s[p]).toNat≠110∧(s[p]).toNat≠116∧es (s[p]).toNat=false))):=by
  unfold M.c8
  rcases Nat.lt_or_eq_of_le hp with h|h
  · have hc:(s[p]).toNat<256:=(s[p]).toNat_lt
    have f:(((p:Nat):Int) == (s.length:Int))=false:=bM (by omega)
    simp only [f,cond_false,bg,dB h,Option.bind_some]
    by_cases b:(s[p]).toNat=110
    · simp only [kb (show ((s[p]).toNat:Int)=110 by omega),cond_true,bc (show p<9223372036854775807 by omega),Option.bind_some]
      exact ⟨_,rfl,.inl ⟨10,h,by omega,rfl,h,.inl ⟨b,rfl⟩⟩⟩
    · by_cases d:(s[p]).toNat=116
      · simp only [bM (show ((s[p]).toNat:Int)≠110 by omega),kb (show ((s[p]).toNat:Int)=116 by omega),cond_false,cond_true,bc (show p<9223372036854775807 by omega),Option.bind_some]
        exact ⟨_,rfl,.inl ⟨9,h,by omega,rfl,h,.inr (.inl ⟨b,d,rfl⟩)⟩⟩
      · simp only [bM (show ((s[p]).toNat:Int)≠110 by omega),bM (show ((s[p]).toNat:Int)≠116 by omega),cond_false,yq _ hc,Option.bind_some]
        cases e:es (s[p]).toNat
        · simp only [Bool.not_false,cond_true,M.a2,Option.bind_some,Rt.on]
          exact ⟨_,rfl,.inr ⟨rfl,.inr ⟨h,b,d,e⟩⟩⟩
        · simp only [Bool.not_true,cond_false,bc (show p<9223372036854775807 by omega),Option.bind_some]
          exact ⟨_,rfl,.inl ⟨_,h,hc,rfl,h,.inr (.inr ⟨b,d,e,rfl⟩)⟩⟩
  · subst h
    simp only [beq_self_eq_true,cond_true,M.a2,Option.bind_some,Rt.on,bg]
    exact ⟨_,rfl,.inr ⟨rfl,.inl trivial⟩⟩
theorem ox {p:Nat} (hp:p≤s.length) (br:Bool):dG (M.b0 ⟨s,p⟩ (Ch br)) (M.a7 ⟨s,p,false⟩ br) (Dl s p):=by
  unfold M.b0 M.a7
  rcases Nat.lt_or_eq_of_le hp with h|h
  · have hc:(s[p]).toNat<256:=(s[p]).toNat_lt
    have g:(((p:Nat):Int) == (s.length:Int))=false:=bM (by omega)
    simp only [g,cond_false,bg,dB h,Option.bind_some,fw h]
    by_cases l:(s[p]).toNat=92
    · simp only [kb (show ((s[p]).toNat:Int)=92 by omega),cond_true,bc (show p<9223372036854775807 by omega),Option.bind_some]
      obtain ⟨a,ha,hcase⟩:=tm hs (p:=p+1) h
      simp only [ha,Option.bind_some]
      rcases hcase with ⟨c,i,j,rfl,hh,hcc⟩|⟨rfl,hh⟩
      · have b:(s[p+1]).toNat<256:=(s[p+1]).toNat_lt
        have e:bU .i64 (((p+1:Nat):Int)+1)=some ((p+1+1:Nat):Int):=bc (by omega)
        simp only [Rt.on,fw hh,Option.bind_some]
        rcases hcc with ⟨g1,rfl⟩|⟨g1,f,rfl⟩|⟨g1,f,d,rfl⟩
        · simp only [kb (show ((s[p+1]).toNat:Int)=110 by omega),cond_true,e,Option.bind_some]
          exact .pure (.inl ⟨10,p+1+1,by omega,hh,by omega,rfl,rfl⟩)
        · simp only [bM (show ((s[p+1]).toNat:Int)≠110 by omega),kb (show ((s[p+1]).toNat:Int)=116 by omega),cond_false,cond_true,e,Option.bind_some]
          exact .pure (.inl ⟨9,p+1+1,by omega,hh,by omega,rfl,rfl⟩)
        · simp only [bM (show ((s[p+1]).toNat:Int)≠110 by omega),bM (show ((s[p+1]).toNat:Int)≠116 by omega),cond_false,wC _ b,d,Option.bind_some,cond_true,e]
          exact .pure (.inl ⟨_,p+1+1,by omega,hh,b,rfl,rfl⟩)
      · simp only [Rt.on]
        rcases hh with hh|⟨hh,g1,f,d⟩
        · rw [hh,jj]
          simp only [Option.bind_some,show ((-1:Int) == 110)=false from rfl,show ((-1:Int) == 116)=false from rfl,cond_false,zP]
          exact .pure (.inr ⟨s.length,Nat.le_refl _,by rw [←hh],rfl⟩)
        · have b:(s[p+1]).toNat<256:=(s[p+1]).toNat_lt
          simp only [fw hh,Option.bind_some,bM (show ((s[p+1]).toNat:Int)≠110 by omega),bM (show ((s[p+1]).toNat:Int)≠116 by omega),cond_false,wC _ b,d]
          exact .pure (.inr ⟨p+1,h,rfl,rfl⟩)
    · simp only [bM (show ((s[p]).toNat:Int)≠92 by omega),cond_false,xX br _ hc,zB br _ hc,Option.bind_some]
      cases k:pl br (s[p]).toNat
      · simp only [Bool.not_false,cond_true,M.a2,Option.bind_some,Rt.on]
        exact .pure (.inr ⟨p,hp,rfl,rfl⟩)
      · simp only [Bool.not_true,cond_false,bc (show p<9223372036854775807 by omega),Option.bind_some]
        exact .pure (.inl ⟨_,p+1,by omega,h,hc,rfl,rfl⟩)
  · subst h
    simp only [beq_self_eq_true,cond_true,M.a2,Option.bind_some,Rt.on,bg,jj,show ((-1:Int) == 92)=false from rfl,cond_false,zC,Bool.not_false]
    exact .pure (.inr ⟨s.length,Nat.le_refl _,rfl,rfl⟩)
end
theorem kr {v:az 4} (hv:W4 v) {c:Nat} (hc:c<256):M.e7 v (c:Int)=some (eo v c):=by
  have a:2 ^ (c % 64)<18446744073709551616:=Nat.pow_lt_pow_right (n:=64) (by omega) (Nat.mod_lt _ (by omega))
  have l:=jg (k:=.i64) (c:=c) (ej (by omega) (by omega))
  have j:=fZ hv (i:=c / 64) (by omega)
  have h:jP (c:Int) 64=some ((c % 64:Nat):Int):=jz (b:=64) (by omega)
  have g:=np (t:=c % 64) (by omega)
  have f:=gq (fY hv (c / 64)) a
  have e:=iR (v:=v) (i:=c / 64) (x:=wd v (c / 64) ||| 2 ^ (c % 64)) (by omega)
  have d:IntKind.u64.wrap ((c % 64:Nat):Int)=((c % 64:Nat):Int):=gR (by omega) (by omega)
  unfold M.e7 eo
  simp only [l,j,h,d,g,f,e,Option.bind_some]
theorem uM {v:az 4} (hv:W4 v):M.k4 v=some (kg v):=gP hv
theorem nf (l:List Nat) {v:az 4} (hv:W4 v):W4 (l.foldl eo v):=rE l v hv
theorem qZ {lo hi:Nat} (h:hi<256):∀b∈fq lo hi,b<256:=by
  intro b hb
  simp only [fq,List.mem_map,List.mem_range] at hb
  obtain ⟨i,hi,rfl⟩:=hb
  omega
theorem qL {v:az 4} (hv:W4 v) {lo hi:Nat} (h:hi<256):kf v (ri (fq lo hi))=(fq lo hi).foldl eo v:=by
  refine xN (xd hv (mq _)) (nf _ hv) fun b hb=>?_
  rw [uY hb,yg (qZ h),pB _ _ (qZ h)]
theorem oh {σ ρ:Type} {body:σ→Option (cD σ ρ)} {a:σ} {r:ρ} (k:Nat) (h:body a=some (.stop r)):aT body (k+1) a=some r:=by simp only [aT,h]
theorem th {σ ρ:Type} {body:σ→Option (cD σ ρ)} {a b:σ} (k:Nat) (h:body a=some (.next b)):aT body (k+1) a=aT body k b:=by simp only [aT,h]
theorem pA:aR=18446744073709551615+1:=by unfold aR; rfl
theorem ia {σ ρ:Type} {body:σ→Option (cD σ ρ)} {a:σ} {r:ρ} (h:body a=some (.stop r)):aT body aR a=some r:=by rw [pA]; exact oh _ h
theorem pw {σ ρ:Type} {body:σ→Option (cD σ ρ)} {a b:σ} (h:body a=some (.next b)):aT body aR a=aT body 18446744073709551615 b:=by rw [pA]; exact th _ h
theorem pg {ρ:Type} {set:az 4} (hv:W4 set) {lo hi:Nat} (hl:lo≤hi) (hh:hi<256) {X:az 4→ρ} {body:az 4×Int→Option (cD (az 4×Int) ρ)}
    (hb:∀v x,body (v,x)=(some (decide (x≤(hi:Int)))).bind fun c=>bif c then (M.e7 v x).bind fun r=>(bU .i64 (x+1)).bind fun t=>some (.next (r,t)) else some (.stop (X v))) :
    aT body aR (set,(lo:Int))=some (X ((fq lo hi).foldl eo set)):=by
  have ib:∀i,i≤hi - lo+1→W4 (((List.range i).map (lo+·)).foldl eo set):=fun i _=>nf _ hv
  refine gj (body:=body) (fun i=>(((List.range i).map (lo+·)).foldl eo set,((lo+i:Nat):Int))) (hi+1 - lo) (fun i hi'=>?_) ?_ aR (jI (by omega))
  · have e:bU .i64 (((lo+i:Nat):Int)+1)=some ((lo+(i+1):Nat):Int):=by rw [cJ (by omega) (by omega)]; rfl
    rw [hb]
    simp only [dH (show ((lo+i:Nat):Int)≤(hi:Int) by omega),Option.bind_some,cond_true,kr (ib i (by omega)) (show lo+i<256 by omega),e]
    rw [List.range_succ,List.map_append,List.foldl_append]
    rfl
  · rw [hb]
    simp only [dI (show ¬ ((lo+(hi+1 - lo):Nat):Int)≤(hi:Int) by omega),Option.bind_some,cond_false]
    rfl
def tR (s:Str) (p:Int) (set:az 4):Option (cD (Str×Int×Bool×(az 4)×Bool) (Str×Int×Bool×(az 4))):=
    (M.a7 (aH.mk s p false) true).bind fun a=>
    (
     (
      bif (!a.2.bad) then
       (M.a0 a.2).bind fun o=>
       some (o == 45)
      else
       some false).bind fun (i:Bool)=>
     bif i then
      (bU .i64 (a.2.atv+1)).bind fun f=>
      (M.a7 (aH.mk a.2.s f a.2.bad) true).bind fun b=>
      (
       bif (!b.2.bad) then
        some (decide (b.1<a.1))
       else
        some false).bind fun (h:Bool)=>
      bif h then
       some (b.2.s,f,true,b.1)
      else
       some (b.2.s,b.2.atv,b.2.bad,b.1)
     else
      some (a.2.s,a.2.atv,a.2.bad,a.1)).bind fun (k,l,e,j)=>
    aT (fun (m:(az 4)×Int)=>match m with
    | (d,c)=>
     (
      bif (!e) then
       some (decide (c≤j))
      else
       some false).bind fun (g:Bool)=>
     bif g then
      (M.e7 d c).bind fun n=>
      (bU .i64 (c+1)).bind fun t46=>
      some (.next (n,t46))
     else
      some (.stop (.next (k,l,e,d,false)))) aR (set,a.1)
section
variable {s:Str} (hs:s.length≤1000000)
theorem fD {q:Nat} (hq:q≤s.length):∃x y,M.a1 ⟨s,q⟩=some x∧M.a0 ⟨s,q,false⟩=some y∧(∀v:Int,v≠0→v≠-1→(x == v)=(y == v))∧(∀v:Int,v≠0→x=v→q<s.length):=by
  rcases Nat.lt_or_eq_of_le hq with h|h
  · exact ⟨_,_,tV h,fw h,fun _ _ _=>rfl,fun _ _ _=>h⟩
  · subst h
    exact ⟨_,_,vW,jj,fun v b a=>by rw [bM (fun e=>b e.symm),bM (fun e=>a e.symm)],fun v b a=>absurd a.symm b⟩
def Dk (s:Str) (p:Nat) (set:az 4) (a:Rt ((az 4)×aB)) (b:cD (Str×Int×Bool×(az 4)×Bool) (Str×Int×Bool×(az 4))):Prop:=
  (∃lo hi q:Nat,p+1≤q∧q≤s.length∧lo≤hi∧hi<256∧a=.ret (ri (fq lo hi),⟨s,q⟩)∧b=.next (s,q,false,(fq lo hi).foldl eo set,false))∨
  (∃q:Nat,q≤s.length∧a=.pan q∧b=.next (s,q,true,set,false))
include hs
theorem rJ {p:Nat} (hp:p≤s.length) {set:az 4} (hv:W4 set):dG (M.b4 ⟨s,p⟩) (tR s p set) (Dk s p set):=by
  unfold M.b4 tR
  have u:=ox hs hp true
  refine dG.bb u ?_
  rintro a b (⟨c,q,k,i,hc,rfl,rfl⟩|⟨q,hq,rfl,rfl⟩)
  · simp only [Rt.on]
    obtain ⟨x,y,hx,hy,hxy,hlt⟩:=fD i
    have o:=hxy 45 (by decide) (by decide)
    simp only [Bool.not_false,cond_true,hx,hy,Option.bind_some]
    rw [←o]
    cases h:(x == (45:Int))
    · refine dG.sl rfl (dG.l (oE hc hc) (dG.r (b:=(s,(q:Int),false,(c:Int))) rfl ?_))
      refine ⟨_,_,rfl,pg hv (Nat.le_refl c) hc (X:=fun v=>.next (s,(q:Int),false,v,false)) (fun v x=>rfl),.inl ⟨c,c,q,k,i,Nat.le_refl _,hc,rfl,rfl⟩⟩
    · have g:=hlt 45 (by decide) (cS h)
      simp only [cond_true,bc (show q<9223372036854775807 by omega),Option.bind_some]
      have t:=ox hs (p:=q+1) g true
      obtain ⟨w,A,n,m,hcase⟩:=t
      have ha2':M.b0 ⟨s,((q+1:Nat):Int)⟩ [93,92,45]=some w:=n
      simp only [ha2',m,Option.bind_some]
      rcases hcase with ⟨c2,d,f,j,e,rfl,rfl⟩|⟨d,f,rfl,rfl⟩
      · simp only [Rt.on,Bool.not_false,cond_true,Option.bind_some]
        by_cases z:c2<c
        · simp only [dH (show (c2:Int)<(c:Int) by omega),cond_true,M.a2,Option.bind_some,Rt.on,bg]
          exact ⟨_,_,rfl,ia rfl,.inr ⟨q+1,g,rfl,rfl⟩⟩
        · rw [show decide ((c2:Int)<(c:Int))=false from dI (by omega)]
          refine dG.sl rfl (dG.l (oE hc e) (dG.r (b:=(s,(d:Int),false,(c2:Int))) rfl ?_))
          exact ⟨_,_,rfl,pg hv (by omega:c≤c2) e (X:=fun v=>.next (s,(d:Int),false,v,false)) (fun v x=>rfl),.inl ⟨c,c2,d,by omega,j,by omega,e,rfl,rfl⟩⟩
      · simp only [Rt.on,Bool.not_true,cond_false,Option.bind_some,bg]
        exact ⟨_,_,rfl,ia rfl,.inr ⟨d,f,rfl,rfl⟩⟩
  · simp only [Rt.on,Bool.not_true,cond_false,Option.bind_some]
    exact ⟨_,_,rfl,ia rfl,.inr ⟨q,hq,rfl,rfl⟩⟩
def Dm (s:Str) (p:Nat) (a:Rt ((az 4)×aB)) (b:T_Regex×aH):Prop:=
  (∃(set:az 4) (q:Nat),p+1≤q∧q≤s.length∧W4 set∧a=.ret (set,⟨s,q⟩)∧b=(⟨3,set,[]⟩,⟨s,q,false⟩))∨(∃(q:Nat) (y:T_Regex),q≤s.length∧a=.pan q∧b=(y,⟨s,q,true⟩))
theorem rU {p:Nat} (hp:p<s.length) (A:(s[p]).toNat=91):dG (M.c4 ⟨s,p⟩) (M.b9 ⟨s,(p+1:Nat),false⟩) (Dm s p):=by
  unfold M.c4 M.b9
  have hex:M.a3 ⟨s,p⟩ 91=some (.ret ⟨s,(p+1:Nat)⟩):=by
    unfold M.a3
    simp only [bM (show (p:Int)≠(s.length:Int) by omega),cond_false,dB hp,Option.bind_some,mx (show ((s[p]).toNat:Int)=91 by omega),bg,bc (show p<9223372036854775807 by omega)]
  obtain ⟨x,y,hx,hy,hxy,hlt⟩:=fD (s:=s) (q:=p+1) hp
  have u:=hxy 94 (by decide) (by decide)
  simp only [hex,Option.bind_some,Rt.on,hx,hy]
  rw [←u]
  -- the place behind the sign
  obtain ⟨d,t,z,hsel⟩:∃d:Nat,d≤s.length∧p+1≤d∧(bif x == (94:Int) then (bU .i64 (((p+1:Nat):Int)+1)).bind fun n=>some n else some ((p+1:Nat):Int))=some (d:Int):=by
    cases h:(x == (94:Int))
    · exact ⟨p+1,hp,Nat.le_refl _,rfl⟩
    · have:=hlt 94 (by decide) (cS h)
      exact ⟨p+2,by omega,by omega,by rw [cond_true,bc (by omega)]; rfl⟩
  generalize hng:(x == (94:Int))=ng at hsel ⊢
  refine dG.l hsel (dG.r hsel ?_)
  obtain ⟨w,v,g,c,hcase⟩:=rJ hs t eP
  refine dG.l g ?_
  rcases hcase with ⟨lo,hi,q,o,j,hlh,hhi,rfl,rfl⟩|⟨q,hq,rfl,rfl⟩
  · refine dG.sb (P:=fun (a:cD (Str×Int×(az 4)) (Rt ((az 4)×aB))) (b:Str×Int×Bool×(az 4))=>
        (∃(q:Nat) (set:az 4),q<s.length∧p+1≤q∧W4 set∧a=.next (s,(q:Int),set)∧b=(s,(q:Int),false,set))∨(∃(q:Nat) (set:az 4),q≤s.length∧a=.stop (.pan q)∧b=(s,(q:Int),true,set)))
      (dG.er (pw c) (dG.loop (fun (a:Str×Int×(az 4)) (b:Str×Int×Bool×(az 4)×Bool) m=>∃(q:Nat) (set:az 4),q≤s.length∧p+1≤q∧W4 set∧a=(s,(q:Int),set)∧b=(s,(q:Int),false,set,false)∧m=s.length - q) ?_
        (s.length - q) _ _ _ _ (by unfold aR; omega) (by omega) ⟨q,(fq lo hi).foldl eo (az.zero 4),j,by omega,nf _ eP,rfl,rfl,rfl⟩)) ?_ ?_
    · rintro m _ _ ⟨q,set,hq,hpq,hv,rfl,rfl,rfl⟩
      obtain ⟨x,y,hx,hy,hxy,hlt⟩:=fD hq
      have k:=hxy 93 (by decide) (by decide)
      cases h:(x == (93:Int))
      · have c:(x != (93:Int))=true:=by rw [bne,h]; rfl
        have f:(y != (93:Int))=true:=by rw [bne,←k,h]; rfl
        obtain ⟨w,v,g,hb1',hcase⟩:=rJ hs hq hv
        rcases hcase with ⟨lo,hi,q',o,j,hlh,hhi,rfl,rfl⟩|⟨q',hq',rfl,rfl⟩
        · refine .inl ⟨(s,(q':Int),kf set (ri (fq lo hi))),_,s.length - q',aL hx (eF c (aL g (aL (xe hv (mq _)) rfl))),aL (x:=true) (aL hy (congrArg some f)) hb1',by omega,?_⟩
          exact ⟨q',_,j,by omega,nf _ hv,by rw [qL hv hhi],rfl,rfl⟩
        · refine .inr ⟨.stop (.pan q'),aL hx (eF c (aL g rfl)),.inr ⟨(s,(q':Int),true,set,false),(s,(q':Int),true,set),aL (x:=true) (aL hy (congrArg some f)) hb1',rfl,?_⟩⟩
          exact .inr ⟨q',set,hq',rfl,rfl⟩
      · have c:(x != (93:Int))=false:=by rw [bne,h]; rfl
        have f:(y != (93:Int))=false:=by rw [bne,←k,h]; rfl
        refine .inr ⟨.next (s,(q:Int),set),aL hx (du c rfl),.inl ⟨(s,(q:Int),false,set),aL (x:=false) (aL hy (congrArg some f)) rfl,?_⟩⟩
        exact .inl ⟨q,set,hlt 93 (by decide) (cS h),hpq,hv,rfl,rfl⟩
    · rintro a b (⟨q,set,hq,hpq,hv,e,rfl⟩|⟨q,set,hq,e,rfl⟩)
      · cases e
        refine dG.l (bc (i:=q) (by omega)) (dG.r (bc (i:=q) (by omega)) ?_)
        cases ng
        · exact .pure (.inl ⟨set,q+1,by omega,hq,hv,rfl,rfl⟩)
        · exact dG.l (gP hv) (dG.r (b:=kg set) (aL (uM hv) rfl) (.pure (.inl ⟨kg set,q+1,by omega,hq,sh hv,rfl,rfl⟩)))
      · cases e
    · rintro x b (⟨q,set,hq,hpq,hv,e,rfl⟩|⟨q,set,hq,e,rfl⟩)
      · cases e
      · cases e
        exact .pure (.inr ⟨q,_,hq,rfl,rfl⟩)
  · exact dG.r (b:=(s,(q:Int),true,az.zero 4)) ((pw c).trans (oh 18446744073709551614 rfl)) (.pure (.inr ⟨q,_,hq,rfl,rfl⟩))
end
end Go.Proofs.YtlcdifnmkafcfaaGreat
namespace Go.Proofs.YtlcdifnmkafcfaaGreat
open Go.Lx
theorem pz {k:Int} (h:0≤k∧k≤10):uE .i64 k:=⟨by show (-9223372036854775808:Int)≤k; omega,by show k≤(9223372036854775807:Int); omega⟩
theorem vb:∀x∈(az.zero 4).1,uE .u64 x:=fun x hx=>by simp [az.zero] at hx; subst hx; exact ⟨by decide,by decide⟩
theorem fj {k:Int} {l:List T_Regex} (hk:0≤k∧k≤10) (hl:l.length≤2000000) (h:∀y∈l,bP y):bP ⟨k,az.zero 4,l⟩:=
  .mk _ (pz hk) vb h (Nat.le_trans hl (by decide))
theorem qd {v:az 4} (hv:W4 v):bP ⟨3,v,[]⟩:=
  .mk _ (pz (k:=3) (by omega)) (fun x hx=>by have:=hv x hx; exact ⟨by show (0:Int)≤x; omega,by show x≤(18446744073709551615:Int); omega⟩) (fun _ h=>by cases h) (by show 0≤maxLen; omega)
theorem rz {l:List T_Regex} {h:Nat} (hh:∀y∈l,height y≤h):bK l≤h:=by
  induction l with
  | nil=>simp [bK]
  | cons y l ih=>
    have:=hh y (by simp)
    have:=ih fun z hz=>hh z (by simp [hz])
    simp only [bK]; omega
def Bp (x:T_Regex) (c:Nat):Prop:=parts x≤c*2 ^ height x
def Bl (l:List T_Regex) (c:Nat):Prop:=bm l≤c*2 ^ bK l
theorem Bp.more {x:T_Regex} {c d:Nat} (h:Bp x c) (hd:c≤d):Bp x d:=Nat.le_trans h (Nat.mul_le_mul_right _ hd)
theorem Bl.more {l:List T_Regex} {c d:Nat} (h:Bl l c) (hd:c≤d):Bl l d:=Nat.le_trans h (Nat.mul_le_mul_right _ hd)
theorem Bl.nil (c:Nat):Bl [] c:=Nat.zero_le _
theorem nV (k:Nat):1≤2 ^ k:=Nat.one_le_two_pow
theorem Bl.snoc {l:List T_Regex} {x:T_Regex} {c d:Nat} (h:Bl l c) (hx:Bp x d):Bl (l++[x]) (c+d):=by
  unfold Bl
  rw [gK,jn]
  simp only [bm,bK,Nat.add_zero,Nat.max_zero]
  rw [Nat.add_mul]
  exact Nat.add_le_add (Nat.le_trans h (Nat.mul_le_mul_left _ (Nat.pow_le_pow_right (by omega) (by omega)))) (Nat.le_trans hx (Nat.mul_le_mul_left _ (Nat.pow_le_pow_right (by omega) (by omega))))
theorem Bl.one {x:T_Regex} {c:Nat} (hx:Bp x c):Bl [x] c:=by
  unfold Bl
  simp only [bm,bK,Nat.add_zero,Nat.max_zero]
  exact hx
theorem Bl.node {l:List T_Regex} {c:Nat} (h:Bl l c) (hc:1≤c) (k:Int) (s:az 4):Bp ⟨k,s,l⟩ c:=by
  unfold Bp
  simp only [parts,height]
  have a:=nV (bK l)
  have e:1≤c*2 ^ bK l:=Nat.le_trans hc (Nat.le_mul_of_pos_right _ a)
  have d:c*2 ^ (bK l+1)=c*2 ^ bK l+c*2 ^ bK l:=by rw [Nat.pow_succ,←Nat.mul_assoc,Nat.mul_two]
  have b:bm l≤c*2 ^ bK l:=h
  omega
theorem Bl.of1 {y:T_Regex} {c:Nat} (h:Bl [y] c):Bp y c:=by
  unfold Bl at h
  unfold Bp
  simpa only [bm,bK,Nat.add_zero,Nat.max_zero] using h
theorem Bp.leaf (k:Int) (s:az 4) {c:Nat} (hc:1≤c):Bp ⟨k,s,[]⟩ c:=Bl.node (Bl.nil c) hc k s
theorem Bp.opt {z:T_Regex} {c:Nat} (h:Bp z c) (hc:1≤c) (k:Int) (s s':az 4) (k':Int):Bp ⟨k,s,[z,⟨k',s',[]⟩]⟩ (c+1):=by
  have:=(Bl.one h).snoc (Bp.leaf k' s' (c:=1) (by omega))
  exact this.node (by omega) k s
theorem Bp.more1 {z:T_Regex} {c:Nat} (h:Bp z c) (hc:1≤c) (k k':Int) (s s':az 4):Bp ⟨k,s,[z,⟨k',s',[z]⟩]⟩ c:=by
  unfold Bp at h ⊢
  simp only [parts,bm,height,bK,Nat.add_zero,Nat.max_zero]
  rw [show max (height z) (height z+1)+1=height z+2 by omega,Nat.pow_add,show 2 ^ 2=4 from rfl,←Nat.mul_assoc]
  have:=Nat.le_trans hc (Nat.le_mul_of_pos_right c (nV (height z)))
  omega
def xg (s:Str) (p k d:Nat) (a:Rt (T_Regex×aB)) (b:T_Regex×aH):Prop:=
  (∃(x:T_Regex) (q:Nat),p+d≤q∧q≤s.length∧bP x∧(height x≤3*(q - p)+k∧Bp x (q - p+1 - d))∧a=.ret (x,⟨s,q⟩)∧b=(x,⟨s,q,false⟩))∨(∃(q:Nat) (y:T_Regex),q≤s.length∧a=.pan q∧b=(y,⟨s,q,true⟩))
theorem zX:M.i6=M.k8:=by decide +kernel
theorem wG:M.i6=some (kg (ri [10])):=by
  unfold M.i6
  have h:M.h4 [10]=some (ri [10]):=BO (s:=[10]) (by decide)
  rw [h,Option.bind_some,gP (mq _),Option.bind_some]
theorem uO (b:Nat):fq b b=[b]:=by unfold fq; rw [show b+1 - b=1 by omega]; rfl
theorem vm {s:Str} {q:Nat} (hs:s.length≤1000000) (h:q<s.length) (a:(s[q]).toNat=41):M.a3 ⟨s,q⟩ 41=some (.ret ⟨s,(q+1:Nat)⟩):=by
  unfold M.a3
  refine cR (aL (x:=false) (du (bM (show (q:Int)≠(s.length:Int) by omega)) (aL (dB h) (congrArg some (mx (show ((s[q]).toNat:Int)=41 by omega))))) rfl) (aL (bc (show q<9223372036854775807 by omega)) rfl)
theorem vl {s:Str} {q:Nat} (h:q<s.length) (h1:(s[q]).toNat≠41):M.a3 ⟨s,q⟩ 41=some (.pan q):=by
  unfold M.a3
  exact dT (aL (x:=true) (du (bM (show (q:Int)≠(s.length:Int) by omega)) (aL (dB h) (congrArg some (ij (show ((s[q]).toNat:Int)≠41 by omega))))) rfl)
theorem tl {s:Str}:M.a3 ⟨s,(s.length:Nat)⟩ 41=some (.pan (s.length:Nat)):=by
  unfold M.a3
  exact dT (aL (x:=true) (eF (kb rfl) rfl) rfl)
section
variable {s:Str} (hs:s.length≤1000000)
def PA (s:Str) (m:Nat):Prop:=∀p:Nat,p≤s.length→s.length - p≤m→∀fl,4*m+1≤fl→dG (M.c6 fl ⟨s,p⟩) (M.c7 fl ⟨s,p,false⟩) (xg s p 0 1)
def PP (s:Str) (m:Nat):Prop:=∀p:Nat,p≤s.length→s.length - p≤m→∀fl,4*m+2≤fl→dG (M.b7 fl ⟨s,p⟩) (M.b8 fl ⟨s,p,false⟩) (xg s p 0 1)
def PB (s:Str) (m:Nat):Prop:=∀p:Nat,p≤s.length→s.length - p≤m→∀fl,4*m+3≤fl→dG (M.a8 fl ⟨s,p⟩) (M.a9 fl ⟨s,p,false⟩) (xg s p 1 0)
def PR (s:Str) (m:Nat):Prop:=∀p:Nat,p≤s.length→s.length - p≤m→∀fl,4*m+4≤fl→dG (M.b2 fl ⟨s,p⟩) (M.b3 fl ⟨s,p,false⟩) (xg s p 2 0)
include hs
theorem wX {m:Nat} (h:∀m',m'<m→PR s m'):PA s m:=by
  intro p hp hm fl hfl
  obtain ⟨fl,rfl⟩:∃f,fl=f+1:=⟨fl - 1,by omega⟩
  unfold M.c6 M.c7
  obtain ⟨x,y,hx,hy,hxy,hlt⟩:=fD hp
  refine dG.l hx (dG.r hy ?_)
  rw [←hxy 40 (by decide) (by decide),←hxy 91 (by decide) (by decide),←hxy 46 (by decide) (by decide)]
  cases n:(x == (40:Int))
  · cases g:(x == (91:Int))
    · cases k:(x == (46:Int))
      · refine dG.bb (ox hs hp false) ?_
        rintro a b (⟨c,q,e,d,hc,rfl,rfl⟩|⟨q,hq,rfl,rfl⟩)
        · refine dG.l (oE hc hc) (dG.r (b:=⟨3,eo (az.zero 4) c,[]⟩) ?_ (.pure (.inl ⟨⟨3,eo (az.zero 4) c,[]⟩,q,e,d,qd (sg eP c),⟨?_,Bp.leaf _ _ (by omega)⟩,?_,rfl⟩)))
          · unfold M.k3
            exact aL (kr eP hc) rfl
          · simp only [height,bK]; omega
          · rw [uO]; rfl
        · refine dG.r (b:=⟨3,eo (az.zero 4) 0,[]⟩) ?_ (.pure (.inr ⟨q,_,hq,rfl,rfl⟩))
          unfold M.k3
          exact aL (kr eP (c:=0) (by omega)) rfl
      · have hlt':=hlt 46 (by decide) (cS k)
        refine dG.l (bc (i:=p) (by omega)) (dG.l wG (dG.r (bc (i:=p) (by omega)) (dG.r (zX.symm.trans wG) (.pure (.inl ⟨_,p+1,Nat.le_refl _,hlt',qd (sh (mq _)),⟨?_,Bp.leaf _ _ (by omega)⟩,rfl,rfl⟩)))))
        simp only [height,bK]; omega
    · have hlt':=hlt 91 (by decide) (cS g)
      have h91':(s[p]).toNat=91:=by
        rw [tV hlt'] at hx
        have:=Option.some.inj hx
        have:=cS g
        omega
      refine dG.r (bc (i:=p) (by omega)) (dG.bb (rU hs hlt' h91') ?_)
      rintro a b (⟨set,q,e,d,hv,rfl,rfl⟩|⟨q,y,hq,rfl,rfl⟩)
      · refine .pure (.inl ⟨⟨3,set,[]⟩,q,e,d,qd hv,⟨?_,Bp.leaf _ _ (by omega)⟩,rfl,rfl⟩)
        simp only [height,bK]; omega
      · exact .pure (.inr ⟨q,_,hq,rfl,rfl⟩)
  · have hlt':=hlt 40 (by decide) (cS n)
    refine dG.l (bc (i:=p) (by omega)) (dG.r (bc (i:=p) (by omega)) ?_)
    refine dG.bb (h (m - 1) (by omega) (p+1) hlt' (by omega) fl (by omega)) ?_
    rintro a b (⟨z,q,e,d,hok,hh,rfl,rfl⟩|⟨q,y,hq,rfl,rfl⟩)
    · rcases Nat.lt_or_eq_of_le d with hq|hq
      · by_cases j:(s[q]).toNat=41
        · refine dG.l (vm hs hq j) (dG.r (fw hq) ?_)
          rw [mx (show ((s[q]).toNat:Int)=41 by omega)]
          exact dG.r (bc (i:=q) (by omega)) (.pure (.inl ⟨z,q+1,by omega,hq,hok,⟨by omega,hh.2.more (by omega)⟩,rfl,rfl⟩))
        · refine dG.l (vl hq j) (dG.r (fw hq) ?_)
          rw [ij (show ((s[q]).toNat:Int)≠41 by omega)]
          exact .pure (.inr ⟨q,_,d,rfl,rfl⟩)
      · subst hq
        exact dG.l tl (dG.r jj (.pure (.inr ⟨s.length,_,d,rfl,rfl⟩)))
    · exact .pure (.inr ⟨q,_,hq,rfl,rfl⟩)
theorem sB {m:Nat} (h:PA s m):PP s m:=by
  intro p hp hm fl hfl
  obtain ⟨fl,rfl⟩:∃f,fl=f+1:=⟨fl - 1,by omega⟩
  unfold M.b7 M.b8
  refine dG.bb (h p hp hm fl (by omega)) ?_
  rintro a b (⟨z,q,J,A,hok,hh,rfl,rfl⟩|⟨q,y,hq,rfl,rfl⟩)
  · refine dG.on_ret ?_
    have ib:=dG.loop (Q:=fun (a:Rt (T_Regex×aB)) (b:cD (Int×az 4×List T_Regex×Int) (T_Regex×aH))=>∃c,b=.stop c∧xg s p 0 1 a c)
      (bA:=fun (D:Int×Int×(az 4)×(List T_Regex))=>match D with
        | (I,r,o,t)=>bg ((M.a1 (aB.mk s I)).bind fun H=>
            bif (H == 42) then some (.next ((6:Int),([(T_Regex.mk r o t)]:(List T_Regex))))
            else bif (H == 43) then some (.next ((4:Int),([(T_Regex.mk r o t),(T_Regex.mk 6 (az.zero 4) [(T_Regex.mk r o t)])]:(List T_Regex))))
            else bif (H == 63) then some (.next ((5:Int),([(T_Regex.mk r o t),(T_Regex.mk 2 (az.zero 4) [])]:(List T_Regex))))
            else some (.stop (.stop (.ret ((T_Regex.mk r o t),(aB.mk s I)))))) fun (W,P)=>
          (bU .i64 (I+1)).bind fun t3=>some (.next (t3,W,(az.zero 4),P)))
      (bB:=fun (D:Int×Int×(az 4)×(List T_Regex))=>match D with
        | (v,n,j,g)=>bif (!false) then bg ((M.a0 (aH.mk s v false)).bind fun G=>
            bif (G == 42) then (M.h3 (T_Regex.mk n j g)).bind fun F=>some (.next (F.Kind,F.Set,F.Kids))
            else bif (G == 43) then (M.h3 (T_Regex.mk n j g)).bind fun S=>some (.next ((4:Int),(az.zero 4),([(T_Regex.mk n j g),S]:(List T_Regex))))
            else bif (G == 63) then some (.next ((5:Int),(az.zero 4),([(T_Regex.mk n j g),(T_Regex.mk 2 (az.zero 4) [])]:(List T_Regex))))
            else some (.stop (.stop (.stop ((T_Regex.mk n j g),(aH.mk s v false)))))) fun (V,U,T)=>
          (bU .i64 (v+1)).bind fun R=>some (.next (R,V,U,T))
          else some (.stop (.next (n,j,g,v))))
      (fun a b m=>∃(z:T_Regex) (q:Nat),p+1≤q∧q≤s.length∧bP z∧(height z≤3*(q - p)∧Bp z (q - p))∧a=((q:Int),z.Kind,z.Set,z.Kids)∧b=((q:Int),z.Kind,z.Set,z.Kids)∧m=s.length - q) ?_
      (s.length - q) aR aR ((q:Int),z.Kind,z.Set,z.Kids) ((q:Int),z.Kind,z.Set,z.Kids) (by unfold aR; omega) (by unfold aR; omega) ⟨z,q,J,A,hok,hh,rfl,rfl,rfl⟩
    · obtain ⟨a,b,ha,hb,c,rfl,hc⟩:=ib
      exact ⟨a,c,ha,dT hb,hc⟩
    · rintro m _ _ ⟨⟨k,st,l⟩,q,J,A,hok,hh,rfl,rfl,rfl⟩
      obtain ⟨x,y,hx,hy,hxy,hlt⟩:=fD A
      have B:=hxy 42 (by decide) (by decide)
      have K:=hxy 43 (by decide) (by decide)
      have N:=hxy 63 (by decide) (by decide)
      have L:∀w∈[(⟨k,st,l⟩:T_Regex)],bP w:=fun w hw=>by rw [List.mem_singleton.1 hw]; exact hok
      cases d:(x == (42:Int))
      · cases e:(x == (43:Int))
        · cases u:(x == (63:Int))
          · refine .inr ⟨_,dT (aL hx (du d (du e (du u rfl)))),.inl ⟨_,dT (aL hy (du (B ▸ d) (du (K ▸ e) (du (N ▸ u) rfl)))),_,rfl,.inl ⟨_,q,J,A,hok,hh,rfl,rfl⟩⟩⟩
          · have hl:=hlt 63 (by decide) (cS u)
            refine .inl ⟨_,_,s.length - (q+1),cR (aL hx (du d (du e (eF u rfl)))) (aL (bc (i:=q) (by omega)) rfl),
              cR (aL hy (du (B ▸ d) (du (K ▸ e) (eF (N ▸ u) rfl)))) (aL (bc (i:=q) (by omega)) rfl),by omega,⟨5,az.zero 4,[⟨k,st,l⟩,⟨2,az.zero 4,[]⟩]⟩,q+1,by omega,hl,?_,⟨?_,(hh.2.opt (by omega) _ _ _ _).more (by omega)⟩,rfl,rfl,rfl⟩
            · refine fj (by omega) (by simp) fun w hw=>?_
              rcases List.mem_cons.1 hw with rfl|hw
              · exact hok
              · rw [List.mem_singleton.1 hw]; exact fj (by omega) (by simp) (by simp)
            · have:height (⟨5,az.zero 4,[⟨k,st,l⟩,⟨2,az.zero 4,[]⟩]⟩:T_Regex)≤height (⟨k,st,l⟩:T_Regex)+1:=by simp only [height,bK]; omega
              omega
        · have hl:=hlt 43 (by decide) (cS e)
          refine .inl ⟨_,_,s.length - (q+1),cR (aL hx (du d (eF e rfl))) (aL (bc (i:=q) (by omega)) rfl),
            cR (aL hy (du (B ▸ d) (eF (K ▸ e) rfl))) (aL (bc (i:=q) (by omega)) rfl),by omega,⟨4,az.zero 4,[⟨k,st,l⟩,⟨6,az.zero 4,[⟨k,st,l⟩]⟩]⟩,q+1,by omega,hl,?_,⟨?_,(hh.2.more1 (by omega) _ _ _ _).more (by omega)⟩,rfl,rfl,rfl⟩
          · refine fj (by omega) (by simp) fun w hw=>?_
            rcases List.mem_cons.1 hw with rfl|hw
            · exact hok
            · rw [List.mem_singleton.1 hw]; exact fj (by omega) (by simp) L
          · have:height (⟨4,az.zero 4,[⟨k,st,l⟩,⟨6,az.zero 4,[⟨k,st,l⟩]⟩]⟩:T_Regex)≤height (⟨k,st,l⟩:T_Regex)+2:=by simp only [height,bK]; omega
            omega
      · have hl:=hlt 42 (by decide) (cS d)
        refine .inl ⟨_,_,s.length - (q+1),cR (aL hx (eF d rfl)) (aL (bc (i:=q) (by omega)) rfl),
          cR (aL hy (eF (B ▸ d) rfl)) (aL (bc (i:=q) (by omega)) rfl),by omega,⟨6,az.zero 4,[⟨k,st,l⟩]⟩,q+1,by omega,hl,fj (by omega) (by simp) L,⟨?_,((Bl.one hh.2).node (by omega) _ _).more (by omega)⟩,rfl,rfl,rfl⟩
        have:height (⟨6,az.zero 4,[⟨k,st,l⟩]⟩:T_Regex)≤height (⟨k,st,l⟩:T_Regex)+1:=by simp only [height,bK]; omega
        omega
  · exact ⟨_,(⟨y.Kind,y.Set,y.Kids⟩,⟨s,q,true⟩),rfl,cR (ia rfl) rfl,.inr ⟨q,_,hq,rfl,rfl⟩⟩
omit hs in
theorem rA (k:Int) (l:List T_Regex) (hl:l≠[]):∃x,M.h6 k l=some x∧((∃y,l=[y]∧x=y)∨(2≤l.length∧x=⟨k,az.zero 4,l⟩)):=by
  match l with
  | []=>exact absurd rfl hl
  | [y]=>exact ⟨y,rfl,.inl ⟨y,rfl,rfl⟩⟩
  | y::z::l=>
    refine ⟨_,du (bM (by simp only [List.length_cons]; omega)) rfl,.inr ⟨by simp only [List.length_cons]; omega,rfl⟩⟩
omit hs in
theorem vZ {l:List T_Regex} (h:2≤l.length):((l.length:Int) == 1)=false:=bM (by omega)
omit hs in
theorem rO {q:Nat} (hq:q≤s.length):∃g,((bif (decide ((q:Int)<(s.length:Int))) then (fa s q).bind fun a=>bif (a != 124) then some (a != 41) else some false else some false)=some g)∧
    ((bif (!false) then (M.a0 (aH.mk s q false)).bind fun d=>bif (d != (-1)) then (M.a0 (aH.mk s q false)).bind fun c=>
      bif (c != 124) then (M.a0 (aH.mk s q false)).bind fun b=>some (b != 41) else some false else some false else some false)=some g)∧(g=true→q<s.length):=by
  rcases Nat.lt_or_eq_of_le hq with h|h
  · refine ⟨bif (((s[q]).toNat:Int) != 124) then (((s[q]).toNat:Int) != 41) else false,eF (dH (by omega)) (aL (dB h) ?_),aL (fw h) (eF (ij (by omega)) (aL (fw h) ?_)),fun _=>h⟩
    · cases (((s[q]).toNat:Int) != 124) <;> rfl
    · cases (((s[q]).toNat:Int) != 124)
      · rfl
      · exact aL (fw h) rfl
  · subst h
    exact ⟨false,du (dI (by omega)) rfl,aL jj rfl,fun h=>by cases h⟩
def ke (h:Nat) (l:List T_Regex):Prop:=∀y∈l,bP y∧height y≤h
omit hs in
theorem ke.snoc {h h':Nat} {l:List T_Regex} {x:T_Regex} (hl:ke h l) (hh:h≤h') (hx:bP x∧height x≤h'):ke h' (l++[x]):=by
  intro y hy
  rcases List.mem_append.1 hy with hy|hy
  · exact ⟨(hl y hy).1,Nat.le_trans (hl y hy).2 hh⟩
  · rw [List.mem_singleton.1 hy]; exact hx
omit hs in
theorem ke.node {h:Nat} {l:List T_Regex} (hl:ke h l) {k:Int} (hk:0≤k∧k≤10) (hn:l.length≤2000000):bP ⟨k,az.zero 4,l⟩∧height (⟨k,az.zero 4,l⟩:T_Regex)≤h+1:=by
  refine ⟨fj hk hn fun y hy=>(hl y hy).1,?_⟩
  have:=rz fun y hy=>(hl y hy).2
  simp only [height]; omega
theorem tq {m:Nat} (h:PP s m):PB s m:=by
  intro p hp hm fl hfl
  obtain ⟨fl,rfl⟩:∃f,fl=f+1:=⟨fl - 1,by omega⟩
  unfold M.a8 M.a9
  refine dG.sb (P:=fun (a:cD (List T_Regex×Str×Int) (Rt (T_Regex×aB))) (b:List T_Regex×Str×Int×Bool)=>
      (∃(l:List T_Regex) (q:Nat),p≤q∧q≤s.length∧(ke (3*(q - p)) l∧Bl l (q - p))∧l.length≤q - p∧a=.next (l,s,(q:Int))∧b=(l,s,(q:Int),false))∨(∃(l:List T_Regex) (q:Nat),q≤s.length∧a=.stop (.pan q)∧b=(l,s,(q:Int),true)))
    (dG.loop (fun (a:Str×Int×(List T_Regex)) (b:Str×Int×Bool×(List T_Regex)) k=>∃(l:List T_Regex) (q:Nat),p≤q∧q≤s.length∧(ke (3*(q - p)) l∧Bl l (q - p))∧l.length≤q - p∧a=(s,(q:Int),l)∧b=(s,(q:Int),false,l)∧k=s.length - q) ?_
      (s.length - p) _ _ _ _ (by unfold aR; omega) (by unfold aR; omega) ⟨[],p,Nat.le_refl _,hp,⟨(show ke (3*(p - p)) [] from fun y hy=>absurd hy (by simp)),Bl.nil _⟩,by simp,rfl,rfl,rfl⟩) ?_ ?_
  · rintro k _ _ ⟨l,q,hpq,hq,hg,hl,rfl,rfl,rfl⟩
    obtain ⟨g,gA,gB,hlt⟩:=rO hq
    cases g
    · exact .inr ⟨.next (l,s,(q:Int)),aL gA rfl,.inl ⟨(l,s,(q:Int),false),aL gB rfl,.inl ⟨l,q,hpq,hq,hg,hl,rfl,rfl⟩⟩⟩
    · obtain ⟨u,t,j,i,hcase⟩:=h q hq (by omega) fl (by omega)
      rcases hcase with ⟨x,q',r,n,hok,hh,rfl,rfl⟩|⟨q',y,hq',rfl,rfl⟩
      · have happ:cO 64 l [x]=some (l++[x]):=cV (by simp only [List.length_singleton]; omega)
        refine .inl ⟨(s,(q':Int),l++[x]),(s,(q':Int),false,l++[x]),s.length - q',aL gA (aL j (aL happ rfl)),aL gB (aL i (aL happ rfl)),by omega,
          l++[x],q',by omega,n,⟨hg.1.snoc (by omega) ⟨hok,by omega⟩,(hg.2.snoc hh.2).more (by omega)⟩,by simp only [List.length_append,List.length_singleton]; omega,rfl,rfl,rfl⟩
      · have happ:cO 64 l [y]=some (l++[y]):=cV (by simp only [List.length_singleton]; omega)
        exact .inr ⟨.stop (.pan q'),aL gA (aL j rfl),.inr ⟨(s,(q':Int),true,l++[y]),(l++[y],s,(q':Int),true),aL gB (aL i (aL happ rfl)),aL (x:=false) rfl rfl,.inr ⟨l++[y],q',hq',rfl,rfl⟩⟩⟩
  · rintro a b (⟨l,q,hpq,hq,hg,hl,e,rfl⟩|⟨l,q,hq,e,rfl⟩)
    · cases e
      by_cases c:l=[]
      · subst c
        refine ⟨.ret (⟨2,az.zero 4,[]⟩,⟨s,q⟩),(⟨2,az.zero 4,[]⟩,⟨s,q,false⟩),rfl,rfl,.inl ⟨⟨2,az.zero 4,[]⟩,q,hpq,hq,fj (by omega) (by simp) (by simp),⟨?_,Bp.leaf _ _ (by omega)⟩,rfl,rfl⟩⟩
        simp only [height,bK]; omega
      · have d:((l.length:Int) == 0)=false:=bM (fun e=>c (List.eq_nil_of_length_eq_zero (by omega)))
        obtain ⟨x,hx,⟨y,rfl,e⟩|⟨o,rfl⟩⟩:=rA 4 l c
        · have:=hg.1 y (by simp)
          exact ⟨.ret (y,⟨s,q⟩),(y,⟨s,q,false⟩),rfl,rfl,.inl ⟨y,q,hpq,hq,this.1,⟨by omega,hg.2.of1.more (by omega)⟩,rfl,rfl⟩⟩
        · have:=hg.1.node (k:=4) (by omega) (by omega)
          exact ⟨.ret (⟨4,az.zero 4,l⟩,⟨s,q⟩),(⟨4,az.zero 4,l⟩,⟨s,q,false⟩),du d (aL hx rfl),du d (du (vZ o) rfl),.inl ⟨_,q,hpq,hq,this.1,⟨this.2,(hg.2.more (show q - p≤q - p+1 - 0 by omega)).node (by omega) _ _⟩,rfl,rfl⟩⟩
    · cases e
  · rintro x b (⟨l,q,hpq,hq,hg,hl,e,rfl⟩|⟨l,q,hq,e,rfl⟩)
    · cases e
    · cases e
      match l with
      | []=>exact ⟨_,(⟨2,az.zero 4,[]⟩,⟨s,q,true⟩),rfl,rfl,.inr ⟨q,_,hq,rfl,rfl⟩⟩
      | [y]=>exact ⟨_,(y,⟨s,q,true⟩),rfl,rfl,.inr ⟨q,_,hq,rfl,rfl⟩⟩
      | y::z::l=>
        exact ⟨_,(⟨4,az.zero 4,y::z::l⟩,⟨s,q,true⟩),rfl,du (bM (by simp only [List.length_cons]; omega)) (du (bM (by simp only [List.length_cons]; omega)) rfl),.inr ⟨q,_,hq,rfl,rfl⟩⟩
theorem uL {m:Nat} (h:PB s m):PR s m:=by
  intro p hp hm fl hfl
  obtain ⟨fl,rfl⟩:∃f,fl=f+1:=⟨fl - 1,by omega⟩
  unfold M.b2 M.b3
  refine dG.bb (h p hp hm fl (by omega)) ?_
  rintro a b (⟨z,d,o,j,hok,hh,rfl,rfl⟩|⟨q,y,hq,rfl,rfl⟩)
  · refine dG.on_ret ?_
    refine dG.sb (P:=fun (a:cD (List T_Regex×Str×Int) (Rt (T_Regex×aB))) (b:List T_Regex×Str×Int×Bool)=>
        (∃(l:List T_Regex) (q:Nat),p≤q∧q≤s.length∧(ke (3*(q - p)+1) l∧Bl l (q - p+1))∧l.length≤q - p+1∧l≠[]∧a=.next (l,s,(q:Int))∧b=(l,s,(q:Int),false))∨(∃(l:List T_Regex) (q:Nat),q≤s.length∧a=.stop (.pan q)∧b=(l,s,(q:Int),true)))
      (dG.loop (fun (a:Str×Int×(List T_Regex)) (b:Str×Int×Bool×(List T_Regex)) k=>∃(l:List T_Regex) (q:Nat),p≤q∧q≤s.length∧(ke (3*(q - p)+1) l∧Bl l (q - p+1))∧l.length≤q - p+1∧l≠[]∧a=(s,(q:Int),l)∧b=(s,(q:Int),false,l)∧k=s.length - q) ?_
        (s.length - d) _ _ _ _ (by unfold aR; omega) (by unfold aR; omega) ⟨[z],d,by omega,j,⟨fun y hy=>by rw [List.mem_singleton.1 hy]; exact ⟨hok,hh.1⟩,Bl.one hh.2⟩,by simp,by simp,rfl,rfl,rfl⟩) ?_ ?_
    · rintro k _ _ ⟨l,q,hpq,hq,hg,hl,hne,rfl,rfl,rfl⟩
      obtain ⟨x,y,hx,hy,hxy,hlt⟩:=fD hq
      have e:=hxy 124 (by decide) (by decide)
      cases c:(x == (124:Int))
      · exact .inr ⟨.next (l,s,(q:Int)),aL hx (du c rfl),.inl ⟨(l,s,(q:Int),false),aL (x:=false) (aL hy (congrArg some (e ▸ c))) rfl,.inl ⟨l,q,hpq,hq,hg,hl,hne,rfl,rfl⟩⟩⟩
      · have hlt':=hlt 124 (by decide) (cS c)
        have hc:bU .i64 ((q:Int)+1)=some ((q+1:Nat):Int):=bc (by omega)
        obtain ⟨u,t,i,g,hcase⟩:=h (q+1) hlt' (by omega) fl (by omega)
        rcases hcase with ⟨w,q',hq1',hq2',hok',hh',rfl,rfl⟩|⟨q',w,hq',rfl,rfl⟩
        · have happ:cO 64 l [w]=some (l++[w]):=cV (by simp only [List.length_singleton]; omega)
          refine .inl ⟨(s,(q':Int),l++[w]),(s,(q':Int),false,l++[w]),s.length - q',aL hx (eF c (aL hc (aL i (aL happ rfl)))),aL (x:=true) (aL hy (congrArg some (e ▸ c))) (aL hc (aL g (aL happ rfl))),by omega,
            l++[w],q',by omega,hq2',⟨hg.1.snoc (by omega) ⟨hok',by omega⟩,(hg.2.snoc hh'.2).more (by omega)⟩,by simp only [List.length_append,List.length_singleton]; omega,by simp,rfl,rfl,rfl⟩
        · have happ:cO 64 l [w]=some (l++[w]):=cV (by simp only [List.length_singleton]; omega)
          exact .inr ⟨.stop (.pan q'),aL hx (eF c (aL hc (aL i rfl))),.inr ⟨(s,(q':Int),true,l++[w]),(l++[w],s,(q':Int),true),aL (x:=true) (aL hy (congrArg some (e ▸ c))) (aL hc (aL g (aL happ rfl))),aL (x:=false) rfl rfl,.inr ⟨l++[w],q',hq',rfl,rfl⟩⟩⟩
    · rintro a b (⟨l,q,hpq,hq,hg,hl,hne,e,rfl⟩|⟨l,q,hq,e,rfl⟩)
      · cases e
        obtain ⟨x,hx,⟨y,rfl,e⟩|⟨n,rfl⟩⟩:=rA 5 l hne
        · have:=hg.1 y (by simp)
          exact ⟨.ret (y,⟨s,q⟩),(y,⟨s,q,false⟩),rfl,rfl,.inl ⟨y,q,hpq,hq,this.1,⟨by omega,hg.2.of1⟩,rfl,rfl⟩⟩
        · have:=hg.1.node (k:=5) (by omega) (by omega)
          exact ⟨.ret (⟨5,az.zero 4,l⟩,⟨s,q⟩),(⟨5,az.zero 4,l⟩,⟨s,q,false⟩),aL hx rfl,du (vZ n) rfl,.inl ⟨_,q,hpq,hq,this.1,⟨this.2,hg.2.node (by omega) _ _⟩,rfl,rfl⟩⟩
      · cases e
    · rintro x b (⟨l,q,hpq,hq,hg,hl,hne,e,rfl⟩|⟨l,q,hq,e,rfl⟩)
      · cases e
      · cases e
        match l with
        | []=>exact ⟨_,(⟨5,az.zero 4,[]⟩,⟨s,q,true⟩),rfl,rfl,.inr ⟨q,_,hq,rfl,rfl⟩⟩
        | [y]=>exact ⟨_,(y,⟨s,q,true⟩),rfl,rfl,.inr ⟨q,_,hq,rfl,rfl⟩⟩
        | y::z::l=>exact ⟨_,(⟨5,az.zero 4,y::z::l⟩,⟨s,q,true⟩),rfl,du (bM (by simp only [List.length_cons]; omega)) rfl,.inr ⟨q,_,hq,rfl,rfl⟩⟩
  · exact dG.on_pan ⟨_,(y,⟨s,q,true⟩),rfl,aL (ia (r:=([y],s,(q:Int),true)) rfl) rfl,.inr ⟨q,_,hq,rfl,rfl⟩⟩
theorem yM:∀m,PR s m:=by
  intro m
  induction m using Nat.strongRecOn with
  | _ m ih=>exact uL hs (tq hs (sB hs (wX hs ih)))
theorem uT:∃r,M.f0 s=some r∧M.f8 s=some r∧bP r.1∧height r.1≤3*s.length+2∧Bp r.1 (s.length+1)∧(r.2.2=0→V 30 r.1=true):=by
  obtain ⟨a,b,ha,hb,hcase⟩:=yM hs s.length 0 (by omega) (by omega) aR (by unfold aR; omega)
  have d:bP ⟨0,az.zero 4,[]⟩:=fj (by omega) (by simp) (by simp)
  have c:height (⟨0,az.zero 4,[]⟩:T_Regex)≤3*s.length+2∧Bp ⟨0,az.zero 4,[]⟩ (s.length+1):=⟨by simp only [height,bK]; omega,Bp.leaf _ _ (by omega)⟩
  unfold M.f0 M.f8
  rcases hcase with ⟨x,q,f,e,hok,hh,rfl,rfl⟩|⟨q,y,hq,rfl,rfl⟩
  · rcases Nat.lt_or_eq_of_le e with hq|hq
    · refine ⟨(⟨0,az.zero 4,[]⟩,(q:Int),3),aL ha (dT (eF (dH (by show (q:Int)<(s.length:Int); omega)) rfl)),aL hb (aL (x:=true) (congrArg some (dH (by show (q:Int)<(s.length:Int); omega))) rfl),d,c.1,c.2,fun h=>absurd (show (3:Int)=0 from h) (by decide)⟩
    · have hd:decide ((q:Int)<(s.length:Int))=false:=dI (by omega)
      cases hv:V 30 x
      · exact ⟨(⟨0,az.zero 4,[]⟩,0,11),aL ha (cR (du hd rfl) (aL ((sj hok).trans (congrArg some hv)) rfl)),aL hb (aL (x:=false) (congrArg some hd) (aL ((iY hok).trans (congrArg some hv)) rfl)),d,c.1,c.2,fun h=>absurd h (by decide)⟩
      · exact ⟨(x,0,0),aL ha (cR (du hd rfl) (aL ((sj hok).trans (congrArg some hv)) rfl)),aL hb (aL (x:=false) (congrArg some hd) (aL ((iY hok).trans (congrArg some hv)) rfl)),hok,by show height x≤_; omega,hh.2.more (by omega),fun _=>hv⟩
  · exact ⟨(⟨0,az.zero 4,[]⟩,(q:Int),3),aL ha rfl,aL hb rfl,d,c.1,c.2,fun h=>absurd (show (3:Int)=0 from h) (by decide)⟩
end
end Go.Proofs.YtlcdifnmkafcfaaGreat
set_option linter.unusedVariables false
namespace Go.Proofs.YtlcdifnmkafcfaaGreat
open Go.Lx
theorem nc {a b:Str} (h:a.length+b.length≤1000000000):mR a b=some (a++b):=by unfold mR; rw [if_pos (by omega)]
theorem jx {α:Type} {l:List α} {i j:Nat} (h1:i≤j) (h2:j≤l.length):iS l (i:Int) (j:Int)=some ((l.take j).drop i):=by unfold iS; rw [if_pos ⟨by omega,by omega,by omega⟩]; simp
def FewD (d:bL) (n:Nat):Prop:=d.Name.length≤40∧d.Pattern.length≤n∧d.Sample.length≤n∧d.Close.length≤n
theorem zO {x:T_LexSpec} (hl:x.Defs.length≤9223372036854775807) (m n:Nat):Is (M.k2 x (m:Int) (n:Int)) (fun b=>b=true→x.Defs.length≤m∧∀d∈x.Defs,FewD d n):=by
  unfold M.k2
  refine Is.dcd (fun _=>Is.pure (fun h=>by cases h)) (fun j=>?_)
  refine Is.bs (P:=fun _=>∀d∈x.Defs,FewD d n) (Is.upto (fun i st=>st=(i:Int)∧∀d∈x.Defs.take i,FewD d n) x.Defs.length hl ⟨rfl,by simp⟩ ?_ ?_) (fun _ h=>Is.pure fun _=>⟨by omega,h⟩)
  · rintro i _ hi ⟨rfl,hd⟩
    refine Is.dt (by omega) (Is.bnq (ba hi) (Is.bnd (P:=fun b=>b=false→FewD x.Defs[i] n) ?_ fun b hb=>Is.cnd (fun _=>Is.stop (fun h=>by cases h)) (fun e=>Is.bnq (bc (by omega)) (Is.next ⟨rfl,fun d hm=>?_⟩))))
    · refine Is.dcd (fun _=>Is.pure (fun h=>by cases h)) (fun g=>Is.dcd (fun _=>Is.pure (fun h=>by cases h)) (fun f=>Is.dcd (fun _=>Is.pure (fun h=>by cases h)) (fun c=>Is.pure (fun h=>?_))))
      have a:=of_decide_eq_false h
      exact ⟨by omega,by omega,by omega,by omega⟩
    · rw [List.take_succ_eq_append_getElem hi,List.mem_append] at hm
      rcases hm with hm|hm
      · exact hd d hm
      · rw [List.mem_singleton.1 hm]; exact hb e
  · rintro _ ⟨rfl,hd⟩
    rw [List.take_length] at hd
    exact Is.df (by omega) (Is.stop hd)
def rx (d:bL):T_Regex×Int×Int:=(M.f0 d.Pattern).getD (⟨0,az.zero 4,[]⟩,0,3)
structure yS (d:bL):Prop where
  prog:M.f0 d.Pattern=some (rx d)
  ref:M.f8 d.Pattern=some (rx d)
  ok:bP (rx d).1
  hgt:height (rx d).1≤92
  prt:parts (rx d).1≤31*2 ^ height (rx d).1
  val:(rx d).2.2=0→V 30 (rx d).1=true
theorem AD {d:bL} (h:d.Pattern.length≤30):yS d:=by
  obtain ⟨r,h1,h2,h3,h4,h5,h6⟩:=uT (s:=d.Pattern) (by omega)
  have e:rx d=r:=by unfold rx; rw [h1]; rfl
  subst e
  exact ⟨h1,h2,h3,by omega,Nat.le_trans h5 (Nat.mul_le_mul_right _ (by omega)),h6⟩
theorem fM {d:bL} (h:yS d):M.c2 d=some (rx d).1:=by
  unfold M.c2
  rw [h.ref]; rfl
structure yT (d:bL):Prop where
  ro:yS d
  low:height (rx d).1≤6
  good:(rx d).2.2=0
theorem yT.parts {d:bL} (h:yT d):parts (rx d).1≤1984:=Nat.le_trans h.ro.prt (Nat.le_trans (Nat.mul_le_mul_left 31 (Nat.pow_le_pow_right (by omega) h.low)) (by decide))
theorem yT.fit {d:bL} (h:yT d):Fit (rx d).1:=qn _ 30 h.ro.ok (h.ro.val h.good) (by have:=h.parts; omega)
theorem yT.fh {d:bL} (h:yT d):FH (rx d).1:=⟨h.fit,by have:=h.low; unfold aR; omega⟩
theorem ou {l:List Str} {m:Nat} (h:∀w∈l,w.length≤m):Is (M.f3 l) (fun r=>r.length≤2∧∀w∈r,w.length≤m):=by
  unfold M.f3
  refine Is.dcd (fun hl=>Is.bnq (jx (i:=0) (j:=2) (by omega) (by omega)) (Is.pure ⟨?_,fun w hw=>h w ?_⟩)) (fun hl=>Is.pure ⟨by omega,h⟩)
  · rw [List.drop_zero,List.length_take]; omega
  · rw [List.drop_zero] at hw; exact List.mem_of_mem_take hw
theorem xa {l:List Str} {s:Str} {m:Nat} (h:∀w∈l,w.length≤m) (hs:s.length≤m) (hl:l.length≤1000000):Is (M.i7 l s) (fun r=>r.length≤l.length+1∧∀w∈r,w.length≤m):=by
  unfold M.i7
  refine Is.bs (P:=fun _=>True) (Q:=fun r:List Str=>r.length≤l.length+1∧∀w∈r,w.length≤m) (Is.upto (fun i st=>st=(i:Int)) l.length (by omega) rfl ?_ ?_) (fun _ _=>?_)
  · rintro i _ hi rfl
    exact Is.dt (by omega) (Is.bnq (ba hi) (Is.cnd (fun _=>Is.stop ⟨by omega,h⟩) (fun _=>Is.add1 (by omega) (Is.next rfl))))
  · rintro _ rfl
    exact Is.df (by omega) (Is.stop trivial)
  · refine Is.bnq (cV (by simp only [List.length_nil]; omega)) (Is.app1 (by rw [List.nil_append]; omega) (Is.pure ⟨by simp,fun w hw=>?_⟩))
    rw [List.nil_append] at hw
    rcases List.mem_append.1 hw with hw|hw
    · exact h w hw
    · rw [List.mem_singleton.1 hw]; exact hs
theorem vB:∀(fl:Nat) (x:T_Regex),Fit x→height x<fl→parts x≤100000→Is (M.d0 fl x) (fun r=>r.1.length≤2∧∀w∈r.1,w.length≤parts x):=by
  intro fl
  induction fl with
  | zero=>intro x _ h; omega
  | succ fl ih=>
    rintro ⟨k,s,l⟩ hF hh hp
    have hx:parts (⟨k,s,l⟩:T_Regex)=bm l+1:=rfl
    have hll:=fG l
    have hkid:∀y∈l,Is (M.d0 fl y) (fun r=>r.1.length≤2∧∀w∈r.1,w.length≤parts y):=fun y hy=>
      ih y (hF.kids y hy) (by have:=ew hy; have:height (⟨k,s,l⟩:T_Regex)=bK l+1:=rfl; omega) (by have:=dM hy; omega)
    unfold M.d0
    refine Is.cnd (fun _=>Is.pure ⟨by decide,fun w hw=>by rw [List.mem_singleton.1 hw]; simp⟩) (fun _=>?_)
    refine Is.cnd (fun _=>?_) (fun _=>Is.cnd (fun _=>?_) (fun _=>Is.cnd (fun _=>?_) (fun _=>Is.cnd (fun h6=>?_) (fun _=>Is.pure ⟨by decide,fun w hw=>by cases hw⟩))))
    · -- a set
      refine Is.bnd (P:=fun m:List Str=>∀w∈m,w.length≤parts (⟨k,s,l⟩:T_Regex)) ?_ fun m hm=>Is.bnd (ou hm) fun r hr=>Is.pure hr
      refine Is.upto (fun i (st:List Str×Int)=>st.2=(i:Int)∧st.1.length≤i∧∀w∈st.1,w.length≤parts (⟨k,s,l⟩:T_Regex)) 256 (by omega) ⟨rfl,Nat.le_refl _,fun w hw=>by cases hw⟩ ?_ ?_
      · rintro i ⟨m,_⟩ hi ⟨rfl,g1,c⟩
        simp only at g1 c
        refine Is.dt (by omega) (Is.bnd (P:=fun m:List Str=>m.length≤i+1∧∀w∈m,w.length≤parts (⟨k,s,l⟩:T_Regex)) ?_ fun m hm=>Is.add1 (by omega) (Is.next ⟨rfl,hm⟩))
        refine Is.bnq (pm hF.set hi) (Is.cnd (fun _=>Is.app1 (by omega) (Is.pure ⟨by simp only [List.length_append,List.length_singleton]; omega,fun w hw=>?_⟩)) (fun _=>Is.pure ⟨by omega,c⟩))
        rcases List.mem_append.1 hw with hw|hw
        · exact c w hw
        · rw [List.mem_singleton.1 hw,hx]; simp [kO]
      · rintro ⟨m,_⟩ ⟨rfl,g1,c⟩
        exact Is.df (by omega) (Is.stop c)
    · -- a union
      refine Is.bnd (P:=fun st:List Str×Bool=>∀w∈st.1,w.length≤parts (⟨k,s,l⟩:T_Regex)) ?_ (fun ⟨m,fin⟩ hm=>Is.bnd (P:=fun st:List Str×Bool=>st.1.length≤2∧∀w∈st.1,w.length≤parts (⟨k,s,l⟩:T_Regex)) (Is.bnd (ou hm) fun r hr=>Is.cnd (fun _=>Is.pure hr) (fun _=>Is.pure hr)) (fun ⟨a,b⟩ h=>Is.pure h))
      refine Is.upto (fun i (st:List Str×Bool×Int)=>st.2.2=(i:Int)∧st.1.length≤2*i∧∀w∈st.1,w.length≤parts (⟨k,s,l⟩:T_Regex)) l.length (by omega) ⟨rfl,Nat.le_refl _,fun w hw=>by cases hw⟩ ?_ ?_
      · rintro i ⟨m,fin,_⟩ hi ⟨rfl,g1,c⟩
        simp only at g1 c
        refine Is.dt (show ((i:Nat):Int)<(l.length:Int) by omega) (Is.bnd (P:=fun st:List Str×Bool=>st.1.length≤2*(i+1)∧∀w∈st.1,w.length≤parts (⟨k,s,l⟩:T_Regex)) ?_ (fun ⟨a,b⟩ h=>Is.add1 (by omega) (Is.next ⟨rfl,h⟩)))
        refine Is.bnq (ba hi) (Is.bnd (hkid _ (List.getElem_mem hi)) fun r hr=>?_)
        have hpm:=dM (List.getElem_mem hi)
        refine Is.bnd (P:=fun _=>True) (Is.cnd (fun _=>Is.pure trivial) (fun _=>Is.pure trivial)) fun b _=>?_
        refine Is.upto (fun j (st:List Str×Int)=>st.2=(j:Int)∧st.1.length≤2*i+j∧∀w∈st.1,w.length≤parts (⟨k,s,l⟩:T_Regex)) r.1.length (by omega) ⟨rfl,by simpa using g1,c⟩ ?_ ?_
        · rintro j ⟨t,_⟩ hj ⟨rfl,f,d⟩
          simp only at f d
          refine Is.dt (by omega) (Is.bnq (ba hj) (Is.bnd (xa d (by have:=hr.2 _ (List.getElem_mem hj); omega) (by omega)) fun g n=>Is.add1 (by omega) (Is.next ⟨rfl,by simp only; omega,n.2⟩)))
        · rintro ⟨t,_⟩ ⟨rfl,f,d⟩
          exact Is.df (by omega) (Is.stop ⟨by simp only at f ⊢; omega,d⟩)
      · rintro ⟨m,fin,_⟩ ⟨rfl,g1,c⟩
        exact Is.df (show ¬ ((l.length:Nat):Int)<(l.length:Int) by omega) (Is.stop c)
    · -- a concatenation
      refine Is.bs (P:=fun st:List Str×Bool=>st.1.length≤2∧∀w∈st.1,w.length≤parts (⟨k,s,l⟩:T_Regex)) (Q:=fun r:List Str×Bool=>r.1.length≤2∧∀w∈r.1,w.length≤parts (⟨k,s,l⟩:T_Regex)) ?_ (fun ⟨a,b⟩ h=>Is.pure h)
      refine Is.upto (fun i (st:List Str×Bool×Int)=>st.2.2=(i:Int)∧st.1.length≤2∧∀w∈st.1,w.length≤bm (l.take i)) l.length (by omega) ⟨rfl,by simp,fun w hw=>by rw [List.mem_singleton.1 hw]; simp⟩ ?_ ?_
      · rintro i ⟨m,fin,_⟩ hi ⟨rfl,g1,c⟩
        simp only at g1 c
        have hpt:=eZ hi
        have hpl:=dw l (i+1)
        refine Is.dt (show ((i:Nat):Int)<(l.length:Int) by omega) ?_
        refine Is.bs (P:=fun st:List Str×Bool=>st.1.length≤2∧∀w∈st.1,w.length≤bm (l.take (i+1))) ?_ (fun ⟨a,b⟩ h=>Is.add1 (by omega) (Is.next ⟨rfl,h⟩))
        refine Is.bnq (ba hi) (Is.bnd (hkid _ (List.getElem_mem hi)) fun r hr=>?_)
        refine Is.bnd (P:=fun g:List Str=>∀w∈g,w.length≤bm (l.take (i+1))) ?_ fun g n=>?_
        · refine Is.upto (fun j (st:List Str×Int)=>st.2=(j:Int)∧st.1.length≤2*j∧∀w∈st.1,w.length≤bm (l.take (i+1))) m.length (by omega) ⟨rfl,Nat.le_refl _,fun w hw=>by cases hw⟩ ?_ ?_
          · rintro j ⟨t,_⟩ hj ⟨rfl,f,d⟩
            simp only at f d
            refine Is.dt (by omega) (Is.bnd (P:=fun g:List Str=>g.length≤2*(j+1)∧∀w∈g,w.length≤bm (l.take (i+1))) ?_ fun g n=>Is.add1 (by omega) (Is.next ⟨rfl,n⟩))
            refine Is.upto (fun q (st:List Str×Int)=>st.2=(q:Int)∧st.1.length≤2*j+q∧∀w∈st.1,w.length≤bm (l.take (i+1))) r.1.length (by omega) ⟨rfl,by simpa using f,d⟩ ?_ ?_
            · rintro q ⟨u,_⟩ hq ⟨rfl,p,o⟩
              simp only at p o
              have F:=c _ (List.getElem_mem hj)
              have D:=hr.2 _ (List.getElem_mem hq)
              refine Is.dt (by omega) (Is.bnq (ba hj) (Is.bnq (ba hq) (Is.bnq (nc (by omega)) (Is.bnd (xa o (by rw [List.length_append]; omega) (by omega)) fun B z=>Is.add1 (by omega) (Is.next ⟨rfl,by simp only; omega,z.2⟩)))))
            · rintro ⟨u,_⟩ ⟨rfl,p,o⟩
              exact Is.df (by omega) (Is.stop ⟨by simp only at p ⊢; omega,o⟩)
          · rintro ⟨t,_⟩ ⟨rfl,f,d⟩
            exact Is.df (by omega) (Is.stop d)
        · refine Is.cnd (fun _=>Is.stop ⟨by decide,fun w hw=>by cases hw⟩) (fun _=>?_)
          refine Is.bnd (P:=fun _=>True) (Is.cnd (fun _=>Is.cnd (fun _=>Is.pure trivial) (fun _=>Is.pure trivial)) (fun _=>Is.pure trivial)) fun b _=>Is.bnd (ou n) fun A v=>Is.next v
      · rintro ⟨m,fin,_⟩ ⟨rfl,g1,c⟩
        rw [List.take_length] at c
        exact Is.df (show ¬ ((l.length:Nat):Int)<(l.length:Int) by omega) (Is.stop ⟨g1,fun w hw=>by have:=c w hw; omega⟩)
    · -- a repetition
      obtain ⟨y,e⟩:=hF.star (cS h6)
      obtain rfl:l=[y]:=e
      refine Is.bnq (x:=y) rfl (Is.bnd (hkid y (by simp)) fun r hr=>?_)
      refine Is.bs (P:=fun _=>True) (Q:=fun r:List Str×Bool=>r.1.length≤2∧∀w∈r.1,w.length≤parts (⟨k,s,[y]⟩:T_Regex)) (Is.upto (fun i st=>st=(i:Int)) r.1.length (by omega) rfl ?_ ?_) (fun _ _=>Is.pure ⟨by decide,fun w hw=>by rw [List.mem_singleton.1 hw]; simp⟩)
      · rintro i _ hi rfl
        refine Is.dt (by omega) (Is.bnq (ba hi) (Is.cnd (fun _=>Is.stop ⟨by simp,fun w hw=>?_⟩) (fun _=>Is.add1 (by omega) (Is.next rfl))))
        simp only [List.mem_cons,List.not_mem_nil,or_false] at hw
        rcases hw with rfl|rfl
        · simp
        · have:=hr.2 _ (List.getElem_mem hi)
          simp only [bm] at hx; omega
      · rintro _ rfl
        exact Is.df (by omega) (Is.stop trivial)
theorem yb {x:T_Regex} {s:Str} (hF:Fit x) (hh:height x≤100) (hp:parts x≤100000):Is (M.j1 x s) (fun _=>True):=by
  unfold M.j1
  refine Is.bnd (vB aR x hF (by unfold aR; omega) hp) fun r hr=>Is.bnd (P:=fun _=>True) (Is.cnd (fun _=>Is.cnd (fun h=>?_) (fun _=>Is.pure trivial)) (fun _=>Is.pure trivial)) fun _ _=>Is.pure trivial
  have:=cS h
  exact Is.idx (by omega) (by omega) fun _ _ _=>Is.pure trivial
theorem py (b:Int):Is (M.g4 b) (fun _=>True):=by
  unfold M.g4
  refine Is.bnd (P:=fun _=>True) ?_ fun _ _=>Is.pure trivial
  refine Is.cnd (fun _=>Is.cnd (fun _=>Is.pure trivial) (fun _=>Is.cnd (fun _=>Is.pure trivial) (fun _=>Is.pure trivial))) (fun _=>Is.cnd (fun _=>Is.pure trivial) (fun _=>Is.pure trivial))
theorem yc {s:Str} (hs:s.length≤1000000):Is (M.j2 s) (fun _=>True):=by
  unfold M.j2
  refine Is.bnd (P:=fun b=>b=false→1≤s.length) ?_ fun b hb=>Is.cnd (fun _=>Is.pure trivial) (fun _=>?_)
  · refine Is.dcd (fun _=>Is.pure fun h=>by cases h) (fun a=>Is.dcd (fun _=>Is.pure fun h=>by cases h) (fun _=>?_))
    exact Is.bnq (dB (i:=0) (by omega)) (Is.bnd (py _) fun _ _=>Is.pure fun _=>by omega)
  · refine Is.bs (P:=fun _=>True) (Is.upto (fun i st=>st=(i:Int)) s.length (by omega) rfl ?_ ?_) (fun _ _=>Is.pure trivial)
    · rintro i _ hi rfl
      refine Is.dt (by omega) (Is.bnd (P:=fun _=>True) (Is.bnq (dB hi) (Is.bnd (py _) fun _ _=>?_)) fun _ _=>Is.cnd (fun _=>Is.stop trivial) (fun _=>Is.add1 (by omega) (Is.next rfl)))
      refine Is.cnd (fun _=>Is.cnd (fun _=>Is.cnd (fun _=>Is.pure trivial) (fun _=>Is.pure trivial)) (fun _=>Is.cnd (fun _=>Is.pure trivial) (fun _=>Is.pure trivial))) (fun _=>Is.pure trivial)
    · rintro _ rfl
      exact Is.df (by omega) (Is.stop trivial)
theorem vV {s:Str} (hs:s.length≤1000000):Is (M.e8 s) (fun _=>True):=by
  unfold M.e8
  refine Is.bs (P:=fun _=>True) (Is.upto (fun i st=>st=(i:Int)) s.length (by omega) rfl ?_ ?_) (fun _ _=>Is.pure trivial)
  · rintro i _ hi rfl
    exact Is.dt (by omega) (Is.bnd (P:=fun _=>True) (Is.bnq (dB hi) (Is.cnd (fun _=>Is.pure trivial) (fun _=>Is.pure trivial))) fun _ _=>Is.cnd (fun _=>Is.stop trivial) (fun _=>Is.add1 (by omega) (Is.next rfl)))
  · rintro _ rfl
    exact Is.df (by omega) (Is.stop trivial)
section
variable {x:T_LexSpec} (h6:x.Defs.length≤6) (hf:∀d∈x.Defs,FewD d 30) (hlow:∀d∈x.Defs,height (rx d).1≤6)
include hf in
theorem xP {d:bL} (hd:d∈x.Defs):yS d:=AD (hf d hd).2.1
include hf hlow
theorem rj {d:bL} (hd:d∈x.Defs) (he:(rx d).2.2=0):Is (M.f9 (rx d).1) (fun _=>True):=by
  unfold M.f9
  exact Is.bnq (iZ (yT.fh ⟨xP hf hd,hlow d hd,he⟩) (s:=[]) (by simp)) (Is.pure trivial)
include h6
theorem pd {i:Nat} (hi:i<x.Defs.length):Is (M.e4 x (i:Int)) (fun e=>e=0→(rx x.Defs[i]).2.2=0):=by
  have hd:=List.getElem_mem hi
  have hfd:=hf _ hd
  unfold M.e4
  refine Is.bnq (ba hi) (Is.bnd (P:=fun _=>True) ?_ fun b _=>Is.cnd (fun _=>Is.pure fun e=>absurd e (by decide)) (fun _=>?_))
  · exact Is.bnd (yc (by have:=hfd.1; omega)) fun _ _=>Is.cnd (fun _=>Is.pure trivial) (fun _=>Is.cnd (fun _=>Is.pure trivial) (fun _=>Is.cnd (fun _=>Is.pure trivial) (fun _=>Is.pure trivial)))
  · refine Is.bs (P:=fun _=>True) (Q:=fun e:Int=>e=0→(rx x.Defs[i]).2.2=0) (Is.upto (fun j st=>st=(j:Int)) i (by omega) rfl ?_ ?_) (fun _ _=>?_)
    · rintro j _ hj rfl
      exact Is.dt (by omega) (Is.bnq (ba (by omega)) (Is.cnd (fun _=>Is.stop fun e=>absurd e (by decide)) (fun _=>Is.add1 (by omega) (Is.next rfl))))
    · rintro _ rfl
      exact Is.df (by omega) (Is.stop trivial)
    · refine Is.bnd (P:=fun _=>True) (Is.cnd (fun _=>Is.pure trivial) (fun _=>Is.pure trivial)) fun b _=>Is.cnd (fun _=>Is.pure fun e=>absurd e (by decide)) (fun _=>?_)
      refine Is.bnq (xP hf hd).ref (Is.cnd (fun hne=>Is.pure fun e=>absurd e (fN hne)) (fun he=>?_))
      have he:=eM he
      refine Is.bnd (rj hf hlow hd he) fun b _=>Is.cnd (fun _=>Is.pure fun _=>he) (fun _=>Is.bnd (vV (by have:=hfd.2.2.2; omega)) fun _ _=>Is.cnd (fun _=>Is.pure fun _=>he) (fun _=>Is.pure fun _=>he))
omit h6 hf hlow in
theorem ym {l:List T_Regex} (ok:∀x∈l,bP x) (hp:bm l≤1048576):Is (M.b6 l) (fun r=>(r=(nX l,0)∧bm l≤500)∨r.2≠0):=by
  by_cases hg:(∀y∈l,V 30 y=true)∧bm l≤500
  · exact ⟨_,sE ok hg.1 hg.2,.inl ⟨rfl,hg.2⟩⟩
  · unfold M.b6
    refine Is.bnd (rR ok hp) fun e he=>?_
    have hne:e≠0:=by
      rcases he with ⟨_,h,_⟩|⟨_,_,h,_⟩|⟨b,a,_,_⟩
      · omega
      · omega
      · exact absurd ⟨b,a⟩ hg
    exact Is.ct (ij hne) (Is.pure (.inr hne))
def uS (x:T_LexSpec):List T_Regex:=x.Defs.map fun d=>(rx d).1
omit h6 in
theorem xY:(∀y∈uS x,bP y)∧bm (uS x)≤x.Defs.length*1984:=by
  refine ⟨fun y hy=>?_,?_⟩
  · obtain ⟨d,hd,rfl⟩:=List.mem_map.1 hy
    exact (xP hf hd).ok
  · have:∀l:List bL,(∀d∈l,d∈x.Defs)→bm (l.map fun d=>(rx d).1)≤l.length*1984:=by
      intro l
      induction l with
      | nil=>intro _; simp [bm]
      | cons d l ih=>
        intro hl
        have c:=ih fun z hz=>hl z (by simp [hz])
        have b:=(xP hf (hl d (by simp))).prt
        have a:31*2 ^ height (rx d).1≤31*2 ^ 6:=Nat.mul_le_mul_left 31 (Nat.pow_le_pow_right (by omega) (hlow d (hl d (by simp))))
        simp only [List.map_cons,bm,List.length_cons]; omega
    exact this x.Defs fun _ h=>h
theorem wT:Is (M.g9 x) (fun r=>r.2=0→bm (uS x)≤500∧WM r.1):=by
  unfold M.g9
  refine Is.bnq (x:=uS x) (Is.eq ?_) ?_
  · refine Is.upto (fun i (st:List T_Regex×Int)=>st.2=(i:Int)∧st.1=(x.Defs.take i).map fun d=>(rx d).1) x.Defs.length (by omega) ⟨rfl,rfl⟩ ?_ ?_
    · rintro i ⟨l,_⟩ hi ⟨rfl,e⟩
      obtain rfl:l=_:=e
      refine Is.dt (by omega) (Is.bnq (ba hi) (Is.bnq (fM (xP hf (List.getElem_mem hi))) (Is.app1 (by rw [List.length_map,List.length_take]; omega) (Is.add1 (by omega) (Is.next ⟨rfl,?_⟩)))))
      rw [List.take_succ_eq_append_getElem hi,List.map_append]; rfl
    · rintro ⟨l,_⟩ ⟨rfl,e⟩
      obtain rfl:l=_:=e
      rw [List.take_length]
      exact Is.df (by omega) (Is.stop rfl)
  obtain ⟨ok,hp⟩:=xY hf hlow
  refine Is.bnd (ym ok (by omega)) fun r hr=>?_
  rcases hr with ⟨rfl,a⟩|hne
  · refine Is.cf rfl ?_
    have hfit:=uV ok a
    have hal:=(mv a).2
    refine Is.bnd (vP (n:=nX (uS x)) hfit (by omega)) fun r hr=>Is.cnd (fun hne=>Is.pure fun e=>absurd e (fN hne)) (fun he=>?_)
    obtain ⟨c,b⟩:=hr (eM he)
    exact Is.bnd (ta c b) fun m hm=>Is.pure fun _=>⟨a,hm⟩
  · exact Is.ct (ij hne) (Is.pure fun e=>absurd e hne)
structure SpecOk (x:T_LexSpec):Prop where
  six:x.Defs.length≤6
  few:∀d∈x.Defs,FewD d 30
  pat:∀d∈x.Defs,yT d
  prt:bm (uS x)≤500
  mis:0≤x.Misspelling∧x.Misspelling≤1000
  unc:0≤x.Unclosed∧x.Unclosed≤1000
  dfa:∃d,M.g9 x=some (d,0)∧WM d
theorem wN:Is (M.f4 x) (fun r=>r.2=0→SpecOk x):=by
  unfold M.f4
  refine Is.bnd (P:=fun _=>True) (Is.cnd (fun _=>Is.pure trivial) (fun _=>Is.pure trivial)) fun b _=>Is.cnd (fun _=>Is.pure fun e=>absurd e (by decide)) (fun _=>?_)
  refine Is.bs (P:=fun _=>∀d∈x.Defs,(rx d).2.2=0) (Q:=fun r:Int×Int=>r.2=0→SpecOk x) (Is.upto (fun i st=>st=(i:Int)∧∀d∈x.Defs.take i,(rx d).2.2=0) x.Defs.length (by omega) ⟨rfl,by simp⟩ ?_ ?_) (fun _ hgood=>?_)
  · rintro i _ hi ⟨rfl,hd⟩
    refine Is.dt (by omega) (Is.bnd (pd h6 hf hlow hi) fun e he=>Is.cnd (fun hne=>Is.stop fun e=>absurd e (fN hne)) (fun a=>Is.add1 (by omega) (Is.next ⟨rfl,fun d hm=>?_⟩)))
    rw [List.take_succ_eq_append_getElem hi,List.mem_append] at hm
    rcases hm with hm|hm
    · exact hd d hm
    · rw [List.mem_singleton.1 hm]; exact he (eM a)
  · rintro _ ⟨rfl,hd⟩
    rw [List.take_length] at hd
    exact Is.df (by omega) (Is.stop hd)
  refine Is.bnd (P:=fun b=>b=false→(0≤x.Misspelling∧x.Misspelling≤1000)∧(0≤x.Unclosed∧x.Unclosed≤1000)) ?_ fun b hb=>Is.cnd (fun _=>Is.pure fun e=>absurd (show (1:Int)=0 from e) (by decide)) (fun e=>?_)
  · refine Is.dcd (fun _=>Is.pure fun h=>by cases h) (fun m=>Is.dcd (fun _=>Is.pure fun h=>by cases h) (fun l=>Is.dcd (fun _=>Is.pure fun h=>by cases h) (fun g=>Is.pure fun h=>?_)))
    have:=of_decide_eq_false h
    exact ⟨by omega,by omega⟩
  obtain ⟨f,c⟩:=hb e
  have hpat:∀d∈x.Defs,yT d:=fun d hd=>⟨xP hf hd,hlow d hd,hgood d hd⟩
  obtain ⟨⟨bd,be⟩,hbr,hr⟩:=wT h6 hf hlow
  refine Is.bnq hbr (Is.cnd (fun hne=>Is.pure fun e=>absurd e (fN hne)) (fun a=>?_))
  obtain rfl:be=0:=eM a
  have ok:SpecOk x:=⟨h6,hf,hpat,(hr rfl).1,f,c,bd,hbr,(hr rfl).2⟩
  refine Is.bs (P:=fun _=>True) (Q:=fun r:Int×Int=>r.2=0→SpecOk x) (Is.upto (fun i st=>st=(i:Int)) x.Defs.length (by omega) rfl ?_ ?_) (fun _ _=>Is.pure fun _=>ok)
  · rintro i _ hi rfl
    have hd:=List.getElem_mem hi
    refine Is.dt (by omega) (Is.bnq (ba hi) (Is.bnd (P:=fun _=>True) ?_ fun k _=>Is.cnd (fun _=>Is.stop fun _=>ok) (fun _=>Is.bnd (P:=fun _=>True) ?_ fun b _=>Is.cnd (fun _=>Is.stop fun _=>ok) (fun _=>Is.add1 (by omega) (Is.next rfl)))))
    · unfold M.k7
      refine Is.bs (P:=fun _=>True) (Is.upto (fun i st=>st=(i:Int)) x.Defs.length (by omega) rfl ?_ ?_) (fun _ _=>Is.pure trivial)
      · rintro j _ hj rfl
        have hdj:=List.getElem_mem hj
        exact Is.dt (by omega) (Is.bnq (ba hj) (Is.bnq (fM (xP hf hdj)) (Is.bnq (iZ (s:=x.Defs[i].Sample) (hpat _ hdj).fh (by have:=(hf _ hd).2.2.1; omega)) (Is.cnd (fun _=>Is.stop trivial) (fun _=>Is.add1 (by omega) (Is.next rfl))))))
      · rintro _ rfl
        exact Is.df (by omega) (Is.stop trivial)
    · exact Is.cnd (fun _=>Is.bnq (fM (xP hf hd)) (Is.bnd (yb (hpat _ hd).fit (by have:=hlow _ hd; omega) (by have:=(hpat _ hd).parts; omega)) fun _ _=>Is.pure trivial)) (fun _=>Is.pure trivial)
  · rintro _ rfl
    exact Is.df (by omega) (Is.stop trivial)
end
theorem vI {x:T_LexSpec} (ok:ji x):Is (M.i3 x) (fun b=>b=true→SpecOk x∧∃k,M.f4 x=some (k,0)):=by
  have hl:x.Defs.length≤9223372036854775807:=Nat.le_trans ok.1.2 (by decide)
  unfold M.i3
  refine Is.bnd (zO hl 6 30) fun b hb=>Is.cnd (fun _=>Is.pure fun h=>by cases h) (fun e=>?_)
  obtain ⟨h6,hf⟩:=hb (by simpa using e)
  refine Is.bs (P:=fun _=>∀d∈x.Defs,height (rx d).1≤6) (Q:=fun b:Bool=>b=true→SpecOk x∧∃k,M.f4 x=some (k,0)) (Is.upto (fun i st=>st=(i:Int)∧∀d∈x.Defs.take i,height (rx d).1≤6) x.Defs.length hl ⟨rfl,by simp⟩ ?_ ?_) (fun _ hlow=>?_)
  · rintro i _ hi ⟨rfl,hd⟩
    have hx:=xP hf (List.getElem_mem hi)
    refine Is.dt (by omega) (Is.bnq (ba hi) (Is.bnq (fM hx) (Is.bnq (xr aR _ hx.ok (by have:=hx.hgt; unfold aR; omega) (by have:=hx.hgt; omega)) (Is.dcd (fun _=>Is.stop fun h=>by cases h) (fun hle=>Is.add1 (by omega) (Is.next ⟨rfl,fun d hm=>?_⟩))))))
    rw [List.take_succ_eq_append_getElem hi,List.mem_append] at hm
    rcases hm with hm|hm
    · exact hd d hm
    · rw [List.mem_singleton.1 hm]; omega
  · rintro _ ⟨rfl,hd⟩
    rw [List.take_length] at hd
    exact Is.df (by omega) (Is.stop hd)
  · obtain ⟨⟨k,e⟩,a,c⟩:=wN h6 hf hlow
    refine Is.bnq a (Is.pure fun h=>?_)
    obtain rfl:e=0:=cS h
    exact ⟨c rfl,k,a⟩
end Go.Proofs.YtlcdifnmkafcfaaGreat
set_option linter.unusedVariables false
namespace Go.Proofs.YtlcdifnmkafcfaaGreat
open Go.Lx
open Classical
noncomputable def cl (x:T_LexSpec) (d:bL) (s:Str):Bool:=decide (0<x.Unclosed) && (d.Kind != 2) && (d.Close != []) && decide (L (rx d).1 (bW (s++d.Close)))
noncomputable def vw (x:T_LexSpec) (s:Str):Bool:=x.Defs.any fun d=>cl x d s
section
variable {x:T_LexSpec} (h:SpecOk x)
include h
theorem xZ {d:bL} (hd:d∈x.Defs):parts (rx d).1≤500:=Nat.le_trans (dM (List.mem_map.2 ⟨d,hd,rfl⟩)) h.prt
theorem zF {d:bL} (hd:d∈x.Defs) {s:Str} (hs:s.length≤20):M.f1 (rx d).1 (s++d.Close)=some (decide (L (rx d).1 (bW (s++d.Close)))):=by
  have hc:=(h.few d hd).2.2.2
  exact wo (s:=s++d.Close) (P:=500) (N:=50) (H:=6) (by decide) (by decide) (by decide) (by decide) (h.pat d hd).fit (xZ h hd) (h.pat d hd).low (by rw [List.length_append]; omega) (by rw [List.length_append]; omega)
theorem rQ {d:bL} (hd:d∈x.Defs) {s:Str} (hs:s.length≤20):M.c0 x d s=some (cl x d s):=by
  have hc:=(h.few d hd).2.2.2
  refine Is.eq ?_
  unfold M.c0 cl
  refine Is.bnd (P:=fun b=>b=!(decide (0<x.Unclosed) && (d.Kind != 2) && (d.Close != []))) ?_ fun b hb=>?_
  · refine Is.dcd (fun c=>Is.pure ?_) (fun c=>Is.cnd (fun a=>Is.pure ?_) (fun a=>Is.pure ?_))
    · rw [dI (show ¬ 0<x.Unclosed by omega)]; rfl
    · rw [show (d.Kind != 2)=false by rw [bne,a]; rfl]; simp
    · rw [dH (show 0<x.Unclosed by omega),show (d.Kind != 2)=true by rw [bne,a]; rfl]; simp [bne]
  subst hb
  refine Is.cnd (fun e=>Is.pure ?_) (fun e=>?_)
  · rw [Bool.not_eq_true'] at e
    rw [e]; rfl
  · rw [Bool.not_eq_false'] at e
    rw [e]
    refine Is.bnq (h.pat d hd).ro.prog (Is.bnd (P:=fun b=>b=decide (L (rx d).1 (bW (s++d.Close)))) (Is.ct (kb (h.pat d hd).good) (Is.bnq (nc (by omega)) (Is.bnq (zF h hd hs) (Is.pure rfl)))) fun b hb=>Is.pure (by rw [hb]; rfl))
theorem nA {k:Nat} (hk:k<x.Defs.length) {s:Str} (hs:s.length≤20):M.e3 x (k:Int) s=some (cl x x.Defs[k] s):=by
  have hd:=List.getElem_mem hk
  have hc:=(h.few _ hd).2.2.2
  refine Is.eq ?_
  unfold M.e3 cl
  refine Is.bnq (ba hk) (Is.bnd (P:=fun b=>b=(decide (0<x.Unclosed) && (x.Defs[k].Kind != 2) && (x.Defs[k].Close != []) && decide (L (rx x.Defs[k]).1 (bW (s++x.Defs[k].Close))))) ?_ fun b hb=>Is.pure hb)
  refine Is.cnd (fun a=>Is.cnd (fun c=>Is.cnd (fun d=>?_) (fun d=>Is.pure (by rw [a,c,d]; rfl))) (fun c=>Is.pure (by rw [a,c]; rfl))) (fun a=>Is.pure (by rw [a]; rfl))
  rw [a,c,d]
  refine Is.bnq (nc (by omega)) (Is.bnq (fM (h.pat _ hd).ro) (Is.bnq (iZ (h.pat _ hd).fh (by rw [List.length_append]; omega)) (Is.pure rfl)))
theorem Aj {s:Str} (hs:s.length≤20):M.e0 s x=some (vw x s):=by
  have h6:=h.six
  refine Is.eq ?_
  unfold M.e0
  refine Is.bs (P:=fun _=>vw x s=false) (Is.upto (fun i st=>st=(i:Int)∧∀d∈x.Defs.take i,cl x d s=false) x.Defs.length (by omega) ⟨rfl,by simp⟩ ?_ ?_) (fun _ e=>Is.pure e.symm)
  · rintro i _ hi ⟨rfl,hd⟩
    have hm:=List.getElem_mem hi
    refine Is.dt (by omega) (Is.bnq (ba hi) (Is.bnq (rQ h hm hs) (Is.cnd (fun e=>Is.stop (List.any_eq_true.2 ⟨_,hm,e⟩).symm) (fun e=>Is.add1 (by omega) (Is.next ⟨rfl,fun d hdm=>?_⟩)))))
    rw [List.take_succ_eq_append_getElem hi,List.mem_append] at hdm
    rcases hdm with hdm|hdm
    · exact hd d hdm
    · rw [List.mem_singleton.1 hdm]; exact e
  · rintro _ ⟨rfl,hd⟩
    rw [List.take_length] at hd
    exact Is.df (by omega) (Is.stop (List.any_eq_false.2 fun d hm=>by rw [hd d hm]; simp))
theorem uN {ρ:Type} {s:Str} (hs:s.length≤20) {body:Bool×Int→Option (cD (Bool×Int) Bool)}
    (hb:∀b i,body (b,i)=bif decide (i<(x.Defs.length:Int)) then (bif b then (bU .i64 (i+1)).bind fun t=>some (.next (true,t)) else (M.e3 x i s).bind fun r=>(bU .i64 (i+1)).bind fun t=>some (.next (r,t))) else some (.stop b)) :
    aT body aR (false,(0:Int))=some (vw x s):=by
  have h6:=h.six
  refine Is.eq ?_
  refine Is.upto (fun i (st:Bool×Int)=>st.2=(i:Int)∧st.1=(x.Defs.take i).any fun d=>cl x d s) x.Defs.length (by omega) ⟨rfl,rfl⟩ ?_ ?_
  · rintro i ⟨b,_⟩ hi ⟨rfl,e⟩
    obtain rfl:b=_:=e
    rw [hb]
    have a:(x.Defs.take (i+1)).any (fun d=>cl x d s)=((x.Defs.take i).any (fun d=>cl x d s) || cl x x.Defs[i] s):=by
      rw [List.take_succ_eq_append_getElem hi,List.any_append]; simp
    refine Is.dt (by omega) (Is.cnd (fun e=>Is.add1 (by omega) (Is.next ⟨rfl,by rw [a,e]; rfl⟩)) (fun e=>Is.bnq (nA h hi hs) (Is.add1 (by omega) (Is.next ⟨rfl,by rw [a,e]; rfl⟩))))
  · rintro ⟨b,_⟩ ⟨rfl,e⟩
    obtain rfl:b=_:=e
    rw [hb,List.take_length]
    exact Is.df (by omega) (Is.stop rfl)
end
def tx (l:List aQ):Str:=l.flatMap (·.Text)
theorem tE (t:aQ) (l:List aQ):tx (t::l)=t.Text++tx l:=rfl
theorem kh (l m:List aQ):tx (l++m)=tx l++tx m:=by simp [tx]
theorem jv {l:List aQ} {i:Nat} (hi:i<l.length):tx (l.take (i+1))=tx (l.take i)++l[i].Text:=by rw [List.take_succ_eq_append_getElem hi,kh]; simp [tx]
theorem fH (l:List aQ) (i:Nat):(tx (l.take i)).length≤(tx l).length:=by
  have:tx l=tx (l.take i)++tx (l.drop i):=by rw [←kh,List.take_append_drop]
  rw [this,List.length_append]; omega
theorem ph {l:List aQ} {i:Nat} (hi:i≤l.length) (hl:l.length≤1000000) (ht:(tx l).length≤1000000) {body:Str×Int→Option (cD (Str×Int) Str)}
    (hb:∀s k,body (s,k)=bif decide (k<(l.length:Int)) then (bo l k).bind fun e=>(mR s e.Text).bind fun s=>(bU .i64 (k+1)).bind fun t=>some (.next (s,t)) else some (.stop s)) :
    aT body aR (([]:Str),(i:Int))=some (tx (l.drop i)):=by
  have hle:(tx (l.drop i)).length≤(tx l).length:=by
    have:tx l=tx (l.take i)++tx (l.drop i):=by rw [←kh,List.take_append_drop]
    rw [this,List.length_append]; omega
  refine Is.eq ?_
  refine Is.upto (fun j (st:Str×Int)=>st.2=((i+j:Nat):Int)∧st.1=tx ((l.drop i).take j)) (l.drop i).length (by rw [List.length_drop]; omega) ⟨rfl,rfl⟩ ?_ ?_
  · rintro j ⟨s,_⟩ hj ⟨rfl,e⟩
    obtain rfl:s=_:=e
    rw [List.length_drop] at hj
    rw [hb]
    have c:=fH (l.drop i) (j+1)
    have a:=jv (l:=l.drop i) (i:=j) (by rw [List.length_drop]; exact hj)
    have b:(l.drop i)[j]'(by rw [List.length_drop]; exact hj)=l[i+j]'(by omega):=List.getElem_drop ..
    rw [b] at a
    rw [a,List.length_append] at c
    refine Is.dt (by omega) (Is.bnq (ba (by omega)) (Is.bnq (nc (by omega)) (Is.add1 (by omega) (Is.next ⟨rfl,?_⟩))))
    rw [a]
  · rintro ⟨s,_⟩ ⟨rfl,e⟩
    obtain rfl:s=_:=e
    rw [hb,List.length_drop,List.take_of_length_le (by rw [List.length_drop]; omega)]
    exact Is.df (by omega) (Is.stop rfl)
theorem xG {l:List aQ} (hl:l.length≤1000000) (ht:(tx l).length≤1000000):M.j8 l=some (tx l):=by
  refine Is.eq ?_
  unfold M.j8
  exact Is.bnq (ph (i:=0) (Nat.zero_le _) hl ht fun _ _=>rfl) (Is.pure rfl)
def dR (s:Str):Str:=s.takeWhile (· != 10)
theorem uf (s:Str):(dR s).length≤s.length:=by
  induction s with
  | nil=>exact Nat.le_refl _
  | cons a s ih=>
    unfold dR at ih ⊢
    rw [List.takeWhile_cons]
    split
    · simp only [List.length_cons]; omega
    · simp
theorem ug {s:Str} {n:Nat} (hn:s[n]?=some 10) (hk:∀k,k<n→s[k]?≠some 10):s.take n=dR s:=by
  induction s generalizing n with
  | nil=>simp at hn
  | cons a s ih=>
    cases n with
    | zero=>
      simp only [List.getElem?_cons_zero,Option.some.injEq] at hn
      simp [dR,hn]
    | succ n=>
      have b:a≠10:=fun e=>hk 0 (by omega) (by rw [e]; rfl)
      have:=ih (n:=n) (by simpa using hn) fun k hkn=>by have:=hk (k+1) (by omega); simpa using this
      unfold dR at this ⊢
      rw [List.take_succ_cons,this,List.takeWhile_cons,if_pos (by simpa using b)]
theorem px {s:Str} (hk:∀k:Nat,s[k]?≠some 10):dR s=s:=by
  induction s with
  | nil=>rfl
  | cons a s ih=>
    have h0:a≠10:=fun e=>hk 0 (by rw [e]; rfl)
    have:=ih fun k=>by have:=hk (k+1); simpa using this
    unfold dR at this ⊢
    rw [List.takeWhile_cons,if_pos (by simpa using h0),this]
theorem zZ {s:Str} (hs:s.length≤1000000):Is (M.h5 s [10]) (fun r=>r.1=dR s):=by
  unfold M.h5
  refine Is.bnd (P:=fun r:Str×Str×Bool=>r.1=dR s) ?_ fun r hr=>Is.pure hr
  unfold M.c3
  refine Is.bnq (x:=Lib.indexByte s 10) rfl (Is.dcd (fun h=>?_) (fun h=>Is.pure ?_))
  · obtain ⟨n,hn⟩:=Int.eq_ofNat_of_zero_le h
    obtain ⟨a,c⟩:=Lib.indexByte_some hn
    have hlt:=(List.getElem?_eq_some_iff.1 a).1
    rw [hn]
    refine Is.bnq (jx (i:=0) (j:=n) (by omega) (by omega)) (Is.add1 (i:=n) (by omega) (Is.bnq (jx (i:=n+1) (j:=s.length) (by omega) (by omega)) (Is.pure ?_)))
    rw [List.drop_zero]
    exact ug a c
  · have:=Lib.indexByte_ge s 10
    have b:Lib.indexByte s 10=-1:=by omega
    exact (px (Lib.indexByte_none b)).symm
theorem xQ {l:List aQ} {i:Nat} (hi:i≤l.length) (hl:l.length≤1000000) (ht:(tx l).length≤1000000):M.i9 l (i:Int)=some (dR (tx (l.drop i))):=by
  have hle:(tx (l.drop i)).length≤(tx l).length:=by
    have:tx l=tx (l.take i)++tx (l.drop i):=by rw [←kh,List.take_append_drop]
    rw [this,List.length_append]; omega
  refine Is.eq ?_
  unfold M.i9
  refine Is.bnq (ph hi hl ht fun _ _=>rfl) ?_
  generalize tx (l.drop i)=s at hle ⊢
  refine Is.bs (P:=fun _=>∀k:Nat,s[k]?≠some 10) (Is.upto (fun n st=>st=(n:Int)∧∀k,k<n→s[k]?≠some 10) s.length (by omega) ⟨rfl,fun k hk=>by omega⟩ ?_ ?_) (fun _ hk=>Is.pure (px hk).symm)
  · rintro n _ hn ⟨rfl,hk⟩
    refine Is.dt (by omega) (Is.bnq (dB hn) (Is.cnd (fun e=>?_) (fun e=>?_)))
    · have b:s[n]?=some 10:=by
        rw [List.getElem?_eq_getElem hn]
        have:=cS e
        congr 1
        exact UInt8.toNat_inj.1 (by show (s[n]).toNat=10; omega)
      refine Is.bnq (jx (i:=0) (j:=n) (by omega) (by omega)) (Is.stop ?_)
      rw [List.drop_zero]
      exact ug b hk
    · refine Is.add1 (by omega) (Is.next ⟨rfl,fun k a=>?_⟩)
      rcases Nat.lt_or_eq_of_le (Nat.le_of_lt_succ a) with c|rfl
      · exact hk k c
      · rw [List.getElem?_eq_getElem hn]
        intro he
        have:=eN e
        rw [Option.some.inj he] at this
        exact this rfl
  · rintro _ ⟨rfl,hk⟩
    refine Is.df (by omega) (Is.stop fun k he=>?_)
    exact hk k (List.getElem?_eq_some_iff.1 he).1 he
end Go.Proofs.YtlcdifnmkafcfaaGreat
set_option linter.unusedVariables false
namespace Go.Proofs.YtlcdifnmkafcfaaGreat
open Go.Lx
open Classical
def en:List aQ→Nat→Nat→Nat
  | [],_,_=>0
  | t::l,m,a=>if a+t.Text.length=m then 1 else match en l m (a+t.Text.length) with
    | 0=>0
    | k+1=>k+2
theorem uo:∀(l:List aQ) (m a:Nat),en l m a≤l.length
  | [],_,_=>Nat.le_refl _
  | t::l,m,a=>by
    have:=uo l m (a+t.Text.length)
    unfold en
    split
    · simp
    · split <;> simp only [List.length_cons] <;> omega
theorem yt {t:aQ} {l:List aQ} {m a:Nat} (h:a+t.Text.length≠m):en (t::l) m a=if en l m (a+t.Text.length)=0 then 0 else en l m (a+t.Text.length)+1:=by
  rw [en,if_neg h]
  split
  · rename_i h0; rw [h0]; rfl
  · rename_i k hk; rw [hk,if_neg (by omega)]
theorem zR {t:aQ} {l:List aQ} {m a:Nat} (h:a+t.Text.length=m):en (t::l) m a=1:=by rw [en,if_pos h]
theorem rI {ρ:Type} {l:List aQ} {i m:Nat} (hi:i≤l.length) (hl:l.length≤1000000) (ht:(tx l).length≤1000000) {X:Nat→ρ} {Y:cD Unit ρ} {body:Int×Int→Option (cD (Int×Int) (cD Unit ρ))}
    (hb:∀(a k:Nat) (hk:k<l.length),i≤k→a≤1000000→body ((a:Int),(k:Int))=bif ((a+l[k].Text.length:Nat):Int) == (m:Int) then some (.stop (.stop (X (k+1 - i)))) else some (.next (((a+l[k].Text.length:Nat):Int),((k+1:Nat):Int))))
    (he:∀a:Int,body (a,(l.length:Int))=some (.stop Y)) :
    aT body aR ((0:Int),(i:Int))=some (if en (l.drop i) m 0=0 then Y else .stop (X (en (l.drop i) m 0))):=by
  refine Is.eq ?_
  refine Is.upto (fun j (st:Int×Int)=>st.2=((i+j:Nat):Int)∧st.1=((tx ((l.drop i).take j)).length:Int)∧
      en (l.drop i) m 0=if en (l.drop (i+j)) m (tx ((l.drop i).take j)).length=0 then 0 else en (l.drop (i+j)) m (tx ((l.drop i).take j)).length+j) (l.drop i).length (by rw [List.length_drop]; omega) ⟨rfl,rfl,?_⟩ ?_ ?_
  · show en (l.drop i) m 0=if en (l.drop (i+0)) m 0=0 then 0 else en (l.drop (i+0)) m 0+0
    rw [Nat.add_zero]
    split <;> omega
  · rintro j ⟨a,_⟩ hj ⟨rfl,e,hen⟩
    obtain rfl:a=_:=e
    rw [List.length_drop] at hj
    have hlt:i+j<l.length:=by omega
    have g:=fH (l.drop i) j
    have c:=jv (l:=l.drop i) (i:=j) (by rw [List.length_drop]; exact hj)
    have f:(l.drop i)[j]'(by rw [List.length_drop]; exact hj)=l[i+j]:=List.getElem_drop ..
    rw [f] at c
    have hle:(tx (l.drop i)).length≤(tx l).length:=by
      have:tx l=tx (l.take i)++tx (l.drop i):=by rw [←kh,List.take_append_drop]
      rw [this,List.length_append]; omega
    have b:(tx ((l.drop i).take (j+1))).length=(tx ((l.drop i).take j)).length+l[i+j].Text.length:=by rw [c,List.length_append]
    rw [hb _ _ hlt (by omega) (by omega)]
    rw [List.drop_eq_getElem_cons hlt] at hen
    refine Is.cnd (fun hc=>Is.stop ?_) (fun hc=>Is.next ⟨rfl,by rw [b],?_⟩)
    · have:=cS hc
      rw [zR (by omega),if_neg (by decide)] at hen
      rw [hen,if_neg (by omega),show i+j+1 - i=1+j by omega]
    · have:=eN hc
      rw [yt (by omega)] at hen
      rw [b,hen]
      generalize en (l.drop (i+j+1)) m _=z
      by_cases d:z=0
      · simp [d]
      · simp only [d,if_false]
        rw [if_neg (by omega)]; omega
  · rintro ⟨a,_⟩ ⟨rfl,e,hen⟩
    obtain rfl:a=_:=e
    rw [List.length_drop] at hen ⊢
    rw [show i+(l.length - i)=l.length by omega] at hen ⊢
    rw [List.drop_length,en,if_pos rfl] at hen
    rw [he,hen,if_pos rfl]
    exact Is.stop rfl
def TB (t:aQ):Prop:=(0≤t.At∧t.At≤1000000)∧(0≤t.Look∧t.Look≤1000000)
def zh (t:aQ) (a:Int) (y:aQ):Int:=ob a (y.At+y.Look - t.At)
def lk (t:aQ) (l:List aQ):Int:=l.foldl (zh t) 0
theorem ud {t:aQ} (h:TB t):zh t 0 t=t.Look∧zh t t.Look t=t.Look:=by
  have:=h.2.1
  unfold zh ob
  constructor <;> split <;> omega
variable (x:T_LexSpec)
noncomputable def nx (t:aQ) (l:List aQ):Str×Int×Nat:=
  if t.Kind=-1∧0<en (t::l) (dR (tx (t::l))).length 0∧vw x (dR (tx (t::l)))=true then (dR (tx (t::l)),lk t ((t::l).take (en (t::l) (dR (tx (t::l))).length 0)),en (t::l) (dR (tx (t::l))).length 0) else (t.Text,t.Look,1)
theorem qe (t:aQ) (l:List aQ):1≤(nx x t l).2.2∧(nx x t l).2.2≤l.length+1:=by
  unfold nx
  split
  · rename_i h
    have:=uo (t::l) (dR (tx (t::l))).length 0
    exact ⟨h.2.1,by simpa using this⟩
  · exact ⟨Nat.le_refl _,by show 1≤_; omega⟩
noncomputable def mg:Nat→List aQ→List aQ
  | 0,_=>[]
  | _+1,[]=>[]
  | n+1,t::l=>⟨t.Kind,t.At,(nx x t l).1,(nx x t l).2.1⟩::mg n ((t::l).drop (nx x t l).2.2)
theorem ub:∀(n m:Nat) (l:List aQ),l.length≤n→l.length≤m→mg x n l=mg x m l
  | 0,0,l,_,_=>rfl
  | 0,m+1,l,hn,_=>by
    obtain rfl:=List.eq_nil_of_length_eq_zero (Nat.le_zero.1 hn)
    rfl
  | n+1,0,l,_,hm=>by
    obtain rfl:=List.eq_nil_of_length_eq_zero (Nat.le_zero.1 hm)
    rfl
  | n+1,m+1,[],_,_=>rfl
  | n+1,m+1,t::l,hn,hm=>by
    have:=qe x t l
    simp only [List.length_cons] at hn hm
    rw [mg,mg,ub n m ((t::l).drop (nx x t l).2.2) (by rw [List.length_drop,List.length_cons]; omega) (by rw [List.length_drop,List.length_cons]; omega)]
noncomputable def tZ (l:List aQ):List aQ:=mg x l.length l
theorem rm (t:aQ) (l:List aQ):tZ x (t::l)=⟨t.Kind,t.At,(nx x t l).1,(nx x t l).2.1⟩::tZ x ((t::l).drop (nx x t l).2.2):=by
  have:=qe x t l
  unfold tZ
  rw [List.length_cons,mg]
  congr 1
  exact ub x _ _ _ (by rw [List.length_drop,List.length_cons]; omega) (Nat.le_refl _)
theorem tY:tZ x []=[]:=rfl
variable {x}
theorem xR {l:List aQ} (hl:l.length≤20) (ht:(tx l).length≤20):M.g2 l=some (dR (tx l),(en l (dR (tx l)).length 0:Int)):=by
  refine Is.eq ?_
  unfold M.g2
  refine Is.bnq (xG (by omega) (by omega)) (Is.bnd (zZ (by omega)) ?_)
  rintro ⟨s,r⟩ e
  obtain rfl:s=_:=e
  refine Is.bs (P:=fun _=>en l (dR (tx l)).length 0=0) (Q:=fun r=>r=(dR (tx l),(en l (dR (tx l)).length 0:Int))) ?_ (fun _ e=>Is.pure (by rw [e]; rfl))
  refine Is.of (rI (l:=l) (i:=0) (m:=(dR (tx l)).length) (X:=fun k=>(dR (tx l),(k:Int))) (Y:=.next ()) (Nat.zero_le _) (by omega) (by omega) ?_ ?_) ?_
  · intro a k hk _ ha
    have:=fH l (k+1)
    rw [jv hk,List.length_append] at this
    refine eF (dH (by omega)) (aL (ba hk) (aL (x:=((a+l[k].Text.length:Nat):Int)) (cJ (by omega) (by omega)) ?_))
    cases hc:((a+l[k].Text.length:Nat):Int) == ((dR (tx l)).length:Int)
    · exact du rfl (aL (bc (by omega)) rfl)
    · exact eF rfl (aL (bc (by omega)) rfl)
  · exact fun a=>du (dI (by omega)) rfl
  · rw [List.drop_zero]
    split
    · rename_i e; exact e
    · rfl
theorem zQ {l:List aQ} {i:Nat} (hi:i≤l.length) (hl:l.length≤20) (ht:(tx l).length≤20) {s:Str}:M.k1 l (i:Int) s=some (if en (l.drop i) s.length 0=0 then -1 else (en (l.drop i) s.length 0:Int)):=by
  refine Is.eq ?_
  unfold M.k1
  refine Is.bs (P:=fun _=>en (l.drop i) s.length 0=0) (Q:=fun r=>r=if en (l.drop i) s.length 0=0 then -1 else (en (l.drop i) s.length 0:Int)) ?_ (fun _ e=>Is.pure (by rw [if_pos e]))
  refine Is.of (rI (l:=l) (i:=i) (m:=s.length) (X:=fun k=>(k:Int)) (Y:=.next ()) hi (by omega) (by omega) ?_ ?_) ?_
  · intro a k hk hik ha
    have:=fH l (k+1)
    rw [jv hk,List.length_append] at this
    refine eF (dH (by omega)) (aL (ba hk) (aL (x:=((a+l[k].Text.length:Nat):Int)) (cJ (by omega) (by omega)) ?_))
    cases hc:((a+l[k].Text.length:Nat):Int) == (s.length:Int)
    · exact du rfl (aL (bc (by omega)) rfl)
    · refine eF rfl (aL (bc (by omega)) (aL (x:=((k+1 - i:Nat):Int)) ?_ rfl))
      rw [show ((k+1:Nat):Int) - (i:Int)=((k+1 - i:Nat):Int) by omega]
      exact cJ (by omega) (by omega)
  · exact fun a=>du (dI (by omega)) rfl
  · split
    · rename_i e; exact e
    · rfl
theorem ue {t:aQ} {l:List aQ} (hlen:l.length≤1000000) {b:Int} {ρ:Type} {X:Int→ρ} {i:Nat} {body:Int×Int→Option (cD (Int×Int) ρ)}
    (hb:∀(a:Int) (j:Nat) (hj:j<l.length),body (a,((i+j:Nat):Int))=some (.next (zh t a l[j],((i+j+1:Nat):Int))))
    (he:∀a:Int,body (a,((i+l.length:Nat):Int))=some (.stop (X a))):aT body aR (b,(i:Int))=some (X (l.foldl (zh t) b)):=by
  refine Is.eq ?_
  refine Is.upto (fun j (st:Int×Int)=>st.2=((i+j:Nat):Int)∧st.1=(l.take j).foldl (zh t) b) l.length (by omega) ⟨rfl,rfl⟩ ?_ ?_
  · rintro j ⟨a,_⟩ hj ⟨rfl,e⟩
    obtain rfl:a=_:=e
    rw [hb _ _ hj]
    refine Is.next ⟨rfl,?_⟩
    rw [List.take_succ_eq_append_getElem hj,List.foldl_append]; rfl
  · rintro ⟨a,_⟩ ⟨rfl,e⟩
    obtain rfl:a=_:=e
    rw [he,List.take_length]
    exact Is.stop rfl
theorem zG {t y:aQ} (ht:TB t) (hy:TB y) {α:Type} {f:Int→Option α}:((bU .i64 (y.At+y.Look)).bind fun p=>(bU .i64 (p - t.At)).bind fun q=>f q)=f (y.At+y.Look - t.At):=by
  have h1:=hy.1; have h2:=hy.2; have h3:=ht.1
  rw [cJ (by omega) (by omega),Option.bind_some,cJ (by omega) (by omega),Option.bind_some]
theorem vj {t:aQ} (ht:TB t) {l:List aQ} {k:Nat} (hk:1≤k):((t::l).take k).foldl (zh t) t.Look=lk t ((t::l).take k):=by
  obtain ⟨k,rfl⟩:∃j,k=j+1:=⟨k - 1,by omega⟩
  unfold lk
  rw [List.take_succ_cons,List.foldl_cons,List.foldl_cons,(ud ht).1,(ud ht).2]
theorem nm (l:List aQ) (i:Nat):(tx (l.drop i)).length≤(tx l).length:=by
  have:tx l=tx (l.take i)++tx (l.drop i):=by rw [←kh,List.take_append_drop]
  rw [this,List.length_append]; omega
section
variable (h:SpecOk x)
include h
theorem wh {l:List aQ} (hl:l.length≤20) (ht:(tx l).length≤20) (hb:∀t∈l,TB t):M.d7 x l=some (tZ x l):=by
  refine Is.eq ?_
  unfold M.d7
  refine Is.bnd (P:=fun r=>r=tZ x l) ?_ fun r hr=>Is.pure hr
  refine Is.while (fun st:List aQ×List aQ=>∃i:Nat,st.1=l.drop i∧i≤l.length∧st.2++tZ x st.1=tZ x l∧st.2.length≤i) (fun st=>st.1.length) ⟨0,rfl,Nat.zero_le _,rfl,Nat.le_refl _⟩ (by simp only; omega) ?_
  rintro ⟨g,out⟩ ⟨i,e,hi,hm,ho⟩
  simp only at e hm ho
  cases g with
  | nil=>
    rw [tY,List.append_nil] at hm
    exact Is.df (by simp) (Is.stop hm)
  | cons t c=>
    have hlen:(t::c).length+i=l.length:=by rw [e,List.length_drop]; omega
    have n:(t::c).length=c.length+1:=rfl
    have htx:(tx (t::c)).length≤20:=by rw [e]; exact Nat.le_trans (nm l i) ht
    have hB:∀y∈t::c,TB y:=fun y hy=>hb y (by rw [e] at hy; exact List.mem_of_mem_drop hy)
    have htB:=hB t (by simp)
    have hll:=uf (tx (t::c))
    have hnx:=qe x t c
    refine Is.dt (by omega) (Is.bnq (x:=t) (ba (l:=t::c) (i:=0) (by omega)) ?_)
    refine Is.bnd (P:=fun v:Str×Int×Int=>v=((nx x t c).1,(nx x t c).2.1,((nx x t c).2.2:Int))) ?_ ?_
    · refine Is.cnd (fun hk=>?_) (fun hk=>Is.pure ?_)
      · refine Is.bnq (xR (l:=t::c) (by omega) htx) ?_
        refine Is.bnd (P:=fun b:Bool=>b=true↔(0<en (t::c) (dR (tx (t::c))).length 0∧vw x (dR (tx (t::c)))=true)) ?_ fun b f=>?_
        · refine Is.dcd (fun d=>Is.bnq (Aj h (by simp only; omega)) (Is.pure ⟨fun e=>⟨by simp only at d; omega,e⟩,fun e=>e.2⟩)) (fun d=>Is.pure ⟨(fun e=>by cases e),fun e=>absurd e.1 (by simp only at d; omega)⟩)
        · refine Is.cnd (fun hc=>?_) (fun hc=>Is.pure ?_)
          · have hcc:=f.1 hc
            have hle:=uo (t::c) (dR (tx (t::c))).length 0
            have hnxe:nx x t c=(dR (tx (t::c)),lk t ((t::c).take (en (t::c) (dR (tx (t::c))).length 0)),en (t::c) (dR (tx (t::c))).length 0):=by
              unfold nx
              rw [if_pos ⟨cS hk,hcc⟩]
            refine Is.bnq (jx (i:=0) (Nat.zero_le _) hle) ?_
            rw [List.drop_zero]
            refine Is.of (ue (t:=t) (l:=(t::c).take (en (t::c) (dR (tx (t::c))).length 0)) (i:=0) (X:=fun a=>(dR (tx (t::c)),a,(en (t::c) (dR (tx (t::c))).length 0:Int))) (by rw [List.length_take]; omega) ?_ ?_) ?_
            · intro a j hj
              have hjm:((t::c).take (en (t::c) (dR (tx (t::c))).length 0))[j]∈t::c:=List.mem_of_mem_take (List.getElem_mem hj)
              have o:j<1000000:=by rw [List.length_take] at hj; omega
              rw [Nat.zero_add]
              refine eF (dH (by omega)) (aL (ba hj) ((zG htB (hB _ hjm)).trans (aL (bc (by omega)) rfl)))
            · intro a
              rw [Nat.zero_add]
              exact du (dI (by omega)) rfl
            · show _=_
              rw [hnxe,vj htB hcc.1]
          · have:nx x t c=(t.Text,t.Look,1):=by
              unfold nx
              rw [if_neg]
              rintro ⟨_,k⟩
              rw [f.2 k] at hc; cases hc
            rw [this]; rfl
      · have:nx x t c=(t.Text,t.Look,1):=by
          unfold nx
          rw [if_neg]
          rintro ⟨m,_⟩
          exact eN hk m
        rw [this]; rfl
    · rintro _ rfl
      refine Is.app1 (by omega) (Is.bnq (jx (by omega) (Nat.le_refl _)) (Is.next ⟨⟨i+(nx x t c).2.2,?_,by omega,?_,by simp only [List.length_append,List.length_singleton]; omega⟩,?_⟩))
      · rw [List.take_length,e,List.drop_drop]
      · rw [List.take_length,←hm,rm,List.append_assoc]; rfl
      · rw [List.take_length]
        show ((t::c).drop _).length<(t::c).length
        rw [List.length_drop]; omega
theorem qX {l:List aQ} (hl:l.length≤20) (ht:(tx l).length≤20) (hb:∀t∈l,TB t):M.h8 x l=some (tZ x l):=by
  refine Is.eq ?_
  unfold M.h8
  refine Is.bnd (P:=fun r=>r=tZ x l) ?_ fun r hr=>Is.pure hr
  refine Is.while (fun st:List aQ×Int=>∃i:Nat,st.2=(i:Int)∧i≤l.length∧st.1++tZ x (l.drop i)=tZ x l∧st.1.length≤i) (fun st=>l.length - st.2.toNat) ⟨0,rfl,Nat.zero_le _,rfl,Nat.le_refl _⟩ (by simp only; omega) ?_
  rintro ⟨out,_⟩ ⟨i,rfl,hi,hm,ho⟩
  simp only at hm ho
  refine Is.dcd (fun hlt=>?_) (fun hge=>Is.stop ?_)
  case refine_2=>
    have:i=l.length:=by omega
    subst this
    rw [List.drop_length,tY,List.append_nil] at hm
    exact hm
  have hlt:i<l.length:=by omega
  have ed:=List.drop_eq_getElem_cons hlt
  have hset:=List.getElem_mem hlt
  generalize hT:l[i]=t at ed hset
  generalize hL:l.drop (i+1)=c at ed
  have p:c.length+1+i=l.length:=by rw [←hL,List.length_drop]; omega
  have hnx:=qe x t c
  have htB:=hb t hset
  have hB:∀y∈t::c,TB y:=fun y hy=>hb y (by rw [←ed] at hy; exact List.mem_of_mem_drop hy)
  have htx:=Nat.le_trans (nm l i) ht
  have hll:=uf (tx (l.drop i))
  rw [ed] at htx hll
  have hidx:bo l (i:Int)=some t:=by rw [ba hlt,hT]
  refine Is.bnd (P:=fun v:List aQ×Int=>v=(out++[⟨t.Kind,t.At,(nx x t c).1,(nx x t c).2.1⟩],((i+(nx x t c).2.2 - 1:Nat):Int))) ?_ ?_
  · refine Is.bnq (xQ hi (by omega) (by omega)) (Is.bnq (zQ hi hl ht) ?_)
    rw [ed]
    refine Is.bnq (uN (ρ:=Unit) h (s:=dR (tx (t::c))) (by omega) (fun _ _=>rfl)) ?_
    have hle:=uo (t::c) (dR (tx (t::c))).length 0
    simp only [List.length_cons] at hle
    generalize hk:en (t::c) (dR (tx (t::c))).length 0=k at hle
    refine Is.bnd (P:=fun b:Bool=>b=false↔(t.Kind=-1∧0<k∧vw x (dR (tx (t::c)))=true)) ?_ fun b m=>?_
    · refine Is.bnq hidx (Is.cnd (fun d=>Is.pure ⟨(fun e=>by cases e),fun e=>absurd e.1 (fN d)⟩) (fun d=>Is.dcd (fun f=>Is.pure ⟨(fun e=>by cases e),fun e=>?_⟩) (fun f=>Is.pure ?_)))
      · rw [if_neg (by omega)] at f; omega
      · have d:=eM d
        have o:0<k:=by
          rcases Nat.eq_zero_or_pos k with g|g
          · rw [if_pos g] at f; omega
          · exact g
        rw [Bool.not_eq_false']
        exact ⟨fun e=>⟨d,o,e⟩,fun e=>e.2.2⟩
    refine Is.cnd (fun hc=>?_) (fun hc=>?_)
    · have:nx x t c=(t.Text,t.Look,1):=by
        unfold nx
        rw [if_neg]
        rw [hk]
        intro n
        rw [m.2 n] at hc; cases hc
      rw [this]
      exact Is.bnq hidx (Is.app1 (by omega) (Is.pure (by rw [show i+1 - 1=i by omega])))
    · obtain ⟨c1,c2,c3⟩:=m.1 hc
      have hnxe:nx x t c=(dR (tx (t::c)),lk t ((t::c).take k),k):=by
        unfold nx
        rw [hk,if_pos ⟨c1,c2,c3⟩]
      rw [hnxe,if_neg (by omega)]
      have hik:bU .i64 ((i:Int)+(k:Int))=some ((i+k:Nat):Int):=by rw [cJ (by omega) (by omega)]; congr 1
      refine Is.bnq (x:=lk t ((t::c).take k)) (ue (t:=t) (l:=(t::c).take k) (i:=i) (X:=fun a=>a) (by rw [List.length_take]; omega) ?_ ?_) ?_
      · intro a j hj
        have q:j<k∧j<c.length+1:=by rw [List.length_take,List.length_cons] at hj; omega
        have hgj:((t::c).take k)[j]=l[i+j]'(by omega):=by
          rw [List.getElem_take]
          have:(l.drop i)[j]'(by rw [List.length_drop]; omega)=l[i+j]'(by omega):=List.getElem_drop ..
          rw [←this]
          congr 1
          exact ed.symm
        rw [hgj]
        have hy:=hb _ (List.getElem_mem (show i+j<l.length by omega))
        have d:=hy.1; have f:=hy.2; have n:=htB.1
        refine aL hik (eF (dH (by omega)) (aL (ba (show i+j<l.length by omega)) (aL (cJ (by omega) (by omega)) (aL hidx (aL (cJ (by omega) (by omega)) (aL (bc (by omega)) rfl))))))
      · intro a
        have:((t::c).take k).length=k:=by rw [List.length_take,List.length_cons]; omega
        rw [this]
        exact aL hik (du (dI (by omega)) rfl)
      · refine Is.bnq hidx (Is.app1 (by omega) (Is.bnq hik (Is.bnq (x:=((i+k - 1:Nat):Int)) ?_ (Is.pure ?_))))
        · rw [cJ (by omega) (by omega)]; congr 1; omega
        · rw [c1]
  · rintro _ rfl
    refine Is.bnq (x:=((i+(nx x t c).2.2:Nat):Int)) (by rw [cJ (by omega) (by omega)]; congr 1; omega) (Is.next ⟨⟨i+(nx x t c).2.2,rfl,by omega,?_,by simp only [List.length_append,List.length_singleton]; omega⟩,by simp only [Int.toNat_natCast]; omega⟩)
    rw [←hm,ed,rm,List.append_assoc,←ed,List.drop_drop]; rfl
end
end Go.Proofs.YtlcdifnmkafcfaaGreat
namespace Go.Proofs.YtlcdifnmkafcfaaGreat
open Go.Lx
set_option maxRecDepth 100000 in
theorem oC:M.i4=some true:=by decide +kernel
end Go.Proofs.YtlcdifnmkafcfaaGreat
set_option linter.unusedVariables false
namespace Go.Proofs.YtlcdifnmkafcfaaGreat
open Go.Lx
open Classical
theorem sD {l:List aQ} (hl:l.length≤1000000):M.j0 l l=some true:=by
  refine Is.eq ?_
  unfold M.j0
  refine Is.cf (mx rfl) (Is.bs (P:=fun _=>True) (Is.upto (fun i st=>st=(i:Int)) l.length (by omega) rfl ?_ ?_) (fun _ _=>Is.pure rfl))
  · rintro i _ hi rfl
    exact Is.dt (by omega) (Is.bnq (ba hi) (Is.bnq (ba hi) (Is.bnq (x:=false) (by simp) (Is.cf rfl (Is.add1 (by omega) (Is.next rfl))))))
  · rintro _ rfl
    exact Is.df (by omega) (Is.stop trivial)
def vx (l:List aQ):Prop:=(∀t∈l,(0≤t.At∧t.At≤10000)∧(0≤t.Look∧t.Look≤10000))∧∀i (h:i+1<l.length),l[i+1].At=l[i].At+(l[i].Text.length:Int)
theorem qR {l:List aQ} (hl:l.length≤9223372036854775807) (ht:∀t∈l,t.Text.length≤4611686018427387904):Is (M.f2 l) (fun b=>b=true↔vx l):=by
  unfold M.f2
  refine Is.bs (P:=fun _=>vx l) (Q:=fun b:Bool=>b=true↔vx l) (Is.upto (fun i st=>st=(i:Int)∧(∀t∈l.take i,(0≤t.At∧t.At≤10000)∧(0≤t.Look∧t.Look≤10000))∧∀j (h:j+1<l.length),j+1<i→l[j+1].At=l[j].At+(l[j].Text.length:Int)) l.length hl ⟨rfl,by simp,fun j _ hj=>by omega⟩ ?_ ?_) (fun _ h=>Is.pure ⟨fun _=>h,fun _=>rfl⟩)
  · rintro i _ hi ⟨rfl,g1,c⟩
    refine Is.dt (by omega) (Is.bnd (P:=fun b:Bool=>b=false↔((0≤l[i].At∧l[i].At≤10000)∧(0≤l[i].Look∧l[i].Look≤10000))∧∀j (h:j+1<l.length),j+1=i→l[j+1].At=l[j].At+(l[j].Text.length:Int)) ?_ fun b hb=>Is.cnd (fun e=>Is.stop ⟨(fun e=>by cases e),fun hs=>?_⟩) (fun e=>Is.bnq (bc (by omega)) (Is.next ⟨rfl,fun t hm=>?_,fun j hj d=>?_⟩)))
    · refine Is.bnq (ba hi) (Is.dcd (fun a=>Is.pure ⟨(fun e=>by cases e),fun h=>by omega⟩) (fun a=>Is.dcd (fun m=>Is.pure ⟨(fun e=>by cases e),fun h=>by omega⟩) (fun m=>Is.dcd (fun k=>Is.pure ⟨(fun e=>by cases e),fun h=>by omega⟩) (fun k=>Is.dcd (fun g=>Is.pure ⟨(fun e=>by cases e),fun h=>by omega⟩) (fun g=>Is.dcd (fun f=>?_) (fun f=>Is.pure ⟨fun _=>⟨⟨⟨by omega,by omega⟩,by omega,by omega⟩,fun j _ hj=>by omega⟩,fun _=>rfl⟩))))))
      obtain ⟨j,rfl⟩:∃j,i=j+1:=⟨i - 1,by omega⟩
      have hj:j<l.length:=by omega
      have hp:=g1 l[j] (List.mem_take_iff_getElem.2 ⟨j,by omega,rfl⟩)
      have htl:=ht _ (List.getElem_mem hj)
      refine Is.bnq (x:=(j:Int)) (by rw [cJ (by omega) (by omega)]; congr 1; omega) (Is.bnq (ba hj) (Is.bnq (cJ (by omega) (by omega)) (Is.pure ?_)))
      constructor
      · intro e
        exact ⟨⟨⟨by omega,by omega⟩,by omega,by omega⟩,fun q hq n=>by obtain rfl:q=j:=(by omega); exact eM e⟩
      · intro h
        exact mx (h.2 j hi rfl)
    · exfalso
      have:b=false:=hb.2 ⟨hs.1 _ (List.getElem_mem hi),fun j h _=>hs.2 j h⟩
      rw [this] at e; cases e
    · rw [List.take_succ_eq_append_getElem hi,List.mem_append] at hm
      rcases hm with hm|hm
      · exact g1 t hm
      · rw [List.mem_singleton.1 hm]; exact (hb.1 e).1
    · rcases Nat.lt_or_eq_of_le (Nat.le_of_lt_succ d) with a|a
      · exact c j hj a
      · exact (hb.1 e).2 j hj a
  · rintro _ ⟨rfl,g1,c⟩
    rw [List.take_length] at g1
    exact Is.df (by omega) (Is.stop ⟨g1,fun i h=>c i h h⟩)
theorem vx.tb {l:List aQ} (h:vx l):∀t∈l,TB t:=fun t ht=>by have:=h.1 t ht; exact ⟨⟨this.1.1,by omega⟩,this.2.1,by omega⟩
theorem zu {l:List aQ} {t:aQ} (h:t∈l):t.Text.length≤(tx l).length:=by
  obtain ⟨a,b,rfl⟩:=List.append_of_mem h
  rw [kh,tE,List.length_append,List.length_append]; omega
theorem qj (a:T_LexSpec) (j:ji a) (x1:List aQ) (g:(fun l=>(∀x∈l,hY x)∧l.length≤maxLen) x1) (up:(tx x1).length≤1048576):M.b1 a x1=some true:=by
  have hml:x1.length≤9223372036854775807:=Nat.le_trans g.2 (by decide)
  refine Is.eq ?_
  unfold M.b1
  refine Is.bnd (P:=fun b:Bool=>b=false→SpecOk a∧x1.length≤12∧vx x1∧(tx x1).length≤20) ?_ fun b hb=>Is.cnd (fun _=>Is.bnq oC (Is.pure rfl)) (fun e=>?_)
  · refine Is.bnd (vI j) fun b hb=>Is.cnd (fun _=>Is.pure fun h=>by cases h) (fun e=>Is.dcd (fun _=>Is.pure fun h=>by cases h) (fun p=>?_))
    have hs:=hb (by simpa using e)
    refine Is.bnd (qR hml fun t ht=>Nat.le_trans (zu ht) (by omega)) fun q k=>Is.cnd (fun _=>Is.pure fun h=>by cases h) (fun m=>?_)
    have hseq:=k.1 (by simpa using m)
    refine Is.bnq (x:=tx x1) (Is.eq ?_) (Is.pure fun h=>⟨hs.1,by omega,hseq,by have:=of_decide_eq_false h; omega⟩)
    unfold M.k6
    refine Is.bnd (P:=fun s=>s=tx x1) ?_ fun s hs=>Is.pure hs
    refine Is.upto (fun i (st:Str×Int)=>st.2=(i:Int)∧st.1=tx (x1.take i)) x1.length hml ⟨rfl,rfl⟩ ?_ ?_
    · rintro i ⟨s,_⟩ hi ⟨rfl,e⟩
      obtain rfl:s=_:=e
      have c:=fH x1 (i+1)
      rw [jv hi,List.length_append] at c
      refine Is.dt (by omega) (Is.bnq (ba hi) (Is.bnq (x:=tx (x1.take i)++x1[i].Text) (by unfold mR; rw [if_pos (by omega)]) (Is.add1 (by omega) (Is.next ⟨rfl,by rw [jv hi]⟩))))
    · rintro ⟨s,_⟩ ⟨rfl,e⟩
      obtain rfl:s=_:=e
      rw [List.take_length]
      exact Is.df (by omega) (Is.stop rfl)
  · obtain ⟨c,o,f,d⟩:=hb e
    have hlen:(tZ a x1).length≤1000000:=by
      have:∀n l,(mg a n l).length≤n:=by
        intro n
        induction n with
        | zero=>intro l; exact Nat.le_refl _
        | succ n ih=>
          intro l
          cases l with
          | nil=>exact Nat.zero_le _
          | cons t l=>rw [mg,List.length_cons]; have:=ih ((t::l).drop (nx a t l).2.2); omega
      have:=this x1.length x1
      unfold tZ; omega
    refine Is.bnq (x:=true) (Is.eq (Is.bnq oC (Is.ct rfl (Is.bnq (wh c (by omega) d f.tb) (Is.bnq (qX c (by omega) d f.tb) (Is.bnq (sD hlen) (Is.pure rfl))))))) (Is.pure rfl)
end Go.Proofs.YtlcdifnmkafcfaaGreat
namespace Go.Proofs.YtlcdifnmkafcfaaGreat
open Go.Lx Go.RowKit Go.ChangeShapes Go.WideShapes Go.ChangeAt
theorem kG {H:Type}:∀l:List (DataW H),Rows.uptoBulkAll l=(l.map Rows.uptoBulk).sum
  | []=>by simp [Rows.uptoBulkAll]
  | d::l=>by simp only [Rows.uptoBulkAll,List.map_cons,List.sum_cons,kG l]
abbrev vt (H:Type) (d:DataW H):Nat:=Rows.uptoBulk d
theorem uw:BY vt:=by
  refine ⟨fun H es sp=>?_,fun H ps=>?_⟩
  · show _≤Rows.uptoBulk (.slice es sp)
    simp only [Rows.uptoBulk,kG]
    show (es.map Rows.uptoBulk).sum≤_
    omega
  · show _≤Rows.uptoBulk (.agg ps)
    simp only [Rows.uptoBulk,kG]
    exact Nat.le_refl _
theorem sG {P:Program} {T:TypeId} (hT:P.underlying T=some .string) (f:Nat):kI vt P T cM (fun s n=>s.length≤maxLen∧s.length≤n) f:=by
  intro H enc w cs x h
  obtain ⟨s,rfl,e,hw⟩:=DataW.trod_string hT h
  refine ⟨s.data.toList,rfl,(show s.data.toList.length≤maxLen from hw),?_⟩
  rw [e]
  show s.data.toList.length≤s.data.toList.length+1
  omega
set_option maxRecDepth 100000 in
theorem pX (f:Nat):kI vt Tryz.prog 43 bF (fun y n=>hY y∧y.Text.length≤n) f:=by
  intro H enc w cs x h
  obtain ⟨xs,m,hfm,hx,hl,hlen,hf⟩:=DataW.trod_struct DK h
  obtain ⟨e,l,r⟩:=gN ((fC DO).at m) hf hlen 0 rfl (o:=0) (s:=1) rfl (by kernel_rfl)
  obtain ⟨d,k,q⟩:=gN ((fC DO).at m) hf hlen 1 rfl (o:=1) (s:=1) rfl (by kernel_rfl)
  obtain ⟨c,v,u,j,a⟩:=qo (sG DC m) hf hlen 2 rfl (o:=2) (s:=1) rfl (by kernel_rfl)
  obtain ⟨b,g,p⟩:=gN ((fC DO).at m) hf hlen 3 rfl (o:=3) (s:=1) rfl (by kernel_rfl)
  have t:cs.length=4:=hl.trans (by kernel_rfl)
  have hb:=uw.agg H (xs.map (·.1))
  have hs:vt H v.1≤((xs.map (·.1)).map (vt H)).sum:=xI (i:=2) (by simp [u])
  refine ⟨⟨e,d,c,b⟩,⟨_,_,_,_,?_,l,k,j,g⟩,⟨r,q,a.1,p⟩,?_⟩
  · exact (pe cs 0 1).trans (congrArg (_++·) ((pe cs 1 1).trans (congrArg (_++·) ((pe cs 2 1).trans (congrArg (_++·) (zY (o:=3) (s:=1) t))))))
  · rw [hx]
    have:=a.2
    simp only
    omega
theorem vF:∀ {l:List aQ} {ns:List Nat},ns.length=l.length→(∀(i:Nat) (x:aQ),l[i]?=some x→∃k,ns[i]?=some k∧(hY x∧x.Text.length≤k))→(tx l).length≤ns.sum∧∀x∈l,hY x
  | [],ns,_,_=>by simp [tx]
  | y::l,[],h,_=>by simp at h
  | y::l,n::ns,h,hk=>by
    obtain ⟨k,e,d,g⟩:=hk 0 y rfl
    cases e
    obtain ⟨f,c⟩:=vF (l:=l) (ns:=ns) (by simpa using h) (fun i x hx=>by
      obtain ⟨k,a,b⟩:=hk (i+1) x (by simpa using hx)
      exact ⟨k,by simpa using a,b⟩)
    refine ⟨by rw [tE,List.length_append,List.sum_cons]; omega,fun x hx=>?_⟩
    rcases List.mem_cons.1 hx with rfl|hx
    · exact d
    · exact c x hx
theorem pa:∀f,kI vt Tryz.prog 34 (cz bF) (fun l n=>((∀x∈l,hY x)∧l.length≤maxLen)∧(tx l).length≤n) f:=by
  intro f H enc w cs x h
  obtain ⟨y,h1,⟨ns,n1,n2,n3⟩,n4⟩:=nO uw DG (by kernel_rfl) (by decide) (fun m _=>pX m) H enc w cs x h
  obtain ⟨q1,q2⟩:=vF n1 n3
  exact ⟨y,h1,⟨q2,n4⟩,by omega⟩
end Go.Proofs.YtlcdifnmkafcfaaGreat
