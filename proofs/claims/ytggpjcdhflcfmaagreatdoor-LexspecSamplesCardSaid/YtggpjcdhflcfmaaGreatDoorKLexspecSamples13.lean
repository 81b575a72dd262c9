/- Part 13. -/
import Derived.Test.YtggpjcdhflcfmaaGreatDoorKLexspecSamples12
set_option linter.unusedVariables false
namespace Go.Proofs.YtggpjcdhflcfmaaGreatDoor
open Go.Lx
theorem se {k:Int} (h:0≤k∧k≤10):zY .i64 k:=⟨by show (-9223372036854775808:Int)≤k; omega,by show k≤(9223372036854775807:Int); omega⟩
theorem xV:∀x∈(aT.zero 4).1,zY .u64 x:=fun x hx=>by simp [aT.zero] at hx; subst hx; exact ⟨by decide,by decide⟩
theorem fF {k:Int} {l:List T_Regex} (hk:0≤k∧k≤10) (hl:l.length≤2000000) (h:∀y∈l,bP y):bP ⟨k,aT.zero 4,l⟩:=
 .mk _ (se hk) xV h (Nat.le_trans hl (by decide))
theorem nq {v:aT 4} (hv:W4 v):bP ⟨3,v,[]⟩:=
 .mk _ (se (k:=3) (by omega)) (fun x hx=>by have:=hv x hx; exact ⟨by show (0:Int)≤x; omega,by show x≤(18446744073709551615:Int); omega⟩) (fun _ h=>by cases h) (by show 0≤maxLen; omega)
theorem uv {l:List T_Regex} {h:Nat} (hh:∀y∈l,height y≤h):cb l≤h:=by
 induction l with
 | nil=>simp [cb]
 | cons y l ih=>
  have:=hh y (by simp);have:=ih fun z hz=>hh z (by simp [hz])
  simp only [cb]; omega
def Bp (x:T_Regex) (c:Nat):Prop:=parts x≤c*2 ^ height x
def Bl (l:List T_Regex) (c:Nat):Prop:=bF l≤c*2 ^ cb l
theorem Bp.more {x:T_Regex} {c d:Nat} (h:Bp x c) (hd:c≤d):Bp x d:=Nat.le_trans h (IB _ hd)
theorem Bl.more {l:List T_Regex} {c d:Nat} (h:Bl l c) (hd:c≤d):Bl l d:=Nat.le_trans h (IB _ hd)
theorem Bl.nil (c:Nat):Bl [] c:=Nat.zero_le _
theorem qp (k:Nat):1≤2 ^ k:=Nat.one_le_two_pow
theorem Bl.snoc {l:List T_Regex} {x:T_Regex} {c d:Nat} (h:Bl l c) (hx:Bp x d):Bl (l++[x]) (c+d):=by
 unfold Bl;rw [iB,kR];simp only [bF,cb,Nat.add_zero,Nat.max_zero];rw [Nat.add_mul];exact Nat.add_le_add (Nat.le_trans h (IC _ (Nat.pow_le_pow_right (by omega) (by omega)))) (Nat.le_trans hx (IC _ (Nat.pow_le_pow_right (by omega) (by omega))))
theorem Bl.one {x:T_Regex} {c:Nat} (hx:Bp x c):Bl [x] c:=by
 unfold Bl;simp only [bF,cb,Nat.add_zero,Nat.max_zero];exact hx
theorem Bl.node {l:List T_Regex} {c:Nat} (h:Bl l c) (hc:1≤c) (k:Int) (s:aT 4):Bp ⟨k,s,l⟩ c:=by
 unfold Bp;simp only [parts,height];have h1:=qp (cb l);have h2:1≤c*2 ^ cb l:=Nat.le_trans hc (Nat.le_mul_of_pos_right _ h1);have h3:c*2 ^ (cb l+1)=c*2 ^ cb l+c*2 ^ cb l:=by rw [Nat.pow_succ,←Nat.mul_assoc,Nat.mul_two]
 have h4:bF l≤c*2 ^ cb l:=h;omega
theorem Bl.of1 {y:T_Regex} {c:Nat} (h:Bl [y] c):Bp y c:=by
 unfold Bl at h;unfold Bp;simpa only [bF,cb,Nat.add_zero,Nat.max_zero] using h
theorem Bp.leaf (k:Int) (s:aT 4) {c:Nat} (hc:1≤c):Bp ⟨k,s,[]⟩ c:=Bl.node (Bl.nil c) hc k s
theorem Bp.opt {z:T_Regex} {c:Nat} (h:Bp z c) (hc:1≤c) (k:Int) (s s':aT 4) (k':Int):Bp ⟨k,s,[z,⟨k',s',[]⟩]⟩ (c+1):=by
 have:=(Bl.one h).snoc (Bp.leaf k' s' (c:=1) (by omega));exact this.node (by omega) k s
theorem Bp.more1 {z:T_Regex} {c:Nat} (h:Bp z c) (hc:1≤c) (k k':Int) (s s':aT 4):Bp ⟨k,s,[z,⟨k',s',[z]⟩]⟩ c:=by
 unfold Bp at h ⊢;simp only [parts,bF,height,cb,Nat.add_zero,Nat.max_zero];rw [show max (height z) (height z+1)+1=height z+2 by omega,Nat.pow_add,show 2 ^ 2=4 from rfl,←Nat.mul_assoc];have:=Nat.le_trans hc (Nat.le_mul_of_pos_right c (qp (height z)));omega
def zR (s:Str) (p k d:Nat) (a:Rt (T_Regex×aD)) (b:T_Regex×aG):Prop:=
 (∃(x:T_Regex) (q:Nat),p+d≤q∧q≤s.length∧bP x∧(height x≤3*(q - p)+k∧Bp x (q - p+1 - d))∧a=.ret (x,⟨s,q⟩)∧b=(x,⟨s,q,false⟩))∨(∃(q:Nat) (y:T_Regex),q≤s.length∧a=.pan q∧b=(y,⟨s,q,true⟩))
theorem CP:M.k9=M.m9:=by decide +kernel
theorem zw:M.k9=some (ml (rv [10])):=by
 unfold M.k9;have h:M.j7 [10]=some (rv [10]):=EW (s:=[10]) (by decide);rw [h,Ig,iE (lb _),Ig]
theorem xC (b:Nat):eE b b=[b]:=by unfold eE; rw [show b+1 - b=1 by omega]; rfl
theorem yb {s:Str} {q:Nat} (hs:s.length≤1000000) (h:q<s.length) (a:(s[q]).toNat=41):M.a4 ⟨s,q⟩ 41=some (.ret ⟨s,(q+1:Nat)⟩):=by
 unfold M.a4;refine cX (aN (x:=false) (ee (cv (show (q:Int)≠(s.length:Int) by omega)) (aN (dM h) (congrArg some (su (show ((s[q]).toNat:Int)=41 by omega))))) rfl) (aN (aK (show q<9223372036854775807 by omega)) rfl)
theorem ya {s:Str} {q:Nat} (h:q<s.length) (h1:(s[q]).toNat≠41):M.a4 ⟨s,q⟩ 41=some (.pan q):=by
 unfold M.a4;exact eC (aN (x:=true) (ee (cv (show (q:Int)≠(s.length:Int) by omega)) (aN (dM h) (congrArg some (mf (show ((s[q]).toNat:Int)≠41 by omega))))) rfl)
theorem vS {s:Str}:M.a4 ⟨s,(s.length:Nat)⟩ 41=some (.pan (s.length:Nat)):=by
 unfold M.a4;exact eC (aN (x:=true) (hY (qR rfl) rfl) rfl)
section
variable {s:Str} (hs:s.length≤1000000)
def PA (s:Str) (m:Nat):Prop:=∀p:Nat,p≤s.length→s.length - p≤m→∀fl,4*m+1≤fl→dP (M.d9 fl ⟨s,p⟩) (M.e0 fl ⟨s,p,false⟩) (zR s p 0 1)
def PP (s:Str) (m:Nat):Prop:=∀p:Nat,p≤s.length→s.length - p≤m→∀fl,4*m+2≤fl→dP (M.c8 fl ⟨s,p⟩) (M.c9 fl ⟨s,p,false⟩) (zR s p 0 1)
def PB (s:Str) (m:Nat):Prop:=∀p:Nat,p≤s.length→s.length - p≤m→∀fl,4*m+3≤fl→dP (M.b8 fl ⟨s,p⟩) (M.b9 fl ⟨s,p,false⟩) (zR s p 1 0)
def PR (s:Str) (m:Nat):Prop:=∀p:Nat,p≤s.length→s.length - p≤m→∀fl,4*m+4≤fl→dP (M.c2 fl ⟨s,p⟩) (M.c3 fl ⟨s,p,false⟩) (zR s p 2 0)
include hs
theorem zJ {m:Nat} (h:∀m',m'<m→PR s m'):PA s m:=by
 intro p hp hm j F;obtain ⟨j,rfl⟩:∃f,j=f+1:=⟨j - 1,by omega⟩;unfold M.d9 M.e0;obtain ⟨x,y,hx,hy,k,n⟩:=gD hp;refine dP.l hx (dP.r hy ?_);rw [←k 40 (by decide) (by decide),←k 91 (by decide) (by decide),←k 46 (by decide) (by decide)];cases D:(x == (40:Int))
 ·cases t:(x == (91:Int))
  ·cases B:(x == (46:Int))
   ·refine dP.bb (qN hs hp false) ?_;rintro a b (⟨c,q,g,d,o,rfl,rfl⟩|⟨q,hq,rfl,rfl⟩)
    ·refine dP.l (nK o o) (dP.r (b:=⟨3,fg (aT.zero 4) c,[]⟩) ?_ (.pure (.inl ⟨⟨3,fg (aT.zero 4) c,[]⟩,q,g,d,nq (uP jR c),⟨?_,Bp.leaf _ _ (by omega)⟩,?_,rfl⟩)))
     ·unfold M.m1;exact aN (mr jR o) rfl
     ·simp only [height,cb]; omega
     ·rw [xC]; rfl
    ·refine dP.r (b:=⟨3,fg (aT.zero 4) 0,[]⟩) ?_ (.pure (.inr ⟨q,_,hq,rfl,rfl⟩));unfold M.m1;exact aN (mr jR (c:=0) (by omega)) rfl
   ·have e:=n 46 (by decide) (dG B);refine dP.l (aK (i:=p) (by omega)) (dP.l zw (dP.r (aK (i:=p) (by omega)) (dP.r (CP.symm.trans zw) (.pure (.inl ⟨_,p+1,Nat.le_refl _,e,nq (uQ (lb _)),⟨?_,Bp.leaf _ _ (by omega)⟩,rfl,rfl⟩)))));simp only [height,cb]; omega
  ·have e:=n 91 (by decide) (dG t);have A:(s[p]).toNat=91:=by
    rw [wM e] at hx;have:=Option.some.inj hx;have:=dG t;omega
   refine dP.r (aK (i:=p) (by omega)) (dP.bb (uI hs e A) ?_);rintro a b (⟨set,q,g,d,v,rfl,rfl⟩|⟨q,y,hq,rfl,rfl⟩)
   ·refine .pure (.inl ⟨⟨3,set,[]⟩,q,g,d,nq v,⟨?_,Bp.leaf _ _ (by omega)⟩,rfl,rfl⟩);simp only [height,cb]; omega
   ·exact .pure (.inr ⟨q,_,hq,rfl,rfl⟩)
 ·have e:=n 40 (by decide) (dG D);refine dP.l (aK (i:=p) (by omega)) (dP.r (aK (i:=p) (by omega)) ?_);refine dP.bb (h (m - 1) (by omega) (p+1) e (by omega) j (by omega)) ?_;rintro a b (⟨z,q,g,d,w,hh,rfl,rfl⟩|⟨q,y,hq,rfl,rfl⟩)
  ·rcases Nat.lt_or_eq_of_le d with hq|hq
   ·by_cases u:(s[q]).toNat=41
    ·refine dP.l (yb hs hq u) (dP.r (gu hq) ?_);rw [su (show ((s[q]).toNat:Int)=41 by omega)];exact dP.r (aK (i:=q) (by omega)) (.pure (.inl ⟨z,q+1,by omega,hq,w,⟨by omega,hh.2.more (by omega)⟩,rfl,rfl⟩))
    ·refine dP.l (ya hq u) (dP.r (gu hq) ?_);rw [mf (show ((s[q]).toNat:Int)≠41 by omega)];exact .pure (.inr ⟨q,_,d,rfl,rfl⟩)
   ·subst hq;exact dP.l vS (dP.r kN (.pure (.inr ⟨s.length,_,d,rfl,rfl⟩)))
  ·exact .pure (.inr ⟨q,_,hq,rfl,rfl⟩)
theorem vg {m:Nat} (h:PA s m):PP s m:=by
  intro p hp hm G a5;obtain ⟨G,rfl⟩:∃f,G=f+1:=⟨G - 1,by omega⟩;unfold M.c8 M.c9;refine dP.bb (h p hp hm G (by omega)) ?_;rintro a b (⟨z,q,R,F,t,hh,rfl,rfl⟩|⟨q,y,hq,rfl,rfl⟩)
  · refine dP.on_ret ?_
    have key:=dP.loop (Q:=fun (a:Rt (T_Regex×aD)) (b:cN (Int×aT 4×List T_Regex×Int) (T_Regex×aG))=>∃c,b=.stop c∧zR s p 0 1 a c)
      (bA:=fun (I:Int×Int×(aT 4)×(List T_Regex))=>match I with
        | (N,v,u,A)=>bn ((M.a2 (aD.mk s N)).bind fun L=>
            bif (L == 42) then some (.next ((6:Int),([(T_Regex.mk v u A)]:(List T_Regex))))
            else bif (L == 43) then some (.next ((4:Int),([(T_Regex.mk v u A),(T_Regex.mk 6 (aT.zero 4) [(T_Regex.mk v u A)])]:(List T_Regex))))
            else bif (L == 63) then some (.next ((5:Int),([(T_Regex.mk v u A),(T_Regex.mk 2 (aT.zero 4) [])]:(List T_Regex))))
            else some (.stop (.stop (.ret ((T_Regex.mk v u A),(aD.mk s N)))))) fun (a3,W)=>
          (cd .i64 (N+1)).bind fun t3=>some (.next (t3,a3,(aT.zero 4),W)))
      (bB:=fun (I:Int×Int×(aT 4)×(List T_Regex))=>match I with
        | (D,r,o,n)=>bif (!false) then bn ((M.a0 (aG.mk s D false)).bind fun K=>
            bif (K == 42) then (M.j4 (T_Regex.mk r o n)).bind fun J=>some (.next (J.Kind,J.Set,J.Kids))
            else bif (K == 43) then (M.j4 (T_Regex.mk r o n)).bind fun Y=>some (.next ((4:Int),(aT.zero 4),([(T_Regex.mk r o n),Y]:(List T_Regex))))
            else bif (K == 63) then some (.next ((5:Int),(aT.zero 4),([(T_Regex.mk r o n),(T_Regex.mk 2 (aT.zero 4) [])]:(List T_Regex))))
            else some (.stop (.stop (.stop ((T_Regex.mk r o n),(aG.mk s D false)))))) fun (a2,a1,a0)=>
          (cd .i64 (D+1)).bind fun X=>some (.next (X,a2,a1,a0))
          else some (.stop (.next (r,o,n,D))))
      (fun a b m=>∃(z:T_Regex) (q:Nat),p+1≤q∧q≤s.length∧bP z∧(height z≤3*(q - p)∧Bp z (q - p))∧a=((q:Int),z.Kind,z.Set,z.Kids)∧b=((q:Int),z.Kind,z.Set,z.Kids)∧m=s.length - q) ?_
      (s.length - q) ba ba ((q:Int),z.Kind,z.Set,z.Kids) ((q:Int),z.Kind,z.Set,z.Kids) (by unfold ba; omega) (by unfold ba; omega) ⟨z,q,R,F,t,hh,rfl,rfl,rfl⟩
    · obtain ⟨a,b,ha,hb,c,rfl,hc⟩:=key
      exact ⟨a,c,ha,eC hb,hc⟩
    · rintro m _ _ ⟨⟨k,d,l⟩,q,R,F,t,hh,rfl,rfl,rfl⟩
      obtain ⟨x,y,hx,hy,P,S⟩:=gD F;have H:=P 42 (by decide) (by decide);have T:=P 43 (by decide) (by decide);have V:=P 63 (by decide) (by decide);have U:∀w∈[(⟨k,d,l⟩:T_Regex)],bP w:=fun w e=>by rw [Ip.1 e]; exact t
      cases g:(x == (42:Int))
      · cases j:(x == (43:Int))
        · cases B:(x == (63:Int))
          · refine .inr ⟨_,eC (aN hx (ee g (ee j (ee B rfl)))),.inl ⟨_,eC (aN hy (ee (H ▸ g) (ee (T ▸ j) (ee (V ▸ B) rfl)))),_,rfl,.inl ⟨_,q,R,F,t,hh,rfl,rfl⟩⟩⟩
          · have hl:=S 63 (by decide) (dG B)
            refine .inl ⟨_,_,s.length - (q+1),cX (aN hx (ee g (ee j (hY B rfl)))) (aN (aK (i:=q) (by omega)) rfl),
              cX (aN hy (ee (H ▸ g) (ee (T ▸ j) (hY (V ▸ B) rfl)))) (aN (aK (i:=q) (by omega)) rfl),by omega,⟨5,aT.zero 4,[⟨k,d,l⟩,⟨2,aT.zero 4,[]⟩]⟩,q+1,by omega,hl,?_,⟨?_,(hh.2.opt (by omega) _ _ _ _).more (by omega)⟩,rfl,rfl,rfl⟩
            · refine fF (by omega) (by simp) fun w e=>?_
              rcases IJ.1 e with rfl|e
              · exact t
              · rw [Ip.1 e]; exact fF (by omega) (by simp) (by simp)
            · have:height (⟨5,aT.zero 4,[⟨k,d,l⟩,⟨2,aT.zero 4,[]⟩]⟩:T_Regex)≤height (⟨k,d,l⟩:T_Regex)+1:=by simp only [height,cb]; omega
              omega
        · have hl:=S 43 (by decide) (dG j)
          refine .inl ⟨_,_,s.length - (q+1),cX (aN hx (ee g (hY j rfl))) (aN (aK (i:=q) (by omega)) rfl),
            cX (aN hy (ee (H ▸ g) (hY (T ▸ j) rfl))) (aN (aK (i:=q) (by omega)) rfl),by omega,⟨4,aT.zero 4,[⟨k,d,l⟩,⟨6,aT.zero 4,[⟨k,d,l⟩]⟩]⟩,q+1,by omega,hl,?_,⟨?_,(hh.2.more1 (by omega) _ _ _ _).more (by omega)⟩,rfl,rfl,rfl⟩
          · refine fF (by omega) (by simp) fun w e=>?_
            rcases IJ.1 e with rfl|e
            · exact t
            · rw [Ip.1 e]; exact fF (by omega) (by simp) U
          · have:height (⟨4,aT.zero 4,[⟨k,d,l⟩,⟨6,aT.zero 4,[⟨k,d,l⟩]⟩]⟩:T_Regex)≤height (⟨k,d,l⟩:T_Regex)+2:=by simp only [height,cb]; omega
            omega
      · have hl:=S 42 (by decide) (dG g)
        refine .inl ⟨_,_,s.length - (q+1),cX (aN hx (hY g rfl)) (aN (aK (i:=q) (by omega)) rfl),
          cX (aN hy (hY (H ▸ g) rfl)) (aN (aK (i:=q) (by omega)) rfl),by omega,⟨6,aT.zero 4,[⟨k,d,l⟩]⟩,q+1,by omega,hl,fF (by omega) (by simp) U,⟨?_,((Bl.one hh.2).node (by omega) _ _).more (by omega)⟩,rfl,rfl,rfl⟩
        have:height (⟨6,aT.zero 4,[⟨k,d,l⟩]⟩:T_Regex)≤height (⟨k,d,l⟩:T_Regex)+1:=by simp only [height,cb]; omega
        omega
  · exact ⟨_,(⟨y.Kind,y.Set,y.Kids⟩,⟨s,q,true⟩),rfl,cX (je rfl) rfl,.inr ⟨q,_,hq,rfl,rfl⟩⟩
omit hs in
theorem uw (k:Int) (l:List T_Regex) (hl:l≠[]):∃x,M.j8 k l=some x∧((∃y,l=[y]∧x=y)∨(2≤l.length∧x=⟨k,aT.zero 4,l⟩)):=by
 match l with
 | []=>exact absurd rfl hl
 | [y]=>exact ⟨y,rfl,.inl ⟨y,rfl,rfl⟩⟩
 | y::z::l=>
  refine ⟨_,ee (cv (by simp only [IG]; omega)) rfl,.inr ⟨by simp only [IG]; omega,rfl⟩⟩
omit hs in
theorem yM {l:List T_Regex} (h:2≤l.length):((l.length:Int) == 1)=false:=cv (by omega)
omit hs in
theorem uE {q:Nat} (hq:q≤s.length):∃g,((bif (decide ((q:Int)<(s.length:Int))) then (jK s q).bind fun a=>bif (a != 124) then some (a != 41) else some false else some false)=some g)∧
    ((bif (!false) then (M.a0 (aG.mk s q false)).bind fun d=>bif (d != (-1)) then (M.a0 (aG.mk s q false)).bind fun c=>
      bif (c != 124) then (M.a0 (aG.mk s q false)).bind fun b=>some (b != 41) else some false else some false else some false)=some g)∧(g=true→q<s.length):=by
  rcases Nat.lt_or_eq_of_le hq with h|h
  · refine ⟨bif (((s[q]).toNat:Int) != 124) then (((s[q]).toNat:Int) != 41) else false,hY (ed (by omega)) (aN (dM h) ?_),aN (gu h) (hY (mf (by omega)) (aN (gu h) ?_)),fun _=>h⟩
    · cases (((s[q]).toNat:Int) != 124) <;> rfl
    · cases (((s[q]).toNat:Int) != 124)
      · rfl
      · exact aN (gu h) rfl
  · subst h
    exact ⟨false,ee (eI (by omega)) rfl,aN kN rfl,fun h=>by cases h⟩
def mi (h:Nat) (l:List T_Regex):Prop:=∀y∈l,bP y∧height y≤h
omit hs in
theorem mi.snoc {h h':Nat} {l:List T_Regex} {x:T_Regex} (hl:mi h l) (hh:h≤h') (hx:bP x∧height x≤h'):mi h' (l++[x]):=by
 intro y hy;rcases Iq.1 hy with hy|hy
 ·exact ⟨(hl y hy).1,Nat.le_trans (hl y hy).2 hh⟩
 ·rw [Ip.1 hy]; exact hx
omit hs in
theorem mi.node {h:Nat} {l:List T_Regex} (hl:mi h l) {k:Int} (hk:0≤k∧k≤10) (hn:l.length≤2000000):bP ⟨k,aT.zero 4,l⟩∧height (⟨k,aT.zero 4,l⟩:T_Regex)≤h+1:=by
 refine ⟨fF hk hn fun y hy=>(hl y hy).1,?_⟩;have:=uv fun y hy=>(hl y hy).2
 simp only [height]; omega
theorem wa {m:Nat} (h:PP s m):PB s m:=by
  intro p hp hm n J;obtain ⟨n,rfl⟩:∃f,n=f+1:=⟨n - 1,by omega⟩;unfold M.b8 M.b9;refine dP.sb (P:=fun (a:cN (List T_Regex×Str×Int) (Rt (T_Regex×aD))) (b:List T_Regex×Str×Int×Bool)=>
      (∃(l:List T_Regex) (q:Nat),p≤q∧q≤s.length∧(mi (3*(q - p)) l∧Bl l (q - p))∧l.length≤q - p∧a=.next (l,s,(q:Int))∧b=(l,s,(q:Int),false))∨(∃(l:List T_Regex) (q:Nat),q≤s.length∧a=.stop (.pan q)∧b=(l,s,(q:Int),true)))
    (dP.loop (fun (a:Str×Int×(List T_Regex)) (b:Str×Int×Bool×(List T_Regex)) k=>∃(l:List T_Regex) (q:Nat),p≤q∧q≤s.length∧(mi (3*(q - p)) l∧Bl l (q - p))∧l.length≤q - p∧a=(s,(q:Int),l)∧b=(s,(q:Int),false,l)∧k=s.length - q) ?_
      (s.length - p) _ _ _ _ (by unfold ba; omega) (by unfold ba; omega) ⟨[],p,Nat.le_refl _,hp,⟨(show mi (3*(p - p)) [] from fun y hy=>absurd hy (by simp)),Bl.nil _⟩,by simp,rfl,rfl,rfl⟩) ?_ ?_
  · rintro k _ _ ⟨l,q,i,hq,d,hl,rfl,rfl,rfl⟩
    obtain ⟨g,t,r,I⟩:=uE hq;cases g
    · exact .inr ⟨.next (l,s,(q:Int)),aN t rfl,.inl ⟨(l,s,(q:Int),false),aN r rfl,.inl ⟨l,q,i,hq,d,hl,rfl,rfl⟩⟩⟩
    · obtain ⟨L,K,w,v,F⟩:=h q hq (by omega) n (by omega)
      rcases F with ⟨x,c,H,A,D,hh,rfl,rfl⟩|⟨c,y,B,rfl,rfl⟩
      · have j:cy 64 l [x]=some (l++[x]):=bO (by simp only [Ih]; omega)
        refine .inl ⟨(s,(c:Int),l++[x]),(s,(c:Int),false,l++[x]),s.length - c,aN t (aN w (aN j rfl)),aN r (aN v (aN j rfl)),by omega,
          l++[x],c,by omega,A,⟨d.1.snoc (by omega) ⟨D,by omega⟩,(d.2.snoc hh.2).more (by omega)⟩,by simp only [Ik,Ih]; omega,rfl,rfl,rfl⟩
      · have j:cy 64 l [y]=some (l++[y]):=bO (by simp only [Ih]; omega)
        exact .inr ⟨.stop (.pan c),aN t (aN w rfl),.inr ⟨(s,(c:Int),true,l++[y]),(l++[y],s,(c:Int),true),aN r (aN v (aN j rfl)),aN (x:=false) rfl rfl,.inr ⟨l++[y],c,B,rfl,rfl⟩⟩⟩
  · rintro a b (⟨l,q,i,hq,d,hl,e,rfl⟩|⟨l,q,hq,e,rfl⟩)
    · cases e
      by_cases o:l=[]
      · subst o
        refine ⟨.ret (⟨2,aT.zero 4,[]⟩,⟨s,q⟩),(⟨2,aT.zero 4,[]⟩,⟨s,q,false⟩),rfl,rfl,.inl ⟨⟨2,aT.zero 4,[]⟩,q,i,hq,fF (by omega) (by simp) (by simp),⟨?_,Bp.leaf _ _ (by omega)⟩,rfl,rfl⟩⟩;simp only [height,cb]; omega
      · have u:((l.length:Int) == 0)=false:=cv (fun e=>o (IZ (by omega)))
        obtain ⟨x,hx,⟨y,rfl,e⟩|⟨G,rfl⟩⟩:=uw 4 l o
        · have:=d.1 y (by simp)
          exact ⟨.ret (y,⟨s,q⟩),(y,⟨s,q,false⟩),rfl,rfl,.inl ⟨y,q,i,hq,this.1,⟨by omega,d.2.of1.more (by omega)⟩,rfl,rfl⟩⟩
        · have:=d.1.node (k:=4) (by omega) (by omega)
          exact ⟨.ret (⟨4,aT.zero 4,l⟩,⟨s,q⟩),(⟨4,aT.zero 4,l⟩,⟨s,q,false⟩),ee u (aN hx rfl),ee u (ee (yM G) rfl),.inl ⟨_,q,i,hq,this.1,⟨this.2,(d.2.more (show q - p≤q - p+1 - 0 by omega)).node (by omega) _ _⟩,rfl,rfl⟩⟩
    · cases e
  · rintro x b (⟨l,q,i,hq,d,hl,e,rfl⟩|⟨l,q,hq,e,rfl⟩)
    · cases e
    · cases e
      match l with
      | []=>exact ⟨_,(⟨2,aT.zero 4,[]⟩,⟨s,q,true⟩),rfl,rfl,.inr ⟨q,_,hq,rfl,rfl⟩⟩
      | [y]=>exact ⟨_,(y,⟨s,q,true⟩),rfl,rfl,.inr ⟨q,_,hq,rfl,rfl⟩⟩
      | y::z::l=>
        exact ⟨_,(⟨4,aT.zero 4,y::z::l⟩,⟨s,q,true⟩),rfl,ee (cv (by simp only [IG]; omega)) (ee (cv (by simp only [IG]; omega)) rfl),.inr ⟨q,_,hq,rfl,rfl⟩⟩
theorem xz {m:Nat} (h:PB s m):PR s m:=by
  intro p hp hm j T;obtain ⟨j,rfl⟩:∃f,j=f+1:=⟨j - 1,by omega⟩;unfold M.c2 M.c3;refine dP.bb (h p hp hm j (by omega)) ?_;rintro a b (⟨z,u,S,F,I,hh,rfl,rfl⟩|⟨q,y,hq,rfl,rfl⟩)
  · refine dP.on_ret ?_
    refine dP.sb (P:=fun (a:cN (List T_Regex×Str×Int) (Rt (T_Regex×aD))) (b:List T_Regex×Str×Int×Bool)=>
        (∃(l:List T_Regex) (q:Nat),p≤q∧q≤s.length∧(mi (3*(q - p)+1) l∧Bl l (q - p+1))∧l.length≤q - p+1∧l≠[]∧a=.next (l,s,(q:Int))∧b=(l,s,(q:Int),false))∨(∃(l:List T_Regex) (q:Nat),q≤s.length∧a=.stop (.pan q)∧b=(l,s,(q:Int),true)))
      (dP.loop (fun (a:Str×Int×(List T_Regex)) (b:Str×Int×Bool×(List T_Regex)) k=>∃(l:List T_Regex) (q:Nat),p≤q∧q≤s.length∧(mi (3*(q - p)+1) l∧Bl l (q - p+1))∧l.length≤q - p+1∧l≠[]∧a=(s,(q:Int),l)∧b=(s,(q:Int),false,l)∧k=s.length - q) ?_
        (s.length - u) _ _ _ _ (by unfold ba; omega) (by unfold ba; omega) ⟨[z],u,by omega,F,⟨fun y hy=>by rw [Ip.1 hy]; exact ⟨I,hh.1⟩,Bl.one hh.2⟩,by simp,by simp,rfl,rfl,rfl⟩) ?_ ?_
    · rintro k _ _ ⟨l,q,i,hq,d,hl,n,rfl,rfl,rfl⟩
      obtain ⟨x,y,hx,hy,B,K⟩:=gD hq;have e:=B 124 (by decide) (by decide);cases g:(x == (124:Int))
      · exact .inr ⟨.next (l,s,(q:Int)),aN hx (ee g rfl),.inl ⟨(l,s,(q:Int),false),aN (x:=false) (aN hy (congrArg some (e ▸ g))) rfl,.inl ⟨l,q,i,hq,d,hl,n,rfl,rfl⟩⟩⟩
      · have J:=K 124 (by decide) (dG g)
        have o:cd .i64 ((q:Int)+1)=some ((q+1:Nat):Int):=aK (by omega);obtain ⟨V,U,A,v,N⟩:=h (q+1) J (by omega) j (by omega);rcases N with ⟨w,c,R,D,H,L,rfl,rfl⟩|⟨c,w,G,rfl,rfl⟩
        · have t:cy 64 l [w]=some (l++[w]):=bO (by simp only [Ih]; omega)
          refine .inl ⟨(s,(c:Int),l++[w]),(s,(c:Int),false,l++[w]),s.length - c,aN hx (hY g (aN o (aN A (aN t rfl)))),aN (x:=true) (aN hy (congrArg some (e ▸ g))) (aN o (aN v (aN t rfl))),by omega,
            l++[w],c,by omega,D,⟨d.1.snoc (by omega) ⟨H,by omega⟩,(d.2.snoc L.2).more (by omega)⟩,by simp only [Ik,Ih]; omega,by simp,rfl,rfl,rfl⟩
        · have t:cy 64 l [w]=some (l++[w]):=bO (by simp only [Ih]; omega)
          exact .inr ⟨.stop (.pan c),aN hx (hY g (aN o (aN A rfl))),.inr ⟨(s,(c:Int),true,l++[w]),(l++[w],s,(c:Int),true),aN (x:=true) (aN hy (congrArg some (e ▸ g))) (aN o (aN v (aN t rfl))),aN (x:=false) rfl rfl,.inr ⟨l++[w],c,G,rfl,rfl⟩⟩⟩
    · rintro a b (⟨l,q,i,hq,d,hl,n,e,rfl⟩|⟨l,q,hq,e,rfl⟩)
      · cases e
        obtain ⟨x,hx,⟨y,rfl,e⟩|⟨Q,rfl⟩⟩:=uw 5 l n
        · have:=d.1 y (by simp)
          exact ⟨.ret (y,⟨s,q⟩),(y,⟨s,q,false⟩),rfl,rfl,.inl ⟨y,q,i,hq,this.1,⟨by omega,d.2.of1⟩,rfl,rfl⟩⟩
        · have:=d.1.node (k:=5) (by omega) (by omega)
          exact ⟨.ret (⟨5,aT.zero 4,l⟩,⟨s,q⟩),(⟨5,aT.zero 4,l⟩,⟨s,q,false⟩),aN hx rfl,ee (yM Q) rfl,.inl ⟨_,q,i,hq,this.1,⟨this.2,d.2.node (by omega) _ _⟩,rfl,rfl⟩⟩
      · cases e
    · rintro x b (⟨l,q,i,hq,d,hl,n,e,rfl⟩|⟨l,q,hq,e,rfl⟩)
      · cases e
      · cases e
        match l with
        | []=>exact ⟨_,(⟨5,aT.zero 4,[]⟩,⟨s,q,true⟩),rfl,rfl,.inr ⟨q,_,hq,rfl,rfl⟩⟩
        | [y]=>exact ⟨_,(y,⟨s,q,true⟩),rfl,rfl,.inr ⟨q,_,hq,rfl,rfl⟩⟩
        | y::z::l=>exact ⟨_,(⟨5,aT.zero 4,y::z::l⟩,⟨s,q,true⟩),rfl,ee (cv (by simp only [IG]; omega)) rfl,.inr ⟨q,_,hq,rfl,rfl⟩⟩
  · exact dP.on_pan ⟨_,(y,⟨s,q,true⟩),rfl,aN (je (r:=([y],s,(q:Int),true)) rfl) rfl,.inr ⟨q,_,hq,rfl,rfl⟩⟩
theorem BE:∀m,PR s m:=by
 intro m;induction m using Nat.strongRecOn with
 | _ m ih=>exact xz hs (wa hs (vg hs (zJ hs ih)))
theorem xK:∃r,M.g1 s=some r∧M.h2 s=some r∧bP r.1∧height r.1≤3*s.length+2∧Bp r.1 (s.length+1)∧(r.2.2=0→V 30 r.1=true):=by
 obtain ⟨a,b,ha,hb,g⟩:=BE hs s.length 0 (by omega) (by omega) ba (by unfold ba; omega);have e:bP ⟨0,aT.zero 4,[]⟩:=fF (by omega) (by simp) (by simp);have c:height (⟨0,aT.zero 4,[]⟩:T_Regex)≤3*s.length+2∧Bp ⟨0,aT.zero 4,[]⟩ (s.length+1):=⟨by simp only [height,cb]; omega,Bp.leaf _ _ (by omega)⟩;unfold M.g1 M.h2;rcases g with ⟨x,q,i,f,d,hh,rfl,rfl⟩|⟨q,y,hq,rfl,rfl⟩
 ·rcases Nat.lt_or_eq_of_le f with hq|hq
  ·refine ⟨(⟨0,aT.zero 4,[]⟩,(q:Int),3),aN ha (eC (hY (ed (by show (q:Int)<(s.length:Int); omega)) rfl)),aN hb (aN (x:=true) (congrArg some (ed (by show (q:Int)<(s.length:Int); omega))) rfl),e,c.1,c.2,fun h=>absurd (show (3:Int)=0 from h) (by decide)⟩
  ·have hd:decide ((q:Int)<(s.length:Int))=false:=eI (by omega);cases hv:V 30 x
   ·exact ⟨(⟨0,aT.zero 4,[]⟩,0,11),aN ha (cX (ee hd rfl) (aN ((qZ d).trans (congrArg some hv)) rfl)),aN hb (aN (x:=false) (congrArg some hd) (aN ((ku d).trans (congrArg some hv)) rfl)),e,c.1,c.2,fun h=>absurd h (by decide)⟩
   ·exact ⟨(x,0,0),aN ha (cX (ee hd rfl) (aN ((qZ d).trans (congrArg some hv)) rfl)),aN hb (aN (x:=false) (congrArg some hd) (aN ((ku d).trans (congrArg some hv)) rfl)),d,by show height x≤_; omega,hh.2.more (by omega),fun _=>hv⟩
 ·exact ⟨(⟨0,aT.zero 4,[]⟩,(q:Int),3),aN ha rfl,aN hb rfl,e,c.1,c.2,fun h=>absurd (show (3:Int)=0 from h) (by decide)⟩
end
end Go.Proofs.YtggpjcdhflcfmaaGreatDoor
namespace Go.Lx
theorem gE:∀(N:Nat) (l:List Nat),l.Nodup→(∀x∈l,x<N)→l.length≤N
 | 0,l,_,h=>by
  cases l with
  | nil=>simp
  | cons a l=>have:=h a (by simp); omega
 | N+1,l,hn,h=>by
  have c:=gE N (l.filter (· != N)) (hn.filter _) (fun x hx=>by
   simp only [IT,bne_iff_ne,ne_eq] at hx;have:=h x hx.1; omega)
  have d:l.length≤(l.filter (· != N)).length+1:=by
   clear c h;induction l with
   | nil=>simp
   | cons a l ih=>
    have b:=List.nodup_cons.1 hn
    by_cases ha:a=N
    ·subst ha;have:l.filter (· != a)=l:=List.filter_eq_self.2 fun x hx=>by
      have:x≠a:=by rintro rfl; exact b.1 hx
      simpa using this
     simp [this]
    ·have:=ih b.2;simp [ha]; omega
  omega
section
variable {K:Type} [DecidableEq K]
def tm (L:List K) (k:K):List K:=if k∈L then L else L++[k]
def DK (σ:Nat→K):Nat→List K
 | 0=>[]
 | i+1=>tm (DK σ i) (σ i)
theorem yY {L:List K} {k x:K}:x∈tm L k↔x∈L∨x=k:=by
 unfold tm;split
 ·rename_i h;constructor
  ·exact .inl
  ·rintro (h'|rfl)
   ·exact h'
   ·exact h
 ·simp
theorem jH {σ:Nat→K} {i:Nat} {s:K}:s∈DK σ i↔∃a,a<i∧σ a=s:=by
 induction i with
 | zero=>simp [DK]
 | succ i ih=>
  rw [DK,yY,ih];constructor
  ·rintro (⟨a,h1,h2⟩|rfl)
   ·exact ⟨a,by omega,h2⟩
   ·exact ⟨i,by omega,rfl⟩
  ·rintro ⟨a,h1,h2⟩
   by_cases h:a=i
   ·subst h; exact .inr h2.symm
   ·exact .inl ⟨a,by omega,h2⟩
theorem yp {σ:Nat→K} {i j:Nat} (h:i≤j):∃r,DK σ j=DK σ i++r:=by
 obtain ⟨k,rfl⟩:=Nat.le.dest h;clear h;induction k with
 | zero=>exact ⟨[],by simp⟩
 | succ k ih=>
  obtain ⟨r,hr⟩:=ih;rw [←Nat.add_assoc,DK,tm];split
  ·exact ⟨r,hr⟩
  ·exact ⟨r++[σ (i+k)],by simp [hr]⟩
theorem rc (σ:Nat→K) (i:Nat):(DK σ i).length≤i:=by
 induction i with
 | zero=>simp [DK]
 | succ i ih=>
  rw [DK,tm];split
  ·omega
  ·simp; omega
def mP (σ:Nat→K) (i:Nat):Nat:=(DK σ (i+1)).idxOf (σ i)
theorem ob {σ:Nat→K} {i j:Nat} (h:i<j):mP σ i=(DK σ j).idxOf (σ i):=by
 obtain ⟨r,hr⟩:=yp (σ:=σ) (i:=i+1) (j:=j) h;unfold mP;rw [hr,List.idxOf_append,if_pos (jH.2 ⟨i,by omega,rfl⟩)]
theorem gJ {σ:Nat→K} {i j:Nat} (h:i<j):mP σ i<(DK σ j).length:=by
 rw [ob h]; exact List.idxOf_lt_length_of_mem (jH.2 ⟨i,h,rfl⟩)
theorem vN {L:List K} {a b:K} (ha:a∈L) (h:L.idxOf a=L.idxOf b):a=b:=by
 have h1:=List.idxOf_lt_length_of_mem ha;have e1:L[L.idxOf a]'h1=a:=by simp
 have h2:L.idxOf b<L.length:=by omega
 have e2:L[L.idxOf b]'h2=b:=by simp
 rw [←e1,←e2];congr 1
theorem fq {σ:Nat→K} {i j:Nat}:mP σ i=mP σ j↔σ i=σ j:=by
 constructor
 ·intro h;rw [ob (j:=max i j+1) (by omega),ob (i:=j) (j:=max i j+1) (by omega)] at h;exact vN (jH.2 ⟨i,by omega,rfl⟩) h
 ·intro h;rw [ob (j:=max i j+1) (by omega),ob (i:=j) (j:=max i j+1) (by omega),h]
theorem EZ {σ:Nat→K} {i j:Nat} (h:i<j):(DK σ j)[mP σ i]?=some (σ i):=by
 have hlt:=gJ (σ:=σ) h;rw [Ie hlt];simp [ob h]
theorem nu {σ:Nat→K} {i:Nat} (h:σ i∉DK σ i):mP σ i=(DK σ i).length:=by
 unfold mP;rw [DK,tm,if_neg h,List.idxOf_append,if_neg h];simp
theorem AP {σ:Nat→K} {i:Nat} (h:σ i∈DK σ i):mP σ i<(DK σ i).length:=by
 unfold mP;rw [DK,tm,if_pos h];exact List.idxOf_lt_length_of_mem h
theorem rb {σ:Nat→K} {i:Nat} (h:σ i∉DK σ i):DK σ (i+1)=DK σ i++[σ i]:=by rw [DK,tm,if_neg h]
theorem lg {σ:Nat→K} {i:Nat} (h:σ i∈DK σ i):DK σ (i+1)=DK σ i:=by rw [DK,tm,if_pos h]
theorem uk {σ:Nat→K} {n c:Nat} (h:c<(DK σ n).length):∃i,i<n∧mP σ i=c∧∀j,j<i→mP σ j≠c:=by
 induction n with
 | zero=>simp [DK] at h
 | succ n ih=>
  by_cases hc:c<(DK σ n).length
  ·obtain ⟨i,d,b⟩:=ih hc;exact ⟨i,by omega,b⟩
  ·by_cases hm:σ n∈DK σ n
   ·rw [lg hm] at h; omega
   ·rw [rb hm] at h;simp at h;refine ⟨n,by omega,by rw [nu hm]; omega,fun j a=>?_⟩;have:=gJ (σ:=σ) a;omega
variable {K':Type} [DecidableEq K']
theorem uj {σ:Nat→K} {τ:Nat→K'} {n:Nat} (h:∀i j,i<n→j<n→(σ i=σ j↔τ i=τ j)):∀i,i≤n→(DK σ i).length=(DK τ i).length∧∀j,j<i→mP σ j=mP τ j:=by
 intro i;induction i with
 | zero=>intro _; exact ⟨rfl,fun j f=>by omega⟩
 | succ i ih=>
  intro g;obtain ⟨c,b⟩:=ih (by omega);have d:σ i∈DK σ i↔τ i∈DK τ i:=by
   rw [jH,jH];constructor
   ·rintro ⟨a,ha,e⟩; exact ⟨a,ha,(h a i (by omega) (by omega)).1 e⟩
   ·rintro ⟨a,ha,e⟩; exact ⟨a,ha,(h a i (by omega) (by omega)).2 e⟩
  by_cases hm:σ i∈DK σ i
  ·rw [lg hm,lg (d.1 hm)];refine ⟨c,fun j f=>?_⟩
   by_cases e:j=i
   ·subst e;obtain ⟨a,ha,e⟩:=jH.1 hm;rw [fq.2 e.symm,fq.2 ((h a j (by omega) (by omega)).1 e).symm];exact b a ha
   ·exact b j (by omega)
  ·have hm':=fun x=>hm (d.2 x)
   rw [rb hm,rb hm'];refine ⟨by simp [c],fun j f=>?_⟩
   by_cases e:j=i
   ·subst e;rw [nu hm,nu hm',c]
   ·exact b j (by omega)
theorem xN {σ:Nat→K} {τ:Nat→K'} {n:Nat} (h:∀i j,i<n→j<n→σ i=σ j→τ i=τ j):(DK τ n).length≤(DK σ n).length∧((DK σ n).length=(DK τ n).length→∀i j,i<n→j<n→τ i=τ j→σ i=σ j):=by
 -- the first place of each key of τ
 have first:∀m,m≤n→∃L:List Nat,(∀x∈L,x<m)∧L.length=(DK τ m).length∧(L.map τ).Nodup:=by
  intro m;induction m with
  | zero=>intro _; exact ⟨[],by simp,rfl,by simp⟩
  | succ m ih=>
   intro hm;obtain ⟨L,c,k,d⟩:=ih (by omega)
   by_cases hd:τ m∈DK τ m
   ·exact ⟨L,fun x hx=>by have:=c x hx; omega,by rw [lg hd,k],d⟩
   ·refine ⟨L++[m],?_,by rw [rb hd]; simp [k],?_⟩
    ·intro x hx;rcases Iq.1 hx with hx|hx
     ·have:=c x hx; omega
     ·have:=Ip.1 hx; omega
    ·rw [Iz,List.nodup_append];refine ⟨d,by simp,fun a ha b hb=>?_⟩;obtain ⟨x,hx,rfl⟩:=IK.1 ha;have hb:b=τ m:=by simpa using hb
     subst hb;exact fun e=>hd (jH.2 ⟨x,c x hx,e⟩)
 obtain ⟨L,c,k,d⟩:=first n (Nat.le_refl _);have u:(L.map (mP σ)).Nodup:=by
  refine List.pairwise_map.2 ((List.pairwise_map.1 d).imp_of_mem fun {a b} ha hb v z=>v ?_);exact h a b (c a ha) (c b hb) (fq.1 z)
 have s:∀x∈L.map (mP σ),x<(DK σ n).length:=by
  intro x hx;obtain ⟨a,ha,rfl⟩:=IK.1 hx;exact gJ (c a ha)
 refine ⟨?_,fun B i j r o w=>?_⟩
 ·have:=gE _ _ u s;simp at this; omega
 ·by_cases hc:σ i=σ j
  ·exact hc
  exfalso
  -- one of the two is new among the representatives
  have key:∀x,x<n→mP σ x∈L.map (mP σ):=by
   intro x hx
   by_cases hin:mP σ x∈L.map (mP σ)
   ·exact hin
   ·exfalso;have:=gE (DK σ n).length (mP σ x::L.map (mP σ)) (List.nodup_cons.2 ⟨hin,u⟩) (fun y hy=>by
     rcases IJ.1 hy with rfl|hy
     ·exact gJ hx
     ·exact s y hy)
    simp at this; omega
  obtain ⟨a,ha,g⟩:=IK.1 (key i r);obtain ⟨b,hb,f⟩:=IK.1 (key j o);have g:=fq.1 g;have f:=fq.1 f;have t:τ a=τ b:=by rw [h a i (c a ha) r g,w,h b j (c b hb) o f]
  have A:a=b:=by
   by_cases e:a=b
   ·exact e
   ·exfalso;obtain ⟨p,hp,rfl⟩:=IA.1 ha;obtain ⟨q,hq,rfl⟩:=IA.1 hb;have l:=List.pairwise_iff_getElem.1 d;rcases Nat.lt_trichotomy p q with hl|hl|hl
    ·have:=l p q (by simpa using hp) (by simpa using hq) hl;simp at this; exact this t
    ·subst hl; exact e rfl
    ·have:=l q p (by simpa using hq) (by simpa using hp) hl;simp at this; exact this t.symm
  subst A;exact hc (g.symm.trans f)
end
def lF (f:Nat→Int) (n i:Nat):List Int:=(List.range i).map f++List.replicate (n - i) 0
theorem yz {f:Nat→Int} {n i:Nat} (h:i≤n):(lF f n i).length=n:=by simp [lF]; omega
theorem yy {f:Nat→Int} {n i:Nat} (hi:i<n):(lF f n i).set i (f i)=lF f n (i+1):=by
 unfold lF;rw [List.set_append,if_neg (by simp),IV,Iz,Ir];congr 1;simp only [Iy,IN,Nat.sub_self];obtain ⟨k,hk⟩:∃k,n - i=k+1:=⟨n - i - 1,by omega⟩;rw [hk,List.replicate_succ,List.set_cons_zero,show n - (i+1)=k by omega];rfl
theorem nO {f:Nat→Int} {n:Nat}:lF f n 0=List.replicate n 0:=by simp [lF]
theorem pQ {f:Nat→Int} {n:Nat}:lF f n n=(List.range n).map f:=by simp [lF]
theorem pV {f:Nat→Int} {n i:Nat} (hi:i<n):dE (lF f n i) (i:Int) (f i)=some (lF f n (i+1)):=by
 rw [dk (by rw [yz (by omega)]; exact hi),yy hi]
section
variable {K K':Type} [DecidableEq K] [BEq K'] [LawfulBEq K']
def de (P:K→Prop) (enc:K→K') (m:List (K'×Int)) (L:List K):Prop:=
 m.length=L.length∧∀k,P k→bY m (enc k)=if k∈L then some ((L.idxOf k:Nat):Int) else none
omit [LawfulBEq K'] in
theorem nv:∀ {m:List (K'×Int)} {k:K'} {v:Int},bY m k=none→(dL m k v).length=m.length+1
 | [],_,_,_=>rfl
 | p::m,k,v,h=>by
  unfold dL;cases hp:p.1 == k
  ·have:bY m k=none:=by unfold bY at h ⊢; rw [List.find?_cons,hp] at h; exact h
   simp [nv this]
  ·unfold bY at h; rw [List.find?_cons,hp] at h; simp at h
variable {P:K→Prop} {enc:K→K'} {m:List (K'×Int)} {L:List K} {k:K}
omit [LawfulBEq K'] in
theorem de.nil:de P enc [] ([]:List K):=⟨rfl,fun k _=>by simp [bY]⟩
omit [LawfulBEq K'] in
theorem de.old (h:de P enc m L) (hp:P k) (hk:k∈L):(bY m (enc k)).isSome=true∧(bY m (enc k)).getD 0=((L.idxOf k:Nat):Int):=by
 rw [h.2 k hp,if_pos hk]; exact ⟨rfl,rfl⟩
theorem de.new (h:de P enc m L) (inj:∀k k',P k→P k'→enc k=enc k'→k=k') (hp:P k) (a:k∉L):(bY m (enc k)).isSome=false∧de P enc (dL m (enc k) (L.length:Int)) (L++[k]):=by
 have b:bY m (enc k)=none:=by rw [h.2 k hp,if_neg a]
 refine ⟨by rw [b]; rfl,by rw [nv b]; simp [h.1],fun q hq=>?_⟩
 by_cases e:q=k
 ·subst e;rw [od,if_pos (by simp),List.idxOf_append,if_neg a];simp
 ·rw [pu (fun c=>e (inj _ _ hq hp c)),h.2 q hq]
  by_cases hql:q∈L
  ·rw [if_pos hql,if_pos (by simp [hql]),List.idxOf_append,if_pos hql]
  ·rw [if_neg hql,if_neg (by simp [hql,e])]
end
end Go.Lx
namespace Go.Proofs.YtggpjcdhflcfmaaGreatDoor
open Go.Lx
def dB (d:T_DFA) (b:Nat):Int:=d.Class.getD b 0
def dw {K:Type} [DecidableEq K] (σ:Nat→K) (i:Nat):Int:=(mP σ i:Int)
def dC (d:T_DFA):T_DFA:=⟨(List.range 256).map (dw (dB d)),d.Next.map (fun r=>(DK (dB d) 256).map fun c=>r.getD c.toNat 0),d.Accept⟩
theorem qt {K K':Type} [DecidableEq K] [BEq K'] [LawfulBEq K'] {P:K→Prop} {enc:K→K'} {m:List (K'×Int)} {σ:Nat→K} {i:Nat} (h:de P enc m (DK σ i)) (inj:∀k k',P k→P k'→enc k=enc k'→k=k') (hp:P (σ i)) :
 ((bY m (enc (σ i))).isSome=true∧(bY m (enc (σ i))).getD 0=dw σ i∧de P enc m (DK σ (i+1))∧DK σ (i+1)=DK σ i)∨
 ((bY m (enc (σ i))).isSome=false∧((DK σ i).length:Int)=dw σ i∧de P enc (dL m (enc (σ i)) ((DK σ i).length:Int)) (DK σ (i+1))∧DK σ (i+1)=DK σ i++[σ i]):=by
 by_cases hm:σ i∈DK σ i
 ·obtain ⟨b,a⟩:=h.old hp hm;refine .inl ⟨b,?_,by rw [lg hm]; exact h,lg hm⟩;rw [a,dw,mP,lg hm]
 ·obtain ⟨b,a⟩:=h.new inj hp hm;exact .inr ⟨b,by rw [dw,nu hm],by rw [rb hm]; exact a,rb hm⟩
theorem yf {d:T_DFA} (h:Ok d) {b:Nat} (hb:b<256):bD d.Class (b:Int)=some (dB d b):=by
 have:=aZ (l:=d.Class) (i:=b) (by rw [h.cls]; exact hb);rw [this]; simp [dB,Ic,h.cls,hb]
theorem eA {α β:Type} {l:List α} {i:Nat} (f:α→β) (h:i<l.length):(l.take (i+1)).map f=(l.take i).map f++[f l[i]]:=by
 rw [It h,Iz]; rfl
theorem Aq {d:T_DFA} (h:Ok d):M.m7 d=some (dC d):=by
 refine Is.eq ?_;unfold M.m7;have t:((d.Class.length:Nat):Int)=256:=by rw [h.cls]; rfl
 rw [t];refine Is.bnq (x:=List.replicate 256 0) (by rw [show (256:Int)=((256:Nat):Int) from rfl,eH (by omega)]; rfl) ?_;refine Is.bnd (P:=fun a=>a=(DK (dB d) 256,(List.range 256).map (dw (dB d)))) (Is.upto (fun i a=>de (fun _=>True) id a.1 (DK (dB d) i)∧a.2=(DK (dB d) i,lF (dw (dB d)) 256 i,(i:Int))) 256 (by omega) ⟨de.nil,by rw [nO]; rfl⟩ ?_ ?_) ?_
 ·rintro i ⟨m,_⟩ g ⟨hm,rfl⟩;simp only [] at hm ⊢;have hlen:=rc (dB d) i;refine Is.dt (by omega) (Is.bnq (yf h g) (Is.bnd (P:=fun r=>de (fun _=>True) id r.1 (DK (dB d) (i+1))∧r.2=(DK (dB d) (i+1),dw (dB d) i)) ?_ ?_))
  ·rcases qt hm (fun _ _ _ _ e=>e) trivial with ⟨f,n,l,p⟩|⟨f,n,l,p⟩
   ·simp only [id] at f n;rw [f,n];exact Is.cf rfl (Is.pure ⟨l,by rw [p]⟩)
   ·simp only [id] at f l;rw [f];exact Is.ct rfl (Is.bnq (bO (by simp; omega)) (Is.pure ⟨l,by rw [n,p]⟩))
  ·rintro ⟨v,_⟩ ⟨f,rfl⟩;exact Is.bnq (pV g) (Is.bnq (aK (by omega)) (Is.next ⟨f,rfl⟩))
 ·rintro ⟨m,_⟩ ⟨hm,rfl⟩;exact Is.df (by omega) (Is.stop (by rw [pQ]))
 have u:=rc (dB d) 256;have q:∀c∈DK (dB d) 256,0≤c∧c<(cols d:Int):=fun c k=>by
  obtain ⟨b,hb,rfl⟩:=jH.1 k;exact ov h hb
 unfold dC;generalize DK (dB d) 256=C at u q ⊢;rintro _ rfl;have hn:=h.max;refine Is.bnd (P:=fun r=>r=d.Next.map (fun r=>C.map fun c=>r.getD c.toNat 0)) (Is.upto (fun i a=>a=((d.Next.take i).map (fun r=>C.map fun c=>r.getD c.toNat 0),(i:Int))) d.Next.length (by omega) (by simp) ?_ ?_) ?_
 ·rintro i _ g rfl;simp only [];refine Is.dt (by omega) (Is.bnd (P:=fun r=>r=(d.Next.take (i+1)).map (fun r=>C.map fun c=>r.getD c.toNat 0)) ?_ ?_)
  ·refine Is.bnq (aZ g) (Is.bnd (P:=fun r=>r=C.map fun c=>d.Next[i].getD c.toNat 0) (Is.upto (fun j a=>a=((C.take j).map (fun c=>d.Next[i].getD c.toNat 0),(j:Int))) C.length (by omega) (by simp) ?_ ?_) ?_)
   ·rintro j _ o rfl;simp only [];have k:=q _ (Ii o);have s:=h.row _ (Ii g);refine Is.dt (by omega) (Is.bnq (aZ o) (Is.bnq (dZ (d:=0) k.1 (by rw [s.1]; exact k.2)) (Is.bnq (bO (by simp; omega)) (Is.bnq (aK (by omega)) (Is.next ?_)))));rw [eA _ o]
   ·rintro _ rfl;exact Is.df (by simp) (Is.stop (by simp))
   ·rintro _ rfl;refine Is.bnq (bO (by simp; omega)) (Is.pure ?_);rw [eA _ g]
  ·rintro _ rfl;exact Is.bnq (aK (by omega)) (Is.next rfl)
 ·rintro _ rfl;exact Is.df (by simp) (Is.stop (by simp))
 ·rintro _ rfl;exact Is.pure rfl
def Full (d:T_DFA):Prop:=∀c,c<cols d→∃b,b<256∧dB d b=(c:Int)
section
variable {d:T_DFA} (h:Ok d)
include h
omit h in
theorem rN {b:Nat} (hb:b<256):dB (dC d) b=dw (dB d) b:=by simp [dB,dC,Ic,hb]
omit h in
theorem rM {s:Nat} (hs:s<d.Next.length):(dC d).Next.getD s []=(DK (dB d) 256).map fun c=>(d.Next.getD s []).getD c.toNat 0:=by
 simp [dC,Ic,hs]
theorem js:cols (dC d)=(DK (dB d) 256).length:=by
 unfold cols;rw [rM (by have:=h.pos; omega),Iy]
omit h in
theorem uV {s:Int} (hs:pc d s) {b:Nat} (hb:b<256):bM (dC d) s b=bM d s b:=by
 unfold bM;split
 ·rfl
 ·rename_i h0;rw [rM (by have:=hs.2; omega)];have e:(dC d).Class.getD b 0=dw (dB d) b:=rN hb;rw [e];simp only [dw,ID];rw [Ic,IP,EZ hb];rfl
theorem pM:Full (dC d):=by
 intro c hc;rw [js h] at hc;obtain ⟨b,hb,e,_⟩:=uk hc;exact ⟨b,hb,by rw [rN hb,dw,e]⟩
theorem tK:Ok (dC d) where
 cls:=by simp [dC]
 pos:=by simpa [dC] using h.pos
 max:=by simpa [dC] using h.max
 acc:=by simpa [dC] using h.acc
 col:=by
  rw [js h];have:=gJ (σ:=dB d) (i:=0) (j:=256) (by omega);omega
 inc c a:=by
  simp only [dC,IK,IL] at a;obtain ⟨b,hb,rfl⟩:=a;rw [js h];have:=gJ (σ:=dB d) hb;exact ⟨by simp [dw],by simp [dw]; omega⟩
 row r hr:=by
  simp only [dC,IK] at hr;obtain ⟨q,hq,rfl⟩:=hr;have f:=h.row q hq;refine ⟨by rw [Iy,js h],fun t e=>?_⟩;simp only [IK] at e;obtain ⟨c,a,rfl⟩:=e;obtain ⟨b,hb,rfl⟩:=jH.1 a;have:=ov h hb;have:=f.2 _ (cM (l:=q) (d:=0) (i:=(dB d b).toNat) (by rw [f.1]; unfold dB; omega));simpa [dC] using this
 accs:=h.accs
end
def ri (d:T_DFA) (s:Int) (w:Str):Int:=eg d (walkN d s w)
def Live (d:T_DFA) (s:Int):Prop:=∃w,0≤ri d s w
theorem lp (d:T_DFA) (s:Int):ri d s []=eg d s:=rfl
theorem dW (d:T_DFA) (s:Int) (c:UInt8) (w:Str):ri d s (c::w)=ri d (bM d s c.toNat) w:=rfl
theorem jv {d:T_DFA} {s:Int} (hs:s<0) (w:Str):ri d s w=-1:=by
 induction w generalizing s with
 | nil=>simp [ri,walkN,eg,hs]
 | cons c w ih=>rw [dW]; exact ih (by unfold bM; rw [if_pos hs]; omega)
theorem BG {d:T_DFA} (h:Ok d) {s:Int} (hs:pc d s):-1≤eg d s:=by
 unfold eg;split
 ·omega
 ·exact h.accs _ (cM (by rw [h.acc]; have:=hs.2; omega))
theorem Cs {d:T_DFA} (h:Ok d) {s:Int} (hs:pc d s) (w:Str):-1≤ri d s w:=BG h (eL h hs w)
theorem xp {d:T_DFA} (h:Ok d) {s:Int} (hs:pc d s) (w:Str):ri (dC d) s w=ri d s w:=by
 induction w generalizing s with
 | nil=>rfl
 | cons c w ih=>
  rw [dW,dW,uV hs c.toNat_lt];exact ih (cP h hs c.toNat_lt)
theorem tV {d:T_DFA} (h:Ok d) (hf:Full d) {s c:Nat} (hs:s<d.Next.length) (hc:c<cols d):∃b,b<256∧bM d (s:Int) b=(d.Next.getD s []).getD c 0:=by
 obtain ⟨b,hb,e⟩:=hf c hc;refine ⟨b,hb,?_⟩;unfold bM;unfold dB at e;rw [if_neg (by omega),e]; simp
theorem pS {d:T_DFA} (h:Ok d) {s b:Nat} (hs:s<d.Next.length) (hb:b<256):∃c,c<cols d∧dB d b=(c:Int)∧bM d (s:Int) b=(d.Next.getD s []).getD c 0:=by
 have:=ov h hb;refine ⟨(dB d b).toNat,by unfold dB; omega,by unfold dB; omega,?_⟩;unfold bM;rw [if_neg (by omega)]; simp [dB]
theorem jo {d:T_DFA} (hf:Full d):cols d≤256:=by
 -- each column's byte
 have key:∀n,n≤cols d→∃l:List Nat,l.length=n∧(∀x∈l,x<256)∧l.map (dB d)=(List.range n).map (fun (i:Nat)=>(i:Int)):=by
  intro n;induction n with
  | zero=>intro _; exact ⟨[],rfl,by simp,rfl⟩
  | succ n ih=>
   intro hn;obtain ⟨l,h,g,f⟩:=ih (by omega);obtain ⟨b,hb,e⟩:=hf n (by omega);refine ⟨l++[b],by simp [h],fun x hx=>?_,by rw [Iz,f,IV,Iz]; simp [e]⟩;rcases Iq.1 hx with hx|hx
   ·exact g x hx
   ·rw [Ip.1 hx]; exact hb
 obtain ⟨l,h,g,f⟩:=key (cols d) (Nat.le_refl _);have hn:l.Nodup:=by
  have:(l.map (dB d)).Nodup:=by
   rw [f];refine List.pairwise_map.2 (List.nodup_range.imp fun {a b} c j=>c ?_);omega
  exact List.Pairwise.of_map (dB d) (fun a b c e=>c (by rw [e])) this
 have:=gE 256 l hn g;omega
theorem Bk {d:T_DFA} (h:Ok d) (hf:Full d):cols d≤9223372036854775807:=by have:=jo hf; omega
def bad (l:List Bool) (t:Int):Bool:=decide (0≤t) && !(l.getD t.toNat false)
def jM (l:List Bool):Nat:=l.countP (fun b=>!b)
theorem vR {l:List Bool} {i:Nat} (hi:i<l.length) (h:l[i]=false):jM (l.set i true)+1=jM l:=by
 unfold jM;induction l generalizing i with
 | nil=>simp at hi
 | cons a l ih=>
  cases i with
  | zero=>simp at h; subst h; simp
  | succ i=>
   have:=ih (i:=i) (by simpa using hi) (by simpa using h);simp only [List.set_cons_succ,List.countP_cons];omega
theorem xZ (l:List Bool):jM l≤l.length:=List.countP_le_length
theorem ze {l:List Bool} {t:Int} (ht:t<l.length):M.j6 t l=some (decide (0≤t) && l.getD t.toNat false):=by
 refine Is.eq ?_;unfold M.j6;refine Is.bnd (P:=fun b=>b=(decide (0≤t) && l.getD t.toNat false)) (Is.dcd (fun h=>?_) fun h=>Is.pure ?_) (fun b hb=>Is.pure hb)
 ·exact Is.bnq (dZ (d:=false) h ht) (Is.pure (by simp [h]))
 ·simp [h]
def tx (d:T_DFA) (l:List Bool) (s:Nat):Prop:=∀t∈d.Next.getD s [],0≤t→l.getD t.toNat false=true→l.getD s false=true
theorem AU {d:T_DFA} (h:Ok d) (hf:Full d):Is (M.m8 d) (fun l=>l.length=d.Next.length∧∀s,s<d.Next.length→(l.getD s false=true↔Live d (s:Int))):=by
 unfold M.m8;have a5:=h.max;have hacc:=h.acc;refine Is.bnq (eH (by omega)) ?_;refine Is.bnd (P:=fun l=>l.length=d.Next.length∧∀s,s<d.Next.length→l.getD s false=decide (0≤d.Accept.getD s 0))
  (Is.upto (fun i f=>f.2=(i:Int)∧f.1.length=d.Next.length∧∀s,s<i→f.1.getD s false=decide (0≤d.Accept.getD s 0)) d.Accept.length (by omega) ⟨rfl,by simp,by omega⟩ ?_ ?_) ?_
 ·rintro i ⟨l,_⟩ v ⟨rfl,g,z⟩;simp only [] at g z ⊢;refine Is.dt (by omega) (Is.bnq (aZ v) (Is.bnq (dk (by omega)) (Is.bnq (aK (by omega)) (Is.next ⟨rfl,by simpa using g,fun s hs=>?_⟩))));simp only [Ic,IQ]
  by_cases e:i=s
  ·subst e;rw [if_pos rfl,if_pos (by omega)];simp [v]
  ·rw [if_neg e];have:=z s (by omega);simpa [Ic] using this
 ·rintro ⟨l,_⟩ ⟨rfl,g,z⟩;exact Is.df (by omega) (Is.stop ⟨g,fun s hs=>z s (by omega)⟩)
 intro R ⟨Y,F⟩;have Q:∀s:Nat,s<d.Next.length→R.getD s false=true→Live d (s:Int):=fun s hs g=>⟨[],by
  rw [F s hs] at g;have g:=of_decide_eq_true g;rw [lp]; unfold eg;rw [if_neg (by omega)]; simpa using g⟩
 refine Is.bnd (P:=fun l=>l.length=d.Next.length∧∀s,s<d.Next.length→(l.getD s false=true↔Live d (s:Int))) ?_ (fun l hl=>Is.pure hl)
 -- what holds all the time
 let G:List Bool→Prop:=fun l=>l.length=d.Next.length∧(∀s,s<d.Next.length→l.getD s false=true→Live d (s:Int))∧∀s,s<d.Next.length→0≤d.Accept.getD s 0→l.getD s false=true
 refine Is.while (fun f=>G f.1∧(f.2=false→∀s,s<d.Next.length→tx d f.1 s)) (fun f=>2*jM f.1+(bif f.2 then 1 else 0)) ⟨⟨Y,Q,fun s hs ha=>by rw [F s hs]; simpa using ha⟩,fun h=>by cases h⟩ (by have:=xZ R; simp only [cond_true]; omega) ?_;rintro ⟨l,U⟩ ⟨D,y⟩;simp only [] at D y ⊢;cases U
 ·-- the end
  refine Is.cf rfl (Is.stop ⟨D.1,fun s hs=>⟨D.2.1 s hs,fun ⟨w,m⟩=>?_⟩⟩);have y:=y rfl;clear F Q;induction w generalizing s with
  | nil=>
   rw [lp] at m; unfold eg at m;rw [if_neg (by omega)] at m;exact D.2.2 s hs (by simpa using m)
  | cons c w ih=>
   rw [dW] at m;obtain ⟨k,hk,_,e⟩:=pS h hs c.toNat_lt;have S:=cP h (s:=(s:Int)) ⟨by omega,by omega⟩ c.toNat_lt
   by_cases K:bM d (s:Int) c.toNat<0
   ·rw [jv K] at m; omega
   ·obtain ⟨t,q⟩:=IE (show 0≤bM d (s:Int) c.toNat by omega);rw [q] at m S;have V:t<d.Next.length:=by have:=S.2; omega
    have:=ih t V ⟨w,m⟩ m;refine y s hs (t:Int) ?_ (by omega) (by simpa using this);have e2:(t:Int)=(d.Next.getD s []).getD k 0:=by rw [←e,q]
    rw [e2];exact cM (by rw [(eG h hs).1]; exact hk)
 ·-- a round
  refine Is.ct rfl (Is.upto (fun i f=>f.2.2=(i:Int)∧G f.1∧((f.2.1=true∧jM f.1<jM l)∨(f.2.1=false∧f.1=l∧∀s,s<i→tx d l s))) d.Next.length (by omega) ⟨rfl,D,.inr ⟨rfl,rfl,fun s hs=>by omega⟩⟩ ?_ ?_)
  ·rintro i ⟨o,T,_⟩ v ⟨rfl,j,u⟩;simp only [] at j u ⊢;have B:i<o.length:=by rw [j.1]; exact v
   have A:=eG h v;have I:d.Next.getD i []=d.Next[i]:=by simp [Ic,v]
   rw [I] at A;refine Is.dt (by omega) (Is.bnd (P:=fun r=>G r.1∧((r.2=true∧jM r.1<jM l)∨(r.2=false∧r.1=l∧∀s,s<i+1→tx d l s))) ?_ ?_)
   ·refine Is.bnq (aZ v) (Is.bnd (P:=fun b=>b=(!o[i] && d.Next[i].any fun t=>decide (0≤t) && o.getD t.toNat false)) ?_ ?_)
    ·refine Is.bnq (aZ B) (Is.cnd (fun e=>?_) fun e=>Is.pure (by rw [e]; rfl));refine Is.bnq (oI (p:=fun t=>decide (0≤t) && o.getD t.toNat false) (fun x hx=>ze (by rw [j.1]; exact (A.2 x hx).2)) ?_) (Is.pure (by rw [e]; simp));rw [A.1];exact Bk h hf
    ·rintro _ rfl;cases hv:(!o[i] && d.Next[i].any fun t=>decide (0≤t) && o.getD t.toNat false)
     ·refine Is.cf rfl (Is.pure ⟨j,?_⟩);rcases u with u|⟨N,rfl,J⟩
      ·exact .inl u
      ·refine .inr ⟨N,rfl,fun s hs=>?_⟩
       by_cases es:s=i
       ·subst es;intro t q K W;rw [I] at q;have X:o.getD s false=o[s]:=by simp [Ic,B]
        rw [X];cases hls:o[s]
        ·rw [hls] at hv;simp only [Bool.not_false,Bool.true_and] at hv;have:=List.any_eq_false.1 hv t q;rw [ed K,W] at this;simp at this
        ·rfl
       ·exact J s (by omega)
     ·refine Is.ct rfl (Is.bnq (dk B) (Is.pure ⟨⟨by simpa using j.1,fun s hs=>?_,fun s hs ha=>?_⟩,.inl ⟨rfl,?_⟩⟩))
      ·simp only [Ic,IQ]
       by_cases e:i=s
       ·subst e;intro _;simp only [Bool.and_eq_true] at hv;obtain ⟨t,q,H⟩:=List.any_eq_true.1 hv.2;simp only [Bool.and_eq_true,decide_eq_true_eq] at H;obtain ⟨n,rfl⟩:=IE H.1;have hn:n<d.Next.length:=by have:=(A.2 _ q).2; omega
        obtain ⟨w,m⟩:=j.2.1 n hn (by simpa using H.2);obtain ⟨c,y,ec⟩:=IA.1 q;obtain ⟨b,hb,L⟩:=tV h hf v (c:=c) (by rw [←A.1]; exact y);rw [I] at L;have:(d.Next[i]).getD c 0=(n:Int):=by simp [Ic,y,ec]
        rw [this] at L;refine ⟨UInt8.ofNat b::w,?_⟩;have N:(UInt8.ofNat b).toNat=b:=by simp; omega
        rw [dW,N,L]; exact m
       ·rw [if_neg e];have:=j.2.1 s hs;simpa [Ic] using this
      ·simp only [Ic,IQ]
       by_cases e:i=s
       ·subst e; rw [if_pos rfl,if_pos B]; rfl
       ·rw [if_neg e];have:=j.2.2 s hs ha;simpa [Ic] using this
      ·have a6:=vR B (by simp at hv; exact hv.1);rcases u with ⟨_,g⟩|⟨_,rfl,_⟩ <;> simp only [] <;> omega
   ·rintro ⟨l2,m2⟩ ⟨g,z⟩;exact Is.bnq (aK (by omega)) (Is.next ⟨rfl,g,z⟩)
  ·rintro ⟨o,T,_⟩ ⟨rfl,j,u⟩;simp only [] at j u ⊢;refine Is.df (by omega) (Is.stop ?_);rcases u with ⟨rfl,g⟩|⟨rfl,rfl,J⟩
   ·exact ⟨⟨j,fun h=>by cases h⟩,by simp only [cond_true]; omega⟩
   ·exact ⟨⟨j,fun _=>J⟩,by simp only [cond_true,cond_false]; omega⟩
def cm (l:List Bool) (d:T_DFA):T_DFA:=⟨d.Class,d.Next.map (·.map fun t=>if bad l t then -1 else t),d.Accept⟩
theorem zz {l:List Int} (h:l.length*8≤140737488355328):M.d6 l=some l:=by
 unfold M.d6;rw [bO (by simpa using h)]; rfl
theorem xG {d:T_DFA} (h:Ok d) (hf:Full d):Is (M.l6 d) (fun e=>∃l:List Bool,e=cm l d∧∀s,s<d.Next.length→(l.getD s false=true↔Live d (s:Int))):=by
 unfold M.l6;have v:=h.max;have w:=jo hf;refine Is.bnd (AU h hf) fun l ⟨hl,o⟩=>?_
 refine Is.bnd (P:=fun r=>r=(cm l d).Next) (Is.upto (fun i f=>f=((d.Next.take i).map (·.map fun t=>if bad l t then -1 else t),(i:Int))) d.Next.length (by omega) (by simp) ?_ ?_) ?_
 ·rintro i _ g rfl;simp only [];have m:=h.row _ (Ii g);generalize hq:d.Next[i]=q at m;refine Is.dt (by omega) (Is.bnd (P:=fun r=>r=(d.Next.take (i+1)).map (·.map fun t=>if bad l t then -1 else t)) ?_ ?_)
  ·refine Is.bnq ((aZ g).trans (congrArg some hq)) (Is.bnq (zz (by omega)) (Is.bnd (P:=fun r=>r=q.map fun t=>if bad l t then -1 else t)
    (Is.upto (fun j f=>f=((q.take j).map (fun t=>if bad l t then -1 else t)++q.drop j,(j:Int))) q.length (by omega) (by simp) ?_ ?_) ?_))
   ·rintro j _ a rfl;simp only [];have p:=m.2 _ (Ii a);generalize hA:(q.take j).map (fun t=>if bad l t then -1 else t)=A;have k:A.length=j:=by rw [←hA]; simp; omega
    have n:q.drop j=q[j]::q.drop (j+1):=List.drop_eq_getElem_cons a;have hlen:(A++q.drop j).length=q.length:=by simp [k]; omega
    have u:bD (A++q.drop j) (j:Int)=some q[j]:=by
     rw [aZ (by rw [hlen]; exact a)];simp [List.getElem_append_right,k]
    refine Is.dt (by omega) (Is.bnd (P:=fun r=>r=(q.take (j+1)).map (fun t=>if bad l t then -1 else t)++q.drop (j+1)) ?_ ?_)
    ·rw [eA _ a,hA];refine Is.bnq u (Is.bnd (P:=fun b=>b=bad l q[j]) (Is.dcd (fun c=>Is.bnq (dZ (d:=false) c (by rw [hl]; exact p.2)) (Is.pure (by simp [bad,c]))) fun c=>Is.pure (by simp [bad,c])) ?_);rintro _ rfl;cases hb:bad l q[j]
     ·refine Is.cf rfl (Is.pure ?_);rw [n]; simp
     ·refine Is.ct rfl (Is.bnq (dk (by rw [hlen]; exact a)) (Is.pure ?_));rw [n,List.set_append,if_neg (by omega),k,Nat.sub_self,List.set_cons_zero,if_pos rfl,Ir]; rfl
    ·rintro _ rfl;exact Is.bnq (aK (by omega)) (Is.next rfl)
   ·rintro _ rfl;exact Is.df (by simp) (Is.stop (by simp))
   ·rintro _ rfl;refine Is.bnq (bO (by simp; omega)) (Is.pure ?_);rw [eA _ g,hq]
  ·rintro _ rfl;exact Is.bnq (aK (by omega)) (Is.next rfl)
 ·rintro _ rfl;exact Is.df (by simp) (Is.stop (by simp [cm]))
 ·rintro _ rfl;exact Is.pure ⟨l,rfl,o⟩
section
variable {d:T_DFA} {l:List Bool} (h:Ok d) (hl:∀s,s<d.Next.length→(l.getD s false=true↔Live d (s:Int)))
theorem pn (hp:1≤d.Next.length):cols (cm l d)=cols d:=by
 simp [cols,cm,Ic,show 0<d.Next.length by omega]
include h in
theorem DM:Ok (cm l d) where
 cls:=h.cls
 pos:=by simpa [cm] using h.pos
 max:=by simpa [cm] using h.max
 acc:=by simpa [cm] using h.acc
 col:=by rw [pn h.pos]; exact h.col
 inc c a:=by rw [pn h.pos]; exact h.inc c a
 row r hr:=by
  simp only [cm,IK] at hr;obtain ⟨q,hq,rfl⟩:=hr;have e:=h.row q hq;have hp:=h.pos;refine ⟨by rw [Iy,pn h.pos]; exact e.1,fun t b=>?_⟩;simp only [IK] at b;obtain ⟨c,a,rfl⟩:=b;have:=e.2 c a;simp only [cm,Iy];split
  ·exact ⟨by omega,by omega⟩
  ·exact this
 accs:=h.accs
include h in
theorem wL {s:Int} (hs:pc d s) {b:Nat} (hb:b<256):bM (cm l d) s b=if bad l (bM d s b) then -1 else bM d s b:=by
 unfold bM
 by_cases e:s<0
 ·simp only [if_pos e,bad];rw [eI (by omega)]; simp
 ·simp only [if_neg e];have a:s.toNat<d.Next.length:=by have:=hs.2; omega
  have c:=eG h a;have g:=ov h hb;have j:(cm l d).Next.getD s.toNat []=(d.Next.getD s.toNat []).map fun t=>if bad l t then -1 else t:=by
   simp [cm,Ic,a]
  have i:(cm l d).Class=d.Class:=rfl;rw [j,i];generalize d.Next.getD s.toNat []=q at c ⊢;generalize d.Class.getD b 0=cc at g ⊢;rw [Ic,IP,Ic];have f:cc.toNat<q.length:=by rw [c.1]; omega
  rw [Ie f]; rfl
include h hl in
theorem yJ {s:Int} (hs:pc d s) (w:Str):ri (cm l d) s w=ri d s w:=by
 induction w generalizing s with
 | nil=>rfl
 | cons c w ih=>
  rw [dW,dW,wL h hs c.toNat_lt];have a:=cP h hs c.toNat_lt;split
  ·rename_i hb;rw [jv (by omega)];simp only [bad,Bool.and_eq_true,decide_eq_true_eq,Bool.not_eq_true'] at hb;have e:=Cs h a w
   by_cases hlt:0≤ri d (bM d s c.toNat) w
   ·exfalso;obtain ⟨t,b⟩:=IE hb.1;rw [b] at hlt hb a;have:=(hl t (by have:=a.2; omega)).2 ⟨w,hlt⟩;simp only [ID] at hb;rw [this] at hb; cases hb.2
   ·omega
  ·exact ih a
include h hl in
theorem AI {s:Int} (hs:pc d s) {b:Nat} (hb:b<256) (a:0≤bM (cm l d) s b):Live (cm l d) (bM (cm l d) s b):=by
 rw [wL h hs hb] at a ⊢;have c:=cP h hs hb;split at a
 ·omega
 ·rename_i hb';rw [if_neg hb'];simp only [bad,ed a,Bool.true_and,Bool.not_eq_true',Bool.not_eq_false] at hb';obtain ⟨t,f⟩:=IE a;rw [f] at hb' c ⊢;obtain ⟨w,e⟩:=(hl t (by have:=c.2; omega)).1 (by simpa using hb');exact ⟨w,by rw [yJ h hl c]; exact e⟩
end
theorem AJ {d:T_DFA} {l:List Bool} (h:Ok d) (hf:Full d):Full (cm l d):=by
 intro c hc;rw [pn h.pos] at hc;exact hf c hc
theorem kh (n:Int):IntKind.u8.wrap n=n % 256:=by simp [IntKind.wrap,IntKind.bits,IntKind.signed]
def BA (n:Int) (j:Nat):Int:=IntKind.u8.wrap (n / 2 ^ (8*j))
def iF (n:Int):List Int:=(List.range 8).map (BA n)
def jS (l:List Int):Str:=cV (l.flatMap iF)
theorem pg {l:List Int} (hl:l.length≤1000000):M.i2 l=some (jS l):=by
 refine Is.eq ?_;unfold M.i2;have d:∀i,((l.take i).flatMap iF).length≤8*l.length:=by
  intro i;have:∀q:List Int,(q.flatMap iF).length=8*q.length:=by
   intro q;induction q with
   | nil=>rfl
   | cons a q ih=>rw [List.flatMap_cons,Ik,ih]; simp [iF]; omega
  rw [this]; simp; omega
 refine Is.bnd (P:=fun r=>r=l.flatMap iF) (Is.upto (fun i b=>b=((l.take i).flatMap iF,(i:Int))) l.length (by omega) (by simp) ?_ ?_) ?_
 ·rintro i _ c rfl;simp only [];have hf:=d i;refine Is.dt (by omega) (Is.bnd (P:=fun r=>r=(l.take (i+1)).flatMap iF) ?_ ?_)
  ·refine Is.bnq (aZ c) (Is.upto (fun j b=>b=((l.take i).flatMap iF++(List.range j).map (BA l[i]),(j:Int))) 8 (by omega) (by simp) ?_ ?_)
   ·rintro j _ e rfl;simp only [];refine Is.dt (by omega) (Is.bnq (dT (by omega) (by omega)) (Is.bnq (x:=l[i] / 2 ^ (8*j)) ?_ (Is.bnq (bO (by rw [Ik]; simp only [Iy,IN,Ih]; omega)) (Is.bnq (aK (by omega)) (Is.next ?_)))))
    ·unfold sC;rw [if_pos (by omega)];have:min (8*(j:Int)).toNat IntKind.i64.bits=8*j:=by show min _ 64=_; omega
     rw [this]
    ·rw [IV,Iz,Ir]; rfl
   ·rintro _ rfl;refine Is.df (by simp) (Is.stop ?_);rw [It c,List.flatMap_append]; simp [iF]
  ·rintro _ rfl;exact Is.bnq (aK (by omega)) (Is.next rfl)
 ·rintro _ rfl;exact Is.df (by simp) (Is.stop (by simp))
 ·rintro _ rfl;exact Is.pure rfl
def tD (n:Int):Prop:=-9223372036854775808≤n∧n≤9223372036854775807
theorem xn {n m:Int} (hn:tD n) (hm:tD m) (h:∀j,j<8→BA n j=BA m j):n=m:=by
 have key:∀j,j≤7→n / 2 ^ (8*(7 - j))=m / 2 ^ (8*(7 - j)):=by
  intro j;induction j with
  | zero=>
   intro _;have:=h 7 (by omega);unfold BA at this;rw [kh,kh] at this;simp only [tD] at hn hm;simp only [Nat.sub_zero,Nat.reduceMul,Int.reducePow] at this ⊢;omega
  | succ j ih=>
   intro c;have b:=ih (by omega);have a:=h (7 - (j+1)) (by omega);unfold BA at a;rw [kh,kh] at a;have e:2 ^ (8*(7 - j))=(2:Int) ^ (8*(7 - (j+1)))*256:=by
    rw [show 8*(7 - j)=8*(7 - (j+1))+8 by omega,Int.pow_add]; rfl
   rw [e,←Int.ediv_ediv_of_nonneg (Int.pow_nonneg (by omega)),←Int.ediv_ediv_of_nonneg (Int.pow_nonneg (by omega))] at b;omega
 have:=key 7 (by omega);simpa using this
theorem zG (n:Int) (j:Nat):0≤BA n j∧BA n j<256:=by unfold BA; rw [kh]; omega
theorem xM {a b:Int} (ha:0≤a∧a<256) (hb:0≤b∧b<256) (h:UInt8.ofNat a.toNat=UInt8.ofNat b.toNat):a=b:=by
 have:=congrArg UInt8.toNat h;simp at this;omega
theorem nM:∀ {l k:List Int},(∀x∈l,tD x)→(∀x∈k,tD x)→jS l=jS k→l=k
 | [],[],_,_,_=>rfl
 | [],b::k,_,_,h=>by
  have:=congrArg List.length h;simp [jS,cV,iF] at this;omega
 | a::l,[],_,_,h=>by
  have:=congrArg List.length h;simp [jS,cV,iF] at this
 | a::l,b::k,hl,hk,h=>by
  simp only [jS,cV,List.flatMap_cons,Iz] at h;obtain ⟨e,d⟩:=List.append_inj h (by simp [iF]);have f:l=k:=nM (fun x hx=>hl x (by simp [hx])) (fun x hx=>hk x (by simp [hx])) d;have g:a=b:=by
   refine xn (hl a (by simp)) (hk b (by simp)) fun j c=>?_
   have:=congrArg (fun q=>q[j]?) e;simp [iF,c] at this;exact xM (zG a j) (zG b j) this
  rw [g,f]
def xl (d:T_DFA) (s t:Int):Prop:=∀w,ri d s w=ri d t w
def AllLive (d:T_DFA):Prop:=∀s b,pc d s→b<256→0≤bM d s b→Live d (bM d s b)
def gp (p:List Int) (s:Nat):Int:=p.getD s 0
def yq (p:List Int) (t:Int):Int:=if t<0 then 0 else p.getD t.toNat 0+1
def ff (d:T_DFA) (p:List Int) (s:Nat):List Int:=[gp p s,IntKind.i64.wrap (d.Accept.getD s 0+1)]++(d.Next.getD s []).map (yq p)
structure PartOk (d:T_DFA) (p:List Int):Prop where
  len:p.length=d.Next.length
  lt:∀s,s<d.Next.length→0≤gp p s∧gp p s<(d.Next.length:Int)
  eq:∀s t,s<d.Next.length→t<d.Next.length→(gp p s=gp p t↔xl d (s:Int) (t:Int))
theorem xl.step {d:T_DFA} {s t:Int} (h:xl d s t) {b:Nat} (hb:b<256):xl d (bM d s b) (bM d t b):=fun w=>by
 have:=h (UInt8.ofNat b::w);have e1:(UInt8.ofNat b).toNat=b:=by simp; omega
 rwa [dW,dW,e1] at this
theorem xl.neg {d:T_DFA} {s t:Int} (h:xl d s t) (hs:s<0) (hl:0≤t→Live d t):t<0:=by
 by_cases ht:0≤t
 ·obtain ⟨w,hw⟩:=hl ht;have:=h w;rw [jv hs] at this; omega
 ·omega
theorem xl.symm {d:T_DFA} {s t:Int} (h:xl d s t):xl d t s:=fun w=>(h w).symm
theorem wW {l:List Int} {c:Nat} (h:c<l.length):l[c]?=some (l.getD c 0):=by
 rw [Ic,Ie h]; rfl
theorem mT {d:T_DFA} {s b c:Nat} (e:dB d b=(c:Int)):bM d (s:Int) b=(d.Next.getD s []).getD c 0:=by
 unfold bM;unfold dB at e;rw [if_neg (by omega),e]; rfl
section
variable {d:T_DFA} (h:Ok d) (hf:Full d) (hal:AllLive d) (hacc:∀a∈d.Accept,a≤9223372036854775807)
include h hf hal in
theorem qD {p:List Int} (hp:∀s t,s<d.Next.length→t<d.Next.length→xl d (s:Int) (t:Int)→gp p s=gp p t) {s t:Nat} (hs:s<d.Next.length) (k:t<d.Next.length) (i:xl d (s:Int) (t:Int)):ff d p s=ff d p t:=by
 unfold ff;have ha:d.Accept.getD s 0=d.Accept.getD t 0:=by
  have:=i [];simp only [lp,eg] at this;rw [if_neg (by omega),if_neg (by omega)] at this;simpa using this
 rw [hp s t hs k i,ha];congr 1;have m:=eG h hs;have l:=eG h k;apply List.ext_getElem?;intro c;rw [IP,IP]
 by_cases hc:c<cols d
 rotate_left
 ·rw [II (by rw [m.1]; omega),II (by rw [l.1]; omega)]
 obtain ⟨b,hb,e⟩:=hf c hc;rw [wW (by rw [m.1]; exact hc),wW (by rw [l.1]; exact hc),←mT e,←mT e];simp only [Option.map_some,Option.some.injEq];have g:=i.step hb;have q:=cP h (s:=(s:Int)) ⟨by omega,by omega⟩ hb;have o:=cP h (s:=(t:Int)) ⟨by omega,by omega⟩ hb;have j:=hal (s:Int) b ⟨by omega,by omega⟩ hb;have n:=hal (t:Int) b ⟨by omega,by omega⟩ hb;unfold yq
 by_cases a:bM d (s:Int) b<0
 ·rw [if_pos a,if_pos (g.neg a n)]
 ·rw [if_neg a,if_neg (fun f=>a (g.symm.neg f j))];congr 1;have u:((bM d (s:Int) b).toNat:Int)=bM d (s:Int) b:=by omega
  have f:¬ bM d (t:Int) b<0:=fun f=>a (g.symm.neg f j)
  have r:((bM d (t:Int) b).toNat:Int)=bM d (t:Int) b:=by omega
  have:=hp (bM d (s:Int) b).toNat (bM d (t:Int) b).toNat (by have:=q.2; omega) (by have:=o.2; omega) (by rw [u,r]; exact g);exact this
include h hacc in
theorem vU {p:List Int} (v:∀s,s<d.Next.length→0≤gp p s) (r:∀s t,s<d.Next.length→t<d.Next.length→gp p s=gp p t→ff d p s=ff d p t) (w:Str):∀s t,s<d.Next.length→t<d.Next.length→gp p s=gp p t→ri d (s:Int) w=ri d (t:Int) w:=by
 induction w with
 | nil=>
  intro s t hs a j;have b:=r s t hs a j;simp only [ff,Iw,Iv,List.cons.injEq] at b;have g:=b.2.1;have u:=cM (l:=d.Accept) (i:=s) (d:=0) (by rw [h.acc]; exact hs);have o:=cM (l:=d.Accept) (i:=t) (d:=0) (by rw [h.acc]; exact a);have I:=h.accs _ u;have H:=h.accs _ o;have G:=hacc _ u;have F:=hacc _ o;rw [IntKind.wrap_i64,IntKind.wrap_i64] at g;simp only [lp,eg];rw [if_neg (by omega),if_neg (by omega)];simp only [ID];omega
 | cons c w ih=>
  intro s t hs a j;have b:=r s t hs a j;simp only [ff,Iw,Iv,List.cons.injEq] at b;have g:=b.2.2;rw [dW,dW];obtain ⟨k,x,A,D⟩:=pS h hs c.toNat_lt;have B:bM d (t:Int) c.toNat=(d.Next.getD t []).getD k 0:=mT A;have z:=eG h hs;have y:=eG h a;have hn:yq p (bM d (s:Int) c.toNat)=yq p (bM d (t:Int) c.toNat):=by
   rw [D,B];have:=congrArg (fun q=>q[k]?) g;simp only [IP] at this;rw [wW (by rw [z.1]; exact x),wW (by rw [y.1]; exact x)] at this;simpa only [Option.map_some,Option.some.injEq] using this
  have n:=cP h (s:=(s:Int)) ⟨by omega,by omega⟩ c.toNat_lt;have m:=cP h (s:=(t:Int)) ⟨by omega,by omega⟩ c.toNat_lt;unfold yq at hn
  by_cases f:bM d (s:Int) c.toNat<0 <;> by_cases e:bM d (t:Int) c.toNat<0
  ·rw [jv f,jv e]
  ·rw [if_pos f,if_neg e] at hn;have:=v (bM d (t:Int) c.toNat).toNat (by have:=m.2; omega);unfold gp at this; omega
  ·rw [if_neg f,if_pos e] at hn;have:=v (bM d (s:Int) c.toNat).toNat (by have:=n.2; omega);unfold gp at this; omega
  ·rw [if_neg f,if_neg e] at hn;have:=ih (bM d (s:Int) c.toNat).toNat (bM d (t:Int) c.toNat).toNat (by have:=n.2; omega) (by have:=m.2; omega) (by unfold gp; omega)
   rwa [show ((bM d (s:Int) c.toNat).toNat:Int)=bM d (s:Int) c.toNat by omega,show ((bM d (t:Int) c.toNat).toNat:Int)=bM d (t:Int) c.toNat by omega] at this
include h hf in
theorem AZ {p:List Int} (b:∀s,s<d.Next.length→0≤gp p s∧gp p s<(d.Next.length:Int)) {s:Nat} (hs:s<d.Next.length):(∀x∈ff d p s,tD x)∧(ff d p s).length≤1000000:=by
 have hm:=h.max;have a:=eG h hs;constructor
 ·intro x hx;simp only [ff,Iw,Iv,IJ,IK] at hx;rcases hx with rfl|rfl|⟨t,ht,rfl⟩
  ·have:=b s hs; unfold tD; omega
  ·unfold tD; rw [IntKind.wrap_i64]; omega
  ·unfold yq tD;split
   ·omega
   ·have:=b t.toNat (by have:=(a.2 t ht).2; omega);unfold gp at this; omega
 ·have:=jo hf;simp only [ff,Ik,Iy,a.1];simp; omega
include h hf in
theorem yE {p:List Int} (hp:p.length=d.Next.length) (F:∀s,s<d.Next.length→0≤gp p s∧gp p s<(d.Next.length:Int)):Is (bc (fun (o:(List (Str×Int))×(List Int)×Int)=>match o with
   | (c,A,f)=>
    bif (decide (f<(d.Next.length:Int))) then
     (
      (bD d.Next f).bind fun I=>
      (bD p f).bind fun a5=>
      (bD d.Accept f).bind fun a4=>
      (
       bc (fun (o:(List Int)×Int)=>match o with
       | (n,l)=>
        bif (decide (l<(I.length:Int))) then
         (
          (bD I l).bind fun H=>
          bif (decide (H<0)) then
           (cy 8 n [0]).bind fun L=>
           some L
          else
           (bD p H).bind fun a3=>
           (cd .i64 (a3+1)).bind fun U=>
           (cy 8 n [U]).bind fun K=>
           some K).bind fun (N:(List Int))=>
         (cd .i64 (l+1)).bind fun T=>
         some (.next (N,T))
        else
         some (.stop n)) ba ([a5,(IntKind.i64.wrap (a4+1))],(0:Int))).bind fun (y:(List Int))=>
      (M.i2 y).bind fun z=>
      (
       bif (!((bY c z).isSome)) then
        (M.i2 y).bind fun V=>
        some ((dL c V (c.length:Int)),(c.length:Int))
       else
        some (c,((bY c z).getD 0))).bind fun (W,R)=>
      (dE A f R).bind fun J=>
      some (W,J)).bind fun (X,Q)=>
     (cd .i64 (f+1)).bind fun S=>
     some (.next (X,Q,S))
    else
     some (.stop (c,A))) ba (([]:(List (Str×Int))),List.replicate d.Next.length 0,(0:Int)))
    (fun r=>r.1.length=(DK (ff d p) d.Next.length).length∧r.2=(List.range d.Next.length).map (dw (ff d p))):=by
  have a7:=h.max;have hacc:=h.acc;have a8:=jo hf;refine Is.upto (fun i g=>de (fun k=>∀x∈k,tD x) jS g.1 (DK (ff d p) i)∧g.2=(lF (dw (ff d p)) d.Next.length i,(i:Int))) d.Next.length (by omega) ⟨de.nil,by rw [nO]; rfl⟩ ?_ ?_
  · rintro s ⟨m,_⟩ hs ⟨hm,rfl⟩
    simp only [] at hm ⊢;have B:=eG h hs;obtain ⟨a1,G⟩:=AZ h hf F hs;have a0:bD d.Next (s:Int)=some (d.Next.getD s []):=by
      rw [aZ hs,Ic,Ie hs]; rfl
    refine Is.dt (by omega) (Is.bnd (P:=fun r=>de (fun k=>∀x∈k,tD x) jS r.1 (DK (ff d p) (s+1))∧r.2=lF (dw (ff d p)) d.Next.length (s+1)) ?_ ?_)
    · refine Is.bnq a0 (Is.bnq (x:=gp p s) ?_ (Is.bnq (x:=d.Accept.getD s 0) ?_ (Is.bnd (P:=fun r=>r=ff d p s) ?_ ?_)))
      · rw [aZ (by omega)]; unfold gp; rw [Ic,Ie (by omega)]; rfl
      · rw [aZ (by omega)]; rw [Ic,Ie (by omega)]; rfl
      · unfold ff
        generalize d.Next.getD s []=q at B;refine Is.upto (fun j g=>g=([gp p s,IntKind.i64.wrap (d.Accept.getD s 0+1)]++(q.take j).map (yq p),(j:Int))) q.length (by omega) (by simp) ?_ ?_
        · rintro j _ t rfl
          simp only [];have hq:=B.2 _ (Ii t);refine Is.dt (by omega) (Is.bnd (P:=fun r=>r=[gp p s,IntKind.i64.wrap (d.Accept.getD s 0+1)]++(q.take (j+1)).map (yq p)) ?_ ?_)
          · rw [eA _ t,←Ir]
            refine Is.bnq (aZ t) (Is.dcd (fun w=>Is.bnq (bO (by simp; omega)) (Is.pure (by rw [show yq p q[j]=0 by unfold yq; rw [if_pos w]]))) fun w=>?_);have D:=F q[j].toNat (by have:=hq.2; omega);have a6:=hq.2;refine Is.bnq (dZ (d:=0) (by omega) (by rw [hp]; exact hq.2)) (Is.bnq (dT (by unfold gp at D; omega) (by unfold gp at D; omega)) (Is.bnq (bO (by simp; omega)) (Is.pure ?_)));rw [show yq p q[j]=p.getD q[j].toNat 0+1 by unfold yq; rw [if_neg w]]
          · rintro _ rfl
            exact Is.bnq (aK (by omega)) (Is.next rfl)
        · rintro _ rfl
          exact Is.df (by simp) (Is.stop (by rw [Ij]))
      · rintro _ rfl
        refine Is.bnq (pg G) (Is.bnd (P:=fun r=>de (fun k=>∀x∈k,tD x) jS r.1 (DK (ff d p) (s+1))∧r.2=dw (ff d p) s) ?_ ?_)
        · rcases qt hm (fun k k' a b=>nM a b) a1 with ⟨e,v,u,h4⟩|⟨e,v,u,h4⟩
          · rw [e,v]
            exact Is.cf rfl (Is.pure ⟨u,rfl⟩)
          · rw [e,hm.1]
            exact Is.ct rfl (Is.bnq (pg G) (Is.pure ⟨u,v⟩))
        · rintro ⟨Y,_⟩ ⟨e,rfl⟩
          exact Is.bnq (pV hs) (Is.pure ⟨e,rfl⟩)
    · rintro ⟨Y,_⟩ ⟨e,rfl⟩
      exact Is.bnq (aK (by omega)) (Is.next ⟨e,rfl⟩)
  · rintro ⟨m,_⟩ ⟨hm,rfl⟩
    exact Is.df (by omega) (Is.stop ⟨hm.1,by rw [pQ]⟩)
theorem kS {n:Nat} {f:Nat→Int} {s:Nat} (hs:s<n):gp ((List.range n).map f) s=f s:=by
 simp [gp,Ic,hs]
include h hf hal hacc in
theorem sS:Is (M.i3 d) (PartOk d):=by
 have B:=h.max;have y:=h.pos;unfold M.i3;refine Is.bnq (eH (by omega)) ?_;refine Is.while (fun a=>∃k:Nat,a.2=(k:Int)∧a.1.length=d.Next.length∧(∀s,s<d.Next.length→0≤gp a.1 s∧gp a.1 s<(d.Next.length:Int))∧
  (∀s t,s<d.Next.length→t<d.Next.length→xl d (s:Int) (t:Int)→gp a.1 s=gp a.1 t)∧(k=0∨k=(DK (gp a.1) d.Next.length).length))
  (fun a=>d.Next.length - a.2.toNat) ⟨0,rfl,by simp,fun s hs=>?_,fun s t hs b _=>?_,.inl rfl⟩ (by simp only []; omega) ?_
 ·simp [gp,Ic,hs]; omega
 ·simp [gp,Ic,hs,b]
 rintro ⟨p,_⟩ ⟨k,rfl,hp,f,g,r⟩;simp only [] at hp f g r ⊢;rw [hp];refine Is.bnq (eH (by omega)) (Is.bnd (yE h hf hp f) ?_);rintro ⟨m,_⟩ ⟨hm,rfl⟩;simp only [] at hm ⊢;have l:∀i j,i<d.Next.length→j<d.Next.length→ff d p i=ff d p j→gp p i=gp p j:=fun i j _ _ e=>by
  simp only [ff,Iw,List.cons.injEq] at e; exact e.1
 obtain ⟨D,x⟩:=xN (σ:=ff d p) (τ:=gp p) (n:=d.Next.length) l;have z:=rc (ff d p) d.Next.length;have A:0<(DK (gp p) d.Next.length).length:=by
  have:=gJ (σ:=gp p) (i:=0) (j:=d.Next.length) (by omega);omega
 have o:∀s,s<d.Next.length→0≤dw (ff d p) s∧dw (ff d p) s<(d.Next.length:Int):=fun s hs=>by
  have:=gJ (σ:=ff d p) hs;unfold dw; omega
 rw [hm];refine Is.cnd (fun e=>Is.stop ?_) fun e=>Is.next ?_
 ·have e:=dG e;have q:=x (by omega);refine ⟨by simp,fun s hs=>by rw [kS hs]; exact o s hs,fun s t hs b=>?_⟩;rw [kS hs,kS b];constructor
  ·intro c w;have c:mP (ff d p) s=mP (ff d p) t:=by unfold dw at c; omega
   exact vU h hacc (fun s hs=>(f s hs).1) q w s t hs b (l s t hs b (fq.1 c))
  ·intro c;unfold dw;rw [fq.2 (qD h hf hal g hs b c)]
 ·have e:=nt e;refine ⟨⟨_,rfl,by simp,fun s hs=>by rw [kS hs]; exact o s hs,fun s t hs b c=>?_,.inr ?_⟩,by simp only [ID]; omega⟩
  ·simp only [];rw [kS hs,kS b];unfold dw;rw [fq.2 (qD h hf hal g hs b c)]
  ·have:=(uj (σ:=ff d p) (τ:=gp ((List.range d.Next.length).map (dw (ff d p)))) (n:=d.Next.length) (fun i j v u=>by
    rw [kS v,kS u];unfold dw;rw [Int.ofNat_inj,fq])) d.Next.length (Nat.le_refl _)
   exact this.1
end
def gq (p:List Int) (x:Int):Int:=gp p x.toNat
theorem fo {α:Type} {l:List α} {i:Nat} (h:i<l.length) (r:List α) (x:α):(l++r).getD i x=l.getD i x:=by
 rw [Ic,Iu h,←Ic]
theorem wU {l:List Int} {i:Nat} (h:i<l.length):bD l (i:Int)=some (l.getD i 0):=by
 rw [aZ h,Ic,Ie h]; rfl
section
variable {d:T_DFA} {p:List Int} (h:Ok d) (hf:Full d) (hp:PartOk d p)
include hp in
theorem oo {x:Int} (h0:0≤x) (h1:x<(d.Next.length:Int)):bD p x=some (gq p x):=by
 rw [dZ (d:=0) h0 (by rw [hp.len]; exact h1)]; rfl
include hp in
theorem lZ {x:Int} (h0:0≤x) (h1:x<(d.Next.length:Int)):0≤gq p x∧gq p x<(d.Next.length:Int):=hp.lt x.toNat (by omega)
include hp in
theorem mC {x y:Int} (h0:0≤x) (h1:x<(d.Next.length:Int)) (k0:0≤y) (k1:y<(d.Next.length:Int)):gq p x=gq p y↔xl d x y:=by
 have:=hp.eq x.toNat y.toNat (by omega) (by omega);rw [show (x.toNat:Int)=x by omega,show (y.toNat:Int)=y by omega] at this;exact this
include hp in
theorem fj {l:List Int} (hl:∀x∈l,0≤x∧x<(d.Next.length:Int)) (hn:(l.map (gq p)).Nodup):l.length≤d.Next.length:=by
 have:=gE d.Next.length (l.map fun x=>(gq p x).toNat) (by
  refine List.pairwise_map.2 ((List.pairwise_map.1 hn).imp_of_mem fun {a b} ha hb c e=>c ?_);have:=lZ hp (hl a ha).1 (hl a ha).2;have:=lZ hp (hl b hb).1 (hl b hb).2;omega) (fun x hx=>by
  obtain ⟨a,ha,rfl⟩:=IK.1 hx;have:=lZ hp (hl a ha).1 (hl a ha).2;omega)
 simpa using this
structure RchM (d:T_DFA) (p:List Int) (l:List Int):Prop where
  zero:(0:Int)∈l
  inr:∀x∈l,0≤x∧x<(d.Next.length:Int)
  walk:∀x∈l,∃w,walkN d 0 w=x
  nodup:(l.map (gq p)).Nodup
theorem iH (d:T_DFA) (s:Int) (w:Str) (c:UInt8):walkN d s (w++[c])=bM d (walkN d s w) c.toNat:=by simp [walkN]
include h hf in
theorem xy {x:Int} (k:0≤x) (j:x<(d.Next.length:Int)) (a:∃w,walkN d 0 w=x) {t:Int} (g:t∈d.Next.getD x.toNat []):∃w,walkN d 0 w=t:=by
 obtain ⟨w,a⟩:=a;obtain ⟨c,f,rfl⟩:=IA.1 g;have hx:x.toNat<d.Next.length:=by omega
 obtain ⟨b,hb,e⟩:=tV h hf hx (c:=c) (by rw [←(eG h hx).1]; exact f);refine ⟨w++[UInt8.ofNat b],?_⟩;have i:(UInt8.ofNat b).toNat=b:=by simp; omega
 rw [show ((x.toNat:Nat):Int)=x by omega] at e;rw [iH,a,i,e];generalize d.Next.getD x.toNat []=q at f;rw [Ic,Ie f]; rfl
include h hf hp in
theorem vm (hal:AllLive d):Is (M.k5 d p) (fun l=>RchM d p l∧∀w,0≤walkN d 0 w→∃x∈l,gq p x=gq p (walkN d 0 w)):=by
 have d0:=h.max;have c8:=h.pos;have c9:=hp.len;have d7:=jo hf;unfold M.k5;have z0:=lZ hp (x:=0) (by omega) (by omega)
 -- what is n
 let Sn:List Bool→List Int→Prop:=fun n l=>n.length=d.Next.length∧∀v,v<d.Next.length→(n.getD v false=true↔∃x∈l,gq p x=(v:Int))
 have L:∀n l x,Sn n l→0≤x→x<(d.Next.length:Int)→Sn (n.set (gq p x).toNat true) (l++[x]):=by
  intro n l x ⟨h1,h2⟩ a9 a8;have u:=lZ hp a9 a8;refine ⟨by simpa using h1,fun v I=>?_⟩;simp only [Ic,IQ]
  by_cases e:(gq p x).toNat=v
  ·subst e;rw [if_pos rfl,if_pos (by omega)];simp only [Option.getD_some,true_iff];exact ⟨x,by simp,by omega⟩
  ·rw [if_neg e];have:=h2 v I;rw [Ic] at this;rw [this];constructor
   ·rintro ⟨y,hy,e⟩; exact ⟨y,by simp [hy],e⟩
   ·rintro ⟨y,hy,Y⟩;rcases Iq.1 hy with hy|hy
    ·exact ⟨y,hy,Y⟩
    ·rw [Ip.1 hy] at Y; omega
 refine Is.bnq (eH (by omega)) (Is.bnq (oo hp (by omega) (by omega)) (Is.bnq (iP z0.1 (by simpa using z0.2)) ?_));refine Is.bnd (P:=fun l=>RchM d p l∧∀w,0≤walkN d 0 w→∃x∈l,gq p x=gq p (walkN d 0 w)) ?_ (fun l hl=>Is.pure hl);refine Is.while (fun f=>∃k:Nat,f.2.2=(k:Int)∧k≤f.1.length∧RchM d p f.1∧Sn f.2.1 f.1∧∀j,j<k→∀t∈d.Next.getD (f.1.getD j 0).toNat [],0≤t→∃y∈f.1,gq p y=gq p t)
  (fun f=>d.Next.length - f.2.2.toNat) ⟨0,rfl,by simp,⟨by simp,by simp; omega,by simp; exact ⟨[],rfl⟩,by simp⟩,?_,by omega⟩ (by simp only []; omega) ?_
 ·exact L (List.replicate d.Next.length false) [] 0 ⟨by simp,fun v I=>by simp [Ic,I]⟩ (by omega) (by omega)
 rintro ⟨l,n,_⟩ ⟨k,rfl,hk,hR,W,hd⟩;simp only [] at hk hR W hd ⊢;have d4:=fj hp hR.inr hR.nodup;refine Is.dcd (fun d1=>?_) fun d6=>Is.stop ⟨hR,fun w=>?_⟩
 ·have J:k<l.length:=by omega
  have R:l.getD k 0∈l:=cM J;have hx:=hR.inr _ R;have a7:(l.getD k 0).toNat<d.Next.length:=by omega
  have b7:bD d.Next (l.getD k 0)=some (d.Next.getD (l.getD k 0).toNat []):=dZ hx.1 hx.2;have U:=eG h a7;have S:∀t∈d.Next.getD (l.getD k 0).toNat [],∃w,walkN d 0 w=t:=fun t i=>xy h hf hx.1 hx.2 (hR.walk _ R) i
  have d5:l.getD k 0=l.getD k 0:=rfl;refine Is.bnd (P:=fun f=>k<f.1.length∧RchM d p f.1∧Sn f.2 f.1∧(∃r,f.1=l++r)∧∀t∈d.Next.getD (l.getD k 0).toNat [],0≤t→∃y∈f.1,gq p y=gq p t) ?_ ?_
  ·refine Is.bnq (wU J) (Is.bnq b7 ?_);generalize d.Next.getD (l.getD k 0).toNat []=q at U S ⊢;refine Is.upto (fun j f=>f.2.2=(j:Int)∧k<f.1.length∧RchM d p f.1∧Sn f.2.1 f.1∧(∃r,f.1=l++r)∧∀t∈q.take j,0≤t→∃y∈f.1,gq p y=gq p t) q.length (by omega) ⟨rfl,J,hR,W,⟨[],by simp⟩,by simp⟩ ?_ ?_
   ·rintro j ⟨Q,N,_⟩ o ⟨rfl,B,m,a3,a4,a5⟩;simp only [] at B m a3 a4 a5 ⊢;have hq:=U.2 _ (Ii o);have b9:=S _ (Ii o);have d3:=fj hp m.inr m.nodup;refine Is.dt (by omega) (Is.bnd (P:=fun f=>k<f.1.length∧RchM d p f.1∧Sn f.2 f.1∧(∃r,f.1=l++r)∧∀t∈q.take (j+1),0≤t→∃y∈f.1,gq p y=gq p t) ?_ ?_)
    ·refine Is.bnq (aZ o) (Is.bnd (P:=fun b=>b=true↔(0≤q[j]∧¬ ∃y∈Q,gq p y=gq p q[j])) (Is.dcd (fun g=>?_) fun g=>Is.pure ⟨fun h=>(by cases h),fun h=>(g h.1).elim⟩) ?_)
     ·have u:=lZ hp g hq.2;refine Is.bnq (oo hp g hq.2) (Is.bnq (dZ (d:=false) u.1 (by rw [a3.1]; exact u.2)) (Is.pure ?_));have:=a3.2 (gq p q[j]).toNat (by omega);rw [show ((gq p q[j]).toNat:Int)=gq p q[j] by omega] at this;rw [←this];cases N.getD (gq p q[j]).toNat false <;> simp [g]
     ·intro b hb;cases b
      ·refine Is.cf rfl (Is.pure ⟨B,m,a3,a4,fun t i g=>?_⟩);rw [It o,Iq] at i;rcases i with i|i
       ·exact a5 t i g
       ·rw [Ip.1 i] at g ⊢;exact Classical.byContradiction fun hn=>by have:=hb.2 ⟨g,hn⟩; cases this
      ·obtain ⟨g,c0⟩:=hb.1 rfl;have u:=lZ hp g hq.2;refine Is.ct rfl (Is.bnq (oo hp g hq.2) (Is.bnq (iP u.1 (by rw [a3.1]; exact u.2)) (Is.bnq (bO (by simp; omega)) (Is.pure ⟨by simp; omega,⟨by simp [m.zero],?_,?_,?_⟩,L _ _ _ a3 g hq.2,?_,?_⟩))))
       ·intro x hx;rcases Iq.1 hx with hx|hx
        ·exact m.inr x hx
        ·rw [Ip.1 hx]; exact ⟨g,hq.2⟩
       ·intro x hx;rcases Iq.1 hx with hx|hx
        ·exact m.walk x hx
        ·rw [Ip.1 hx]; exact b9
       ·rw [Iz,List.nodup_append];refine ⟨m.nodup,by simp,fun a ha b hb=>?_⟩;obtain ⟨y,hy,rfl⟩:=IK.1 ha;have hb:b=gq p q[j]:=by simpa using hb
        rw [hb];exact fun e=>c0 ⟨y,hy,e⟩
       ·obtain ⟨r,hr⟩:=a4;exact ⟨r++[q[j]],by simp [hr]⟩
       ·intro t i g;rw [It o,Iq] at i;rcases i with i|i
        ·obtain ⟨y,hy,e⟩:=a5 t i g;exact ⟨y,by simp [hy],e⟩
        ·rw [Ip.1 i];exact ⟨q[j],by simp,rfl⟩
    ·rintro ⟨l2,s2⟩ ⟨K,z,F,A,D⟩;exact Is.bnq (aK (by omega)) (Is.next ⟨rfl,K,z,F,A,D⟩)
   ·rintro ⟨Q,N,_⟩ ⟨rfl,B,m,a3,a4,a5⟩;simp only [Ij] at B m a3 a4 a5 ⊢;exact Is.df (by omega) (Is.stop ⟨B,m,a3,a4,a5⟩)
  ·rintro ⟨l2,s2⟩ ⟨K,z,F,⟨r,A⟩,D⟩;simp only [] at K z F A D ⊢;have d2:=fj hp z.inr z.nodup;refine Is.bnq (aK (by omega)) (Is.next ⟨⟨k+1,rfl,by simp only []; omega,z,F,fun j o t i g=>?_⟩,by simp only [ID]; omega⟩);simp only [] at i ⊢;rw [A,fo (by omega)] at i
   by_cases e:j=k
   ·subst e; exact D t i g
   ·obtain ⟨y,hy,e⟩:=hd j (by omega) t i g;exact ⟨y,by rw [A]; simp [hy],e⟩
 ·-- nothing is missing
  obtain ⟨v,rfl⟩:∃v:Str,w=v.reverse:=⟨w.reverse,by simp⟩;induction v with
  | nil=>intro _; exact ⟨0,hR.zero,rfl⟩
  | cons c v ih=>
   rw [List.reverse_cons];generalize v.reverse=w at ih;rw [iH];intro g;have T:0≤walkN d 0 w:=by
    by_cases hn:walkN d 0 w<0
    ·unfold bM at g; rw [if_pos hn] at g; omega
    ·omega
   have H:=eL h (fp h) w;obtain ⟨x,hx,e⟩:=ih T;have G:=hR.inr x hx;have c3:=(mC hp G.1 G.2 T H.2).1 e;have V:=c3.step c.toNat_lt;obtain ⟨j,o,rfl⟩:=IA.1 hx;have c2:l.getD j 0=l[j]:=by rw [Ic,Ie o]; rfl
   have b0:=cP h (s:=l[j]) ⟨by omega,G.2⟩ c.toNat_lt;have b6:=cP h H c.toNat_lt
   by_cases hlive:0≤bM d l[j] c.toNat
   ·obtain ⟨cc,c4,_,X⟩:=pS h (s:=l[j].toNat) (by omega) c.toNat_lt;rw [show ((l[j].toNat:Nat):Int)=l[j] by omega] at X;obtain ⟨y,hy,ey⟩:=hd j (by omega) (bM d l[j] c.toNat) (by
     rw [c2,X];exact cM (by rw [(eG h (by omega)).1]; exact c4)) hlive
    exact ⟨y,hy,ey.trans ((mC hp hlive b0.2 g b6.2).2 V)⟩
   ·have:=V.neg (by omega) (fun _=>hal _ _ H c.toNat_lt g);omega
def kl (d:T_DFA) (p:List Int) (s:Int) (b:Nat):Int:=if 0≤bM d s b then gq p (bM d s b) else bM d s b
def keyC (d:T_DFA) (p:List Int) (states:List Int) (b:Nat):List Int:=states.map fun s=>kl d p s b
include h hp in
theorem Cp {s:Int} (hs:pc d s) {b:Nat} (hb:b<256):tD (kl d p s b):=by
 have hi:=cP h hs hb;have hm:=h.max;unfold kl tD;split
 ·rename_i h0;have:=lZ hp h0 hi.2; omega
 ·have:=hi.1; omega
include h hp in
theorem vZ {c:List Int} (g:∀x∈c,0≤x∧x<(d.Next.length:Int)) (hl:c.length≤500):M.k6 d c p=some ((List.range 256).map (dw (keyC d p c))):=by
 refine Is.eq ?_;unfold M.k6;have y:∀b,b<256→(∀x∈keyC d p c b,tD x)∧(keyC d p c b).length≤1000000:=by
  intro b hb;refine ⟨fun x hx=>?_,by simp [keyC]; omega⟩;obtain ⟨s,hs,rfl⟩:=IK.1 hx;exact Cp h hp ⟨by have:=g s hs; omega,(g s hs).2⟩ hb
 refine Is.bnq (x:=List.replicate 256 0) (by rw [show (256:Int)=((256:Nat):Int) from rfl,eH (by omega)]) ?_;have B:((List.replicate 256 (0:Int)).length:Int)=256:=by rw [IH]; rfl
 rw [B];refine Is.bnd (P:=fun r=>r=(List.range 256).map (dw (keyC d p c))) ?_ (fun r v=>Is.pure v);refine Is.upto (fun i s=>de (fun k=>∀x∈k,tD x) jS s.2.1 (DK (keyC d p c) i)∧s.1=lF (dw (keyC d p c)) 256 i∧s.2.2=(i:Int)) 256 (by omega) ⟨de.nil,by rw [nO],rfl⟩ ?_ ?_
 ·rintro b ⟨_,m,_⟩ hb ⟨hm,rfl,rfl⟩;simp only [] at hm ⊢;obtain ⟨w,q⟩:=y b hb;refine Is.dt (by omega) (Is.bnd (P:=fun r=>r.1=lF (dw (keyC d p c)) 256 (b+1)∧de (fun k=>∀x∈k,tD x) jS r.2 (DK (keyC d p c) (b+1))) ?_ ?_)
  ·refine Is.bnd (P:=fun r=>r=keyC d p c b) (Is.upto (fun j s=>s=((c.take j).map (fun s=>kl d p s b),(j:Int))) c.length (by omega) (by simp) ?_ ?_) ?_
   ·rintro j _ l rfl;simp only [];have hs:=g _ (Ii l);have z:=cP h (s:=c[j]) ⟨by omega,hs.2⟩ hb;refine Is.dt (by omega) (Is.bnq (aZ l) (Is.bnq (x:=bM d c[j] b) (by rw [mQ hb]; exact lm h ⟨by omega,hs.2⟩ hb) (Is.bnd (P:=fun t=>t=kl d p c[j] b) (Is.dcd (fun f=>?_) fun f=>Is.pure ?_) ?_)))
    ·exact Is.bnq (oo hp f z.2) (Is.pure (by unfold kl; rw [if_pos f]))
    ·unfold kl; rw [if_neg f]
    ·rintro _ rfl;refine Is.bnq (bO (by simp; omega)) (Is.bnq (aK (by omega)) (Is.next ?_));rw [eA _ l]
   ·rintro _ rfl;exact Is.df (by simp) (Is.stop (by rw [Ij]; rfl))
   ·rintro _ rfl;refine Is.bnq (pg q) (Is.bnd (P:=fun r=>de (fun k=>∀x∈k,tD x) jS r.1 (DK (keyC d p c) (b+1))∧r.2=dw (keyC d p c) b) ?_ ?_)
    ·rcases qt hm (fun k k' a b=>nM a b) w with ⟨e,o,n,A⟩|⟨e,o,n,A⟩
     ·rw [e,o];exact Is.cf rfl (Is.pure ⟨n,rfl⟩)
     ·rw [e,hm.1];exact Is.ct rfl (Is.bnq (pg q) (Is.pure ⟨n,o⟩))
    ·rintro ⟨u,_⟩ ⟨e,rfl⟩;exact Is.bnq (pV hb) (Is.pure ⟨rfl,e⟩)
  ·rintro ⟨_,u⟩ ⟨rfl,e⟩;exact Is.bnq (aK (by omega)) (Is.next ⟨e,rfl,rfl⟩)
 ·rintro ⟨_,m,_⟩ ⟨hm,rfl,rfl⟩;exact Is.df (by omega) (Is.stop (by rw [pQ]))
end
structure Reps {K:Type} [DecidableEq K] (σ:Nat→K) (l:List Int):Prop where
  len:l.length=(DK σ 256).length
  rep:∀c,c<l.length→∃b:Nat,b<256∧l.getD c 0=(b:Int)∧mP σ b=c
theorem vc {K:Type} [DecidableEq K] (σ:Nat→K):Is (M.i6 ((List.range 256).map (dw σ))) (Reps σ):=by
 unfold M.i6;have n:(((List.range 256).map (dw σ)).length:Int)=256:=by rw [Iy,IN]; rfl
 rw [n];refine Is.bnd (P:=Reps σ) (Is.upto (fun i f=>f.2=(i:Int)∧f.1.length=(DK σ i).length∧∀c,c<f.1.length→∃b:Nat,b<256∧f.1.getD c 0=(b:Int)∧mP σ b=c) 256 (by omega) ⟨rfl,rfl,by simp⟩ ?_ ?_) (fun l hl=>Is.pure hl)
 ·rintro i ⟨l,_⟩ g ⟨rfl,d,a⟩;simp only [] at d a ⊢;have o:=rc σ i;have k:bD ((List.range 256).map (dw σ)) (i:Int)=some (dw σ i):=by
   rw [aZ (by rw [Iy,IN]; exact g)];rw [IU,List.getElem_range]
  refine Is.dt (by omega) (Is.bnd (P:=fun r=>r.length=(DK σ (i+1)).length∧∀c,c<r.length→∃b:Nat,b<256∧r.getD c 0=(b:Int)∧mP σ b=c) ?_ ?_)
  ·refine Is.bnq k (Is.cnd (fun e=>?_) fun e=>Is.pure ?_)
   ·have e:=dG e;have j:σ i∉DK σ i:=fun hm=>by have:=AP hm; unfold dw at e; omega
    rw [mQ g];refine Is.bnq (bO (by simp; omega)) (Is.pure ⟨by rw [rb j]; simp [d],fun c m=>?_⟩)
    by_cases hcl:c<l.length
    ·rw [fo hcl]; exact a c hcl
    ·have:c=l.length:=by simp at m; omega
     subst this;exact ⟨i,g,by simp [Ic],by unfold dw at e; omega⟩
   ·have e:=nt e;have h:σ i∈DK σ i:=Classical.byContradiction fun hm=>by have:=nu hm; unfold dw at e; omega
    rw [lg h]; exact ⟨d,a⟩
  ·rintro r ⟨d,a⟩;exact Is.bnq (aK (by omega)) (Is.next ⟨rfl,d,a⟩)
 ·rintro ⟨l,_⟩ ⟨rfl,d,a⟩;exact Is.df (by omega) (Is.stop ⟨d,a⟩)
def ou (k:Nat) (l:List Int):Nat:=l.foldl (fun k v=>if v=(k:Int) then k+1 else k) k
theorem so (k:Nat) (l:List Int) (v:Int):ou k (l++[v])=if v=(ou k l:Int) then ou k l+1 else ou k l:=by unfold ou; rw [List.foldl_append]; rfl
def Fa (l:List Int):Prop:=∀i,i<l.length→l.getD i 0≤(ou 1 (l.take i):Int)
theorem Fa.snoc {l:List Int} {v:Int} (h:Fa l) (hv:v≤(ou 1 l:Int)):Fa (l++[v]):=by
 intro i hi
 by_cases hl:i<l.length
 ·rw [fo hl,List.take_append_of_le_length (by omega)];exact h i hl
 ·have:i=l.length:=by simp at hi; omega
  subst this;rw [List.take_left];simpa [Ic] using hv
theorem lB {α:Type} (l:List α) (v x:α):(l++[v]).getD l.length x=v:=by simp [Ic]
structure Canon (m:T_DFA):Prop where
  ok:Ok m
  cls:m.Class=(List.range 256).map (dw (dB m))
  cols:cols m=(DK (dB m) 256).length
  sep:∀b b',b<256→b'<256→(∀s:Nat,s<m.Next.length→bM m (s:Int) b=bM m (s:Int) b')→dB m b=dB m b'
  live:AllLive m
  reach:∀s:Nat,s<m.Next.length→∃w,walkN m 0 w=(s:Int)
  ineq:∀s t:Nat,s<m.Next.length→t<m.Next.length→xl m (s:Int) (t:Int)→s=t
  can:Fa m.Next.flatten
  cnt:ou 1 m.Next.flatten=m.Next.length
  start:∀j,j<m.Next.length→j<ou 1 (m.Next.take j).flatten
section
variable (d:T_DFA) (p:List Int) (bytes:List Int)
def lR (order:List Int) (x:Int) (v:Int) (b:Nat):Prop:=(bM d x b<0∧v=-1)∨(0≤bM d x b∧∃k:Nat,v=(k:Int)∧k<order.length∧gq p (order.getD k 0)=gq p (bM d x b))
def Dj (order:List Int) (x:Int) (row:List Int):Prop:=row.length=bytes.length∧∀c,c<bytes.length→lR d p order x (row.getD c 0) (bytes.getD c 0).toNat
structure MC (order:List Int) (rows:List (List Int)) (accs:List Int) (i:Nat) (done:List Int):Prop where
  z:order.getD 0 0=0∧0<order.length
  inr:∀x∈order,0≤x∧x<(d.Next.length:Int)
  walk:∀x∈order,∃w,walkN d 0 w=x
  nodup:(order.map (gq p)).Nodup
  rlen:rows.length=i
  accs:accs=(order.take i).map (fun x=>d.Accept.getD x.toNat 0)
  ile:i≤order.length
  ent:∀j,j<i→Dj d p bytes order (order.getD j 0) (rows.getD j [])
  dent:∀c,c<done.length→lR d p order (order.getD i 0) (done.getD c 0) (bytes.getD c 0).toNat
  can:Fa (rows.flatten++done)
  cnt:ou 1 (rows.flatten++done)=order.length
  start:∀j,j<i→j<ou 1 (rows.take j).flatten
  beg:done≠[]→i<ou 1 rows.flatten
end
section
variable {d:T_DFA} {p bytes order accs done:List Int} {rows:List (List Int)} {i:Nat}
theorem lR.mono {x v:Int} {b:Nat} (h:lR d p order x v b) (r:List Int):lR d p (order++r) x v b:=by
 rcases h with h|⟨h1,k,h2,h3,h4⟩
 ·exact .inl h
 ·exact .inr ⟨h1,k,h2,by simp; omega,by rw [fo h3]; exact h4⟩
theorem MC.start0 (hp:1≤d.Next.length):MC d p bytes [0] [] [] 0 [] where
 z:=⟨rfl,by simp⟩
 inr x hx:=by simp at hx; subst hx; omega
 walk x hx:=by simp at hx; subst hx; exact ⟨[],rfl⟩
 nodup:=by simp
 rlen:=rfl
 accs:=rfl
 ile:=by simp
 ent j hj:=by omega
 dent c hc:=by simp at hc
 can i hi:=by simp at hi
 cnt:=rfl
 start j hj:=by omega
 beg h:=(h rfl).elim
theorem MC.beg' (h:MC d p bytes order rows accs i done) (hi:i<order.length):i<ou 1 rows.flatten:=by
 cases done with
 | nil=>have:=h.cnt; simp at this; omega
 | cons a l=>exact h.beg (by simp)
theorem MC.old (h:MC d p bytes order rows accs i done) (b:i<order.length) {v:Int} (a:lR d p order (order.getD i 0) v (bytes.getD done.length 0).toNat):MC d p bytes order rows accs i (done++[v]):=by
 have f:v<(order.length:Int):=by
  have:=h.z.2;rcases a with ⟨_,rfl⟩|⟨_,k,rfl,g,_⟩ <;> omega
 refine ⟨h.z,h.inr,h.walk,h.nodup,h.rlen,h.accs,h.ile,h.ent,fun c e=>?_,?_,?_,h.start,fun _=>h.beg' b⟩
 ·by_cases hcl:c<done.length
  ·rw [fo hcl]; exact h.dent c hcl
  ·have:c=done.length:=by simp at e; omega
   subst this;rw [lB]; exact a
 ·rw [←Ir];exact h.can.snoc (by rw [h.cnt]; omega)
 ·rw [←Ir,so,h.cnt,if_neg (by omega)]
theorem MC.new (h:MC d p bytes order rows accs i done) (g:i<order.length) {t:Int} (f:t=bM d (order.getD i 0) (bytes.getD done.length 0).toNat) (k:0≤t) (n:t<(d.Next.length:Int)) (l:∃w,walkN d 0 w=t) (hn:gq p t∉order.map (gq p)) :
 MC d p bytes (order++[t]) rows accs i (done++[(order.length:Int)]):=by
 refine ⟨⟨by rw [fo h.z.2]; exact h.z.1,by simp⟩,?_,?_,?_,h.rlen,?_,by simp; omega,fun j m=>?_,fun c e=>?_,?_,?_,h.start,fun _=>h.beg' g⟩
 ·intro x hx;rcases Iq.1 hx with hx|hx
  ·exact h.inr x hx
  ·rw [Ip.1 hx]; exact ⟨k,n⟩
 ·intro x hx;rcases Iq.1 hx with hx|hx
  ·exact h.walk x hx
  ·rw [Ip.1 hx]; exact l
 ·rw [Iz,List.nodup_append];refine ⟨h.nodup,by simp,fun a ha b hb=>?_⟩;have hb:b=gq p t:=by simpa using hb
  rw [hb]; rintro rfl; exact hn ha
 ·rw [List.take_append_of_le_length (by omega)]; exact h.accs
 ·rw [fo (by omega)];have:=h.ent j m;exact ⟨this.1,fun c e=>(this.2 c e).mono [t]⟩
 ·rw [fo g]
  by_cases hcl:c<done.length
  ·rw [fo hcl]; exact (h.dent c hcl).mono [t]
  ·have:c=done.length:=by simp at e; omega
   subst this;rw [lB];exact .inr ⟨by rw [←f]; exact k,order.length,rfl,by simp,by rw [lB,f]⟩
 ·rw [←Ir];exact h.can.snoc (by rw [h.cnt]; omega)
 ·rw [←Ir,so,h.cnt,if_pos rfl]; simp
theorem MC.turn (h:MC d p bytes order rows accs i done) (a:i<order.length) (hd:done.length=bytes.length):MC d p bytes order (rows++[done]) (accs++[d.Accept.getD (order.getD i 0).toNat 0]) (i+1) []:=by
 refine ⟨h.z,h.inr,h.walk,h.nodup,by simp [h.rlen],?_,by omega,fun j f=>?_,fun c b=>by simp at b,?_,?_,fun j f=>?_,fun h=>(h rfl).elim⟩
 ·rw [It a,Iz,h.accs,Ic (l:=order),Ie a]; rfl
 ·by_cases e:j<i
  ·rw [fo (by rw [h.rlen]; exact e)]; exact h.ent j e
  ·have:j=rows.length:=by rw [h.rlen]; omega
   subst this;rw [lB,h.rlen];exact ⟨hd,fun c b=>h.dent c (by omega)⟩
 ·simpa using h.can
 ·simpa using h.cnt
 ·by_cases e:j<i
  ·rw [List.take_append_of_le_length (by rw [h.rlen]; omega)]; exact h.start j e
  ·have:j=rows.length:=by rw [h.rlen]; omega
   subst this;rw [List.take_left];rw [h.rlen]; exact h.beg' a
end
section
variable {d:T_DFA} {p l bytes:List Int} (h:Ok d) (hf:Full d) (hal:AllLive d) (hp:PartOk d p) (hR:RchM d p l) (hRc:∀w,0≤walkN d 0 w→∃x∈l,gq p x=gq p (walkN d 0 w)) (hB:Reps (keyC d p l) bytes)
include h hal hp in
theorem mS {x y:Int} (hx:0≤x∧x<(d.Next.length:Int)) (hy:0≤y∧y<(d.Next.length:Int)) (i:gq p x=gq p y) {b:Nat} (hb:b<256):kl d p x b=kl d p y b:=by
 have e:=((mC hp hx.1 hx.2 hy.1 hy.2).1 i).step hb;have ix:=cP h (s:=x) ⟨by omega,hx.2⟩ hb;have g:=cP h (s:=y) ⟨by omega,hy.2⟩ hb;unfold kl
 by_cases c:0≤bM d x b
 ·have a:0≤bM d y b:=by
   by_cases a:bM d y b<0
   ·have:=e.symm.neg a (fun f=>hal x b ⟨by omega,hx.2⟩ hb f); omega
   ·omega
  rw [if_pos c,if_pos a];exact (mC hp c ix.2 a g.2).2 e
 ·have a:¬ 0≤bM d y b:=fun a=>by
   have:=e.neg (by omega) (fun f=>hal y b ⟨by omega,hy.2⟩ hb f); omega
  rw [if_neg c,if_neg a];have:=ix.1; have:=g.1; omega
include h hp in
theorem lR.iff {order:List Int} {x v:Int} (hx:0≤x∧x<(d.Next.length:Int)) {b:Nat} (hb:b<256):lR d p order x v b↔(kl d p x b=-1∧v=-1)∨(0≤kl d p x b∧∃k:Nat,v=(k:Int)∧k<order.length∧gq p (order.getD k 0)=kl d p x b):=by
 have ix:=cP h (s:=x) ⟨by omega,hx.2⟩ hb;unfold lR kl
 by_cases a:0≤bM d x b
 ·rw [if_pos a];have:=lZ hp a ix.2;constructor
  ·rintro (h|h)
   ·omega
   ·exact .inr ⟨by omega,h.2⟩
  ·rintro (h|h)
   ·omega
   ·exact .inr ⟨a,h.2⟩
 ·rw [if_neg a];have:=ix.1;constructor
  ·rintro (h|h)
   ·exact .inl ⟨by omega,h.2⟩
   ·omega
  ·rintro (h|h)
   ·exact .inl ⟨by omega,h.2⟩
   ·omega
theorem wT {l:List Int} {f:Int→Int} (hn:(l.map f).Nodup) {i j:Nat} (b:i<l.length) (a:j<l.length) (h:f (l.getD i 0)=f (l.getD j 0)):i=j:=by
 have e:l.getD i 0=l[i]:=by rw [Ic,Ie b]; rfl
 have d:l.getD j 0=l[j]:=by rw [Ic,Ie a]; rfl
 rw [e,d] at h;have c:=List.pairwise_iff_getElem.1 hn;rcases Nat.lt_trichotomy i j with hl|hl|hl
 ·have:=c i j (by simpa using b) (by simpa using a) hl;simp only [IU] at this; exact (this h).elim
 ·exact hl
 ·have:=c j i (by simpa using a) (by simpa using b) hl;simp only [IU] at this; exact (this h.symm).elim
variable {order accs:List Int} {rows:List (List Int)} (hM:MC d p bytes order rows accs order.length [])
def kH (d:T_DFA) (p l:List Int) (rows:List (List Int)) (accs:List Int):T_DFA:=⟨(List.range 256).map (dw (keyC d p l)),rows,accs⟩
include h hal hp hR hRc in
theorem xT {x:Int} (hx:0≤x∧x<(d.Next.length:Int)) (hw:∃w,walkN d 0 w=x) {b b':Nat} (hb:b<256) (hb':b'<256) (he:keyC d p l b=keyC d p l b'):kl d p x b=kl d p x b':=by
 obtain ⟨w,hw⟩:=hw;obtain ⟨y,hy,e⟩:=hRc w (by rw [hw]; exact hx.1);rw [hw] at e;have hyi:=hR.inr y hy;rw [←mS h hal hp hyi hx e hb,←mS h hal hp hyi hx e hb'];unfold keyC at he;exact List.map_inj_left.1 he y hy
include hM in
theorem gI {i:Nat} (hi:i<order.length):0≤order.getD i 0∧order.getD i 0<(d.Next.length:Int):=hM.inr _ (cM hi)
theorem kG {b:Nat} (hb:b<256):dB (kH d p l rows accs) b=dw (keyC d p l) b:=by simp [dB,kH,Ic,hb]
include h hal hp hR hRc hB hM in
theorem nm {i:Nat} (c:i<order.length) {b:Nat} (hb:b<256):lR d p order (order.getD i 0) (bM (kH d p l rows accs) (i:Int) b) b:=by
 have hx:=gI hM c;have g:=hM.walk _ (cM (d:=0) c);have j:=hM.ent i c;have a:=gJ (σ:=keyC d p l) hb;rw [←hB.len] at a;obtain ⟨o,f,n,m⟩:=hB.rep _ a;have e:=j.2 _ a;rw [n,ID] at e;rw [lR.iff h hp hx f] at e;rw [lR.iff h hp hx hb,←xT h hal hp hR hRc hx g f hb (fq.1 m)];have k:bM (kH d p l rows accs) (i:Int) b=(rows.getD i []).getD (mP (keyC d p l) b) 0:=mT (d:=kH d p l rows accs) (kG hb);rw [k]; exact e
include h hal hp hR hRc hB hM in
theorem ui (w:Str):(walkN d 0 w<0∧walkN (kH d p l rows accs) 0 w=-1)∨(0≤walkN d 0 w∧∃k:Nat,k<order.length∧walkN (kH d p l rows accs) 0 w=(k:Int)∧gq p (order.getD k 0)=gq p (walkN d 0 w)):=by
 obtain ⟨v,rfl⟩:∃v:Str,w=v.reverse:=⟨w.reverse,by simp⟩;induction v with
 | nil=>exact .inr ⟨Int.le_refl _,0,hM.z.2,rfl,by rw [hM.z.1]; rfl⟩
 | cons c v ih=>
  rw [List.reverse_cons];generalize v.reverse=w at ih;rw [iH,iH];have i:=eL h (fp h) w;have m:=cP h i c.toNat_lt;rcases ih with ⟨g,f⟩|⟨g,k,j,f,o⟩
  ·refine .inl ⟨?_,?_⟩
   ·unfold bM; rw [if_pos g]; omega
   ·rw [f]; rfl
  ·rw [f];have a:=nm h hal hp hR hRc hB hM j c.toNat_lt;have hx:=gI hM j;rw [lR.iff h hp hx c.toNat_lt,mS h hal hp hx ⟨g,i.2⟩ o c.toNat_lt] at a;unfold kl at a
   by_cases e:0≤bM d (walkN d 0 w) c.toNat
   ·simp only [if_pos e] at a;have:=lZ hp e m.2;rcases a with ⟨b,_⟩|⟨_,k',b,n,h6⟩
    ·omega
    ·exact .inr ⟨e,k',n,b,h6⟩
   ·simp only [if_neg e] at a;rcases a with ⟨_,b⟩|⟨b,_⟩
    ·exact .inl ⟨by omega,b⟩
    ·omega
include h hal hp hR hRc hB hM in
theorem pq (w:Str):∀i,i<order.length→ri (kH d p l rows accs) (i:Int) w=ri d (order.getD i 0) w:=by
 induction w with
 | nil=>
  intro i a;have hx:=gI hM a;rw [lp,lp];unfold eg;rw [if_neg (by omega),if_neg (by omega)];have e:(kH d p l rows accs).Accept=order.map (fun x=>d.Accept.getD x.toNat 0):=by
   show accs=_;have:=hM.accs
   rwa [Ij] at this
  rw [e,ID,Ic,IP,Ie a,Ic (l:=order),Ie a];rfl
 | cons c w ih=>
  intro i a;have hx:=gI hM a;rw [dW,dW];have m:=cP h (s:=order.getD i 0) ⟨by omega,hx.2⟩ c.toNat_lt;rcases nm h hal hp hR hRc hB hM a c.toNat_lt with ⟨f,b⟩|⟨f,k,b,j,n⟩
  ·rw [b,jv f,jv (by omega)]
  ·rw [b,ih k j];have g:=gI hM j;exact (mC hp g.1 g.2 f m.2).1 n w
include h hal hp hR hRc hB hM in
theorem xL:Canon (kH d p l rows accs):=by
 have hlen:rows.length=order.length:=hM.rlen;have a8:=fj hp hM.inr hM.nodup;have Y:1≤bytes.length:=by
  rw [hB.len];have:=gJ (σ:=keyC d p l) (i:=0) (j:=256) (by omega);omega
 have U:=hM.z.2;have G:cols (kH d p l rows accs)=bytes.length:=(hM.ent 0 U).1;have f:(kH d p l rows accs).Next=rows:=rfl;have hacc:(kH d p l rows accs).Accept=order.map (fun x=>d.Accept.getD x.toNat 0):=by
  show accs=_;have:=hM.accs
  rwa [Ij] at this
 have V:Ok (kH d p l rows accs):=by
  refine ⟨by simp [kH],by rw [f]; omega,by rw [f]; have:=h.max; omega,by rw [hacc,f]; simp [hlen],by rw [G]; exact Y,fun c A=>?_,fun r Q=>?_,fun a ha=>?_⟩
  ·simp only [kH,IK,IL] at A;obtain ⟨b,hb,rfl⟩:=A;rw [G,hB.len];have:=gJ (σ:=keyC d p l) hb;unfold dw; omega
  ·rw [f] at Q;obtain ⟨j,y,rfl⟩:=IA.1 Q;have B:=hM.ent j (by omega);have e:rows.getD j []=rows[j]:=by rw [Ic,Ie y]; rfl
   rw [e] at B;refine ⟨by rw [G]; exact B.1,fun t q=>?_⟩;obtain ⟨c,A,rfl⟩:=IA.1 q;have:=B.2 c (by rw [←B.1]; exact A);have e:rows[j].getD c 0=rows[j][c]:=by rw [Ic,Ie A]; rfl
   rw [e] at this;rw [f];rcases this with ⟨_,h⟩|⟨_,k,h,g,_⟩ <;> omega
  ·rw [hacc] at ha;obtain ⟨x,hx,rfl⟩:=IK.1 ha;have:=hM.inr x hx;exact h.accs _ (cM (by rw [h.acc]; omega))
 have P:=uj (σ:=dB (kH d p l rows accs)) (τ:=keyC d p l) (n:=256) (fun i j F y=>by
  rw [kG F,kG y];unfold dw;rw [Int.ofNat_inj,fq]) 256 (Nat.le_refl _)
 refine ⟨V,?_,by rw [G,hB.len,P.1],fun b b' hb H hs=>?_,fun s b hs hb I=>?_,fun s hs=>?_,fun s t hs q X=>?_,?_,?_,fun j y=>?_⟩
 ·show (List.range 256).map (dw (keyC d p l))=_;refine List.map_congr_left fun b hb=>?_
  unfold dw;rw [P.2 b (IL.1 hb)]
 ·-- classes are apart
  rw [kG hb,kG H];have:keyC d p l b=keyC d p l b':=by
   unfold keyC;refine List.map_congr_left fun x hx=>?_
   have N:=hR.inr x hx;obtain ⟨w,v⟩:=hR.walk x hx;rcases ui h hal hp hR hRc hB hM w with ⟨o,_⟩|⟨o,k,g,u,m⟩
   ·omega
   ·rw [v] at m;have D:=gI hM g;rw [←mS h hal hp D N m hb,←mS h hal hp D N m H];have J:=nm h hal hp hR hRc hB hM g hb;have R:=nm h hal hp hR hRc hB hM g H;rw [hs k (by rw [f]; omega)] at J;rw [lR.iff h hp D hb] at J;rw [lR.iff h hp D H] at R;rcases J with ⟨a1,a2⟩|⟨a1,T,a2,a3,a4⟩ <;> rcases R with ⟨c1,c2⟩|⟨c1,S,c2,c3,c4⟩
    ·omega
    ·omega
    ·omega
    ·have:T=S:=by omega
     subst this;omega
  unfold dw;rw [fq.2 this]
 ·-- targets live
  by_cases hn:s<0
  ·unfold bM at I; rw [if_pos hn] at I; omega
  ·obtain ⟨i,rfl⟩:=IE (show 0≤s by omega);have F:i<order.length:=by have:=hs.2; rw [f] at this; omega
   have hx:=gI hM F;rcases nm h hal hp hR hRc hB hM F hb with ⟨o,u⟩|⟨o,k,u,m,h4⟩
   ·rw [u] at I; omega
   ·have W:=cP h (s:=order.getD i 0) ⟨by omega,hx.2⟩ hb;obtain ⟨w,v⟩:=hal (order.getD i 0) b ⟨by omega,hx.2⟩ hb o;have g:=gI hM m;refine ⟨w,?_⟩;rw [u,pq h hal hp hR hRc hB hM w k m,(mC hp g.1 g.2 o W.2).1 h4 w];exact v
 ·-- all states are reached
  rw [f,hlen] at hs;obtain ⟨w,v⟩:=hM.walk _ (cM (d:=0) hs);have hx:=gI hM hs;rcases ui h hal hp hR hRc hB hM w with ⟨o,_⟩|⟨o,k,g,u,m⟩
  ·omega
  ·rw [v] at m;have:=wT hM.nodup g hs m;subst this;exact ⟨w,u⟩
 ·rw [f,hlen] at hs q;have L:=gI hM hs;have K:=gI hM q;refine wT hM.nodup hs q ((mC hp L.1 L.2 K.1 K.2).2 fun w=>?_);rw [←pq h hal hp hR hRc hB hM w s hs,←pq h hal hp hR hRc hB hM w t q];exact X w
 ·have:=hM.can; rwa [List.append_nil] at this
 ·have:=hM.cnt; rw [List.append_nil] at this; rw [f,this,hlen]
 ·exact hM.start j (by rw [f] at y; omega)
end
def yG (r:Nat) (s:Str):Nat:=s.foldl (fun r c=>r*256+c.toNat+1) r
def iY (s:Str):Nat:=yG 0 s
theorem lr (s:Str) (c:UInt8):iY (s++[c])=iY s*256+c.toNat+1:=by simp [iY,yG]
theorem Fm {x u v:Nat} (h1:x<u+256+1) (h2:u+256≤v):x<v+0+1:=by omega
theorem Fl {x r q:Nat} (h1:x<r*256+256+1) (h2:r<q):x<q*256+0+1:=
 Fm h1 (by rw [←Nat.succ_mul]; exact IB 256 (Nat.succ_le_of_lt h2))
theorem Fk {x r q c:Nat} (h1:x≤r*256+c+1) (h2:r≤q):x≤q*256+c+1:=
 Nat.le_trans h1 (Nat.add_le_add_right (Nat.add_le_add_right (IB 256 h2) c) 1)
section
variable (a b:T_DFA)
def yo (w:Str):Prop:=eg a (walkN a 0 w)≠eg b (walkN b 0 w)
def tt (r:Str×Bool):Prop:=(r.2=true∧yo a b r.1∧∀w,yo a b w→iY r.1≤iY w)∨(r=([],false)∧∀w,¬ yo a b w)
abbrev EntD:=Int×Int×Str
def xH (e:EntD):Int×Int:=(e.1,e.2.1)
def fJ (Q:List EntD) (i:Nat):EntD:=Q.getD i (0,0,[])
def nx (e:EntD) (c:Nat):Int×Int:=(bM a e.1 c,bM b e.2.1 c)
structure BJ (DK:Int×Int→Prop) (Q:List EntD) (i c:Nat):Prop where
  head:Q[0]?=some (0,0,[])
  walk:∀e∈Q,e.1=walkN a 0 e.2.2∧e.2.1=walkN b 0 e.2.2
  sorted:Q.Pairwise (fun e f=>iY e.2.2<iY f.2.2)
  nodup:(Q.map xH).Nodup
  done:∀j k,(j<i∨(j=i∧k<c))→k<256→j<Q.length→DK (nx a b (fJ Q j) k)∨∃e∈Q,xH e=nx a b (fJ Q j) k∧iY e.2.2≤iY (fJ Q j).2.2*256+k+1
  same:∀j,j<i→j<Q.length→eg a (fJ Q j).1=eg b (fJ Q j).2.1
  bound:i<Q.length→∀e∈Q,iY e.2.2<iY (fJ Q i).2.2*256+c+1
  len:∀j,j<Q.length→(fJ Q j).2.2.length≤j
end
section
variable {a b:T_DFA} {DK:Int×Int→Prop} {Q:List EntD} {i c:Nat}
theorem xd (h:i<Q.length):fJ Q i∈Q:=cM h
theorem pE {e:EntD} (h:i<Q.length):fJ (Q++[e]) i=fJ Q i:=by unfold fJ; rw [Ic,Ic,Iu h]
theorem BJ.start:BJ a b DK [(0,0,[])] 0 0 where
 head:=rfl
 walk e he:=by simp at he; subst he; exact ⟨rfl,rfl⟩
 sorted:=by simp
 nodup:=by simp
 done j k h hk hj:=by omega
 same j h:=by omega
 bound _ e he:=by simp at he; subst he; simp [fJ,iY,yG]
 len j hj:=by simp at hj; subst hj; simp [fJ]
theorem BJ.skip (h:BJ a b DK Q i c) (hd:DK (nx a b (fJ Q i) c)∨nx a b (fJ Q i) c∈Q.map xH):BJ a b DK Q i (c+1) where
 head:=h.head
 walk:=h.walk
 sorted:=h.sorted
 nodup:=h.nodup
 done j k hjk hk hj:=by
  by_cases e:j=i∧k=c
  ·obtain ⟨rfl,rfl⟩:=e;rcases hd with hd|hd
   ·exact .inl hd
   ·obtain ⟨e,d,hp⟩:=IK.1 hd;have:=h.bound hj e d;exact .inr ⟨e,d,hp,by omega⟩
  ·exact h.done j k (by omega) hk hj
 same:=h.same
 bound hi e d:=by have:=h.bound hi e d; omega
 len:=h.len
theorem BJ.push (h:BJ a b DK Q i c) (l:i<Q.length) (r:c<256) (hn:nx a b (fJ Q i) c∉Q.map xH) :
 BJ a b DK (Q++[((nx a b (fJ Q i) c).1,(nx a b (fJ Q i) c).2,(fJ Q i).2.2++[UInt8.ofNat c])]) i (c+1) where
 head:=by rw [Iu (by omega)]; exact h.head
 walk e d:=by
  rcases Iq.1 d with d|d
  ·exact h.walk e d
  ·rw [Ip.1 d];have m:=h.walk _ (xd l);have g:(UInt8.ofNat c).toNat=c:=by simp; omega
   simp only [walkN,List.foldl_append,List.foldl_cons,List.foldl_nil,g,nx];unfold walkN at m;rw [←m.1,←m.2]; exact ⟨rfl,rfl⟩
 sorted:=by
  refine List.pairwise_append.2 ⟨h.sorted,by simp,fun e d f hf=>?_⟩;rw [Ip.1 hf,lr];have g:(UInt8.ofNat c).toNat=c:=by simp; omega
  rw [g];exact h.bound l e d
 nodup:=by
  rw [Iz,List.nodup_append];refine ⟨h.nodup,by simp,fun p hp q hq e=>?_⟩;simp [xH] at hq;subst e hq;exact hn hp
 done j k hjk hk hj:=by
  rw [Ik,Ih] at hj;have n:j<Q.length:=by omega
  rw [pE n]
  by_cases e:j=i∧k=c
  ·obtain ⟨rfl,rfl⟩:=e;refine .inr ⟨_,List.mem_append_right _ (Ip.2 rfl),rfl,?_⟩;rw [lr];have g:(UInt8.ofNat k).toNat=k:=by simp; omega
   rw [g]; exact Nat.le_refl _
  ·rcases h.done j k (by omega) hk n with h|⟨e,d,o⟩
   ·exact .inl h
   ·exact .inr ⟨e,List.mem_append_left _ d,o⟩
 same j hj hjl:=by
  rw [pE (by omega)];exact h.same j hj (by omega)
 bound hil e d:=by
  rw [pE l];rcases Iq.1 d with d|d
  ·have:=h.bound l e d; omega
  ·rw [Ip.1 d,lr];have g:(UInt8.ofNat c).toNat=c:=by simp; omega
   rw [g]; omega
 len j hj:=by
  rw [Ik,Ih] at hj
  by_cases e:j<Q.length
  ·rw [pE e]; exact h.len j e
  ·have:j=Q.length:=by omega
   subst this;have:=h.len i l;simp [fJ,Ic] at this ⊢;omega
theorem BJ.turn (h:BJ a b DK Q i 256) (hs:i<Q.length→eg a (fJ Q i).1=eg b (fJ Q i).2.1):BJ a b DK Q (i+1) 0 where
 head:=h.head
 walk:=h.walk
 sorted:=h.sorted
 nodup:=h.nodup
 done j k hjk hk hj:=h.done j k (by omega) hk hj
 same j hj hjl:=by
  by_cases e:j=i
  ·subst e; exact hs hjl
  ·exact h.same j (by omega) hjl
 bound hil e he:=by
  have c:=h.bound (by omega) e he;have d:=List.pairwise_iff_getElem.1 h.sorted i (i+1) (by omega) hil (by omega);have g:fJ Q i=Q[i]:=by simp [fJ,Ic,show i<Q.length by omega]
  have f:fJ Q (i+1)=Q[i+1]:=by simp [fJ,Ic,hil]
  rw [g] at c;rw [f];exact Fl c d
 len:=h.len
theorem BJ.claim (h:BJ a b DK Q i 0) (r:∀p k,DK p→k<256→DK (bM a p.1 k,bM b p.2 k)) (w:Str) :
 DK (walkN a 0 w,walkN b 0 w)∨(∃j,j<Q.length∧xH (fJ Q j)=(walkN a 0 w,walkN b 0 w)∧iY (fJ Q j).2.2≤iY w)∨(i<Q.length∧iY (fJ Q i).2.2≤iY w):=by
 obtain ⟨v,rfl⟩:∃v:Str,w=v.reverse:=⟨w.reverse,by simp⟩;induction v with
 | nil=>
  have n:=h.head;have hl:0<Q.length:=(If.1 n).1;refine .inr (.inl ⟨0,hl,?_,?_⟩) <;> simp [fJ,Ic,n,xH,walkN]
 | cons x v ih=>
  rw [List.reverse_cons];generalize v.reverse=w at ih;have hx:=x.toNat_lt;have f:walkN a 0 (w++[x])=bM a (walkN a 0 w) x.toNat:=by simp [walkN]
  have d:walkN b 0 (w++[x])=bM b (walkN b 0 w) x.toNat:=by simp [walkN]
  rw [f,d,lr];rcases ih with ih|⟨j,hj,hp,hr⟩|⟨hi,hr⟩
  ·exact .inl (r _ _ ih hx)
  ·by_cases hji:j<i
   ·have g:nx a b (fJ Q j) x.toNat=(bM a (walkN a 0 w) x.toNat,bM b (walkN b 0 w) x.toNat):=by
     have q:(fJ Q j).1=walkN a 0 w:=congrArg (·.1) hp;have o:(fJ Q j).2.1=walkN b 0 w:=congrArg (·.2) hp;simp only [nx,q,o]
    rcases h.done j x.toNat (.inl hji) hx hj with c|⟨e,he,c,m⟩
    ·rw [g] at c; exact .inl c
    ·rw [g] at c;obtain ⟨k,l,rfl⟩:=IA.1 he;have ek:fJ Q k=Q[k]:=by simp [fJ,Ic,l]
     exact .inr (.inl ⟨k,l,by rw [ek]; exact c,by rw [ek]; exact Fk m hr⟩)
   ·have:iY (fJ Q i).2.2≤iY (fJ Q j).2.2:=by
     by_cases e:j=i
     ·subst e; exact Nat.le_refl _
     ·have m:=List.pairwise_iff_getElem.1 h.sorted i j (by omega) hj (by omega);have f:fJ Q i=Q[i]'(by omega):=by simp [fJ,Ic,show i<Q.length by omega]
      have d:fJ Q j=Q[j]:=by simp [fJ,Ic,hj]
      rw [f,d]; omega
    exact .inr (.inr ⟨by omega,by omega⟩)
  ·exact .inr (.inr ⟨hi,by omega⟩)
theorem BJ.found (h:BJ a b DK Q i 0) (n:∀p k,DK p→k<256→DK (bM a p.1 k,bM b p.2 k)) (m:∀p,DK p→eg a p.1=eg b p.2) (l:i<Q.length) (g:eg a (fJ Q i).1≠eg b (fJ Q i).2.1) :
 tt a b ((fJ Q i).2.2,true):=by
 have c:=h.walk _ (xd l);refine .inl ⟨rfl,?_,fun w c=>?_⟩
 ·unfold yo; simp only []; rw [←c.1,←c.2]; exact g
 ·rcases h.claim n w with o|⟨j,hj,hp,hr⟩|⟨_,hr⟩
  ·exact (c (m _ o)).elim
  ·by_cases hji:j<i
   ·have hs:=h.same j hji hj;have f:(fJ Q j).1=walkN a 0 w:=congrArg (·.1) hp;have d:(fJ Q j).2.1=walkN b 0 w:=congrArg (·.2) hp;rw [f,d] at hs;exact (c hs).elim
   ·have:iY (fJ Q i).2.2≤iY (fJ Q j).2.2:=by
     by_cases e:j=i
     ·subst e; exact Nat.le_refl _
     ·have s:=List.pairwise_iff_getElem.1 h.sorted i j (by omega) hj (by omega);have r:fJ Q i=Q[i]'(by omega):=by simp [fJ,Ic,show i<Q.length by omega]
      have q:fJ Q j=Q[j]:=by simp [fJ,Ic,hj]
      rw [r,q]; omega
    simp only []; omega
  ·exact hr
theorem BJ.none (h:BJ a b DK Q i 0) (g:∀p k,DK p→k<256→DK (bM a p.1 k,bM b p.2 k)) (f:∀p,DK p→eg a p.1=eg b p.2) (m:Q.length≤i):tt a b ([],false):=by
 refine .inr ⟨rfl,fun w c=>?_⟩;rcases h.claim g w with l|⟨j,hj,hp,hr⟩|⟨n,_⟩
 ·exact c (f _ l)
 ·have hs:=h.same j (by omega) hj;have e:(fJ Q j).1=walkN a 0 w:=congrArg (·.1) hp;have d:(fJ Q j).2.1=walkN b 0 w:=congrArg (·.2) hp;rw [e,d] at hs;exact c hs
 ·omega
theorem BJ.few (h:BJ a b DK Q i c) (ha:Ok a) (hb:Ok b):Q.length≤(a.Next.length+1)*(b.Next.length+1):=by
 have l:∀e∈Q,pc a e.1∧pc b e.2.1:=fun e d=>by
  have:=h.walk e d;rw [this.1,this.2];exact ⟨eL ha (fp ha) _,eL hb (fp hb) _⟩
 let f:EntD→Nat:=fun e=>(e.1+1).toNat*(b.Next.length+1)+(e.2.1+1).toNat
 have:=gE ((a.Next.length+1)*(b.Next.length+1)) (Q.map f) (by
  refine List.pairwise_map.2 ((List.pairwise_map.1 h.nodup).imp_of_mem fun {e g} d p o j=>o ?_);obtain ⟨⟨t,s⟩,r,q⟩:=l e d;obtain ⟨⟨z,y⟩,w,v⟩:=l g p;have m:(e.2.1+1).toNat<b.Next.length+1:=by omega
  have k:(g.2.1+1).toNat<b.Next.length+1:=by omega
  have n:(e.2.1+1).toNat=(g.2.1+1).toNat:=by
   have:=congrArg (· % (b.Next.length+1)) j;simpa [f,IY m,IY k,Nat.add_mod] using this
  have u:(e.1+1).toNat=(g.1+1).toNat:=by
   have j:(e.1+1).toNat*(b.Next.length+1)+(e.2.1+1).toNat=(g.1+1).toNat*(b.Next.length+1)+(g.2.1+1).toNat:=j;rw [n] at j;exact Nat.eq_of_mul_eq_mul_right (by omega:0<b.Next.length+1) (by omega)
  show (e.1,e.2.1)=(g.1,g.2.1);rw [Prod.mk.injEq];exact ⟨by omega,by omega⟩) (fun x hx=>by
  obtain ⟨e,d,rfl⟩:=IK.1 hx;obtain ⟨⟨t,s⟩,r,q⟩:=l e d;have m:(e.2.1+1).toNat<b.Next.length+1:=by omega
  have k:(e.1+1).toNat+1≤a.Next.length+1:=by omega
  have:=IB (b.Next.length+1) k;rw [Nat.succ_mul] at this;show (e.1+1).toNat*(b.Next.length+1)+(e.2.1+1).toNat<_;omega)
 simpa using this
end
def rf (e:cH):EntD:=(e.atv.a,e.atv.b,e.text)
def tq (m:List (bJ×Unit)) (L:List cH):Prop:=∀p:bJ,(bY m p).isSome=true↔(p.a,p.b)∈(L.map rf).map xH
theorem pD {L:List cH} {k:Nat} (h:k<L.length):fJ (L.map rf) k=rf L[k]:=by simp [fJ,Ic,h]
section
variable {a b:T_DFA} (ha:Ok a) (hb:Ok b)
include ha hb
theorem CM {DK:Int×Int→Prop} {Q:List EntD} {i c:Nat} (h:BJ a b DK Q i c) {e:EntD} (he:e∈Q):pc a e.1∧pc b e.2.1:=by
 have:=h.walk e he;rw [this.1,this.2];exact ⟨eL ha (fp ha) _,eL hb (fp hb) _⟩
theorem Dc:(a.Next.length+1)*(b.Next.length+1)≤251001:=by
 have:=Nat.mul_le_mul (Nat.succ_le_succ ha.max) (Nat.succ_le_succ hb.max);exact this
theorem zr {DK:Int×Int→Prop} {Q:List EntD} {i c:Nat} (h:BJ a b DK Q i c):Q.length≤251001:=Nat.le_trans (h.few ha hb) (Dc ha hb)
theorem rK:Is (M.g0 a b) (tt a b):=by
 unfold M.g0;have z:∀(p:Int×Int) (k:Nat),False→k<256→False:=fun _ _ h _=>h
 refine Is.bs (P:=fun _=>tt a b ([],false)) (Is.while (fun d=>∃k:Nat,d.2.2=(k:Int)∧k≤d.1.length∧BJ a b (fun _=>False) (d.1.map rf) k 0∧tq d.2.1 d.1) (fun d=>251002 - d.2.2.toNat) ?_ (by simp only []; omega) ?_) ?_
 ·refine ⟨0,rfl,by simp,BJ.start,fun p=>?_⟩;simp only [dL,bY,List.find?_cons,List.find?_nil];obtain ⟨r,q⟩:=p
  by_cases h:bJ.mk 0 0=⟨r,q⟩
  ·rw [h];cases h; simp [rf,xH]
  ·rw [show ((bJ.mk 0 0) == ⟨r,q⟩)=false by simpa using h];simp [rf,xH];rintro rfl rfl; exact h rfl
 ·rintro ⟨L,m,_⟩ ⟨k,rfl,F,hB,hm⟩;simp only [] at hB hm F ⊢;refine Is.dcd (fun I=>?_) fun J=>Is.stop (hB.none z (fun _ h=>h.elim) (by simp; omega))
  have j:k<L.length:=by omega
  have D:k<(L.map rf).length:=by simpa using j
  have l:=CM ha hb hB (e:=rf L[k]) (List.mem_map_of_mem (Ii j));refine Is.bs (P:=fun d=>BJ a b (fun _=>False) (d.1.map rf) (k+1) 0∧tq d.2 d.1∧k<d.1.length) ?_ ?_
  ·refine Is.bnq (aZ j) (Is.bnq (ln ha l.1) (Is.bnq (ln hb l.2) (Is.cnd (fun B=>Is.stop ?_) fun u=>?_)))
   ·have:=hB.found z (fun _ h=>h.elim) D (by rw [pD j]; exact kJ B);rw [pD j] at this;exact this
   ·have u:=dX u;refine Is.upto (fun c d=>d.2.2=(c:Int)∧BJ a b (fun _=>False) (d.1.map rf) k c∧tq d.2.1 d.1∧d.1[k]?=some L[k]) 256 (by omega) ⟨rfl,hB,hm,Ie j⟩ ?_ ?_
    ·rintro c ⟨L',m',_⟩ n ⟨rfl,f,hm',i⟩;simp only [] at f hm' i ⊢;obtain ⟨g,w⟩:=If.1 i;have v:fJ (L'.map rf) k=rf L[k]:=by rw [pD g,w]
     refine Is.dt (by omega) (Is.bnd (P:=fun d=>BJ a b (fun _=>False) (d.1.map rf) k (c+1)∧tq d.2 d.1∧d.1[k]?=some L[k]) ?_ ?_)
     ·rw [mQ n];refine Is.bnd (P:=fun p=>p=nx a b (rf L[k]) c) (Is.bnq (lm ha l.1 n) (Is.bnq (lm hb l.2 n) (Is.pure rfl))) ?_;rintro _ rfl;have hs:=hm' ⟨(nx a b (rf L[k]) c).1,(nx a b (rf L[k]) c).2⟩;refine Is.cnd (fun s=>?_) fun A=>Is.pure ⟨f.skip (.inr ?_),hm',i⟩
      ·have s:nx a b (fJ (L'.map rf) k) c∉(L'.map rf).map xH:=by
        rw [v]; intro h;have:=hs.2 h;simp [this] at s
       have hp:=f.push (by simpa using g) n s;have hlen:=f.len k (by simpa using g);have t:=zr ha hb f;simp only [Iy] at t;rw [v] at hp hlen;have G:zF L[k].text (cV [(c:Int)])=some (L[k].text++[UInt8.ofNat c]):=by
        unfold zF cV;have:L[k].text.length≤k:=hlen;rw [if_pos (by simp; omega)];simp
       refine Is.bnq G (Is.bnq (bO (by simp; omega)) (Is.pure ⟨by rw [Iz]; exact hp,fun p=>?_,by rw [Iu g]; exact i⟩));simp only [Iz,Iq]
       by_cases hpe:p=⟨(nx a b (rf L[k]) c).1,(nx a b (rf L[k]) c).2⟩
       ·rw [hpe,od]; simp [rf,xH]
       ·rw [pu hpe,hm' p];constructor
        ·exact .inl
        ·rintro (h|h)
         ·exact h
         ·simp [rf,xH] at h;exact (hpe (by obtain ⟨r,q⟩:=p; simp at h; rw [h.1,h.2]; rfl)).elim
      ·rw [v];exact hs.1 (by simpa using A)
     ·rintro ⟨K,H⟩ ⟨o,y,x⟩;exact Is.bnq (aK (by omega)) (Is.next ⟨rfl,o,y,x⟩)
    ·rintro ⟨L',m',_⟩ ⟨rfl,f,hm',i⟩;simp only [] at f hm' i ⊢;obtain ⟨g,w⟩:=If.1 i;refine Is.df (by omega) (Is.stop ⟨f.turn fun _=>?_,hm',g⟩);rw [pD g,w]; exact u
  ·rintro ⟨L',m'⟩ ⟨o,y,x⟩;have t:=zr ha hb o;simp only [Iy] at t x;exact Is.bnq (aK (by omega)) (Is.next ⟨⟨k+1,rfl,by simp only []; omega,o,y⟩,by simp only [ID]; omega⟩)
 ·intro _ h;exact Is.pure h
end
theorem Canon.full {m:T_DFA} (h:Canon m):Full m:=by
 intro c hc;rw [h.cols] at hc;obtain ⟨b,hb,e,_⟩:=uk hc;refine ⟨b,hb,?_⟩;have:dB m b=dw (dB m) b:=by
  have h1:dB m b=((List.range 256).map (dw (dB m))).getD b 0:=by
   show m.Class.getD b 0=_
   conv=>lhs; rw [h.cls]
  rw [h1]; simp [Ic,hb]
 rw [this,dw,e]
theorem tL {d:T_DFA} (h:Ok d) {l:List Bool} (hl:∀s,s<(dC d).Next.length→(l.getD s false=true↔Live (dC d) (s:Int))) :
 Ok (cm l (dC d))∧Full (cm l (dC d))∧AllLive (cm l (dC d))∧(∀w,ri (cm l (dC d)) 0 w=ri d 0 w):=by
 have a:=tK h;have hf:=pM h;refine ⟨DM a,AJ a hf,fun s b hs hb e=>?_,fun w=>?_⟩
 ·have c:pc (dC d) s:=by
   have:(cm l (dC d)).Next.length=(dC d).Next.length:=by simp [cm]
   unfold pc at hs ⊢;rw [this] at hs; exact hs
  exact AI a hl c hb e
 ·rw [yJ a hl (fp a),xp h (fp h)]
theorem Bb {f:Int→Int} {l:List Int} {v:Int} (h:v∈l.map f):f (l.getD ((l.map f).idxOf v) 0)=v:=by
 have hlt:=List.idxOf_lt_length_of_mem h;have e1:(l.map f)[(l.map f).idxOf v]'hlt=v:=by simp
 rw [IU] at e1;have hlt':(l.map f).idxOf v<l.length:=by simpa using hlt
 rw [Ic,Ie hlt'];exact e1
theorem uT {d:T_DFA} (h:Ok d) (hacc:∀a∈d.Accept,a≤9223372036854775807) :
 Is (M.f5 d) (fun m=>Canon m∧(∀w,ri m 0 w=ri d 0 w)∧m.Next.length≤d.Next.length∧∀a∈m.Accept,a≤9223372036854775807):=by
 unfold M.f5;refine Is.bnq (Aq h) (Is.bnd (xG (tK h) (pM h)) ?_);rintro _ ⟨H,rfl,Q⟩;obtain ⟨n,hf,hal,L⟩:=tL h Q;have V:∀a∈(cm H (dC d)).Accept,a≤9223372036854775807:=hacc;have N:(cm H (dC d)).Next.length=d.Next.length:=by simp [cm,dC]
 simp only [←L,←N];clear L Q N hacc;generalize cm H (dC d)=e at *;clear h d H;have b5:=n.max;refine Is.bnd (sS n hf hal V) fun p hp=>?_
 refine Is.bnd (P:=fun c=>∃l,RchM e p l∧(∀w,0≤walkN e 0 w→∃x∈l,gq p x=gq p (walkN e 0 w))∧c=(List.range 256).map (dw (keyC e p l))) ?_ ?_
 ·refine Is.bnd (vm n hf hp hal) fun l ⟨hR,hRc⟩=>?_
  have:=fj hp hR.inr hR.nodup;exact Is.bnq (vZ n hp hR.inr (by omega)) (Is.pure ⟨l,hR,hRc,rfl⟩)
 rintro _ ⟨l,hR,hRc,rfl⟩;refine Is.bnd (vc (keyC e p l)) fun bytes hB=>?_
 have a4:=n.pos;have b9:bytes.length≤256:=by rw [hB.len]; exact rc _ 256
 refine Is.bnq (oo hp (x:=0) (by omega) (by omega)) ?_;refine Is.bnd (P:=fun r=>∃order,MC e p bytes order r.1 r.2 order.length []) ?_ ?_
 ·refine Is.while (fun f=>∃k:Nat,f.2.2.2.2=(k:Int)∧MC e p bytes f.2.2.1 f.1 f.2.1 k []∧de (fun _=>True) id f.2.2.2.1 (f.2.2.1.map (gq p))) (fun f=>e.Next.length - f.2.2.2.2.toNat) ⟨0,rfl,MC.start0 a4,?_⟩ (by simp only []; omega) ?_
  ·exact ((de.nil (P:=fun _=>True) (enc:=id)).new (fun _ _ _ _ e=>e) (k:=gq p 0) trivial (by simp)).2
  rintro ⟨rows,accs,order,m,_⟩ ⟨k,rfl,hM,hm⟩;simp only [] at hM hm ⊢;have b7:=hM.ile;have a5:=fj hp hM.inr hM.nodup;refine Is.dcd (fun b6=>?_) fun b8=>Is.stop ⟨order,?_⟩
  rotate_left
  ·have:k=order.length:=by omega
   subst this; exact hM
  have hk:k<order.length:=by omega
  refine Is.bnd (P:=fun f=>k+1≤f.2.2.1.length∧MC e p bytes f.2.2.1 f.1 f.2.1 (k+1) []∧de (fun _=>True) id f.2.2.2 (f.2.2.1.map (gq p))) ?_ ?_
  ·refine Is.bnq (eH (by omega)) (Is.bnd (P:=fun f=>k<f.1.length∧MC e p bytes f.1 rows accs k f.2.2∧f.2.2.length=bytes.length∧de (fun _=>True) id f.2.1 (f.1.map (gq p))) ?_ ?_)
   ·refine Is.upto (fun c f=>f.2.2.2=(c:Int)∧k<f.1.length∧de (fun _=>True) id f.2.1 (f.1.map (gq p))∧∃done:List Int,done.length=c∧f.2.2.1=done++List.replicate (bytes.length - c) 0∧MC e p bytes f.1 rows accs k done) bytes.length (by omega) ⟨rfl,hk,hm,[],rfl,by simp,hM⟩ ?_ ?_
    ·rintro c ⟨j,I,_,_⟩ T ⟨rfl,i,o,done,q,rfl,g⟩;simp only [] at i o g ⊢;have J:=fj hp g.inr g.nodup;obtain ⟨b,hb,W,_⟩:=hB.rep c T;have hx:=g.inr _ (cM (d:=0) i);have a3:List.replicate (bytes.length - c) (0:Int)=0::List.replicate (bytes.length - (c+1)) 0:=by
      rw [show bytes.length - c=(bytes.length - (c+1))+1 by omega,List.replicate_succ]
     have K:∀v u:Int,dE (done++v::List.replicate (bytes.length - (c+1)) 0) (c:Int) u=some ((done++[u])++List.replicate (bytes.length - (c+1)) 0):=by
      intro v u;rw [dk (by simp; omega),List.set_append,if_neg (by omega),q,Nat.sub_self,List.set_cons_zero,Ir]; rfl
     have U:((bytes.getD done.length 0).toNat)=b:=by rw [q,W]; rfl
     have R:=cP n (s:=j.getD k 0) ⟨by omega,hx.2⟩ hb;have S:∀v,lR e p j (j.getD k 0) v b→MC e p bytes j rows accs k (done++[v]):=fun v hv=>g.old i (by rw [U]; exact hv)
     refine Is.dt (by omega) (Is.bnd (P:=fun f=>k<f.1.length∧de (fun _=>True) id f.2.1 (f.1.map (gq p))∧∃G:List Int,G.length=c+1∧f.2.2=G++List.replicate (bytes.length - (c+1)) 0∧MC e p bytes f.1 rows accs k G) ?_ ?_)
     ·refine Is.bnq (wU T) (Is.bnq (wU i) (Is.bnq (x:=bM e (j.getD k 0) b) (by rw [W]; exact lm n ⟨by omega,hx.2⟩ hb) ?_));rw [a3];refine Is.bnq (K 0 (-1)) (Is.dcd (fun B=>Is.pure ⟨i,o,done++[-1],by simp [q],rfl,S _ (.inl ⟨B,rfl⟩)⟩) fun B=>?_);have B:0≤bM e (j.getD k 0) b:=by omega
      refine Is.bnq (oo hp B R.2) (Is.bnd (P:=fun r=>k<r.1.length∧de (fun _=>True) id r.2.1 (r.1.map (gq p))∧MC e p bytes r.1 rows accs k (done++[r.2.2])) ?_ ?_)
      ·by_cases hmem:gq p (bM e (j.getD k 0) b)∈j.map (gq p)
       ·obtain ⟨t,A⟩:=o.old trivial hmem;simp only [id] at t A;rw [t,A];refine Is.cf rfl (Is.pure ⟨i,o,S _ (.inr ⟨B,_,rfl,?_,?_⟩)⟩)
        ·have:=List.idxOf_lt_length_of_mem hmem;simpa using this
        ·exact Bb hmem
       ·obtain ⟨t,A⟩:=o.new (fun _ _ _ _ e=>e) trivial hmem;simp only [id] at t A;rw [t];rw [Iy] at A;refine Is.ct rfl (Is.bnq (bO (by simp; omega)) (Is.pure ⟨by simp; omega,by rw [Iz]; exact A,?_⟩));obtain ⟨w,hw⟩:=g.walk _ (cM (d:=0) i);refine g.new i (by rw [U]) B R.2 ⟨w++[UInt8.ofNat b],?_⟩ hmem;have e1:(UInt8.ofNat b).toNat=b:=by simp; omega
        rw [iH,hw,e1]
      ·rintro ⟨X,Y,v⟩ ⟨F,y,D⟩;simp only [] at F y D ⊢;refine Is.bnq (x:=(done++[v])++List.replicate (bytes.length - (c+1)) 0) ?_ (Is.pure ⟨F,y,done++[v],by simp [q],rfl,D⟩);have:=K (-1) v
       rwa [show done++-1::List.replicate (bytes.length - (c+1)) 0=(done++[-1])++List.replicate (bytes.length - (c+1)) 0 by simp] at this
     ·rintro ⟨X,Y,l3⟩ ⟨F,y,G,D,g4,g5⟩;exact Is.bnq (aK (by omega)) (Is.next ⟨rfl,F,y,G,D,g4,g5⟩)
    ·rintro ⟨j,I,_,_⟩ ⟨rfl,i,o,done,q,rfl,g⟩;simp only [] at i o g ⊢;refine Is.df (by omega) (Is.stop ?_);simp only [Nat.sub_self,List.replicate_zero,List.append_nil];exact ⟨i,g,q,o⟩
   ·rintro ⟨j,I,done⟩ ⟨i,g,q,o⟩;simp only [] at i g q o ⊢;have J:=fj hp g.inr g.nodup;have hx:=g.inr _ (cM (d:=0) i);have b4:=g.rlen;have a8:=congrArg List.length g.accs;simp at a8;have a7:=n.acc;refine Is.bnq (bO (by simp; omega)) (Is.bnq (wU i) (Is.bnq (dZ (d:=0) hx.1 (by rw [a7]; exact hx.2)) (Is.bnq (bO (by simp; omega)) (Is.pure ⟨i,g.turn i q,o⟩))))
  ·rintro ⟨r2,a2,j,I⟩ ⟨F,y,D⟩;have J:=fj hp y.inr y.nodup;simp only [] at F J;exact Is.bnq (aK (by omega)) (Is.next ⟨⟨k+1,rfl,y,D⟩,by simp only [ID]; omega⟩)
 ·rintro ⟨rows,accs⟩ ⟨order,hM⟩;simp only [] at hM ⊢;have a5:=fj hp hM.inr hM.nodup;refine Is.pure ⟨xL n hal hp hR hRc hB hM,fun w=>?_,?_,fun a ha=>?_⟩
  ·have:=pq n hal hp hR hRc hB hM w 0 hM.z.2;rw [hM.z.1] at this;exact this
  ·have:=hM.rlen;show rows.length≤_;omega
  ·have ha:a∈accs:=ha;have t:=hM.accs;rw [Ij] at t;rw [t] at ha;obtain ⟨x,hx,rfl⟩:=IK.1 ha;have:=hM.inr x hx;exact V _ (cM (by rw [n.acc]; omega))
section
variable {K:Nat}
end
section
variable {m m':T_DFA} (hm:Canon m) (hm':Canon m')
end
theorem yi {m:T_DFA} (h:Canon m):GR m:=by
 have h1:=h.ok.cls;have h2:=h.ok.max;have h3:=h.ok.acc;have h4:=jo h.full;exact ⟨by omega,by omega,fun r hr=>by rw [(h.ok.row r hr).1]; omega,by omega⟩
theorem Au {α:Type} {l:List α} {i j:Nat} (h1:i≤j) (h2:j≤l.length):pR l (i:Int) (j:Int)=some ((l.take j).drop i):=by unfold pR; rw [if_pos ⟨by omega,by omega,by omega⟩]; simp
theorem zl {K:Int} (hK:0≤K) {a:List Int} {n:Nat} (h:∀x∈a,x≤K):∀x∈tA a n,x≤K:=by
 intro x hx;rcases Iq.1 hx with hx|hx
 ·exact h x hx
 ·rw [(List.mem_replicate.1 hx).2]; omega
theorem sg {K i:Int} (hi:i≤K):∀(la:List Nat) {a:List Int},(∀x∈a,x≤K)→∀x∈lH la i a,x≤K
 | [],_,h=>h
 | p::la,a,h=>sg hi la (a:=a.set p i) fun x hx=>by
  rcases List.mem_or_eq_of_mem_set hx with hx|rfl
  ·exact h x hx
  ·exact hi
theorem xX {K i:Int} (hi:i≤K) {n:Bool} {a:List Int} (h:∀x∈a,x≤K):∀x∈lN n i a,x≤K:=by
 unfold lN;cases n && decide (a.getD 0 0<0)
 ·exact h
 ·intro x hx;rcases List.mem_or_eq_of_mem_set hx with hx|rfl
  ·exact h x hx
  ·exact hi
theorem uO {K:Nat}:∀(l:List T_Regex) (i:Nat) (s:Bs×List Int),i+l.length≤K→(∀x∈s.2,x≤(K:Int))→∀x∈(dH i l s).2,x≤(K:Int)
 | [],_,_,_,h=>h
 | y::l,i,s,hi,h=>by
  simp only [IG] at hi;exact uO l (i+1) (rR i y s) (by omega) (xX (by omega) (sg (by omega) _ (zl (by omega) h)))
theorem BB {K:Int} (c:0≤K) {acc:List Int} (h:∀x∈acc,x≤K) (l:List Int):oz acc l≤K:=by
 have b:∀k:Nat,acc.getD k 0≤K:=fun k=>by
  by_cases hk:k<acc.length
  ·exact h _ (cM hk)
  ·rw [Ic,II (by omega)]; exact c
 have:∀(l:List Int) (o:Int),o≤K→l.foldl (gg acc) o≤K:=by
  intro l;induction l with
  | nil=>exact fun o a=>a
  | cons s l ih=>
   intro o a;refine ih _ ?_;unfold gg;cases (decide (0≤acc.getD s.toNat 0) && (decide (o<0) || decide (acc.getD s.toNat 0<o)))
   ·exact a
   ·exact b _
 exact this l (-1) (by omega)
structure GP (l:List T_Regex) (d:T_DFA):Prop where
  val:∀y∈l,V 30 y=true
  prt:bF l≤500
  fin:tv (dc l)
  can:Canon d
  run:∀w:Str,zW l (cU w) (eg d (walkN d 0 w))
theorem qO {l:List T_Regex} (ok:∀x∈l,bP x) (hp:bF l≤1048576):Is (M.b2 l) (fun r=>(r.2=0→GP l r.1)∧((∀y∈l,V 30 y=true)→bF l≤500→tv (dc l)→r.2=0)):=by
 unfold M.b2;refine Is.bnd (Bd ok hp) fun r c=>?_
 obtain ⟨n,e⟩:=r;rcases c with ⟨⟨y,hy,g⟩,b,f⟩|⟨_,s,b,f⟩|⟨i,d,b,f⟩
 ·obtain rfl:e=1:=b;exact Is.ct rfl (Is.pure ⟨fun e=>absurd (show (1:Int)=0 from e) (by decide),fun h=>by rw [h y hy] at g; cases g⟩)
 ·obtain rfl:e=11:=b;exact Is.ct rfl (Is.pure ⟨fun e=>absurd (show (11:Int)=0 from e) (by decide),fun _ h=>by omega⟩)
 ·obtain rfl:e=0:=b;obtain rfl:n=dc l:=f;have hn:=rX ok d;have hal:=(kM d).2;refine Is.cf rfl (Is.bnd (CQ (n:=dc l) hn (by omega)) fun r c=>?_);rcases c with ⟨rfl,j⟩|⟨o,hf,hd⟩
  ·exact Is.ct rfl (Is.pure ⟨fun e=>absurd e (by decide),fun _ _ hf=>(AW j hf).elim⟩)
  ·refine Is.cf (by rw [o]; rfl) ?_;have q:=fy l;have k:∀a∈r.1.Accept,a≤9223372036854775807:=by
    intro a ha;obtain ⟨S,rfl⟩:=hd.2.2.2 a ha;refine BB (by decide) (fun x hx=>?_) S;have:=uO (K:=l.length) l 0 dj (by omega) (by intro x hx; rw [show dj.2=[-1] from rfl] at hx; rw [Ip.1 hx]; omega) x hx;omega
   refine Is.bnd (uT hd.1 k) fun m hm=>Is.pure ⟨fun _=>⟨i,d,hf,hm.1,fun w=>?_⟩,fun _ _ _=>rfl⟩
   have p:eg m (walkN m 0 w)=Cr (dc l) w:=(hm.2.1 w).trans (hd.2.1 w);rw [p];exact xx hn w
theorem wm {c:UInt8} {w:List Nat}:L ⟨3,rv (eE c.toNat c.toNat),[]⟩ w↔w=[c.toNat]:=by
 have a:eE c.toNat c.toNat=[c.toNat]:=by
  unfold eE;rw [show c.toNat+1 - c.toNat=1 by omega];simp
 have hm:∀b,mem (rv (eE c.toNat c.toNat)) b=decide (b=c.toNat):=fun b=>by
  rw [wQ (by rw [a]; intro b hb; rw [Ip.1 hb]; exact c.toNat_lt),a];simp
 rw [Fh];constructor
 ·rintro ⟨b,rfl,hb⟩;rw [hm] at hb;rw [of_decide_eq_true hb]
 ·rintro rfl;exact ⟨_,rfl,by rw [hm]; simp⟩
def oY (s:Str):List T_Regex:=s.map fun c=>⟨3,rv (eE c.toNat c.toNat),[]⟩
theorem qB:∀s:Str,bF (oY s)=s.length
 | []=>rfl
 | c::s=>by
  have:=qB s;show parts _+bF (oY s)=_;rw [this];simp [parts,bF]; omega
theorem wl:∀(s:Str) (w:List Nat),LC (oY s) w↔w=cU s
 | [],w=>Iff.rfl
 | c::s,w=>by
  show (∃u v,w=u++v∧L _ u∧LC (oY s) v)↔w=c.toNat::cU s;constructor
  ·rintro ⟨u,v,rfl,h1,h2⟩;rw [(wl s v).1 h2,wm.1 h1]; rfl
  ·rintro rfl;exact ⟨[c.toNat],cU s,rfl,wm.2 rfl,(wl s _).2 rfl⟩
theorem vJ {s:Str} (hs:s.length≤1000):Is (M.f0 s) (fun x=>bP x∧parts x≤s.length+1∧∀w,L x w↔w=cU s):=by
 unfold M.f0;refine Is.bnq (x:=oY s) (Is.eq ?_) ?_
 ·refine Is.upto (fun i (b:List T_Regex×Int)=>b.2=(i:Int)∧b.1=oY (s.take i)) s.length (by omega) ⟨rfl,rfl⟩ ?_ ?_
  ·rintro i ⟨l,_⟩ d ⟨rfl,e⟩;obtain rfl:l=_:=e;refine Is.dt (by omega) (Is.bnq (dM d) (Is.bnq (nK (s[i]).toNat_lt (s[i]).toNat_lt) (Is.bnq (bO (by simp only [oY,Iy,IF,Ih]; omega)) (Is.bnq (aK (by omega)) (Is.next ⟨rfl,?_⟩)))));show oY (s.take i)++_=oY (s.take (i+1));rw [It d]; unfold oY; rw [Iz]; rfl
  ·rintro ⟨l,_⟩ ⟨rfl,e⟩;obtain rfl:l=_:=e;rw [Ij];exact Is.df (by omega) (Is.stop rfl)
 ·have hlen:(oY s).length=s.length:=by simp [oY]
  refine Is.cnd (fun a=>?_) (fun a=>Is.pure ⟨fF (by omega) (by omega) ?_,?_,fun w=>GM.trans (wl s w)⟩)
  ·have a:=dG a;obtain ⟨c,rfl⟩:=List.length_eq_one_iff.1 (show s.length=1 by omega);exact Is.bnq (x:=⟨3,rv (eE c.toNat c.toNat),[]⟩) rfl (Is.pure ⟨nq (lb _),by simp [parts,bF],fun w=>wm⟩)
  ·intro y hy;obtain ⟨c,_,rfl⟩:=IK.1 hy;exact nq (lb _)
  ·have:=qB s;simp only [parts]; omega
theorem sr:∀ {s t:Str},cU s=cU t→s=t
 | [],[],_=>rfl
 | [],_::_,h=>by cases h
 | _::_,[],h=>by cases h
 | a::s,b::t,h=>by
  have h:a.toNat::cU s=b.toNat::cU t:=h;rw [UInt8.toNat_inj.1 (List.cons.inj h).1,sr (List.cons.inj h).2]
theorem wO {x:T_Regex} {d:T_DFA} (h:GP [x] d) (w:Str):eg d (walkN d 0 w)=0↔L x (cU w):=by
 rcases h.run w with ⟨e,h1⟩|⟨j,hj,e,h1,_⟩
 ·rw [e];exact ⟨fun h=>by omega,fun h2=>absurd h2 (h1 0 (by simp))⟩
 ·simp only [Ih] at hj;obtain rfl:j=0:=by omega
  exact ⟨fun _=>h1,fun _=>e⟩
theorem AO {x:T_Regex} {s:Str} (ok:bP x) (hp:parts x≤100000) (hs:s.length≤1000):Is (M.d5 x s) (fun b=>b=true→∀w:Str,L x (cU w)↔w=s):=by
 have g:∀y:T_Regex,bF [y]=parts y:=fun y=>by simp [bF]
 unfold M.d5;refine Is.bnd (qO (l:=[x]) (by simpa using ok) (by rw [g]; omega)) fun a ha=>Is.bnd (vJ hs) fun y hy=>Is.bnd (qO (l:=[y]) (by simpa using hy.1) (by have:=hy.2.1; rw [g]; omega)) fun b hb=>?_
 refine Is.bnd (P:=fun e=>e=false→a.2=0∧b.2=0) ?_ fun e k=>Is.cnd (fun _=>Is.pure fun h=>by cases h) (fun h=>?_)
 ·exact Is.cnd (fun h=>Is.pure fun h=>by cases h) (fun h=>Is.pure fun f=>⟨dX h,dX f⟩)
 obtain ⟨m,f⟩:=k h;have A:=ha.1 m;have B:=hb.1 f;refine Is.bnd (rK A.can.ok B.can.ok) fun d hd=>Is.pure fun hb w=>?_
 have i:¬ yo a.1 b.1 w:=by
  rcases hd with ⟨c,_⟩|⟨_,c⟩
  ·rw [c] at hb; cases hb
  ·exact c w
 have j:eg a.1 (walkN a.1 0 w)=eg b.1 (walkN b.1 0 w):=by
  unfold yo at i;exact Classical.not_not.1 i
 rw [←wO A w,j,wO B w,hy.2.2];exact ⟨sr,fun h=>by rw [h]⟩
def rx (d:bu):T_Regex×Int×Int:=(M.g1 d.Pattern).getD (⟨0,aT.zero 4,[]⟩,0,3)
structure BK (d:bu):Prop where
  prog:M.g1 d.Pattern=some (rx d)
  ref:M.h2 d.Pattern=some (rx d)
  ok:bP (rx d).1
  hgt:height (rx d).1≤92
  prt:parts (rx d).1≤31*2 ^ height (rx d).1
  val:(rx d).2.2=0→V 30 (rx d).1=true
theorem BS {d:bu} (h:d.Pattern.length≤30):BK d:=by
 obtain ⟨r,h1,h2,h3,h4,h5,h6⟩:=xK (s:=d.Pattern) (by omega);have e:rx d=r:=by unfold rx; rw [h1]; rfl
 subst e;exact ⟨h1,h2,h3,by omega,Nat.le_trans h5 (IB _ (by omega)),h6⟩
theorem vw {d:bu} (h:BK d):M.i0 d=some (rx d).1:=by
 unfold M.i0;rw [h.ref]; rfl
structure ym (d:bu):Prop where
  ro:BK d
  low:height (rx d).1≤8
  good:(rx d).2.2=0
theorem ym.parts {d:bu} (h:ym d):parts (rx d).1≤7936:=Nat.le_trans h.ro.prt (Nat.le_trans (IC 31 (Nat.pow_le_pow_right (by omega) h.low)) (by decide))
theorem ym.fit {d:bu} (h:ym d):Fit (rx d).1:=tf _ 30 h.ro.ok (h.ro.val h.good) (by have:=h.parts; omega)
theorem ym.fh {d:bu} (h:ym d):FH (rx d).1:=⟨h.fit,by have:=h.low; unfold ba; omega⟩
theorem xU {s:Str} (hs:s.length≤1000000):Is (M.h6 s) (fun _=>True):=by
 unfold M.h6;refine Is.bnd (P:=fun _=>True) ?_ fun b _=>Is.cnd (fun _=>Is.pure trivial) (fun _=>?_)
 ·exact Is.cnd (fun _=>Is.pure trivial) (fun _=>Is.cnd (fun _=>Is.pure trivial) (fun _=>Is.bnq rfl (Is.cnd (fun _=>Is.pure trivial) (fun _=>Is.bnq rfl (Is.cnd (fun _=>Is.pure trivial) (fun _=>Is.bnq rfl (Is.pure trivial)))))))
 ·refine Is.bs (P:=fun _=>True) (Is.upto (fun i a=>a=(i:Int)) s.length (by omega) rfl ?_ ?_) (fun _ _=>Is.pure trivial)
  ·rintro i _ c rfl;refine Is.dt (by omega) (Is.bnq (dM c) (Is.bnd (P:=fun _=>True) ?_ fun b _=>Is.bnd (P:=fun _=>True) ?_ fun b _=>Is.cnd (fun _=>Is.stop trivial) (fun _=>Is.bnq (aK (by omega)) (Is.next rfl)))) <;>
   repeat' (first|exact Is.pure trivial|refine Is.cnd (fun _=>?_) (fun _=>?_))
  ·rintro _ rfl;exact Is.df (by omega) (Is.stop trivial)
theorem sR {s:Str} (hs:s.length≤1000000):Is (M.f3 s) (fun _=>True):=by
 unfold M.f3;refine Is.bs (P:=fun _=>True) (Is.upto (fun i a=>a=(i:Int)) s.length (by omega) rfl ?_ ?_) (fun _ _=>Is.pure trivial)
 ·rintro i _ c rfl;exact Is.dt (by omega) (Is.bnd (P:=fun _=>True) (Is.bnq (dM c) (Is.cnd (fun _=>Is.pure trivial) (fun _=>Is.pure trivial))) fun b _=>Is.cnd (fun _=>Is.stop trivial) (fun _=>Is.bnq (aK (by omega)) (Is.next rfl)))
 ·rintro _ rfl;exact Is.df (by omega) (Is.stop trivial)
theorem CO {l:List bu} {i:Nat} (c:i≤l.length) (hl:l.length≤1000000) (e:bu):Is (M.a5 l (i:Int) e) (fun _=>True):=by
 unfold M.a5;have hlen:((l.take i).drop 0).length=i:=by simp; omega
 refine Is.bs (P:=fun _=>True) (Is.bnq (Au (i:=0) (j:=i) (by omega) c) (Is.upto (fun j a=>a=(j:Int)) ((l.take i).drop 0).length (by omega) rfl ?_ ?_)) (fun _ _=>Is.pure trivial)
 ·rintro j _ b rfl;exact Is.dt (by omega) (Is.bnq (aZ b) (Is.cnd (fun _=>Is.stop trivial) (fun _=>Is.bnq (aK (by omega)) (Is.next rfl))))
 ·rintro _ rfl;exact Is.df (by omega) (Is.stop trivial)
theorem rI {l:List bu} {i:Nat} (f:i<l.length) (hl:l.length≤1000000) (hf:FewD l[i] 30) (low:height (rx l[i]).1≤8) :
 Is (M.b5 l (i:Int)) (fun e=>e=0→ym l[i]∧¬ L (rx l[i]).1 []):=by
 have hx:=BS hf.2.1;unfold M.b5;refine Is.bnq (aZ f) (Is.bnq hx.prog ?_);refine Is.bs (P:=fun _=>ym l[i]∧¬ L (rx l[i]).1 []) (Q:=fun e:Int=>e=0→ym l[i]∧¬ L (rx l[i]).1 []) ?_ (fun _ h=>Is.pure fun _=>h);refine Is.bnq (x:=(6:Int)) rfl ?_;refine Is.upto (fun j d=>d=(j:Int)∧(4≤j→ym l[i])∧(5≤j→¬ L (rx l[i]).1 [])) 6 (by decide) ⟨rfl,by omega,by omega⟩ ?_ ?_
 ·rintro j _ k ⟨rfl,a,c⟩;refine Is.dt (by omega) ?_;obtain rfl|rfl|rfl|rfl|rfl|rfl:j=0∨j=1∨j=2∨j=3∨j=4∨j=5:=by omega
  ·refine Is.bnq rfl (Is.bnd (P:=fun _=>True) (show Is (M.b1 l[i]) _ from ?_) fun b _=>Is.cnd (fun _=>Is.stop fun e=>absurd (show (4:Int)=0 from e) (by decide)) (fun _=>Is.bnq (aK (by omega)) (Is.next ⟨rfl,by omega,by omega⟩)));exact Is.bnd (xU (by have:=hf.1; omega)) fun _ _=>Is.pure trivial
  ·exact Is.bnq rfl (Is.bnd (P:=fun _=>True) (show Is (M.a5 l (i:Int) l[i]) _ from CO (by omega) hl _) fun b _=>Is.cnd (fun _=>Is.stop fun e=>absurd (show (5:Int)=0 from e) (by decide)) (fun _=>Is.bnq (aK (by omega)) (Is.next ⟨rfl,by omega,by omega⟩)))
  ·refine Is.bnq rfl (Is.bnd (P:=fun _=>True) (show Is (M.b0 l[i]) _ from ?_) fun b _=>Is.cnd (fun _=>Is.stop fun e=>absurd (show (1:Int)=0 from e) (by decide)) (fun _=>Is.bnq (aK (by omega)) (Is.next ⟨rfl,by omega,by omega⟩)));exact Is.bnd (P:=fun _=>True) (Is.cnd (fun _=>Is.pure trivial) (fun _=>Is.pure trivial)) fun _ _=>Is.pure trivial
  ·refine Is.bnq rfl (Is.bnq (x:=((rx l[i]).2.2 != 0)) rfl (Is.cnd (fun h=>Is.stop fun e=>absurd (show (rx l[i]).2.2=0 from e) (kJ h)) (fun h=>Is.bnq (aK (by omega)) (Is.next ⟨rfl,fun _=>⟨hx,low,dX h⟩,by omega⟩))))
  ·have hp:=a (by omega);refine Is.bnq rfl (Is.bnq (x:=nb (rx l[i]).1) (show M.a6 (rx l[i]).1=_ from ?_) (Is.cnd (fun h=>Is.stop fun e=>absurd (show (10:Int)=0 from e) (by decide)) (fun h=>Is.bnq (aK (by omega)) (Is.next ⟨rfl,fun _=>hp,fun _ g=>?_⟩))))
   ·unfold M.a6;rw [ul ba _ hp.fh.1 hp.fh.2]; rfl
   ·rw [(CH _).2 g] at h; cases h
  ·have hp:=a (by omega);have hn:=c (by omega);refine Is.bnq rfl (Is.bnd (P:=fun _=>True) (show Is (M.a9 l[i]) _ from ?_) fun b _=>Is.cnd (fun _=>Is.stop fun e=>absurd (show (1:Int)=0 from e) (by decide)) (fun _=>Is.bnq (aK (by omega)) (Is.next ⟨rfl,fun _=>hp,fun _=>hn⟩)));exact Is.bnd (sR (by have:=hf.2.2.2; omega)) fun _ _=>Is.pure trivial
 ·rintro _ ⟨rfl,a,c⟩;exact Is.df (by omega) (Is.stop ⟨a (by omega),c (by omega)⟩)
def nj (x:T_LexSpec):List T_Regex:=x.Defs.map fun d=>(rx d).1
structure tw (x:T_LexSpec) (d:T_DFA):Prop where
  one:1≤x.Defs.length
  def0:∀i,i<x.Defs.length→M.b5 x.Defs (i:Int)=some 0
  pat:∀y∈x.Defs,ym y∧¬ L (rx y).1 []
  mis:(0≤x.Misspelling∧x.Misspelling≤1000)∧(0≤x.Unclosed∧x.Unclosed≤1000)
  blt:GP (nj x) d
  smp:∀i (h:i<x.Defs.length),eg d (walkN d 0 x.Defs[i].Sample)=(i:Int)
  key0:∀i (h:i<x.Defs.length),x.Defs[i].Kind=3→M.d5 (rx x.Defs[i]).1 x.Defs[i].Sample=some true
section
variable {x:T_LexSpec} (h6:x.Defs.length≤6) (hf:∀d∈x.Defs,FewD d 30) (hlow:∀d∈x.Defs,height (rx d).1≤8)
include hf in
theorem Dy {d:bu} (hd:d∈x.Defs):BK d:=BS (hf d hd).2.1
include hf hlow
theorem wN:(∀y∈nj x,bP y)∧bF (nj x)≤x.Defs.length*7936:=by
 refine ⟨fun y hy=>?_,?_⟩
 ·obtain ⟨d,hd,rfl⟩:=IK.1 hy;exact (Dy hf hd).ok
 ·have:∀l:List bu,(∀d∈l,d∈x.Defs)→bF (l.map fun d=>(rx d).1)≤l.length*7936:=by
   intro l;induction l with
   | nil=>intro _; simp [bF]
   | cons d l ih=>
    intro hl;have e:=ih fun z a=>hl z (by simp [a])
    have c:=(Dy hf (hl d (by simp))).prt;have b:31*2 ^ height (rx d).1≤31*2 ^ 8:=IC 31 (Nat.pow_le_pow_right (by omega) (hlow d (hl d (by simp))));simp only [List.map_cons,bF,IG]; omega
  exact this x.Defs fun _ h=>h
include h6
theorem vX:Is (M.b6 x) (fun r=>r.2.2=0→tw x r.1):=by
 obtain ⟨ok,R⟩:=wN hf hlow;unfold M.b6;refine Is.bnd (P:=fun b=>b=false→1≤x.Defs.length) ?_ fun b hb=>Is.cnd (fun _=>Is.pure fun e=>absurd (show (11:Int)=0 from e) (by decide)) (fun h=>?_)
 ·exact Is.dcd (fun _=>Is.pure fun h=>by cases h) (fun h=>Is.pure fun _=>by omega)
 have A:=hb h;refine Is.bs (P:=fun l=>l=nj x∧(∀j,j<x.Defs.length→M.b5 x.Defs (j:Int)=some 0)∧∀d∈x.Defs,ym d∧¬ L (rx d).1 []) (Q:=fun r:T_DFA×Int×Int=>r.2.2=0→tw x r.1) ?_ ?_
 ·refine Is.upto (fun i (k:List T_Regex×Int)=>k.2=(i:Int)∧k.1=(x.Defs.take i).map (fun d=>(rx d).1)∧(∀j,j<i→M.b5 x.Defs (j:Int)=some 0)∧∀d∈x.Defs.take i,ym d∧¬ L (rx d).1 []) x.Defs.length (by omega) ⟨rfl,rfl,fun _ h=>by omega,by simp⟩ ?_ ?_
  ·rintro i ⟨l,_⟩ c ⟨rfl,e,a,hd⟩;obtain rfl:l=_:=e;have hm:=Ii c;obtain ⟨e,z,J⟩:=rI c (by omega) (hf _ hm) (hlow _ hm);refine Is.dt (by omega) (Is.bnq (aZ c) (Is.bnq z (Is.cnd (fun m=>Is.stop fun e=>absurd e (kJ m)) (fun t=>?_))));obtain rfl:e=0:=dX t;have hp:=J rfl;refine Is.bnq (Dy hf hm).prog (Is.bnq (bO (by simp only [Iy,IF,Ih]; omega)) (Is.bnq (aK (by omega)) (Is.next ⟨rfl,?_,fun j H=>?_,fun d f=>?_⟩)))
   ·rw [It c,Iz]; rfl
   ·rcases Nat.lt_or_eq_of_le (Nat.le_of_lt_succ H) with g|rfl
    ·exact a j g
    ·exact z
   ·rw [It c,Iq] at f;rcases f with f|f
    ·exact hd d f
    ·rw [Ip.1 f]; exact hp
  ·rintro ⟨l,_⟩ ⟨rfl,e,a,hd⟩;obtain rfl:l=_:=e;rw [Ij] at hd ⊢;exact Is.df (by omega) (Is.stop ⟨rfl,a,hd⟩)
 rintro _ ⟨rfl,K,v⟩;refine Is.bnd (P:=fun b=>b=false→(0≤x.Misspelling∧x.Misspelling≤1000)∧(0≤x.Unclosed∧x.Unclosed≤1000)) ?_ fun b hb=>Is.cnd (fun _=>Is.pure fun e=>absurd (show (1:Int)=0 from e) (by decide)) (fun N=>?_)
 ·refine Is.dcd (fun _=>Is.pure fun h=>by cases h) (fun A=>Is.dcd (fun _=>Is.pure fun h=>by cases h) (fun S=>Is.dcd (fun _=>Is.pure fun h=>by cases h) (fun q=>Is.pure fun h=>?_)));have:=of_decide_eq_false h;exact ⟨by omega,by omega⟩
 have G:=hb N;refine Is.bnd (qO ok (by omega)) fun r D=>Is.cnd (fun m=>Is.pure fun e=>absurd e (kJ m)) (fun t=>?_)
 have B:=D.1 (dX t);refine Is.bs (P:=fun _=>tw x r.1) (Q:=fun r:T_DFA×Int×Int=>r.2.2=0→tw x r.1) ?_ (fun _ h=>Is.pure fun _=>h);refine Is.upto (fun i k=>k=(i:Int)∧(∀j (h:j<x.Defs.length),j<i→eg r.1 (walkN r.1 0 x.Defs[j].Sample)=(j:Int))∧∀j (h:j<x.Defs.length),j<i→x.Defs[j].Kind=3→M.d5 (rx x.Defs[j]).1 x.Defs[j].Sample=some true) x.Defs.length (by omega) ⟨rfl,fun _ _ h=>by omega,fun _ _ h=>by omega⟩ ?_ ?_
 ·rintro i _ c ⟨rfl,o,n⟩;have hm:=Ii c;have y:=hf _ hm;have u:=(v _ hm).1;refine Is.dt (by omega) (Is.bnq (aZ c) (Is.bnq (Di B.can.ok (w:=x.Defs[i].Sample) (by have:=y.2.2.1; omega)) (Is.cnd (fun m=>Is.stop fun e=>absurd (show (13:Int)=0 from e) (by decide)) (fun hs=>?_))));have hs:=dX hs;refine Is.bnd (P:=fun b=>b=false→x.Defs[i].Kind=3→M.d5 (rx x.Defs[i]).1 x.Defs[i].Sample=some true) ?_ fun b hb=>Is.cnd (fun _=>Is.stop fun e=>absurd (show (14:Int)=0 from e) (by decide)) (fun h=>Is.bnq (aK (by omega)) (Is.next ⟨rfl,fun j a p=>?_,fun j a p=>?_⟩))
  ·refine Is.cnd (fun q=>?_) (fun q=>Is.pure fun _ h=>absurd h (nt q));have I:i<(nj x).length:=by simp [nj]; omega
   have F:(nj x)[i]=(rx x.Defs[i]).1:=by simp [nj]
   refine Is.bnq (aZ I) ?_;rw [F];obtain ⟨b,hb,_⟩:=AO u.ro.ok (by have:=u.parts; omega) (s:=x.Defs[i].Sample) (by have:=y.2.2.1; omega);exact Is.bnq hb (Is.pure fun h _=>by rw [hb]; simpa using h)
  ·rcases Nat.lt_or_eq_of_le (Nat.le_of_lt_succ p) with g|rfl
   ·exact o j a g
   ·exact hs
  ·rcases Nat.lt_or_eq_of_le (Nat.le_of_lt_succ p) with g|rfl
   ·exact n j a g
   ·exact hb h
 ·rintro _ ⟨rfl,o,n⟩;exact Is.df (by omega) (Is.stop ⟨A,K,v,G,B,fun j a=>o j a a,fun j a=>n j a a⟩)
end
end Go.Proofs.YtggpjcdhflcfmaaGreatDoor
