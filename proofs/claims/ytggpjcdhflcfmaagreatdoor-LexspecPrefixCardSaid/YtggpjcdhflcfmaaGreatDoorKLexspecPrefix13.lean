/- Part 13. -/
import Derived.Test.YtggpjcdhflcfmaaGreatDoorKLexspecPrefix12
set_option linter.unusedVariables false
set_option linter.unusedSimpArgs false
namespace Go.Proofs.YtggpjcdhflcfmaaGreatDoor
open Go.Lx
theorem sn {k:Int} (h:0≤k∧k≤10):yv .i64 k:=⟨by show (-9223372036854775808:Int)≤k; omega,by show k≤(9223372036854775807:Int); omega⟩
theorem xY:∀x∈(aT.zero 4).1,yv .u64 x:=fun x hx=>by simp [aT.zero] at hx; subst hx; exact ⟨by decide,by decide⟩
theorem fG {k:Int} {l:List T_Regex} (hk:0≤k∧k≤10) (hl:l.length≤2000000) (h:∀y∈l,bO y):bO ⟨k,aT.zero 4,l⟩:=
 .mk _ (sn hk) xY h (Nat.le_trans hl (by decide))
theorem nt {v:aT 4} (hv:W4 v):bO ⟨3,v,[]⟩:=
 .mk _ (sn (k:=3) (by omega)) (fun x hx=>by have:=hv x hx; exact ⟨by show (0:Int)≤x; omega,by show x≤(18446744073709551615:Int); omega⟩) (fun _ h=>by cases h) (by show 0≤maxLen; omega)
theorem uw {l:List T_Regex} {h:Nat} (hh:∀y∈l,height y≤h):cb l≤h:=by
 induction l with
 | nil=>simp [cb]
 | cons y l ih=>
  have:=hh y (by simp);have:=ih fun z hz=>hh z (by simp [hz])
  simp only [cb]; omega
def Bp (x:T_Regex) (c:Nat):Prop:=parts x≤c*2 ^ height x
def Bl (l:List T_Regex) (c:Nat):Prop:=bE l≤c*2 ^ cb l
theorem Bp.more {x:T_Regex} {c d:Nat} (h:Bp x c) (hd:c≤d):Bp x d:=Nat.le_trans h (IF _ hd)
theorem Bl.more {l:List T_Regex} {c d:Nat} (h:Bl l c) (hd:c≤d):Bl l d:=Nat.le_trans h (IF _ hd)
theorem Bl.nil (c:Nat):Bl [] c:=Nat.zero_le _
theorem qt (k:Nat):1≤2 ^ k:=Nat.one_le_two_pow
theorem Bl.snoc {l:List T_Regex} {x:T_Regex} {c d:Nat} (h:Bl l c) (hx:Bp x d):Bl (l++[x]) (c+d):=by
 unfold Bl;rw [iC,kR];simp only [bE,cb,Nat.add_zero,Nat.max_zero];rw [Nat.add_mul];exact Nat.add_le_add (Nat.le_trans h (IG _ (Nat.pow_le_pow_right (by omega) (by omega)))) (Nat.le_trans hx (IG _ (Nat.pow_le_pow_right (by omega) (by omega))))
theorem Bl.one {x:T_Regex} {c:Nat} (hx:Bp x c):Bl [x] c:=by
 unfold Bl;simp only [bE,cb,Nat.add_zero,Nat.max_zero];exact hx
theorem Bl.node {l:List T_Regex} {c:Nat} (h:Bl l c) (hc:1≤c) (k:Int) (s:aT 4):Bp ⟨k,s,l⟩ c:=by
 unfold Bp;simp only [parts,height];have h1:=qt (cb l);have h2:1≤c*2 ^ cb l:=Nat.le_trans hc (Nat.le_mul_of_pos_right _ h1);have h3:c*2 ^ (cb l+1)=c*2 ^ cb l+c*2 ^ cb l:=by rw [Nat.pow_succ,←Nat.mul_assoc,Nat.mul_two]
 have h4:bE l≤c*2 ^ cb l:=h;omega
theorem Bl.of1 {y:T_Regex} {c:Nat} (h:Bl [y] c):Bp y c:=by
 unfold Bl at h;unfold Bp;simpa only [bE,cb,Nat.add_zero,Nat.max_zero] using h
theorem Bp.leaf (k:Int) (s:aT 4) {c:Nat} (hc:1≤c):Bp ⟨k,s,[]⟩ c:=Bl.node (Bl.nil c) hc k s
theorem Bp.opt {z:T_Regex} {c:Nat} (h:Bp z c) (hc:1≤c) (k:Int) (s s':aT 4) (k':Int):Bp ⟨k,s,[z,⟨k',s',[]⟩]⟩ (c+1):=by
 have:=(Bl.one h).snoc (Bp.leaf k' s' (c:=1) (by omega));exact this.node (by omega) k s
theorem Bp.more1 {z:T_Regex} {c:Nat} (h:Bp z c) (hc:1≤c) (k k':Int) (s s':aT 4):Bp ⟨k,s,[z,⟨k',s',[z]⟩]⟩ c:=by
 unfold Bp at h ⊢;simp only [parts,bE,height,cb,Nat.add_zero,Nat.max_zero];rw [show max (height z) (height z+1)+1=height z+2 by omega,Nat.pow_add,show 2 ^ 2=4 from rfl,←Nat.mul_assoc];have:=Nat.le_trans hc (Nat.le_mul_of_pos_right c (qt (height z)));omega
def zY (s:Str) (p k d:Nat) (a:Rt (T_Regex×aD)) (b:T_Regex×aG):Prop:=
 (∃(x:T_Regex) (q:Nat),p+d≤q∧q≤s.length∧bO x∧(height x≤3*(q - p)+k∧Bp x (q - p+1 - d))∧a=.ret (x,⟨s,q⟩)∧b=(x,⟨s,q,false⟩))∨(∃(q:Nat) (y:T_Regex),q≤s.length∧a=.pan q∧b=(y,⟨s,q,true⟩))
theorem CZ:M.k5=M.m8:=by decide +kernel
theorem zC:M.k5=some (mq (rG [10])):=by
 unfold M.k5;have h:M.j4 [10]=some (rG [10]):=EY (s:=[10]) (by decide);rw [h,Ik,iF (ld _),Ik]
theorem xF (b:Nat):eD b b=[b]:=by unfold eD; rw [show b+1 - b=1 by omega]; rfl
theorem yf {s:Str} {q:Nat} (hs:s.length≤1000000) (h:q<s.length) (a:(s[q]).toNat=41):M.a5 ⟨s,q⟩ 41=some (.ret ⟨s,(q+1:Nat)⟩):=by
 unfold M.a5;refine cY (aN (x:=false) (ed (cv (show (q:Int)≠(s.length:Int) by omega)) (aN (dY h) (congrArg some (sC (show ((s[q]).toNat:Int)=41 by omega))))) rfl) (aN (aM (show q<9223372036854775807 by omega)) rfl)
theorem ye {s:Str} {q:Nat} (h:q<s.length) (h1:(s[q]).toNat≠41):M.a5 ⟨s,q⟩ 41=some (.pan q):=by
 unfold M.a5;exact eB (aN (x:=true) (ed (cv (show (q:Int)≠(s.length:Int) by omega)) (aN (dY h) (congrArg some (mj (show ((s[q]).toNat:Int)≠41 by omega))))) rfl)
theorem vX {s:Str}:M.a5 ⟨s,(s.length:Nat)⟩ 41=some (.pan (s.length:Nat)):=by
 unfold M.a5;exact eB (aN (x:=true) (hY (qV rfl) rfl) rfl)
section
variable {s:Str} (hs:s.length≤1000000)
def PA (s:Str) (m:Nat):Prop:=∀p:Nat,p≤s.length→s.length - p≤m→∀fl,4*m+1≤fl→dQ (M.e0 fl ⟨s,p⟩) (M.e1 fl ⟨s,p,false⟩) (zY s p 0 1)
def PP (s:Str) (m:Nat):Prop:=∀p:Nat,p≤s.length→s.length - p≤m→∀fl,4*m+2≤fl→dQ (M.c9 fl ⟨s,p⟩) (M.d0 fl ⟨s,p,false⟩) (zY s p 0 1)
def PB (s:Str) (m:Nat):Prop:=∀p:Nat,p≤s.length→s.length - p≤m→∀fl,4*m+3≤fl→dQ (M.b9 fl ⟨s,p⟩) (M.c0 fl ⟨s,p,false⟩) (zY s p 1 0)
def PR (s:Str) (m:Nat):Prop:=∀p:Nat,p≤s.length→s.length - p≤m→∀fl,4*m+4≤fl→dQ (M.c3 fl ⟨s,p⟩) (M.c4 fl ⟨s,p,false⟩) (zY s p 2 0)
include hs
theorem zQ {m:Nat} (h:∀m',m'<m→PR s m'):PA s m:=by
 intro p hp F j G;obtain ⟨j,rfl⟩:∃f,j=f+1:=⟨j - 1,by omega⟩;unfold M.e0 M.e1;obtain ⟨x,y,hx,hy,k,n⟩:=gF hp;refine dQ.l hx (dQ.r hy ?_);rw [←k 40 (by decide) (by decide),←k 91 (by decide) (by decide),←k 46 (by decide) (by decide)];cases D:(x == (40:Int))
 ·cases t:(x == (91:Int))
  ·cases B:(x == (46:Int))
   ·refine dQ.bb (qS hs hp false) ?_;rintro a b (⟨c,q,g,d,o,rfl,rfl⟩|⟨q,hq,rfl,rfl⟩)
    ·refine dQ.l (nN o o) (dQ.r (b:=⟨3,fg (aT.zero 4) c,[]⟩) ?_ (.pure (.inl ⟨⟨3,fg (aT.zero 4) c,[]⟩,q,g,d,nt (uQ jP c),⟨?_,Bp.leaf _ _ (by omega)⟩,?_,rfl⟩)))
     ·unfold M.m0;exact aN (mw jP o) rfl
     ·simp only [height,cb]; omega
     ·rw [xF]; rfl
    ·refine dQ.r (b:=⟨3,fg (aT.zero 4) 0,[]⟩) ?_ (.pure (.inr ⟨q,_,hq,rfl,rfl⟩));unfold M.m0;exact aN (mw jP (c:=0) (by omega)) rfl
   ·have e:=n 46 (by decide) (dw B);refine dQ.l (aM (i:=p) (by omega)) (dQ.l zC (dQ.r (aM (i:=p) (by omega)) (dQ.r (CZ.symm.trans zC) (.pure (.inl ⟨_,p+1,Nat.le_refl _,e,nt (uR (ld _)),⟨?_,Bp.leaf _ _ (by omega)⟩,rfl,rfl⟩)))));simp only [height,cb]; omega
  ·have e:=n 91 (by decide) (dw t);have A:(s[p]).toNat=91:=by
    rw [wR e] at hx;have:=Option.some.inj hx;have:=dw t;omega
   refine dQ.r (aM (i:=p) (by omega)) (dQ.bb (uJ hs e A) ?_);rintro a b (⟨set,q,g,d,v,rfl,rfl⟩|⟨q,y,hq,rfl,rfl⟩)
   ·refine .pure (.inl ⟨⟨3,set,[]⟩,q,g,d,nt v,⟨?_,Bp.leaf _ _ (by omega)⟩,rfl,rfl⟩);simp only [height,cb]; omega
   ·exact .pure (.inr ⟨q,_,hq,rfl,rfl⟩)
 ·have e:=n 40 (by decide) (dw D);refine dQ.l (aM (i:=p) (by omega)) (dQ.r (aM (i:=p) (by omega)) ?_);refine dQ.bb (h (m - 1) (by omega) (p+1) e (by omega) j (by omega)) ?_;rintro a b (⟨z,q,g,d,w,hh,rfl,rfl⟩|⟨q,y,hq,rfl,rfl⟩)
  ·rcases Nat.lt_or_eq_of_le d with hq|hq
   ·by_cases u:(s[q]).toNat=41
    ·refine dQ.l (yf hs hq u) (dQ.r (gw hq) ?_);rw [sC (show ((s[q]).toNat:Int)=41 by omega)];exact dQ.r (aM (i:=q) (by omega)) (.pure (.inl ⟨z,q+1,by omega,hq,w,⟨by omega,hh.2.more (by omega)⟩,rfl,rfl⟩))
    ·refine dQ.l (ye hq u) (dQ.r (gw hq) ?_);rw [mj (show ((s[q]).toNat:Int)≠41 by omega)];exact .pure (.inr ⟨q,_,d,rfl,rfl⟩)
   ·subst hq;exact dQ.l vX (dQ.r kM (.pure (.inr ⟨s.length,_,d,rfl,rfl⟩)))
  ·exact .pure (.inr ⟨q,_,hq,rfl,rfl⟩)
theorem vi {m:Nat} (h:PA s m):PP s m:=by
  intro p hp hm G a6;obtain ⟨G,rfl⟩:∃f,G=f+1:=⟨G - 1,by omega⟩;unfold M.c9 M.d0;refine dQ.bb (h p hp hm G (by omega)) ?_;rintro a b (⟨z,q,R,F,t,hh,rfl,rfl⟩|⟨q,y,hq,rfl,rfl⟩)
  · refine dQ.on_ret ?_
    have key:=dQ.loop (Q:=fun (a:Rt (T_Regex×aD)) (b:cO (Int×aT 4×List T_Regex×Int) (T_Regex×aG))=>∃c,b=.stop c∧zY s p 0 1 a c)
      (bA:=fun (I:Int×Int×(aT 4)×(List T_Regex))=>match I with
        | (N,v,u,A)=>bo ((M.a3 (aD.mk s N)).bind fun L=>
            bif (L == 42) then some (.next ((6:Int),([(T_Regex.mk v u A)]:(List T_Regex))))
            else bif (L == 43) then some (.next ((4:Int),([(T_Regex.mk v u A),(T_Regex.mk 6 (aT.zero 4) [(T_Regex.mk v u A)])]:(List T_Regex))))
            else bif (L == 63) then some (.next ((5:Int),([(T_Regex.mk v u A),(T_Regex.mk 2 (aT.zero 4) [])]:(List T_Regex))))
            else some (.stop (.stop (.ret ((T_Regex.mk v u A),(aD.mk s N)))))) fun (a3,W)=>
          (cd .i64 (N+1)).bind fun t3=>some (.next (t3,a3,(aT.zero 4),W)))
      (bB:=fun (I:Int×Int×(aT 4)×(List T_Regex))=>match I with
        | (D,r,o,n)=>bif (!false) then bo ((M.a0 (aG.mk s D false)).bind fun K=>
            bif (K == 42) then (M.j1 (T_Regex.mk r o n)).bind fun J=>some (.next (J.Kind,J.Set,J.Kids))
            else bif (K == 43) then (M.j1 (T_Regex.mk r o n)).bind fun Y=>some (.next ((4:Int),(aT.zero 4),([(T_Regex.mk r o n),Y]:(List T_Regex))))
            else bif (K == 63) then some (.next ((5:Int),(aT.zero 4),([(T_Regex.mk r o n),(T_Regex.mk 2 (aT.zero 4) [])]:(List T_Regex))))
            else some (.stop (.stop (.stop ((T_Regex.mk r o n),(aG.mk s D false)))))) fun (a2,a1,a0)=>
          (cd .i64 (D+1)).bind fun X=>some (.next (X,a2,a1,a0))
          else some (.stop (.next (r,o,n,D))))
      (fun a b m=>∃(z:T_Regex) (q:Nat),p+1≤q∧q≤s.length∧bO z∧(height z≤3*(q - p)∧Bp z (q - p))∧a=((q:Int),z.Kind,z.Set,z.Kids)∧b=((q:Int),z.Kind,z.Set,z.Kids)∧m=s.length - q) ?_
      (s.length - q) ba ba ((q:Int),z.Kind,z.Set,z.Kids) ((q:Int),z.Kind,z.Set,z.Kids) (by unfold ba; omega) (by unfold ba; omega) ⟨z,q,R,F,t,hh,rfl,rfl,rfl⟩
    · obtain ⟨a,b,ha,hb,c,rfl,hc⟩:=key
      exact ⟨a,c,ha,eB hb,hc⟩
    · rintro m _ _ ⟨⟨k,d,l⟩,q,R,F,t,hh,rfl,rfl,rfl⟩
      obtain ⟨x,y,hx,hy,P,S⟩:=gF F;have H:=P 42 (by decide) (by decide);have T:=P 43 (by decide) (by decide);have V:=P 63 (by decide) (by decide);have U:∀w∈[(⟨k,d,l⟩:T_Regex)],bO w:=fun w e=>by rw [Iu.1 e]; exact t
      cases g:(x == (42:Int))
      · cases j:(x == (43:Int))
        · cases B:(x == (63:Int))
          · refine .inr ⟨_,eB (aN hx (ed g (ed j (ed B rfl)))),.inl ⟨_,eB (aN hy (ed (H ▸ g) (ed (T ▸ j) (ed (V ▸ B) rfl)))),_,rfl,.inl ⟨_,q,R,F,t,hh,rfl,rfl⟩⟩⟩
          · have hl:=S 63 (by decide) (dw B)
            refine .inl ⟨_,_,s.length - (q+1),cY (aN hx (ed g (ed j (hY B rfl)))) (aN (aM (i:=q) (by omega)) rfl),
              cY (aN hy (ed (H ▸ g) (ed (T ▸ j) (hY (V ▸ B) rfl)))) (aN (aM (i:=q) (by omega)) rfl),by omega,⟨5,aT.zero 4,[⟨k,d,l⟩,⟨2,aT.zero 4,[]⟩]⟩,q+1,by omega,hl,?_,⟨?_,(hh.2.opt (by omega) _ _ _ _).more (by omega)⟩,rfl,rfl,rfl⟩
            · refine fG (by omega) (by simp) fun w e=>?_
              rcases IN.1 e with rfl|e
              · exact t
              · rw [Iu.1 e]; exact fG (by omega) (by simp) (by simp)
            · have:height (⟨5,aT.zero 4,[⟨k,d,l⟩,⟨2,aT.zero 4,[]⟩]⟩:T_Regex)≤height (⟨k,d,l⟩:T_Regex)+1:=by simp only [height,cb]; omega
              omega
        · have hl:=S 43 (by decide) (dw j)
          refine .inl ⟨_,_,s.length - (q+1),cY (aN hx (ed g (hY j rfl))) (aN (aM (i:=q) (by omega)) rfl),
            cY (aN hy (ed (H ▸ g) (hY (T ▸ j) rfl))) (aN (aM (i:=q) (by omega)) rfl),by omega,⟨4,aT.zero 4,[⟨k,d,l⟩,⟨6,aT.zero 4,[⟨k,d,l⟩]⟩]⟩,q+1,by omega,hl,?_,⟨?_,(hh.2.more1 (by omega) _ _ _ _).more (by omega)⟩,rfl,rfl,rfl⟩
          · refine fG (by omega) (by simp) fun w e=>?_
            rcases IN.1 e with rfl|e
            · exact t
            · rw [Iu.1 e]; exact fG (by omega) (by simp) U
          · have:height (⟨4,aT.zero 4,[⟨k,d,l⟩,⟨6,aT.zero 4,[⟨k,d,l⟩]⟩]⟩:T_Regex)≤height (⟨k,d,l⟩:T_Regex)+2:=by simp only [height,cb]; omega
            omega
      · have hl:=S 42 (by decide) (dw g)
        refine .inl ⟨_,_,s.length - (q+1),cY (aN hx (hY g rfl)) (aN (aM (i:=q) (by omega)) rfl),
          cY (aN hy (hY (H ▸ g) rfl)) (aN (aM (i:=q) (by omega)) rfl),by omega,⟨6,aT.zero 4,[⟨k,d,l⟩]⟩,q+1,by omega,hl,fG (by omega) (by simp) U,⟨?_,((Bl.one hh.2).node (by omega) _ _).more (by omega)⟩,rfl,rfl,rfl⟩
        have:height (⟨6,aT.zero 4,[⟨k,d,l⟩]⟩:T_Regex)≤height (⟨k,d,l⟩:T_Regex)+1:=by simp only [height,cb]; omega
        omega
  · exact ⟨_,(⟨y.Kind,y.Set,y.Kids⟩,⟨s,q,true⟩),rfl,cY (jg rfl) rfl,.inr ⟨q,_,hq,rfl,rfl⟩⟩
omit hs in
theorem ux (k:Int) (l:List T_Regex) (hl:l≠[]):∃x,M.j5 k l=some x∧((∃y,l=[y]∧x=y)∨(2≤l.length∧x=⟨k,aT.zero 4,l⟩)):=by
 match l with
 | []=>exact absurd rfl hl
 | [y]=>exact ⟨y,rfl,.inl ⟨y,rfl,rfl⟩⟩
 | y::z::l=>
  refine ⟨_,ed (cv (by simp only [IK]; omega)) rfl,.inr ⟨by simp only [IK]; omega,rfl⟩⟩
omit hs in
theorem yP {l:List T_Regex} (h:2≤l.length):((l.length:Int) == 1)=false:=cv (by omega)
omit hs in
theorem uF {q:Nat} (hq:q≤s.length):∃g,((bif (decide ((q:Int)<(s.length:Int))) then (jJ s q).bind fun a=>bif (a != 124) then some (a != 41) else some false else some false)=some g)∧
    ((bif (!false) then (M.a0 (aG.mk s q false)).bind fun d=>bif (d != (-1)) then (M.a0 (aG.mk s q false)).bind fun c=>
      bif (c != 124) then (M.a0 (aG.mk s q false)).bind fun b=>some (b != 41) else some false else some false else some false)=some g)∧(g=true→q<s.length):=by
  rcases Nat.lt_or_eq_of_le hq with h|h
  · refine ⟨bif (((s[q]).toNat:Int) != 124) then (((s[q]).toNat:Int) != 41) else false,hY (eg (by omega)) (aN (dY h) ?_),aN (gw h) (hY (mj (by omega)) (aN (gw h) ?_)),fun _=>h⟩
    · cases (((s[q]).toNat:Int) != 124) <;> rfl
    · cases (((s[q]).toNat:Int) != 124)
      · rfl
      · exact aN (gw h) rfl
  · subst h
    exact ⟨false,ed (eQ (by omega)) rfl,aN kM rfl,fun h=>by cases h⟩
def mn (h:Nat) (l:List T_Regex):Prop:=∀y∈l,bO y∧height y≤h
omit hs in
theorem mn.snoc {h h':Nat} {l:List T_Regex} {x:T_Regex} (hl:mn h l) (hh:h≤h') (hx:bO x∧height x≤h'):mn h' (l++[x]):=by
 intro y hy;rcases Iv.1 hy with hy|hy
 ·exact ⟨(hl y hy).1,Nat.le_trans (hl y hy).2 hh⟩
 ·rw [Iu.1 hy]; exact hx
omit hs in
theorem mn.node {h:Nat} {l:List T_Regex} (hl:mn h l) {k:Int} (hk:0≤k∧k≤10) (hn:l.length≤2000000):bO ⟨k,aT.zero 4,l⟩∧height (⟨k,aT.zero 4,l⟩:T_Regex)≤h+1:=by
 refine ⟨fG hk hn fun y hy=>(hl y hy).1,?_⟩;have:=uw fun y hy=>(hl y hy).2
 simp only [height]; omega
theorem wg {m:Nat} (h:PP s m):PB s m:=by
  intro p hp I n K;obtain ⟨n,rfl⟩:∃f,n=f+1:=⟨n - 1,by omega⟩;unfold M.b9 M.c0;refine dQ.sb (P:=fun (a:cO (List T_Regex×Str×Int) (Rt (T_Regex×aD))) (b:List T_Regex×Str×Int×Bool)=>
      (∃(l:List T_Regex) (q:Nat),p≤q∧q≤s.length∧(mn (3*(q - p)) l∧Bl l (q - p))∧l.length≤q - p∧a=.next (l,s,(q:Int))∧b=(l,s,(q:Int),false))∨(∃(l:List T_Regex) (q:Nat),q≤s.length∧a=.stop (.pan q)∧b=(l,s,(q:Int),true)))
    (dQ.loop (fun (a:Str×Int×(List T_Regex)) (b:Str×Int×Bool×(List T_Regex)) k=>∃(l:List T_Regex) (q:Nat),p≤q∧q≤s.length∧(mn (3*(q - p)) l∧Bl l (q - p))∧l.length≤q - p∧a=(s,(q:Int),l)∧b=(s,(q:Int),false,l)∧k=s.length - q) ?_
      (s.length - p) _ _ _ _ (by unfold ba; omega) (by unfold ba; omega) ⟨[],p,Nat.le_refl _,hp,⟨(show mn (3*(p - p)) [] from fun y hy=>absurd hy (by simp)),Bl.nil _⟩,by simp,rfl,rfl,rfl⟩) ?_ ?_
  · rintro k _ _ ⟨l,q,i,hq,d,hl,rfl,rfl,rfl⟩
    obtain ⟨g,t,r,J⟩:=uF hq;cases g
    · exact .inr ⟨.next (l,s,(q:Int)),aN t rfl,.inl ⟨(l,s,(q:Int),false),aN r rfl,.inl ⟨l,q,i,hq,d,hl,rfl,rfl⟩⟩⟩
    · obtain ⟨N,L,w,v,F⟩:=h q hq (by omega) n (by omega)
      rcases F with ⟨x,c,H,A,D,hh,rfl,rfl⟩|⟨c,y,B,rfl,rfl⟩
      · have j:cz 64 l [x]=some (l++[x]):=bN (by simp only [Il]; omega)
        refine .inl ⟨(s,(c:Int),l++[x]),(s,(c:Int),false,l++[x]),s.length - c,aN t (aN w (aN j rfl)),aN r (aN v (aN j rfl)),by omega,
          l++[x],c,by omega,A,⟨d.1.snoc (by omega) ⟨D,by omega⟩,(d.2.snoc hh.2).more (by omega)⟩,by simp only [Ir,Il]; omega,rfl,rfl,rfl⟩
      · have j:cz 64 l [y]=some (l++[y]):=bN (by simp only [Il]; omega)
        exact .inr ⟨.stop (.pan c),aN t (aN w rfl),.inr ⟨(s,(c:Int),true,l++[y]),(l++[y],s,(c:Int),true),aN r (aN v (aN j rfl)),aN (x:=false) rfl rfl,.inr ⟨l++[y],c,B,rfl,rfl⟩⟩⟩
  · rintro a b (⟨l,q,i,hq,d,hl,e,rfl⟩|⟨l,q,hq,e,rfl⟩)
    · cases e
      by_cases o:l=[]
      · subst o
        refine ⟨.ret (⟨2,aT.zero 4,[]⟩,⟨s,q⟩),(⟨2,aT.zero 4,[]⟩,⟨s,q,false⟩),rfl,rfl,.inl ⟨⟨2,aT.zero 4,[]⟩,q,i,hq,fG (by omega) (by simp) (by simp),⟨?_,Bp.leaf _ _ (by omega)⟩,rfl,rfl⟩⟩;simp only [height,cb]; omega
      · have u:((l.length:Int) == 0)=false:=cv (fun e=>o (Jd (by omega)))
        obtain ⟨x,hx,⟨y,rfl,e⟩|⟨G,rfl⟩⟩:=ux 4 l o
        · have:=d.1 y (by simp)
          exact ⟨.ret (y,⟨s,q⟩),(y,⟨s,q,false⟩),rfl,rfl,.inl ⟨y,q,i,hq,this.1,⟨by omega,d.2.of1.more (by omega)⟩,rfl,rfl⟩⟩
        · have:=d.1.node (k:=4) (by omega) (by omega)
          exact ⟨.ret (⟨4,aT.zero 4,l⟩,⟨s,q⟩),(⟨4,aT.zero 4,l⟩,⟨s,q,false⟩),ed u (aN hx rfl),ed u (ed (yP G) rfl),.inl ⟨_,q,i,hq,this.1,⟨this.2,(d.2.more (show q - p≤q - p+1 - 0 by omega)).node (by omega) _ _⟩,rfl,rfl⟩⟩
    · cases e
  · rintro x b (⟨l,q,i,hq,d,hl,e,rfl⟩|⟨l,q,hq,e,rfl⟩)
    · cases e
    · cases e
      match l with
      | []=>exact ⟨_,(⟨2,aT.zero 4,[]⟩,⟨s,q,true⟩),rfl,rfl,.inr ⟨q,_,hq,rfl,rfl⟩⟩
      | [y]=>exact ⟨_,(y,⟨s,q,true⟩),rfl,rfl,.inr ⟨q,_,hq,rfl,rfl⟩⟩
      | y::z::l=>
        exact ⟨_,(⟨4,aT.zero 4,y::z::l⟩,⟨s,q,true⟩),rfl,ed (cv (by simp only [IK]; omega)) (ed (cv (by simp only [IK]; omega)) rfl),.inr ⟨q,_,hq,rfl,rfl⟩⟩
theorem xC {m:Nat} (h:PB s m):PR s m:=by
  intro p hp J j U;obtain ⟨j,rfl⟩:∃f,j=f+1:=⟨j - 1,by omega⟩;unfold M.c3 M.c4;refine dQ.bb (h p hp J j (by omega)) ?_;rintro a b (⟨z,u,T,F,I,hh,rfl,rfl⟩|⟨q,y,hq,rfl,rfl⟩)
  · refine dQ.on_ret ?_
    refine dQ.sb (P:=fun (a:cO (List T_Regex×Str×Int) (Rt (T_Regex×aD))) (b:List T_Regex×Str×Int×Bool)=>
        (∃(l:List T_Regex) (q:Nat),p≤q∧q≤s.length∧(mn (3*(q - p)+1) l∧Bl l (q - p+1))∧l.length≤q - p+1∧l≠[]∧a=.next (l,s,(q:Int))∧b=(l,s,(q:Int),false))∨(∃(l:List T_Regex) (q:Nat),q≤s.length∧a=.stop (.pan q)∧b=(l,s,(q:Int),true)))
      (dQ.loop (fun (a:Str×Int×(List T_Regex)) (b:Str×Int×Bool×(List T_Regex)) k=>∃(l:List T_Regex) (q:Nat),p≤q∧q≤s.length∧(mn (3*(q - p)+1) l∧Bl l (q - p+1))∧l.length≤q - p+1∧l≠[]∧a=(s,(q:Int),l)∧b=(s,(q:Int),false,l)∧k=s.length - q) ?_
        (s.length - u) _ _ _ _ (by unfold ba; omega) (by unfold ba; omega) ⟨[z],u,by omega,F,⟨fun y hy=>by rw [Iu.1 hy]; exact ⟨I,hh.1⟩,Bl.one hh.2⟩,by simp,by simp,rfl,rfl,rfl⟩) ?_ ?_
    · rintro k _ _ ⟨l,q,i,hq,d,hl,n,rfl,rfl,rfl⟩
      obtain ⟨x,y,hx,hy,B,L⟩:=gF hq;have e:=B 124 (by decide) (by decide);cases g:(x == (124:Int))
      · exact .inr ⟨.next (l,s,(q:Int)),aN hx (ed g rfl),.inl ⟨(l,s,(q:Int),false),aN (x:=false) (aN hy (congrArg some (e ▸ g))) rfl,.inl ⟨l,q,i,hq,d,hl,n,rfl,rfl⟩⟩⟩
      · have K:=L 124 (by decide) (dw g)
        have o:cd .i64 ((q:Int)+1)=some ((q+1:Nat):Int):=aM (by omega);obtain ⟨W,V,A,v,Q⟩:=h (q+1) K (by omega) j (by omega);rcases Q with ⟨w,c,S,D,H,N,rfl,rfl⟩|⟨c,w,G,rfl,rfl⟩
        · have t:cz 64 l [w]=some (l++[w]):=bN (by simp only [Il]; omega)
          refine .inl ⟨(s,(c:Int),l++[w]),(s,(c:Int),false,l++[w]),s.length - c,aN hx (hY g (aN o (aN A (aN t rfl)))),aN (x:=true) (aN hy (congrArg some (e ▸ g))) (aN o (aN v (aN t rfl))),by omega,
            l++[w],c,by omega,D,⟨d.1.snoc (by omega) ⟨H,by omega⟩,(d.2.snoc N.2).more (by omega)⟩,by simp only [Ir,Il]; omega,by simp,rfl,rfl,rfl⟩
        · have t:cz 64 l [w]=some (l++[w]):=bN (by simp only [Il]; omega)
          exact .inr ⟨.stop (.pan c),aN hx (hY g (aN o (aN A rfl))),.inr ⟨(s,(c:Int),true,l++[w]),(l++[w],s,(c:Int),true),aN (x:=true) (aN hy (congrArg some (e ▸ g))) (aN o (aN v (aN t rfl))),aN (x:=false) rfl rfl,.inr ⟨l++[w],c,G,rfl,rfl⟩⟩⟩
    · rintro a b (⟨l,q,i,hq,d,hl,n,e,rfl⟩|⟨l,q,hq,e,rfl⟩)
      · cases e
        obtain ⟨x,hx,⟨y,rfl,e⟩|⟨R,rfl⟩⟩:=ux 5 l n
        · have:=d.1 y (by simp)
          exact ⟨.ret (y,⟨s,q⟩),(y,⟨s,q,false⟩),rfl,rfl,.inl ⟨y,q,i,hq,this.1,⟨by omega,d.2.of1⟩,rfl,rfl⟩⟩
        · have:=d.1.node (k:=5) (by omega) (by omega)
          exact ⟨.ret (⟨5,aT.zero 4,l⟩,⟨s,q⟩),(⟨5,aT.zero 4,l⟩,⟨s,q,false⟩),aN hx rfl,ed (yP R) rfl,.inl ⟨_,q,i,hq,this.1,⟨this.2,d.2.node (by omega) _ _⟩,rfl,rfl⟩⟩
      · cases e
    · rintro x b (⟨l,q,i,hq,d,hl,n,e,rfl⟩|⟨l,q,hq,e,rfl⟩)
      · cases e
      · cases e
        match l with
        | []=>exact ⟨_,(⟨5,aT.zero 4,[]⟩,⟨s,q,true⟩),rfl,rfl,.inr ⟨q,_,hq,rfl,rfl⟩⟩
        | [y]=>exact ⟨_,(y,⟨s,q,true⟩),rfl,rfl,.inr ⟨q,_,hq,rfl,rfl⟩⟩
        | y::z::l=>exact ⟨_,(⟨5,aT.zero 4,y::z::l⟩,⟨s,q,true⟩),rfl,ed (cv (by simp only [IK]; omega)) rfl,.inr ⟨q,_,hq,rfl,rfl⟩⟩
  · exact dQ.on_pan ⟨_,(y,⟨s,q,true⟩),rfl,aN (jg (r:=([y],s,(q:Int),true)) rfl) rfl,.inr ⟨q,_,hq,rfl,rfl⟩⟩
theorem BN:∀m,PR s m:=by
 intro m;induction m using Nat.strongRecOn with
 | _ m ih=>exact xC hs (wg hs (vi hs (zQ hs ih)))
theorem xN:∃r,M.f9 s=some r∧M.g9 s=some r∧bO r.1∧height r.1≤3*s.length+2∧Bp r.1 (s.length+1)∧(r.2.2=0→V 30 r.1=true):=by
 obtain ⟨a,b,ha,hb,g⟩:=BN hs s.length 0 (by omega) (by omega) ba (by unfold ba; omega);have e:bO ⟨0,aT.zero 4,[]⟩:=fG (by omega) (by simp) (by simp);have c:height (⟨0,aT.zero 4,[]⟩:T_Regex)≤3*s.length+2∧Bp ⟨0,aT.zero 4,[]⟩ (s.length+1):=⟨by simp only [height,cb]; omega,Bp.leaf _ _ (by omega)⟩;unfold M.f9 M.g9;rcases g with ⟨x,q,i,f,d,hh,rfl,rfl⟩|⟨q,y,hq,rfl,rfl⟩
 ·rcases Nat.lt_or_eq_of_le f with hq|hq
  ·refine ⟨(⟨0,aT.zero 4,[]⟩,(q:Int),3),aN ha (eB (hY (eg (by show (q:Int)<(s.length:Int); omega)) rfl)),aN hb (aN (x:=true) (congrArg some (eg (by show (q:Int)<(s.length:Int); omega))) rfl),e,c.1,c.2,fun h=>absurd (show (3:Int)=0 from h) (by decide)⟩
  ·have hd:decide ((q:Int)<(s.length:Int))=false:=eQ (by omega);cases hv:V 30 x
   ·exact ⟨(⟨0,aT.zero 4,[]⟩,0,11),aN ha (cY (ed hd rfl) (aN ((rf d).trans (congrArg some hv)) rfl)),aN hb (aN (x:=false) (congrArg some hd) (aN ((ku d).trans (congrArg some hv)) rfl)),e,c.1,c.2,fun h=>absurd h (by decide)⟩
   ·exact ⟨(x,0,0),aN ha (cY (ed hd rfl) (aN ((rf d).trans (congrArg some hv)) rfl)),aN hb (aN (x:=false) (congrArg some hd) (aN ((ku d).trans (congrArg some hv)) rfl)),d,by show height x≤_; omega,hh.2.more (by omega),fun _=>hv⟩
 ·exact ⟨(⟨0,aT.zero 4,[]⟩,(q:Int),3),aN ha rfl,aN hb rfl,e,c.1,c.2,fun h=>absurd (show (3:Int)=0 from h) (by decide)⟩
end
end Go.Proofs.YtggpjcdhflcfmaaGreatDoor
namespace Go.Lx
theorem gG:∀(N:Nat) (l:List Nat),l.Nodup→(∀x∈l,x<N)→l.length≤N
 | 0,l,_,h=>by
  cases l with
  | nil=>simp
  | cons a l=>have:=h a (by simp); omega
 | N+1,l,hn,h=>by
  have c:=gG N (l.filter (· != N)) (hn.filter _) (fun x hx=>by
   simp only [IX,bne_iff_ne,ne_eq] at hx;have:=h x hx.1; omega)
  have d:l.length≤(l.filter (· != N)).length+1:=by
   clear c h;induction l with
   | nil=>simp
   | cons a l ih=>
    have b:=List.nodup_cons.1 hn
    by_cases ha:a=N
    ·subst ha;have:l.filter (· != a)=l:=List.filter_eq_self.2 fun x hx=>by
      have:x≠a:=by rintro rfl; exact b.1 hx
      simpa using this
     simp [this]
    ·have:=ih b.2;simp [ha]; omega
  omega
section
variable {K:Type} [DecidableEq K]
def tx (L:List K) (k:K):List K:=if k∈L then L else L++[k]
def DK (σ:Nat→K):Nat→List K
 | 0=>[]
 | i+1=>tx (DK σ i) (σ i)
theorem zd {L:List K} {k x:K}:x∈tx L k↔x∈L∨x=k:=by
 unfold tx;split
 ·rename_i h;constructor
  ·exact .inl
  ·rintro (h'|rfl)
   ·exact h'
   ·exact h
 ·simp
theorem jG {σ:Nat→K} {i:Nat} {s:K}:s∈DK σ i↔∃a,a<i∧σ a=s:=by
 induction i with
 | zero=>simp [DK]
 | succ i ih=>
  rw [DK,zd,ih];constructor
  ·rintro (⟨a,h1,h2⟩|rfl)
   ·exact ⟨a,by omega,h2⟩
   ·exact ⟨i,by omega,rfl⟩
  ·rintro ⟨a,h1,h2⟩
   by_cases h:a=i
   ·subst h; exact .inr h2.symm
   ·exact .inl ⟨a,by omega,h2⟩
theorem yt {σ:Nat→K} {i j:Nat} (h:i≤j):∃r,DK σ j=DK σ i++r:=by
 obtain ⟨k,rfl⟩:=Nat.le.dest h;clear h;induction k with
 | zero=>exact ⟨[],by simp⟩
 | succ k ih=>
  obtain ⟨r,hr⟩:=ih;rw [←Nat.add_assoc,DK,tx];split
  ·exact ⟨r,hr⟩
  ·exact ⟨r++[σ (i+k)],by simp [hr]⟩
theorem rl (σ:Nat→K) (i:Nat):(DK σ i).length≤i:=by
 induction i with
 | zero=>simp [DK]
 | succ i ih=>
  rw [DK,tx];split
  ·omega
  ·simp; omega
def mS (σ:Nat→K) (i:Nat):Nat:=(DK σ (i+1)).idxOf (σ i)
theorem ol {σ:Nat→K} {i j:Nat} (h:i<j):mS σ i=(DK σ j).idxOf (σ i):=by
 obtain ⟨r,hr⟩:=yt (σ:=σ) (i:=i+1) (j:=j) h;unfold mS;rw [hr,List.idxOf_append,if_pos (jG.2 ⟨i,by omega,rfl⟩)]
theorem gL {σ:Nat→K} {i j:Nat} (h:i<j):mS σ i<(DK σ j).length:=by
 rw [ol h]; exact List.idxOf_lt_length_of_mem (jG.2 ⟨i,h,rfl⟩)
theorem vR {L:List K} {a b:K} (ha:a∈L) (h:L.idxOf a=L.idxOf b):a=b:=by
 have h1:=List.idxOf_lt_length_of_mem ha;have e1:L[L.idxOf a]'h1=a:=by simp
 have h2:L.idxOf b<L.length:=by omega
 have e2:L[L.idxOf b]'h2=b:=by simp
 rw [←e1,←e2];congr 1
theorem fq {σ:Nat→K} {i j:Nat}:mS σ i=mS σ j↔σ i=σ j:=by
 constructor
 ·intro h;rw [ol (j:=max i j+1) (by omega),ol (i:=j) (j:=max i j+1) (by omega)] at h;exact vR (jG.2 ⟨i,by omega,rfl⟩) h
 ·intro h;rw [ol (j:=max i j+1) (by omega),ol (i:=j) (j:=max i j+1) (by omega),h]
theorem Fb {σ:Nat→K} {i j:Nat} (h:i<j):(DK σ j)[mS σ i]?=some (σ i):=by
 have hlt:=gL (σ:=σ) h;rw [Ii hlt];simp [ol h]
theorem nv {σ:Nat→K} {i:Nat} (h:σ i∉DK σ i):mS σ i=(DK σ i).length:=by
 unfold mS;rw [DK,tx,if_neg h,List.idxOf_append,if_neg h];simp
theorem AZ {σ:Nat→K} {i:Nat} (h:σ i∈DK σ i):mS σ i<(DK σ i).length:=by
 unfold mS;rw [DK,tx,if_pos h];exact List.idxOf_lt_length_of_mem h
theorem rk {σ:Nat→K} {i:Nat} (h:σ i∉DK σ i):DK σ (i+1)=DK σ i++[σ i]:=by rw [DK,tx,if_neg h]
theorem li {σ:Nat→K} {i:Nat} (h:σ i∈DK σ i):DK σ (i+1)=DK σ i:=by rw [DK,tx,if_pos h]
theorem yT {σ:Nat→K} {n c:Nat} (h:c<(DK σ n).length):∃i,i<n∧mS σ i=c∧∀j,j<i→mS σ j≠c:=by
 induction n with
 | zero=>simp [DK] at h
 | succ n ih=>
  by_cases hc:c<(DK σ n).length
  ·obtain ⟨i,d,b⟩:=ih hc;exact ⟨i,by omega,b⟩
  ·by_cases hm:σ n∈DK σ n
   ·rw [li hm] at h; omega
   ·rw [rk hm] at h;simp at h;refine ⟨n,by omega,by rw [nv hm]; omega,fun j a=>?_⟩;have:=gL (σ:=σ) a;omega
variable {K':Type} [DecidableEq K']
theorem um {σ:Nat→K} {τ:Nat→K'} {n:Nat} (h:∀i j,i<n→j<n→(σ i=σ j↔τ i=τ j)):∀i,i≤n→(DK σ i).length=(DK τ i).length∧∀j,j<i→mS σ j=mS τ j:=by
 intro i;induction i with
 | zero=>intro _; exact ⟨rfl,fun j g=>by omega⟩
 | succ i ih=>
  intro k;obtain ⟨c,b⟩:=ih (by omega);have d:σ i∈DK σ i↔τ i∈DK τ i:=by
   rw [jG,jG];constructor
   ·rintro ⟨a,ha,e⟩; exact ⟨a,ha,(h a i (by omega) (by omega)).1 e⟩
   ·rintro ⟨a,ha,e⟩; exact ⟨a,ha,(h a i (by omega) (by omega)).2 e⟩
  by_cases hm:σ i∈DK σ i
  ·rw [li hm,li (d.1 hm)];refine ⟨c,fun j g=>?_⟩
   by_cases e:j=i
   ·subst e;obtain ⟨a,ha,e⟩:=jG.1 hm;rw [fq.2 e.symm,fq.2 ((h a j (by omega) (by omega)).1 e).symm];exact b a ha
   ·exact b j (by omega)
  ·have f:=fun x=>hm (d.2 x)
   rw [rk hm,rk f];refine ⟨by simp [c],fun j g=>?_⟩
   by_cases e:j=i
   ·subst e;rw [nv hm,nv f,c]
   ·exact b j (by omega)
theorem xQ {σ:Nat→K} {τ:Nat→K'} {n:Nat} (h:∀i j,i<n→j<n→σ i=σ j→τ i=τ j):(DK τ n).length≤(DK σ n).length∧((DK σ n).length=(DK τ n).length→∀i j,i<n→j<n→τ i=τ j→σ i=σ j):=by
 -- the first place of each key of τ
 have first:∀m,m≤n→∃L:List Nat,(∀x∈L,x<m)∧L.length=(DK τ m).length∧(L.map τ).Nodup:=by
  intro m;induction m with
  | zero=>intro _; exact ⟨[],by simp,rfl,by simp⟩
  | succ m ih=>
   intro B;obtain ⟨L,c,k,d⟩:=ih (by omega)
   by_cases hd:τ m∈DK τ m
   ·exact ⟨L,fun x hx=>by have:=c x hx; omega,by rw [li hd,k],d⟩
   ·refine ⟨L++[m],?_,by rw [rk hd]; simp [k],?_⟩
    ·intro x hx;rcases Iv.1 hx with hx|hx
     ·have:=c x hx; omega
     ·have:=Iu.1 hx; omega
    ·rw [ID,List.nodup_append];refine ⟨d,by simp,fun a ha b hb=>?_⟩;obtain ⟨x,hx,rfl⟩:=IP.1 ha;have hb:b=τ m:=by simpa using hb
     subst hb;exact fun e=>hd (jG.2 ⟨x,c x hx,e⟩)
 obtain ⟨L,c,k,d⟩:=first n (Nat.le_refl _);have u:(L.map (mS σ)).Nodup:=by
  refine List.pairwise_map.2 ((List.pairwise_map.1 d).imp_of_mem fun {a b} ha hb v z=>v ?_);exact h a b (c a ha) (c b hb) (fq.1 z)
 have s:∀x∈L.map (mS σ),x<(DK σ n).length:=by
  intro x hx;obtain ⟨a,ha,rfl⟩:=IP.1 hx;exact gL (c a ha)
 refine ⟨?_,fun D i j r o w=>?_⟩
 ·have:=gG _ _ u s;simp at this; omega
 ·by_cases hc:σ i=σ j
  ·exact hc
  exfalso
  -- one of the two is new among the representatives
  have key:∀x,x<n→mS σ x∈L.map (mS σ):=by
   intro x hx
   by_cases hin:mS σ x∈L.map (mS σ)
   ·exact hin
   ·exfalso;have:=gG (DK σ n).length (mS σ x::L.map (mS σ)) (List.nodup_cons.2 ⟨hin,u⟩) (fun y hy=>by
     rcases IN.1 hy with rfl|hy
     ·exact gL hx
     ·exact s y hy)
    simp at this; omega
  obtain ⟨a,ha,g⟩:=IP.1 (key i r);obtain ⟨b,hb,f⟩:=IP.1 (key j o);have g:=fq.1 g;have f:=fq.1 f;have t:τ a=τ b:=by rw [h a i (c a ha) r g,w,h b j (c b hb) o f]
  have A:a=b:=by
   by_cases e:a=b
   ·exact e
   ·exfalso;obtain ⟨p,hp,rfl⟩:=IE.1 ha;obtain ⟨q,hq,rfl⟩:=IE.1 hb;have l:=List.pairwise_iff_getElem.1 d;rcases Nat.lt_trichotomy p q with hl|hl|hl
    ·have:=l p q (by simpa using hp) (by simpa using hq) hl;simp at this; exact this t
    ·subst hl; exact e rfl
    ·have:=l q p (by simpa using hq) (by simpa using hp) hl;simp at this; exact this t.symm
  subst A;exact hc (g.symm.trans f)
end
def lI (f:Nat→Int) (n i:Nat):List Int:=(List.range i).map f++List.replicate (n - i) 0
theorem yB {f:Nat→Int} {n i:Nat} (h:i≤n):(lI f n i).length=n:=by simp [lI]; omega
theorem yA {f:Nat→Int} {n i:Nat} (hi:i<n):(lI f n i).set i (f i)=lI f n (i+1):=by
 unfold lI;rw [List.set_append,if_neg (by simp),IZ,ID,Iw];congr 1;simp only [IC,IS,Nat.sub_self];obtain ⟨k,hk⟩:∃k,n - i=k+1:=⟨n - i - 1,by omega⟩;rw [hk,List.replicate_succ,List.set_cons_zero,show n - (i+1)=k by omega];rfl
theorem nS {f:Nat→Int} {n:Nat}:lI f n 0=List.replicate n 0:=by simp [lI]
theorem pU {f:Nat→Int} {n:Nat}:lI f n n=(List.range n).map f:=by simp [lI]
theorem pY {f:Nat→Int} {n i:Nat} (hi:i<n):dE (lI f n i) (i:Int) (f i)=some (lI f n (i+1)):=by
 rw [dk (by rw [yB (by omega)]; exact hi),yA hi]
section
variable {K K':Type} [DecidableEq K] [BEq K'] [LawfulBEq K']
def dg (P:K→Prop) (enc:K→K') (m:List (K'×Int)) (L:List K):Prop:=
 m.length=L.length∧∀k,P k→bY m (enc k)=if k∈L then some ((L.idxOf k:Nat):Int) else none
omit [LawfulBEq K'] in
theorem nw:∀ {m:List (K'×Int)} {k:K'} {v:Int},bY m k=none→(dM m k v).length=m.length+1
 | [],_,_,_=>rfl
 | p::m,k,v,h=>by
  unfold dM;cases hp:p.1 == k
  ·have:bY m k=none:=by unfold bY at h ⊢; rw [List.find?_cons,hp] at h; exact h
   simp [nw this]
  ·unfold bY at h; rw [List.find?_cons,hp] at h; simp at h
variable {P:K→Prop} {enc:K→K'} {m:List (K'×Int)} {L:List K} {k:K}
omit [LawfulBEq K'] in
theorem dg.nil:dg P enc [] ([]:List K):=⟨rfl,fun k _=>by simp [bY]⟩
omit [LawfulBEq K'] in
theorem dg.old (h:dg P enc m L) (hp:P k) (hk:k∈L):(bY m (enc k)).isSome=true∧(bY m (enc k)).getD 0=((L.idxOf k:Nat):Int):=by
 rw [h.2 k hp,if_pos hk]; exact ⟨rfl,rfl⟩
theorem dg.new (h:dg P enc m L) (inj:∀k k',P k→P k'→enc k=enc k'→k=k') (hp:P k) (hk:k∉L):(bY m (enc k)).isSome=false∧dg P enc (dM m (enc k) (L.length:Int)) (L++[k]):=by
 have a:bY m (enc k)=none:=by rw [h.2 k hp,if_neg hk]
 refine ⟨by rw [a]; rfl,by rw [nw a]; simp [h.1],fun q hq=>?_⟩
 by_cases e:q=k
 ·subst e;rw [om,if_pos (by simp),List.idxOf_append,if_neg hk];simp
 ·rw [pB (fun b=>e (inj _ _ hq hp b)),h.2 q hq]
  by_cases hql:q∈L
  ·rw [if_pos hql,if_pos (by simp [hql]),List.idxOf_append,if_pos hql]
  ·rw [if_neg hql,if_neg (by simp [hql,e])]
end
end Go.Lx
namespace Go.Proofs.YtggpjcdhflcfmaaGreatDoor
open Go.Lx
def dJ (d:T_DFA) (b:Nat):Int:=d.Class.getD b 0
def dG {K:Type} [DecidableEq K] (σ:Nat→K) (i:Nat):Int:=(mS σ i:Int)
def dC (d:T_DFA):T_DFA:=⟨(List.range 256).map (dG (dJ d)),d.Next.map (fun r=>(DK (dJ d) 256).map fun c=>r.getD c.toNat 0),d.Accept⟩
theorem qv {K K':Type} [DecidableEq K] [BEq K'] [LawfulBEq K'] {P:K→Prop} {enc:K→K'} {m:List (K'×Int)} {σ:Nat→K} {i:Nat} (h:dg P enc m (DK σ i)) (inj:∀k k',P k→P k'→enc k=enc k'→k=k') (hp:P (σ i)) :
 ((bY m (enc (σ i))).isSome=true∧(bY m (enc (σ i))).getD 0=dG σ i∧dg P enc m (DK σ (i+1))∧DK σ (i+1)=DK σ i)∨
 ((bY m (enc (σ i))).isSome=false∧((DK σ i).length:Int)=dG σ i∧dg P enc (dM m (enc (σ i)) ((DK σ i).length:Int)) (DK σ (i+1))∧DK σ (i+1)=DK σ i++[σ i]):=by
 by_cases hm:σ i∈DK σ i
 ·obtain ⟨b,a⟩:=h.old hp hm;refine .inl ⟨b,?_,by rw [li hm]; exact h,li hm⟩;rw [a,dG,mS,li hm]
 ·obtain ⟨b,a⟩:=h.new inj hp hm;exact .inr ⟨b,by rw [dG,nv hm],by rw [rk hm]; exact a,rk hm⟩
theorem yj {d:T_DFA} (h:Ok d) {b:Nat} (hb:b<256):bD d.Class (b:Int)=some (dJ d b):=by
 have:=aZ (l:=d.Class) (i:=b) (by rw [h.cls]; exact hb);rw [this]; simp [dJ,Ih,h.cls,hb]
theorem ez {α β:Type} {l:List α} {i:Nat} (f:α→β) (h:i<l.length):(l.take (i+1)).map f=(l.take i).map f++[f l[i]]:=by
 rw [Ix h,ID]; rfl
theorem Az {d:T_DFA} (h:Ok d):M.m6 d=some (dC d):=by
 refine Is.eq ?_;unfold M.m6;have u:((d.Class.length:Nat):Int)=256:=by rw [h.cls]; rfl
 rw [u];refine Is.bnq (x:=List.replicate 256 0) (by rw [show (256:Int)=((256:Nat):Int) from rfl,eI (by omega)]; rfl) ?_;refine Is.bnd (P:=fun a=>a=(DK (dJ d) 256,(List.range 256).map (dG (dJ d)))) (Is.upto (fun i a=>dg (fun _=>True) id a.1 (DK (dJ d) i)∧a.2=(DK (dJ d) i,lI (dG (dJ d)) 256 i,(i:Int))) 256 (by omega) ⟨dg.nil,by rw [nS]; rfl⟩ ?_ ?_) ?_
 ·rintro i ⟨m,_⟩ g ⟨o,rfl⟩;simp only [] at o ⊢;have hlen:=rl (dJ d) i;refine Is.dt (by omega) (Is.bnq (yj h g) (Is.bnd (P:=fun r=>dg (fun _=>True) id r.1 (DK (dJ d) (i+1))∧r.2=(DK (dJ d) (i+1),dG (dJ d) i)) ?_ ?_))
  ·rcases qv o (fun _ _ _ _ e=>e) trivial with ⟨f,n,l,q⟩|⟨f,n,l,q⟩
   ·simp only [id] at f n;rw [f,n];exact Is.cf rfl (Is.pure ⟨l,by rw [q]⟩)
   ·simp only [id] at f l;rw [f];exact Is.ct rfl (Is.bnq (bN (by simp; omega)) (Is.pure ⟨l,by rw [n,q]⟩))
  ·rintro ⟨w,_⟩ ⟨f,rfl⟩;exact Is.bnq (pY g) (Is.bnq (aM (by omega)) (Is.next ⟨f,rfl⟩))
 ·rintro ⟨m,_⟩ ⟨o,rfl⟩;exact Is.df (by omega) (Is.stop (by rw [pU]))
 have v:=rl (dJ d) 256;have s:∀c∈DK (dJ d) 256,0≤c∧c<(cols d:Int):=fun c k=>by
  obtain ⟨b,hb,rfl⟩:=jG.1 k;exact oA h hb
 unfold dC;generalize DK (dJ d) 256=C at v s ⊢;rintro _ rfl;have hn:=h.max;refine Is.bnd (P:=fun r=>r=d.Next.map (fun r=>C.map fun c=>r.getD c.toNat 0)) (Is.upto (fun i a=>a=((d.Next.take i).map (fun r=>C.map fun c=>r.getD c.toNat 0),(i:Int))) d.Next.length (by omega) (by simp) ?_ ?_) ?_
 ·rintro i _ g rfl;simp only [];refine Is.dt (by omega) (Is.bnd (P:=fun r=>r=(d.Next.take (i+1)).map (fun r=>C.map fun c=>r.getD c.toNat 0)) ?_ ?_)
  ·refine Is.bnq (aZ g) (Is.bnd (P:=fun r=>r=C.map fun c=>d.Next[i].getD c.toNat 0) (Is.upto (fun j a=>a=((C.take j).map (fun c=>d.Next[i].getD c.toNat 0),(j:Int))) C.length (by omega) (by simp) ?_ ?_) ?_)
   ·rintro j _ p rfl;simp only [];have k:=s _ (Ip p);have t:=h.row _ (Ip g);refine Is.dt (by omega) (Is.bnq (aZ p) (Is.bnq (dZ (d:=0) k.1 (by rw [t.1]; exact k.2)) (Is.bnq (bN (by simp; omega)) (Is.bnq (aM (by omega)) (Is.next ?_)))));rw [ez _ p]
   ·rintro _ rfl;exact Is.df (by simp) (Is.stop (by simp))
   ·rintro _ rfl;refine Is.bnq (bN (by simp; omega)) (Is.pure ?_);rw [ez _ g]
  ·rintro _ rfl;exact Is.bnq (aM (by omega)) (Is.next rfl)
 ·rintro _ rfl;exact Is.df (by simp) (Is.stop (by simp))
 ·rintro _ rfl;exact Is.pure rfl
def Full (d:T_DFA):Prop:=∀c,c<cols d→∃b,b<256∧dJ d b=(c:Int)
section
variable {d:T_DFA} (h:Ok d)
include h
omit h in
theorem rW {b:Nat} (hb:b<256):dJ (dC d) b=dG (dJ d) b:=by simp [dJ,dC,Ih,hb]
omit h in
theorem rV {s:Nat} (hs:s<d.Next.length):(dC d).Next.getD s []=(DK (dJ d) 256).map fun c=>(d.Next.getD s []).getD c.toNat 0:=by
 simp [dC,Ih,hs]
theorem jq:cols (dC d)=(DK (dJ d) 256).length:=by
 unfold cols;rw [rV (by have:=h.pos; omega),IC]
omit h in
theorem uW {s:Int} (hs:qH d s) {b:Nat} (hb:b<256):bM (dC d) s b=bM d s b:=by
 unfold bM;split
 ·rfl
 ·rename_i h0;rw [rV (by have:=hs.2; omega)];have e:(dC d).Class.getD b 0=dG (dJ d) b:=rW hb;rw [e];simp only [dG,IH];rw [Ih,IT,Fb hb];rfl
theorem pQ:Full (dC d):=by
 intro c hc;rw [jq h] at hc;obtain ⟨b,hb,e,_⟩:=yT hc;exact ⟨b,hb,by rw [rW hb,dG,e]⟩
theorem tO:Ok (dC d) where
 cls:=by simp [dC]
 pos:=by simpa [dC] using h.pos
 max:=by simpa [dC] using h.max
 acc:=by simpa [dC] using h.acc
 col:=by
  rw [jq h];have:=gL (σ:=dJ d) (i:=0) (j:=256) (by omega);omega
 inc c a:=by
  simp only [dC,IP,IQ] at a;obtain ⟨b,hb,rfl⟩:=a;rw [jq h];have:=gL (σ:=dJ d) hb;exact ⟨by simp [dG],by simp [dG]; omega⟩
 row r hr:=by
  simp only [dC,IP] at hr;obtain ⟨q,hq,rfl⟩:=hr;have f:=h.row q hq;refine ⟨by rw [IC,jq h],fun t e=>?_⟩;simp only [IP] at e;obtain ⟨c,a,rfl⟩:=e;obtain ⟨b,hb,rfl⟩:=jG.1 a;have:=oA h hb;have:=f.2 _ (cV (l:=q) (d:=0) (i:=(dJ d b).toNat) (by rw [f.1]; unfold dJ; omega));simpa [dC] using this
 accs:=h.accs
end
def rr (d:T_DFA) (s:Int) (w:Str):Int:=eu d (walkN d s w)
def Live (d:T_DFA) (s:Int):Prop:=∃w,0≤rr d s w
theorem lp (d:T_DFA) (s:Int):rr d s []=eu d s:=rfl
theorem dW (d:T_DFA) (s:Int) (c:UInt8) (w:Str):rr d s (c::w)=rr d (bM d s c.toNat) w:=rfl
theorem ju {d:T_DFA} {s:Int} (hs:s<0) (w:Str):rr d s w=-1:=by
 induction w generalizing s with
 | nil=>simp [rr,walkN,eu,hs]
 | cons c w ih=>rw [dW]; exact ih (by unfold bM; rw [if_pos hs]; omega)
theorem BP {d:T_DFA} (h:Ok d) {s:Int} (hs:qH d s):-1≤eu d s:=by
 unfold eu;split
 ·omega
 ·exact h.accs _ (cV (by rw [h.acc]; have:=hs.2; omega))
theorem CC {d:T_DFA} (h:Ok d) {s:Int} (hs:qH d s) (w:Str):-1≤rr d s w:=BP h (fD h hs w)
theorem xv {d:T_DFA} (h:Ok d) {s:Int} (hs:qH d s) (w:Str):rr (dC d) s w=rr d s w:=by
 induction w generalizing s with
 | nil=>rfl
 | cons c w ih=>
  rw [dW,dW,uW hs c.toNat_lt];exact ih (cQ h hs c.toNat_lt)
theorem tZ {d:T_DFA} (h:Ok d) (hf:Full d) {s c:Nat} (hs:s<d.Next.length) (hc:c<cols d):∃b,b<256∧bM d (s:Int) b=(d.Next.getD s []).getD c 0:=by
 obtain ⟨b,hb,e⟩:=hf c hc;refine ⟨b,hb,?_⟩;unfold bM;unfold dJ at e;rw [if_neg (by omega),e]; simp
theorem pV {d:T_DFA} (h:Ok d) {s b:Nat} (hs:s<d.Next.length) (hb:b<256):∃c,c<cols d∧dJ d b=(c:Int)∧bM d (s:Int) b=(d.Next.getD s []).getD c 0:=by
 have:=oA h hb;refine ⟨(dJ d b).toNat,by unfold dJ; omega,by unfold dJ; omega,?_⟩;unfold bM;rw [if_neg (by omega)]; simp [dJ]
theorem kX {d:T_DFA} (hf:Full d):cols d≤256:=by
 -- each column's byte
 have key:∀n,n≤cols d→∃l:List Nat,l.length=n∧(∀x∈l,x<256)∧l.map (dJ d)=(List.range n).map (fun (i:Nat)=>(i:Int)):=by
  intro n;induction n with
  | zero=>intro _; exact ⟨[],rfl,by simp,rfl⟩
  | succ n ih=>
   intro hn;obtain ⟨l,h,g,f⟩:=ih (by omega);obtain ⟨b,hb,e⟩:=hf n (by omega);refine ⟨l++[b],by simp [h],fun x hx=>?_,by rw [ID,f,IZ,ID]; simp [e]⟩;rcases Iv.1 hx with hx|hx
   ·exact g x hx
   ·rw [Iu.1 hx]; exact hb
 obtain ⟨l,h,g,f⟩:=key (cols d) (Nat.le_refl _);have hn:l.Nodup:=by
  have:(l.map (dJ d)).Nodup:=by
   rw [f];refine List.pairwise_map.2 (List.nodup_range.imp fun {a b} c j=>c ?_);omega
  exact List.Pairwise.of_map (dJ d) (fun a b c e=>c (by rw [e])) this
 have:=gG 256 l hn g;omega
theorem Bx {d:T_DFA} (h:Ok d) (hf:Full d):cols d≤9223372036854775807:=by have:=kX hf; omega
def bad (l:List Bool) (t:Int):Bool:=decide (0≤t) && !(l.getD t.toNat false)
def jK (l:List Bool):Nat:=l.countP (fun b=>!b)
theorem vW {l:List Bool} {i:Nat} (hi:i<l.length) (h:l[i]=false):jK (l.set i true)+1=jK l:=by
 unfold jK;induction l generalizing i with
 | nil=>simp at hi
 | cons a l ih=>
  cases i with
  | zero=>simp at h; subst h; simp
  | succ i=>
   have:=ih (i:=i) (by simpa using hi) (by simpa using h);simp only [List.set_cons_succ,List.countP_cons];omega
theorem yd (l:List Bool):jK l≤l.length:=List.countP_le_length
theorem zi {l:List Bool} {t:Int} (ht:t<l.length):M.j3 t l=some (decide (0≤t) && l.getD t.toNat false):=by
 refine Is.eq ?_;unfold M.j3;refine Is.bnd (P:=fun b=>b=(decide (0≤t) && l.getD t.toNat false)) (Is.dcd (fun h=>?_) fun h=>Is.pure ?_) (fun b hb=>Is.pure hb)
 ·exact Is.bnq (dZ (d:=false) h ht) (Is.pure (by simp [h]))
 ·simp [h]
def tE (d:T_DFA) (l:List Bool) (s:Nat):Prop:=∀t∈d.Next.getD s [],0≤t→l.getD t.toNat false=true→l.getD s false=true
theorem Bc {d:T_DFA} (h:Ok d) (hf:Full d):Is (M.m7 d) (fun l=>l.length=d.Next.length∧∀s,s<d.Next.length→(l.getD s false=true↔Live d (s:Int))):=by
 unfold M.m7;have a4:=h.max;have hacc:=h.acc;refine Is.bnq (eI (by omega)) ?_;refine Is.bnd (P:=fun l=>l.length=d.Next.length∧∀s,s<d.Next.length→l.getD s false=decide (0≤d.Accept.getD s 0))
  (Is.upto (fun i f=>f.2=(i:Int)∧f.1.length=d.Next.length∧∀s,s<i→f.1.getD s false=decide (0≤d.Accept.getD s 0)) d.Accept.length (by omega) ⟨rfl,by simp,by omega⟩ ?_ ?_) ?_
 ·rintro i ⟨l,_⟩ v ⟨rfl,g,z⟩;simp only [] at g z ⊢;refine Is.dt (by omega) (Is.bnq (aZ v) (Is.bnq (dk (by omega)) (Is.bnq (aM (by omega)) (Is.next ⟨rfl,by simpa using g,fun s hs=>?_⟩))));simp only [Ih,IU]
  by_cases e:i=s
  ·subst e;rw [if_pos rfl,if_pos (by omega)];simp [v]
  ·rw [if_neg e];have:=z s (by omega);simpa [Ih] using this
 ·rintro ⟨l,_⟩ ⟨rfl,g,z⟩;exact Is.df (by omega) (Is.stop ⟨g,fun s hs=>z s (by omega)⟩)
 intro R ⟨Y,F⟩;have Q:∀s:Nat,s<d.Next.length→R.getD s false=true→Live d (s:Int):=fun s hs g=>⟨[],by
  rw [F s hs] at g;have g:=of_decide_eq_true g;rw [lp]; unfold eu;rw [if_neg (by omega)]; simpa using g⟩
 refine Is.bnd (P:=fun l=>l.length=d.Next.length∧∀s,s<d.Next.length→(l.getD s false=true↔Live d (s:Int))) ?_ (fun l hl=>Is.pure hl)
 -- what holds all the time
 let G:List Bool→Prop:=fun l=>l.length=d.Next.length∧(∀s,s<d.Next.length→l.getD s false=true→Live d (s:Int))∧∀s,s<d.Next.length→0≤d.Accept.getD s 0→l.getD s false=true
 refine Is.while (fun f=>G f.1∧(f.2=false→∀s,s<d.Next.length→tE d f.1 s)) (fun f=>2*jK f.1+(bif f.2 then 1 else 0)) ⟨⟨Y,Q,fun s hs ha=>by rw [F s hs]; simpa using ha⟩,fun h=>by cases h⟩ (by have:=yd R; simp only [cond_true]; omega) ?_;rintro ⟨l,U⟩ ⟨D,y⟩;simp only [] at D y ⊢;cases U
 ·-- the end
  refine Is.cf rfl (Is.stop ⟨D.1,fun s hs=>⟨D.2.1 s hs,fun ⟨w,m⟩=>?_⟩⟩);have y:=y rfl;clear F Q;induction w generalizing s with
  | nil=>
   rw [lp] at m; unfold eu at m;rw [if_neg (by omega)] at m;exact D.2.2 s hs (by simpa using m)
  | cons c w ih=>
   rw [dW] at m;obtain ⟨k,hk,_,e⟩:=pV h hs c.toNat_lt;have S:=cQ h (s:=(s:Int)) ⟨by omega,by omega⟩ c.toNat_lt
   by_cases K:bM d (s:Int) c.toNat<0
   ·rw [ju K] at m; omega
   ·obtain ⟨t,q⟩:=II (show 0≤bM d (s:Int) c.toNat by omega);rw [q] at m S;have V:t<d.Next.length:=by have:=S.2; omega
    have:=ih t V ⟨w,m⟩ m;refine y s hs (t:Int) ?_ (by omega) (by simpa using this);have e2:(t:Int)=(d.Next.getD s []).getD k 0:=by rw [←e,q]
    rw [e2];exact cV (by rw [(eH h hs).1]; exact hk)
 ·-- a round
  refine Is.ct rfl (Is.upto (fun i f=>f.2.2=(i:Int)∧G f.1∧((f.2.1=true∧jK f.1<jK l)∨(f.2.1=false∧f.1=l∧∀s,s<i→tE d l s))) d.Next.length (by omega) ⟨rfl,D,.inr ⟨rfl,rfl,fun s hs=>by omega⟩⟩ ?_ ?_)
  ·rintro i ⟨o,T,_⟩ v ⟨rfl,j,u⟩;simp only [] at j u ⊢;have B:i<o.length:=by rw [j.1]; exact v
   have A:=eH h v;have I:d.Next.getD i []=d.Next[i]:=by simp [Ih,v]
   rw [I] at A;refine Is.dt (by omega) (Is.bnd (P:=fun r=>G r.1∧((r.2=true∧jK r.1<jK l)∨(r.2=false∧r.1=l∧∀s,s<i+1→tE d l s))) ?_ ?_)
   ·refine Is.bnq (aZ v) (Is.bnd (P:=fun b=>b=(!o[i] && d.Next[i].any fun t=>decide (0≤t) && o.getD t.toNat false)) ?_ ?_)
    ·refine Is.bnq (aZ B) (Is.cnd (fun e=>?_) fun e=>Is.pure (by rw [e]; rfl));refine Is.bnq (oM (p:=fun t=>decide (0≤t) && o.getD t.toNat false) (fun x hx=>zi (by rw [j.1]; exact (A.2 x hx).2)) ?_) (Is.pure (by rw [e]; simp));rw [A.1];exact Bx h hf
    ·rintro _ rfl;cases hv:(!o[i] && d.Next[i].any fun t=>decide (0≤t) && o.getD t.toNat false)
     ·refine Is.cf rfl (Is.pure ⟨j,?_⟩);rcases u with u|⟨N,rfl,J⟩
      ·exact .inl u
      ·refine .inr ⟨N,rfl,fun s hs=>?_⟩
       by_cases es:s=i
       ·subst es;intro t q K W;rw [I] at q;have X:o.getD s false=o[s]:=by simp [Ih,B]
        rw [X];cases hls:o[s]
        ·rw [hls] at hv;simp only [Bool.not_false,Bool.true_and] at hv;have:=List.any_eq_false.1 hv t q;rw [eg K,W] at this;simp at this
        ·rfl
       ·exact J s (by omega)
     ·refine Is.ct rfl (Is.bnq (dk B) (Is.pure ⟨⟨by simpa using j.1,fun s hs=>?_,fun s hs ha=>?_⟩,.inl ⟨rfl,?_⟩⟩))
      ·simp only [Ih,IU]
       by_cases e:i=s
       ·subst e;intro _;simp only [Bool.and_eq_true] at hv;obtain ⟨t,q,H⟩:=List.any_eq_true.1 hv.2;simp only [Bool.and_eq_true,decide_eq_true_eq] at H;obtain ⟨n,rfl⟩:=II H.1;have hn:n<d.Next.length:=by have:=(A.2 _ q).2; omega
        obtain ⟨w,m⟩:=j.2.1 n hn (by simpa using H.2);obtain ⟨c,y,ec⟩:=IE.1 q;obtain ⟨b,hb,L⟩:=tZ h hf v (c:=c) (by rw [←A.1]; exact y);rw [I] at L;have:(d.Next[i]).getD c 0=(n:Int):=by simp [Ih,y,ec]
        rw [this] at L;refine ⟨UInt8.ofNat b::w,?_⟩;have N:(UInt8.ofNat b).toNat=b:=by simp; omega
        rw [dW,N,L]; exact m
       ·rw [if_neg e];have:=j.2.1 s hs;simpa [Ih] using this
      ·simp only [Ih,IU]
       by_cases e:i=s
       ·subst e; rw [if_pos rfl,if_pos B]; rfl
       ·rw [if_neg e];have:=j.2.2 s hs ha;simpa [Ih] using this
      ·have a5:=vW B (by simp at hv; exact hv.1);rcases u with ⟨_,g⟩|⟨_,rfl,_⟩ <;> simp only [] <;> omega
   ·rintro ⟨l2,m2⟩ ⟨g,z⟩;exact Is.bnq (aM (by omega)) (Is.next ⟨rfl,g,z⟩)
  ·rintro ⟨o,T,_⟩ ⟨rfl,j,u⟩;simp only [] at j u ⊢;refine Is.df (by omega) (Is.stop ?_);rcases u with ⟨rfl,g⟩|⟨rfl,rfl,J⟩
   ·exact ⟨⟨j,fun h=>by cases h⟩,by simp only [cond_true]; omega⟩
   ·exact ⟨⟨j,fun _=>J⟩,by simp only [cond_true,cond_false]; omega⟩
def cm (l:List Bool) (d:T_DFA):T_DFA:=⟨d.Class,d.Next.map (·.map fun t=>if bad l t then -1 else t),d.Accept⟩
theorem zF {l:List Int} (h:l.length*8≤140737488355328):M.d7 l=some l:=by
 unfold M.d7;rw [bN (by simpa using h)]; rfl
theorem xK {d:T_DFA} (h:Ok d) (hf:Full d):Is (M.l4 d) (fun e=>∃l:List Bool,e=cm l d∧∀s,s<d.Next.length→(l.getD s false=true↔Live d (s:Int))):=by
 unfold M.l4;have v:=h.max;have w:=kX hf;refine Is.bnd (Bc h hf) fun l ⟨hl,o⟩=>?_
 refine Is.bnd (P:=fun r=>r=(cm l d).Next) (Is.upto (fun i f=>f=((d.Next.take i).map (·.map fun t=>if bad l t then -1 else t),(i:Int))) d.Next.length (by omega) (by simp) ?_ ?_) ?_
 ·rintro i _ g rfl;simp only [];have m:=h.row _ (Ip g);generalize hq:d.Next[i]=q at m;refine Is.dt (by omega) (Is.bnd (P:=fun r=>r=(d.Next.take (i+1)).map (·.map fun t=>if bad l t then -1 else t)) ?_ ?_)
  ·refine Is.bnq ((aZ g).trans (congrArg some hq)) (Is.bnq (zF (by omega)) (Is.bnd (P:=fun r=>r=q.map fun t=>if bad l t then -1 else t)
    (Is.upto (fun j f=>f=((q.take j).map (fun t=>if bad l t then -1 else t)++q.drop j,(j:Int))) q.length (by omega) (by simp) ?_ ?_) ?_))
   ·rintro j _ a rfl;simp only [];have p:=m.2 _ (Ip a);generalize hA:(q.take j).map (fun t=>if bad l t then -1 else t)=A;have k:A.length=j:=by rw [←hA]; simp; omega
    have n:q.drop j=q[j]::q.drop (j+1):=List.drop_eq_getElem_cons a;have hlen:(A++q.drop j).length=q.length:=by simp [k]; omega
    have u:bD (A++q.drop j) (j:Int)=some q[j]:=by
     rw [aZ (by rw [hlen]; exact a)];simp [List.getElem_append_right,k]
    refine Is.dt (by omega) (Is.bnd (P:=fun r=>r=(q.take (j+1)).map (fun t=>if bad l t then -1 else t)++q.drop (j+1)) ?_ ?_)
    ·rw [ez _ a,hA];refine Is.bnq u (Is.bnd (P:=fun b=>b=bad l q[j]) (Is.dcd (fun c=>Is.bnq (dZ (d:=false) c (by rw [hl]; exact p.2)) (Is.pure (by simp [bad,c]))) fun c=>Is.pure (by simp [bad,c])) ?_);rintro _ rfl;cases hb:bad l q[j]
     ·refine Is.cf rfl (Is.pure ?_);rw [n]; simp
     ·refine Is.ct rfl (Is.bnq (dk (by rw [hlen]; exact a)) (Is.pure ?_));rw [n,List.set_append,if_neg (by omega),k,Nat.sub_self,List.set_cons_zero,if_pos rfl,Iw]; rfl
    ·rintro _ rfl;exact Is.bnq (aM (by omega)) (Is.next rfl)
   ·rintro _ rfl;exact Is.df (by simp) (Is.stop (by simp))
   ·rintro _ rfl;refine Is.bnq (bN (by simp; omega)) (Is.pure ?_);rw [ez _ g,hq]
  ·rintro _ rfl;exact Is.bnq (aM (by omega)) (Is.next rfl)
 ·rintro _ rfl;exact Is.df (by simp) (Is.stop (by simp [cm]))
 ·rintro _ rfl;exact Is.pure ⟨l,rfl,o⟩
section
variable {d:T_DFA} {l:List Bool} (h:Ok d) (hl:∀s,s<d.Next.length→(l.getD s false=true↔Live d (s:Int)))
theorem pu (hp:1≤d.Next.length):cols (cm l d)=cols d:=by
 simp [cols,cm,Ih,show 0<d.Next.length by omega]
include h in
theorem DS:Ok (cm l d) where
 cls:=h.cls
 pos:=by simpa [cm] using h.pos
 max:=by simpa [cm] using h.max
 acc:=by simpa [cm] using h.acc
 col:=by rw [pu h.pos]; exact h.col
 inc c a:=by rw [pu h.pos]; exact h.inc c a
 row r hr:=by
  simp only [cm,IP] at hr;obtain ⟨q,hq,rfl⟩:=hr;have e:=h.row q hq;have hp:=h.pos;refine ⟨by rw [IC,pu h.pos]; exact e.1,fun t b=>?_⟩;simp only [IP] at b;obtain ⟨c,a,rfl⟩:=b;have:=e.2 c a;simp only [cm,IC];split
  ·exact ⟨by omega,by omega⟩
  ·exact this
 accs:=h.accs
include h in
theorem wQ {s:Int} (hs:qH d s) {b:Nat} (hb:b<256):bM (cm l d) s b=if bad l (bM d s b) then -1 else bM d s b:=by
 unfold bM
 by_cases e:s<0
 ·simp only [if_pos e,bad];rw [eQ (by omega)]; simp
 ·simp only [if_neg e];have a:s.toNat<d.Next.length:=by have:=hs.2; omega
  have c:=eH h a;have g:=oA h hb;have j:(cm l d).Next.getD s.toNat []=(d.Next.getD s.toNat []).map fun t=>if bad l t then -1 else t:=by
   simp [cm,Ih,a]
  have i:(cm l d).Class=d.Class:=rfl;rw [j,i];generalize d.Next.getD s.toNat []=q at c ⊢;generalize d.Class.getD b 0=cc at g ⊢;rw [Ih,IT,Ih];have f:cc.toNat<q.length:=by rw [c.1]; omega
  rw [Ii f]; rfl
include h hl in
theorem yM {s:Int} (hs:qH d s) (w:Str):rr (cm l d) s w=rr d s w:=by
 induction w generalizing s with
 | nil=>rfl
 | cons c w ih=>
  rw [dW,dW,wQ h hs c.toNat_lt];have a:=cQ h hs c.toNat_lt;split
  ·rename_i hb;rw [ju (by omega)];simp only [bad,Bool.and_eq_true,decide_eq_true_eq,Bool.not_eq_true'] at hb;have e:=CC h a w
   by_cases hlt:0≤rr d (bM d s c.toNat) w
   ·exfalso;obtain ⟨t,b⟩:=II hb.1;rw [b] at hlt hb a;have:=(hl t (by have:=a.2; omega)).2 ⟨w,hlt⟩;simp only [IH] at hb;rw [this] at hb; cases hb.2
   ·omega
  ·exact ih a
include h hl in
theorem AS {s:Int} (hs:qH d s) {b:Nat} (hb:b<256) (a:0≤bM (cm l d) s b):Live (cm l d) (bM (cm l d) s b):=by
 rw [wQ h hs hb] at a ⊢;have c:=cQ h hs hb;split at a
 ·omega
 ·rename_i hb';rw [if_neg hb'];simp only [bad,eg a,Bool.true_and,Bool.not_eq_true',Bool.not_eq_false] at hb';obtain ⟨t,f⟩:=II a;rw [f] at hb' c ⊢;obtain ⟨w,e⟩:=(hl t (by have:=c.2; omega)).1 (by simpa using hb');exact ⟨w,by rw [yM h hl c]; exact e⟩
end
theorem AU {d:T_DFA} {l:List Bool} (h:Ok d) (hf:Full d):Full (cm l d):=by
 intro c hc;rw [pu h.pos] at hc;exact hf c hc
theorem kg (n:Int):IntKind.u8.wrap n=n % 256:=by simp [IntKind.wrap,IntKind.bits,IntKind.signed]
def BI (n:Int) (j:Nat):Int:=IntKind.u8.wrap (n / 2 ^ (8*j))
def iG (n:Int):List Int:=(List.range 8).map (BI n)
def jQ (l:List Int):Str:=cX (l.flatMap iG)
theorem pk {l:List Int} (hl:l.length≤1000000):M.h8 l=some (jQ l):=by
 refine Is.eq ?_;unfold M.h8;have d:∀i,((l.take i).flatMap iG).length≤8*l.length:=by
  intro i;have:∀q:List Int,(q.flatMap iG).length=8*q.length:=by
   intro q;induction q with
   | nil=>rfl
   | cons a q ih=>rw [List.flatMap_cons,Ir,ih]; simp [iG]; omega
  rw [this]; simp; omega
 refine Is.bnd (P:=fun r=>r=l.flatMap iG) (Is.upto (fun i b=>b=((l.take i).flatMap iG,(i:Int))) l.length (by omega) (by simp) ?_ ?_) ?_
 ·rintro i _ c rfl;simp only [];have hf:=d i;refine Is.dt (by omega) (Is.bnd (P:=fun r=>r=(l.take (i+1)).flatMap iG) ?_ ?_)
  ·refine Is.bnq (aZ c) (Is.upto (fun j b=>b=((l.take i).flatMap iG++(List.range j).map (BI l[i]),(j:Int))) 8 (by omega) (by simp) ?_ ?_)
   ·rintro j _ e rfl;simp only [];refine Is.dt (by omega) (Is.bnq (dO (by omega) (by omega)) (Is.bnq (x:=l[i] / 2 ^ (8*j)) ?_ (Is.bnq (bN (by rw [Ir]; simp only [IC,IS,Il]; omega)) (Is.bnq (aM (by omega)) (Is.next ?_)))))
    ·unfold sL;rw [if_pos (by omega)];have:min (8*(j:Int)).toNat IntKind.i64.bits=8*j:=by show min _ 64=_; omega
     rw [this]
    ·rw [IZ,ID,Iw]; rfl
   ·rintro _ rfl;refine Is.df (by simp) (Is.stop ?_);rw [Ix c,List.flatMap_append]; simp [iG]
  ·rintro _ rfl;exact Is.bnq (aM (by omega)) (Is.next rfl)
 ·rintro _ rfl;exact Is.df (by simp) (Is.stop (by simp))
 ·rintro _ rfl;exact Is.pure rfl
def tI (n:Int):Prop:=-9223372036854775808≤n∧n≤9223372036854775807
theorem xr {n m:Int} (hn:tI n) (b:tI m) (h:∀j,j<8→BI n j=BI m j):n=m:=by
 have key:∀j,j≤7→n / 2 ^ (8*(7 - j))=m / 2 ^ (8*(7 - j)):=by
  intro j;induction j with
  | zero=>
   intro _;have:=h 7 (by omega);unfold BI at this;rw [kg,kg] at this;simp only [tI] at hn b;simp only [Nat.sub_zero,Nat.reduceMul,Int.reducePow] at this ⊢;omega
  | succ j ih=>
   intro d;have c:=ih (by omega);have a:=h (7 - (j+1)) (by omega);unfold BI at a;rw [kg,kg] at a;have e:2 ^ (8*(7 - j))=(2:Int) ^ (8*(7 - (j+1)))*256:=by
    rw [show 8*(7 - j)=8*(7 - (j+1))+8 by omega,Int.pow_add]; rfl
   rw [e,←Int.ediv_ediv_of_nonneg (Int.pow_nonneg (by omega)),←Int.ediv_ediv_of_nonneg (Int.pow_nonneg (by omega))] at c;omega
 have:=key 7 (by omega);simpa using this
theorem zM (n:Int) (j:Nat):0≤BI n j∧BI n j<256:=by unfold BI; rw [kg]; omega
theorem xP {a b:Int} (ha:0≤a∧a<256) (hb:0≤b∧b<256) (h:UInt8.ofNat a.toNat=UInt8.ofNat b.toNat):a=b:=by
 have:=congrArg UInt8.toNat h;simp at this;omega
theorem nQ:∀ {l k:List Int},(∀x∈l,tI x)→(∀x∈k,tI x)→jQ l=jQ k→l=k
 | [],[],_,_,_=>rfl
 | [],b::k,_,_,h=>by
  have:=congrArg List.length h;simp [jQ,cX,iG] at this;omega
 | a::l,[],_,_,h=>by
  have:=congrArg List.length h;simp [jQ,cX,iG] at this
 | a::l,b::k,hl,hk,h=>by
  simp only [jQ,cX,List.flatMap_cons,ID] at h;obtain ⟨e,d⟩:=List.append_inj h (by simp [iG]);have f:l=k:=nQ (fun x hx=>hl x (by simp [hx])) (fun x hx=>hk x (by simp [hx])) d;have g:a=b:=by
   refine xr (hl a (by simp)) (hk b (by simp)) fun j c=>?_
   have:=congrArg (fun q=>q[j]?) e;simp [iG,c] at this;exact xP (zM a j) (zM b j) this
  rw [g,f]
def xp (d:T_DFA) (s t:Int):Prop:=∀w,rr d s w=rr d t w
def AllLive (d:T_DFA):Prop:=∀s b,qH d s→b<256→0≤bM d s b→Live d (bM d s b)
def gp (p:List Int) (s:Nat):Int:=p.getD s 0
def yu (p:List Int) (t:Int):Int:=if t<0 then 0 else p.getD t.toNat 0+1
def ff (d:T_DFA) (p:List Int) (s:Nat):List Int:=[gp p s,IntKind.i64.wrap (d.Accept.getD s 0+1)]++(d.Next.getD s []).map (yu p)
structure PartOk (d:T_DFA) (p:List Int):Prop where
  len:p.length=d.Next.length
  lt:∀s,s<d.Next.length→0≤gp p s∧gp p s<(d.Next.length:Int)
  eq:∀s t,s<d.Next.length→t<d.Next.length→(gp p s=gp p t↔xp d (s:Int) (t:Int))
theorem xp.step {d:T_DFA} {s t:Int} (h:xp d s t) {b:Nat} (hb:b<256):xp d (bM d s b) (bM d t b):=fun w=>by
 have:=h (UInt8.ofNat b::w);have e1:(UInt8.ofNat b).toNat=b:=by simp; omega
 rwa [dW,dW,e1] at this
theorem xp.neg {d:T_DFA} {s t:Int} (h:xp d s t) (hs:s<0) (hl:0≤t→Live d t):t<0:=by
 by_cases ht:0≤t
 ·obtain ⟨w,hw⟩:=hl ht;have:=h w;rw [ju hs] at this; omega
 ·omega
theorem xp.symm {d:T_DFA} {s t:Int} (h:xp d s t):xp d t s:=fun w=>(h w).symm
theorem xa {l:List Int} {c:Nat} (h:c<l.length):l[c]?=some (l.getD c 0):=by
 rw [Ih,Ii h]; rfl
theorem mX {d:T_DFA} {s b c:Nat} (e:dJ d b=(c:Int)):bM d (s:Int) b=(d.Next.getD s []).getD c 0:=by
 unfold bM;unfold dJ at e;rw [if_neg (by omega),e]; rfl
section
variable {d:T_DFA} (h:Ok d) (hf:Full d) (hal:AllLive d) (hacc:∀a∈d.Accept,a≤9223372036854775807)
include h hf hal in
theorem qF {p:List Int} (hp:∀s t,s<d.Next.length→t<d.Next.length→xp d (s:Int) (t:Int)→gp p s=gp p t) {s t:Nat} (hs:s<d.Next.length) (k:t<d.Next.length) (i:xp d (s:Int) (t:Int)):ff d p s=ff d p t:=by
 unfold ff;have ha:d.Accept.getD s 0=d.Accept.getD t 0:=by
  have:=i [];simp only [lp,eu] at this;rw [if_neg (by omega),if_neg (by omega)] at this;simpa using this
 rw [hp s t hs k i,ha];congr 1;have m:=eH h hs;have l:=eH h k;apply List.ext_getElem?;intro c;rw [IT,IT]
 by_cases hc:c<cols d
 rotate_left
 ·rw [IM (by rw [m.1]; omega),IM (by rw [l.1]; omega)]
 obtain ⟨b,hb,e⟩:=hf c hc;rw [xa (by rw [m.1]; exact hc),xa (by rw [l.1]; exact hc),←mX e,←mX e];simp only [Option.map_some,Option.some.injEq];have g:=i.step hb;have q:=cQ h (s:=(s:Int)) ⟨by omega,by omega⟩ hb;have o:=cQ h (s:=(t:Int)) ⟨by omega,by omega⟩ hb;have j:=hal (s:Int) b ⟨by omega,by omega⟩ hb;have n:=hal (t:Int) b ⟨by omega,by omega⟩ hb;unfold yu
 by_cases a:bM d (s:Int) b<0
 ·rw [if_pos a,if_pos (g.neg a n)]
 ·rw [if_neg a,if_neg (fun f=>a (g.symm.neg f j))];congr 1;have u:((bM d (s:Int) b).toNat:Int)=bM d (s:Int) b:=by omega
  have f:¬ bM d (t:Int) b<0:=fun f=>a (g.symm.neg f j)
  have r:((bM d (t:Int) b).toNat:Int)=bM d (t:Int) b:=by omega
  have:=hp (bM d (s:Int) b).toNat (bM d (t:Int) b).toNat (by have:=q.2; omega) (by have:=o.2; omega) (by rw [u,r]; exact g);exact this
include h hacc in
theorem vZ {p:List Int} (u:∀s,s<d.Next.length→0≤gp p s) (o:∀s t,s<d.Next.length→t<d.Next.length→gp p s=gp p t→ff d p s=ff d p t) (w:Str):∀s t,s<d.Next.length→t<d.Next.length→gp p s=gp p t→rr d (s:Int) w=rr d (t:Int) w:=by
 induction w with
 | nil=>
  intro s t hs a g;have hk:=o s t hs a g;simp only [ff,IA,Iz,List.cons.injEq] at hk;have f:=hk.2.1;have r:=cV (l:=d.Accept) (i:=s) (d:=0) (by rw [h.acc]; exact hs);have n:=cV (l:=d.Accept) (i:=t) (d:=0) (by rw [h.acc]; exact a);have H:=h.accs _ r;have G:=h.accs _ n;have F:=hacc _ r;have D:=hacc _ n;rw [IntKind.wrap_i64,IntKind.wrap_i64] at f;simp only [lp,eu];rw [if_neg (by omega),if_neg (by omega)];simp only [IH];omega
 | cons c w ih=>
  intro s t hs a g;have hk:=o s t hs a g;simp only [ff,IA,Iz,List.cons.injEq] at hk;have f:=hk.2.2;rw [dW,dW];obtain ⟨k,v,z,B⟩:=pV h hs c.toNat_lt;have A:bM d (t:Int) c.toNat=(d.Next.getD t []).getD k 0:=mX z;have y:=eH h hs;have x:=eH h a;have hn:yu p (bM d (s:Int) c.toNat)=yu p (bM d (t:Int) c.toNat):=by
   rw [B,A];have:=congrArg (fun q=>q[k]?) f;simp only [IT] at this;rw [xa (by rw [y.1]; exact v),xa (by rw [x.1]; exact v)] at this;simpa only [Option.map_some,Option.some.injEq] using this
  have m:=cQ h (s:=(s:Int)) ⟨by omega,by omega⟩ c.toNat_lt;have j:=cQ h (s:=(t:Int)) ⟨by omega,by omega⟩ c.toNat_lt;unfold yu at hn
  by_cases e:bM d (s:Int) c.toNat<0 <;> by_cases b:bM d (t:Int) c.toNat<0
  ·rw [ju e,ju b]
  ·rw [if_pos e,if_neg b] at hn;have:=u (bM d (t:Int) c.toNat).toNat (by have:=j.2; omega);unfold gp at this; omega
  ·rw [if_neg e,if_pos b] at hn;have:=u (bM d (s:Int) c.toNat).toNat (by have:=m.2; omega);unfold gp at this; omega
  ·rw [if_neg e,if_neg b] at hn;have:=ih (bM d (s:Int) c.toNat).toNat (bM d (t:Int) c.toNat).toNat (by have:=m.2; omega) (by have:=j.2; omega) (by unfold gp; omega)
   rwa [show ((bM d (s:Int) c.toNat).toNat:Int)=bM d (s:Int) c.toNat by omega,show ((bM d (t:Int) c.toNat).toNat:Int)=bM d (t:Int) c.toNat by omega] at this
include h hf in
theorem Bg {p:List Int} (b:∀s,s<d.Next.length→0≤gp p s∧gp p s<(d.Next.length:Int)) {s:Nat} (hs:s<d.Next.length):(∀x∈ff d p s,tI x)∧(ff d p s).length≤1000000:=by
 have c:=h.max;have a:=eH h hs;constructor
 ·intro x hx;simp only [ff,IA,Iz,IN,IP] at hx;rcases hx with rfl|rfl|⟨t,ht,rfl⟩
  ·have:=b s hs; unfold tI; omega
  ·unfold tI; rw [IntKind.wrap_i64]; omega
  ·unfold yu tI;split
   ·omega
   ·have:=b t.toNat (by have:=(a.2 t ht).2; omega);unfold gp at this; omega
 ·have:=kX hf;simp only [ff,Ir,IC,a.1];simp; omega
include h hf in
theorem yH {p:List Int} (hp:p.length=d.Next.length) (G:∀s,s<d.Next.length→0≤gp p s∧gp p s<(d.Next.length:Int)):Is (be (fun (t:(List (Str×Int))×(List Int)×Int)=>match t with
   | (c,B,f)=>
    bif (decide (f<(d.Next.length:Int))) then
     (
      (bD d.Next f).bind fun J=>
      (bD p f).bind fun a6=>
      (bD d.Accept f).bind fun a5=>
      (
       be (fun (t:(List Int)×Int)=>match t with
       | (o,n)=>
        bif (decide (n<(J.length:Int))) then
         (
          (bD J n).bind fun I=>
          bif (decide (I<0)) then
           (cz 8 o [0]).bind fun N=>
           some N
          else
           (bD p I).bind fun a4=>
           (cd .i64 (a4+1)).bind fun V=>
           (cz 8 o [V]).bind fun L=>
           some L).bind fun (Q:(List Int))=>
         (cd .i64 (n+1)).bind fun U=>
         some (.next (Q,U))
        else
         some (.stop o)) ba ([a6,(IntKind.i64.wrap (a5+1))],(0:Int))).bind fun (z:(List Int))=>
      (M.h8 z).bind fun A=>
      (
       bif (!((bY c A).isSome)) then
        (M.h8 z).bind fun W=>
        some ((dM c W (c.length:Int)),(c.length:Int))
       else
        some (c,((bY c A).getD 0))).bind fun (X,S)=>
      (dE B f S).bind fun K=>
      some (X,K)).bind fun (Y,R)=>
     (cd .i64 (f+1)).bind fun T=>
     some (.next (Y,R,T))
    else
     some (.stop (c,B))) ba (([]:(List (Str×Int))),List.replicate d.Next.length 0,(0:Int)))
    (fun r=>r.1.length=(DK (ff d p) d.Next.length).length∧r.2=(List.range d.Next.length).map (dG (ff d p))):=by
  have a8:=h.max;have hacc:=h.acc;have a9:=kX hf;refine Is.upto (fun i l=>dg (fun k=>∀x∈k,tI x) jQ l.1 (DK (ff d p) i)∧l.2=(lI (dG (ff d p)) d.Next.length i,(i:Int))) d.Next.length (by omega) ⟨dg.nil,by rw [nS]; rfl⟩ ?_ ?_
  · rintro s ⟨m,_⟩ hs ⟨g,rfl⟩
    simp only [] at g ⊢;have D:=eH h hs;obtain ⟨a2,H⟩:=Bg h hf G hs;have a1:bD d.Next (s:Int)=some (d.Next.getD s []):=by
      rw [aZ hs,Ih,Ii hs]; rfl
    refine Is.dt (by omega) (Is.bnd (P:=fun r=>dg (fun k=>∀x∈k,tI x) jQ r.1 (DK (ff d p) (s+1))∧r.2=lI (dG (ff d p)) d.Next.length (s+1)) ?_ ?_)
    · refine Is.bnq a1 (Is.bnq (x:=gp p s) ?_ (Is.bnq (x:=d.Accept.getD s 0) ?_ (Is.bnd (P:=fun r=>r=ff d p s) ?_ ?_)))
      · rw [aZ (by omega)]; unfold gp; rw [Ih,Ii (by omega)]; rfl
      · rw [aZ (by omega)]; rw [Ih,Ii (by omega)]; rfl
      · unfold ff
        generalize d.Next.getD s []=q at D;refine Is.upto (fun j l=>l=([gp p s,IntKind.i64.wrap (d.Accept.getD s 0+1)]++(q.take j).map (yu p),(j:Int))) q.length (by omega) (by simp) ?_ ?_
        · rintro j _ u rfl
          simp only [];have hq:=D.2 _ (Ip u);refine Is.dt (by omega) (Is.bnd (P:=fun r=>r=[gp p s,IntKind.i64.wrap (d.Accept.getD s 0+1)]++(q.take (j+1)).map (yu p)) ?_ ?_)
          · rw [ez _ u,←Iw]
            refine Is.bnq (aZ u) (Is.dcd (fun y=>Is.bnq (bN (by simp; omega)) (Is.pure (by rw [show yu p q[j]=0 by unfold yu; rw [if_pos y]]))) fun y=>?_);have F:=G q[j].toNat (by have:=hq.2; omega);have a7:=hq.2;refine Is.bnq (dZ (d:=0) (by omega) (by rw [hp]; exact hq.2)) (Is.bnq (dO (by unfold gp at F; omega) (by unfold gp at F; omega)) (Is.bnq (bN (by simp; omega)) (Is.pure ?_)));rw [show yu p q[j]=p.getD q[j].toNat 0+1 by unfold yu; rw [if_neg y]]
          · rintro _ rfl
            exact Is.bnq (aM (by omega)) (Is.next rfl)
        · rintro _ rfl
          exact Is.df (by simp) (Is.stop (by rw [Iq]))
      · rintro _ rfl
        refine Is.bnq (pk H) (Is.bnd (P:=fun r=>dg (fun k=>∀x∈k,tI x) jQ r.1 (DK (ff d p) (s+1))∧r.2=dG (ff d p) s) ?_ ?_)
        · rcases qv g (fun k k' a b=>nQ a b) a2 with ⟨e,w,v,h4⟩|⟨e,w,v,h4⟩
          · rw [e,w]
            exact Is.cf rfl (Is.pure ⟨v,rfl⟩)
          · rw [e,g.1]
            exact Is.ct rfl (Is.bnq (pk H) (Is.pure ⟨v,w⟩))
        · rintro ⟨m2,_⟩ ⟨e,rfl⟩
          exact Is.bnq (pY hs) (Is.pure ⟨e,rfl⟩)
    · rintro ⟨m2,_⟩ ⟨e,rfl⟩
      exact Is.bnq (aM (by omega)) (Is.next ⟨e,rfl⟩)
  · rintro ⟨m,_⟩ ⟨g,rfl⟩
    exact Is.df (by omega) (Is.stop ⟨g.1,by rw [pU]⟩)
theorem kS {n:Nat} {f:Nat→Int} {s:Nat} (hs:s<n):gp ((List.range n).map f) s=f s:=by
 simp [gp,Ih,hs]
include h hf hal hacc in
theorem ta:Is (M.h9 d) (PartOk d):=by
 have B:=h.max;have y:=h.pos;unfold M.h9;refine Is.bnq (eI (by omega)) ?_;refine Is.while (fun a=>∃k:Nat,a.2=(k:Int)∧a.1.length=d.Next.length∧(∀s,s<d.Next.length→0≤gp a.1 s∧gp a.1 s<(d.Next.length:Int))∧
  (∀s t,s<d.Next.length→t<d.Next.length→xp d (s:Int) (t:Int)→gp a.1 s=gp a.1 t)∧(k=0∨k=(DK (gp a.1) d.Next.length).length))
  (fun a=>d.Next.length - a.2.toNat) ⟨0,rfl,by simp,fun s hs=>?_,fun s t hs b _=>?_,.inl rfl⟩ (by simp only []; omega) ?_
 ·simp [gp,Ih,hs]; omega
 ·simp [gp,Ih,hs,b]
 rintro ⟨p,_⟩ ⟨k,rfl,hp,f,g,hk⟩;simp only [] at hp f g hk ⊢;rw [hp];refine Is.bnq (eI (by omega)) (Is.bnd (yH h hf hp f) ?_);rintro ⟨m,_⟩ ⟨q,rfl⟩;simp only [] at q ⊢;have l:∀i j,i<d.Next.length→j<d.Next.length→ff d p i=ff d p j→gp p i=gp p j:=fun i j _ _ e=>by
  simp only [ff,IA,List.cons.injEq] at e; exact e.1
 obtain ⟨D,x⟩:=xQ (σ:=ff d p) (τ:=gp p) (n:=d.Next.length) l;have z:=rl (ff d p) d.Next.length;have A:0<(DK (gp p) d.Next.length).length:=by
  have:=gL (σ:=gp p) (i:=0) (j:=d.Next.length) (by omega);omega
 have o:∀s,s<d.Next.length→0≤dG (ff d p) s∧dG (ff d p) s<(d.Next.length:Int):=fun s hs=>by
  have:=gL (σ:=ff d p) hs;unfold dG; omega
 rw [q];refine Is.cnd (fun e=>Is.stop ?_) fun e=>Is.next ?_
 ·have e:=dw e;have r:=x (by omega);refine ⟨by simp,fun s hs=>by rw [kS hs]; exact o s hs,fun s t hs b=>?_⟩;rw [kS hs,kS b];constructor
  ·intro c w;have c:mS (ff d p) s=mS (ff d p) t:=by unfold dG at c; omega
   exact vZ h hacc (fun s hs=>(f s hs).1) r w s t hs b (l s t hs b (fq.1 c))
  ·intro c;unfold dG;rw [fq.2 (qF h hf hal g hs b c)]
 ·have e:=kJ e;refine ⟨⟨_,rfl,by simp,fun s hs=>by rw [kS hs]; exact o s hs,fun s t hs b c=>?_,.inr ?_⟩,by simp only [IH]; omega⟩
  ·simp only [];rw [kS hs,kS b];unfold dG;rw [fq.2 (qF h hf hal g hs b c)]
  ·have:=(um (σ:=ff d p) (τ:=gp ((List.range d.Next.length).map (dG (ff d p)))) (n:=d.Next.length) (fun i j v u=>by
    rw [kS v,kS u];unfold dG;rw [Int.ofNat_inj,fq])) d.Next.length (Nat.le_refl _)
   exact this.1
end
def gq (p:List Int) (x:Int):Int:=gp p x.toNat
theorem fo {α:Type} {l:List α} {i:Nat} (h:i<l.length) (r:List α) (x:α):(l++r).getD i x=l.getD i x:=by
 rw [Ih,Iy h,←Ih]
theorem wY {l:List Int} {i:Nat} (h:i<l.length):bD l (i:Int)=some (l.getD i 0):=by
 rw [aZ h,Ih,Ii h]; rfl
section
variable {d:T_DFA} {p:List Int} (h:Ok d) (hf:Full d) (hp:PartOk d p)
include hp in
theorem ow {x:Int} (h0:0≤x) (h1:x<(d.Next.length:Int)):bD p x=some (gq p x):=by
 rw [dZ (d:=0) h0 (by rw [hp.len]; exact h1)]; rfl
include hp in
theorem me {x:Int} (h0:0≤x) (h1:x<(d.Next.length:Int)):0≤gq p x∧gq p x<(d.Next.length:Int):=hp.lt x.toNat (by omega)
include hp in
theorem mG {x y:Int} (h0:0≤x) (h1:x<(d.Next.length:Int)) (k0:0≤y) (k1:y<(d.Next.length:Int)):gq p x=gq p y↔xp d x y:=by
 have:=hp.eq x.toNat y.toNat (by omega) (by omega);rw [show (x.toNat:Int)=x by omega,show (y.toNat:Int)=y by omega] at this;exact this
include hp in
theorem fj {l:List Int} (hl:∀x∈l,0≤x∧x<(d.Next.length:Int)) (hn:(l.map (gq p)).Nodup):l.length≤d.Next.length:=by
 have:=gG d.Next.length (l.map fun x=>(gq p x).toNat) (by
  refine List.pairwise_map.2 ((List.pairwise_map.1 hn).imp_of_mem fun {a b} ha hb c e=>c ?_);have:=me hp (hl a ha).1 (hl a ha).2;have:=me hp (hl b hb).1 (hl b hb).2;omega) (fun x hx=>by
  obtain ⟨a,ha,rfl⟩:=IP.1 hx;have:=me hp (hl a ha).1 (hl a ha).2;omega)
 simpa using this
structure RchM (d:T_DFA) (p:List Int) (l:List Int):Prop where
  zero:(0:Int)∈l
  inr:∀x∈l,0≤x∧x<(d.Next.length:Int)
  walk:∀x∈l,∃w,walkN d 0 w=x
  nodup:(l.map (gq p)).Nodup
theorem iI (d:T_DFA) (s:Int) (w:Str) (c:UInt8):walkN d s (w++[c])=bM d (walkN d s w) c.toNat:=by simp [walkN]
include h hf in
theorem xB {x:Int} (k:0≤x) (j:x<(d.Next.length:Int)) (a:∃w,walkN d 0 w=x) {t:Int} (g:t∈d.Next.getD x.toNat []):∃w,walkN d 0 w=t:=by
 obtain ⟨w,a⟩:=a;obtain ⟨c,f,rfl⟩:=IE.1 g;have hx:x.toNat<d.Next.length:=by omega
 obtain ⟨b,hb,e⟩:=tZ h hf hx (c:=c) (by rw [←(eH h hx).1]; exact f);refine ⟨w++[UInt8.ofNat b],?_⟩;have i:(UInt8.ofNat b).toNat=b:=by simp; omega
 rw [show ((x.toNat:Nat):Int)=x by omega] at e;rw [iI,a,i,e];generalize d.Next.getD x.toNat []=q at f;rw [Ih,Ii f]; rfl
include h hf hp in
theorem vn (hal:AllLive d):Is (M.k2 d p) (fun l=>RchM d p l∧∀w,0≤walkN d 0 w→∃x∈l,gq p x=gq p (walkN d 0 w)):=by
 have c9:=h.max;have c7:=h.pos;have c8:=hp.len;have d6:=kX hf;unfold M.k2;have z0:=me hp (x:=0) (by omega) (by omega)
 -- what is n
 let Sn:List Bool→List Int→Prop:=fun n l=>n.length=d.Next.length∧∀v,v<d.Next.length→(n.getD v false=true↔∃x∈l,gq p x=(v:Int))
 have L:∀n l x,Sn n l→0≤x→x<(d.Next.length:Int)→Sn (n.set (gq p x).toNat true) (l++[x]):=by
  intro n l x ⟨h1,h2⟩ a9 a8;have u:=me hp a9 a8;refine ⟨by simpa using h1,fun v I=>?_⟩;simp only [Ih,IU]
  by_cases e:(gq p x).toNat=v
  ·subst e;rw [if_pos rfl,if_pos (by omega)];simp only [Option.getD_some,true_iff];exact ⟨x,by simp,by omega⟩
  ·rw [if_neg e];have:=h2 v I;rw [Ih] at this;rw [this];constructor
   ·rintro ⟨y,hy,e⟩; exact ⟨y,by simp [hy],e⟩
   ·rintro ⟨y,hy,Y⟩;rcases Iv.1 hy with hy|hy
    ·exact ⟨y,hy,Y⟩
    ·rw [Iu.1 hy] at Y; omega
 refine Is.bnq (eI (by omega)) (Is.bnq (ow hp (by omega) (by omega)) (Is.bnq (iQ z0.1 (by simpa using z0.2)) ?_));refine Is.bnd (P:=fun l=>RchM d p l∧∀w,0≤walkN d 0 w→∃x∈l,gq p x=gq p (walkN d 0 w)) ?_ (fun l hl=>Is.pure hl);refine Is.while (fun f=>∃k:Nat,f.2.2=(k:Int)∧k≤f.1.length∧RchM d p f.1∧Sn f.2.1 f.1∧∀j,j<k→∀t∈d.Next.getD (f.1.getD j 0).toNat [],0≤t→∃y∈f.1,gq p y=gq p t)
  (fun f=>d.Next.length - f.2.2.toNat) ⟨0,rfl,by simp,⟨by simp,by simp; omega,by simp; exact ⟨[],rfl⟩,by simp⟩,?_,by omega⟩ (by simp only []; omega) ?_
 ·exact L (List.replicate d.Next.length false) [] 0 ⟨by simp,fun v I=>by simp [Ih,I]⟩ (by omega) (by omega)
 rintro ⟨l,n,_⟩ ⟨k,rfl,hk,hR,W,hd⟩;simp only [] at hk hR W hd ⊢;have d3:=fj hp hR.inr hR.nodup;refine Is.dcd (fun d0=>?_) fun d5=>Is.stop ⟨hR,fun w=>?_⟩
 ·have J:k<l.length:=by omega
  have R:l.getD k 0∈l:=cV J;have hx:=hR.inr _ R;have a7:(l.getD k 0).toNat<d.Next.length:=by omega
  have b7:bD d.Next (l.getD k 0)=some (d.Next.getD (l.getD k 0).toNat []):=dZ hx.1 hx.2;have U:=eH h a7;have S:∀t∈d.Next.getD (l.getD k 0).toNat [],∃w,walkN d 0 w=t:=fun t i=>xB h hf hx.1 hx.2 (hR.walk _ R) i
  have d4:l.getD k 0=l.getD k 0:=rfl;refine Is.bnd (P:=fun f=>k<f.1.length∧RchM d p f.1∧Sn f.2 f.1∧(∃r,f.1=l++r)∧∀t∈d.Next.getD (l.getD k 0).toNat [],0≤t→∃y∈f.1,gq p y=gq p t) ?_ ?_
  ·refine Is.bnq (wY J) (Is.bnq b7 ?_);generalize d.Next.getD (l.getD k 0).toNat []=q at U S ⊢;refine Is.upto (fun j f=>f.2.2=(j:Int)∧k<f.1.length∧RchM d p f.1∧Sn f.2.1 f.1∧(∃r,f.1=l++r)∧∀t∈q.take j,0≤t→∃y∈f.1,gq p y=gq p t) q.length (by omega) ⟨rfl,J,hR,W,⟨[],by simp⟩,by simp⟩ ?_ ?_
   ·rintro j ⟨Q,N,_⟩ o ⟨rfl,B,m,a3,a4,a5⟩;simp only [] at B m a3 a4 a5 ⊢;have hq:=U.2 _ (Ip o);have b9:=S _ (Ip o);have d2:=fj hp m.inr m.nodup;refine Is.dt (by omega) (Is.bnd (P:=fun f=>k<f.1.length∧RchM d p f.1∧Sn f.2 f.1∧(∃r,f.1=l++r)∧∀t∈q.take (j+1),0≤t→∃y∈f.1,gq p y=gq p t) ?_ ?_)
    ·refine Is.bnq (aZ o) (Is.bnd (P:=fun b=>b=true↔(0≤q[j]∧¬ ∃y∈Q,gq p y=gq p q[j])) (Is.dcd (fun g=>?_) fun g=>Is.pure ⟨fun h=>(by cases h),fun h=>(g h.1).elim⟩) ?_)
     ·have u:=me hp g hq.2;refine Is.bnq (ow hp g hq.2) (Is.bnq (dZ (d:=false) u.1 (by rw [a3.1]; exact u.2)) (Is.pure ?_));have:=a3.2 (gq p q[j]).toNat (by omega);rw [show ((gq p q[j]).toNat:Int)=gq p q[j] by omega] at this;rw [←this];cases N.getD (gq p q[j]).toNat false <;> simp [g]
     ·intro b hb;cases b
      ·refine Is.cf rfl (Is.pure ⟨B,m,a3,a4,fun t i g=>?_⟩);rw [Ix o,Iv] at i;rcases i with i|i
       ·exact a5 t i g
       ·rw [Iu.1 i] at g ⊢;exact Classical.byContradiction fun hn=>by have:=hb.2 ⟨g,hn⟩; cases this
      ·obtain ⟨g,c0⟩:=hb.1 rfl;have u:=me hp g hq.2;refine Is.ct rfl (Is.bnq (ow hp g hq.2) (Is.bnq (iQ u.1 (by rw [a3.1]; exact u.2)) (Is.bnq (bN (by simp; omega)) (Is.pure ⟨by simp; omega,⟨by simp [m.zero],?_,?_,?_⟩,L _ _ _ a3 g hq.2,?_,?_⟩))))
       ·intro x hx;rcases Iv.1 hx with hx|hx
        ·exact m.inr x hx
        ·rw [Iu.1 hx]; exact ⟨g,hq.2⟩
       ·intro x hx;rcases Iv.1 hx with hx|hx
        ·exact m.walk x hx
        ·rw [Iu.1 hx]; exact b9
       ·rw [ID,List.nodup_append];refine ⟨m.nodup,by simp,fun a ha b hb=>?_⟩;obtain ⟨y,hy,rfl⟩:=IP.1 ha;have hb:b=gq p q[j]:=by simpa using hb
        rw [hb];exact fun e=>c0 ⟨y,hy,e⟩
       ·obtain ⟨r,hr⟩:=a4;exact ⟨r++[q[j]],by simp [hr]⟩
       ·intro t i g;rw [Ix o,Iv] at i;rcases i with i|i
        ·obtain ⟨y,hy,e⟩:=a5 t i g;exact ⟨y,by simp [hy],e⟩
        ·rw [Iu.1 i];exact ⟨q[j],by simp,rfl⟩
    ·rintro ⟨l2,s2⟩ ⟨K,z,F,A,D⟩;exact Is.bnq (aM (by omega)) (Is.next ⟨rfl,K,z,F,A,D⟩)
   ·rintro ⟨Q,N,_⟩ ⟨rfl,B,m,a3,a4,a5⟩;simp only [Iq] at B m a3 a4 a5 ⊢;exact Is.df (by omega) (Is.stop ⟨B,m,a3,a4,a5⟩)
  ·rintro ⟨l2,s2⟩ ⟨K,z,F,⟨r,A⟩,D⟩;simp only [] at K z F A D ⊢;have d1:=fj hp z.inr z.nodup;refine Is.bnq (aM (by omega)) (Is.next ⟨⟨k+1,rfl,by simp only []; omega,z,F,fun j o t i g=>?_⟩,by simp only [IH]; omega⟩);simp only [] at i ⊢;rw [A,fo (by omega)] at i
   by_cases e:j=k
   ·subst e; exact D t i g
   ·obtain ⟨y,hy,e⟩:=hd j (by omega) t i g;exact ⟨y,by rw [A]; simp [hy],e⟩
 ·-- nothing is missing
  obtain ⟨v,rfl⟩:∃v:Str,w=v.reverse:=⟨w.reverse,by simp⟩;induction v with
  | nil=>intro _; exact ⟨0,hR.zero,rfl⟩
  | cons c v ih=>
   rw [List.reverse_cons];generalize v.reverse=w at ih;rw [iI];intro g;have T:0≤walkN d 0 w:=by
    by_cases hn:walkN d 0 w<0
    ·unfold bM at g; rw [if_pos hn] at g; omega
    ·omega
   have H:=fD h (fX h) w;obtain ⟨x,hx,e⟩:=ih T;have G:=hR.inr x hx;have c2:=(mG hp G.1 G.2 T H.2).1 e;have V:=c2.step c.toNat_lt;obtain ⟨j,o,rfl⟩:=IE.1 hx;have c1:l.getD j 0=l[j]:=by rw [Ih,Ii o]; rfl
   have b0:=cQ h (s:=l[j]) ⟨by omega,G.2⟩ c.toNat_lt;have b6:=cQ h H c.toNat_lt
   by_cases hlive:0≤bM d l[j] c.toNat
   ·obtain ⟨cc,c3,_,X⟩:=pV h (s:=l[j].toNat) (by omega) c.toNat_lt;rw [show ((l[j].toNat:Nat):Int)=l[j] by omega] at X;obtain ⟨y,hy,ey⟩:=hd j (by omega) (bM d l[j] c.toNat) (by
     rw [c1,X];exact cV (by rw [(eH h (by omega)).1]; exact c3)) hlive
    exact ⟨y,hy,ey.trans ((mG hp hlive b0.2 g b6.2).2 V)⟩
   ·have:=V.neg (by omega) (fun _=>hal _ _ H c.toNat_lt g);omega
def kj (d:T_DFA) (p:List Int) (s:Int) (b:Nat):Int:=if 0≤bM d s b then gq p (bM d s b) else bM d s b
def keyC (d:T_DFA) (p:List Int) (states:List Int) (b:Nat):List Int:=states.map fun s=>kj d p s b
include h hp in
theorem Cz {s:Int} (hs:qH d s) {b:Nat} (hb:b<256):tI (kj d p s b):=by
 have hi:=cQ h hs hb;have hm:=h.max;unfold kj tI;split
 ·rename_i h0;have:=me hp h0 hi.2; omega
 ·have:=hi.1; omega
include h hp in
theorem we {c:List Int} (l:∀x∈c,0≤x∧x<(d.Next.length:Int)) (hl:c.length≤500):M.k3 d c p=some ((List.range 256).map (dG (keyC d p c))):=by
 refine Is.eq ?_;unfold M.k3;have hk:∀b,b<256→(∀x∈keyC d p c b,tI x)∧(keyC d p c b).length≤1000000:=by
  intro b hb;refine ⟨fun x hx=>?_,by simp [keyC]; omega⟩;obtain ⟨s,hs,rfl⟩:=IP.1 hx;exact Cz h hp ⟨by have:=l s hs; omega,(l s hs).2⟩ hb
 refine Is.bnq (x:=List.replicate 256 0) (by rw [show (256:Int)=((256:Nat):Int) from rfl,eI (by omega)]) ?_;have B:((List.replicate 256 (0:Int)).length:Int)=256:=by rw [IL]; rfl
 rw [B];refine Is.bnd (P:=fun r=>r=(List.range 256).map (dG (keyC d p c))) ?_ (fun r w=>Is.pure w);refine Is.upto (fun i s=>dg (fun k=>∀x∈k,tI x) jQ s.2.1 (DK (keyC d p c) i)∧s.1=lI (dG (keyC d p c)) 256 i∧s.2.2=(i:Int)) 256 (by omega) ⟨dg.nil,by rw [nS],rfl⟩ ?_ ?_
 ·rintro b ⟨_,m,_⟩ hb ⟨f,rfl,rfl⟩;simp only [] at f ⊢;obtain ⟨y,u⟩:=hk b hb;refine Is.dt (by omega) (Is.bnd (P:=fun r=>r.1=lI (dG (keyC d p c)) 256 (b+1)∧dg (fun k=>∀x∈k,tI x) jQ r.2 (DK (keyC d p c) (b+1))) ?_ ?_)
  ·refine Is.bnd (P:=fun r=>r=keyC d p c b) (Is.upto (fun j s=>s=((c.take j).map (fun s=>kj d p s b),(j:Int))) c.length (by omega) (by simp) ?_ ?_) ?_
   ·rintro j _ n rfl;simp only [];have hs:=l _ (Ip n);have z:=cQ h (s:=c[j]) ⟨by omega,hs.2⟩ hb;refine Is.dt (by omega) (Is.bnq (aZ n) (Is.bnq (x:=bM d c[j] b) (by rw [mT hb]; exact mW h ⟨by omega,hs.2⟩ hb) (Is.bnd (P:=fun t=>t=kj d p c[j] b) (Is.dcd (fun g=>?_) fun g=>Is.pure ?_) ?_)))
    ·exact Is.bnq (ow hp g z.2) (Is.pure (by unfold kj; rw [if_pos g]))
    ·unfold kj; rw [if_neg g]
    ·rintro _ rfl;refine Is.bnq (bN (by simp; omega)) (Is.bnq (aM (by omega)) (Is.next ?_));rw [ez _ n]
   ·rintro _ rfl;exact Is.df (by simp) (Is.stop (by rw [Iq]; rfl))
   ·rintro _ rfl;refine Is.bnq (pk u) (Is.bnd (P:=fun r=>dg (fun k=>∀x∈k,tI x) jQ r.1 (DK (keyC d p c) (b+1))∧r.2=dG (keyC d p c) b) ?_ ?_)
    ·rcases qv f (fun k k' a b=>nQ a b) y with ⟨e,q,o,A⟩|⟨e,q,o,A⟩
     ·rw [e,q];exact Is.cf rfl (Is.pure ⟨o,rfl⟩)
     ·rw [e,f.1];exact Is.ct rfl (Is.bnq (pk u) (Is.pure ⟨o,q⟩))
    ·rintro ⟨v,_⟩ ⟨e,rfl⟩;exact Is.bnq (pY hb) (Is.pure ⟨rfl,e⟩)
  ·rintro ⟨_,v⟩ ⟨rfl,e⟩;exact Is.bnq (aM (by omega)) (Is.next ⟨e,rfl,rfl⟩)
 ·rintro ⟨_,m,_⟩ ⟨f,rfl,rfl⟩;exact Is.df (by omega) (Is.stop (by rw [pU]))
end
structure Reps {K:Type} [DecidableEq K] (σ:Nat→K) (l:List Int):Prop where
  len:l.length=(DK σ 256).length
  rep:∀c,c<l.length→∃b:Nat,b<256∧l.getD c 0=(b:Int)∧mS σ b=c
theorem vg {K:Type} [DecidableEq K] (σ:Nat→K):Is (M.i2 ((List.range 256).map (dG σ))) (Reps σ):=by
 unfold M.i2;have o:(((List.range 256).map (dG σ)).length:Int)=256:=by rw [IC,IS]; rfl
 rw [o];refine Is.bnd (P:=Reps σ) (Is.upto (fun i f=>f.2=(i:Int)∧f.1.length=(DK σ i).length∧∀c,c<f.1.length→∃b:Nat,b<256∧f.1.getD c 0=(b:Int)∧mS σ b=c) 256 (by omega) ⟨rfl,rfl,by simp⟩ ?_ ?_) (fun l hl=>Is.pure hl)
 ·rintro i ⟨l,_⟩ h ⟨rfl,d,a⟩;simp only [] at d a ⊢;have p:=rl σ i;have m:bD ((List.range 256).map (dG σ)) (i:Int)=some (dG σ i):=by
   rw [aZ (by rw [IC,IS]; exact h)];rw [IY,List.getElem_range]
  refine Is.dt (by omega) (Is.bnd (P:=fun r=>r.length=(DK σ (i+1)).length∧∀c,c<r.length→∃b:Nat,b<256∧r.getD c 0=(b:Int)∧mS σ b=c) ?_ ?_)
  ·refine Is.bnq m (Is.cnd (fun e=>?_) fun e=>Is.pure ?_)
   ·have e:=dw e;have k:σ i∉DK σ i:=fun g=>by have:=AZ g; unfold dG at e; omega
    rw [mT h];refine Is.bnq (bN (by simp; omega)) (Is.pure ⟨by rw [rk k]; simp [d],fun c n=>?_⟩)
    by_cases hcl:c<l.length
    ·rw [fo hcl]; exact a c hcl
    ·have:c=l.length:=by simp at n; omega
     subst this;exact ⟨i,h,by simp [Ih],by unfold dG at e; omega⟩
   ·have e:=kJ e;have j:σ i∈DK σ i:=Classical.byContradiction fun g=>by have:=nv g; unfold dG at e; omega
    rw [li j]; exact ⟨d,a⟩
  ·rintro r ⟨d,a⟩;exact Is.bnq (aM (by omega)) (Is.next ⟨rfl,d,a⟩)
 ·rintro ⟨l,_⟩ ⟨rfl,d,a⟩;exact Is.df (by omega) (Is.stop ⟨d,a⟩)
def oz (k:Nat) (l:List Int):Nat:=l.foldl (fun k v=>if v=(k:Int) then k+1 else k) k
theorem sx (k:Nat) (l:List Int) (v:Int):oz k (l++[v])=if v=(oz k l:Int) then oz k l+1 else oz k l:=by unfold oz; rw [List.foldl_append]; rfl
def Fc (l:List Int):Prop:=∀i,i<l.length→l.getD i 0≤(oz 1 (l.take i):Int)
theorem Fc.snoc {l:List Int} {v:Int} (h:Fc l) (hv:v≤(oz 1 l:Int)):Fc (l++[v]):=by
 intro i hi
 by_cases hl:i<l.length
 ·rw [fo hl,List.take_append_of_le_length (by omega)];exact h i hl
 ·have:i=l.length:=by simp at hi; omega
  subst this;rw [List.take_left];simpa [Ih] using hv
theorem lE {α:Type} (l:List α) (v x:α):(l++[v]).getD l.length x=v:=by simp [Ih]
structure Al (m:T_DFA):Prop where
  ok:Ok m
  cls:m.Class=(List.range 256).map (dG (dJ m))
  cols:cols m=(DK (dJ m) 256).length
  sep:∀b b',b<256→b'<256→(∀s:Nat,s<m.Next.length→bM m (s:Int) b=bM m (s:Int) b')→dJ m b=dJ m b'
  live:AllLive m
  reach:∀s:Nat,s<m.Next.length→∃w,walkN m 0 w=(s:Int)
  ineq:∀s t:Nat,s<m.Next.length→t<m.Next.length→xp m (s:Int) (t:Int)→s=t
  can:Fc m.Next.flatten
  cnt:oz 1 m.Next.flatten=m.Next.length
  start:∀j,j<m.Next.length→j<oz 1 (m.Next.take j).flatten
section
variable (d:T_DFA) (p:List Int) (bytes:List Int)
def lU (order:List Int) (x:Int) (v:Int) (b:Nat):Prop:=(bM d x b<0∧v=-1)∨(0≤bM d x b∧∃k:Nat,v=(k:Int)∧k<order.length∧gq p (order.getD k 0)=gq p (bM d x b))
def Dr (order:List Int) (x:Int) (row:List Int):Prop:=row.length=bytes.length∧∀c,c<bytes.length→lU d p order x (row.getD c 0) (bytes.getD c 0).toNat
structure MC (order:List Int) (rows:List (List Int)) (accs:List Int) (i:Nat) (done:List Int):Prop where
  z:order.getD 0 0=0∧0<order.length
  inr:∀x∈order,0≤x∧x<(d.Next.length:Int)
  walk:∀x∈order,∃w,walkN d 0 w=x
  nodup:(order.map (gq p)).Nodup
  rlen:rows.length=i
  accs:accs=(order.take i).map (fun x=>d.Accept.getD x.toNat 0)
  ile:i≤order.length
  ent:∀j,j<i→Dr d p bytes order (order.getD j 0) (rows.getD j [])
  dent:∀c,c<done.length→lU d p order (order.getD i 0) (done.getD c 0) (bytes.getD c 0).toNat
  can:Fc (rows.flatten++done)
  cnt:oz 1 (rows.flatten++done)=order.length
  start:∀j,j<i→j<oz 1 (rows.take j).flatten
  beg:done≠[]→i<oz 1 rows.flatten
end
section
variable {d:T_DFA} {p bytes order accs done:List Int} {rows:List (List Int)} {i:Nat}
theorem lU.mono {x v:Int} {b:Nat} (h:lU d p order x v b) (r:List Int):lU d p (order++r) x v b:=by
 rcases h with h|⟨h1,k,h2,h3,h4⟩
 ·exact .inl h
 ·exact .inr ⟨h1,k,h2,by simp; omega,by rw [fo h3]; exact h4⟩
theorem MC.start0 (hp:1≤d.Next.length):MC d p bytes [0] [] [] 0 [] where
 z:=⟨rfl,by simp⟩
 inr x hx:=by simp at hx; subst hx; omega
 walk x hx:=by simp at hx; subst hx; exact ⟨[],rfl⟩
 nodup:=by simp
 rlen:=rfl
 accs:=rfl
 ile:=by simp
 ent j hj:=by omega
 dent c hc:=by simp at hc
 can i hi:=by simp at hi
 cnt:=rfl
 start j hj:=by omega
 beg h:=(h rfl).elim
theorem MC.beg' (h:MC d p bytes order rows accs i done) (hi:i<order.length):i<oz 1 rows.flatten:=by
 cases done with
 | nil=>have:=h.cnt; simp at this; omega
 | cons a l=>exact h.beg (by simp)
theorem MC.old (h:MC d p bytes order rows accs i done) (b:i<order.length) {v:Int} (a:lU d p order (order.getD i 0) v (bytes.getD done.length 0).toNat):MC d p bytes order rows accs i (done++[v]):=by
 have f:v<(order.length:Int):=by
  have:=h.z.2;rcases a with ⟨_,rfl⟩|⟨_,k,rfl,hk,_⟩ <;> omega
 refine ⟨h.z,h.inr,h.walk,h.nodup,h.rlen,h.accs,h.ile,h.ent,fun c e=>?_,?_,?_,h.start,fun _=>h.beg' b⟩
 ·by_cases hcl:c<done.length
  ·rw [fo hcl]; exact h.dent c hcl
  ·have:c=done.length:=by simp at e; omega
   subst this;rw [lE]; exact a
 ·rw [←Iw];exact h.can.snoc (by rw [h.cnt]; omega)
 ·rw [←Iw,sx,h.cnt,if_neg (by omega)]
theorem MC.new (h:MC d p bytes order rows accs i done) (g:i<order.length) {t:Int} (f:t=bM d (order.getD i 0) (bytes.getD done.length 0).toNat) (k:0≤t) (n:t<(d.Next.length:Int)) (l:∃w,walkN d 0 w=t) (hn:gq p t∉order.map (gq p)) :
 MC d p bytes (order++[t]) rows accs i (done++[(order.length:Int)]):=by
 refine ⟨⟨by rw [fo h.z.2]; exact h.z.1,by simp⟩,?_,?_,?_,h.rlen,?_,by simp; omega,fun j m=>?_,fun c e=>?_,?_,?_,h.start,fun _=>h.beg' g⟩
 ·intro x hx;rcases Iv.1 hx with hx|hx
  ·exact h.inr x hx
  ·rw [Iu.1 hx]; exact ⟨k,n⟩
 ·intro x hx;rcases Iv.1 hx with hx|hx
  ·exact h.walk x hx
  ·rw [Iu.1 hx]; exact l
 ·rw [ID,List.nodup_append];refine ⟨h.nodup,by simp,fun a ha b hb=>?_⟩;have hb:b=gq p t:=by simpa using hb
  rw [hb]; rintro rfl; exact hn ha
 ·rw [List.take_append_of_le_length (by omega)]; exact h.accs
 ·rw [fo (by omega)];have:=h.ent j m;exact ⟨this.1,fun c e=>(this.2 c e).mono [t]⟩
 ·rw [fo g]
  by_cases hcl:c<done.length
  ·rw [fo hcl]; exact (h.dent c hcl).mono [t]
  ·have:c=done.length:=by simp at e; omega
   subst this;rw [lE];exact .inr ⟨by rw [←f]; exact k,order.length,rfl,by simp,by rw [lE,f]⟩
 ·rw [←Iw];exact h.can.snoc (by rw [h.cnt]; omega)
 ·rw [←Iw,sx,h.cnt,if_pos rfl]; simp
theorem MC.turn (h:MC d p bytes order rows accs i done) (a:i<order.length) (hd:done.length=bytes.length):MC d p bytes order (rows++[done]) (accs++[d.Accept.getD (order.getD i 0).toNat 0]) (i+1) []:=by
 refine ⟨h.z,h.inr,h.walk,h.nodup,by simp [h.rlen],?_,by omega,fun j f=>?_,fun c b=>by simp at b,?_,?_,fun j f=>?_,fun h=>(h rfl).elim⟩
 ·rw [Ix a,ID,h.accs,Ih (l:=order),Ii a]; rfl
 ·by_cases e:j<i
  ·rw [fo (by rw [h.rlen]; exact e)]; exact h.ent j e
  ·have:j=rows.length:=by rw [h.rlen]; omega
   subst this;rw [lE,h.rlen];exact ⟨hd,fun c b=>h.dent c (by omega)⟩
 ·simpa using h.can
 ·simpa using h.cnt
 ·by_cases e:j<i
  ·rw [List.take_append_of_le_length (by rw [h.rlen]; omega)]; exact h.start j e
  ·have:j=rows.length:=by rw [h.rlen]; omega
   subst this;rw [List.take_left];rw [h.rlen]; exact h.beg' a
end
section
variable {d:T_DFA} {p l bytes:List Int} (h:Ok d) (hf:Full d) (hal:AllLive d) (hp:PartOk d p) (hR:RchM d p l) (hRc:∀w,0≤walkN d 0 w→∃x∈l,gq p x=gq p (walkN d 0 w)) (hB:Reps (keyC d p l) bytes)
include h hal hp in
theorem mV {x y:Int} (hx:0≤x∧x<(d.Next.length:Int)) (hy:0≤y∧y<(d.Next.length:Int)) (i:gq p x=gq p y) {b:Nat} (hb:b<256):kj d p x b=kj d p y b:=by
 have e:=((mG hp hx.1 hx.2 hy.1 hy.2).1 i).step hb;have ix:=cQ h (s:=x) ⟨by omega,hx.2⟩ hb;have g:=cQ h (s:=y) ⟨by omega,hy.2⟩ hb;unfold kj
 by_cases c:0≤bM d x b
 ·have a:0≤bM d y b:=by
   by_cases a:bM d y b<0
   ·have:=e.symm.neg a (fun f=>hal x b ⟨by omega,hx.2⟩ hb f); omega
   ·omega
  rw [if_pos c,if_pos a];exact (mG hp c ix.2 a g.2).2 e
 ·have a:¬ 0≤bM d y b:=fun a=>by
   have:=e.neg (by omega) (fun f=>hal y b ⟨by omega,hy.2⟩ hb f); omega
  rw [if_neg c,if_neg a];have:=ix.1; have:=g.1; omega
include h hp in
theorem lU.iff {order:List Int} {x v:Int} (hx:0≤x∧x<(d.Next.length:Int)) {b:Nat} (hb:b<256):lU d p order x v b↔(kj d p x b=-1∧v=-1)∨(0≤kj d p x b∧∃k:Nat,v=(k:Int)∧k<order.length∧gq p (order.getD k 0)=kj d p x b):=by
 have ix:=cQ h (s:=x) ⟨by omega,hx.2⟩ hb;unfold lU kj
 by_cases a:0≤bM d x b
 ·rw [if_pos a];have:=me hp a ix.2;constructor
  ·rintro (h|h)
   ·omega
   ·exact .inr ⟨by omega,h.2⟩
  ·rintro (h|h)
   ·omega
   ·exact .inr ⟨a,h.2⟩
 ·rw [if_neg a];have:=ix.1;constructor
  ·rintro (h|h)
   ·exact .inl ⟨by omega,h.2⟩
   ·omega
  ·rintro (h|h)
   ·exact .inl ⟨by omega,h.2⟩
   ·omega
theorem wX {l:List Int} {f:Int→Int} (hn:(l.map f).Nodup) {i j:Nat} (b:i<l.length) (a:j<l.length) (h:f (l.getD i 0)=f (l.getD j 0)):i=j:=by
 have e:l.getD i 0=l[i]:=by rw [Ih,Ii b]; rfl
 have d:l.getD j 0=l[j]:=by rw [Ih,Ii a]; rfl
 rw [e,d] at h;have c:=List.pairwise_iff_getElem.1 hn;rcases Nat.lt_trichotomy i j with hl|hl|hl
 ·have:=c i j (by simpa using b) (by simpa using a) hl;simp only [IY] at this; exact (this h).elim
 ·exact hl
 ·have:=c j i (by simpa using a) (by simpa using b) hl;simp only [IY] at this; exact (this h.symm).elim
variable {order accs:List Int} {rows:List (List Int)} (hM:MC d p bytes order rows accs order.length [])
def kG (d:T_DFA) (p l:List Int) (rows:List (List Int)) (accs:List Int):T_DFA:=⟨(List.range 256).map (dG (keyC d p l)),rows,accs⟩
include h hal hp hR hRc in
theorem xW {x:Int} (hx:0≤x∧x<(d.Next.length:Int)) (hw:∃w,walkN d 0 w=x) {b b':Nat} (hb:b<256) (hb':b'<256) (he:keyC d p l b=keyC d p l b'):kj d p x b=kj d p x b':=by
 obtain ⟨w,hw⟩:=hw;obtain ⟨y,hy,e⟩:=hRc w (by rw [hw]; exact hx.1);rw [hw] at e;have hyi:=hR.inr y hy;rw [←mV h hal hp hyi hx e hb,←mV h hal hp hyi hx e hb'];unfold keyC at he;exact List.map_inj_left.1 he y hy
include hM in
theorem gK {i:Nat} (hi:i<order.length):0≤order.getD i 0∧order.getD i 0<(d.Next.length:Int):=hM.inr _ (cV hi)
theorem kF {b:Nat} (hb:b<256):dJ (kG d p l rows accs) b=dG (keyC d p l) b:=by simp [dJ,kG,Ih,hb]
include h hal hp hR hRc hB hM in
theorem nq {i:Nat} (c:i<order.length) {b:Nat} (hb:b<256):lU d p order (order.getD i 0) (bM (kG d p l rows accs) (i:Int) b) b:=by
 have hx:=gK hM c;have g:=hM.walk _ (cV (d:=0) c);have j:=hM.ent i c;have a:=gL (σ:=keyC d p l) hb;rw [←hB.len] at a;obtain ⟨o,f,n,m⟩:=hB.rep _ a;have e:=j.2 _ a;rw [n,IH] at e;rw [lU.iff h hp hx f] at e;rw [lU.iff h hp hx hb,←xW h hal hp hR hRc hx g f hb (fq.1 m)];have k:bM (kG d p l rows accs) (i:Int) b=(rows.getD i []).getD (mS (keyC d p l) b) 0:=mX (d:=kG d p l rows accs) (kF hb);rw [k]; exact e
include h hal hp hR hRc hB hM in
theorem ul (w:Str):(walkN d 0 w<0∧walkN (kG d p l rows accs) 0 w=-1)∨(0≤walkN d 0 w∧∃k:Nat,k<order.length∧walkN (kG d p l rows accs) 0 w=(k:Int)∧gq p (order.getD k 0)=gq p (walkN d 0 w)):=by
 obtain ⟨v,rfl⟩:∃v:Str,w=v.reverse:=⟨w.reverse,by simp⟩;induction v with
 | nil=>exact .inr ⟨Int.le_refl _,0,hM.z.2,rfl,by rw [hM.z.1]; rfl⟩
 | cons c v ih=>
  rw [List.reverse_cons];generalize v.reverse=w at ih;rw [iI,iI];have i:=fD h (fX h) w;have j:=cQ h i c.toNat_lt;rcases ih with ⟨g,f⟩|⟨g,k,hk,f,n⟩
  ·refine .inl ⟨?_,?_⟩
   ·unfold bM; rw [if_pos g]; omega
   ·rw [f]; rfl
  ·rw [f];have a:=nq h hal hp hR hRc hB hM hk c.toNat_lt;have hx:=gK hM hk;rw [lU.iff h hp hx c.toNat_lt,mV h hal hp hx ⟨g,i.2⟩ n c.toNat_lt] at a;unfold kj at a
   by_cases e:0≤bM d (walkN d 0 w) c.toNat
   ·simp only [if_pos e] at a;have:=me hp e j.2;rcases a with ⟨b,_⟩|⟨_,k',b,m,h6⟩
    ·omega
    ·exact .inr ⟨e,k',m,b,h6⟩
   ·simp only [if_neg e] at a;rcases a with ⟨_,b⟩|⟨b,_⟩
    ·exact .inl ⟨by omega,b⟩
    ·omega
include h hal hp hR hRc hB hM in
theorem py (w:Str):∀i,i<order.length→rr (kG d p l rows accs) (i:Int) w=rr d (order.getD i 0) w:=by
 induction w with
 | nil=>
  intro i a;have hx:=gK hM a;rw [lp,lp];unfold eu;rw [if_neg (by omega),if_neg (by omega)];have e:(kG d p l rows accs).Accept=order.map (fun x=>d.Accept.getD x.toNat 0):=by
   show accs=_;have:=hM.accs
   rwa [Iq] at this
  rw [e,IH,Ih,IT,Ii a,Ih (l:=order),Ii a];rfl
 | cons c w ih=>
  intro i a;have hx:=gK hM a;rw [dW,dW];have j:=cQ h (s:=order.getD i 0) ⟨by omega,hx.2⟩ c.toNat_lt;rcases nq h hal hp hR hRc hB hM a c.toNat_lt with ⟨f,b⟩|⟨f,k,b,g,m⟩
  ·rw [b,ju f,ju (by omega)]
  ·rw [b,ih k g];have hk:=gK hM g;exact (mG hp hk.1 hk.2 f j.2).1 m w
include h hal hp hR hRc hB hM in
theorem xO:Al (kG d p l rows accs):=by
 have hlen:rows.length=order.length:=hM.rlen;have a7:=fj hp hM.inr hM.nodup;have X:1≤bytes.length:=by
  rw [hB.len];have:=gL (σ:=keyC d p l) (i:=0) (j:=256) (by omega);omega
 have T:=hM.z.2;have F:cols (kG d p l rows accs)=bytes.length:=(hM.ent 0 T).1;have f:(kG d p l rows accs).Next=rows:=rfl;have hacc:(kG d p l rows accs).Accept=order.map (fun x=>d.Accept.getD x.toNat 0):=by
  show accs=_;have:=hM.accs
  rwa [Iq] at this
 have U:Ok (kG d p l rows accs):=by
  refine ⟨by simp [kG],by rw [f]; omega,by rw [f]; have:=h.max; omega,by rw [hacc,f]; simp [hlen],by rw [F]; exact X,fun c y=>?_,fun r P=>?_,fun a ha=>?_⟩
  ·simp only [kG,IP,IQ] at y;obtain ⟨b,hb,rfl⟩:=y;rw [F,hB.len];have:=gL (σ:=keyC d p l) hb;unfold dG; omega
  ·rw [f] at P;obtain ⟨j,v,rfl⟩:=IE.1 P;have A:=hM.ent j (by omega);have e:rows.getD j []=rows[j]:=by rw [Ih,Ii v]; rfl
   rw [e] at A;refine ⟨by rw [F]; exact A.1,fun t o=>?_⟩;obtain ⟨c,y,rfl⟩:=IE.1 o;have:=A.2 c (by rw [←A.1]; exact y);have e:rows[j].getD c 0=rows[j][c]:=by rw [Ih,Ii y]; rfl
   rw [e] at this;rw [f];rcases this with ⟨_,h⟩|⟨_,k,h,hk,_⟩ <;> omega
  ·rw [hacc] at ha;obtain ⟨x,hx,rfl⟩:=IP.1 ha;have:=hM.inr x hx;exact h.accs _ (cV (by rw [h.acc]; omega))
 have N:=um (σ:=dJ (kG d p l rows accs)) (τ:=keyC d p l) (n:=256) (fun i j D v=>by
  rw [kF D,kF v];unfold dG;rw [Int.ofNat_inj,fq]) 256 (Nat.le_refl _)
 refine ⟨U,?_,by rw [F,hB.len,N.1],fun b b' hb G hs=>?_,fun s b hs hb H=>?_,fun s hs=>?_,fun s t hs o W=>?_,?_,?_,fun j v=>?_⟩
 ·show (List.range 256).map (dG (keyC d p l))=_;refine List.map_congr_left fun b hb=>?_
  unfold dG;rw [N.2 b (IQ.1 hb)]
 ·-- classes are apart
  rw [kF hb,kF G];have:keyC d p l b=keyC d p l b':=by
   unfold keyC;refine List.map_congr_left fun x hx=>?_
   have L:=hR.inr x hx;obtain ⟨w,u⟩:=hR.walk x hx;rcases ul h hal hp hR hRc hB hM w with ⟨m,_⟩|⟨m,k,hk,q,g⟩
   ·omega
   ·rw [u] at g;have B:=gK hM hk;rw [←mV h hal hp B L g hb,←mV h hal hp B L g G];have I:=nq h hal hp hR hRc hB hM hk hb;have Q:=nq h hal hp hR hRc hB hM hk G;rw [hs k (by rw [f]; omega)] at I;rw [lU.iff h hp B hb] at I;rw [lU.iff h hp B G] at Q;rcases I with ⟨a1,a2⟩|⟨a1,S,a2,a3,a4⟩ <;> rcases Q with ⟨c1,c2⟩|⟨c1,R,c2,c3,c4⟩
    ·omega
    ·omega
    ·omega
    ·have:S=R:=by omega
     subst this;omega
  unfold dG;rw [fq.2 this]
 ·-- targets live
  by_cases hn:s<0
  ·unfold bM at H; rw [if_pos hn] at H; omega
  ·obtain ⟨i,rfl⟩:=II (show 0≤s by omega);have D:i<order.length:=by have:=hs.2; rw [f] at this; omega
   have hx:=gK hM D;rcases nq h hal hp hR hRc hB hM D hb with ⟨m,q⟩|⟨m,k,q,g,Y⟩
   ·rw [q] at H; omega
   ·have V:=cQ h (s:=order.getD i 0) ⟨by omega,hx.2⟩ hb;obtain ⟨w,u⟩:=hal (order.getD i 0) b ⟨by omega,hx.2⟩ hb m;have hk:=gK hM g;refine ⟨w,?_⟩;rw [q,py h hal hp hR hRc hB hM w k g,(mG hp hk.1 hk.2 m V.2).1 Y w];exact u
 ·-- all states are reached
  rw [f,hlen] at hs;obtain ⟨w,u⟩:=hM.walk _ (cV (d:=0) hs);have hx:=gK hM hs;rcases ul h hal hp hR hRc hB hM w with ⟨m,_⟩|⟨m,k,hk,q,g⟩
  ·omega
  ·rw [u] at g;have:=wX hM.nodup hk hs g;subst this;exact ⟨w,q⟩
 ·rw [f,hlen] at hs o;have K:=gK hM hs;have J:=gK hM o;refine wX hM.nodup hs o ((mG hp K.1 K.2 J.1 J.2).2 fun w=>?_);rw [←py h hal hp hR hRc hB hM w s hs,←py h hal hp hR hRc hB hM w t o];exact W w
 ·have:=hM.can; rwa [List.append_nil] at this
 ·have:=hM.cnt; rw [List.append_nil] at this; rw [f,this,hlen]
 ·exact hM.start j (by rw [f] at v; omega)
end
def yJ (r:Nat) (s:Str):Nat:=s.foldl (fun r c=>r*256+c.toNat+1) r
def iZ (s:Str):Nat:=yJ 0 s
theorem ls (s:Str) (c:UInt8):iZ (s++[c])=iZ s*256+c.toNat+1:=by simp [iZ,yJ]
theorem Fp {x u v:Nat} (h1:x<u+256+1) (h2:u+256≤v):x<v+0+1:=by omega
theorem Fo {x r q:Nat} (h1:x<r*256+256+1) (h2:r<q):x<q*256+0+1:=
 Fp h1 (by rw [←Nat.succ_mul]; exact IF 256 (Nat.succ_le_of_lt h2))
theorem Fm {x r q c:Nat} (h1:x≤r*256+c+1) (h2:r≤q):x≤q*256+c+1:=
 Nat.le_trans h1 (Nat.add_le_add_right (Nat.add_le_add_right (IF 256 h2) c) 1)
section
variable (a b:T_DFA)
def yr (w:Str):Prop:=eu a (walkN a 0 w)≠eu b (walkN b 0 w)
def tC (r:Str×Bool):Prop:=(r.2=true∧yr a b r.1∧∀w,yr a b w→iZ r.1≤iZ w)∨(r=([],false)∧∀w,¬ yr a b w)
abbrev EntD:=Int×Int×Str
def xL (e:EntD):Int×Int:=(e.1,e.2.1)
def fK (Q:List EntD) (i:Nat):EntD:=Q.getD i (0,0,[])
def nx (e:EntD) (c:Nat):Int×Int:=(bM a e.1 c,bM b e.2.1 c)
structure BJ (DK:Int×Int→Prop) (Q:List EntD) (i c:Nat):Prop where
  head:Q[0]?=some (0,0,[])
  walk:∀e∈Q,e.1=walkN a 0 e.2.2∧e.2.1=walkN b 0 e.2.2
  sorted:Q.Pairwise (fun e f=>iZ e.2.2<iZ f.2.2)
  nodup:(Q.map xL).Nodup
  done:∀j k,(j<i∨(j=i∧k<c))→k<256→j<Q.length→DK (nx a b (fK Q j) k)∨∃e∈Q,xL e=nx a b (fK Q j) k∧iZ e.2.2≤iZ (fK Q j).2.2*256+k+1
  same:∀j,j<i→j<Q.length→eu a (fK Q j).1=eu b (fK Q j).2.1
  bound:i<Q.length→∀e∈Q,iZ e.2.2<iZ (fK Q i).2.2*256+c+1
  len:∀j,j<Q.length→(fK Q j).2.2.length≤j
end
section
variable {a b:T_DFA} {DK:Int×Int→Prop} {Q:List EntD} {i c:Nat}
theorem xh (h:i<Q.length):fK Q i∈Q:=cV h
theorem pI {e:EntD} (h:i<Q.length):fK (Q++[e]) i=fK Q i:=by unfold fK; rw [Ih,Ih,Iy h]
theorem BJ.start:BJ a b DK [(0,0,[])] 0 0 where
 head:=rfl
 walk e he:=by simp at he; subst he; exact ⟨rfl,rfl⟩
 sorted:=by simp
 nodup:=by simp
 done j k h hk hj:=by omega
 same j h:=by omega
 bound _ e he:=by simp at he; subst he; simp [fK,iZ,yJ]
 len j hj:=by simp at hj; subst hj; simp [fK]
theorem BJ.skip (h:BJ a b DK Q i c) (hd:DK (nx a b (fK Q i) c)∨nx a b (fK Q i) c∈Q.map xL):BJ a b DK Q i (c+1) where
 head:=h.head
 walk:=h.walk
 sorted:=h.sorted
 nodup:=h.nodup
 done j k hjk hk hj:=by
  by_cases e:j=i∧k=c
  ·obtain ⟨rfl,rfl⟩:=e;rcases hd with hd|hd
   ·exact .inl hd
   ·obtain ⟨e,d,hp⟩:=IP.1 hd;have:=h.bound hj e d;exact .inr ⟨e,d,hp,by omega⟩
  ·exact h.done j k (by omega) hk hj
 same:=h.same
 bound hi e d:=by have:=h.bound hi e d; omega
 len:=h.len
theorem BJ.push (h:BJ a b DK Q i c) (l:i<Q.length) (r:c<256) (hn:nx a b (fK Q i) c∉Q.map xL) :
 BJ a b DK (Q++[((nx a b (fK Q i) c).1,(nx a b (fK Q i) c).2,(fK Q i).2.2++[UInt8.ofNat c])]) i (c+1) where
 head:=by rw [Iy (by omega)]; exact h.head
 walk e d:=by
  rcases Iv.1 d with d|d
  ·exact h.walk e d
  ·rw [Iu.1 d];have m:=h.walk _ (xh l);have g:(UInt8.ofNat c).toNat=c:=by simp; omega
   simp only [walkN,List.foldl_append,List.foldl_cons,List.foldl_nil,g,nx];unfold walkN at m;rw [←m.1,←m.2]; exact ⟨rfl,rfl⟩
 sorted:=by
  refine List.pairwise_append.2 ⟨h.sorted,by simp,fun e d f hf=>?_⟩;rw [Iu.1 hf,ls];have g:(UInt8.ofNat c).toNat=c:=by simp; omega
  rw [g];exact h.bound l e d
 nodup:=by
  rw [ID,List.nodup_append];refine ⟨h.nodup,by simp,fun p hp q hq e=>?_⟩;simp [xL] at hq;subst e hq;exact hn hp
 done j k hjk hk hj:=by
  rw [Ir,Il] at hj;have n:j<Q.length:=by omega
  rw [pI n]
  by_cases e:j=i∧k=c
  ·obtain ⟨rfl,rfl⟩:=e;refine .inr ⟨_,List.mem_append_right _ (Iu.2 rfl),rfl,?_⟩;rw [ls];have g:(UInt8.ofNat k).toNat=k:=by simp; omega
   rw [g]; exact Nat.le_refl _
  ·rcases h.done j k (by omega) hk n with h|⟨e,d,o⟩
   ·exact .inl h
   ·exact .inr ⟨e,List.mem_append_left _ d,o⟩
 same j hj hjl:=by
  rw [pI (by omega)];exact h.same j hj (by omega)
 bound hil e d:=by
  rw [pI l];rcases Iv.1 d with d|d
  ·have:=h.bound l e d; omega
  ·rw [Iu.1 d,ls];have g:(UInt8.ofNat c).toNat=c:=by simp; omega
   rw [g]; omega
 len j hj:=by
  rw [Ir,Il] at hj
  by_cases e:j<Q.length
  ·rw [pI e]; exact h.len j e
  ·have:j=Q.length:=by omega
   subst this;have:=h.len i l;simp [fK,Ih] at this ⊢;omega
theorem BJ.turn (h:BJ a b DK Q i 256) (hs:i<Q.length→eu a (fK Q i).1=eu b (fK Q i).2.1):BJ a b DK Q (i+1) 0 where
 head:=h.head
 walk:=h.walk
 sorted:=h.sorted
 nodup:=h.nodup
 done j k hjk hk hj:=h.done j k (by omega) hk hj
 same j hj hjl:=by
  by_cases e:j=i
  ·subst e; exact hs hjl
  ·exact h.same j (by omega) hjl
 bound hil e he:=by
  have c:=h.bound (by omega) e he;have d:=List.pairwise_iff_getElem.1 h.sorted i (i+1) (by omega) hil (by omega);have g:fK Q i=Q[i]:=by simp [fK,Ih,show i<Q.length by omega]
  have f:fK Q (i+1)=Q[i+1]:=by simp [fK,Ih,hil]
  rw [g] at c;rw [f];exact Fo c d
 len:=h.len
theorem BJ.claim (h:BJ a b DK Q i 0) (q:∀p k,DK p→k<256→DK (bM a p.1 k,bM b p.2 k)) (w:Str) :
 DK (walkN a 0 w,walkN b 0 w)∨(∃j,j<Q.length∧xL (fK Q j)=(walkN a 0 w,walkN b 0 w)∧iZ (fK Q j).2.2≤iZ w)∨(i<Q.length∧iZ (fK Q i).2.2≤iZ w):=by
 obtain ⟨v,rfl⟩:∃v:Str,w=v.reverse:=⟨w.reverse,by simp⟩;induction v with
 | nil=>
  have m:=h.head;have hl:0<Q.length:=(Ij.1 m).1;refine .inr (.inl ⟨0,hl,?_,?_⟩) <;> simp [fK,Ih,m,xL,walkN]
 | cons x v ih=>
  rw [List.reverse_cons];generalize v.reverse=w at ih;have hx:=x.toNat_lt;have f:walkN a 0 (w++[x])=bM a (walkN a 0 w) x.toNat:=by simp [walkN]
  have d:walkN b 0 (w++[x])=bM b (walkN b 0 w) x.toNat:=by simp [walkN]
  rw [f,d,ls];rcases ih with ih|⟨j,hj,hp,hr⟩|⟨hi,hr⟩
  ·exact .inl (q _ _ ih hx)
  ·by_cases hji:j<i
   ·have g:nx a b (fK Q j) x.toNat=(bM a (walkN a 0 w) x.toNat,bM b (walkN b 0 w) x.toNat):=by
     have o:(fK Q j).1=walkN a 0 w:=congrArg (·.1) hp;have n:(fK Q j).2.1=walkN b 0 w:=congrArg (·.2) hp;simp only [nx,o,n]
    rcases h.done j x.toNat (.inl hji) hx hj with c|⟨e,he,c,l⟩
    ·rw [g] at c; exact .inl c
    ·rw [g] at c;obtain ⟨k,hk,rfl⟩:=IE.1 he;have ek:fK Q k=Q[k]:=by simp [fK,Ih,hk]
     exact .inr (.inl ⟨k,hk,by rw [ek]; exact c,by rw [ek]; exact Fm l hr⟩)
   ·have:iZ (fK Q i).2.2≤iZ (fK Q j).2.2:=by
     by_cases e:j=i
     ·subst e; exact Nat.le_refl _
     ·have l:=List.pairwise_iff_getElem.1 h.sorted i j (by omega) hj (by omega);have f:fK Q i=Q[i]'(by omega):=by simp [fK,Ih,show i<Q.length by omega]
      have d:fK Q j=Q[j]:=by simp [fK,Ih,hj]
      rw [f,d]; omega
    exact .inr (.inr ⟨by omega,by omega⟩)
  ·exact .inr (.inr ⟨hi,by omega⟩)
theorem BJ.found (h:BJ a b DK Q i 0) (n:∀p k,DK p→k<256→DK (bM a p.1 k,bM b p.2 k)) (m:∀p,DK p→eu a p.1=eu b p.2) (l:i<Q.length) (g:eu a (fK Q i).1≠eu b (fK Q i).2.1) :
 tC a b ((fK Q i).2.2,true):=by
 have c:=h.walk _ (xh l);refine .inl ⟨rfl,?_,fun w c=>?_⟩
 ·unfold yr; simp only []; rw [←c.1,←c.2]; exact g
 ·rcases h.claim n w with o|⟨j,hj,hp,hr⟩|⟨_,hr⟩
  ·exact (c (m _ o)).elim
  ·by_cases hji:j<i
   ·have hs:=h.same j hji hj;have f:(fK Q j).1=walkN a 0 w:=congrArg (·.1) hp;have d:(fK Q j).2.1=walkN b 0 w:=congrArg (·.2) hp;rw [f,d] at hs;exact (c hs).elim
   ·have:iZ (fK Q i).2.2≤iZ (fK Q j).2.2:=by
     by_cases e:j=i
     ·subst e; exact Nat.le_refl _
     ·have s:=List.pairwise_iff_getElem.1 h.sorted i j (by omega) hj (by omega);have r:fK Q i=Q[i]'(by omega):=by simp [fK,Ih,show i<Q.length by omega]
      have q:fK Q j=Q[j]:=by simp [fK,Ih,hj]
      rw [r,q]; omega
    simp only []; omega
  ·exact hr
theorem BJ.none (h:BJ a b DK Q i 0) (g:∀p k,DK p→k<256→DK (bM a p.1 k,bM b p.2 k)) (f:∀p,DK p→eu a p.1=eu b p.2) (m:Q.length≤i):tC a b ([],false):=by
 refine .inr ⟨rfl,fun w c=>?_⟩;rcases h.claim g w with l|⟨j,hj,hp,hr⟩|⟨n,_⟩
 ·exact c (f _ l)
 ·have hs:=h.same j (by omega) hj;have e:(fK Q j).1=walkN a 0 w:=congrArg (·.1) hp;have d:(fK Q j).2.1=walkN b 0 w:=congrArg (·.2) hp;rw [e,d] at hs;exact c hs
 ·omega
theorem BJ.few (h:BJ a b DK Q i c) (ha:Ok a) (hb:Ok b):Q.length≤(a.Next.length+1)*(b.Next.length+1):=by
 have l:∀e∈Q,qH a e.1∧qH b e.2.1:=fun e d=>by
  have:=h.walk e d;rw [this.1,this.2];exact ⟨fD ha (fX ha) _,fD hb (fX hb) _⟩
 let f:EntD→Nat:=fun e=>(e.1+1).toNat*(b.Next.length+1)+(e.2.1+1).toNat
 have:=gG ((a.Next.length+1)*(b.Next.length+1)) (Q.map f) (by
  refine List.pairwise_map.2 ((List.pairwise_map.1 h.nodup).imp_of_mem fun {e g} d p o j=>o ?_);obtain ⟨⟨t,s⟩,r,q⟩:=l e d;obtain ⟨⟨z,y⟩,w,v⟩:=l g p;have m:(e.2.1+1).toNat<b.Next.length+1:=by omega
  have k:(g.2.1+1).toNat<b.Next.length+1:=by omega
  have n:(e.2.1+1).toNat=(g.2.1+1).toNat:=by
   have:=congrArg (· % (b.Next.length+1)) j;simpa [f,Jc m,Jc k,Nat.add_mod] using this
  have u:(e.1+1).toNat=(g.1+1).toNat:=by
   have j:(e.1+1).toNat*(b.Next.length+1)+(e.2.1+1).toNat=(g.1+1).toNat*(b.Next.length+1)+(g.2.1+1).toNat:=j;rw [n] at j;exact Nat.eq_of_mul_eq_mul_right (by omega:0<b.Next.length+1) (by omega)
  show (e.1,e.2.1)=(g.1,g.2.1);rw [Prod.mk.injEq];exact ⟨by omega,by omega⟩) (fun x hx=>by
  obtain ⟨e,d,rfl⟩:=IP.1 hx;obtain ⟨⟨t,s⟩,r,q⟩:=l e d;have m:(e.2.1+1).toNat<b.Next.length+1:=by omega
  have k:(e.1+1).toNat+1≤a.Next.length+1:=by omega
  have:=IF (b.Next.length+1) k;rw [Nat.succ_mul] at this;show (e.1+1).toNat*(b.Next.length+1)+(e.2.1+1).toNat<_;omega)
 simpa using this
end
def rp (e:cI):EntD:=(e.atv.a,e.atv.b,e.text)
def tB (m:List (bJ×Unit)) (L:List cI):Prop:=∀p:bJ,(bY m p).isSome=true↔(p.a,p.b)∈(L.map rp).map xL
theorem pH {L:List cI} {k:Nat} (h:k<L.length):fK (L.map rp) k=rp L[k]:=by simp [fK,Ih,h]
section
variable {a b:T_DFA} (ha:Ok a) (hb:Ok b)
include ha hb
theorem CX {DK:Int×Int→Prop} {Q:List EntD} {i c:Nat} (h:BJ a b DK Q i c) {e:EntD} (he:e∈Q):qH a e.1∧qH b e.2.1:=by
 have:=h.walk e he;rw [this.1,this.2];exact ⟨fD ha (fX ha) _,fD hb (fX hb) _⟩
theorem Dl:(a.Next.length+1)*(b.Next.length+1)≤251001:=by
 have:=Nat.mul_le_mul (Nat.succ_le_succ ha.max) (Nat.succ_le_succ hb.max);exact this
theorem zv {DK:Int×Int→Prop} {Q:List EntD} {i c:Nat} (h:BJ a b DK Q i c):Q.length≤251001:=Nat.le_trans (h.few ha hb) (Dl ha hb)
theorem rT:Is (M.f8 a b) (tC a b):=by
 unfold M.f8;have B:∀(p:Int×Int) (k:Nat),False→k<256→False:=fun _ _ h _=>h
 refine Is.bs (P:=fun _=>tC a b ([],false)) (Is.while (fun d=>∃k:Nat,d.2.2=(k:Int)∧k≤d.1.length∧BJ a b (fun _=>False) (d.1.map rp) k 0∧tB d.2.1 d.1) (fun d=>251002 - d.2.2.toNat) ?_ (by simp only []; omega) ?_) ?_
 ·refine ⟨0,rfl,by simp,BJ.start,fun p=>?_⟩;simp only [dM,bY,List.find?_cons,List.find?_nil];obtain ⟨s,r⟩:=p
  by_cases h:bJ.mk 0 0=⟨s,r⟩
  ·rw [h];cases h; simp [rp,xL]
  ·rw [show ((bJ.mk 0 0) == ⟨s,r⟩)=false by simpa using h];simp [rp,xL];rintro rfl rfl; exact h rfl
 ·rintro ⟨L,m,_⟩ ⟨k,rfl,hk,hB,A⟩;simp only [] at hB A hk ⊢;refine Is.dcd (fun J=>?_) fun K=>Is.stop (hB.none B (fun _ h=>h.elim) (by simp; omega))
  have l:k<L.length:=by omega
  have G:k<(L.map rp).length:=by simpa using l
  have n:=CX ha hb hB (e:=rp L[k]) (List.mem_map_of_mem (Ip l));refine Is.bs (P:=fun d=>BJ a b (fun _=>False) (d.1.map rp) (k+1) 0∧tB d.2 d.1∧k<d.1.length) ?_ ?_
  ·refine Is.bnq (aZ l) (Is.bnq (nV ha n.1) (Is.bnq (nV hb n.2) (Is.cnd (fun F=>Is.stop ?_) fun v=>?_)))
   ·have:=hB.found B (fun _ h=>h.elim) G (by rw [pH l]; exact kI F);rw [pH l] at this;exact this
   ·have v:=eP v;refine Is.upto (fun c d=>d.2.2=(c:Int)∧BJ a b (fun _=>False) (d.1.map rp) k c∧tB d.2.1 d.1∧d.1[k]?=some L[k]) 256 (by omega) ⟨rfl,hB,A,Ii l⟩ ?_ ?_
    ·rintro c ⟨L',m',_⟩ o ⟨rfl,f,g,j⟩;simp only [] at f g j ⊢;obtain ⟨i,x⟩:=Ij.1 j;have w:fK (L'.map rp) k=rp L[k]:=by rw [pH i,x]
     refine Is.dt (by omega) (Is.bnd (P:=fun d=>BJ a b (fun _=>False) (d.1.map rp) k (c+1)∧tB d.2 d.1∧d.1[k]?=some L[k]) ?_ ?_)
     ·rw [mT o];refine Is.bnd (P:=fun p=>p=nx a b (rp L[k]) c) (Is.bnq (mW ha n.1 o) (Is.bnq (mW hb n.2 o) (Is.pure rfl))) ?_;rintro _ rfl;have hs:=g ⟨(nx a b (rp L[k]) c).1,(nx a b (rp L[k]) c).2⟩;refine Is.cnd (fun t=>?_) fun D=>Is.pure ⟨f.skip (.inr ?_),g,j⟩
      ·have t:nx a b (fK (L'.map rp) k) c∉(L'.map rp).map xL:=by
        rw [w]; intro h;have:=hs.2 h;simp [this] at t
       have hp:=f.push (by simpa using i) o t;have hlen:=f.len k (by simpa using i);have u:=zv ha hb f;simp only [IC] at u;rw [w] at hp hlen;have H:zL L[k].text (cX [(c:Int)])=some (L[k].text++[UInt8.ofNat c]):=by
        unfold zL cX;have:L[k].text.length≤k:=hlen;rw [if_pos (by simp; omega)];simp
       refine Is.bnq H (Is.bnq (bN (by simp; omega)) (Is.pure ⟨by rw [ID]; exact hp,fun p=>?_,by rw [Iy i]; exact j⟩));simp only [ID,Iv]
       by_cases hpe:p=⟨(nx a b (rp L[k]) c).1,(nx a b (rp L[k]) c).2⟩
       ·rw [hpe,om]; simp [rp,xL]
       ·rw [pB hpe,g p];constructor
        ·exact .inl
        ·rintro (h|h)
         ·exact h
         ·simp [rp,xL] at h;exact (hpe (by obtain ⟨s,r⟩:=p; simp at h; rw [h.1,h.2]; rfl)).elim
      ·rw [w];exact hs.1 (by simpa using D)
     ·rintro ⟨N,I⟩ ⟨q,z,y⟩;exact Is.bnq (aM (by omega)) (Is.next ⟨rfl,q,z,y⟩)
    ·rintro ⟨L',m',_⟩ ⟨rfl,f,g,j⟩;simp only [] at f g j ⊢;obtain ⟨i,x⟩:=Ij.1 j;refine Is.df (by omega) (Is.stop ⟨f.turn fun _=>?_,g,i⟩);rw [pH i,x]; exact v
  ·rintro ⟨L',m'⟩ ⟨q,z,y⟩;have u:=zv ha hb q;simp only [IC] at u y;exact Is.bnq (aM (by omega)) (Is.next ⟨⟨k+1,rfl,by simp only []; omega,q,z⟩,by simp only [IH]; omega⟩)
 ·intro _ h;exact Is.pure h
end
theorem tP {d:T_DFA} (h:Ok d) {l:List Bool} (hl:∀s,s<(dC d).Next.length→(l.getD s false=true↔Live (dC d) (s:Int))) :
 Ok (cm l (dC d))∧Full (cm l (dC d))∧AllLive (cm l (dC d))∧(∀w,rr (cm l (dC d)) 0 w=rr d 0 w):=by
 have a:=tO h;have hf:=pQ h;refine ⟨DS a,AU a hf,fun s b hs hb e=>?_,fun w=>?_⟩
 ·have c:qH (dC d) s:=by
   have:(cm l (dC d)).Next.length=(dC d).Next.length:=by simp [cm]
   unfold qH at hs ⊢;rw [this] at hs; exact hs
  exact AS a hl c hb e
 ·rw [yM a hl (fX a),xv h (fX h)]
theorem Bi {f:Int→Int} {l:List Int} {v:Int} (h:v∈l.map f):f (l.getD ((l.map f).idxOf v) 0)=v:=by
 have hlt:=List.idxOf_lt_length_of_mem h;have e1:(l.map f)[(l.map f).idxOf v]'hlt=v:=by simp
 rw [IY] at e1;have hlt':(l.map f).idxOf v<l.length:=by simpa using hlt
 rw [Ih,Ii hlt'];exact e1
theorem uU {d:T_DFA} (h:Ok d) (hacc:∀a∈d.Accept,a≤9223372036854775807) :
 Is (M.f3 d) (fun m=>Al m∧(∀w,rr m 0 w=rr d 0 w)∧m.Next.length≤d.Next.length∧∀a∈m.Accept,a≤9223372036854775807):=by
 unfold M.f3;refine Is.bnq (Az h) (Is.bnd (xK (tO h) (pQ h)) ?_);rintro _ ⟨H,rfl,R⟩;obtain ⟨n,hf,hal,L⟩:=tP h R;have W:∀a∈(cm H (dC d)).Accept,a≤9223372036854775807:=hacc;have N:(cm H (dC d)).Next.length=d.Next.length:=by simp [cm,dC]
 simp only [←L,←N];clear L R N hacc;generalize cm H (dC d)=e at *;clear h d H;have b5:=n.max;refine Is.bnd (ta n hf hal W) fun p hp=>?_
 refine Is.bnd (P:=fun c=>∃l,RchM e p l∧(∀w,0≤walkN e 0 w→∃x∈l,gq p x=gq p (walkN e 0 w))∧c=(List.range 256).map (dG (keyC e p l))) ?_ ?_
 ·refine Is.bnd (vn n hf hp hal) fun l ⟨hR,hRc⟩=>?_
  have:=fj hp hR.inr hR.nodup;exact Is.bnq (we n hp hR.inr (by omega)) (Is.pure ⟨l,hR,hRc,rfl⟩)
 rintro _ ⟨l,hR,hRc,rfl⟩;refine Is.bnd (vg (keyC e p l)) fun bytes hB=>?_
 have a5:=n.pos;have b9:bytes.length≤256:=by rw [hB.len]; exact rl _ 256
 refine Is.bnq (ow hp (x:=0) (by omega) (by omega)) ?_;refine Is.bnd (P:=fun r=>∃order,MC e p bytes order r.1 r.2 order.length []) ?_ ?_
 ·refine Is.while (fun f=>∃k:Nat,f.2.2.2.2=(k:Int)∧MC e p bytes f.2.2.1 f.1 f.2.1 k []∧dg (fun _=>True) id f.2.2.2.1 (f.2.2.1.map (gq p))) (fun f=>e.Next.length - f.2.2.2.2.toNat) ⟨0,rfl,MC.start0 a5,?_⟩ (by simp only []; omega) ?_
  ·exact ((dg.nil (P:=fun _=>True) (enc:=id)).new (fun _ _ _ _ e=>e) (k:=gq p 0) trivial (by simp)).2
  rintro ⟨rows,accs,order,m,_⟩ ⟨k,rfl,hM,Q⟩;simp only [] at hM Q ⊢;have b7:=hM.ile;have a6:=fj hp hM.inr hM.nodup;refine Is.dcd (fun b6=>?_) fun b8=>Is.stop ⟨order,?_⟩
  rotate_left
  ·have:k=order.length:=by omega
   subst this; exact hM
  have hk:k<order.length:=by omega
  refine Is.bnd (P:=fun f=>k+1≤f.2.2.1.length∧MC e p bytes f.2.2.1 f.1 f.2.1 (k+1) []∧dg (fun _=>True) id f.2.2.2 (f.2.2.1.map (gq p))) ?_ ?_
  ·refine Is.bnq (eI (by omega)) (Is.bnd (P:=fun f=>k<f.1.length∧MC e p bytes f.1 rows accs k f.2.2∧f.2.2.length=bytes.length∧dg (fun _=>True) id f.2.1 (f.1.map (gq p))) ?_ ?_)
   ·refine Is.upto (fun c f=>f.2.2.2=(c:Int)∧k<f.1.length∧dg (fun _=>True) id f.2.1 (f.1.map (gq p))∧∃done:List Int,done.length=c∧f.2.2.1=done++List.replicate (bytes.length - c) 0∧MC e p bytes f.1 rows accs k done) bytes.length (by omega) ⟨rfl,hk,Q,[],rfl,by simp,hM⟩ ?_ ?_
    ·rintro c ⟨j,I,_,_⟩ U ⟨rfl,i,o,done,q,rfl,g⟩;simp only [] at i o g ⊢;have J:=fj hp g.inr g.nodup;obtain ⟨b,hb,X,_⟩:=hB.rep c U;have hx:=g.inr _ (cV (d:=0) i);have a4:List.replicate (bytes.length - c) (0:Int)=0::List.replicate (bytes.length - (c+1)) 0:=by
      rw [show bytes.length - c=(bytes.length - (c+1))+1 by omega,List.replicate_succ]
     have K:∀v u:Int,dE (done++v::List.replicate (bytes.length - (c+1)) 0) (c:Int) u=some ((done++[u])++List.replicate (bytes.length - (c+1)) 0):=by
      intro v u;rw [dk (by simp; omega),List.set_append,if_neg (by omega),q,Nat.sub_self,List.set_cons_zero,Iw]; rfl
     have V:((bytes.getD done.length 0).toNat)=b:=by rw [q,X]; rfl
     have S:=cQ n (s:=j.getD k 0) ⟨by omega,hx.2⟩ hb;have T:∀v,lU e p j (j.getD k 0) v b→MC e p bytes j rows accs k (done++[v]):=fun v hv=>g.old i (by rw [V]; exact hv)
     refine Is.dt (by omega) (Is.bnd (P:=fun f=>k<f.1.length∧dg (fun _=>True) id f.2.1 (f.1.map (gq p))∧∃G:List Int,G.length=c+1∧f.2.2=G++List.replicate (bytes.length - (c+1)) 0∧MC e p bytes f.1 rows accs k G) ?_ ?_)
     ·refine Is.bnq (wY U) (Is.bnq (wY i) (Is.bnq (x:=bM e (j.getD k 0) b) (by rw [X]; exact mW n ⟨by omega,hx.2⟩ hb) ?_));rw [a4];refine Is.bnq (K 0 (-1)) (Is.dcd (fun B=>Is.pure ⟨i,o,done++[-1],by simp [q],rfl,T _ (.inl ⟨B,rfl⟩)⟩) fun B=>?_);have B:0≤bM e (j.getD k 0) b:=by omega
      refine Is.bnq (ow hp B S.2) (Is.bnd (P:=fun r=>k<r.1.length∧dg (fun _=>True) id r.2.1 (r.1.map (gq p))∧MC e p bytes r.1 rows accs k (done++[r.2.2])) ?_ ?_)
      ·by_cases hmem:gq p (bM e (j.getD k 0) b)∈j.map (gq p)
       ·obtain ⟨t,A⟩:=o.old trivial hmem;simp only [id] at t A;rw [t,A];refine Is.cf rfl (Is.pure ⟨i,o,T _ (.inr ⟨B,_,rfl,?_,?_⟩)⟩)
        ·have:=List.idxOf_lt_length_of_mem hmem;simpa using this
        ·exact Bi hmem
       ·obtain ⟨t,A⟩:=o.new (fun _ _ _ _ e=>e) trivial hmem;simp only [id] at t A;rw [t];rw [IC] at A;refine Is.ct rfl (Is.bnq (bN (by simp; omega)) (Is.pure ⟨by simp; omega,by rw [ID]; exact A,?_⟩));obtain ⟨w,hw⟩:=g.walk _ (cV (d:=0) i);refine g.new i (by rw [V]) B S.2 ⟨w++[UInt8.ofNat b],?_⟩ hmem;have e1:(UInt8.ofNat b).toNat=b:=by simp; omega
        rw [iI,hw,e1]
      ·rintro ⟨Y,m3,v⟩ ⟨F,y,D⟩;simp only [] at F y D ⊢;refine Is.bnq (x:=(done++[v])++List.replicate (bytes.length - (c+1)) 0) ?_ (Is.pure ⟨F,y,done++[v],by simp [q],rfl,D⟩);have:=K (-1) v
       rwa [show done++-1::List.replicate (bytes.length - (c+1)) 0=(done++[-1])++List.replicate (bytes.length - (c+1)) 0 by simp] at this
     ·rintro ⟨Y,m3,l3⟩ ⟨F,y,G,D,g4,g5⟩;exact Is.bnq (aM (by omega)) (Is.next ⟨rfl,F,y,G,D,g4,g5⟩)
    ·rintro ⟨j,I,_,_⟩ ⟨rfl,i,o,done,q,rfl,g⟩;simp only [] at i o g ⊢;refine Is.df (by omega) (Is.stop ?_);simp only [Nat.sub_self,List.replicate_zero,List.append_nil];exact ⟨i,g,q,o⟩
   ·rintro ⟨j,I,done⟩ ⟨i,g,q,o⟩;simp only [] at i g q o ⊢;have J:=fj hp g.inr g.nodup;have hx:=g.inr _ (cV (d:=0) i);have b4:=g.rlen;have a8:=congrArg List.length g.accs;simp at a8;have a7:=n.acc;refine Is.bnq (bN (by simp; omega)) (Is.bnq (wY i) (Is.bnq (dZ (d:=0) hx.1 (by rw [a7]; exact hx.2)) (Is.bnq (bN (by simp; omega)) (Is.pure ⟨i,g.turn i q,o⟩))))
  ·rintro ⟨r2,a2,j,I⟩ ⟨F,y,D⟩;have J:=fj hp y.inr y.nodup;simp only [] at F J;exact Is.bnq (aM (by omega)) (Is.next ⟨⟨k+1,rfl,y,D⟩,by simp only [IH]; omega⟩)
 ·rintro ⟨rows,accs⟩ ⟨order,hM⟩;simp only [] at hM ⊢;have a6:=fj hp hM.inr hM.nodup;refine Is.pure ⟨xO n hal hp hR hRc hB hM,fun w=>?_,?_,fun a ha=>?_⟩
  ·have:=py n hal hp hR hRc hB hM w 0 hM.z.2;rw [hM.z.1] at this;exact this
  ·have:=hM.rlen;show rows.length≤_;omega
  ·have ha:a∈accs:=ha;have t:=hM.accs;rw [Iq] at t;rw [t] at ha;obtain ⟨x,hx,rfl⟩:=IP.1 ha;have:=hM.inr x hx;exact W _ (cV (by rw [n.acc]; omega))
theorem pn {α:Type} {l:List α} {i j:Nat} (h1:i≤j) (h2:j≤l.length):oR l (i:Int) (j:Int)=some ((l.take j).drop i):=by unfold oR; rw [if_pos ⟨by omega,by omega,by omega⟩]; simp
theorem zp {K:Int} (hK:0≤K) {a:List Int} {n:Nat} (h:∀x∈a,x≤K):∀x∈tG a n,x≤K:=by
 intro x hx;rcases Iv.1 hx with hx|hx
 ·exact h x hx
 ·rw [(List.mem_replicate.1 hx).2]; omega
theorem sp {K i:Int} (hi:i≤K):∀(la:List Nat) {a:List Int},(∀x∈a,x≤K)→∀x∈lJ la i a,x≤K
 | [],_,h=>h
 | p::la,a,h=>sp hi la (a:=a.set p i) fun x hx=>by
  rcases List.mem_or_eq_of_mem_set hx with hx|rfl
  ·exact h x hx
  ·exact hi
theorem ya {K i:Int} (hi:i≤K) {n:Bool} {a:List Int} (h:∀x∈a,x≤K):∀x∈lQ n i a,x≤K:=by
 unfold lQ;cases n && decide (a.getD 0 0<0)
 ·exact h
 ·intro x hx;rcases List.mem_or_eq_of_mem_set hx with hx|rfl
  ·exact h x hx
  ·exact hi
theorem uP {K:Nat}:∀(l:List T_Regex) (i:Nat) (s:Bs×List Int),i+l.length≤K→(∀x∈s.2,x≤(K:Int))→∀x∈(dx i l s).2,x≤(K:Int)
 | [],_,_,_,h=>h
 | y::l,i,s,hi,h=>by
  simp only [IK] at hi;exact uP l (i+1) (sa i y s) (by omega) (ya (by omega) (sp (by omega) _ (zp (by omega) h)))
theorem BK {K:Int} (c:0≤K) {acc:List Int} (h:∀x∈acc,x≤K) (l:List Int):oE acc l≤K:=by
 have b:∀k:Nat,acc.getD k 0≤K:=fun k=>by
  by_cases hk:k<acc.length
  ·exact h _ (cV hk)
  ·rw [Ih,IM (by omega)]; exact c
 have:∀(l:List Int) (o:Int),o≤K→l.foldl (gk acc) o≤K:=by
  intro l;induction l with
  | nil=>exact fun o a=>a
  | cons s l ih=>
   intro o a;refine ih _ ?_;unfold gk;cases (decide (0≤acc.getD s.toNat 0) && (decide (o<0) || decide (acc.getD s.toNat 0<o)))
   ·exact a
   ·exact b _
 exact this l (-1) (by omega)
structure GT (l:List T_Regex) (d:T_DFA):Prop where
  val:∀y∈l,V 30 y=true
  prt:bE l≤500
  fin:rj (cx l)
  can:Al d
  run:∀w:Str,rh l (cW w) (eu d (walkN d 0 w))
theorem nH {l:List T_Regex} (ok:∀x∈l,bO x) (hp:bE l≤1048576):Is (M.b4 l) (fun r=>(r.2=0→GT l r.1)∧((∀y∈l,V 30 y=true)→bE l≤500→rj (cx l)→r.2=0)):=by
 unfold M.b4;refine Is.bnd (Bk ok hp) fun r c=>?_
 obtain ⟨n,e⟩:=r;rcases c with ⟨⟨y,hy,g⟩,b,f⟩|⟨_,t,b,f⟩|⟨j,d,b,f⟩
 ·obtain rfl:e=1:=b;exact Is.ct rfl (Is.pure ⟨fun e=>absurd (show (1:Int)=0 from e) (by decide),fun h=>by rw [h y hy] at g; cases g⟩)
 ·obtain rfl:e=11:=b;exact Is.ct rfl (Is.pure ⟨fun e=>absurd (show (11:Int)=0 from e) (by decide),fun _ h=>by omega⟩)
 ·obtain rfl:e=0:=b;obtain rfl:n=cx l:=f;have hn:=ly ok d;have hal:=(kL d).2;refine Is.cf rfl (Is.bnd (Da (n:=cx l) hn (by omega)) fun r c=>?_);rcases c with ⟨rfl,k⟩|⟨p,hf,hd⟩
  ·exact Is.ct rfl (Is.pure ⟨fun e=>absurd e (by decide),fun _ _ hf=>(Be k hf).elim⟩)
  ·refine Is.cf (by rw [p]; rfl) ?_;have s:=fx l;have o:∀a∈r.1.Accept,a≤9223372036854775807:=by
    intro a ha;obtain ⟨S,rfl⟩:=hd.2.2.2 a ha;refine BK (by decide) (fun x hx=>?_) S;have:=uP (K:=l.length) l 0 dc (by omega) (by intro x hx; rw [show dc.2=[-1] from rfl] at hx; rw [Iu.1 hx]; omega) x hx;omega
   refine Is.bnd (uU hd.1 o) fun m i=>Is.pure ⟨fun _=>⟨j,d,hf,i.1,fun w=>?_⟩,fun _ _ _=>rfl⟩
   have q:eu m (walkN m 0 w)=CB (cx l) w:=(i.2.1 w).trans (hd.2.1 w);rw [q];exact xA hn w
theorem wt {c:UInt8} {w:List Nat}:L ⟨3,rG (eD c.toNat c.toNat),[]⟩ w↔w=[c.toNat]:=by
 have a:eD c.toNat c.toNat=[c.toNat]:=by
  unfold eD;rw [show c.toNat+1 - c.toNat=1 by omega];simp
 have d:∀b,mem (rG (eD c.toNat c.toNat)) b=decide (b=c.toNat):=fun b=>by
  rw [wU (by rw [a]; intro b hb; rw [Iu.1 hb]; exact c.toNat_lt),a];simp
 rw [Fj];constructor
 ·rintro ⟨b,rfl,hb⟩;rw [d] at hb;rw [of_decide_eq_true hb]
 ·rintro rfl;exact ⟨_,rfl,by rw [d]; simp⟩
def pe (s:Str):List T_Regex:=s.map fun c=>⟨3,rG (eD c.toNat c.toNat),[]⟩
theorem qD:∀s:Str,bE (pe s)=s.length
 | []=>rfl
 | c::s=>by
  have:=qD s;show parts _+bE (pe s)=_;rw [this];simp [parts,bE]; omega
theorem wq:∀(s:Str) (w:List Nat),LC (pe s) w↔w=cW s
 | [],w=>Iff.rfl
 | c::s,w=>by
  show (∃u v,w=u++v∧L _ u∧LC (pe s) v)↔w=c.toNat::cW s;constructor
  ·rintro ⟨u,v,rfl,h1,h2⟩;rw [(wq s v).1 h2,wt.1 h1]; rfl
  ·rintro rfl;exact ⟨[c.toNat],cW s,rfl,wt.2 rfl,(wq s _).2 rfl⟩
theorem vK {s:Str} (hs:s.length≤1000):Is (M.e9 s) (fun x=>bO x∧parts x≤s.length+1∧∀w,L x w↔w=cW s):=by
 unfold M.e9;refine Is.bnq (x:=pe s) (Is.eq ?_) ?_
 ·refine Is.upto (fun i (b:List T_Regex×Int)=>b.2=(i:Int)∧b.1=pe (s.take i)) s.length (by omega) ⟨rfl,rfl⟩ ?_ ?_
  ·rintro i ⟨l,_⟩ d ⟨rfl,e⟩;obtain rfl:l=_:=e;refine Is.dt (by omega) (Is.bnq (dY d) (Is.bnq (nN (s[i]).toNat_lt (s[i]).toNat_lt) (Is.bnq (bN (by simp only [pe,IC,IJ,Il]; omega)) (Is.bnq (aM (by omega)) (Is.next ⟨rfl,?_⟩)))));show pe (s.take i)++_=pe (s.take (i+1));rw [Ix d]; unfold pe; rw [ID]; rfl
  ·rintro ⟨l,_⟩ ⟨rfl,e⟩;obtain rfl:l=_:=e;rw [Iq];exact Is.df (by omega) (Is.stop rfl)
 ·have hlen:(pe s).length=s.length:=by simp [pe]
  refine Is.cnd (fun a=>?_) (fun a=>Is.pure ⟨fG (by omega) (by omega) ?_,?_,fun w=>GQ.trans (wq s w)⟩)
  ·have a:=dw a;obtain ⟨c,rfl⟩:=List.length_eq_one_iff.1 (show s.length=1 by omega);exact Is.bnq (x:=⟨3,rG (eD c.toNat c.toNat),[]⟩) rfl (Is.pure ⟨nt (ld _),by simp [parts,bE],fun w=>wt⟩)
  ·intro y hy;obtain ⟨c,_,rfl⟩:=IP.1 hy;exact nt (ld _)
  ·have:=qD s;simp only [parts]; omega
theorem sB:∀ {s t:Str},cW s=cW t→s=t
 | [],[],_=>rfl
 | [],_::_,h=>by cases h
 | _::_,[],h=>by cases h
 | a::s,b::t,h=>by
  have h:a.toNat::cW s=b.toNat::cW t:=h;rw [UInt8.toNat_inj.1 (List.cons.inj h).1,sB (List.cons.inj h).2]
theorem wS {x:T_Regex} {d:T_DFA} (h:GT [x] d) (w:Str):eu d (walkN d 0 w)=0↔L x (cW w):=by
 rcases h.run w with ⟨e,h1⟩|⟨j,hj,e,h1,_⟩
 ·rw [e];exact ⟨fun h=>by omega,fun h2=>absurd h2 (h1 0 (by simp))⟩
 ·simp only [Il] at hj;obtain rfl:j=0:=by omega
  exact ⟨fun _=>h1,fun _=>e⟩
theorem AY {x:T_Regex} {s:Str} (ok:bO x) (hp:parts x≤100000) (hs:s.length≤1000):Is (M.d6 x s) (fun b=>b=true→∀w:Str,L x (cW w)↔w=s):=by
 have g:∀y:T_Regex,bE [y]=parts y:=fun y=>by simp [bE]
 unfold M.d6;refine Is.bnd (nH (l:=[x]) (by simpa using ok) (by rw [g]; omega)) fun a ha=>Is.bnd (vK hs) fun y hy=>Is.bnd (nH (l:=[y]) (by simpa using hy.1) (by have:=hy.2.1; rw [g]; omega)) fun b hb=>?_
 refine Is.bnd (P:=fun e=>e=false→a.2=0∧b.2=0) ?_ fun e k=>Is.cnd (fun _=>Is.pure fun h=>by cases h) (fun h=>?_)
 ·exact Is.cnd (fun h=>Is.pure fun h=>by cases h) (fun h=>Is.pure fun f=>⟨eP h,eP f⟩)
 obtain ⟨m,f⟩:=k h;have A:=ha.1 m;have B:=hb.1 f;refine Is.bnd (rT A.can.ok B.can.ok) fun d hd=>Is.pure fun hb w=>?_
 have i:¬ yr a.1 b.1 w:=by
  rcases hd with ⟨c,_⟩|⟨_,c⟩
  ·rw [c] at hb; cases hb
  ·exact c w
 have j:eu a.1 (walkN a.1 0 w)=eu b.1 (walkN b.1 0 w):=by
  unfold yr at i;exact Classical.not_not.1 i
 rw [←wS A w,j,wS B w,hy.2.2];exact ⟨sB,fun h=>by rw [h]⟩
def rx (d:bp):T_Regex×Int×Int:=(M.f9 d.Pattern).getD (⟨0,aT.zero 4,[]⟩,0,3)
structure BT (d:bp):Prop where
  prog:M.f9 d.Pattern=some (rx d)
  ref:M.g9 d.Pattern=some (rx d)
  ok:bO (rx d).1
  hgt:height (rx d).1≤92
  prt:parts (rx d).1≤31*2 ^ height (rx d).1
  val:(rx d).2.2=0→V 30 (rx d).1=true
theorem Cb {d:bp} (h:d.Pattern.length≤30):BT d:=by
 obtain ⟨r,h1,h2,h3,h4,h5,h6⟩:=xN (s:=d.Pattern) (by omega);have e:rx d=r:=by unfold rx; rw [h1]; rfl
 subst e;exact ⟨h1,h2,h3,by omega,Nat.le_trans h5 (IF _ (by omega)),h6⟩
theorem vx {d:bp} (h:BT d):M.h6 d=some (rx d).1:=by
 unfold M.h6;rw [h.ref]; rfl
structure yp (d:bp):Prop where
  ro:BT d
  low:height (rx d).1≤8
  good:(rx d).2.2=0
theorem yp.parts {d:bp} (h:yp d):parts (rx d).1≤7936:=Nat.le_trans h.ro.prt (Nat.le_trans (IG 31 (Nat.pow_le_pow_right (by omega) h.low)) (by decide))
theorem yp.fit {d:bp} (h:yp d):Fit (rx d).1:=tm _ 30 h.ro.ok (h.ro.val h.good) (by have:=h.parts; omega)
theorem yp.fh {d:bp} (h:yp d):FH (rx d).1:=⟨h.fit,by have:=h.low; unfold ba; omega⟩
theorem xX {s:Str} (hs:s.length≤1000000):Is (M.h3 s) (fun _=>True):=by
 unfold M.h3;refine Is.bnd (P:=fun _=>True) ?_ fun b _=>Is.cnd (fun _=>Is.pure trivial) (fun _=>?_)
 ·exact Is.cnd (fun _=>Is.pure trivial) (fun _=>Is.cnd (fun _=>Is.pure trivial) (fun _=>Is.bnq rfl (Is.cnd (fun _=>Is.pure trivial) (fun _=>Is.bnq rfl (Is.cnd (fun _=>Is.pure trivial) (fun _=>Is.bnq rfl (Is.pure trivial)))))))
 ·refine Is.bs (P:=fun _=>True) (Is.upto (fun i a=>a=(i:Int)) s.length (by omega) rfl ?_ ?_) (fun _ _=>Is.pure trivial)
  ·rintro i _ c rfl;refine Is.dt (by omega) (Is.bnq (dY c) (Is.bnd (P:=fun _=>True) ?_ fun b _=>Is.bnd (P:=fun _=>True) ?_ fun b _=>Is.cnd (fun _=>Is.stop trivial) (fun _=>Is.bnq (aM (by omega)) (Is.next rfl)))) <;>
   repeat' (first|exact Is.pure trivial|refine Is.cnd (fun _=>?_) (fun _=>?_))
  ·rintro _ rfl;exact Is.df (by omega) (Is.stop trivial)
theorem sZ {s:Str} (hs:s.length≤1000000):Is (M.f2 s) (fun _=>True):=by
 unfold M.f2;refine Is.bs (P:=fun _=>True) (Is.upto (fun i a=>a=(i:Int)) s.length (by omega) rfl ?_ ?_) (fun _ _=>Is.pure trivial)
 ·rintro i _ c rfl;exact Is.dt (by omega) (Is.bnd (P:=fun _=>True) (Is.bnq (dY c) (Is.cnd (fun _=>Is.pure trivial) (fun _=>Is.pure trivial))) fun b _=>Is.cnd (fun _=>Is.stop trivial) (fun _=>Is.bnq (aM (by omega)) (Is.next rfl)))
 ·rintro _ rfl;exact Is.df (by omega) (Is.stop trivial)
theorem CY {l:List bp} {i:Nat} (c:i≤l.length) (hl:l.length≤1000000) (e:bp):Is (M.a1 l (i:Int) e) (fun _=>True):=by
 unfold M.a1;have hlen:((l.take i).drop 0).length=i:=by simp; omega
 refine Is.bs (P:=fun _=>True) (Is.bnq (pn (i:=0) (j:=i) (by omega) c) (Is.upto (fun j a=>a=(j:Int)) ((l.take i).drop 0).length (by omega) rfl ?_ ?_)) (fun _ _=>Is.pure trivial)
 ·rintro j _ b rfl;exact Is.dt (by omega) (Is.bnq (aZ b) (Is.cnd (fun _=>Is.stop trivial) (fun _=>Is.bnq (aM (by omega)) (Is.next rfl))))
 ·rintro _ rfl;exact Is.df (by omega) (Is.stop trivial)
theorem rR {l:List bp} {i:Nat} (f:i<l.length) (hl:l.length≤1000000) (hf:FewD l[i] 30) (low:height (rx l[i]).1≤8) :
 Is (M.a6 l (i:Int)) (fun e=>e=0→yp l[i]∧¬ L (rx l[i]).1 []):=by
 have hx:=Cb hf.2.1;unfold M.a6;refine Is.bnq (aZ f) (Is.bnq hx.prog ?_);refine Is.bs (P:=fun _=>yp l[i]∧¬ L (rx l[i]).1 []) (Q:=fun e:Int=>e=0→yp l[i]∧¬ L (rx l[i]).1 []) ?_ (fun _ h=>Is.pure fun _=>h);refine Is.bnq (x:=(6:Int)) rfl ?_;refine Is.upto (fun j d=>d=(j:Int)∧(4≤j→yp l[i])∧(5≤j→¬ L (rx l[i]).1 [])) 6 (by decide) ⟨rfl,by omega,by omega⟩ ?_ ?_
 ·rintro j _ k ⟨rfl,a,c⟩;refine Is.dt (by omega) ?_;obtain rfl|rfl|rfl|rfl|rfl|rfl:j=0∨j=1∨j=2∨j=3∨j=4∨j=5:=by omega
  ·refine Is.bnq rfl (Is.bnd (P:=fun _=>True) (show Is (M.b3 l[i]) _ from ?_) fun b _=>Is.cnd (fun _=>Is.stop fun e=>absurd (show (4:Int)=0 from e) (by decide)) (fun _=>Is.bnq (aM (by omega)) (Is.next ⟨rfl,by omega,by omega⟩)));exact Is.bnd (xX (by have:=hf.1; omega)) fun _ _=>Is.pure trivial
  ·exact Is.bnq rfl (Is.bnd (P:=fun _=>True) (show Is (M.a1 l (i:Int) l[i]) _ from CY (by omega) hl _) fun b _=>Is.cnd (fun _=>Is.stop fun e=>absurd (show (5:Int)=0 from e) (by decide)) (fun _=>Is.bnq (aM (by omega)) (Is.next ⟨rfl,by omega,by omega⟩)))
  ·refine Is.bnq rfl (Is.bnd (P:=fun _=>True) (show Is (M.b2 l[i]) _ from ?_) fun b _=>Is.cnd (fun _=>Is.stop fun e=>absurd (show (1:Int)=0 from e) (by decide)) (fun _=>Is.bnq (aM (by omega)) (Is.next ⟨rfl,by omega,by omega⟩)));exact Is.bnd (P:=fun _=>True) (Is.cnd (fun _=>Is.pure trivial) (fun _=>Is.pure trivial)) fun _ _=>Is.pure trivial
  ·refine Is.bnq rfl (Is.bnq (x:=((rx l[i]).2.2 != 0)) rfl (Is.cnd (fun h=>Is.stop fun e=>absurd (show (rx l[i]).2.2=0 from e) (kI h)) (fun h=>Is.bnq (aM (by omega)) (Is.next ⟨rfl,fun _=>⟨hx,low,eP h⟩,by omega⟩))))
  ·have hp:=a (by omega);refine Is.bnq rfl (Is.bnq (x:=nb (rx l[i]).1) (show M.a7 (rx l[i]).1=_ from ?_) (Is.cnd (fun h=>Is.stop fun e=>absurd (show (10:Int)=0 from e) (by decide)) (fun h=>Is.bnq (aM (by omega)) (Is.next ⟨rfl,fun _=>hp,fun _ g=>?_⟩))))
   ·unfold M.a7;rw [uo ba _ hp.fh.1 hp.fh.2]; rfl
   ·rw [(CS _).2 g] at h; cases h
  ·have hp:=a (by omega);have hn:=c (by omega);refine Is.bnq rfl (Is.bnd (P:=fun _=>True) (show Is (M.b1 l[i]) _ from ?_) fun b _=>Is.cnd (fun _=>Is.stop fun e=>absurd (show (1:Int)=0 from e) (by decide)) (fun _=>Is.bnq (aM (by omega)) (Is.next ⟨rfl,fun _=>hp,fun _=>hn⟩)));exact Is.bnd (sZ (by have:=hf.2.2.2; omega)) fun _ _=>Is.pure trivial
 ·rintro _ ⟨rfl,a,c⟩;exact Is.df (by omega) (Is.stop ⟨a (by omega),c (by omega)⟩)
def ja (x:T_LexSpec):List T_Regex:=x.Defs.map fun d=>(rx d).1
structure rm (x:T_LexSpec) (d:T_DFA):Prop where
  one:1≤x.Defs.length
  def0:∀i,i<x.Defs.length→M.a6 x.Defs (i:Int)=some 0
  pat:∀y∈x.Defs,yp y∧¬ L (rx y).1 []
  mis:(0≤x.Misspelling∧x.Misspelling≤1000)∧(0≤x.Unclosed∧x.Unclosed≤1000)
  blt:GT (ja x) d
  smp:∀i (h:i<x.Defs.length),eu d (walkN d 0 x.Defs[i].Sample)=(i:Int)
  key0:∀i (h:i<x.Defs.length),x.Defs[i].Kind=3→M.d6 (rx x.Defs[i]).1 x.Defs[i].Sample=some true
section
variable {x:T_LexSpec} (h6:x.Defs.length≤6) (hf:∀d∈x.Defs,FewD d 30) (hlow:∀d∈x.Defs,height (rx d).1≤8)
include hf in
theorem Dx {d:bp} (hd:d∈x.Defs):BT d:=Cb (hf d hd).2.1
include hf hlow
theorem pw:(∀y∈ja x,bO y)∧bE (ja x)≤x.Defs.length*7936:=by
 refine ⟨fun y hy=>?_,?_⟩
 ·obtain ⟨d,hd,rfl⟩:=IP.1 hy;exact (Dx hf hd).ok
 ·have:∀l:List bp,(∀d∈l,d∈x.Defs)→bE (l.map fun d=>(rx d).1)≤l.length*7936:=by
   intro l;induction l with
   | nil=>intro _; simp [bE]
   | cons d l ih=>
    intro hl;have e:=ih fun z a=>hl z (by simp [a])
    have c:=(Dx hf (hl d (by simp))).prt;have b:31*2 ^ height (rx d).1≤31*2 ^ 8:=IG 31 (Nat.pow_le_pow_right (by omega) (hlow d (hl d (by simp))));simp only [List.map_cons,bE,IK]; omega
  exact this x.Defs fun _ h=>h
include h6
theorem qO:Is (M.b0 x) (fun r=>r.2.2=0→rm x r.1):=by
 obtain ⟨ok,S⟩:=pw hf hlow;unfold M.b0;refine Is.bnd (P:=fun b=>b=false→1≤x.Defs.length) ?_ fun b hb=>Is.cnd (fun _=>Is.pure fun e=>absurd (show (11:Int)=0 from e) (by decide)) (fun h=>?_)
 ·exact Is.dcd (fun _=>Is.pure fun h=>by cases h) (fun h=>Is.pure fun _=>by omega)
 have D:=hb h;refine Is.bs (P:=fun l=>l=ja x∧(∀j,j<x.Defs.length→M.a6 x.Defs (j:Int)=some 0)∧∀d∈x.Defs,yp d∧¬ L (rx d).1 []) (Q:=fun r:T_DFA×Int×Int=>r.2.2=0→rm x r.1) ?_ ?_
 ·refine Is.upto (fun i (m:List T_Regex×Int)=>m.2=(i:Int)∧m.1=(x.Defs.take i).map (fun d=>(rx d).1)∧(∀j,j<i→M.a6 x.Defs (j:Int)=some 0)∧∀d∈x.Defs.take i,yp d∧¬ L (rx d).1 []) x.Defs.length (by omega) ⟨rfl,rfl,fun _ h=>by omega,by simp⟩ ?_ ?_
  ·rintro i ⟨l,_⟩ c ⟨rfl,e,a,hd⟩;obtain rfl:l=_:=e;have f:=Ip c;obtain ⟨e,A,K⟩:=rR c (by omega) (hf _ f) (hlow _ f);refine Is.dt (by omega) (Is.bnq (aZ c) (Is.bnq A (Is.cnd (fun n=>Is.stop fun e=>absurd e (kI n)) (fun u=>?_))));obtain rfl:e=0:=eP u;have hp:=K rfl;refine Is.bnq (Dx hf f).prog (Is.bnq (bN (by simp only [IC,IJ,Il]; omega)) (Is.bnq (aM (by omega)) (Is.next ⟨rfl,?_,fun j I=>?_,fun d g=>?_⟩)))
   ·rw [Ix c,ID]; rfl
   ·rcases Nat.lt_or_eq_of_le (Nat.le_of_lt_succ I) with k|rfl
    ·exact a j k
    ·exact A
   ·rw [Ix c,Iv] at g;rcases g with g|g
    ·exact hd d g
    ·rw [Iu.1 g]; exact hp
  ·rintro ⟨l,_⟩ ⟨rfl,e,a,hd⟩;obtain rfl:l=_:=e;rw [Iq] at hd ⊢;exact Is.df (by omega) (Is.stop ⟨rfl,a,hd⟩)
 rintro _ ⟨rfl,N,y⟩;refine Is.bnd (P:=fun b=>b=false→(0≤x.Misspelling∧x.Misspelling≤1000)∧(0≤x.Unclosed∧x.Unclosed≤1000)) ?_ fun b hb=>Is.cnd (fun _=>Is.pure fun e=>absurd (show (1:Int)=0 from e) (by decide)) (fun R=>?_)
 ·refine Is.dcd (fun _=>Is.pure fun h=>by cases h) (fun D=>Is.dcd (fun _=>Is.pure fun h=>by cases h) (fun T=>Is.dcd (fun _=>Is.pure fun h=>by cases h) (fun t=>Is.pure fun h=>?_)));have:=of_decide_eq_false h;exact ⟨by omega,by omega⟩
 have H:=hb R;refine Is.bnd (nH ok (by omega)) fun r F=>Is.cnd (fun n=>Is.pure fun e=>absurd e (kI n)) (fun u=>?_)
 have B:=F.1 (eP u);refine Is.bs (P:=fun _=>rm x r.1) (Q:=fun r:T_DFA×Int×Int=>r.2.2=0→rm x r.1) ?_ (fun _ h=>Is.pure fun _=>h);refine Is.upto (fun i m=>m=(i:Int)∧(∀j (h:j<x.Defs.length),j<i→eu r.1 (walkN r.1 0 x.Defs[j].Sample)=(j:Int))∧∀j (h:j<x.Defs.length),j<i→x.Defs[j].Kind=3→M.d6 (rx x.Defs[j]).1 x.Defs[j].Sample=some true) x.Defs.length (by omega) ⟨rfl,fun _ _ h=>by omega,fun _ _ h=>by omega⟩ ?_ ?_
 ·rintro i _ c ⟨rfl,p,o⟩;have f:=Ip c;have z:=hf _ f;have v:=(y _ f).1;refine Is.dt (by omega) (Is.bnq (aZ c) (Is.bnq (Ab B.can.ok (w:=x.Defs[i].Sample) (by have:=z.2.2.1; omega)) (Is.cnd (fun n=>Is.stop fun e=>absurd (show (13:Int)=0 from e) (by decide)) (fun hs=>?_))));have hs:=eP hs;refine Is.bnd (P:=fun b=>b=false→x.Defs[i].Kind=3→M.d6 (rx x.Defs[i]).1 x.Defs[i].Sample=some true) ?_ fun b hb=>Is.cnd (fun _=>Is.stop fun e=>absurd (show (14:Int)=0 from e) (by decide)) (fun h=>Is.bnq (aM (by omega)) (Is.next ⟨rfl,fun j a q=>?_,fun j a q=>?_⟩))
  ·refine Is.cnd (fun t=>?_) (fun t=>Is.pure fun _ h=>absurd h (kJ t));have J:i<(ja x).length:=by simp [ja]; omega
   have G:(ja x)[i]=(rx x.Defs[i]).1:=by simp [ja]
   refine Is.bnq (aZ J) ?_;rw [G];obtain ⟨b,hb,_⟩:=AY v.ro.ok (by have:=v.parts; omega) (s:=x.Defs[i].Sample) (by have:=z.2.2.1; omega);exact Is.bnq hb (Is.pure fun h _=>by rw [hb]; simpa using h)
  ·rcases Nat.lt_or_eq_of_le (Nat.le_of_lt_succ q) with k|rfl
   ·exact p j a k
   ·exact hs
  ·rcases Nat.lt_or_eq_of_le (Nat.le_of_lt_succ q) with k|rfl
   ·exact o j a k
   ·exact hb h
 ·rintro _ ⟨rfl,p,o⟩;exact Is.df (by omega) (Is.stop ⟨D,N,y,H,B,fun j a=>p j a a,fun j a=>o j a a⟩)
end
end Go.Proofs.YtggpjcdhflcfmaaGreatDoor
