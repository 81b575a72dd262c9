/- Part 15. -/
import Derived.Lib.IndexLaws
import Derived.Test.YtlcdifnmkafcfaaGreatKLexrepairConfusions14
namespace Go.Proofs.YtlcdifnmkafcfaaGreat
open Go.Lx
theorem pi {k:Int} (h:0≤k∧k≤10):uj .i64 k:=⟨by show (-9223372036854775808:Int)≤k; omega,by show k≤(9223372036854775807:Int); omega⟩
theorem uI:∀x∈(aA.zero 4).1,uj .u64 x:=fun x hx=>by simp [aA.zero] at hx; subst hx; exact ⟨by decide,by decide⟩
theorem fg {k:Int} {l:List T_Regex} (hk:0≤k∧k≤10) (hl:l.length≤2000000) (h:∀y∈l,bR y):bR ⟨k,aA.zero 4,l⟩:=
  .mk _ (pi hk) uI h (Nat.le_trans hl (by decide))
theorem pS {v:aA 4} (hv:W4 v):bR ⟨3,v,[]⟩:=
  .mk _ (pi (k:=3) (by omega)) (fun x hx=>by have:=hv x hx; exact ⟨by show (0:Int)≤x; omega,by show x≤(18446744073709551615:Int); omega⟩) (fun _ h=>by cases h) (by show 0≤maxLen; omega)
theorem ri {l:List T_Regex} {h:Nat} (hh:∀y∈l,height y≤h):bK l≤h:=by
  induction l with
  | nil=>simp [bK]
  | cons y l ih=>
    have:=hh y (by simp)
    have:=ih fun z hz=>hh z (by simp [hz])
    simp only [bK]; omega
def Bp (x:T_Regex) (c:Nat):Prop:=parts x≤c*2 ^ height x
def Bl (l:List T_Regex) (c:Nat):Prop:=bp l≤c*2 ^ bK l
theorem Bp.more {x:T_Regex} {c d:Nat} (h:Bp x c) (hd:c≤d):Bp x d:=Nat.le_trans h (Nat.mul_le_mul_right _ hd)
theorem Bl.more {l:List T_Regex} {c d:Nat} (h:Bl l c) (hd:c≤d):Bl l d:=Nat.le_trans h (Nat.mul_le_mul_right _ hd)
theorem Bl.nil (c:Nat):Bl [] c:=Nat.zero_le _
theorem nI (k:Nat):1≤2 ^ k:=Nat.one_le_two_pow
theorem Bl.snoc {l:List T_Regex} {x:T_Regex} {c d:Nat} (h:Bl l c) (hx:Bp x d):Bl (l++[x]) (c+d):=by
  unfold Bl
  rw [gK,jk]
  simp only [bp,bK,Nat.add_zero,Nat.max_zero]
  rw [Nat.add_mul]
  exact Nat.add_le_add (Nat.le_trans h (Nat.mul_le_mul_left _ (Nat.pow_le_pow_right (by omega) (by omega)))) (Nat.le_trans hx (Nat.mul_le_mul_left _ (Nat.pow_le_pow_right (by omega) (by omega))))
theorem Bl.one {x:T_Regex} {c:Nat} (hx:Bp x c):Bl [x] c:=by
  unfold Bl
  simp only [bp,bK,Nat.add_zero,Nat.max_zero]
  exact hx
theorem Bl.node {l:List T_Regex} {c:Nat} (h:Bl l c) (hc:1≤c) (k:Int) (s:aA 4):Bp ⟨k,s,l⟩ c:=by
  unfold Bp
  simp only [parts,height]
  have a:=nI (bK l)
  have e:1≤c*2 ^ bK l:=Nat.le_trans hc (Nat.le_mul_of_pos_right _ a)
  have d:c*2 ^ (bK l+1)=c*2 ^ bK l+c*2 ^ bK l:=by rw [Nat.pow_succ,←Nat.mul_assoc,Nat.mul_two]
  have b:bp l≤c*2 ^ bK l:=h
  omega
theorem Bl.of1 {y:T_Regex} {c:Nat} (h:Bl [y] c):Bp y c:=by
  unfold Bl at h
  unfold Bp
  simpa only [bp,bK,Nat.add_zero,Nat.max_zero] using h
theorem Bp.leaf (k:Int) (s:aA 4) {c:Nat} (hc:1≤c):Bp ⟨k,s,[]⟩ c:=Bl.node (Bl.nil c) hc k s
theorem Bp.opt {z:T_Regex} {c:Nat} (h:Bp z c) (hc:1≤c) (k:Int) (s s':aA 4) (k':Int):Bp ⟨k,s,[z,⟨k',s',[]⟩]⟩ (c+1):=by
  have:=(Bl.one h).snoc (Bp.leaf k' s' (c:=1) (by omega))
  exact this.node (by omega) k s
theorem Bp.more1 {z:T_Regex} {c:Nat} (h:Bp z c) (hc:1≤c) (k k':Int) (s s':aA 4):Bp ⟨k,s,[z,⟨k',s',[z]⟩]⟩ c:=by
  unfold Bp at h ⊢
  simp only [parts,bp,height,bK,Nat.add_zero,Nat.max_zero]
  rw [show max (height z) (height z+1)+1=height z+2 by omega,Nat.pow_add,show 2 ^ 2=4 from rfl,←Nat.mul_assoc]
  have:=Nat.le_trans hc (Nat.le_mul_of_pos_right c (nI (height z)))
  omega
def wR (s:Str) (p k d:Nat) (a:Rt (T_Regex×aC)) (b:T_Regex×aF):Prop:=
  (∃(x:T_Regex) (q:Nat),p+d≤q∧q≤s.length∧bR x∧(height x≤3*(q - p)+k∧Bp x (q - p+1 - d))∧a=.ret (x,⟨s,q⟩)∧b=(x,⟨s,q,false⟩))∨(∃(q:Nat) (y:T_Regex),q≤s.length∧a=.pan q∧b=(y,⟨s,q,true⟩))
theorem zB:M.i5=M.k3:=by decide +kernel
theorem wo:M.i5=some (kf (qX [10])):=by
  unfold M.i5
  have h:M.h4 [10]=some (qX [10]):=Bk (s:=[10]) (by decide)
  rw [h,Option.bind_some,gO (me _),Option.bind_some]
theorem uu (b:Nat):fq b b=[b]:=by unfold fq; rw [show b+1 - b=1 by omega]; rfl
theorem uQ {s:Str} {q:Nat} (hs:s.length≤1000000) (h:q<s.length) (a:(s[q]).toNat=41):M.a3 ⟨s,q⟩ 41=some (.ret ⟨s,(q+1:Nat)⟩):=by
  unfold M.a3
  refine cX (aO (x:=false) (dL (bL (show (q:Int)≠(s.length:Int) by omega)) (aO (dC h) (congrArg some (mi (show ((s[q]).toNat:Int)=41 by omega))))) rfl) (aO (aX (show q<9223372036854775807 by omega)) rfl)
theorem uP {s:Str} {q:Nat} (h:q<s.length) (h1:(s[q]).toNat≠41):M.a3 ⟨s,q⟩ 41=some (.pan q):=by
  unfold M.a3
  exact dU (aO (x:=true) (dL (bL (show (q:Int)≠(s.length:Int) by omega)) (aO (dC h) (congrArg some (go (show ((s[q]).toNat:Int)≠41 by omega))))) rfl)
theorem sZ {s:Str}:M.a3 ⟨s,(s.length:Nat)⟩ 41=some (.pan (s.length:Nat)):=by
  unfold M.a3
  exact dU (aO (x:=true) (gn (iI rfl) rfl) rfl)
section
variable {s:Str} (hs:s.length≤1000000)
def PA (s:Str) (m:Nat):Prop:=∀p:Nat,p≤s.length→s.length - p≤m→∀fl,4*m+1≤fl→dG (M.c7 fl ⟨s,p⟩) (M.c8 fl ⟨s,p,false⟩) (wR s p 0 1)
def PP (s:Str) (m:Nat):Prop:=∀p:Nat,p≤s.length→s.length - p≤m→∀fl,4*m+2≤fl→dG (M.b8 fl ⟨s,p⟩) (M.b9 fl ⟨s,p,false⟩) (wR s p 0 1)
def PB (s:Str) (m:Nat):Prop:=∀p:Nat,p≤s.length→s.length - p≤m→∀fl,4*m+3≤fl→dG (M.b0 fl ⟨s,p⟩) (M.b1 fl ⟨s,p,false⟩) (wR s p 1 0)
def PR (s:Str) (m:Nat):Prop:=∀p:Nat,p≤s.length→s.length - p≤m→∀fl,4*m+4≤fl→dG (M.b3 fl ⟨s,p⟩) (M.b4 fl ⟨s,p,false⟩) (wR s p 2 0)
include hs
theorem wH {m:Nat} (h:∀m',m'<m→PR s m'):PA s m:=by
  intro p hp hm fl hfl
  obtain ⟨fl,rfl⟩:∃f,fl=f+1:=⟨fl - 1,by omega⟩
  unfold M.c7 M.c8
  obtain ⟨x,y,hx,hy,hxy,hlt⟩:=fG hp
  refine dG.l hx (dG.r hy ?_)
  rw [←hxy 40 (by decide) (by decide),←hxy 91 (by decide) (by decide),←hxy 46 (by decide) (by decide)]
  cases n:(x == (40:Int))
  · cases g:(x == (91:Int))
    · cases k:(x == (46:Int))
      · refine dG.bb (oe hs hp false) ?_
        rintro a b (⟨c,q,e,d,hc,rfl,rfl⟩|⟨q,hq,rfl,rfl⟩)
        · refine dG.l (ov hc hc) (dG.r (b:=⟨3,ej (aA.zero 4) c,[]⟩) ?_ (.pure (.inl ⟨⟨3,ej (aA.zero 4) c,[]⟩,q,e,d,pS (rW eP c),⟨?_,Bp.leaf _ _ (by omega)⟩,?_,rfl⟩)))
          · unfold M.j9
            exact aO (ko eP hc) rfl
          · simp only [height,bK]; omega
          · rw [uu]; rfl
        · refine dG.r (b:=⟨3,ej (aA.zero 4) 0,[]⟩) ?_ (.pure (.inr ⟨q,_,hq,rfl,rfl⟩))
          unfold M.j9
          exact aO (ko eP (c:=0) (by omega)) rfl
      · have hlt':=hlt 46 (by decide) (cH k)
        refine dG.l (aX (i:=p) (by omega)) (dG.l wo (dG.r (aX (i:=p) (by omega)) (dG.r (zB.symm.trans wo) (.pure (.inl ⟨_,p+1,Nat.le_refl _,hlt',pS (rX (me _)),⟨?_,Bp.leaf _ _ (by omega)⟩,rfl,rfl⟩)))))
        simp only [height,bK]; omega
    · have hlt':=hlt 91 (by decide) (cH g)
      have h91':(s[p]).toNat=91:=by
        rw [tL hlt'] at hx
        have:=Option.some.inj hx
        have:=cH g
        omega
      refine dG.r (aX (i:=p) (by omega)) (dG.bb (rL hs hlt' h91') ?_)
      rintro a b (⟨set,q,e,d,hv,rfl,rfl⟩|⟨q,y,hq,rfl,rfl⟩)
      · refine .pure (.inl ⟨⟨3,set,[]⟩,q,e,d,pS hv,⟨?_,Bp.leaf _ _ (by omega)⟩,rfl,rfl⟩)
        simp only [height,bK]; omega
      · exact .pure (.inr ⟨q,_,hq,rfl,rfl⟩)
  · have hlt':=hlt 40 (by decide) (cH n)
    refine dG.l (aX (i:=p) (by omega)) (dG.r (aX (i:=p) (by omega)) ?_)
    refine dG.bb (h (m - 1) (by omega) (p+1) hlt' (by omega) fl (by omega)) ?_
    rintro a b (⟨z,q,e,d,hok,hh,rfl,rfl⟩|⟨q,y,hq,rfl,rfl⟩)
    · rcases Nat.lt_or_eq_of_le d with hq|hq
      · by_cases j:(s[q]).toNat=41
        · refine dG.l (uQ hs hq j) (dG.r (fA hq) ?_)
          rw [mi (show ((s[q]).toNat:Int)=41 by omega)]
          exact dG.r (aX (i:=q) (by omega)) (.pure (.inl ⟨z,q+1,by omega,hq,hok,⟨by omega,hh.2.more (by omega)⟩,rfl,rfl⟩))
        · refine dG.l (uP hq j) (dG.r (fA hq) ?_)
          rw [go (show ((s[q]).toNat:Int)≠41 by omega)]
          exact .pure (.inr ⟨q,_,d,rfl,rfl⟩)
      · subst hq
        exact dG.l sZ (dG.r jg (.pure (.inr ⟨s.length,_,d,rfl,rfl⟩)))
    · exact .pure (.inr ⟨q,_,hq,rfl,rfl⟩)
theorem sp {m:Nat} (h:PA s m):PP s m:=by
  intro p hp hm fl hfl
  obtain ⟨fl,rfl⟩:∃f,fl=f+1:=⟨fl - 1,by omega⟩
  unfold M.b8 M.b9
  refine dG.bb (h p hp hm fl (by omega)) ?_
  rintro a b (⟨z,q,J,A,hok,hh,rfl,rfl⟩|⟨q,y,hq,rfl,rfl⟩)
  · refine dG.on_ret ?_
    have gL:=dG.loop (Q:=fun (a:Rt (T_Regex×aC)) (b:cJ (Int×aA 4×List T_Regex×Int) (T_Regex×aF))=>∃c,b=.stop c∧wR s p 0 1 a c)
      (bA:=fun (D:Int×Int×(aA 4)×(List T_Regex))=>match D with
        | (I,r,o,t)=>bk ((M.a1 (aC.mk s I)).bind fun H=>
            bif (H == 42) then some (.next ((6:Int),([(T_Regex.mk r o t)]:(List T_Regex))))
            else bif (H == 43) then some (.next ((4:Int),([(T_Regex.mk r o t),(T_Regex.mk 6 (aA.zero 4) [(T_Regex.mk r o t)])]:(List T_Regex))))
            else bif (H == 63) then some (.next ((5:Int),([(T_Regex.mk r o t),(T_Regex.mk 2 (aA.zero 4) [])]:(List T_Regex))))
            else some (.stop (.stop (.ret ((T_Regex.mk r o t),(aC.mk s I)))))) fun (W,P)=>
          (bV .i64 (I+1)).bind fun t3=>some (.next (t3,W,(aA.zero 4),P)))
      (bB:=fun (D:Int×Int×(aA 4)×(List T_Regex))=>match D with
        | (v,n,j,g)=>bif (!false) then bk ((M.a0 (aF.mk s v false)).bind fun G=>
            bif (G == 42) then (M.h3 (T_Regex.mk n j g)).bind fun F=>some (.next (F.Kind,F.Set,F.Kids))
            else bif (G == 43) then (M.h3 (T_Regex.mk n j g)).bind fun S=>some (.next ((4:Int),(aA.zero 4),([(T_Regex.mk n j g),S]:(List T_Regex))))
            else bif (G == 63) then some (.next ((5:Int),(aA.zero 4),([(T_Regex.mk n j g),(T_Regex.mk 2 (aA.zero 4) [])]:(List T_Regex))))
            else some (.stop (.stop (.stop ((T_Regex.mk n j g),(aF.mk s v false)))))) fun (V,U,T)=>
          (bV .i64 (v+1)).bind fun R=>some (.next (R,V,U,T))
          else some (.stop (.next (n,j,g,v))))
      (fun a b m=>∃(z:T_Regex) (q:Nat),p+1≤q∧q≤s.length∧bR z∧(height z≤3*(q - p)∧Bp z (q - p))∧a=((q:Int),z.Kind,z.Set,z.Kids)∧b=((q:Int),z.Kind,z.Set,z.Kids)∧m=s.length - q) ?_
      (s.length - q) aU aU ((q:Int),z.Kind,z.Set,z.Kids) ((q:Int),z.Kind,z.Set,z.Kids) (by unfold aU; omega) (by unfold aU; omega) ⟨z,q,J,A,hok,hh,rfl,rfl,rfl⟩
    · obtain ⟨a,b,ha,hb,c,rfl,hc⟩:=gL
      exact ⟨a,c,ha,dU hb,hc⟩
    · rintro m _ _ ⟨⟨k,st,l⟩,q,J,A,hok,hh,rfl,rfl,rfl⟩
      obtain ⟨x,y,hx,hy,hxy,hlt⟩:=fG A
      have B:=hxy 42 (by decide) (by decide)
      have K:=hxy 43 (by decide) (by decide)
      have N:=hxy 63 (by decide) (by decide)
      have L:∀w∈[(⟨k,st,l⟩:T_Regex)],bR w:=fun w hw=>by rw [List.mem_singleton.1 hw]; exact hok
      cases d:(x == (42:Int))
      · cases e:(x == (43:Int))
        · cases u:(x == (63:Int))
          · refine .inr ⟨_,dU (aO hx (dL d (dL e (dL u rfl)))),.inl ⟨_,dU (aO hy (dL (B ▸ d) (dL (K ▸ e) (dL (N ▸ u) rfl)))),_,rfl,.inl ⟨_,q,J,A,hok,hh,rfl,rfl⟩⟩⟩
          · have hl:=hlt 63 (by decide) (cH u)
            refine .inl ⟨_,_,s.length - (q+1),cX (aO hx (dL d (dL e (gn u rfl)))) (aO (aX (i:=q) (by omega)) rfl),
              cX (aO hy (dL (B ▸ d) (dL (K ▸ e) (gn (N ▸ u) rfl)))) (aO (aX (i:=q) (by omega)) rfl),by omega,⟨5,aA.zero 4,[⟨k,st,l⟩,⟨2,aA.zero 4,[]⟩]⟩,q+1,by omega,hl,?_,⟨?_,(hh.2.opt (by omega) _ _ _ _).more (by omega)⟩,rfl,rfl,rfl⟩
            · refine fg (by omega) (by simp) fun w hw=>?_
              rcases List.mem_cons.1 hw with rfl|hw
              · exact hok
              · rw [List.mem_singleton.1 hw]; exact fg (by omega) (by simp) (by simp)
            · have:height (⟨5,aA.zero 4,[⟨k,st,l⟩,⟨2,aA.zero 4,[]⟩]⟩:T_Regex)≤height (⟨k,st,l⟩:T_Regex)+1:=by simp only [height,bK]; omega
              omega
        · have hl:=hlt 43 (by decide) (cH e)
          refine .inl ⟨_,_,s.length - (q+1),cX (aO hx (dL d (gn e rfl))) (aO (aX (i:=q) (by omega)) rfl),
            cX (aO hy (dL (B ▸ d) (gn (K ▸ e) rfl))) (aO (aX (i:=q) (by omega)) rfl),by omega,⟨4,aA.zero 4,[⟨k,st,l⟩,⟨6,aA.zero 4,[⟨k,st,l⟩]⟩]⟩,q+1,by omega,hl,?_,⟨?_,(hh.2.more1 (by omega) _ _ _ _).more (by omega)⟩,rfl,rfl,rfl⟩
          · refine fg (by omega) (by simp) fun w hw=>?_
            rcases List.mem_cons.1 hw with rfl|hw
            · exact hok
            · rw [List.mem_singleton.1 hw]; exact fg (by omega) (by simp) L
          · have:height (⟨4,aA.zero 4,[⟨k,st,l⟩,⟨6,aA.zero 4,[⟨k,st,l⟩]⟩]⟩:T_Regex)≤height (⟨k,st,l⟩:T_Regex)+2:=by simp only [height,bK]; omega
            omega
      · have hl:=hlt 42 (by decide) (cH d)
        refine .inl ⟨_,_,s.length - (q+1),cX (aO hx (gn d rfl)) (aO (aX (i:=q) (by omega)) rfl),
          cX (aO hy (gn (B ▸ d) rfl)) (aO (aX (i:=q) (by omega)) rfl),by omega,⟨6,aA.zero 4,[⟨k,st,l⟩]⟩,q+1,by omega,hl,fg (by omega) (by simp) L,⟨?_,((Bl.one hh.2).node (by omega) _ _).more (by omega)⟩,rfl,rfl,rfl⟩
        have:height (⟨6,aA.zero 4,[⟨k,st,l⟩]⟩:T_Regex)≤height (⟨k,st,l⟩:T_Regex)+1:=by simp only [height,bK]; omega
        omega
  · exact ⟨_,(⟨y.Kind,y.Set,y.Kids⟩,⟨s,q,true⟩),rfl,cX (ia rfl) rfl,.inr ⟨q,_,hq,rfl,rfl⟩⟩
omit hs in
theorem rj (k:Int) (l:List T_Regex) (hl:l≠[]):∃x,M.h5 k l=some x∧((∃y,l=[y]∧x=y)∨(2≤l.length∧x=⟨k,aA.zero 4,l⟩)):=by
  match l with
  | []=>exact absurd rfl hl
  | [y]=>exact ⟨y,rfl,.inl ⟨y,rfl,rfl⟩⟩
  | y::z::l=>
    refine ⟨_,dL (bL (by simp only [List.length_cons]; omega)) rfl,.inr ⟨by simp only [List.length_cons]; omega,rfl⟩⟩
omit hs in
theorem vL {l:List T_Regex} (h:2≤l.length):((l.length:Int) == 1)=false:=bL (by omega)
omit hs in
theorem rD {q:Nat} (hq:q≤s.length):∃g,((bif (decide ((q:Int)<(s.length:Int))) then (eh s q).bind fun a=>bif (a != 124) then some (a != 41) else some false else some false)=some g)∧
    ((bif (!false) then (M.a0 (aF.mk s q false)).bind fun d=>bif (d != (-1)) then (M.a0 (aF.mk s q false)).bind fun c=>
      bif (c != 124) then (M.a0 (aF.mk s q false)).bind fun b=>some (b != 41) else some false else some false else some false)=some g)∧(g=true→q<s.length):=by
  rcases Nat.lt_or_eq_of_le hq with h|h
  · refine ⟨bif (((s[q]).toNat:Int) != 124) then (((s[q]).toNat:Int) != 41) else false,gn (dS (by omega)) (aO (dC h) ?_),aO (fA h) (gn (go (by omega)) (aO (fA h) ?_)),fun _=>h⟩
    · cases (((s[q]).toNat:Int) != 124) <;> rfl
    · cases (((s[q]).toNat:Int) != 124)
      · rfl
      · exact aO (fA h) rfl
  · subst h
    exact ⟨false,dL (dT (by omega)) rfl,aO jg rfl,fun h=>by cases h⟩
def kd (h:Nat) (l:List T_Regex):Prop:=∀y∈l,bR y∧height y≤h
omit hs in
theorem kd.snoc {h h':Nat} {l:List T_Regex} {x:T_Regex} (hl:kd h l) (hh:h≤h') (hx:bR x∧height x≤h'):kd h' (l++[x]):=by
  intro y hy
  rcases List.mem_append.1 hy with hy|hy
  · exact ⟨(hl y hy).1,Nat.le_trans (hl y hy).2 hh⟩
  · rw [List.mem_singleton.1 hy]; exact hx
omit hs in
theorem kd.node {h:Nat} {l:List T_Regex} (hl:kd h l) {k:Int} (hk:0≤k∧k≤10) (hn:l.length≤2000000):bR ⟨k,aA.zero 4,l⟩∧height (⟨k,aA.zero 4,l⟩:T_Regex)≤h+1:=by
  refine ⟨fg hk hn fun y hy=>(hl y hy).1,?_⟩
  have:=ri fun y hy=>(hl y hy).2
  simp only [height]; omega
theorem tg {m:Nat} (h:PP s m):PB s m:=by
  intro p hp hm fl hfl
  obtain ⟨fl,rfl⟩:∃f,fl=f+1:=⟨fl - 1,by omega⟩
  unfold M.b0 M.b1
  refine dG.sb (P:=fun (a:cJ (List T_Regex×Str×Int) (Rt (T_Regex×aC))) (b:List T_Regex×Str×Int×Bool)=>
      (∃(l:List T_Regex) (q:Nat),p≤q∧q≤s.length∧(kd (3*(q - p)) l∧Bl l (q - p))∧l.length≤q - p∧a=.next (l,s,(q:Int))∧b=(l,s,(q:Int),false))∨(∃(l:List T_Regex) (q:Nat),q≤s.length∧a=.stop (.pan q)∧b=(l,s,(q:Int),true)))
    (dG.loop (fun (a:Str×Int×(List T_Regex)) (b:Str×Int×Bool×(List T_Regex)) k=>∃(l:List T_Regex) (q:Nat),p≤q∧q≤s.length∧(kd (3*(q - p)) l∧Bl l (q - p))∧l.length≤q - p∧a=(s,(q:Int),l)∧b=(s,(q:Int),false,l)∧k=s.length - q) ?_
      (s.length - p) _ _ _ _ (by unfold aU; omega) (by unfold aU; omega) ⟨[],p,Nat.le_refl _,hp,⟨(show kd (3*(p - p)) [] from fun y hy=>absurd hy (by simp)),Bl.nil _⟩,by simp,rfl,rfl,rfl⟩) ?_ ?_
  · rintro k _ _ ⟨l,q,hpq,hq,hg,hl,rfl,rfl,rfl⟩
    obtain ⟨g,gA,gB,hlt⟩:=rD hq
    cases g
    · exact .inr ⟨.next (l,s,(q:Int)),aO gA rfl,.inl ⟨(l,s,(q:Int),false),aO gB rfl,.inl ⟨l,q,hpq,hq,hg,hl,rfl,rfl⟩⟩⟩
    · obtain ⟨u,t,j,i,hcase⟩:=h q hq (by omega) fl (by omega)
      rcases hcase with ⟨x,q',r,n,hok,hh,rfl,rfl⟩|⟨q',y,hq',rfl,rfl⟩
      · have happ:cP 64 l [x]=some (l++[x]):=da (by simp only [List.length_singleton]; omega)
        refine .inl ⟨(s,(q':Int),l++[x]),(s,(q':Int),false,l++[x]),s.length - q',aO gA (aO j (aO happ rfl)),aO gB (aO i (aO happ rfl)),by omega,
          l++[x],q',by omega,n,⟨hg.1.snoc (by omega) ⟨hok,by omega⟩,(hg.2.snoc hh.2).more (by omega)⟩,by simp only [List.length_append,List.length_singleton]; omega,rfl,rfl,rfl⟩
      · have happ:cP 64 l [y]=some (l++[y]):=da (by simp only [List.length_singleton]; omega)
        exact .inr ⟨.stop (.pan q'),aO gA (aO j rfl),.inr ⟨(s,(q':Int),true,l++[y]),(l++[y],s,(q':Int),true),aO gB (aO i (aO happ rfl)),aO (x:=false) rfl rfl,.inr ⟨l++[y],q',hq',rfl,rfl⟩⟩⟩
  · rintro a b (⟨l,q,hpq,hq,hg,hl,e,rfl⟩|⟨l,q,hq,e,rfl⟩)
    · cases e
      by_cases c:l=[]
      · subst c
        refine ⟨.ret (⟨2,aA.zero 4,[]⟩,⟨s,q⟩),(⟨2,aA.zero 4,[]⟩,⟨s,q,false⟩),rfl,rfl,.inl ⟨⟨2,aA.zero 4,[]⟩,q,hpq,hq,fg (by omega) (by simp) (by simp),⟨?_,Bp.leaf _ _ (by omega)⟩,rfl,rfl⟩⟩
        simp only [height,bK]; omega
      · have d:((l.length:Int) == 0)=false:=bL (fun e=>c (List.eq_nil_of_length_eq_zero (by omega)))
        obtain ⟨x,hx,⟨y,rfl,e⟩|⟨o,rfl⟩⟩:=rj 4 l c
        · have:=hg.1 y (by simp)
          exact ⟨.ret (y,⟨s,q⟩),(y,⟨s,q,false⟩),rfl,rfl,.inl ⟨y,q,hpq,hq,this.1,⟨by omega,hg.2.of1.more (by omega)⟩,rfl,rfl⟩⟩
        · have:=hg.1.node (k:=4) (by omega) (by omega)
          exact ⟨.ret (⟨4,aA.zero 4,l⟩,⟨s,q⟩),(⟨4,aA.zero 4,l⟩,⟨s,q,false⟩),dL d (aO hx rfl),dL d (dL (vL o) rfl),.inl ⟨_,q,hpq,hq,this.1,⟨this.2,(hg.2.more (show q - p≤q - p+1 - 0 by omega)).node (by omega) _ _⟩,rfl,rfl⟩⟩
    · cases e
  · rintro x b (⟨l,q,hpq,hq,hg,hl,e,rfl⟩|⟨l,q,hq,e,rfl⟩)
    · cases e
    · cases e
      match l with
      | []=>exact ⟨_,(⟨2,aA.zero 4,[]⟩,⟨s,q,true⟩),rfl,rfl,.inr ⟨q,_,hq,rfl,rfl⟩⟩
      | [y]=>exact ⟨_,(y,⟨s,q,true⟩),rfl,rfl,.inr ⟨q,_,hq,rfl,rfl⟩⟩
      | y::z::l=>
        exact ⟨_,(⟨4,aA.zero 4,y::z::l⟩,⟨s,q,true⟩),rfl,dL (bL (by simp only [List.length_cons]; omega)) (dL (bL (by simp only [List.length_cons]; omega)) rfl),.inr ⟨q,_,hq,rfl,rfl⟩⟩
theorem us {m:Nat} (h:PB s m):PR s m:=by
  intro p hp hm fl hfl
  obtain ⟨fl,rfl⟩:∃f,fl=f+1:=⟨fl - 1,by omega⟩
  unfold M.b3 M.b4
  refine dG.bb (h p hp hm fl (by omega)) ?_
  rintro a b (⟨z,d,o,j,hok,hh,rfl,rfl⟩|⟨q,y,hq,rfl,rfl⟩)
  · refine dG.on_ret ?_
    refine dG.sb (P:=fun (a:cJ (List T_Regex×Str×Int) (Rt (T_Regex×aC))) (b:List T_Regex×Str×Int×Bool)=>
        (∃(l:List T_Regex) (q:Nat),p≤q∧q≤s.length∧(kd (3*(q - p)+1) l∧Bl l (q - p+1))∧l.length≤q - p+1∧l≠[]∧a=.next (l,s,(q:Int))∧b=(l,s,(q:Int),false))∨(∃(l:List T_Regex) (q:Nat),q≤s.length∧a=.stop (.pan q)∧b=(l,s,(q:Int),true)))
      (dG.loop (fun (a:Str×Int×(List T_Regex)) (b:Str×Int×Bool×(List T_Regex)) k=>∃(l:List T_Regex) (q:Nat),p≤q∧q≤s.length∧(kd (3*(q - p)+1) l∧Bl l (q - p+1))∧l.length≤q - p+1∧l≠[]∧a=(s,(q:Int),l)∧b=(s,(q:Int),false,l)∧k=s.length - q) ?_
        (s.length - d) _ _ _ _ (by unfold aU; omega) (by unfold aU; omega) ⟨[z],d,by omega,j,⟨fun y hy=>by rw [List.mem_singleton.1 hy]; exact ⟨hok,hh.1⟩,Bl.one hh.2⟩,by simp,by simp,rfl,rfl,rfl⟩) ?_ ?_
    · rintro k _ _ ⟨l,q,hpq,hq,hg,hl,hne,rfl,rfl,rfl⟩
      obtain ⟨x,y,hx,hy,hxy,hlt⟩:=fG hq
      have e:=hxy 124 (by decide) (by decide)
      cases c:(x == (124:Int))
      · exact .inr ⟨.next (l,s,(q:Int)),aO hx (dL c rfl),.inl ⟨(l,s,(q:Int),false),aO (x:=false) (aO hy (congrArg some (e ▸ c))) rfl,.inl ⟨l,q,hpq,hq,hg,hl,hne,rfl,rfl⟩⟩⟩
      · have hlt':=hlt 124 (by decide) (cH c)
        have hc:bV .i64 ((q:Int)+1)=some ((q+1:Nat):Int):=aX (by omega)
        obtain ⟨u,t,i,g,hcase⟩:=h (q+1) hlt' (by omega) fl (by omega)
        rcases hcase with ⟨w,q',hq1',hq2',hok',hh',rfl,rfl⟩|⟨q',w,hq',rfl,rfl⟩
        · have happ:cP 64 l [w]=some (l++[w]):=da (by simp only [List.length_singleton]; omega)
          refine .inl ⟨(s,(q':Int),l++[w]),(s,(q':Int),false,l++[w]),s.length - q',aO hx (gn c (aO hc (aO i (aO happ rfl)))),aO (x:=true) (aO hy (congrArg some (e ▸ c))) (aO hc (aO g (aO happ rfl))),by omega,
            l++[w],q',by omega,hq2',⟨hg.1.snoc (by omega) ⟨hok',by omega⟩,(hg.2.snoc hh'.2).more (by omega)⟩,by simp only [List.length_append,List.length_singleton]; omega,by simp,rfl,rfl,rfl⟩
        · have happ:cP 64 l [w]=some (l++[w]):=da (by simp only [List.length_singleton]; omega)
          exact .inr ⟨.stop (.pan q'),aO hx (gn c (aO hc (aO i rfl))),.inr ⟨(s,(q':Int),true,l++[w]),(l++[w],s,(q':Int),true),aO (x:=true) (aO hy (congrArg some (e ▸ c))) (aO hc (aO g (aO happ rfl))),aO (x:=false) rfl rfl,.inr ⟨l++[w],q',hq',rfl,rfl⟩⟩⟩
    · rintro a b (⟨l,q,hpq,hq,hg,hl,hne,e,rfl⟩|⟨l,q,hq,e,rfl⟩)
      · cases e
        obtain ⟨x,hx,⟨y,rfl,e⟩|⟨n,rfl⟩⟩:=rj 5 l hne
        · have:=hg.1 y (by simp)
          exact ⟨.ret (y,⟨s,q⟩),(y,⟨s,q,false⟩),rfl,rfl,.inl ⟨y,q,hpq,hq,this.1,⟨by omega,hg.2.of1⟩,rfl,rfl⟩⟩
        · have:=hg.1.node (k:=5) (by omega) (by omega)
          exact ⟨.ret (⟨5,aA.zero 4,l⟩,⟨s,q⟩),(⟨5,aA.zero 4,l⟩,⟨s,q,false⟩),aO hx rfl,dL (vL n) rfl,.inl ⟨_,q,hpq,hq,this.1,⟨this.2,hg.2.node (by omega) _ _⟩,rfl,rfl⟩⟩
      · cases e
    · rintro x b (⟨l,q,hpq,hq,hg,hl,hne,e,rfl⟩|⟨l,q,hq,e,rfl⟩)
      · cases e
      · cases e
        match l with
        | []=>exact ⟨_,(⟨5,aA.zero 4,[]⟩,⟨s,q,true⟩),rfl,rfl,.inr ⟨q,_,hq,rfl,rfl⟩⟩
        | [y]=>exact ⟨_,(y,⟨s,q,true⟩),rfl,rfl,.inr ⟨q,_,hq,rfl,rfl⟩⟩
        | y::z::l=>exact ⟨_,(⟨5,aA.zero 4,y::z::l⟩,⟨s,q,true⟩),rfl,dL (bL (by simp only [List.length_cons]; omega)) rfl,.inr ⟨q,_,hq,rfl,rfl⟩⟩
  · exact dG.on_pan ⟨_,(y,⟨s,q,true⟩),rfl,aO (ia (r:=([y],s,(q:Int),true)) rfl) rfl,.inr ⟨q,_,hq,rfl,rfl⟩⟩
theorem yw:∀m,PR s m:=by
  intro m
  induction m using Nat.strongRecOn with
  | _ m ih=>exact us hs (tg hs (sp hs (wH hs ih)))
theorem uz:∃r,M.e9 s=some r∧M.f7 s=some r∧bR r.1∧height r.1≤3*s.length+2∧Bp r.1 (s.length+1)∧(r.2.2=0→V 30 r.1=true):=by
  obtain ⟨a,b,ha,hb,hcase⟩:=yw hs s.length 0 (by omega) (by omega) aU (by unfold aU; omega)
  have d:bR ⟨0,aA.zero 4,[]⟩:=fg (by omega) (by simp) (by simp)
  have c:height (⟨0,aA.zero 4,[]⟩:T_Regex)≤3*s.length+2∧Bp ⟨0,aA.zero 4,[]⟩ (s.length+1):=⟨by simp only [height,bK]; omega,Bp.leaf _ _ (by omega)⟩
  unfold M.e9 M.f7
  rcases hcase with ⟨x,q,f,e,hok,hh,rfl,rfl⟩|⟨q,y,hq,rfl,rfl⟩
  · rcases Nat.lt_or_eq_of_le e with hq|hq
    · refine ⟨(⟨0,aA.zero 4,[]⟩,(q:Int),3),aO ha (dU (gn (dS (by show (q:Int)<(s.length:Int); omega)) rfl)),aO hb (aO (x:=true) (congrArg some (dS (by show (q:Int)<(s.length:Int); omega))) rfl),d,c.1,c.2,fun h=>absurd (show (3:Int)=0 from h) (by decide)⟩
    · have hd:decide ((q:Int)<(s.length:Int))=false:=dT (by omega)
      cases hv:V 30 x
      · exact ⟨(⟨0,aA.zero 4,[]⟩,0,11),aO ha (cX (dL hd rfl) (aO ((rY hok).trans (congrArg some hv)) rfl)),aO hb (aO (x:=false) (congrArg some hd) (aO ((iV hok).trans (congrArg some hv)) rfl)),d,c.1,c.2,fun h=>absurd h (by decide)⟩
      · exact ⟨(x,0,0),aO ha (cX (dL hd rfl) (aO ((rY hok).trans (congrArg some hv)) rfl)),aO hb (aO (x:=false) (congrArg some hd) (aO ((iV hok).trans (congrArg some hv)) rfl)),hok,by show height x≤_; omega,hh.2.more (by omega),fun _=>hv⟩
  · exact ⟨(⟨0,aA.zero 4,[]⟩,(q:Int),3),aO ha rfl,aO hb rfl,d,c.1,c.2,fun h=>absurd (show (3:Int)=0 from h) (by decide)⟩
end
end Go.Proofs.YtlcdifnmkafcfaaGreat
set_option linter.unusedVariables false
namespace Go.Proofs.YtlcdifnmkafcfaaGreat
open Go.Lx
theorem qh {a b:Str} (h:a.length+b.length≤1000000000):rJ a b=some (a++b):=by unfold rJ; rw [if_pos (by omega)]
theorem xr {α:Type} {l:List α} {i j:Nat} (h1:i≤j) (h2:j≤l.length):jL l (i:Int) (j:Int)=some ((l.take j).drop i):=by unfold jL; rw [if_pos ⟨by omega,by omega,by omega⟩]; simp
def FewD (d:bM) (n:Nat):Prop:=d.Name.length≤40∧d.Pattern.length≤n∧d.Sample.length≤n∧d.Close.length≤n
theorem zt {x:T_LexSpec} (hl:x.Defs.length≤9223372036854775807) (m n:Nat):Is (M.j8 x (m:Int) (n:Int)) (fun b=>b=true→x.Defs.length≤m∧∀d∈x.Defs,FewD d n):=by
  unfold M.j8
  refine Is.dcd (fun _=>Is.pure (fun h=>by cases h)) (fun j=>?_)
  refine Is.bs (P:=fun _=>∀d∈x.Defs,FewD d n) (Is.upto (fun i st=>st=(i:Int)∧∀d∈x.Defs.take i,FewD d n) x.Defs.length hl ⟨rfl,by simp⟩ ?_ ?_) (fun _ h=>Is.pure fun _=>⟨by omega,h⟩)
  · rintro i _ hi ⟨rfl,hd⟩
    refine Is.dt (by omega) (Is.bnq (bi hi) (Is.bnd (P:=fun b=>b=false→FewD x.Defs[i] n) ?_ fun b hb=>Is.cnd (fun _=>Is.stop (fun h=>by cases h)) (fun e=>Is.bnq (aX (by omega)) (Is.next ⟨rfl,fun d hm=>?_⟩))))
    · refine Is.dcd (fun _=>Is.pure (fun h=>by cases h)) (fun g=>Is.dcd (fun _=>Is.pure (fun h=>by cases h)) (fun f=>Is.dcd (fun _=>Is.pure (fun h=>by cases h)) (fun c=>Is.pure (fun h=>?_))))
      have a:=of_decide_eq_false h
      exact ⟨by omega,by omega,by omega,by omega⟩
    · rw [List.take_succ_eq_append_getElem hi,List.mem_append] at hm
      rcases hm with hm|hm
      · exact hd d hm
      · rw [List.mem_singleton.1 hm]; exact hb e
  · rintro _ ⟨rfl,hd⟩
    rw [List.take_length] at hd
    exact Is.df (by omega) (Is.stop hd)
def rx (d:bM):T_Regex×Int×Int:=(M.e9 d.Pattern).getD (⟨0,aA.zero 4,[]⟩,0,3)
structure yC (d:bM):Prop where
  prog:M.e9 d.Pattern=some (rx d)
  ref:M.f7 d.Pattern=some (rx d)
  ok:bR (rx d).1
  hgt:height (rx d).1≤92
  prt:parts (rx d).1≤31*2 ^ height (rx d).1
  val:(rx d).2.2=0→V 30 (rx d).1=true
theorem Ae {d:bM} (h:d.Pattern.length≤30):yC d:=by
  obtain ⟨r,h1,h2,h3,h4,h5,h6⟩:=uz (s:=d.Pattern) (by omega)
  have e:rx d=r:=by unfold rx; rw [h1]; rfl
  subst e
  exact ⟨h1,h2,h3,by omega,Nat.le_trans h5 (Nat.mul_le_mul_right _ (by omega)),h6⟩
theorem fM {d:bM} (h:yC d):M.c4 d=some (rx d).1:=by
  unfold M.c4
  rw [h.ref]; rfl
structure yD (d:bM):Prop where
  ro:yC d
  low:height (rx d).1≤6
  good:(rx d).2.2=0
theorem yD.parts {d:bM} (h:yD d):parts (rx d).1≤1984:=Nat.le_trans h.ro.prt (Nat.le_trans (Nat.mul_le_mul_left 31 (Nat.pow_le_pow_right (by omega) h.low)) (by decide))
theorem yD.fit {d:bM} (h:yD d):Fit (rx d).1:=qb _ 30 h.ro.ok (h.ro.val h.good) (by have:=h.parts; omega)
theorem yD.fh {d:bM} (h:yD d):FH (rx d).1:=⟨h.fit,by have:=h.low; unfold aU; omega⟩
theorem nZ {l:List Str} {m:Nat} (h:∀w∈l,w.length≤m):Is (M.f2 l) (fun r=>r.length≤2∧∀w∈r,w.length≤m):=by
  unfold M.f2
  refine Is.dcd (fun hl=>Is.bnq (xr (i:=0) (j:=2) (by omega) (by omega)) (Is.pure ⟨?_,fun w hw=>h w ?_⟩)) (fun hl=>Is.pure ⟨by omega,h⟩)
  · rw [List.drop_zero,List.length_take]; omega
  · rw [List.drop_zero] at hw; exact List.mem_of_mem_take hw
theorem wK {l:List Str} {s:Str} {m:Nat} (h:∀w∈l,w.length≤m) (hs:s.length≤m) (hl:l.length≤1000000):Is (M.i6 l s) (fun r=>r.length≤l.length+1∧∀w∈r,w.length≤m):=by
  unfold M.i6
  refine Is.bs (P:=fun _=>True) (Q:=fun r:List Str=>r.length≤l.length+1∧∀w∈r,w.length≤m) (Is.upto (fun i st=>st=(i:Int)) l.length (by omega) rfl ?_ ?_) (fun _ _=>?_)
  · rintro i _ hi rfl
    exact Is.dt (by omega) (Is.bnq (bi hi) (Is.cnd (fun _=>Is.stop ⟨by omega,h⟩) (fun _=>Is.add1 (by omega) (Is.next rfl))))
  · rintro _ rfl
    exact Is.df (by omega) (Is.stop trivial)
  · refine Is.bnq (da (by simp only [List.length_nil]; omega)) (Is.app1 (by rw [List.nil_append]; omega) (Is.pure ⟨by simp,fun w hw=>?_⟩))
    rw [List.nil_append] at hw
    rcases List.mem_append.1 hw with hw|hw
    · exact h w hw
    · rw [List.mem_singleton.1 hw]; exact hs
theorem vg:∀(fl:Nat) (x:T_Regex),Fit x→height x<fl→parts x≤100000→Is (M.d1 fl x) (fun r=>r.1.length≤2∧∀w∈r.1,w.length≤parts x):=by
  intro fl
  induction fl with
  | zero=>intro x _ h; omega
  | succ fl ih=>
    rintro ⟨k,s,l⟩ hF hh hp
    have hx:parts (⟨k,s,l⟩:T_Regex)=bp l+1:=rfl
    have hll:=fI l
    have hkid:∀y∈l,Is (M.d1 fl y) (fun r=>r.1.length≤2∧∀w∈r.1,w.length≤parts y):=fun y hy=>
      ih y (hF.kids y hy) (by have:=ey hy; have:height (⟨k,s,l⟩:T_Regex)=bK l+1:=rfl; omega) (by have:=dK hy; omega)
    unfold M.d1
    refine Is.cnd (fun _=>Is.pure ⟨by decide,fun w hw=>by rw [List.mem_singleton.1 hw]; simp⟩) (fun _=>?_)
    refine Is.cnd (fun _=>?_) (fun _=>Is.cnd (fun _=>?_) (fun _=>Is.cnd (fun _=>?_) (fun _=>Is.cnd (fun h6=>?_) (fun _=>Is.pure ⟨by decide,fun w hw=>by cases hw⟩))))
    · -- a set
      refine Is.bnd (P:=fun m:List Str=>∀w∈m,w.length≤parts (⟨k,s,l⟩:T_Regex)) ?_ fun m hm=>Is.bnd (nZ hm) fun r hr=>Is.pure hr
      refine Is.upto (fun i (st:List Str×Int)=>st.2=(i:Int)∧st.1.length≤i∧∀w∈st.1,w.length≤parts (⟨k,s,l⟩:T_Regex)) 256 (by omega) ⟨rfl,Nat.le_refl _,fun w hw=>by cases hw⟩ ?_ ?_
      · rintro i ⟨m,_⟩ hi ⟨rfl,g1,c⟩
        simp only at g1 c
        refine Is.dt (by omega) (Is.bnd (P:=fun m:List Str=>m.length≤i+1∧∀w∈m,w.length≤parts (⟨k,s,l⟩:T_Regex)) ?_ fun m hm=>Is.add1 (by omega) (Is.next ⟨rfl,hm⟩))
        refine Is.bnq (oY hF.set hi) (Is.cnd (fun _=>Is.app1 (by omega) (Is.pure ⟨by simp only [List.length_append,List.length_singleton]; omega,fun w hw=>?_⟩)) (fun _=>Is.pure ⟨by omega,c⟩))
        rcases List.mem_append.1 hw with hw|hw
        · exact c w hw
        · rw [List.mem_singleton.1 hw,hx]; simp [kH]
      · rintro ⟨m,_⟩ ⟨rfl,g1,c⟩
        exact Is.df (by omega) (Is.stop c)
    · -- a union
      refine Is.bnd (P:=fun st:List Str×Bool=>∀w∈st.1,w.length≤parts (⟨k,s,l⟩:T_Regex)) ?_ (fun ⟨m,fin⟩ hm=>Is.bnd (P:=fun st:List Str×Bool=>st.1.length≤2∧∀w∈st.1,w.length≤parts (⟨k,s,l⟩:T_Regex)) (Is.bnd (nZ hm) fun r hr=>Is.cnd (fun _=>Is.pure hr) (fun _=>Is.pure hr)) (fun ⟨a,b⟩ h=>Is.pure h))
      refine Is.upto (fun i (st:List Str×Bool×Int)=>st.2.2=(i:Int)∧st.1.length≤2*i∧∀w∈st.1,w.length≤parts (⟨k,s,l⟩:T_Regex)) l.length (by omega) ⟨rfl,Nat.le_refl _,fun w hw=>by cases hw⟩ ?_ ?_
      · rintro i ⟨m,fin,_⟩ hi ⟨rfl,g1,c⟩
        simp only at g1 c
        refine Is.dt (show ((i:Nat):Int)<(l.length:Int) by omega) (Is.bnd (P:=fun st:List Str×Bool=>st.1.length≤2*(i+1)∧∀w∈st.1,w.length≤parts (⟨k,s,l⟩:T_Regex)) ?_ (fun ⟨a,b⟩ h=>Is.add1 (by omega) (Is.next ⟨rfl,h⟩)))
        refine Is.bnq (bi hi) (Is.bnd (hkid _ (List.getElem_mem hi)) fun r hr=>?_)
        have hpm:=dK (List.getElem_mem hi)
        refine Is.bnd (P:=fun _=>True) (Is.cnd (fun _=>Is.pure trivial) (fun _=>Is.pure trivial)) fun b _=>?_
        refine Is.upto (fun j (st:List Str×Int)=>st.2=(j:Int)∧st.1.length≤2*i+j∧∀w∈st.1,w.length≤parts (⟨k,s,l⟩:T_Regex)) r.1.length (by omega) ⟨rfl,by simpa using g1,c⟩ ?_ ?_
        · rintro j ⟨t,_⟩ hj ⟨rfl,f,d⟩
          simp only at f d
          refine Is.dt (by omega) (Is.bnq (bi hj) (Is.bnd (wK d (by have:=hr.2 _ (List.getElem_mem hj); omega) (by omega)) fun g n=>Is.add1 (by omega) (Is.next ⟨rfl,by simp only; omega,n.2⟩)))
        · rintro ⟨t,_⟩ ⟨rfl,f,d⟩
          exact Is.df (by omega) (Is.stop ⟨by simp only at f ⊢; omega,d⟩)
      · rintro ⟨m,fin,_⟩ ⟨rfl,g1,c⟩
        exact Is.df (show ¬ ((l.length:Nat):Int)<(l.length:Int) by omega) (Is.stop c)
    · -- a concatenation
      refine Is.bs (P:=fun st:List Str×Bool=>st.1.length≤2∧∀w∈st.1,w.length≤parts (⟨k,s,l⟩:T_Regex)) (Q:=fun r:List Str×Bool=>r.1.length≤2∧∀w∈r.1,w.length≤parts (⟨k,s,l⟩:T_Regex)) ?_ (fun ⟨a,b⟩ h=>Is.pure h)
      refine Is.upto (fun i (st:List Str×Bool×Int)=>st.2.2=(i:Int)∧st.1.length≤2∧∀w∈st.1,w.length≤bp (l.take i)) l.length (by omega) ⟨rfl,by simp,fun w hw=>by rw [List.mem_singleton.1 hw]; simp⟩ ?_ ?_
      · rintro i ⟨m,fin,_⟩ hi ⟨rfl,g1,c⟩
        simp only at g1 c
        have hpt:=eY hi
        have hpl:=dA l (i+1)
        refine Is.dt (show ((i:Nat):Int)<(l.length:Int) by omega) ?_
        refine Is.bs (P:=fun st:List Str×Bool=>st.1.length≤2∧∀w∈st.1,w.length≤bp (l.take (i+1))) ?_ (fun ⟨a,b⟩ h=>Is.add1 (by omega) (Is.next ⟨rfl,h⟩))
        refine Is.bnq (bi hi) (Is.bnd (hkid _ (List.getElem_mem hi)) fun r hr=>?_)
        refine Is.bnd (P:=fun g:List Str=>∀w∈g,w.length≤bp (l.take (i+1))) ?_ fun g n=>?_
        · refine Is.upto (fun j (st:List Str×Int)=>st.2=(j:Int)∧st.1.length≤2*j∧∀w∈st.1,w.length≤bp (l.take (i+1))) m.length (by omega) ⟨rfl,Nat.le_refl _,fun w hw=>by cases hw⟩ ?_ ?_
          · rintro j ⟨t,_⟩ hj ⟨rfl,f,d⟩
            simp only at f d
            refine Is.dt (by omega) (Is.bnd (P:=fun g:List Str=>g.length≤2*(j+1)∧∀w∈g,w.length≤bp (l.take (i+1))) ?_ fun g n=>Is.add1 (by omega) (Is.next ⟨rfl,n⟩))
            refine Is.upto (fun q (st:List Str×Int)=>st.2=(q:Int)∧st.1.length≤2*j+q∧∀w∈st.1,w.length≤bp (l.take (i+1))) r.1.length (by omega) ⟨rfl,by simpa using f,d⟩ ?_ ?_
            · rintro q ⟨u,_⟩ hq ⟨rfl,p,o⟩
              simp only at p o
              have F:=c _ (List.getElem_mem hj)
              have D:=hr.2 _ (List.getElem_mem hq)
              refine Is.dt (by omega) (Is.bnq (bi hj) (Is.bnq (bi hq) (Is.bnq (qh (by omega)) (Is.bnd (wK o (by rw [List.length_append]; omega) (by omega)) fun B z=>Is.add1 (by omega) (Is.next ⟨rfl,by simp only; omega,z.2⟩)))))
            · rintro ⟨u,_⟩ ⟨rfl,p,o⟩
              exact Is.df (by omega) (Is.stop ⟨by simp only at p ⊢; omega,o⟩)
          · rintro ⟨t,_⟩ ⟨rfl,f,d⟩
            exact Is.df (by omega) (Is.stop d)
        · refine Is.cnd (fun _=>Is.stop ⟨by decide,fun w hw=>by cases hw⟩) (fun _=>?_)
          refine Is.bnd (P:=fun _=>True) (Is.cnd (fun _=>Is.cnd (fun _=>Is.pure trivial) (fun _=>Is.pure trivial)) (fun _=>Is.pure trivial)) fun b _=>Is.bnd (nZ n) fun A v=>Is.next v
      · rintro ⟨m,fin,_⟩ ⟨rfl,g1,c⟩
        rw [List.take_length] at c
        exact Is.df (show ¬ ((l.length:Nat):Int)<(l.length:Int) by omega) (Is.stop ⟨g1,fun w hw=>by have:=c w hw; omega⟩)
    · -- a repetition
      obtain ⟨y,e⟩:=hF.star (cH h6)
      obtain rfl:l=[y]:=e
      refine Is.bnq (x:=y) rfl (Is.bnd (hkid y (by simp)) fun r hr=>?_)
      refine Is.bs (P:=fun _=>True) (Q:=fun r:List Str×Bool=>r.1.length≤2∧∀w∈r.1,w.length≤parts (⟨k,s,[y]⟩:T_Regex)) (Is.upto (fun i st=>st=(i:Int)) r.1.length (by omega) rfl ?_ ?_) (fun _ _=>Is.pure ⟨by decide,fun w hw=>by rw [List.mem_singleton.1 hw]; simp⟩)
      · rintro i _ hi rfl
        refine Is.dt (by omega) (Is.bnq (bi hi) (Is.cnd (fun _=>Is.stop ⟨by simp,fun w hw=>?_⟩) (fun _=>Is.add1 (by omega) (Is.next rfl))))
        simp only [List.mem_cons,List.not_mem_nil,or_false] at hw
        rcases hw with rfl|rfl
        · simp
        · have:=hr.2 _ (List.getElem_mem hi)
          simp only [bp] at hx; omega
      · rintro _ rfl
        exact Is.df (by omega) (Is.stop trivial)
theorem xK {x:T_Regex} {s:Str} (hF:Fit x) (hh:height x≤100) (hp:parts x≤100000):Is (M.i8 x s) (fun _=>True):=by
  unfold M.i8
  refine Is.bnd (vg aU x hF (by unfold aU; omega) hp) fun r hr=>Is.bnd (P:=fun _=>True) (Is.cnd (fun _=>Is.cnd (fun h=>?_) (fun _=>Is.pure trivial)) (fun _=>Is.pure trivial)) fun _ _=>Is.pure trivial
  have:=cH h
  exact Is.idx (by omega) (by omega) fun _ _ _=>Is.pure trivial
theorem ph (b:Int):Is (M.g2 b) (fun _=>True):=by
  unfold M.g2
  refine Is.bnd (P:=fun _=>True) ?_ fun _ _=>Is.pure trivial
  refine Is.cnd (fun _=>Is.cnd (fun _=>Is.pure trivial) (fun _=>Is.cnd (fun _=>Is.pure trivial) (fun _=>Is.pure trivial))) (fun _=>Is.cnd (fun _=>Is.pure trivial) (fun _=>Is.pure trivial))
theorem xL {s:Str} (hs:s.length≤1000000):Is (M.i9 s) (fun _=>True):=by
  unfold M.i9
  refine Is.bnd (P:=fun b=>b=false→1≤s.length) ?_ fun b hb=>Is.cnd (fun _=>Is.pure trivial) (fun _=>?_)
  · refine Is.dcd (fun _=>Is.pure fun h=>by cases h) (fun a=>Is.dcd (fun _=>Is.pure fun h=>by cases h) (fun _=>?_))
    exact Is.bnq (dC (i:=0) (by omega)) (Is.bnd (ph _) fun _ _=>Is.pure fun _=>by omega)
  · refine Is.bs (P:=fun _=>True) (Is.upto (fun i st=>st=(i:Int)) s.length (by omega) rfl ?_ ?_) (fun _ _=>Is.pure trivial)
    · rintro i _ hi rfl
      refine Is.dt (by omega) (Is.bnd (P:=fun _=>True) (Is.bnq (dC hi) (Is.bnd (ph _) fun _ _=>?_)) fun _ _=>Is.cnd (fun _=>Is.stop trivial) (fun _=>Is.add1 (by omega) (Is.next rfl)))
      refine Is.cnd (fun _=>Is.cnd (fun _=>Is.cnd (fun _=>Is.pure trivial) (fun _=>Is.pure trivial)) (fun _=>Is.cnd (fun _=>Is.pure trivial) (fun _=>Is.pure trivial))) (fun _=>Is.pure trivial)
    · rintro _ rfl
      exact Is.df (by omega) (Is.stop trivial)
theorem vE {s:Str} (hs:s.length≤1000000):Is (M.e7 s) (fun _=>True):=by
  unfold M.e7
  refine Is.bs (P:=fun _=>True) (Is.upto (fun i st=>st=(i:Int)) s.length (by omega) rfl ?_ ?_) (fun _ _=>Is.pure trivial)
  · rintro i _ hi rfl
    exact Is.dt (by omega) (Is.bnd (P:=fun _=>True) (Is.bnq (dC hi) (Is.cnd (fun _=>Is.pure trivial) (fun _=>Is.pure trivial))) fun _ _=>Is.cnd (fun _=>Is.stop trivial) (fun _=>Is.add1 (by omega) (Is.next rfl)))
  · rintro _ rfl
    exact Is.df (by omega) (Is.stop trivial)
section
variable {x:T_LexSpec} (h6:x.Defs.length≤6) (hf:∀d∈x.Defs,FewD d 30) (hlow:∀d∈x.Defs,height (rx d).1≤6)
include hf in
theorem xz {d:bM} (hd:d∈x.Defs):yC d:=Ae (hf d hd).2.1
include hf hlow
theorem qY {d:bM} (hd:d∈x.Defs) (he:(rx d).2.2=0):Is (M.f8 (rx d).1) (fun _=>True):=by
  unfold M.f8
  exact Is.bnq (iW (yD.fh ⟨xz hf hd,hlow d hd,he⟩) (s:=[]) (by simp)) (Is.pure trivial)
include h6
theorem oQ {i:Nat} (hi:i<x.Defs.length):Is (M.e3 x (i:Int)) (fun e=>e=0→(rx x.Defs[i]).2.2=0):=by
  have hd:=List.getElem_mem hi
  have hfd:=hf _ hd
  unfold M.e3
  refine Is.bnq (bi hi) (Is.bnd (P:=fun _=>True) ?_ fun b _=>Is.cnd (fun _=>Is.pure fun e=>absurd e (by decide)) (fun _=>?_))
  · exact Is.bnd (xL (by have:=hfd.1; omega)) fun _ _=>Is.cnd (fun _=>Is.pure trivial) (fun _=>Is.cnd (fun _=>Is.pure trivial) (fun _=>Is.cnd (fun _=>Is.pure trivial) (fun _=>Is.pure trivial)))
  · refine Is.bs (P:=fun _=>True) (Q:=fun e:Int=>e=0→(rx x.Defs[i]).2.2=0) (Is.upto (fun j st=>st=(j:Int)) i (by omega) rfl ?_ ?_) (fun _ _=>?_)
    · rintro j _ hj rfl
      exact Is.dt (by omega) (Is.bnq (bi (by omega)) (Is.cnd (fun _=>Is.stop fun e=>absurd e (by decide)) (fun _=>Is.add1 (by omega) (Is.next rfl))))
    · rintro _ rfl
      exact Is.df (by omega) (Is.stop trivial)
    · refine Is.bnd (P:=fun _=>True) (Is.cnd (fun _=>Is.pure trivial) (fun _=>Is.pure trivial)) fun b _=>Is.cnd (fun _=>Is.pure fun e=>absurd e (by decide)) (fun _=>?_)
      refine Is.bnq (xz hf hd).ref (Is.cnd (fun hne=>Is.pure fun e=>absurd e (fN hne)) (fun he=>?_))
      have he:=eO he
      refine Is.bnd (qY hf hlow hd he) fun b _=>Is.cnd (fun _=>Is.pure fun _=>he) (fun _=>Is.bnd (vE (by have:=hfd.2.2.2; omega)) fun _ _=>Is.cnd (fun _=>Is.pure fun _=>he) (fun _=>Is.pure fun _=>he))
omit h6 hf hlow in
theorem xU {l:List T_Regex} (ok:∀x∈l,bR x) (hp:bp l≤1048576):Is (M.b7 l) (fun r=>(r=(nL l,0)∧bp l≤500)∨r.2≠0):=by
  by_cases hg:(∀y∈l,V 30 y=true)∧bp l≤500
  · exact ⟨_,sr ok hg.1 hg.2,.inl ⟨rfl,hg.2⟩⟩
  · unfold M.b7
    refine Is.bnd (rG ok hp) fun e he=>?_
    have hne:e≠0:=by
      rcases he with ⟨_,h,_⟩|⟨_,_,h,_⟩|⟨b,a,_,_⟩
      · omega
      · omega
      · exact absurd ⟨b,a⟩ hg
    exact Is.ct (go hne) (Is.pure (.inr hne))
def uy (x:T_LexSpec):List T_Regex:=x.Defs.map fun d=>(rx d).1
omit h6 in
theorem xG:(∀y∈uy x,bR y)∧bp (uy x)≤x.Defs.length*1984:=by
  refine ⟨fun y hy=>?_,?_⟩
  · obtain ⟨d,hd,rfl⟩:=List.mem_map.1 hy
    exact (xz hf hd).ok
  · have:∀l:List bM,(∀d∈l,d∈x.Defs)→bp (l.map fun d=>(rx d).1)≤l.length*1984:=by
      intro l
      induction l with
      | nil=>intro _; simp [bp]
      | cons d l ih=>
        intro hl
        have c:=ih fun z hz=>hl z (by simp [hz])
        have b:=(xz hf (hl d (by simp))).prt
        have a:31*2 ^ height (rx d).1≤31*2 ^ 6:=Nat.mul_le_mul_left 31 (Nat.pow_le_pow_right (by omega) (hlow d (hl d (by simp))))
        simp only [List.map_cons,bp,List.length_cons]; omega
    exact this x.Defs fun _ h=>h
theorem wD:Is (M.g8 x) (fun r=>r.2=0→bp (uy x)≤500∧WM r.1):=by
  unfold M.g8
  refine Is.bnq (x:=uy x) (Is.eq ?_) ?_
  · refine Is.upto (fun i (st:List T_Regex×Int)=>st.2=(i:Int)∧st.1=(x.Defs.take i).map fun d=>(rx d).1) x.Defs.length (by omega) ⟨rfl,rfl⟩ ?_ ?_
    · rintro i ⟨l,_⟩ hi ⟨rfl,e⟩
      obtain rfl:l=_:=e
      refine Is.dt (by omega) (Is.bnq (bi hi) (Is.bnq (fM (xz hf (List.getElem_mem hi))) (Is.app1 (by rw [List.length_map,List.length_take]; omega) (Is.add1 (by omega) (Is.next ⟨rfl,?_⟩)))))
      rw [List.take_succ_eq_append_getElem hi,List.map_append]; rfl
    · rintro ⟨l,_⟩ ⟨rfl,e⟩
      obtain rfl:l=_:=e
      rw [List.take_length]
      exact Is.df (by omega) (Is.stop rfl)
  obtain ⟨ok,hp⟩:=xG hf hlow
  refine Is.bnd (xU ok (by omega)) fun r hr=>?_
  rcases hr with ⟨rfl,a⟩|hne
  · refine Is.cf rfl ?_
    have hfit:=uC ok a
    have hal:=(mg a).2
    refine Is.bnd (vu (n:=nL (uy x)) hfit (by omega)) fun r hr=>Is.cnd (fun hne=>Is.pure fun e=>absurd e (fN hne)) (fun he=>?_)
    obtain ⟨c,b⟩:=hr (eO he)
    exact Is.bnd (sN c b) fun m hm=>Is.pure fun _=>⟨a,hm⟩
  · exact Is.ct (go hne) (Is.pure fun e=>absurd e hne)
structure SpecOk (x:T_LexSpec):Prop where
  six:x.Defs.length≤6
  few:∀d∈x.Defs,FewD d 30
  pat:∀d∈x.Defs,yD d
  prt:bp (uy x)≤500
  mis:0≤x.Misspelling∧x.Misspelling≤1000
  unc:0≤x.Unclosed∧x.Unclosed≤1000
  dfa:∃d,M.g8 x=some (d,0)∧WM d
theorem wx:Is (M.f3 x) (fun r=>r.2=0→SpecOk x):=by
  unfold M.f3
  refine Is.bnd (P:=fun _=>True) (Is.cnd (fun _=>Is.pure trivial) (fun _=>Is.pure trivial)) fun b _=>Is.cnd (fun _=>Is.pure fun e=>absurd e (by decide)) (fun _=>?_)
  refine Is.bs (P:=fun _=>∀d∈x.Defs,(rx d).2.2=0) (Q:=fun r:Int×Int=>r.2=0→SpecOk x) (Is.upto (fun i st=>st=(i:Int)∧∀d∈x.Defs.take i,(rx d).2.2=0) x.Defs.length (by omega) ⟨rfl,by simp⟩ ?_ ?_) (fun _ hgood=>?_)
  · rintro i _ hi ⟨rfl,hd⟩
    refine Is.dt (by omega) (Is.bnd (oQ h6 hf hlow hi) fun e he=>Is.cnd (fun hne=>Is.stop fun e=>absurd e (fN hne)) (fun a=>Is.add1 (by omega) (Is.next ⟨rfl,fun d hm=>?_⟩)))
    rw [List.take_succ_eq_append_getElem hi,List.mem_append] at hm
    rcases hm with hm|hm
    · exact hd d hm
    · rw [List.mem_singleton.1 hm]; exact he (eO a)
  · rintro _ ⟨rfl,hd⟩
    rw [List.take_length] at hd
    exact Is.df (by omega) (Is.stop hd)
  refine Is.bnd (P:=fun b=>b=false→(0≤x.Misspelling∧x.Misspelling≤1000)∧(0≤x.Unclosed∧x.Unclosed≤1000)) ?_ fun b hb=>Is.cnd (fun _=>Is.pure fun e=>absurd (show (1:Int)=0 from e) (by decide)) (fun e=>?_)
  · refine Is.dcd (fun _=>Is.pure fun h=>by cases h) (fun m=>Is.dcd (fun _=>Is.pure fun h=>by cases h) (fun l=>Is.dcd (fun _=>Is.pure fun h=>by cases h) (fun g=>Is.pure fun h=>?_)))
    have:=of_decide_eq_false h
    exact ⟨by omega,by omega⟩
  obtain ⟨f,c⟩:=hb e
  have hpat:∀d∈x.Defs,yD d:=fun d hd=>⟨xz hf hd,hlow d hd,hgood d hd⟩
  obtain ⟨⟨bd,be⟩,hbr,hr⟩:=wD h6 hf hlow
  refine Is.bnq hbr (Is.cnd (fun hne=>Is.pure fun e=>absurd e (fN hne)) (fun a=>?_))
  obtain rfl:be=0:=eO a
  have ok:SpecOk x:=⟨h6,hf,hpat,(hr rfl).1,f,c,bd,hbr,(hr rfl).2⟩
  refine Is.bs (P:=fun _=>True) (Q:=fun r:Int×Int=>r.2=0→SpecOk x) (Is.upto (fun i st=>st=(i:Int)) x.Defs.length (by omega) rfl ?_ ?_) (fun _ _=>Is.pure fun _=>ok)
  · rintro i _ hi rfl
    have hd:=List.getElem_mem hi
    refine Is.dt (by omega) (Is.bnq (bi hi) (Is.bnd (P:=fun _=>True) ?_ fun k _=>Is.cnd (fun _=>Is.stop fun _=>ok) (fun _=>Is.bnd (P:=fun _=>True) ?_ fun b _=>Is.cnd (fun _=>Is.stop fun _=>ok) (fun _=>Is.add1 (by omega) (Is.next rfl)))))
    · unfold M.k1
      refine Is.bs (P:=fun _=>True) (Is.upto (fun i st=>st=(i:Int)) x.Defs.length (by omega) rfl ?_ ?_) (fun _ _=>Is.pure trivial)
      · rintro j _ hj rfl
        have hdj:=List.getElem_mem hj
        exact Is.dt (by omega) (Is.bnq (bi hj) (Is.bnq (fM (xz hf hdj)) (Is.bnq (iW (s:=x.Defs[i].Sample) (hpat _ hdj).fh (by have:=(hf _ hd).2.2.1; omega)) (Is.cnd (fun _=>Is.stop trivial) (fun _=>Is.add1 (by omega) (Is.next rfl))))))
      · rintro _ rfl
        exact Is.df (by omega) (Is.stop trivial)
    · exact Is.cnd (fun _=>Is.bnq (fM (xz hf hd)) (Is.bnd (xK (hpat _ hd).fit (by have:=hlow _ hd; omega) (by have:=(hpat _ hd).parts; omega)) fun _ _=>Is.pure trivial)) (fun _=>Is.pure trivial)
  · rintro _ rfl
    exact Is.df (by omega) (Is.stop trivial)
end
theorem vm {x:T_LexSpec} (ok:jf x):Is (M.i1 x) (fun b=>b=true→SpecOk x∧∃k,M.f3 x=some (k,0)):=by
  have hl:x.Defs.length≤9223372036854775807:=Nat.le_trans ok.1.2 (by decide)
  unfold M.i1
  refine Is.bnd (zt hl 6 30) fun b hb=>Is.cnd (fun _=>Is.pure fun h=>by cases h) (fun e=>?_)
  obtain ⟨h6,hf⟩:=hb (by simpa using e)
  refine Is.bs (P:=fun _=>∀d∈x.Defs,height (rx d).1≤6) (Q:=fun b:Bool=>b=true→SpecOk x∧∃k,M.f3 x=some (k,0)) (Is.upto (fun i st=>st=(i:Int)∧∀d∈x.Defs.take i,height (rx d).1≤6) x.Defs.length hl ⟨rfl,by simp⟩ ?_ ?_) (fun _ hlow=>?_)
  · rintro i _ hi ⟨rfl,hd⟩
    have hx:=xz hf (List.getElem_mem hi)
    refine Is.dt (by omega) (Is.bnq (bi hi) (Is.bnq (fM hx) (Is.bnq (xe aU _ hx.ok (by have:=hx.hgt; unfold aU; omega) (by have:=hx.hgt; omega)) (Is.dcd (fun _=>Is.stop fun h=>by cases h) (fun hle=>Is.add1 (by omega) (Is.next ⟨rfl,fun d hm=>?_⟩))))))
    rw [List.take_succ_eq_append_getElem hi,List.mem_append] at hm
    rcases hm with hm|hm
    · exact hd d hm
    · rw [List.mem_singleton.1 hm]; omega
  · rintro _ ⟨rfl,hd⟩
    rw [List.take_length] at hd
    exact Is.df (by omega) (Is.stop hd)
  · obtain ⟨⟨k,e⟩,a,c⟩:=wx h6 hf hlow
    refine Is.bnq a (Is.pure fun h=>?_)
    obtain rfl:e=0:=cH h
    exact ⟨c rfl,k,a⟩
end Go.Proofs.YtlcdifnmkafcfaaGreat
set_option linter.unusedVariables false
namespace Go.Proofs.YtlcdifnmkafcfaaGreat
open Go.Lx
open Classical
noncomputable def cl (x:T_LexSpec) (d:bM) (s:Str):Bool:=decide (0<x.Unclosed) && (d.Kind != 2) && (d.Close != []) && decide (L (rx d).1 (bW (s++d.Close)))
section
variable {x:T_LexSpec} (h:SpecOk x)
include h
theorem xH {d:bM} (hd:d∈x.Defs):parts (rx d).1≤500:=Nat.le_trans (dK (List.mem_map.2 ⟨d,hd,rfl⟩)) h.prt
theorem zk {d:bM} (hd:d∈x.Defs) {s:Str} (hs:s.length≤20):M.f0 (rx d).1 (s++d.Close)=some (decide (L (rx d).1 (bW (s++d.Close)))):=by
  have hc:=(h.few d hd).2.2.2
  exact vX (s:=s++d.Close) (P:=500) (N:=50) (H:=6) (by decide) (by decide) (by decide) (by decide) (h.pat d hd).fit (xH h hd) (h.pat d hd).low (by rw [List.length_append]; omega) (by rw [List.length_append]; omega)
theorem rF {d:bM} (hd:d∈x.Defs) {s:Str} (hs:s.length≤20):M.c2 x d s=some (cl x d s):=by
  have hc:=(h.few d hd).2.2.2
  refine Is.eq ?_
  unfold M.c2 cl
  refine Is.bnd (P:=fun b=>b=!(decide (0<x.Unclosed) && (d.Kind != 2) && (d.Close != []))) ?_ fun b hb=>?_
  · refine Is.dcd (fun c=>Is.pure ?_) (fun c=>Is.cnd (fun a=>Is.pure ?_) (fun a=>Is.pure ?_))
    · rw [dT (show ¬ 0<x.Unclosed by omega)]; rfl
    · rw [show (d.Kind != 2)=false by rw [bne,a]; rfl]; simp
    · rw [dS (show 0<x.Unclosed by omega),show (d.Kind != 2)=true by rw [bne,a]; rfl]; simp [bne]
  subst hb
  refine Is.cnd (fun e=>Is.pure ?_) (fun e=>?_)
  · rw [Bool.not_eq_true'] at e
    rw [e]; rfl
  · rw [Bool.not_eq_false'] at e
    rw [e]
    refine Is.bnq (h.pat d hd).ro.prog (Is.bnd (P:=fun b=>b=decide (L (rx d).1 (bW (s++d.Close)))) (Is.ct (iI (h.pat d hd).good) (Is.bnq (qh (by omega)) (Is.bnq (zk h hd hs) (Is.pure rfl)))) fun b hb=>Is.pure (by rw [hb]; rfl))
theorem no {k:Nat} (hk:k<x.Defs.length) {s:Str} (hs:s.length≤20):M.f1 x (k:Int) s=some (cl x x.Defs[k] s):=by
  have hd:=List.getElem_mem hk
  have hc:=(h.few _ hd).2.2.2
  refine Is.eq ?_
  unfold M.f1 cl
  refine Is.bnq (bi hk) (Is.bnd (P:=fun b=>b=(decide (0<x.Unclosed) && (x.Defs[k].Kind != 2) && (x.Defs[k].Close != []) && decide (L (rx x.Defs[k]).1 (bW (s++x.Defs[k].Close))))) ?_ fun b hb=>Is.pure hb)
  refine Is.cnd (fun a=>Is.cnd (fun c=>Is.cnd (fun d=>?_) (fun d=>Is.pure (by rw [a,c,d]; rfl))) (fun c=>Is.pure (by rw [a,c]; rfl))) (fun a=>Is.pure (by rw [a]; rfl))
  rw [a,c,d]
  refine Is.bnq (qh (by omega)) (Is.bnq (fM (h.pat _ hd).ro) (Is.bnq (iW (h.pat _ hd).fh (by rw [List.length_append]; omega)) (Is.pure rfl)))
end
end Go.Proofs.YtlcdifnmkafcfaaGreat
namespace Go.Lx
def eK (a b:Str):Nat→Nat→Nat
  | 0,j=>j
  | i+1,0=>i+1
  | 1,j+1=>min (min (eK a b 0 (j+1)+1) (eK a b 1 j+1)) (eK a b 0 j+(if a.getD 0 0=b.getD j 0 then 0 else 1))
  | i+2,1=>min (min (eK a b (i+1) 1+1) (eK a b (i+2) 0+1)) (eK a b (i+1) 0+(if a.getD (i+1) 0=b.getD 0 0 then 0 else 1))
  | i+2,j+2=>if a.getD (i+1) 0=b.getD j 0∧a.getD i 0=b.getD (j+1) 0
      then min (min (min (eK a b (i+1) (j+2)+1) (eK a b (i+2) (j+1)+1)) (eK a b (i+1) (j+1)+(if a.getD (i+1) 0=b.getD (j+1) 0 then 0 else 1))) (eK a b i j+1)
      else min (min (eK a b (i+1) (j+2)+1) (eK a b (i+2) (j+1)+1)) (eK a b (i+1) (j+1)+(if a.getD (i+1) 0=b.getD (j+1) 0 then 0 else 1))
termination_by i j=>i+j
def ws (a b:Str) (i j:Nat):Nat:=if a.getD i 0=b.getD j 0 then 0 else 1
def jH (a b:Str) (i j:Nat):Prop:=a.getD (i+1) 0=b.getD j 0∧a.getD i 0=b.getD (j+1) 0
theorem tb {a b:Str} {i j:Nat}:ws a b i j≤1:=by unfold ws; split <;> omega
theorem vK {a b:Str} {j:Nat}:eK a b 0 j=j:=by rw [eK]
theorem sE {a b:Str} {i:Nat}:eK a b i 0=i:=by cases i <;> rw [eK]
def fy (a b:Str) (i j:Nat):Nat:=min (min (eK a b i (j+1)+1) (eK a b (i+1) j+1)) (eK a b i j+ws a b i j)
theorem vJ {a b:Str} {j:Nat}:eK a b 1 (j+1)=fy a b 0 j:=by rw [eK]; rfl
theorem sD {a b:Str} {i:Nat}:eK a b (i+1) 1=fy a b i 0:=by cases i <;> (rw [eK]; rfl)
theorem vI {a b:Str} {i j:Nat} (h:jH a b i j):eK a b (i+2) (j+2)=min (fy a b (i+1) (j+1)) (eK a b i j+1):=by rw [eK]; exact if_pos h
theorem qW {a b:Str} {i j:Nat} (h:¬ jH a b i j):eK a b (i+2) (j+2)=fy a b (i+1) (j+1):=by rw [eK]; exact if_neg h
theorem uA (a b:Str) (i j:Nat):eK a b (i+1) (j+1)=fy a b i j∨∃i' j',i=i'+1∧j=j'+1∧jH a b i' j'∧eK a b (i+1) (j+1)=min (fy a b i j) (eK a b i' j'+1):=by
  cases i with
  | zero=>exact .inl vJ
  | succ i=>
    cases j with
    | zero=>exact .inl sD
    | succ j=>
      by_cases h:jH a b i j
      · exact .inr ⟨i,j,rfl,rfl,h,vI h⟩
      · exact .inl (qW h)
theorem BA {P:Nat→Nat→Prop} (h:∀i j,(∀i' j',i'+j'<i+j→P i' j')→P i j):∀i j,P i j:=by
  have gL:∀n i j,i+j≤n→P i j:=by
    intro n
    induction n with
    | zero=>intro i j hn; exact h i j fun i' j' h'=>by omega
    | succ n ih=>intro i j hn; exact h i j fun i' j' h'=>ih i' j' (by omega)
  exact fun i j=>gL (i+j) i j (Nat.le_refl _)
theorem nJ (a b:Str):∀i j,i≤eK a b i j+j∧j≤eK a b i j+i∧eK a b i j≤max i j:=by
  refine BA fun i j ih=>?_
  cases i with
  | zero=>rw [vK]; omega
  | succ i=>
    cases j with
    | zero=>rw [sE]; omega
    | succ j=>
      have f:=ih i (j+1) (by omega)
      have e:=ih (i+1) j (by omega)
      have d:=ih i j (by omega)
      have hc:=tb (a:=a) (b:=b) (i:=i) (j:=j)
      rcases uA a b i j with h|⟨i',j',rfl,rfl,_,h⟩
      · rw [h]; unfold fy; omega
      · have c:=ih i' j' (by omega)
        rw [h]; unfold fy; omega
end Go.Lx
namespace Go.Proofs.YtlcdifnmkafcfaaGreat
open Go.Lx
set_option maxRecDepth 100000 in
theorem ot:M.i2=some true:=by decide +kernel
end Go.Proofs.YtlcdifnmkafcfaaGreat
namespace Go.Proofs.YtlcdifnmkafcfaaGreat.Os
open Go.Lx
theorem fR {i:Nat} (h:i≤9223372036854775807):bV .i64 (((i+1:Nat):Int) - 1)=some (i:Int):=by rw [dv (by omega) (by omega)]; congr 1; omega
theorem eZ {i:Nat} (h:i≤9223372036854775807):bV .i64 (((i+1+1:Nat):Int) - 2)=some (i:Int):=by rw [dv (by omega) (by omega)]; congr 1; omega
theorem fw {s:Str} {p:Nat} (h:p<s.length):eh s (p:Int)=some ((s.getD p 0).toNat:Int):=by
  rw [dC h,List.getD_eq_getElem?_getD,List.getElem?_eq_getElem h]; rfl
theorem Aa {a b:UInt8}:(((a.toNat:Int)) != (b.toNat:Int))=!decide (a=b):=by
  by_cases h:a=b
  · subst h; simp
  · have:a.toNat≠b.toNat:=fun e=>h (UInt8.toNat_inj.1 e)
    rw [go (by omega),decide_eq_false h]; rfl
theorem qD {a b:UInt8}:(((a.toNat:Int)) == (b.toNat:Int))=decide (a=b):=by
  by_cases h:a=b
  · subst h; simp
  · have:a.toNat≠b.toNat:=fun e=>h (UInt8.toNat_inj.1 e)
    rw [bL (by omega),decide_eq_false h]
def oT (a b:Str) (i k:Nat) (l:List Int):Prop:=l.length=b.length+1∧∀q,q<k→l.getD q 0=(eK a b i q:Int)
theorem oT.idx {a b:Str} {i k:Nat} {l:List Int} (h:oT a b i k l) {q:Nat} (hq:q<k) (hb:q≤b.length):bq l (q:Int)=some (eK a b i q:Int):=by
  rw [nV (d:=0) (by omega) (by rw [h.1]; omega),Int.toNat_natCast,h.2 q hq]
theorem oT.put {a b:Str} {i k:Nat} {l:List Int} (h:oT a b i k l) (hk:k≤b.length):cK l (k:Int) (eK a b i k:Int)=some (l.set k (eK a b i k:Int))∧oT a b i (k+1) (l.set k (eK a b i k:Int)):=by
  refine ⟨cY (by rw [h.1]; omega),by rw [List.length_set]; exact h.1,fun q hq=>?_⟩
  rw [List.getD_eq_getElem?_getD,List.getElem?_set]
  split
  · rename_i e
    subst e
    rw [if_pos (by rw [h.1]; omega)]; rfl
  · have:=h.2 q (by omega)
    rw [List.getD_eq_getElem?_getD] at this
    exact this
theorem ld {a b:Nat}:mF (a:Int) (b:Int)=((min a b:Nat):Int):=by unfold mF; split <;> omega
theorem rd {a b c:Nat}:nN (a:Int) (b:Int) (c:Int)=((min (min a b) c:Nat):Int):=by unfold nN; rw [ld,ld]
theorem dist_ok {a b:Str} (ha:a.length≤1000) (hb:b.length≤1000):M.a8 a b=some (eK a b a.length b.length:Int):=by
  have hbd:∀i j,i≤1001→j≤1001→eK a b i j≤1001:=fun i j hi hj=>by have:=(nJ a b i j).2.2; omega
  refine Is.eq ?_
  unfold M.a8
  refine Is.bnq (x:=List.replicate (b.length+1) (0:Int)) (aO (aX (by omega)) (aO (dW (by omega)) rfl)) ?_
  refine Is.bnd (P:=oT a b 0 (b.length+1)) ?_ fun v t=>?_
  · refine Is.upto (fun i (st:List Int×Int)=>st.2=(i:Int)∧oT a b 0 i st.1) (b.length+1) (by omega) ⟨rfl,by simp,fun q hq=>by omega⟩ ?_ ?_
    · rintro i ⟨l,_⟩ hi ⟨rfl,h⟩
      have hp:=h.put (by omega)
      rw [vK] at hp
      exact Is.dt (by simp only [List.length_replicate]; omega) (Is.bnq hp.1 (Is.bnq (aX (by omega)) (Is.next ⟨rfl,hp.2⟩)))
    · rintro ⟨l,_⟩ ⟨rfl,h⟩
      exact Is.df (by simp only [List.length_replicate]; omega) (Is.stop h)
  refine Is.bnd (P:=oT a b a.length (b.length+1)) ?_ fun l h=>Is.bnq (h.idx (by omega) (by omega)) (Is.pure rfl)
  refine Is.upto (fun i (st:List Int×List Int×List Int×Int)=>st.2.2.2=((i+1:Nat):Int)∧st.1.length=b.length+1∧(∀i',i=i'+1→oT a b i' (b.length+1) st.2.1)∧st.2.1.length=b.length+1∧oT a b i (b.length+1) st.2.2.1) a.length (by omega)
    ⟨rfl,by simp,fun _ h=>by omega,by simp,t⟩ ?_ ?_
  · rintro i ⟨p,s,r,_⟩ hi ⟨rfl,g,f,h33l,d⟩
    simp only at g f d h33l
    refine Is.dt (by omega) ?_
    have o:=oT.put (a:=a) (b:=b) (i:=i+1) (k:=0) (l:=p) ⟨g,fun q hq=>by omega⟩ (by omega)
    rw [sE] at o
    refine Is.bnd (P:=oT a b (i+1) (b.length+1)) (Is.bnq o.1 ?_) fun y hy=>Is.bnq (aX (by omega)) (Is.next ⟨rfl,h33l,fun i' e=>(show i=i' by omega) ▸ d,d.1,hy⟩)
    refine Is.upto (fun j (st:List Int×Int)=>st.2=((j+1:Nat):Int)∧oT a b (i+1) (j+1) st.1) b.length (by omega) ⟨rfl,o.2⟩ ?_ ?_
    · rintro j ⟨y,_⟩ hj ⟨rfl,hy⟩
      refine Is.dt (by omega) ?_
      have F:=hbd i j (by omega) (by omega)
      have D:=hbd i (j+1) (by omega) (by omega)
      have B:=hbd (i+1) j (by omega) (by omega)
      have hcs:=tb (a:=a) (b:=b) (i:=i) (j:=j)
      refine Is.bnd (P:=oT a b (i+1) (j+2)) ?_ fun y' hy'=>Is.bnq (aX (by omega)) (Is.next ⟨rfl,hy'⟩)
      refine Is.bnq (fR (by omega)) (Is.bnq (d.idx (by omega) (by omega)) ?_)
      refine Is.bnq (x:=((eK a b i j+ws a b i j:Nat):Int)) ?_ ?_
      · refine aO (fR (by omega)) (aO (fw hi) (aO (fw hj) ?_))
        rw [Aa]
        unfold ws
        by_cases hc:a.getD i 0=b.getD j 0
        · rw [if_pos hc,decide_eq_true hc]; rfl
        · rw [if_neg hc,decide_eq_false hc]
          exact aO (aX (by omega)) rfl
      refine Is.bnq (d.idx (by omega) (by omega)) (Is.bnq (aX (by omega)) (Is.bnq (hy.idx (by omega) (by omega)) (Is.bnq (aX (by omega)) ?_)))
      have u:nN (((eK a b i j+ws a b i j:Nat):Int)) ((eK a b i (j+1)+1:Nat):Int) ((eK a b (i+1) j+1:Nat):Int)=(fy a b i j:Int):=by
        rw [rd]; unfold fy; omega
      rw [u]
      have A:fy a b i j≤1002:=by unfold fy; omega
      have hyl:j+1<y.length:=by rw [hy.1]; omega
      refine Is.bnq (cY hyl) ?_
      have hyy:∀z:Nat,eK a b (i+1) (j+1)=z→oT a b (i+1) (j+2) (y.set (j+1) (z:Int)):=by
        intro z hz
        have:=(hy.put (k:=j+1) (by omega)).2
        rw [hz] at this
        exact this
      have hfst:∀z:Int,bq (y.set (j+1) z) ((j+1:Nat):Int)=some z:=by
        intro z
        rw [bi (by rw [List.length_set]; exact hyl),List.getElem_set_self]
      refine Is.bnd (P:=fun c:Bool=>(c=true→∃i' j',i=i'+1∧j=j'+1∧jH a b i' j')∧(c=false→eK a b (i+1) (j+1)=fy a b i j)) ?_ fun c hc=>?_
      · cases i with
        | zero=>exact Is.df (by omega) (Is.pure ⟨fun h=>(by cases h),fun _=>vJ⟩)
        | succ i=>
          refine Is.dt (by omega) ?_
          cases j with
          | zero=>exact Is.df (by omega) (Is.pure ⟨fun h=>(by cases h),fun _=>sD⟩)
          | succ j=>
            refine Is.dt (by omega) (Is.bnq (fR (by omega)) (Is.bnq (fw hi) (Is.bnq (eZ (by omega)) (Is.bnq (fw (by omega)) ?_))))
            rw [qD]
            refine Is.dcd (fun n=>?_) (fun n=>Is.pure ⟨fun h=>(by cases h),fun _=>qW fun h=>n h.1⟩)
            refine Is.bnq (eZ (by omega)) (Is.bnq (fw (by omega)) (Is.bnq (fw hj) (Is.pure ?_)))
            rw [qD]
            exact ⟨fun m=>⟨i,j,rfl,rfl,n,of_decide_eq_true m⟩,fun m=>qW fun h=>of_decide_eq_false m h.2⟩
      · refine Is.cnd (fun h=>?_) (fun h=>Is.pure (hyy _ (hc.2 h)))
        obtain ⟨i',j',rfl,rfl,hx⟩:=hc.1 h
        have w:=hbd i' j' (by omega) (by omega)
        refine Is.bnq (hfst _) (Is.bnq (eZ (by omega)) (Is.bnq ((f i' rfl).idx (by omega) (by omega)) (Is.bnq (aX (by omega)) ?_)))
        rw [ld]
        refine Is.bnq (cY (by rw [List.length_set]; exact hyl)) (Is.pure ?_)
        rw [List.set_set]
        exact hyy _ (vI hx)
    · rintro ⟨y,_⟩ ⟨rfl,hy⟩
      exact Is.df (by omega) (Is.stop hy)
  · rintro ⟨p,s,r,_⟩ ⟨rfl,g,f,h33l,d⟩
    exact Is.df (by omega) (Is.stop d)
end Go.Proofs.YtlcdifnmkafcfaaGreat.Os
namespace Go.Proofs.YtlcdifnmkafcfaaGreat.Os
open Go.Lx
def wQ (a b:Str) (i:Nat) (l:List (List Int)):Prop:=l.length=a.length+1∧∀r,r<i→oT a b r (b.length+1) (l.getD r [])
theorem kI {a:Str} {l:List (List Int)} (h:l.length=a.length+1) {r:Nat} (hr:r≤a.length):bq l (r:Int)=some (l.getD r []):=by
  rw [nV (d:=[]) (by omega) (by omega),Int.toNat_natCast]
theorem rm {α:Type} {l:List α} {i r:Nat} {x d:α} (hi:i<l.length):(l.set i x).getD r d=if i=r then x else l.getD r d:=by
  rw [List.getD_eq_getElem?_getD,List.getElem?_set]
  by_cases h:i=r
  · rw [if_pos h,if_pos h,if_pos (by omega)]; rfl
  · rw [if_neg h,if_neg h,List.getD_eq_getElem?_getD]
theorem wQ.put {a b:Str} {i:Nat} {l:List (List Int)} (h:wQ a b i l) (hi:i≤a.length) (x:List Int):cK l (i:Int) x=some (l.set i x)∧wQ a b i (l.set i x)∧(l.set i x).getD i []=x:=by
  have hl:=h.1
  refine ⟨cY (by omega),⟨by rw [List.length_set]; exact hl,fun r hr=>?_⟩,?_⟩
  · rw [rm (by omega),if_neg (by omega)]
    exact h.2 r hr
  · rw [rm (by omega),if_pos rfl]
theorem refDist_ok {a b:Str} (ha:a.length≤1000) (hb:b.length≤1000):M.e1 a b=some (eK a b a.length b.length:Int):=by
  have hbd:∀i j,i≤1001→j≤1001→eK a b i j≤1001:=fun i j hi hj=>by have:=(nJ a b i j).2.2; omega
  refine Is.eq ?_
  unfold M.e1
  refine Is.bnq (aX (by omega)) (Is.bnq (dW (by omega)) ?_)
  refine Is.bnd (P:=wQ a b (a.length+1)) ?_ fun l h=>Is.bnq (kI h.1 (Nat.le_refl _)) (Is.bnq ((h.2 _ (by omega)).idx (by omega) (Nat.le_refl _)) (Is.pure rfl))
  refine Is.upto (fun i (st:List (List Int)×Int)=>st.2=(i:Int)∧wQ a b i st.1) (a.length+1) (by omega) ⟨rfl,by simp,fun r hr=>by omega⟩ ?_ ?_
  · rintro i ⟨l,_⟩ hi ⟨rfl,h⟩
    simp only at h
    refine Is.dt (by omega) ?_
    refine Is.bnd (P:=wQ a b (i+1)) ?_ fun A m=>Is.bnq (aX (by omega)) (Is.next ⟨rfl,m⟩)
    obtain ⟨H,G,F⟩:=h.put (by omega) (List.replicate (b.length+1) 0)
    refine Is.bnq (aX (by omega)) (Is.bnq (dW (by omega)) (Is.bnq H ?_))
    refine Is.mono (P:=fun l=>wQ a b i l∧oT a b i (b.length+1) (l.getD i [])) ?_ fun A ⟨o,f⟩=>⟨o.1,fun r hr=>?_⟩
    · refine Is.upto (fun j (st:List (List Int)×Int)=>st.2=(j:Int)∧wQ a b i st.1∧oT a b i j (st.1.getD i [])) (b.length+1) (by omega) ⟨rfl,G,by rw [F]; exact ⟨by simp,fun q hq=>by omega⟩⟩ ?_ ?_
      · rintro j ⟨d,_⟩ hj ⟨rfl,g,n⟩
        simp only at g n
        refine Is.dt (by omega) ?_
        refine Is.bnd (P:=fun l=>wQ a b i l∧oT a b i (j+1) (l.getD i [])) ?_ fun A m=>Is.bnq (aX (by omega)) (Is.next ⟨rfl,m.1,m.2⟩)
        -- a row with its next entry
        have fin:∀(t:List (List Int)) (row:List Int) (z:Nat),wQ a b i t→row=(d.getD i []).set j (z:Int)→eK a b i j=z→∃p,cK t (i:Int) row=some p∧wQ a b i p∧oT a b i (j+1) (p.getD i []):=by
          intro t row z J N L
          obtain ⟨o,f,s⟩:=J.put (by omega) row
          refine ⟨_,o,f,?_⟩
          rw [s,N]
          have:=(n.put (k:=j) (by omega)).2
          rw [L] at this
          exact this
        have hidx:bq d (i:Int)=some (d.getD i []):=kI g.1 (by omega)
        have hjl:j<(d.getD i []).length:=by rw [n.1]; omega
        have hset:∀z:Int,cK (d.getD i []) (j:Int) z=some ((d.getD i []).set j z):=fun z=>cY hjl
        refine Is.bnd (P:=fun c:Bool=>c=true↔i=0∨j=0) ?_ fun c hc=>?_
        · refine Is.cnd (fun h=>Is.pure ?_) (fun h=>Is.pure ?_)
          · have:=cH h
            exact ⟨fun _=>.inl (by omega),fun _=>rfl⟩
          · have:=em h
            rw [beq_iff_eq]
            exact ⟨fun h=>.inr (by omega),fun h=>by omega⟩
        refine Is.cnd (fun h=>?_) (fun h=>?_)
        · have e:eK a b i j=i+j:=by
            rcases hc.1 h with rfl|rfl
            · rw [vK]; omega
            · rw [sE]; rfl
          have ch:bV .i64 ((i:Int)+(j:Int))=some ((i+j:Nat):Int):=by rw [dv (by omega) (by omega)]; rfl
          obtain ⟨p,y,w,v⟩:=fin d _ _ g rfl e
          exact Is.bnq hidx (Is.bnq ch (Is.bnq (hset _) (Is.bnq y (Is.pure ⟨w,v⟩))))
        · have hnot:¬ (i=0∨j=0):=fun e=>by rw [hc.2 e] at h; cases h
          obtain ⟨i,rfl⟩:∃k,i=k+1:=⟨i - 1,by omega⟩
          obtain ⟨j,rfl⟩:∃k,j=k+1:=⟨j - 1,by omega⟩
          have U:=hbd i j (by omega) (by omega)
          have T:=hbd i (j+1) (by omega) (by omega)
          have S:=hbd (i+1) j (by omega) (by omega)
          have hcs:=tb (a:=a) (b:=b) (i:=i) (j:=j)
          have D:i<a.length:=by omega
          have B:j<b.length:=by omega
          have prev:=g.2 i (by omega)
          refine Is.bnq (x:=((ws a b i j:Nat):Int)) ?_ ?_
          · refine aO (fR (by omega)) (aO (fw D) (aO (fR (by omega)) (aO (fw B) ?_)))
            rw [qD]
            unfold ws
            by_cases hcc:a.getD i 0=b.getD j 0
            · rw [if_pos hcc,decide_eq_true hcc]; rfl
            · rw [if_neg hcc,decide_eq_false hcc]; rfl
          have chc:bV .i64 ((eK a b i j:Int)+(ws a b i j:Int))=some ((eK a b i j+ws a b i j:Nat):Int):=by rw [dv (by omega) (by omega)]; rfl
          refine Is.bnq hidx (Is.bnq (fR (by omega)) (Is.bnq (kI g.1 (by omega)) (Is.bnq (prev.idx (by omega) (by omega)) (Is.bnq (aX (by omega)) (Is.bnq (fR (by omega)) (Is.bnq (n.idx (by omega) (by omega)) (Is.bnq (aX (by omega)) (Is.bnq (prev.idx (by omega) (by omega)) (Is.bnq chc ?_)))))))))
          have K:nN ((eK a b i (j+1)+1:Nat):Int) ((eK a b (i+1) j+1:Nat):Int) (((eK a b i j+ws a b i j:Nat):Int))=(fy a b i j:Int):=by
            rw [rd]; rfl
          rw [K]
          have R:fy a b i j≤1002:=by unfold fy; omega
          obtain ⟨o,f,s⟩:=g.put (by omega) ((d.getD (i+1) []).set (j+1) (fy a b i j:Int))
          refine Is.bnq (hset _) (Is.bnq o ?_)
          refine Is.bnd (P:=fun c:Bool=>(c=true→∃i' j',i=i'+1∧j=j'+1∧jH a b i' j')∧(c=false→eK a b (i+1) (j+1)=fy a b i j)) ?_ fun c hc=>?_
          · cases i with
            | zero=>exact Is.df (by omega) (Is.pure ⟨fun h=>(by cases h),fun _=>vJ⟩)
            | succ i=>
              refine Is.dt (by omega) ?_
              cases j with
              | zero=>exact Is.df (by omega) (Is.pure ⟨fun h=>(by cases h),fun _=>sD⟩)
              | succ j=>
                refine Is.dt (by omega) (Is.bnq (fw D) (Is.bnq (eZ (by omega)) (Is.bnq (fw (by omega)) ?_)))
                rw [qD]
                refine Is.dcd (fun u=>?_) (fun u=>Is.pure ⟨fun h=>(by cases h),fun _=>qW fun h=>u h.1⟩)
                refine Is.bnq (eZ (by omega)) (Is.bnq (fw (by omega)) (Is.bnq (fw B) (Is.pure ?_)))
                rw [qD]
                exact ⟨fun m=>⟨i,j,rfl,rfl,u,of_decide_eq_true m⟩,fun m=>qW fun h=>of_decide_eq_false m h.2⟩
          · refine Is.cnd (fun h=>?_) (fun h=>Is.pure ⟨f,?_⟩)
            · obtain ⟨i',j',rfl,rfl,hx⟩:=hc.1 h
              have Q:=hbd i' j' (by omega) (by omega)
              have I:bq ((d.set (i'+1+1) ((d.getD (i'+1+1) []).set (j'+1+1) (fy a b (i'+1) (j'+1):Int)))) ((i'+1+1:Nat):Int)=some ((d.getD (i'+1+1) []).set (j'+1+1) (fy a b (i'+1) (j'+1):Int)):=by
                rw [kI f.1 (by omega),s]
              have hget:bq ((d.getD (i'+1+1) []).set (j'+1+1) (fy a b (i'+1) (j'+1):Int)) ((j'+1+1:Nat):Int)=some (fy a b (i'+1) (j'+1):Int):=by
                rw [bi (by rw [List.length_set]; exact hjl),List.getElem_set_self]
              obtain ⟨p,y,w,v⟩:=fin _ (((d.getD (i'+1+1) []).set (j'+1+1) (fy a b (i'+1) (j'+1):Int)).set (j'+1+1) ((min (fy a b (i'+1) (j'+1)) (eK a b i' j'+1):Nat):Int)) _ f (by rw [List.set_set]) (vI hx)
              refine Is.bnq I (Is.bnq hget (Is.bnq (eZ (by omega)) (Is.bnq (kI f.1 (by omega)) (Is.bnq (eZ (by omega)) (Is.bnq ((f.2 i' (by omega)).idx (by omega) (by omega)) (Is.bnq (aX (by omega)) ?_))))))
              rw [ld]
              exact Is.bnq (cY (by rw [List.length_set]; exact hjl)) (Is.bnq y (Is.pure ⟨w,v⟩))
            · show oT a b (i+1) (j+1+1) _
              rw [s]
              have:=(n.put (k:=j+1) (by omega)).2
              rw [hc.2 h] at this
              exact this
      · rintro ⟨d,_⟩ ⟨rfl,g,n⟩
        exact Is.df (by omega) (Is.stop ⟨g,n⟩)
    · rcases Nat.lt_or_eq_of_le (Nat.le_of_lt_succ hr) with hlt|rfl
      · exact o.2 r hlt
      · exact f
  · rintro ⟨l,_⟩ ⟨rfl,h⟩
    exact Is.df (by omega) (Is.stop h)
end Go.Proofs.YtlcdifnmkafcfaaGreat.Os
set_option linter.unusedVariables false
namespace Go.Proofs.YtlcdifnmkafcfaaGreat
open Go.Lx
open Classical
def uT (a b:Str):Nat:=eK a b a.length b.length
noncomputable def uW (x:T_LexSpec) (t:T_Token) (p:Bool) (k:Nat):Option bh:=match x.Defs[k]? with
  | none=>none
  | some d=>
    if t.Kind=-1 then (if cl x d t.Text=true then some ⟨k,x.Unclosed⟩ else none)
    else if p=true∧0<x.Misspelling∧d.Kind=3∧1≤uT t.Text d.Sample∧uT t.Text d.Sample≤2 then some ⟨k,x.Misspelling*(uT t.Text d.Sample:Int)⟩ else none
noncomputable def eg (x:T_LexSpec) (t:T_Token):Bool:=decide (0≤t.Kind∧∃d,x.Defs[t.Kind.toNat]?=some d∧d.Kind=1)
noncomputable def rH (x:T_LexSpec) (t:T_Token) (n:Nat):List bh:=(List.range n).filterMap (uW x t (eg x t))
theorem og (x:T_LexSpec) (t:T_Token) (n:Nat):rH x t (n+1)=rH x t n++(uW x t (eg x t) n).toList:=by
  unfold rH
  rw [List.range_succ,List.filterMap_append]
  cases h:uW x t (eg x t) n <;> simp [List.filterMap_cons,h]
theorem qf (x:T_LexSpec) (t:T_Token) (n:Nat):(rH x t n).length≤n:=by
  unfold rH
  exact Nat.le_trans (List.length_filterMap_le _ _) (by simp)
section
variable {x:T_LexSpec} (h:SpecOk x) {t:T_Token} (ht:t.Text.length≤20)
include h ht
theorem yQ {k:Nat} (hk:k<x.Defs.length):M.a8 t.Text x.Defs[k].Sample=some (uT t.Text x.Defs[k].Sample:Int)∧M.e1 t.Text x.Defs[k].Sample=some (uT t.Text x.Defs[k].Sample:Int):=by
  have:=(h.few _ (List.getElem_mem hk)).2.2.1
  exact ⟨Go.Proofs.YtlcdifnmkafcfaaGreat.Os.dist_ok (a:=t.Text) (b:=x.Defs[k].Sample) (by omega) (by omega),Go.Proofs.YtlcdifnmkafcfaaGreat.Os.refDist_ok (a:=t.Text) (b:=x.Defs[k].Sample) (by omega) (by omega)⟩
theorem yd:M.a9 x t=some (rH x t x.Defs.length):=by
  have h6:=h.six
  have hm:=h.mis
  refine Is.eq ?_
  unfold M.a9
  refine Is.bnq (x:=eg x t) (Is.eq ?_) (Is.bnd (P:=fun r=>r=rH x t x.Defs.length) ?_ fun r hr=>Is.pure hr)
  · unfold eg
    refine Is.dcd (fun g=>Is.dcd (fun j=>?_) (fun j=>Is.pure ?_)) (fun g=>Is.pure ?_)
    · obtain ⟨n,hn⟩:=Int.eq_ofNat_of_zero_le g
      rw [hn]
      have hlt:n<x.Defs.length:=by omega
      refine Is.bnq (bi hlt) (Is.pure ?_)
      rw [Bool.eq_iff_iff,beq_iff_eq,decide_eq_true_eq]
      show _↔0≤(n:Int)∧∃d,x.Defs[n]?=some d∧d.Kind=1
      rw [List.getElem?_eq_getElem hlt]
      exact ⟨fun e=>⟨by omega,_,rfl,e⟩,fun ⟨_,d,e,a⟩=>by cases e; exact a⟩
    · refine (decide_eq_false ?_).symm
      rintro ⟨_,d,e,_⟩
      have:=(List.getElem?_eq_some_iff.1 e).1
      omega
    · exact (decide_eq_false fun e=>g e.1).symm
  · refine Is.upto (fun i (st:List bh×Int)=>st.2=(i:Int)∧st.1=rH x t i) x.Defs.length (by omega) ⟨rfl,rfl⟩ ?_ ?_
    · rintro i ⟨l,_⟩ hi ⟨rfl,e⟩
      obtain rfl:l=_:=e
      have hl:=qf x t i
      have hd:=List.getElem_mem hi
      refine Is.dt (by omega) (Is.bnd (P:=fun l=>l=rH x t (i+1)) ?_ fun l hl=>Is.add1 (by omega) (Is.next ⟨rfl,hl⟩))
      rw [og]
      have hg:uW x t (eg x t) i=if t.Kind=-1 then (if cl x x.Defs[i] t.Text=true then some ⟨i,x.Unclosed⟩ else none)
          else if eg x t=true∧0<x.Misspelling∧x.Defs[i].Kind=3∧1≤uT t.Text x.Defs[i].Sample∧uT t.Text x.Defs[i].Sample≤2 then some ⟨i,x.Misspelling*(uT t.Text x.Defs[i].Sample:Int)⟩ else none:=by
        unfold uW
        rw [List.getElem?_eq_getElem hi]
      rw [hg]
      refine Is.bnq (bi hi) (Is.cnd (fun hk=>?_) (fun hk=>?_))
      · rw [if_pos (cH hk)]
        refine Is.bnq (rF h hd ht) (Is.cnd (fun e=>?_) (fun e=>Is.pure ?_))
        · rw [if_pos e]
          exact Is.app1 (by omega) (Is.pure rfl)
        · rw [if_neg (by rw [e]; simp)]; simp
      · rw [if_neg (em hk)]
        refine Is.bnd (P:=fun b:Bool=>b=true↔eg x t=true∧0<x.Misspelling∧x.Defs[i].Kind=3) ?_ fun b hb=>?_
        · refine Is.cnd (fun f=>Is.dcd (fun a=>Is.pure ⟨fun e=>⟨f,a,cH e⟩,fun e=>iI e.2.2⟩) (fun a=>Is.pure ⟨(fun e=>by cases e),fun e=>absurd e.2.1 a⟩)) (fun f=>Is.pure ⟨(fun e=>by cases e),fun e=>by rw [f] at e; cases e.1⟩)
        · refine Is.cnd (fun e=>?_) (fun e=>Is.pure ?_)
          · obtain ⟨o,m,k⟩:=hb.1 e
            refine Is.bnq (yQ h ht hi).1 ?_
            generalize uT t.Text x.Defs[i].Sample=n
            refine Is.bnd (P:=fun b:Bool=>b=true↔1≤n∧n≤2) ?_ fun c hc=>Is.cnd (fun e=>?_) (fun e=>Is.pure ?_)
            · refine Is.dcd (fun f=>Is.pure ⟨fun e=>⟨by omega,by have:=of_decide_eq_true e; omega⟩,fun e=>dS (by omega)⟩) (fun f=>Is.pure ⟨(fun e=>by cases e),fun e=>absurd e.1 (by omega)⟩)
            · obtain ⟨c1,c2⟩:=hc.1 e
              have hmul:x.Misspelling*(n:Int)≤1000*2:=Int.mul_le_mul hm.2 (by omega) (by omega) (by omega)
              have p:0≤x.Misspelling*(n:Int):=Int.mul_nonneg hm.1 (by omega)
              rw [if_pos ⟨o,m,k,c1,c2⟩]
              exact Is.bnq (dv (by omega) (by omega)) (Is.app1 (by omega) (Is.pure rfl))
            · rw [if_neg (fun a=>by rw [hc.2 a.2.2.2] at e; cases e)]; simp
          · rw [if_neg (fun a=>by rw [hb.2 ⟨a.1,a.2.1,a.2.2.1⟩] at e; cases e)]; simp
    · rintro ⟨l,_⟩ ⟨rfl,e⟩
      exact Is.df (by omega) (Is.stop e)
theorem ss:M.e2 x t=some (rH x t x.Defs.length):=by
  have h6:=h.six
  have hm:=h.mis
  refine Is.eq ?_
  unfold M.e2
  refine Is.bnd (P:=fun r=>r=rH x t x.Defs.length) ?_ fun r hr=>Is.pure hr
  refine Is.upto (fun i (st:List bh×Int)=>st.2=(i:Int)∧st.1=rH x t i) x.Defs.length (by omega) ⟨rfl,rfl⟩ ?_ ?_
  · rintro i ⟨l,_⟩ hi ⟨rfl,e⟩
    obtain rfl:l=_:=e
    have hl:=qf x t i
    have hd:=List.getElem_mem hi
    refine Is.dt (by omega) (Is.bnd (P:=fun l=>l=rH x t (i+1)) ?_ fun l hl=>Is.add1 (by omega) (Is.next ⟨rfl,hl⟩))
    rw [og]
    have hg:uW x t (eg x t) i=if t.Kind=-1 then (if cl x x.Defs[i] t.Text=true then some ⟨i,x.Unclosed⟩ else none)
        else if eg x t=true∧0<x.Misspelling∧x.Defs[i].Kind=3∧1≤uT t.Text x.Defs[i].Sample∧uT t.Text x.Defs[i].Sample≤2 then some ⟨i,x.Misspelling*(uT t.Text x.Defs[i].Sample:Int)⟩ else none:=by
      unfold uW
      rw [List.getElem?_eq_getElem hi]
    rw [hg]
    refine Is.cnd (fun hk=>?_) (fun hk=>?_)
    · rw [if_pos (cH hk)]
      refine Is.bnd (P:=fun j=>j=rH x t i++(if cl x x.Defs[i] t.Text=true then some ⟨i,x.Unclosed⟩ else none).toList) ?_ fun j k=>Is.pure k
      refine Is.bnq (no h hi ht) (Is.cnd (fun e=>?_) (fun e=>Is.pure ?_))
      · rw [if_pos e]
        exact Is.app1 (by omega) (Is.pure rfl)
      · rw [if_neg (by rw [e]; simp)]; simp
    · rw [if_neg (em hk)]
      refine Is.bnd (P:=fun b:Bool=>b=false↔eg x t=true∧0<x.Misspelling∧x.Defs[i].Kind=3) ?_ fun b hb=>?_
      · unfold eg
        refine Is.dcd (fun g=>Is.pure ⟨(fun e=>by cases e),fun e=>absurd (of_decide_eq_true e.1).1 (by omega)⟩) (fun g=>Is.dcd (fun a=>Is.pure ⟨(fun e=>by cases e),fun e=>?_⟩) (fun a=>Is.dcd (fun m=>Is.pure ⟨(fun e=>by cases e),fun e=>by have:=e.2.1; omega⟩) (fun m=>?_)))
        · obtain ⟨_,d,f,_⟩:=of_decide_eq_true e.1
          have:=(List.getElem?_eq_some_iff.1 f).1
          omega
        · obtain ⟨n,hn⟩:=Int.eq_ofNat_of_zero_le (show 0≤t.Kind by omega)
          rw [hn]
          have hlt:n<x.Defs.length:=by omega
          have hpl:(0≤(n:Int)∧∃d,x.Defs[((n:Nat):Int).toNat]?=some d∧d.Kind=1)↔x.Defs[n].Kind=1:=by
            rw [Int.toNat_natCast,List.getElem?_eq_getElem hlt]
            exact ⟨fun ⟨_,d,e,a⟩=>by cases e; exact a,fun e=>⟨by omega,_,rfl,e⟩⟩
          refine Is.bnq (bi hlt) (Is.cnd (fun f=>Is.pure ⟨(fun e=>by cases e),fun e=>absurd (hpl.1 (of_decide_eq_true e.1)) (fN f)⟩) (fun f=>Is.bnq (bi hi) (Is.pure ?_)))
          exact ⟨fun e=>⟨decide_eq_true (hpl.2 (eO f)),by omega,eO e⟩,fun e=>mi e.2.2⟩
      · refine Is.cnd (fun e=>Is.pure ?_) (fun e=>?_)
        · rw [if_neg (fun a=>by rw [hb.2 ⟨a.1,a.2.1,a.2.2.1⟩] at e; cases e)]; simp
        · obtain ⟨q,p,o⟩:=hb.1 e
          refine Is.bnq (bi hi) (Is.bnq (yQ h ht hi).2 ?_)
          generalize uT t.Text x.Defs[i].Sample=n
          refine Is.bnd (P:=fun b:Bool=>b=true↔1≤n∧n≤2) ?_ fun c hc=>Is.cnd (fun e=>?_) (fun e=>Is.pure ?_)
          · refine Is.cnd (fun g=>Is.pure ⟨fun _=>by have:=cH g; omega,fun _=>rfl⟩) (fun g=>Is.pure ⟨fun e=>by have:=cH e; omega,fun e=>iI (by have:=em g; omega)⟩)
          · obtain ⟨c1,c2⟩:=hc.1 e
            have hmul:x.Misspelling*(n:Int)≤1000*2:=Int.mul_le_mul hm.2 (by omega) (by omega) (by omega)
            have s:0≤x.Misspelling*(n:Int):=Int.mul_nonneg hm.1 (by omega)
            rw [if_pos ⟨q,p,o,c1,c2⟩,Int.mul_comm (n:Int)]
            exact Is.bnq (dv (by omega) (by omega)) (Is.app1 (by omega) (Is.pure rfl))
          · rw [if_neg (fun a=>by rw [hc.2 a.2.2.2] at e; cases e)]; simp
  · rintro ⟨l,_⟩ ⟨rfl,e⟩
    exact Is.df (by omega) (Is.stop e)
omit h ht in
theorem ol {p:Bool} {k:Nat} {c:bh} (e:uW x t p k=some c):c.Kind=(k:Int)∧∃hk:k<x.Defs.length,(t.Kind=-1∧0<x.Unclosed∧c.Price=x.Unclosed)∨(p=true∧x.Defs[k].Kind=3∧∃n:Int,1≤n∧0<x.Misspelling∧c.Price=x.Misspelling*n):=by
  unfold uW at e
  split at e
  · cases e
  · rename_i d hd
    obtain ⟨hk,rfl⟩:=List.getElem?_eq_some_iff.1 hd
    split at e
    · rename_i b
      split at e
      · rename_i a
        cases e
        refine ⟨rfl,hk,.inl ⟨b,?_,rfl⟩⟩
        unfold cl at a
        simp only [Bool.and_eq_true,decide_eq_true_eq] at a
        exact a.1.1.1
      · cases e
    · split at e
      · rename_i a
        cases e
        exact ⟨rfl,hk,.inr ⟨a.1,a.2.2.1,_,by have:=a.2.2.2.1; omega,a.2.1,rfl⟩⟩
      · cases e
omit h ht in
theorem tX {n:Nat} {c:bh} (hc:c∈rH x t n):∃k,k<n∧uW x t (eg x t) k=some c:=by
  obtain ⟨k,hk,e⟩:=List.mem_filterMap.1 hc
  exact ⟨k,List.mem_range.1 hk,e⟩
omit h ht in
theorem tf:∀n,(rH x t n).Pairwise fun a b=>a.Kind<b.Kind:=by
  intro n
  induction n with
  | zero=>exact List.Pairwise.nil
  | succ n ih=>
    rw [og]
    refine List.pairwise_append.2 ⟨ih,?_,fun a ha b hb=>?_⟩
    · cases uW x t (eg x t) n <;> simp
    · obtain ⟨k,hk,e⟩:=tX ha
      have f:uW x t (eg x t) n=some b:=by
        cases d:uW x t (eg x t) n with
        | none=>rw [d] at hb; simp at hb
        | some c=>rw [d] at hb; simp at hb; rw [hb]
      rw [(ol e).1,(ol f).1]; omega
end
theorem qL {l:List bh} (hl:l.length≤1000000):M.g6 l l=some true:=by
  refine Is.eq ?_
  unfold M.g6
  refine Is.cf (mi rfl) (Is.bs (P:=fun _=>True) (Is.upto (fun i st=>st=(i:Int)) l.length (by omega) rfl ?_ ?_) (fun _ _=>Is.pure rfl))
  · rintro i _ hi rfl
    exact Is.dt (by omega) (Is.bnq (bi hi) (Is.bnq (bi hi) (Is.cf (by simp) (Is.add1 (by omega) (Is.next rfl)))))
  · rintro _ rfl
    exact Is.df (by omega) (Is.stop trivial)
theorem nT (a:T_LexSpec) (o:jf a) (x1:T_Token) (v:pa x1):M.c0 a x1=some true:=by
  refine Is.eq ?_
  unfold M.c0
  refine Is.bnd (P:=fun b:Bool=>b=false→SpecOk a∧x1.Text.length≤20) ?_ fun b hb=>Is.cnd (fun _=>Is.bnq ot (Is.pure rfl)) (fun e=>?_)
  · refine Is.bnd (vm o) fun b hb=>Is.cnd (fun _=>Is.pure fun h=>by cases h) (fun e=>Is.pure fun h=>⟨(hb (by simpa using e)).1,by have:=of_decide_eq_false h; omega⟩)
  obtain ⟨h,ht⟩:=hb e
  have h6:=h.six
  have hl:=qf a x1 a.Defs.length
  refine Is.bnq (yd h ht) ?_
  refine Is.bs (P:=fun _=>True) (Q:=fun b=>b=true) (Is.upto (fun i st=>st=(i:Int)) (rH a x1 a.Defs.length).length (by omega) rfl ?_ ?_) (fun _ _=>?_)
  · rintro i _ hi rfl
    refine Is.dt (by omega) (Is.bnq (x:=false) (Is.eq (Is.bnq (bi hi) ?_)) (Is.cf rfl (Is.add1 (by omega) (Is.next rfl))))
    obtain ⟨k,hk,u⟩:=tX (List.getElem_mem hi)
    obtain ⟨s,p,l⟩:=ol u
    refine Is.cf (bL ?_) (Is.df ?_ (Is.dcd (fun w=>?_) (fun _=>Is.pure rfl)))
    · rw [s]
      rcases l with ⟨g,_⟩|⟨g,c,_⟩
      · omega
      · intro r
        have hp:=of_decide_eq_true g
        rw [←r,Int.toNat_natCast,List.getElem?_eq_getElem p] at hp
        obtain ⟨_,d,q,y⟩:=hp
        cases q
        omega
    · rcases l with ⟨_,c,f⟩|⟨_,_,n,c,f,m⟩
      · rw [f]; omega
      · rw [m]
        have:=Int.mul_le_mul (show (1:Int)≤a.Misspelling by omega) c (by omega) (by omega)
        omega
    · obtain ⟨j,rfl⟩:∃j,i=j+1:=⟨i - 1,by omega⟩
      have hs:=List.pairwise_iff_getElem.1 (tf (x:=a) (t:=x1) a.Defs.length) j (j+1) (by omega) hi (by omega)
      refine Is.bnq (x:=(j:Int)) (by rw [dv (by omega) (by omega)]; congr 1; omega) (Is.bnq (bi (show j<_ by omega)) (Is.pure (dT (by omega))))
  · rintro _ rfl
    exact Is.df (by omega) (Is.stop trivial)
  · exact Is.bnq (x:=true) (Is.eq (Is.bnq ot (Is.ct rfl (Is.bnq (ss h ht) (Is.bnq (qL (by omega)) (Is.pure rfl)))))) (Is.pure rfl)
end Go.Proofs.YtlcdifnmkafcfaaGreat
