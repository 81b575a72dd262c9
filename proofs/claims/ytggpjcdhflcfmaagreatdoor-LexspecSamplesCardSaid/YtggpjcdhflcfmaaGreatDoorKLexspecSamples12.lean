/- Part 12. -/
import Derived.Test.YtggpjcdhflcfmaaGreatDoorKLexspecSamples11
namespace Go.Proofs.YtggpjcdhflcfmaaGreatDoor
open Go.Lx
theorem T_Regex.ind {P:T_Regex→Prop} (h:∀k s l,(∀y∈l,P y)→P ⟨k,s,l⟩):∀x,P x
 | ⟨k,s,l⟩=>h k s l fun y _=>T_Regex.ind h y
theorem jC {k s l} (h:bP ⟨k,s,l⟩):∀y∈l,bP y:=by cases h; assumption
theorem vy {k s l} (h:bP ⟨k,s,l⟩):l.length≤maxLen:=by cases h; assumption
theorem yO {k s l} (h:bP ⟨k,s,l⟩):∀x∈s.1,zY .u64 x:=by cases h; assumption
def iN (k:Int) (s:aT 4) (n:Nat):Bool:=
 bif k == 1 || k == 2 then n == 0 && s == aT.zero 4
 else bif k == 3 then n == 0 && s != aT.zero 4
 else bif k == 4 || k == 5 then decide (2≤n) && s == aT.zero 4
 else bif k == 6 then n == 1 && s == aT.zero 4
 else false
def V:Nat→T_Regex→Bool
 | 0,_=>false
 | d+1,x=>iN x.Kind x.Set x.Kids.length && x.Kids.all (V d)
theorem qA {α ρ:Type} {l:List α} {f:α→Option Bool} {p:α→Bool} {X Y:ρ} (hf:∀y∈l,f y=some (p y)) (hl:l.length≤9223372036854775807) :
 bc (fun (i:Int)=>bif decide (i<(l.length:Int)) then (bD l i).bind fun e=>(f e).bind fun r=>bif (!r) then some (.stop X) else (cd .i64 (i+1)).bind fun t=>some (.next t)
  else some (.stop Y)) ba (0:Int)=some (if l.all p then Y else X):=by
 refine Is.eq ?_;refine Is.upto (fun i s=>s=(i:Int)∧(l.take i).all p=true) l.length hl ⟨rfl,by simp⟩ ?_ ?_
 ·rintro i _ a ⟨rfl,b⟩;refine Is.dt (by omega) (Is.bnq (aZ a) (Is.bnq (hf _ (Ii a)) ?_));refine Is.cnd (fun h=>?_) (fun h=>?_)
  ·have h:p l[i]=false:=by simpa using h
   refine Is.stop ?_;rw [if_neg];intro c;have:=List.all_eq_true.1 c _ (Ii a);rw [h] at this; exact absurd this (by simp)
  ·have h:p l[i]=true:=by simpa using h
   refine Is.bnq (aK (by omega)) (Is.next ⟨rfl,?_⟩);rw [List.take_add_one,List.all_append,b,Ie a];simp [h]
 ·rintro _ ⟨rfl,b⟩;refine Is.df (by omega) (Is.stop ?_);rw [Ij] at b;rw [if_pos b]
theorem zd {α ρ:Type} {l:List α} {f:α→Option Bool} {p:α→Bool} {X Y:ρ} (hf:∀y∈l,f y=some (p y)) (hl:l.length≤9223372036854775807) :
 bc (fun (i:Int)=>bif decide (i<(l.length:Int)) then (bD l i).bind fun e=>(f e).bind fun r=>bif r then some (.stop X) else (cd .i64 (i+1)).bind fun t=>some (.next t)
  else some (.stop Y)) ba (0:Int)=some (if l.any p then X else Y):=by
 refine Is.eq ?_;refine Is.upto (fun i s=>s=(i:Int)∧(l.take i).any p=false) l.length hl ⟨rfl,by simp⟩ ?_ ?_
 ·rintro i _ a ⟨rfl,b⟩;refine Is.dt (by omega) (Is.bnq (aZ a) (Is.bnq (hf _ (Ii a)) ?_));refine Is.cnd (fun h=>?_) (fun h=>?_)
  ·refine Is.stop ?_;rw [if_pos];exact List.any_eq_true.2 ⟨_,Ii a,h⟩
  ·refine Is.bnq (aK (by omega)) (Is.next ⟨rfl,?_⟩);rw [List.take_add_one,List.any_append,b,Ie a];simp [h]
 ·rintro _ ⟨rfl,b⟩;refine Is.df (by omega) (Is.stop ?_);rw [Ij] at b;rw [if_neg (by simp [b])]
theorem yt:∀(d a:Nat) (x:T_Regex),bP x→d≤30→d<a→M.e3 a x d=some (V d x):=by
 intro d;induction d with
 | zero=>
  intro a x _ _ hf;obtain ⟨a,rfl⟩:∃f,a=f+1:=⟨a - 1,by omega⟩;simp [M.e3,V]
 | succ d ih=>
  intro a x ok hd hf;obtain ⟨a,rfl⟩:∃f,a=f+1:=⟨a - 1,by omega⟩;obtain ⟨k,s,l⟩:=x;have hl:l.length≤9223372036854775807:=Nat.le_trans (vy ok) (by decide);have o:cd .i64 ((d+1:Nat) - 1:Int)=some (d:Int):=by rw [dT (by omega) (by omega)]; congr 1; omega
  have p:(((d+1:Nat):Int) == 0)=false:=cv (by omega);have g:=qA (ρ:=cN Unit Bool) (f:=fun e=>M.e3 a e d) (X:=.stop false) (Y:=.next ()) (fun y hy=>ih a y (jC ok y hy) (by omega) (by omega)) hl;have hb:(s != aT.zero 4)=!(s == aT.zero 4):=rfl;unfold M.e3 V iN;simp only [o,p,Ig,cond_false,hb];rw [g];have b:l.length=0→l.all (V d)=true:=by intro h; rw [IZ h]; rfl
  generalize l.all (V d)=A at b ⊢;generalize (s == aT.zero 4)=z;generalize l.length=n at b ⊢;have gP:k=1∨k=2∨k=3∨k=4∨k=5∨k=6∨(k≠1∧k≠2∧k≠3∧k≠4∧k≠5∧k≠6):=by omega
  clear g hl ok ih hb;have D:∀m:Nat,decide ((m:Int)+1+1<2)=false:=fun m=>eI (by omega)
  have B:∀m:Nat,decide ((m:Int)+1+1≤0)=false:=fun m=>eI (by omega)
  have w:∀m:Nat,((m:Int)+1+1 == 0)=false:=fun m=>cv (by omega)
  have v:∀m:Nat,((m:Int)+1+1 == 1)=false:=fun m=>cv (by omega)
  have v4:∀m:Nat,((m:Int)+1+1 != 1)=true:=fun m=>mf (by omega)
  have u:∀m:Nat,decide ((0:Int)<(m:Int)+1+1)=true:=fun m=>ed (by omega)
  have t:∀m:Nat,decide ((1:Int)<(m:Int)+1+1)=true:=fun m=>ed (by omega)
  have r:∀m:Nat,decide ((m:Int)+1+1<0)=false:=fun m=>eI (by omega)
  have q:∀m:Nat,decide ((m:Int)+1+1<1)=false:=fun m=>eI (by omega)
  rcases gP with rfl|rfl|rfl|rfl|rfl|rfl|⟨j,i,c,n4,n5,n6⟩ <;> rcases n with _|_|n <;> cases z <;> cases A <;> first|exact absurd (b rfl) (by decide)|(simp [bn, *]; done)|(have L:=cv j; have K:=cv i; have J:=cv c; have I:=cv n4; have H:=cv n5; have G:=cv n6; have F:=mf c; simp [bn, *])
theorem tX:∀(d a:Nat) (x:T_Regex),bP x→d≤30→d<a→M.e6 a x ((30 - d:Nat):Int)=some (V d x):=by
 intro d;induction d with
 | zero=>
  intro a x _ _ hf;obtain ⟨a,rfl⟩:∃f,a=f+1:=⟨a - 1,by omega⟩;simp [M.e6,V]
 | succ d ih=>
  intro a x ok hd hf;obtain ⟨a,rfl⟩:∃f,a=f+1:=⟨a - 1,by omega⟩;obtain ⟨k,s,l⟩:=x;have hl:l.length≤9223372036854775807:=Nat.le_trans (vy ok) (by decide);have o:cd .i64 (((30 - (d+1):Nat):Int)+1)=some ((30 - d:Nat):Int):=by rw [dT (by omega) (by omega)]; congr 1; omega
  have p:decide (30≤((30 - (d+1):Nat):Int))=false:=decide_eq_false (by omega);have g:=qA (ρ:=cN Unit Bool) (f:=fun e=>M.e6 a e ((30 - d:Nat):Int)) (X:=.stop false) (Y:=.next ()) (fun y hy=>ih a y (jC ok y hy) (by omega) (by omega)) hl;have hb:(s != aT.zero 4)=!(s == aT.zero 4):=rfl;unfold M.e6 V iN;simp only [o,p,Ig,cond_false,hb];rw [g];have b:l.length=0→l.all (V d)=true:=by intro h; rw [IZ h]; rfl
  generalize l.all (V d)=A at b ⊢;generalize (s == aT.zero 4)=z;generalize l.length=n at b ⊢;have gP:k=1∨k=2∨k=3∨k=4∨k=5∨k=6∨(k≠1∧k≠2∧k≠3∧k≠4∧k≠5∧k≠6):=by omega
  clear g hl ok ih hb;have D:∀m:Nat,decide ((m:Int)+1+1<2)=false:=fun m=>eI (by omega)
  have B:∀m:Nat,decide ((m:Int)+1+1≤0)=false:=fun m=>eI (by omega)
  have w:∀m:Nat,((m:Int)+1+1 == 0)=false:=fun m=>cv (by omega)
  have v:∀m:Nat,((m:Int)+1+1 == 1)=false:=fun m=>cv (by omega)
  have v4:∀m:Nat,((m:Int)+1+1 != 1)=true:=fun m=>mf (by omega)
  have u:∀m:Nat,decide ((0:Int)<(m:Int)+1+1)=true:=fun m=>ed (by omega)
  have t:∀m:Nat,decide ((1:Int)<(m:Int)+1+1)=true:=fun m=>ed (by omega)
  have r:∀m:Nat,decide ((m:Int)+1+1<0)=false:=fun m=>eI (by omega)
  have q:∀m:Nat,decide ((m:Int)+1+1<1)=false:=fun m=>eI (by omega)
  rcases gP with rfl|rfl|rfl|rfl|rfl|rfl|⟨j,i,c,n4,n5,n6⟩ <;> rcases n with _|_|n <;> cases z <;> cases A <;> first|exact absurd (b rfl) (by decide)|(simp [bn, *]; done)|(have L:=cv j; have K:=cv i; have J:=cv c; have I:=cv n4; have H:=cv n5; have G:=cv n6; have F:=mf c; simp [bn, *])
theorem qZ {x:T_Regex} (ok:bP x):M.g9 x=some (V 30 x):=by
 unfold M.g9;rw [show M.e3 ba x 30=some (V 30 x) from yt 30 ba x ok (by omega) (by unfold ba; omega)];rfl
theorem ku {x:T_Regex} (ok:bP x):M.h1 x=some (V 30 x):=by
 unfold M.h1;rw [show M.e6 ba x 0=some (V 30 x) from tX 30 ba x ok (by omega) (by unfold ba; omega)];rfl
mutual
def parts:T_Regex→Nat
 | ⟨_,_,l⟩=>bF l+1
def bF:List T_Regex→Nat
 | []=>0
 | y::l=>parts y+bF l
end
mutual
def height:T_Regex→Nat
 | ⟨_,_,l⟩=>cb l+1
def cb:List T_Regex→Nat
 | []=>0
 | y::l=>max (height y) (cb l)
end
theorem iB (l m:List T_Regex):bF (l++m)=bF l+bF m:=by
 induction l with
 | nil=>simp [bF]
 | cons y l ih=>simp only [Iw,bF,ih]; omega
theorem kR (l m:List T_Regex):cb (l++m)=max (cb l) (cb m):=by
 induction l with
 | nil=>simp [cb]
 | cons y l ih=>simp only [Iw,cb,ih]; omega
theorem eW {l:List T_Regex} {y:T_Regex} (h:y∈l):parts y≤bF l:=by
 induction l with
 | nil=>cases h
 | cons z l ih=>
  simp only [bF];rcases IJ.1 h with rfl|h
  ·omega
  ·have:=ih h; omega
theorem vO {l:List T_Regex} {y:T_Regex} (h:y∈l):height y≤cb l:=by
 induction l with
 | nil=>cases h
 | cons z l ih=>
  simp only [cb];rcases IJ.1 h with rfl|h
  ·omega
  ·have:=ih h; omega
theorem xI (x:T_Regex):1≤parts x:=by obtain ⟨k,s,l⟩:=x; simp [parts]
theorem fy (l:List T_Regex):l.length≤bF l:=by
 induction l with
 | nil=>simp
 | cons y l ih=>simp only [IG,bF]; have:=xI y; omega
end Go.Proofs.YtggpjcdhflcfmaaGreatDoor
namespace Go.Proofs.YtggpjcdhflcfmaaGreatDoor
open Go.Lx
open Classical
def oE:T_Regex:=⟨1,aT.zero 4,[]⟩
def sP:T_Regex:=⟨2,aT.zero 4,[]⟩
mutual
def nb:T_Regex→Bool
 | ⟨k,_,l⟩=>bif k == 2 || k == 6 then true else bif k == 4 then Dq l else bif k == 5 then Dp l else false
def Dq:List T_Regex→Bool
 | []=>true
 | y::l=>nb y && Dq l
def Dp:List T_Regex→Bool
 | []=>false
 | y::l=>nb y || Dp l
end
def GH (r:T_Regex):List T_Regex:=(bif r.Kind == 5 then r.Kids else [r]).filter (·.Kind != 1)
noncomputable def GI (ks:List T_Regex) (k:T_Regex):List T_Regex:=if k∈ks then ks else ks++[k]
noncomputable def Ha (l:List T_Regex):List T_Regex:=(l.flatMap GH).foldl GI []
def wr (k:Int) (e:T_Regex):List T_Regex→T_Regex
 | []=>e
 | [y]=>y
 | y::z::l=>⟨k,aT.zero 4,y::z::l⟩
noncomputable def un (l:List T_Regex):T_Regex:=wr 5 oE (Ha l)
def ne (l:List T_Regex):List T_Regex:=l.filter (·.Kind != 2)
def ct (l:List T_Regex):T_Regex:=match l.find? (·.Kind == 1) with
 | some e=>e
 | none=>wr 4 sP (ne l)
mutual
noncomputable def dr:T_Regex→Nat→T_Regex
 | ⟨k,s,l⟩,b=>bif k == 3 then (bif mem s b then sP else oE) else bif k == 4 then un (GT l b) else bif k == 5 then un (Fv l b)
  else bif k == 6 then ct [(Fv l b).headD oE,⟨k,s,l⟩] else oE
noncomputable def GT:List T_Regex→Nat→List T_Regex
 | [],_=>[]
 | y::l,b=>ct (dr y b::l)::(bif nb y then GT l b else [])
noncomputable def Fv:List T_Regex→Nat→List T_Regex
 | [],_=>[]
 | y::l,b=>dr y b::Fv l b
end
inductive St (P:List Nat→Prop):List Nat→Prop where
  | nil:St P []
  | cons {u v:List Nat}:P u→St P v→St P (u++v)
mutual
def L:T_Regex→List Nat→Prop
 | ⟨k,s,l⟩=>fun w=>(k=2∧w=[])∨(k=3∧∃b,w=[b]∧mem s b=true)∨(k=4∧LC l w)∨(k=5∧LU l w)∨(k=6∧St (LH l) w)
def LC:List T_Regex→List Nat→Prop
 | []=>fun w=>w=[]
 | y::l=>fun w=>∃u v,w=u++v∧L y u∧LC l v
def LU:List T_Regex→List Nat→Prop
 | []=>fun _=>False
 | y::l=>fun w=>L y w∨LU l w
def LH:List T_Regex→List Nat→Prop
 | []=>fun _=>False
 | y::_=>fun w=>L y w
end
theorem GN {s l w}:L ⟨2,s,l⟩ w↔w=[]:=by simp [L]
theorem Fh {s l w}:L ⟨3,s,l⟩ w↔∃b,w=[b]∧mem s b=true:=by simp [L]
theorem GM {s l w}:L ⟨4,s,l⟩ w↔LC l w:=by simp [L]
theorem GV {s l w}:L ⟨5,s,l⟩ w↔LU l w:=by simp [L]
theorem Fg {s l w}:L ⟨6,s,l⟩ w↔St (LH l) w:=by simp [L]
theorem GO {k s l w} (h2:k≠2) (h3:k≠3) (h4:k≠4) (h5:k≠5) (h6:k≠6):¬ L ⟨k,s,l⟩ w:=by simp [L,h2,h3,h4,h5,h6]
theorem Dl {l:List T_Regex} {w:List Nat}:LU l w↔∃y∈l,L y w:=by
 induction l with
 | nil=>simp [LU]
 | cons y l ih=>simp [LU,ih]
theorem yT (l:List T_Regex):Dq l=l.all nb:=by
 induction l with
 | nil=>rfl
 | cons y l ih=>simp [Dq,ih]
theorem vC (l:List T_Regex):Dp l=l.any nb:=by
 induction l with
 | nil=>rfl
 | cons y l ih=>simp [Dp,ih]
theorem Dm {l:List T_Regex}:LC l []↔∀y∈l,L y []:=by
 induction l with
 | nil=>simp [LC]
 | cons y l ih=>
  simp only [LC,List.nil_eq,List.append_eq_nil_iff,IJ,forall_eq_or_imp];rw [←ih];exact ⟨fun ⟨u,v,⟨e1,e2⟩,h1,h2⟩=>by subst e1; subst e2; exact ⟨h1,h2⟩,fun ⟨h1,h2⟩=>⟨[],[],⟨rfl,rfl⟩,h1,h2⟩⟩
theorem gP (k:Int):k=2∨k=3∨k=4∨k=5∨k=6∨(k≠2∧k≠3∧k≠4∧k≠5∧k≠6):=by omega
theorem CH:∀x,nb x=true↔L x []:=by
 refine T_Regex.ind fun k s l ih=>?_
 rcases gP k with rfl|rfl|rfl|rfl|rfl|⟨c,d,b,a,h6⟩
 ·simp [nb,GN]
 ·simp [nb,Fh]
 ·rw [GM,Dm];show Dq l=true↔_;rw [yT,List.all_eq_true];exact ⟨fun h y hy=>(ih y hy).1 (h y hy),fun h y hy=>(ih y hy).2 (h y hy)⟩
 ·rw [GV,Dl];show Dp l=true↔_;rw [vC,List.any_eq_true];exact ⟨fun ⟨y,hy,h⟩=>⟨y,hy,(ih y hy).1 h⟩,fun ⟨y,hy,h⟩=>⟨y,hy,(ih y hy).2 h⟩⟩
 ·rw [Fg];exact ⟨fun _=>.nil,fun _=>rfl⟩
 ·have:=@GO k s l [] c d b a h6;simp [nb,cv c,cv b,cv a,cv h6,this]
theorem kW {b:Nat} {w u v:List Nat}:b::w=u++v↔(u=[]∧v=b::w)∨∃u',u=b::u'∧w=u'++v:=by
 cases u with
 | nil=>simp [eq_comm]
 | cons c u=>
  simp only [Iw,List.cons.injEq,reduceCtorEq,false_and,false_or];exact ⟨fun ⟨h1,h2⟩=>⟨u,⟨h1.symm,rfl⟩,h2⟩,fun ⟨u',⟨h1,h2⟩,h3⟩=>⟨h1.symm,h2 ▸ h3⟩⟩
theorem xh {P:List Nat→Prop} {b:Nat} {w:List Nat}:St P (b::w)↔∃u v,w=u++v∧P (b::u)∧St P v:=by
 constructor
 ·intro h;generalize hx:b::w=x at h;induction h with
  | nil=>cases hx
  | @cons u v hu hv ih=>
   rcases kW.1 hx with ⟨rfl,rfl⟩|⟨u',rfl,rfl⟩
   ·exact ih rfl
   ·exact ⟨u',v,rfl,hu,hv⟩
 ·rintro ⟨u,v,rfl,hu,hv⟩;exact .cons (u:=b::u) hu hv
noncomputable def Fu (x:T_Regex) (w:List Nat):T_Regex:=w.foldl dr x
end Go.Proofs.YtggpjcdhflcfmaaGreatDoor
namespace Go.Proofs.YtggpjcdhflcfmaaGreatDoor
open Go.Lx
structure Pt where
  nl:Bool
  fi:List Nat
  la:List Nat
structure Bs where
  S:List (aT 4)
  P:List (Nat×Nat)
def dv (a b:List Nat):List (Nat×Nat):=a.flatMap fun p=>b.map fun q=>(p,q)
theorem eX {a b:List Nat} {p q:Nat}:(p,q)∈dv a b↔p∈a∧q∈b:=by
 unfold dv;rw [List.mem_flatMap];constructor
 ·rintro ⟨x,hx,h⟩;obtain ⟨y,hy,e⟩:=IK.1 h;cases e
  exact ⟨hx,hy⟩
 ·rintro ⟨h1,h2⟩;exact ⟨p,h1,IK.2 ⟨q,h2,rfl⟩⟩
theorem ly (a b:List Nat):(dv a b).length=a.length*b.length:=by
 unfold dv;induction a with
 | nil=>simp
 | cons x a ih=>rw [List.flatMap_cons,Ik,ih,Iy,IG,Nat.succ_mul]; omega
def eJ (x y:Pt):Pt:=⟨x.nl && y.nl,bif x.nl then x.fi++y.fi else x.fi,bif y.nl then x.la++y.la else y.la⟩
def iI (x y:Pt):Pt:=⟨x.nl || y.nl,x.fi++y.fi,x.la++y.la⟩
mutual
def bd:T_Regex→Bs→Pt×Bs
 | ⟨k,s,l⟩,b=>bif k == 3 then (⟨false,[b.S.length+1],[b.S.length+1]⟩,⟨b.S++[s],b.P⟩) else bif k == 4 then fH l ⟨true,[],[]⟩ b else bif k == 5 then gj l ⟨false,[],[]⟩ b else bif k == 6 then Ai l b else (⟨k == 2,[],[]⟩,b)
def fH:List T_Regex→Pt→Bs→Pt×Bs
 | [],x,b=>(x,b)
 | y::l,x,b=>fH l (eJ x (bd y b).1) ⟨(bd y b).2.S,(bd y b).2.P++dv x.la (bd y b).1.fi⟩
def gj:List T_Regex→Pt→Bs→Pt×Bs
 | [],x,b=>(x,b)
 | y::l,x,b=>gj l (iI x (bd y b).1) (bd y b).2
def Ai:List T_Regex→Bs→Pt×Bs
 | [],b=>(⟨true,[],[]⟩,b)
 | y::_,b=>(⟨true,(bd y b).1.fi,(bd y b).1.la⟩,⟨(bd y b).2.S,(bd y b).2.P++dv (bd y b).1.la (bd y b).1.fi⟩)
end
def lQ (M E:Nat→Nat→Prop):Nat→List Nat→Nat→Prop
 | p,[],q=>p=q
 | p,b::w,q=>∃r,E p r∧M r b∧lQ M E r w q
section
variable {M E F:Nat→Nat→Prop}
theorem gC {R:Nat→Prop} (h:∀p r,R p→(E p r↔F p r)) (c:∀p r,R p→E p r→R r):∀(w:List Nat) {p q:Nat},R p→(lQ M E p w q↔lQ M F p w q)
 | [],p,q,_=>Iff.rfl
 | b::w,p,q,hp=>by
  simp only [lQ];constructor
  ·rintro ⟨r,a,e,d⟩;exact ⟨r,(h p r hp).1 a,e,(gC h c w (c p r hp a)).1 d⟩
  ·rintro ⟨r,a,e,d⟩;have a:=(h p r hp).2 a;exact ⟨r,a,e,(gC h c w (c p r hp a)).2 d⟩
theorem ni (h:∀p r,E p r→F p r):∀(w:List Nat) {p q:Nat},lQ M E p w q→lQ M F p w q
 | [],_,_,e=>e
 | _::w,_,_,⟨r,h1,h2,h3⟩=>⟨r,h _ _ h1,h2,ni h w h3⟩
theorem kF {R:Nat→Prop} (hc:∀p r,R p→E p r→R r):∀(w:List Nat) {p q:Nat},R p→lQ M E p w q→R q
 | [],_,_,hp,e=>by cases e; exact hp
 | _::w,p,_,hp,⟨r,h1,_,h3⟩=>kF hc w (hc p r hp h1) h3
theorem sQ:∀(u:List Nat) {v:List Nat} {b p l f q:Nat},lQ M E p u l→E l f→M f b→lQ M E f v q→lQ M E p (u++b::v) q
 | [],_,_,_,_,_,_,e,h1,h2,h3=>by cases e; exact ⟨_,h1,h2,h3⟩
 | _::u,_,_,_,_,_,_,⟨r,a1,a2,a3⟩,h1,h2,h3=>⟨r,a1,a2,sQ u a3 h1 h2 h3⟩
structure oJ (M E:Nat→Nat→Prop) (x:Pt) (G:List Nat→Prop):Prop where
  nl:x.nl=true↔G []
  ac:∀b w,G (b::w)↔∃p∈x.fi,M p b∧∃q∈x.la,lQ M E p w q
structure lP (E:Nat→Nat→Prop) (x:Pt) (a c:Nat):Prop where
  le:a≤c
  fi:∀p∈x.fi,a<p∧p≤c
  la:∀p∈x.la,a<p∧p≤c
  e:∀p q,E p q→(a<p∧p≤c)∧(a<q∧q≤c)
theorem oJ.congr {x:Pt} {G G':List Nat→Prop} (h:oJ M E x G) (e:∀w,G w↔G' w):oJ M E x G':=⟨h.nl.trans (e _),fun b w=>(e _).symm.trans (h.ac b w)⟩
theorem oJ.edges {x:Pt} {G:List Nat→Prop} (h:oJ M E x G) (e:∀p q,E p q↔F p q):oJ M F x G:=by
 have:E=F:=funext fun p=>funext fun q=>propext (e p q)
 rw [←this]; exact h
theorem lP.edges {x:Pt} {a c:Nat} (h:lP E x a c) (e:∀p q,E p q↔F p q):lP F x a c:=by
 have:E=F:=funext fun p=>funext fun q=>propext (e p q)
 rw [←this]; exact h
variable {x y:Pt} {a m c:Nat} {Gx Gy:List Nat→Prop}
def yh (E F:Nat→Nat→Prop) (x y:Pt) (p q:Nat):Prop:=(E p q∨F p q)∨(p∈x.la∧q∈y.fi)
theorem ls (hx:lP E x a m) (hy:lP F y m c) {w:List Nat} {p q:Nat} (hp:m<p∧p≤c):lQ M (yh E F x y) p w q↔lQ M F p w q:=by
 refine gC (R:=fun p=>m<p∧p≤c) (fun p r hp=>?_) (fun p r hp h=>?_) w hp
 ·constructor
  ·rintro ((h|h)|h)
   ·have:=(hx.e _ _ h).1; omega
   ·exact h
   ·have:=hx.la _ h.1; omega
  ·exact fun h=>.inl (.inr h)
 ·rcases h with (h|h)|h
  ·have:=(hx.e _ _ h).1; omega
  ·exact (hy.e _ _ h).2
  ·have:=hx.la _ h.1; omega
theorem kE (hx:lP E x a m) (hy:lP F y m c):∀(w:List Nat) {p q:Nat},(a<p∧p≤m)→(lQ M (yh E F x y) p w q↔((a<q∧q≤m)∧lQ M E p w q)∨∃u b v l f,w=u++b::v∧l∈x.la∧lQ M E p u l∧f∈y.fi∧M f b∧lQ M F f v q)
 | [],p,q,hp=>by
  constructor
  ·intro e;cases e
   exact .inl ⟨hp,rfl⟩
  ·rintro (⟨_,h⟩|⟨u,b,v,l,f,h,_⟩)
   ·exact h
   ·cases u <;> cases h
 | b::w,p,q,hp=>by
  constructor
  ·rintro ⟨r,(h|h)|h,g,d⟩
   ·rcases (kE hx hy w (hx.e _ _ h).2).1 d with ⟨hq,d⟩|⟨u,n,v,l,f,rfl,j,i,h6⟩
    ·exact .inl ⟨hq,r,h,g,d⟩
    ·exact .inr ⟨b::u,n,v,l,f,rfl,j,⟨r,h,g,i⟩,h6⟩
   ·have:=(hy.e _ _ h).1; omega
   ·exact .inr ⟨[],b,w,p,r,rfl,h.1,rfl,h.2,g,(ls hx hy (hy.fi _ h.2)).1 d⟩
  ·rintro (⟨hq,r,k,g,d⟩|⟨u,n,v,l,f,e,j,i,h6,s,o⟩)
   ·exact ⟨r,.inl (.inl k),g,(kE hx hy w (hx.e _ _ k).2).2 (.inl ⟨hq,d⟩)⟩
   ·rw [e];exact sQ u (ni (fun p r h=>.inl (.inl h)) u i) (.inr ⟨j,h6⟩) s ((ls hx hy (hy.fi _ h6)).2 o)
theorem lP.cat (hx:lP E x a m) (hy:lP F y m c):lP (yh E F x y) (eJ x y) a c:=by
 have d:=hx.le;have b:=hy.le;refine ⟨by omega,fun p hp=>?_,fun p hp=>?_,fun p q h=>?_⟩
 ·unfold eJ at hp;cases hn:x.nl <;> simp only [hn,cond_false,cond_true,Iq] at hp
  ·have:=hx.fi _ hp; omega
  ·rcases hp with hp|hp
   ·have:=hx.fi _ hp; omega
   ·have:=hy.fi _ hp; omega
 ·unfold eJ at hp;cases hn:y.nl <;> simp only [hn,cond_false,cond_true,Iq] at hp
  ·have:=hy.la _ hp; omega
  ·rcases hp with hp|hp
   ·have:=hx.la _ hp; omega
   ·have:=hy.la _ hp; omega
 ·rcases h with (h|h)|h
  ·have:=hx.e _ _ h; omega
  ·have:=hy.e _ _ h; omega
  ·have:=hx.la _ h.1;have:=hy.fi _ h.2;omega
theorem lw {p:Nat}:p∈(eJ x y).fi↔p∈x.fi∨(x.nl=true∧p∈y.fi):=by
 unfold eJ;cases x.nl <;> simp
theorem gF {p:Nat}:p∈(eJ x y).la↔p∈y.la∨(y.nl=true∧p∈x.la):=by
 unfold eJ;cases y.nl <;> simp [or_comm]
theorem oJ.cat (hx:oJ M E x Gx) (hy:oJ M F y Gy) (rx:lP E x a m) (g:lP F y m c):oJ M (yh E F x y) (eJ x y) (fun w=>∃u v,w=u++v∧Gx u∧Gy v):=by
 refine ⟨?_,fun b w=>?_⟩
 ·unfold eJ;rw [Bool.and_eq_true,hx.nl,hy.nl];constructor
  ·rintro ⟨i,d⟩; exact ⟨[],[],rfl,i,d⟩
  ·rintro ⟨u,v,e,i,d⟩;obtain ⟨rfl,rfl⟩:=List.append_eq_nil_iff.1 e.symm;exact ⟨i,d⟩
 ·constructor
  ·rintro ⟨u,v,e,i,d⟩;rcases kW.1 e with ⟨rfl,rfl⟩|⟨u,rfl,rfl⟩
   ·obtain ⟨p,hp,hm,q,hq,h⟩:=(hy.ac b w).1 d;exact ⟨p,lw.2 (.inr ⟨hx.nl.2 i,hp⟩),hm,q,gF.2 (.inl hq),(ls rx g (g.fi _ hp)).2 h⟩
   ·obtain ⟨p,hp,hm,l,hl,h⟩:=(hx.ac b u).1 i;cases v with
    | nil=>
     refine ⟨p,lw.2 (.inl hp),hm,l,gF.2 (.inr ⟨hy.nl.2 d,hl⟩),?_⟩;rw [List.append_nil];exact (kE rx g u (rx.fi _ hp)).2 (.inl ⟨rx.la _ hl,h⟩)
    | cons k v=>
     obtain ⟨f,hf,hm',q,hq,s⟩:=(hy.ac k v).1 d;exact ⟨p,lw.2 (.inl hp),hm,q,gF.2 (.inl hq),(kE rx g _ (rx.fi _ hp)).2 (.inr ⟨u,k,v,l,f,rfl,hl,h,hf,hm',s⟩)⟩
  ·rintro ⟨p,hp,hm,q,hq,h⟩;rcases lw.1 hp with hp|⟨hn,hp⟩
   ·rcases (kE rx g w (rx.fi _ hp)).1 h with ⟨t,h⟩|⟨u,k,v,l,f,rfl,hl,i,hf,hm',d⟩
    ·rcases gF.1 hq with hq|⟨hn,hq⟩
     ·have:=g.la _ hq; omega
     ·exact ⟨b::w,[],by simp,(hx.ac b w).2 ⟨p,hp,hm,q,hq,h⟩,hy.nl.1 hn⟩
    ·have n:q∈y.la:=by
      rcases gF.1 hq with hq|⟨_,hq⟩
      ·exact hq
      ·have j:=kF (R:=fun p=>m<p∧p≤c) (fun p r _ h=>(g.e _ _ h).2) v (g.fi _ hf) d;have o:=rx.la _ hq;have j:m<q∧q≤c:=j;omega
     exact ⟨b::u,k::v,rfl,(hx.ac b u).2 ⟨p,hp,hm,l,hl,i⟩,(hy.ac k v).2 ⟨f,hf,hm',q,n,d⟩⟩
   ·have d:=(ls rx g (g.fi _ hp)).1 h;have n:q∈y.la:=by
     rcases gF.1 hq with hq|⟨_,hq⟩
     ·exact hq
     ·have j:=kF (R:=fun p=>m<p∧p≤c) (fun p r _ h=>(g.e _ _ h).2) w (g.fi _ hp) d;have o:=rx.la _ hq;have j:m<q∧q≤c:=j;omega
    exact ⟨[],b::w,rfl,hx.nl.1 hn,(hy.ac b w).2 ⟨p,hp,hm,q,n,d⟩⟩
def xq (E F:Nat→Nat→Prop) (p q:Nat):Prop:=E p q∨F p q
theorem uf (hx:lP E x a m) (hy:lP F y m c) {w:List Nat} {p q:Nat} (hp:a<p∧p≤m):lQ M (xq E F) p w q↔lQ M E p w q:=by
 refine gC (R:=fun p=>a<p∧p≤m) (fun p r hp=>?_) (fun p r hp h=>?_) w hp
 ·exact ⟨fun h=>h.elim id fun h=>(by have:=(hy.e _ _ h).1; omega),.inl⟩
 ·rcases h with h|h
  ·exact (hx.e _ _ h).2
  ·have:=(hy.e _ _ h).1; omega
theorem ue (hx:lP E x a m) (hy:lP F y m c) {w:List Nat} {p q:Nat} (hp:m<p∧p≤c):lQ M (xq E F) p w q↔lQ M F p w q:=by
 refine gC (R:=fun p=>m<p∧p≤c) (fun p r hp=>?_) (fun p r hp h=>?_) w hp
 ·exact ⟨fun h=>h.elim (fun h=>(by have:=(hx.e _ _ h).1; omega)) id,.inr⟩
 ·rcases h with h|h
  ·have:=(hx.e _ _ h).1; omega
  ·exact (hy.e _ _ h).2
theorem lP.uni (hx:lP E x a m) (hy:lP F y m c):lP (xq E F) (iI x y) a c:=by
 have d:=hx.le;have b:=hy.le;refine ⟨by omega,fun p hp=>?_,fun p hp=>?_,fun p q h=>?_⟩
 ·rcases Iq.1 hp with hp|hp
  ·have:=hx.fi _ hp; omega
  ·have:=hy.fi _ hp; omega
 ·rcases Iq.1 hp with hp|hp
  ·have:=hx.la _ hp; omega
  ·have:=hy.la _ hp; omega
 ·rcases h with h|h
  ·have:=hx.e _ _ h; omega
  ·have:=hy.e _ _ h; omega
theorem oJ.uni (hx:oJ M E x Gx) (hy:oJ M F y Gy) (rx:lP E x a m) (d:lP F y m c):oJ M (xq E F) (iI x y) (fun w=>Gx w∨Gy w):=by
 refine ⟨?_,fun b w=>?_⟩
 ·unfold iI;rw [Bool.or_eq_true,hx.nl,hy.nl]
 ·rw [hx.ac,hy.ac];constructor
  ·rintro (⟨p,hp,hm,q,hq,h⟩|⟨p,hp,hm,q,hq,h⟩)
   ·exact ⟨p,List.mem_append_left _ hp,hm,q,List.mem_append_left _ hq,(uf rx d (rx.fi _ hp)).2 h⟩
   ·exact ⟨p,List.mem_append_right _ hp,hm,q,List.mem_append_right _ hq,(ue rx d (d.fi _ hp)).2 h⟩
  ·rintro ⟨p,hp,hm,q,hq,h⟩;rcases Iq.1 hp with hp|hp
   ·have h:=(uf rx d (rx.fi _ hp)).1 h;have f:a<q∧q≤m:=kF (R:=fun p=>a<p∧p≤m) (fun p r _ h=>(rx.e _ _ h).2) w (rx.fi _ hp) h;rcases Iq.1 hq with hq|hq
    ·exact .inl ⟨p,hp,hm,q,hq,h⟩
    ·have:=d.la _ hq; omega
   ·have h:=(ue rx d (d.fi _ hp)).1 h;have f:m<q∧q≤c:=kF (R:=fun p=>m<p∧p≤c) (fun p r _ h=>(d.e _ _ h).2) w (d.fi _ hp) h;rcases Iq.1 hq with hq|hq
    ·have:=rx.la _ hq; omega
    ·exact .inr ⟨p,hp,hm,q,hq,h⟩
def rQ (E:Nat→Nat→Prop) (x:Pt) (p q:Nat):Prop:=E p q∨(p∈x.la∧q∈x.fi)
theorem lP.star (hx:lP E x a c):lP (rQ E x) ⟨true,x.fi,x.la⟩ a c:=by
 refine ⟨hx.le,hx.fi,hx.la,fun p q h=>?_⟩;rcases h with h|h
 ·exact hx.e _ _ h
 ·exact ⟨hx.la _ h.1,hx.fi _ h.2⟩
theorem wF (hx:oJ M E x Gx):∀(w:List Nat) {p q:Nat},q∈x.la→lQ M (rQ E x) p w q→∃u v l,w=u++v∧l∈x.la∧lQ M E p u l∧St Gx v
 | [],p,q,hq,e=>by cases e; exact ⟨[],[],p,rfl,hq,rfl,.nil⟩
 | b::w,p,q,hq,⟨r,a,f,g⟩=>by
  obtain ⟨u,v,l,rfl,hl,d,c⟩:=wF hx w hq g;rcases a with a|⟨hp,hr⟩
  ·exact ⟨b::u,v,l,rfl,hl,⟨r,a,f,d⟩,c⟩
  ·exact ⟨[],b::(u++v),p,rfl,hp,rfl,St.cons (u:=b::u) ((hx.ac b u).2 ⟨r,hr,f,l,hl,d⟩) c⟩
theorem Ay (hx:oJ M E x Gx) {v:List Nat} (h:St Gx v):∀ {u:List Nat} {p l:Nat},l∈x.la→lQ M E p u l→∃q∈x.la,lQ M (rQ E x) p (u++v) q:=by
 induction h with
 | nil=>intro u p l hl h; rw [List.append_nil]; exact ⟨l,hl,ni (fun _ _ h=>.inl h) u h⟩
 | @cons a i g _ ih=>
  intro u p l hl h;cases a with
  | nil=>exact ih hl h
  | cons b a=>
   obtain ⟨f,hf,hm,l',c,e⟩:=(hx.ac b a).1 g;obtain ⟨q,hq,d⟩:=ih c e;exact ⟨q,hq,sQ u (ni (fun _ _ h=>.inl h) u h) (.inr ⟨hl,hf⟩) hm d⟩
theorem oJ.star (hx:oJ M E x Gx):oJ M (rQ E x) ⟨true,x.fi,x.la⟩ (St Gx):=by
 refine ⟨⟨fun _=>.nil,fun _=>rfl⟩,fun b w=>?_⟩;rw [xh];constructor
 ·rintro ⟨u,v,rfl,f,e⟩;obtain ⟨p,hp,hm,l,hl,d⟩:=(hx.ac b u).1 f;obtain ⟨q,hq,a⟩:=Ay hx e hl d;exact ⟨p,hp,hm,q,hq,a⟩
 ·rintro ⟨p,hp,hm,q,hq,h⟩;obtain ⟨u,v,l,rfl,hl,a,c⟩:=wF hx w hq h;exact ⟨u,v,rfl,(hx.ac b u).2 ⟨p,hp,hm,l,hl,a⟩,c⟩
end
def tC (S:List (aT 4)) (p b:Nat):Prop:=∃v,S[p - 1]?=some v∧mem v b=true
def gm (Q:List (Nat×Nat)) (p q:Nat):Prop:=(p,q)∈Q
structure Dk (b:Bs) (r:Pt×Bs) (T:List (aT 4)) (Q:List (Nat×Nat)) (G:List Nat→Prop):Prop where
  S:r.2.S=b.S++T
  P:r.2.P=b.P++Q
  rng:lP (gm Q) r.1 b.S.length r.2.S.length
  rep:∀U,(∃V,U=r.2.S++V)→oJ (tC U) (gm Q) r.1 G
theorem gf {M E:Nat→Nat→Prop} {G:List Nat→Prop} {n:Bool} (hn:n=true↔G []) (h:∀b w,¬ G (b::w)):oJ M E ⟨n,[],[]⟩ G:=⟨hn,fun b w=>⟨fun h'=>absurd h' (h b w),fun ⟨p,hp,_⟩=>by simp at hp⟩⟩
theorem gb {n:Bool} {a:Nat}:lP (gm []) ⟨n,[],[]⟩ a a:=⟨Nat.le_refl _,by simp,by simp,fun p q h=>by simp [gm] at h⟩
mutual
theorem ib:∀(x:T_Regex) (b:Bs),∃T Q,Dk b (bd x b) T Q (L x)
 | ⟨k,s,l⟩,b=>by
  rcases gP k with rfl|rfl|rfl|rfl|rfl|⟨i,j,m,H,h6⟩
  ·have e:bd ⟨2,s,l⟩ b=(⟨true,[],[]⟩,b):=by simp [bd]
   rw [e];exact ⟨[],[],by simp,by simp,gb,fun U _=>gf (by simp [GN]) (fun b w h=>by simp [GN] at h)⟩
  ·have e:bd ⟨3,s,l⟩ b=(⟨false,[b.S.length+1],[b.S.length+1]⟩,⟨b.S++[s],b.P⟩):=by simp [bd]
   rw [e];refine ⟨[s],[],rfl,by simp,⟨by simp,by simp,by simp,fun p q h=>by simp [gm] at h⟩,fun U f=>?_⟩;obtain ⟨V,rfl⟩:=f;have hm:∀c,tC ((b.S++[s])++V) (b.S.length+1) c↔mem s c=true:=by
    intro c;unfold tC;rw [Nat.add_sub_cancel,Ir,IM (Nat.le_refl _),Nat.sub_self];simp
   refine ⟨by simp [Fh],fun c w=>?_⟩;rw [Fh];constructor
   ·rintro ⟨d,e,h⟩;cases e
    exact ⟨_,Ip.2 rfl,(hm c).2 h,_,Ip.2 rfl,rfl⟩
   ·rintro ⟨p,hp,h,q,hq,i⟩;obtain rfl:=Ip.1 hp;obtain rfl:=Ip.1 hq;cases w with
    | nil=>exact ⟨c,rfl,(hm c).1 h⟩
    | cons d w=>obtain ⟨r,j,_⟩:=i; simp [gm] at j
  ·have e:bd ⟨4,s,l⟩ b=fH l ⟨true,[],[]⟩ b:=by simp [bd]
   rw [e];obtain ⟨T,Q,n,i,j,m⟩:=nF l ⟨true,[],[]⟩ b [] (fun w=>w=[]) b.S.length gb (fun U _=>gf (by simp) (by simp));refine ⟨T,Q,n,i,j,fun U f=>(m U f).congr fun w=>?_⟩;rw [GM];constructor
   ·rintro ⟨u,v,rfl,rfl,h⟩; exact h
   ·exact fun h=>⟨[],w,rfl,rfl,h⟩
  ·have e:bd ⟨5,s,l⟩ b=gj l ⟨false,[],[]⟩ b:=by simp [bd]
   rw [e];obtain ⟨T,Q,n,i,j,m⟩:=qV l ⟨false,[],[]⟩ b [] (fun _=>False) b.S.length gb (fun U _=>gf (by simp) (by simp));refine ⟨T,Q,n,i,j,fun U f=>(m U f).congr fun w=>?_⟩;rw [GV];simp
  ·have e:bd ⟨6,s,l⟩ b=Ai l b:=by simp [bd]
   rw [e]
   match l with
   | []=>
    refine ⟨[],[],by simp [Ai],by simp [Ai],gb,fun U _=>gf ⟨fun _=>Fg.2 .nil,fun _=>rfl⟩ (fun c w h=>?_)⟩;rw [Fg,xh] at h;obtain ⟨u,v,_,h,_⟩:=h;simp [LH] at h
   | y::l=>
    obtain ⟨T,Q,n,i,j,m⟩:=ib y b;refine ⟨T,Q++dv (bd y b).1.la (bd y b).1.fi,n,?_,?_,fun U f=>?_⟩
    ·show (bd y b).2.P++_=_;rw [i,Ir]
    ·refine j.star.edges fun p q=>?_
     unfold rQ gm;rw [Iq,eX]
    ·refine ((m U f).star.edges fun p q=>?_).congr fun w=>?_
     ·unfold rQ gm;rw [Iq,eX]
     ·rw [Fg];have:LH (y::l)=L y:=by funext w; simp [LH]
      rw [this]
  ·have e:bd ⟨k,s,l⟩ b=(⟨false,[],[]⟩,b):=by simp only [bd,cv i,cv j,cv m,cv H,cv h6,cond_false]
   rw [e];exact ⟨[],[],by simp,by simp,gb,fun U _=>gf ⟨fun h=>(by cases h),fun h=>absurd h (GO i j m H h6)⟩ (fun b w h=>absurd h (GO i j m H h6))⟩
theorem nF:∀(l:List T_Regex) (x:Pt) (b:Bs) (g:List (Nat×Nat)) (G:List Nat→Prop) (a:Nat),lP (gm g) x a b.S.length→(∀U,(∃V,U=b.S++V)→oJ (tC U) (gm g) x G)→
 ∃T Q,(fH l x b).2.S=b.S++T∧(fH l x b).2.P=b.P++Q∧lP (gm (g++Q)) (fH l x b).1 a (fH l x b).2.S.length∧∀U,(∃V,U=(fH l x b).2.S++V)→oJ (tC U) (gm (g++Q)) (fH l x b).1 (fun w=>∃u v,w=u++v∧G u∧LC l v)
 | [],x,b,g,G,a,hr,hp=>by
  refine ⟨[],[],by simp [fH],by simp [fH],by simpa [fH] using hr,fun U f=>?_⟩;have h:=hp U (by simpa [fH] using f);simp only [List.append_nil,fH];refine h.congr fun w=>⟨fun h=>⟨w,[],by simp,h,by simp [LC]⟩,?_⟩
  rintro ⟨u,v,rfl,n,i⟩;simp only [LC] at i;subst i;rw [List.append_nil]; exact n
 | y::l,x,b,g,G,a,hr,hp=>by
  obtain ⟨B,o,t,D,z,F⟩:=ib y b;have A:∀p q,yh (gm g) (gm o) x (bd y b).1 p q↔gm (g++(o++dv x.la (bd y b).1.fi)) p q:=by
   intro p q;unfold yh gm;rw [Iq,Iq,eX,or_assoc]
  obtain ⟨T,Q,n,i,j,m⟩:=nF l (eJ x (bd y b).1) ⟨(bd y b).2.S,(bd y b).2.P++dv x.la (bd y b).1.fi⟩ (g++(o++dv x.la (bd y b).1.fi)) (fun w=>∃u v,w=u++v∧G u∧L y v) a ((hr.cat z).edges A)
   (fun U f=>((hp U (by obtain ⟨V,rfl⟩:=f; exact ⟨B++V,by simp only [t,Ir]⟩)).cat (F U f) hr z).edges A)
  have e:fH (y::l) x b=fH l (eJ x (bd y b).1) ⟨(bd y b).2.S,(bd y b).2.P++dv x.la (bd y b).1.fi⟩:=by simp only [fH]
  rw [e];refine ⟨B++T,(o++dv x.la (bd y b).1.fi)++Q,by rw [n]; simp only [t,Ir],by rw [i]; simp only [D,Ir],by rw [←Ir]; exact j,fun U f=>?_⟩;rw [←Ir];refine (m U f).congr fun w=>?_
  simp only [LC];constructor
  ·rintro ⟨u,v,rfl,⟨X,R,rfl,K,J⟩,I⟩;exact ⟨X,R++v,by simp,K,R,v,rfl,J,I⟩
  ·rintro ⟨u,v,rfl,K,N,W,rfl,J,I⟩;exact ⟨u++N,W,by simp,⟨u,N,rfl,K,J⟩,I⟩
theorem qV:∀(l:List T_Regex) (x:Pt) (b:Bs) (g:List (Nat×Nat)) (G:List Nat→Prop) (a:Nat),lP (gm g) x a b.S.length→(∀U,(∃V,U=b.S++V)→oJ (tC U) (gm g) x G)→
 ∃T Q,(gj l x b).2.S=b.S++T∧(gj l x b).2.P=b.P++Q∧lP (gm (g++Q)) (gj l x b).1 a (gj l x b).2.S.length∧∀U,(∃V,U=(gj l x b).2.S++V)→oJ (tC U) (gm (g++Q)) (gj l x b).1 (fun w=>G w∨LU l w)
 | [],x,b,g,G,a,hr,hp=>by
  refine ⟨[],[],by simp [gj],by simp [gj],by simpa [gj] using hr,fun U f=>?_⟩;have h:=hp U (by simpa [gj] using f);simp only [List.append_nil,gj];exact h.congr fun w=>by simp [LU]
 | y::l,x,b,g,G,a,hr,hp=>by
  obtain ⟨B,o,t,D,z,F⟩:=ib y b;have A:∀p q,xq (gm g) (gm o) p q↔gm (g++o) p q:=by
   intro p q;unfold xq gm;rw [Iq]
  obtain ⟨T,Q,n,i,j,m⟩:=qV l (iI x (bd y b).1) (bd y b).2 (g++o) (fun w=>G w∨L y w) a ((hr.uni z).edges A)
   (fun U f=>((hp U (by obtain ⟨V,rfl⟩:=f; exact ⟨B++V,by simp only [t,Ir]⟩)).uni (F U f) hr z).edges A)
  have e:gj (y::l) x b=gj l (iI x (bd y b).1) (bd y b).2:=by simp only [gj]
  rw [e];refine ⟨B++T,o++Q,by rw [n]; simp only [t,Ir],by rw [i]; simp only [D,Ir],by rw [←Ir]; exact j,fun U f=>?_⟩;rw [←Ir];refine (m U f).congr fun w=>?_
  simp only [LU];rw [or_assoc]
end
def gx (l:List Nat):List Int:=l.map fun (n:Nat)=>(n:Int)
theorem cL (l:List Nat):(gx l).length=l.length:=by simp [gx]
theorem lj {l:List Nat} {i:Nat} (h:i<l.length):bD (gx l) (i:Int)=some (l[i]:Int):=by
 rw [aZ (by rw [cL]; exact h)]; simp [gx]
theorem jt (a b:List Nat):gx (a++b)=gx a++gx b:=by simp [gx]
theorem eR {l:List T_Regex} {i:Nat} (hi:i<l.length):bF (l.take (i+1))=bF (l.take i)+parts l[i]:=by
 rw [List.take_add_one,Ie hi,iB];simp [bF]
theorem cW (l:List T_Regex) (i:Nat):bF (l.take i)≤bF l:=by
 have:=iB (l.take i) (l.drop i);rw [List.take_append_drop] at this;omega
theorem qu {l:List T_Regex} {f:T_Regex→Option Int} (hf:∀y∈l,f y=some (parts y:Int)) (hl:bF l≤1000000000) {body:Int×Int→Option (cN (Int×Int) Int)}
 (hb:∀n i,body (n,i)=bif decide (i<(l.length:Int)) then (bD l i).bind fun e=>(f e).bind fun r=>(cd .i64 (n+r)).bind fun t=>(cd .i64 (i+1)).bind fun u=>some (.next (t,u)) else some (.stop n)) :
 bc body ba ((1:Int),(0:Int))=some ((bF l+1:Nat):Int):=by
 refine Is.eq ?_;have hlen:=fy l;refine Is.upto (fun i (c:Int×Int)=>c.2=(i:Int)∧c.1=((bF (l.take i)+1:Nat):Int)) l.length (by omega) ⟨rfl,by simp [bF]⟩ ?_ ?_
 ·rintro i ⟨n,_⟩ a ⟨rfl,b⟩;obtain rfl:n=_:=b;have d:=eR a;have g:=cW l (i+1);rw [hb];refine Is.dt (by omega) (Is.bnq (aZ a) (Is.bnq (hf _ (Ii a)) (Is.bnq (x:=((bF (l.take (i+1))+1:Nat):Int)) ?_ (Is.bnq (aK (by omega)) (Is.next ⟨rfl,rfl⟩)))));rw [dT (by omega) (by omega),d]; congr 1; omega
 ·rintro ⟨n,_⟩ ⟨rfl,b⟩;obtain rfl:n=_:=b;rw [hb,Ij];exact Is.df (by omega) (Is.stop rfl)
theorem yR:∀(a:Nat) (x:T_Regex),parts x<a→parts x≤1000000000→M.g7 a x=some (parts x:Int):=by
 intro a;induction a with
 | zero=>intro x h; omega
 | succ a ih=>
  intro x d c;obtain ⟨k,s,l⟩:=x;have b:parts ⟨k,s,l⟩=bF l+1:=by simp [parts]
  rw [b] at d c;unfold M.g7;refine aN (qu (l:=l) (f:=fun y=>M.g7 a y) (fun y hy=>ih y (by have:=eW hy; omega) (by have:=eW hy; omega)) (by omega) (fun _ _=>rfl)) ?_;rw [b]
theorem tZ:∀(a:Nat) (x:T_Regex),parts x<a→parts x≤1000000000→M.e4 a x=some (parts x:Int):=by
 intro a;induction a with
 | zero=>intro x h; omega
 | succ a ih=>
  intro x d c;obtain ⟨k,s,l⟩:=x;have b:parts ⟨k,s,l⟩=bF l+1:=by simp [parts]
  rw [b] at d c;unfold M.e4;refine aN (qu (l:=l) (f:=fun y=>M.e4 a y) (fun y hy=>ih y (by have:=eW hy; omega) (by have:=eW hy; omega)) (by omega) (fun _ _=>rfl)) ?_;rw [b]
mutual
theorem fu:∀(x:T_Regex) (b:Bs),(bd x b).1.fi.length≤parts x∧(bd x b).1.la.length≤parts x∧(bd x b).2.S.length≤b.S.length+parts x
 | ⟨k,s,l⟩,b=>by
  simp only [parts,bd];refine ?_;cases k == 3
  ·cases k == 4
   ·cases k == 5
    ·cases k == 6
     ·simp
     ·match l with
      | []=>simp [Ai]
      | y::l=>
       have h:=fu y b;simp only [cond_false,cond_true,Ai,bF];omega
    ·have h:=pB l ⟨false,[],[]⟩ b;simp only [cond_false,cond_true,List.length_nil] at h ⊢;omega
   ·have h:=pC l ⟨true,[],[]⟩ b;simp only [cond_false,cond_true,List.length_nil] at h ⊢;omega
  ·simp
theorem pC:∀(l:List T_Regex) (x:Pt) (b:Bs),(fH l x b).1.fi.length≤x.fi.length+bF l∧(fH l x b).1.la.length≤x.la.length+bF l∧(fH l x b).2.S.length≤b.S.length+bF l
 | [],x,b=>by simp [fH]
 | y::l,x,b=>by
  have h:=fu y b;have a:=pC l (eJ x (bd y b).1) ⟨(bd y b).2.S,(bd y b).2.P++dv x.la (bd y b).1.fi⟩;have d:(eJ x (bd y b).1).fi.length≤x.fi.length+(bd y b).1.fi.length:=by unfold eJ; cases x.nl <;> simp
  have c:(eJ x (bd y b).1).la.length≤x.la.length+(bd y b).1.la.length:=by unfold eJ; cases (bd y b).1.nl <;> simp
  simp only [fH,bF];simp only at a;omega
theorem pB:∀(l:List T_Regex) (x:Pt) (b:Bs),(gj l x b).1.fi.length≤x.fi.length+bF l∧(gj l x b).1.la.length≤x.la.length+bF l∧(gj l x b).2.S.length≤b.S.length+bF l
 | [],x,b=>by simp [gj]
 | y::l,x,b=>by
  have h:=fu y b;have a:=pB l (iI x (bd y b).1) (bd y b).2;have d:(iI x (bd y b).1).fi.length=x.fi.length+(bd y b).1.fi.length:=by simp [iI]
  have c:(iI x (bd y b).1).la.length=x.la.length+(bd y b).1.la.length:=by simp [iI]
  simp only [gj,bF];omega
end
theorem qW (y:T_Regex):∀(l:List T_Regex) (x:Pt) (b:Bs),fH (l++[y]) x b=(eJ (fH l x b).1 (bd y (fH l x b).2).1,⟨(bd y (fH l x b).2).2.S,(bd y (fH l x b).2).2.P++dv (fH l x b).1.la (bd y (fH l x b).2).1.fi⟩)
 | [],x,b=>by simp [fH]
 | z::l,x,b=>by simp only [Iw,fH]; exact qW y l _ _
theorem qT (y:T_Regex):∀(l:List T_Regex) (x:Pt) (b:Bs),gj (l++[y]) x b=(iI (gj l x b).1 (bd y (gj l x b).2).1,(bd y (gj l x b).2).2)
 | [],x,b=>by simp [gj]
 | z::l,x,b=>by simp only [Iw,gj]; exact qT y l _ _
theorem cO {α:Type} {l:List α} {i:Nat} (h:i<l.length):l.take (i+1)=l.take i++[l[i]]:=by rw [List.take_add_one,Ie h]; rfl
structure gw (beh:List (List (Int×Bool))) (n:Nat) (R:Nat→Nat→Prop):Prop where
  len:beh.length=n
  nd:∀(p:Nat) (m:List (Int×Bool)),beh[p]?=some m→(m.map (·.1)).Nodup
  mem:∀(p:Nat) (m:List (Int×Bool)),beh[p]?=some m→∀k:Int,k∈m.map (·.1)↔∃q:Nat,k=(q:Int)∧R p q
theorem gw.congr {beh:List (List (Int×Bool))} {n:Nat} {R R':Nat→Nat→Prop} (h:gw beh n R) (e:∀p q,R p q↔R' p q):gw beh n R':=by
 have:R=R':=funext fun p=>funext fun q=>propext (e p q)
 rw [←this]; exact h
theorem ur {m:List (Int×Bool)} {k a:Int} {v:Bool}:a∈(dL m k v).map (·.1)↔a∈m.map (·.1)∨a=k:=by
 induction m with
 | nil=>simp [dL]
 | cons p m ih=>
  unfold dL;cases hp:p.1 == k
  ·simp only [cond_false,List.map_cons,IJ,ih,or_assoc]
  ·have e:p.1=k:=by simpa using hp
   simp only [cond_true,List.map_cons,IJ,e];constructor
   ·rintro (h|h)
    ·exact .inr h
    ·exact .inl (.inr h)
   ·rintro ((h|h)|h)
    ·exact .inl h
    ·exact .inr h
    ·exact .inl h
theorem vB {m:List (Int×Bool)} {k:Int} {v:Bool} (h:(m.map (·.1)).Nodup):((dL m k v).map (·.1)).Nodup:=by
 induction m with
 | nil=>simp [dL]
 | cons p m ih=>
  rw [List.map_cons,List.nodup_cons] at h;unfold dL;cases hp:p.1 == k
  ·have e:p.1≠k:=by simpa using hp
   rw [cond_false,List.map_cons,List.nodup_cons,ur];exact ⟨fun a=>a.elim h.1 e,ih h.2⟩
  ·have e:p.1=k:=by simpa using hp
   rw [cond_true,List.map_cons,List.nodup_cons];exact ⟨by rw [←e]; exact h.1,h.2⟩
theorem gw.put {d:List (List (Int×Bool))} {n:Nat} {R:Nat→Nat→Prop} (h:gw d n R) {p q:Nat} {m:List (Int×Bool)} (hm:d[p]?=some m):gw (d.set p (dL m (q:Int) true)) n (fun a c=>R a c∨(a=p∧c=q)):=by
 have hp:=(If.1 hm).1;refine ⟨by rw [IR]; exact h.len,fun a m' ha=>?_,fun a m' ha k=>?_⟩
 ·rw [IQ] at ha;split at ha
  ·cases ha
   exact vB (h.nd _ _ hm)
  ·exact h.nd _ _ ha
 ·rw [IQ] at ha;split at ha
  ·rename_i e;subst e;cases ha
   rw [ur,h.mem _ _ hm];constructor
   ·rintro (⟨c,rfl,b⟩|rfl)
    ·exact ⟨c,rfl,.inl b⟩
    ·exact ⟨q,rfl,.inr ⟨rfl,rfl⟩⟩
   ·rintro ⟨c,rfl,b|⟨_,rfl⟩⟩
    ·exact .inl ⟨c,rfl,b⟩
    ·exact .inr rfl
  ·rename_i e;rw [h.mem _ _ ha];constructor
   ·rintro ⟨c,rfl,b⟩; exact ⟨c,rfl,.inl b⟩
   ·rintro ⟨c,rfl,b|⟨rfl,_⟩⟩
    ·exact ⟨c,rfl,b⟩
    ·exact absurd rfl e
theorem ta {S:List (aT 4)} {m:List (List (Int×Bool))} {n:Nat} {R:Nat→Nat→Prop} {fr to:List Nat} (h:gw m n R) (hf:∀p∈fr,p<n) (u:fr.length≤1000000000) (t:to.length≤1000000000) :
 Is (M.d3 ⟨S,m⟩ (gx fr) (gx to)) (fun r=>r.sets=S∧gw r.behind n (fun p q=>R p q∨(p∈fr∧q∈to))):=by
 unfold M.d3;refine Is.upto (fun i (d:List (List (Int×Bool))×Int)=>d.2=(i:Int)∧gw d.1 n (fun p q=>R p q∨(p∈fr.take i∧q∈to))) fr.length (by omega) ⟨rfl,h.congr (by simp)⟩ ?_ ?_
 ·rintro i ⟨l,_⟩ f ⟨rfl,hb⟩;have hb:gw l n _:=hb;have o:=hf _ (Ii f);refine Is.dt (by rw [cL]; omega) (Is.bnd (P:=fun j=>gw j n (fun p q=>R p q∨(p∈fr.take (i+1)∧q∈to))) (Is.bnq (lj f) ?_) (fun j s=>Is.bnq (aK (by omega)) (Is.next ⟨rfl,s⟩)));refine Is.upto (fun k (d:List (List (Int×Bool))×Int)=>d.2=(k:Int)∧gw d.1 n (fun p q=>(R p q∨(p∈fr.take i∧q∈to))∨(p=fr[i]∧q∈to.take k))) to.length (by omega) ⟨rfl,hb.congr (by simp)⟩ ?_ ?_
  ·rintro k ⟨e,_⟩ g ⟨rfl,c⟩;have c:gw e n _:=c;have hl:fr[i]<e.length:=by rw [c.len]; exact o
   refine Is.dt (by rw [cL]; omega) (Is.bnq (lj g) (Is.bnq (aZ hl) (Is.bnq (dk hl) (Is.bnq (aK (by omega)) (Is.next ⟨rfl,?_⟩)))));refine (c.put (q:=to[k]) (Ie hl)).congr fun p q=>?_
   rw [cO g,Iq,Ip];constructor
   ·rintro ((h|⟨b,a⟩)|⟨b,a⟩)
    ·exact .inl h
    ·exact .inr ⟨b,.inl a⟩
    ·exact .inr ⟨b,.inr a⟩
   ·rintro (h|⟨b,a|a⟩)
    ·exact .inl (.inl h)
    ·exact .inl (.inr ⟨b,a⟩)
    ·exact .inr ⟨b,a⟩
  ·rintro ⟨e,_⟩ ⟨rfl,c⟩;have c:gw e n _:=c;refine Is.df (by rw [cL]; omega) (Is.stop (c.congr fun p q=>?_));rw [Ij,cO f,Iq,Ip];constructor
   ·rintro ((h|⟨b,a⟩)|⟨b,a⟩)
    ·exact .inl h
    ·exact .inr ⟨.inl b,a⟩
    ·exact .inr ⟨.inr b,a⟩
   ·rintro (h|⟨b|b,a⟩)
    ·exact .inl (.inl h)
    ·exact .inl (.inr ⟨b,a⟩)
    ·exact .inr ⟨b,a⟩
 ·rintro ⟨l,_⟩ ⟨rfl,hb⟩;rw [Ij] at hb;exact Is.df (by rw [cL]; omega) (Is.stop ⟨rfl,hb⟩)
theorem jO {a b:List Int} (h:a.length+b.length≤1000000000):M.a1 [a,b]=some (a++b):=by
 have hlen:([a,b]:List (List Int)).length=2:=rfl;refine Is.eq ?_;unfold M.a1;have hs:∀i,i≤2→((([a,b]:List (List Int)).take i).map List.length).sum≤1000000000:=by
  intro i c
  match i,c with
  | 0,_=>simp
  | 1,_=>simp; omega
  | 2,_=>simp; omega
 have f:∀i (c:i<([a,b]:List (List Int)).length),((([a,b]:List (List Int)).take (i+1)).map List.length).sum=((([a,b]:List (List Int)).take i).map List.length).sum+([a,b][i]).length:=by
  intro i c;rw [cO c,Iz,List.sum_append];simp
 refine Is.bnq (x:=((a.length+b.length:Nat):Int)) (Is.eq ?_) ?_
 ·refine Is.upto (fun i (e:Int×Int)=>e.2=(i:Int)∧e.1=(((([a,b]:List (List Int)).take i).map List.length).sum:Nat)) 2 (by omega) ⟨rfl,by simp⟩ ?_ ?_
  ·rintro i ⟨n,_⟩ c ⟨rfl,d⟩;obtain rfl:n=_:=d;have j:=hs (i+1) (by omega);have g:=f i (by rw [hlen]; exact c);refine Is.dt (by rw [hlen]; omega) (Is.bnq (x:=(((([a,b]:List (List Int)).take (i+1)).map List.length).sum:Nat)) (Is.eq ?_) (Is.bnq (aK (by omega)) (Is.next ⟨rfl,rfl⟩)));refine Is.bnq (aZ (by rw [hlen]; exact c)) (Is.bnq (x:=(((([a,b]:List (List Int)).take (i+1)).map List.length).sum:Nat)) ?_ (Is.df (by omega) (Is.pure rfl)));rw [dT (by omega) (by omega),g]; congr 1
  ·rintro ⟨n,_⟩ ⟨rfl,d⟩;obtain rfl:n=_:=d;exact Is.df (by rw [hlen]; omega) (Is.stop (by simp))
 ·refine Is.bnq (x:=[]) (by unfold M.h9 wV; rw [if_pos ⟨rfl,by omega,by omega⟩]) (Is.bnq (x:=a++b) (Is.eq ?_) (Is.pure rfl));refine Is.upto (fun i (e:List Int×Int)=>e.2=(i:Int)∧e.1=(([a,b]:List (List Int)).take i).flatten) 2 (by omega) ⟨rfl,by simp⟩ ?_ ?_
  ·rintro i ⟨n,_⟩ c ⟨rfl,d⟩;obtain rfl:n=_:=d;have j:=hs (i+1) (by omega);have g:=f i (by rw [hlen]; exact c);have k:((([a,b]:List (List Int)).take i).flatten).length=((([a,b]:List (List Int)).take i).map List.length).sum:=List.length_flatten;refine Is.dt (by rw [hlen]; omega) (Is.bnq (aZ (by rw [hlen]; exact c)) (Is.bnq (bO (by omega)) (Is.bnq (aK (by omega)) (Is.next ⟨rfl,?_⟩))));rw [cO (by rw [hlen]; exact c),List.flatten_append];simp
  ·rintro ⟨n,_⟩ ⟨rfl,d⟩;obtain rfl:n=_:=d;exact Is.df (by rw [hlen]; omega) (Is.stop (by simp))
def pm (x:Pt):bX:=⟨x.nl,gx x.fi,gx x.la⟩
def Aj (r:Pt×Bs) (v:bX×bo):Prop:=v.1=pm r.1∧v.2.sets=r.2.S∧gw v.2.behind (r.2.S.length+1) (gm r.2.P)
theorem qS (x:T_Regex) (b:Bs):(∀p∈(bd x b).1.fi,p≤(bd x b).2.S.length)∧(∀p∈(bd x b).1.la,p≤(bd x b).2.S.length):=by
 obtain ⟨T,Q,h⟩:=ib x b;exact ⟨fun p hp=>(h.rng.fi p hp).2,fun p hp=>(h.rng.la p hp).2⟩
theorem BD (l:List T_Regex) (b:Bs):∀p∈(fH l ⟨true,[],[]⟩ b).1.la,p≤(fH l ⟨true,[],[]⟩ b).2.S.length:=by
 obtain ⟨T,Q,_,_,h,_⟩:=nF l ⟨true,[],[]⟩ b [] (fun w=>w=[]) b.S.length gb (fun U _=>gf (by simp) (by simp));exact fun p hp=>(h.la p hp).2
theorem pA (x:T_Regex) (b:Bs):b.S.length≤(bd x b).2.S.length:=by
 obtain ⟨T,Q,h⟩:=ib x b;exact h.rng.le
theorem yj {a:List (List (Int×Bool))} {n:Nat} {R:Nat→Nat→Prop} (h:gw a n R) (hR:∀q,¬ R n q):gw (a++[[]]) (n+1) R:=by
 have hl:=h.len;refine ⟨by simp [hl],fun p m hp=>?_,fun p m hp k=>?_⟩
 ·rw [List.getElem?_append] at hp;split at hp
  ·exact h.nd _ _ hp
  ·rw [List.getElem?_singleton] at hp;split at hp <;> cases hp
   simp
 ·rw [List.getElem?_append] at hp;split at hp
  ·exact h.mem _ _ hp k
  ·rw [List.getElem?_singleton] at hp;split at hp <;> cases hp
   have:p=n:=by omega
   subst this;simp only [List.map_nil,List.not_mem_nil,false_iff];rintro ⟨q,_,h⟩;exact hR q h
theorem zP {d:Nat} {k:Int} {s:aT 4} {l:List T_Regex} (h:V (d+1) ⟨k,s,l⟩=true):iN k s l.length=true∧∀y∈l,V d y=true:=by
 simp only [V,Bool.and_eq_true,List.all_eq_true] at h;exact h
theorem rT {s:aT 4} {n:Nat} (h:iN 6 s n=true):n=1:=by
 simp only [iN] at h;simp at h;exact h.1
theorem pU {k:Int} {s:aT 4} {n:Nat} (h:iN k s n=true):k=1∨k=2∨k=3∨k=4∨k=5∨k=6:=by
 by_cases e:k=1; · exact .inl e
 by_cases d:k=2; · exact .inr (.inl d)
 by_cases c:k=3; · exact .inr (.inr (.inl c))
 by_cases b:k=4; · exact .inr (.inr (.inr (.inl b)))
 by_cases a:k=5; · exact .inr (.inr (.inr (.inr (.inl a))))
 by_cases h6:k=6; · exact .inr (.inr (.inr (.inr (.inr h6))))
 simp [iN,e,d,c,b,a,h6] at h
def Co (b:Bs):Prop:=∀p q,(p,q)∈b.P→p≤b.S.length∧q≤b.S.length
theorem ET (x:T_Regex) {b:Bs} (h:Co b):Co (bd x b).2:=by
 obtain ⟨T,Q,hm⟩:=ib x b;intro p q hp;rw [hm.P,Iq] at hp;rcases hp with hp|hp
 ·have:=h p q hp; have:=hm.rng.le; omega
 ·have:=hm.rng.e p q hp; omega
theorem Df (l:List T_Regex) {b:Bs} (h:Co b):Co (fH l ⟨true,[],[]⟩ b).2:=by
 obtain ⟨T,Q,h1,h2,h3,_⟩:=nF l ⟨true,[],[]⟩ b [] (fun w=>w=[]) b.S.length gb (fun U _=>gf (by simp) (by simp));intro p q hp;rw [h2,Iq] at hp;rcases hp with hp|hp
 ·have:=h p q hp; have:=h3.le; omega
 ·have:=h3.e p q (by unfold gm; simpa using hp); omega
theorem De (l:List T_Regex) {b:Bs} (h:Co b):Co (gj l ⟨false,[],[]⟩ b).2:=by
 obtain ⟨T,Q,h1,h2,h3,_⟩:=qV l ⟨false,[],[]⟩ b [] (fun _=>False) b.S.length gb (fun U _=>gf (by simp) (by simp));intro p q hp;rw [h2,Iq] at hp;rcases hp with hp|hp
 ·have:=h p q hp; have:=h3.le; omega
 ·have:=h3.e p q (by unfold gm; simpa using hp); omega
theorem Bf:∀(d o:Nat) (x:T_Regex) (b:Bs) (z:List (List (Int×Bool))),V d x=true→2*d+1≤o→gw z (b.S.length+1) (gm b.P)→Co b→b.S.length+parts x≤100000→Is (M.b7 o ⟨b.S,z⟩ x) (Aj (bd x b)):=by
 intro d;induction d with
 | zero=>intro o x b z h; simp [V] at h
 | succ d ih=>
  intro o x b z hV a7 hB J hsz;obtain ⟨o,rfl⟩:∃f,o=f+1+1:=⟨o - 2,by omega⟩;obtain ⟨k,s,l⟩:=x;obtain ⟨R,K⟩:=zP hV;have a3:parts ⟨k,s,l⟩=bF l+1:=by simp [parts]
  rw [a3] at hsz;have a6:=fy l;unfold M.b7;rcases pU R with rfl|rfl|rfl|rfl|rfl|rfl
  ·refine Is.cf rfl (Is.cf rfl (Is.cf rfl (Is.cf rfl (Is.cf rfl (Is.ct rfl (Is.bnq (x:=(pm ⟨false,[],[]⟩,⟨b.S,z⟩)) rfl (Is.pure ?_)))))));exact ⟨rfl,rfl,hB⟩
  ·refine Is.cf rfl (Is.cf rfl (Is.cf rfl (Is.cf rfl (Is.ct rfl (Is.bnq (x:=(pm ⟨true,[],[]⟩,⟨b.S,z⟩)) rfl (Is.pure ?_))))));exact ⟨rfl,rfl,hB⟩
  ·have e:bd ⟨3,s,l⟩ b=(⟨false,[b.S.length+1],[b.S.length+1]⟩,⟨b.S++[s],b.P⟩):=by simp [bd]
   refine Is.cf rfl (Is.cf rfl (Is.cf rfl (Is.ct rfl ?_)));rw [e];have a8:=hB.len;refine Is.bnq (x:=(pm ⟨false,[b.S.length+1],[b.S.length+1]⟩,⟨b.S++[s],z++[[]]⟩)) (Is.eq ?_) (Is.pure ⟨rfl,rfl,?_⟩)
   ·unfold M.i5;refine Is.bnq (bO (by simp only [Ih]; omega)) (Is.bnq (bO (by simp only [Ih]; omega)) (Is.pure ?_));simp [pm,gx]
   ·have:=yj hB (fun q h=>by have:=J _ _ h; omega);simpa using this
  ·have e:bd ⟨4,s,l⟩ b=fH l ⟨true,[],[]⟩ b:=by simp [bd]
   refine Is.cf rfl (Is.cf rfl (Is.ct rfl ?_));rw [e];refine Is.bnd (P:=Aj (fH l ⟨true,[],[]⟩ b)) ?_ (fun v t=>Is.pure t);unfold M.e9;refine Is.bnd (P:=fun (v:Bool×List Int×List Int×List (aT 4)×List (List (Int×Bool)))=>Aj (fH l ⟨true,[],[]⟩ b) (⟨v.1,v.2.1,v.2.2.1⟩,⟨v.2.2.2.1,v.2.2.2.2⟩)) ?_ (fun v t=>Is.pure t);refine Is.upto (fun i (g:List (aT 4)×List (List (Int×Bool))×Bool×List Int×List Int×Int)=>g.2.2.2.2.2=(i:Int)∧Aj (fH (l.take i) ⟨true,[],[]⟩ b) (⟨g.2.2.1,g.2.2.2.1,g.2.2.2.2.1⟩,⟨g.1,g.2.1⟩)) l.length (by omega) ⟨rfl,by simp [fH,Aj,pm,gx,hB]⟩ ?_ ?_
   ·rintro i ⟨S,H,n,fi,la,_⟩ u ⟨rfl,c,D,A⟩;simp only at c D A;obtain ⟨rfl,rfl,rfl⟩:n=(fH (l.take i) ⟨true,[],[]⟩ b).1.nl∧fi=gx (fH (l.take i) ⟨true,[],[]⟩ b).1.fi∧la=gx (fH (l.take i) ⟨true,[],[]⟩ b).1.la:=by
     unfold pm at c; cases c; exact ⟨rfl,rfl,rfl⟩
    subst D;have hq:=pC (l.take i) ⟨true,[],[]⟩ b;have X:=BD (l.take i) b;have B:=Df (l.take i) J;have a1:=eR u;have a2:=cW l (i+1);have a:=qW l[i] (l.take i) ⟨true,[],[]⟩ b;rw [←cO u] at a;generalize fH (l.take i) ⟨true,[],[]⟩ b=r at A hq X B a;simp only [List.length_nil] at hq;have hy:=fu l[i] r.2;have Q:=qS l[i] r.2;have a5:=pA l[i] r.2;refine Is.dt (show ((i:Nat):Int)<(l.length:Int) by omega) (Is.bnq (aZ u) (Is.bnd (ih o l[i] r.2 H (K _ (Ii u)) (by omega) A B (by omega)) ?_));rintro ⟨N,I⟩ ⟨w,m,j⟩;simp only at w m j;subst w;obtain ⟨vs,a0⟩:=I;simp only at m j;subst m;refine Is.bnd (ta j (fr:=r.1.la) (to:=(bd l[i] r.2).1.fi) (fun p hp=>by have:=X p hp; omega) (by omega) (by omega)) ?_;rintro ⟨Y,L⟩ ⟨G,F⟩;simp only at G F;subst G;refine Is.bnq (x:=gx (eJ r.1 (bd l[i] r.2).1).fi) (Is.eq (Is.cnd (fun hn=>?_) (fun hn=>?_))) ?_
    ·refine Is.bnq (jO (by simp only [pm,cL]; omega)) (Is.pure ?_);unfold eJ pm;rw [hn,cond_true,jt]
    ·refine Is.pure ?_;unfold eJ;rw [hn,cond_false]
    refine Is.bnq (x:=gx (eJ r.1 (bd l[i] r.2).1).la) (Is.eq (Is.cnd (fun hn=>?_) (fun hn=>?_))) ?_
    ·have hn:(bd l[i] r.2).1.nl=true:=hn;refine Is.bnq (jO (by simp only [pm,cL]; omega)) (Is.pure ?_);unfold eJ pm;rw [hn,cond_true,jt]
    ·have hn:(bd l[i] r.2).1.nl=false:=hn;refine Is.pure ?_;unfold eJ pm;rw [hn,cond_false]
    have T:gw L ((fH (l.take (i+1)) ⟨true,[],[]⟩ b).2.S.length+1) (gm (fH (l.take (i+1)) ⟨true,[],[]⟩ b).2.P):=by
     rw [a];refine F.congr fun p q=>?_
     unfold gm;rw [Iq,eX]
    refine Is.cnd (fun hn=>?_) (fun hn=>?_)
    ·refine Is.bnq (aK (by omega)) (Is.next ⟨rfl,?_,?_,T⟩)
     ·rw [a]; unfold pm eJ; rw [hn]; rfl
     ·rw [a]
    ·refine Is.bnq (aK (by omega)) (Is.next ⟨rfl,?_,?_,T⟩)
     ·rw [a]; unfold pm eJ; rw [hn]; rfl
     ·rw [a]
   ·rintro ⟨S,H,n,fi,la,_⟩ ⟨rfl,c⟩;rw [Ij] at c;exact Is.df (show ¬ ((l.length:Nat):Int)<(l.length:Int) by omega) (Is.stop c)
  ·have e:bd ⟨5,s,l⟩ b=gj l ⟨false,[],[]⟩ b:=by simp [bd]
   refine Is.cf rfl (Is.ct rfl ?_);rw [e];refine Is.bnd (P:=Aj (gj l ⟨false,[],[]⟩ b)) ?_ (fun v t=>Is.pure t);unfold M.f2;refine Is.bnd (P:=fun (v:Bool×List Int×List Int×List (aT 4)×List (List (Int×Bool)))=>Aj (gj l ⟨false,[],[]⟩ b) (⟨v.1,v.2.1,v.2.2.1⟩,⟨v.2.2.2.1,v.2.2.2.2⟩)) ?_ (fun v t=>Is.pure t);refine Is.upto (fun i (g:List (aT 4)×List (List (Int×Bool))×Bool×List Int×List Int×Int)=>g.2.2.2.2.2=(i:Int)∧Aj (gj (l.take i) ⟨false,[],[]⟩ b) (⟨g.2.2.1,g.2.2.2.1,g.2.2.2.2.1⟩,⟨g.1,g.2.1⟩)) l.length (by omega) ⟨rfl,by simp [gj,Aj,pm,gx,hB]⟩ ?_ ?_
   ·rintro i ⟨S,H,n,fi,la,_⟩ u ⟨rfl,c,D,A⟩;simp only at c D A;obtain ⟨rfl,rfl,rfl⟩:n=(gj (l.take i) ⟨false,[],[]⟩ b).1.nl∧fi=gx (gj (l.take i) ⟨false,[],[]⟩ b).1.fi∧la=gx (gj (l.take i) ⟨false,[],[]⟩ b).1.la:=by
     unfold pm at c; cases c; exact ⟨rfl,rfl,rfl⟩
    subst D;have hq:=pB (l.take i) ⟨false,[],[]⟩ b;have B:=De (l.take i) J;have a1:=eR u;have a2:=cW l (i+1);have a:=qT l[i] (l.take i) ⟨false,[],[]⟩ b;rw [←cO u] at a;generalize gj (l.take i) ⟨false,[],[]⟩ b=r at A hq B a;simp only [List.length_nil] at hq;have hy:=fu l[i] r.2;refine Is.dt (show ((i:Nat):Int)<(l.length:Int) by omega) (Is.bnq (aZ u) (Is.bnd (ih o l[i] r.2 H (K _ (Ii u)) (by omega) A B (by omega)) ?_));rintro ⟨N,I⟩ ⟨w,m,j⟩;simp only at w m j;subst w;have W:M.a1 [gx r.1.fi,(pm (bd l[i] r.2).1).first]=some (gx (iI r.1 (bd l[i] r.2).1).fi):=by
     rw [jO (by simp only [pm,cL]; omega)];unfold iI pm;rw [jt]
    have U:M.a1 [gx r.1.la,(pm (bd l[i] r.2).1).last]=some (gx (iI r.1 (bd l[i] r.2).1).la):=by
     rw [jO (by simp only [pm,cL]; omega)];unfold iI pm;rw [jt]
    refine Is.cnd (fun hn=>?_) (fun hn=>?_)
    ·refine Is.bnq W (Is.bnq U (Is.bnq (aK (by omega)) (Is.next ⟨rfl,?_,?_,?_⟩)))
     ·rw [a]; unfold pm iI; rw [hn]; rfl
     ·rw [a]; exact m
     ·rw [a]; exact j
    ·refine Is.bnq W (Is.bnq U (Is.bnq (aK (by omega)) (Is.next ⟨rfl,?_,?_,?_⟩)))
     ·rw [a]; unfold pm iI; rw [hn]; rfl
     ·rw [a]; exact m
     ·rw [a]; exact j
   ·rintro ⟨S,H,n,fi,la,_⟩ ⟨rfl,c⟩;rw [Ij] at c;exact Is.df (show ¬ ((l.length:Nat):Int)<(l.length:Int) by omega) (Is.stop c)
  ·have c:=rT R
   match l,c with
   | [y],_=>
    have e:bd ⟨6,s,[y]⟩ b=(⟨true,(bd y b).1.fi,(bd y b).1.la⟩,⟨(bd y b).2.S,(bd y b).2.P++dv (bd y b).1.la (bd y b).1.fi⟩):=by simp [bd,Ai]
    refine Is.ct rfl ?_;rw [e];refine Is.bnd (P:=Aj (⟨true,(bd y b).1.fi,(bd y b).1.la⟩,⟨(bd y b).2.S,(bd y b).2.P++dv (bd y b).1.la (bd y b).1.fi⟩)) ?_ (fun v t=>Is.pure t);unfold M.f8;simp only [bF] at hsz;have hy:=fu y b;have Q:=qS y b;refine Is.bnq (x:=y) rfl (Is.bnd (ih o y b z (K y (by simp)) (by omega) hB J (by omega)) ?_);rintro ⟨N,I⟩ ⟨w,m,j⟩;simp only at w m j;subst w;obtain ⟨vs,a0⟩:=I;simp only at m j;subst m;refine Is.bnd (ta j (fr:=(bd y b).1.la) (to:=(bd y b).1.fi) (fun p hp=>by have:=Q.2 p hp; omega) (by omega) (by omega)) ?_;rintro ⟨Y,L⟩ ⟨G,F⟩;simp only at G F;subst G;refine Is.pure ⟨rfl,rfl,F.congr fun p q=>?_⟩;unfold gm;rw [Iq,eX]
def tA (a:List Int) (n:Nat):List Int:=a++List.replicate (n+1 - a.length) (-1)
def lH (la:List Nat) (i:Int) (a:List Int):List Int:=la.foldl (fun a p=>a.set p i) a
def lN (nl:Bool) (i:Int) (a:List Int):List Int:=bif nl && decide (a.getD 0 0<0) then a.set 0 i else a
def rR (i:Nat) (x:T_Regex) (s:Bs×List Int):Bs×List Int:=
 (⟨(bd x s.1).2.S,(bd x s.1).2.P++dv [0] (bd x s.1).1.fi⟩,lN (bd x s.1).1.nl i (lH (bd x s.1).1.la i (tA s.2 (bd x s.1).2.S.length)))
def dH:Nat→List T_Regex→Bs×List Int→Bs×List Int
 | _,[],s=>s
 | i,x::l,s=>dH (i+1) l (rR i x s)
theorem nA (y:T_Regex):∀(l:List T_Regex) (i:Nat) (s:Bs×List Int),dH i (l++[y]) s=rR (i+l.length) y (dH i l s)
 | [],i,s=>by simp [dH]
 | x::l,i,s=>by
  simp only [Iw,dH,IG];rw [nA y l (i+1) (rR i x s)];congr 1; omega
def dj:Bs×List Int:=(⟨[],[]⟩,[-1])
theorem iQ (i:Int):∀(la:List Nat) (a:List Int),(lH la i a).length=a.length
 | [],a=>rfl
 | p::la,a=>by
  have:=iQ i la (a.set p i);rw [IR] at this;exact this
theorem zp (nl:Bool) (i:Int) (a:List Int):(lN nl i a).length=a.length:=by
 unfold lN;cases nl && decide (a.getD 0 0<0) <;> simp
theorem po {a:List Int} {n:Nat} (h:a.length≤n+1):(tA a n).length=n+1:=by
 unfold tA;rw [Ik,IH];omega
structure Dr (s:Bs×List Int):Prop where
  cl:Co s.1
  pos:∀p q,(p,q)∈s.1.P→1≤q
  len:s.2.length=s.1.S.length+1
theorem CJ {i:Nat} {x:T_Regex} {s:Bs×List Int} (h:Dr s):Dr (rR i x s):=by
 obtain ⟨T,Q,hm⟩:=ib x s.1;have d:=pA x s.1;have b:=qS x s.1;have hl:=h.len;refine ⟨fun p q hp=>?_,fun p q hp=>?_,?_⟩
 ·rcases Iq.1 hp with hp|hp
  ·exact ET x h.cl p q hp
  ·obtain ⟨c,a⟩:=eX.1 hp;obtain rfl:=Ip.1 c;exact ⟨Nat.zero_le _,b.1 q a⟩
 ·rcases Iq.1 hp with hp|hp
  ·rw [hm.P] at hp;rcases Iq.1 hp with hp|hp
   ·exact h.pos p q hp
   ·have:=hm.rng.e p q hp; omega
  ·obtain ⟨_,a⟩:=eX.1 hp;have:=hm.rng.fi q a; omega
 ·show (lN _ _ _).length=(bd x s.1).2.S.length+1;rw [zp,iQ,po (by omega)]
theorem jL:∀(l:List T_Regex) (i:Nat) (s:Bs×List Int),Dr s→Dr (dH i l s)
 | [],_,_,h=>h
 | x::l,i,s,h=>jL l (i+1) (rR i x s) (CJ h)
theorem oG:Dr dj:=⟨fun p q h=>by simp [dj] at h,fun p q h=>by simp [dj] at h,rfl⟩
theorem lz:∀(l:List T_Regex) (i:Nat) (s:Bs×List Int),(dH i l s).1.S.length≤s.1.S.length+bF l
 | [],_,s=>by simp [dH,bF]
 | x::l,i,s=>by
  have h1:=lz l (i+1) (rR i x s);have h2:(rR i x s).1.S.length≤s.1.S.length+parts x:=(fu x s.1).2.2;simp only [dH,bF];omega
theorem uh {a:List Int} {n:Nat} (h:a.length≤n+1) (hn:n≤1000000) {body:List Int→Option (cN (List Int) (List Int))}
 (hb:∀s,body s=bif decide ((s.length:Int)≤(n:Int)) then (cy 8 s [(-1)]).bind fun y=>some (.next y) else some (.stop s)):bc body ba a=some (tA a n):=by
 refine Is.eq ?_;refine Is.while (fun s=>∃k,s=a++List.replicate k (-1)∧s.length≤n+1) (fun s=>n+1 - s.length) ⟨0,by simp,h⟩ (by omega) ?_;rintro s ⟨k,rfl,hl⟩;rw [hb];refine Is.dcd (fun b=>Is.bnq (bO (by simp only [Ih]; omega)) (Is.next ⟨⟨k+1,by rw [Ir,List.replicate_succ'],by rw [Ik,Ih]; omega⟩,?_⟩)) (fun b=>Is.stop ?_)
 ·rw [Ik,Ih]; omega
 ·unfold tA;rw [Ik,IH] at b hl;congr 2; omega
theorem tS {a:List Int} {la:List Nat} {v:Int} (f:∀p∈la,p<a.length) (hl:la.length≤1000000) {body:List Int×Int→Option (cN (List Int×Int) (List Int))}
 (hb:∀s i,body (s,i)=bif decide (i<((gx la).length:Int)) then (bD (gx la) i).bind fun e=>(dE s e v).bind fun y=>(cd .i64 (i+1)).bind fun t=>some (.next (y,t)) else some (.stop s)):bc body ba (a,(0:Int))=some (lH la v a):=by
 refine Is.eq ?_;refine Is.upto (fun i (d:List Int×Int)=>d.2=(i:Int)∧d.1=lH (la.take i) v a) la.length (by omega) ⟨rfl,rfl⟩ ?_ ?_
 ·rintro i ⟨s,_⟩ b ⟨rfl,c⟩;obtain rfl:s=_:=c;rw [hb];refine Is.dt (by rw [cL]; omega) (Is.bnq (lj b) (Is.bnq (dk (by rw [iQ]; exact f _ (Ii b))) (Is.bnq (aK (by omega)) (Is.next ⟨rfl,?_⟩))));show List.set _ _ _=_;unfold lH;rw [cO b,List.foldl_append];rfl
 ·rintro ⟨s,_⟩ ⟨rfl,c⟩;obtain rfl:s=_:=c;rw [hb,Ij];exact Is.df (by rw [cL]; omega) (Is.stop rfl)
theorem xY {a:List Int} (h:0<a.length):bD a 0=some (a.getD 0 0):=by
 have:=aZ (l:=a) (i:=0) h;rw [show ((0:Nat):Int)=0 from rfl] at this;rw [this];simp [Ic,h]
theorem zo {α:Type} {n:Bool} {a:List Int} {v:Int} {f:List Int→α} (h:0<a.length) :
 ((bif n then (bD a 0).bind fun e=>some (decide (e<0)) else some false).bind fun x=>bif x then (dE a 0 v).bind fun y=>some (f y) else some (f a))=some (f (lN n v a)):=by
 have hs:dE a 0 v=some (a.set 0 v):=dk (i:=0) h;unfold lN;cases n
 ·rfl
 ·rw [cond_true,xY h,hs];simp only [Ig,Bool.true_and];cases decide (a.getD 0 0<0) <;> rfl
def Ah (S:List (aT 4)) (p q:Nat):ca:=⟨p,q,false,S.getD (q - 1) (aT.zero 4)⟩
def oO (P:List (Nat×Nat)) (N p:Nat):List Nat:=(List.range N).filter fun q=>decide ((p,q)∈P)
def uN (S:List (aT 4)) (P:List (Nat×Nat)) (N p:Nat):List ca:=(oO P N p).map (Ah S p)
def gh (S:List (aT 4)) (P:List (Nat×Nat)) (N k:Nat):List ca:=(List.range k).flatMap (uN S P N)
def dc (l:List T_Regex):T_NFA:=⟨((dH 0 l dj).2.length:Int),0,gh (dH 0 l dj).1.S (dH 0 l dj).1.P (dH 0 l dj).2.length (dH 0 l dj).2.length,(dH 0 l dj).2⟩
theorem pZ (P:List (Nat×Nat)) (N p:Nat):(oO P N p).length≤N:=by
 have:=List.length_filter_le (fun q=>decide ((p,q)∈P)) (List.range N);rw [IN] at this;exact this
theorem jc {P:List (Nat×Nat)} {N p q:Nat}:q∈oO P N p↔q<N∧(p,q)∈P:=by
 unfold oO;rw [IT,IL];simp
theorem oC (P:List (Nat×Nat)) (N p:Nat):(oO P N p).Pairwise (·<·):=List.Pairwise.filter _ List.pairwise_lt_range
theorem oA (S:List (aT 4)) (P:List (Nat×Nat)) (N:Nat):∀k,(gh S P N k).length≤k*N
 | 0=>by simp [gh]
 | k+1=>by
  have:=oA S P N k;have h2:=pZ P N k;unfold gh at this ⊢;rw [IV,List.flatMap_append,Ik,Nat.succ_mul];simp only [List.flatMap_cons,List.flatMap_nil,List.append_nil,uN,Iy] at this ⊢;omega
theorem wc (S:List (aT 4)) (P:List (Nat×Nat)) (N k:Nat):gh S P N (k+1)=gh S P N k++uN S P N k:=by
 unfold gh;rw [IV,List.flatMap_append];simp
theorem zh {f:List (List (Int×Bool))} {N:Nat} {P:List (Nat×Nat)} (h:gw f N (gm P)) (hq:∀p q,(p,q)∈P→q<N) (r:N≤1000000) {p:Nat} {m:List (Int×Bool)} (hm:f[p]?=some m):sd m=some (gx (oO P N p)):=by
 have d:=h.mem p m hm;have j:=h.nd p m hm;have i:(gx (oO P N p)).Nodup:=by
  unfold gx;refine List.pairwise_map.2 ((oC P N p).imp ?_);intro a b l e;have:a=b:=by omega
  omega
 have c:(m.map (·.1)).Perm (gx (oO P N p)):=by
  refine (List.perm_ext_iff_of_nodup j i).2 fun k=>?_
  rw [d];unfold gx;rw [IK];constructor
  ·rintro ⟨q,rfl,hR⟩;exact ⟨q,jc.2 ⟨hq p q hR,hR⟩,rfl⟩
  ·rintro ⟨q,hR,rfl⟩;exact ⟨q,rfl,(jc.1 hR).2⟩
 have hlen:m.length≤N:=by
  have:=c.length_eq;rw [Iy,cL] at this;have:=pZ P N p;omega
 have g:∀x∈m,-9223372036854775808≤x.1∧x.1≤9223372036854775807:=by
  intro x hx;obtain ⟨q,e,hR⟩:=(d x.1).1 (IK.2 ⟨x,hx,rfl⟩);have:=hq p q hR;omega
 unfold sd;rw [if_pos ⟨by omega,g⟩];congr 1;refine List.Perm.eq_of_pairwise (le:=fun a b:Int=>a≤b) (fun a b _ _ o n=>Int.le_antisymm o n) (jJ _) ?_ ((mB _).trans c);unfold gx;refine List.pairwise_map.2 ((oC P N p).imp ?_);intro a b l;omega
theorem ww {S:List (aT 4)} {q:Nat} (h1:1≤q) (h2:q≤S.length):bD S ((q:Int) - 1)=some (S.getD (q - 1) (aT.zero 4)):=by
 have:=aZ (l:=S) (i:=q - 1) (by omega);rw [show ((q - 1:Nat):Int)=(q:Int) - 1 by omega] at this;rw [this];simp [Ic,show q - 1<S.length by omega]
def zN:T_NFA:=⟨0,0,[],[]⟩
def GY {α:Type} (l:List T_Regex) (e:Int) (x:α) (z n:α):Prop:=
 ((∃y∈l,V 30 y=false)∧e=1∧x=z)∨((∀y∈l,V 30 y=true)∧500<bF l∧e=11∧x=z)∨((∀y∈l,V 30 y=true)∧bF l≤500∧e=0∧x=n)
theorem qM {ρ:Type} {l:List T_Regex} (hp:bF l≤1048576) {v n:T_Regex→Option _} (f:∀y∈l,v y=some (V 30 y)) (hn:∀y∈l,n y=some (parts y:Int)) {z:ρ} {body:Int×Int→Option (cN (Int×Int) (cN Int ρ))}
 (hb:∀t i,body (t,i)=bif decide (i<(l.length:Int)) then (bD l i).bind fun e=>(v e).bind fun r=>bif (!r) then some (.stop (.stop z)) else (n e).bind fun m=>(cd .i64 (t+m)).bind fun t=>(cd .i64 (i+1)).bind fun u=>some (.next (t,u)) else some (.stop (.next t))) :
 Is (bc body ba ((0:Int),(0:Int))) (SP (fun t=>(∀y∈l,V 30 y=true)∧t=(bF l:Int)) (fun r=>(∃y∈l,V 30 y=false)∧r=z)):=by
 have hlen:=fy l;refine Is.upto (fun i (d:Int×Int)=>d.2=(i:Int)∧(∀y∈l.take i,V 30 y=true)∧d.1=(bF (l.take i):Int)) l.length (by omega) ⟨rfl,by simp,by simp [bF]⟩ ?_ ?_
 ·rintro i ⟨t,_⟩ a ⟨rfl,b,c⟩;obtain rfl:t=_:=c;have g:=eR a;have j:=cW l (i+1);rw [hb];refine Is.dt (by omega) (Is.bnq (aZ a) (Is.bnq (f _ (Ii a)) (Is.cnd (fun h=>Is.stop ⟨⟨_,Ii a,by simpa using h⟩,rfl⟩) (fun h=>?_))));refine Is.bnq (hn _ (Ii a)) (Is.bnq (x:=(bF (l.take (i+1)):Int)) (by rw [dT (by omega) (by omega),g]; congr 1) (Is.bnq (aK (by omega)) (Is.next ⟨rfl,fun y hy=>?_,rfl⟩)));rw [cO a] at hy;rcases Iq.1 hy with hy|hy
  ·exact b y hy
  ·obtain rfl:=Ip.1 hy;simpa using h
 ·rintro ⟨t,_⟩ ⟨rfl,b,c⟩;obtain rfl:t=_:=c;rw [Ij] at b;rw [hb];refine Is.df (by omega) (Is.stop ⟨b,by rw [Ij]⟩)
theorem wG {σ ρ:Type} {P:σ→Prop} {Q Q':ρ→Prop} {s:cN σ ρ} (h:SP P Q s) (k:∀r,Q r→Q' r):SP P Q' s:=by
 cases s
 ·exact h
 ·exact k _ h
theorem uF {l:List T_Regex} (ok:∀x∈l,bP x) (hp:bF l≤1048576):Is (M.k1 l) (fun e=>GY l e () () ()):=by
 unfold M.k1;have hn:∀y∈l,M.e4 ba y=some (parts y:Int):=fun y hy=>tZ ba y (by have:=eW hy; unfold ba; omega) (by have:=eW hy; omega)
 refine Is.bs (P:=fun t=>(∀y∈l,V 30 y=true)∧t=(bF l:Int)) ((qM hp (v:=M.h1) (n:=M.e4 ba) (fun y hy=>ku (ok y hy)) hn (z:=(1:Int)) (fun _ _=>rfl)).mono fun s hs=>wG hs fun r a=>.inl ⟨a.1,a.2,rfl⟩) fun t c=>?_
 obtain ⟨b,rfl⟩:=c;exact Is.dcd (fun h=>Is.pure (.inr (.inl ⟨b,by omega,rfl,rfl⟩))) (fun h=>Is.pure (.inr (.inr ⟨b,by omega,rfl,rfl⟩)))
theorem Dd:gw [[]] 1 (gm []):=by
 refine ⟨rfl,fun p m h=>?_,fun p m h k=>?_⟩
 ·rw [List.getElem?_singleton] at h;split at h <;> cases h
  simp
 ·rw [List.getElem?_singleton] at h;split at h <;> cases h
  simp [gm]
theorem Bd {l:List T_Regex} (ok:∀x∈l,bP x) (hp:bF l≤1048576):Is (M.d0 l) (fun r=>GY l r.2 r.1 zN (dc l)):=by
 unfold M.d0;have hn:∀y∈l,M.g7 ba y=some (parts y:Int):=fun y hy=>yR ba y (by have:=eW hy; unfold ba; omega) (by have:=eW hy; omega)
 refine Is.bs (P:=fun t=>(∀y∈l,V 30 y=true)∧t=(bF l:Int)) ((qM hp (v:=M.g9) (n:=M.g7 ba) (fun y hy=>qZ (ok y hy)) hn (z:=(zN,(1:Int))) (fun _ _=>rfl)).mono fun s hs=>wG hs fun r j=>.inl ⟨j.1,by rw [j.2],by rw [j.2]⟩) fun t Y=>?_
 obtain ⟨H,rfl⟩:=Y;refine Is.dcd (fun h=>Is.pure (.inr (.inl ⟨H,by omega,rfl,rfl⟩))) (fun h=>?_);have a6:bF l≤500:=by omega
 have hlen:=fy l;refine Is.mono (P:=fun r=>r=(dc l,0)) ?_ (fun r j=>.inr (.inr ⟨H,a6,by rw [j],by rw [j]⟩));have G:=jL l 0 dj oG;have b6:=lz l 0 dj;have b2:dj.1.S.length=0:=rfl;refine Is.bnd (P:=fun (v:List (aT 4)×List (List (Int×Bool))×List Int)=>v.1=(dH 0 l dj).1.S∧gw v.2.1 ((dH 0 l dj).1.S.length+1) (gm (dH 0 l dj).1.P)∧v.2.2=(dH 0 l dj).2) ?_ ?_
 ·refine Is.upto (fun i (c:List (aT 4)×List (List (Int×Bool))×List Int×Int)=>c.2.2.2=(i:Int)∧c.1=(dH 0 (l.take i) dj).1.S∧gw c.2.1 ((dH 0 (l.take i) dj).1.S.length+1) (gm (dH 0 (l.take i) dj).1.P)∧c.2.2.1=(dH 0 (l.take i) dj).2) l.length (by omega) ⟨rfl,rfl,Dd,rfl⟩ ?_ ?_
  ·rintro i ⟨S,B,a,_⟩ o ⟨rfl,e,b,d⟩;simp only at e b d;subst e d;have I:=jL (l.take i) 0 dj oG;have gl:=lz (l.take i) 0 dj;have b4:=eR o;have b5:=cW l (i+1);have m:=nA l[i] (l.take i) 0 dj;rw [←cO o,show 0+(l.take i).length=i by rw [IF]; omega] at m;generalize dH 0 (l.take i) dj=s at b I gl m;have hy:=fu l[i] s.1;have X:=qS l[i] s.1;have b1:=pA l[i] s.1;have hal:=I.len;refine Is.dt (by omega) (Is.bnd (P:=fun (v:List (aT 4)×List (List (Int×Bool))×List Int)=>v.1=(rR i l[i] s).1.S∧gw v.2.1 ((rR i l[i] s).1.S.length+1) (gm (rR i l[i] s).1.P)∧v.2.2=(rR i l[i] s).2) (Is.bnq (aZ o) (Is.bnd (Bf 30 ba l[i] s.1 B (H _ (Ii o)) (by unfold ba; omega) b I.cl (by omega)) ?_)) ?_)
   ·rintro ⟨vp,vs,W⟩ ⟨A,w,u⟩;simp only at A w u;subst A w;refine Is.bnd (ta u (fr:=[0]) (to:=(bd l[i] s.1).1.fi) (fun p hp=>by obtain rfl:=Ip.1 hp; omega) (by simp) (by omega)) ?_;rintro ⟨ws,U⟩ ⟨T,R⟩;simp only at T R;subst T;have L:(tA s.2 (bd l[i] s.1).2.S.length).length=(bd l[i] s.1).2.S.length+1:=po (by omega);refine Is.bnq (uh (a:=s.2) (n:=(bd l[i] s.1).2.S.length) (by omega) (by omega) (fun _=>rfl)) ?_;refine Is.bnq (tS (la:=(bd l[i] s.1).1.la) (v:=(i:Int)) (fun p hp=>by rw [L]; have:=X.2 p hp; omega) (by omega) (fun _ _=>rfl)) ?_;refine Is.of (zo (f:=fun y=>((bd l[i] s.1).2.S,U,y)) (by rw [iQ,L]; omega)) ⟨rfl,R.congr fun p q=>?_,rfl⟩;show _↔(p,q)∈(bd l[i] s.1).2.P++dv [0] (bd l[i] s.1).1.fi;rw [Iq,eX];rfl
   ·rintro ⟨vs,W,va⟩ ⟨A,w,u⟩;simp only at A w u;subst A u;refine Is.bnq (aK (by omega)) (Is.next ⟨rfl,?_,?_,?_⟩)
    ·rw [m]
    ·rw [m]; exact w
    ·rw [m]
  ·rintro ⟨S,B,a,_⟩ ⟨rfl,e,b,d⟩;simp only at e b d;rw [Ij] at e b d;exact Is.df (by omega) (Is.stop ⟨e,b,d⟩)
 ·rintro ⟨S,B,a⟩ ⟨e,b,d⟩;simp only at e b d;subst e d;have hal:=G.len;have a4:∀p q,(p,q)∈(dH 0 l dj).1.P→q<(dH 0 l dj).2.length:=fun p q h=>by have:=G.cl p q h; omega
  have a1:=G.pos;have Q:(dH 0 l dj).2.length≤501:=by omega
  rw [←hal] at b;have b7:=b.len;unfold dc;generalize (dH 0 l dj).2=acc at *;generalize (dH 0 l dj).1.S=S at *;generalize (dH 0 l dj).1.P=P at *;have hL:=oA S P acc.length;have F:∀k,k≤acc.length→(gh S P acc.length k).length≤251001:=fun k F=>Nat.le_trans (hL k) (Nat.le_trans (Nat.mul_le_mul F (Nat.le_refl _)) (Nat.le_trans (Nat.mul_le_mul Q Q) (by decide)))
  refine Is.bnq (x:=gh S P acc.length acc.length) (Is.eq ?_) (Is.pure rfl);refine Is.upto (fun i (c:List ca×Int)=>c.2=(i:Int)∧c.1=gh S P acc.length i) acc.length (by omega) ⟨rfl,rfl⟩ ?_ ?_
  ·rintro i ⟨J,_⟩ o ⟨rfl,g⟩;obtain rfl:J=_:=g;have N:i<B.length:=by omega
   refine Is.dt (by omega) (Is.bnq (x:=gh S P acc.length (i+1)) (Is.eq (Is.bnq (aZ N) (Is.bnq (zh b a4 (by omega) (Ie N)) ?_))) (Is.bnq (aK (by omega)) (Is.next ⟨rfl,rfl⟩)));have b3:=pZ P acc.length i;refine Is.upto (fun k (c:List ca×Int)=>c.2=(k:Int)∧c.1=gh S P acc.length i++((oO P acc.length i).take k).map (Ah S i)) (oO P acc.length i).length (by omega) ⟨rfl,by simp⟩ ?_ ?_
   ·rintro k ⟨K,_⟩ D ⟨rfl,g⟩;obtain rfl:K=_:=g;have a3:=jc.1 (Ii D);have a0:=a1 _ _ a3.2;have h6:=F i (by omega);refine Is.dt (by rw [cL]; omega) (Is.bnq (lj D) (Is.bnq (x:=(((oO P acc.length i)[k]:Int)) - 1) (dT (by omega) (by omega)) (Is.bnq (ww a0 (by omega)) (Is.bnq (bO ?_) (Is.bnq (aK (by omega)) (Is.next ⟨rfl,?_⟩))))))
    ·rw [Ik,Iy,IF,Ih]; omega
    ·rw [cO D,Iz,Ir];rfl
   ·rintro ⟨K,_⟩ ⟨rfl,g⟩;obtain rfl:K=_:=g;refine Is.df (by rw [cL]; omega) (Is.stop ?_);rw [Ij,wc];rfl
  ·rintro ⟨J,_⟩ ⟨rfl,g⟩;obtain rfl:J=_:=g;exact Is.df (by omega) (Is.stop rfl)
theorem AS {a:List Int} {n:Nat} (h:∀x∈a,-1≤x):∀x∈tA a n,-1≤x:=by
 intro x hx;rcases Iq.1 hx with hx|hx
 ·exact h x hx
 ·rw [(List.mem_replicate.1 hx).2]; omega
theorem uq {i:Int} (hi:0≤i):∀(la:List Nat) {a:List Int},(∀x∈a,-1≤x)→∀x∈lH la i a,-1≤x
 | [],_,h=>h
 | p::la,a,h=>uq hi la (a:=a.set p i) fun x hx=>by
  rcases List.mem_or_eq_of_mem_set hx with hx|rfl
  ·exact h x hx
  ·omega
theorem yX {i:Int} (hi:0≤i) {n:Bool} {a:List Int} (h:∀x∈a,-1≤x):∀x∈lN n i a,-1≤x:=by
 unfold lN;cases n && decide (a.getD 0 0<0)
 ·exact h
 ·intro x hx;rcases List.mem_or_eq_of_mem_set hx with hx|rfl
  ·exact h x hx
  ·omega
theorem xf:∀(l:List T_Regex) (i:Nat) (s:Bs×List Int),(∀x∈s.2,-1≤x)→∀x∈(dH i l s).2,-1≤x
 | [],_,_,h=>h
 | y::l,i,s,h=>xf l (i+1) (rR i y s) (yX (Int.natCast_nonneg i) (uq (Int.natCast_nonneg i) _ (AS h)))
theorem jd {S:List (aT 4)} {P:List (Nat×Nat)} {N k:Nat} {a:ca}:a∈gh S P N k↔∃p q,p<k∧q<N∧(p,q)∈P∧a=Ah S p q:=by
 unfold gh uN;rw [List.mem_flatMap];constructor
 ·rintro ⟨p,hp,h⟩;obtain ⟨q,hq,rfl⟩:=IK.1 h;exact ⟨p,q,IL.1 hp,(jc.1 hq).1,(jc.1 hq).2,rfl⟩
 ·rintro ⟨p,q,hp,hq,hR,rfl⟩;exact ⟨p,IL.2 hp,IK.2 ⟨q,jc.2 ⟨hq,hR⟩,rfl⟩⟩
theorem kM {l:List T_Regex} (h:bF l≤500):VN (dc l)∧(dc l).Arcs.length≤251001:=by
 have c:=jL l 0 dj oG;have f:=lz l 0 dj;have d:dj.1.S.length=0:=rfl;have hal:=c.len;have b:(dH 0 l dj).2.length≤501:=by omega
 refine ⟨⟨?_,?_,⟨?_,?_⟩,rfl,xf l 0 dj (by simp [dj]),?_⟩,?_⟩
 ·show (1:Int)≤((dH 0 l dj).2.length:Int); omega
 ·show ((dH 0 l dj).2.length:Int)≤2000; omega
 ·show (0:Int)≤0; omega
 ·show (0:Int)<((dH 0 l dj).2.length:Int); omega
 ·intro a ha;obtain ⟨p,q,hp,hq,_,rfl⟩:=jd.1 ha;refine ⟨⟨?_,?_⟩,⟨?_,?_⟩,fun e=>by cases e⟩
  ·show (0:Int)≤(p:Int); omega
  ·show (p:Int)<((dH 0 l dj).2.length:Int); omega
  ·show (0:Int)≤(q:Int); omega
  ·show (q:Int)<((dH 0 l dj).2.length:Int); omega
 ·exact Nat.le_trans (oA _ _ _ _) (Nat.le_trans (Nat.mul_le_mul b b) (by decide))
end Go.Proofs.YtggpjcdhflcfmaaGreatDoor
namespace Go.Proofs.YtggpjcdhflcfmaaGreatDoor
open Go.Lx
open Classical
def big:Nat:=2199023255552
inductive Fit:T_Regex→Prop where
  | mk (x:T_Regex):W4 x.Set→x.Kids.length≤big→(x.Kind=6→∃y,x.Kids=[y])→(x.Kind=1→x=oE)→(x.Kind=2→x=sP)→(∀y∈x.Kids,Fit y)→Fit x
theorem Fit.len {x} (h:Fit x):x.Kids.length≤big:=by cases h; assumption
theorem Fit.kids {x} (h:Fit x):∀y∈x.Kids,Fit y:=by cases h; assumption
theorem qF {x y:T_Regex} (h:y∈x.Kids):height y<height x:=by
 obtain ⟨k,s,l⟩:=x;have:height y≤cb l:=vO h;simp only [height];omega
theorem ul:∀b x,Fit x→height x<b→M.c5 b x=some (nb x):=by
 intro b;induction b with
 | zero=>intro a _ h; omega
 | succ b ih=>
  rintro ⟨k,s,l⟩ hF hh;have hl:l.length≤9223372036854775807:=Nat.le_trans hF.len (by decide);have d:∀y∈l,M.c5 b y=some (nb y):=fun y hy=>ih y (hF.kids y hy) (by have:=qF (x:=⟨k,s,l⟩) hy; omega)
  have g:=qA (ρ:=cN Unit (cN Unit Bool)) (X:=.stop (.stop false)) (Y:=.next ()) d hl;have c:=zd (ρ:=cN Unit Bool) (X:=.stop true) (Y:=.next ()) d hl;unfold M.c5;rcases gP k with rfl|rfl|rfl|rfl|rfl|⟨c,i,f,e,h6⟩
  ·simp [nb,bn]
  ·simp [nb,bn]
  ·refine Is.eq (Is.bs (P:=fun _=>False) (Is.bnq (x:=false) rfl (Is.cf rfl (Is.ct rfl ?_))) (fun _ h=>h.elim));rw [g];show Is _ (SP _ (fun r=>r=Dq l));rw [yT];cases l.all nb
   ·exact Is.stop rfl
   ·exact Is.stop rfl
  ·refine Is.eq (Is.bs (P:=fun _=>l.any nb=false) (Q:=fun r=>r=Dp l) (Is.bnq (x:=false) rfl (Is.cf rfl (Is.cf rfl (Is.ct rfl ?_)))) (fun _ h=>Is.pure (by rw [vC,h])));rw [c,vC];cases l.any nb
   ·exact Is.next rfl
   ·exact Is.stop rfl
  ·simp [nb,bn]
  ·simp [nb,bn,cv c,cv f,cv e,cv h6]
def FH (x:T_Regex):Prop:=Fit x∧height x<ba
mutual
def ua:T_Regex→List T_Regex
 | ⟨k,s,l⟩=>bif k == 5 then ⟨k,s,l⟩::Fi l else bif k == 1 then [] else [⟨k,s,l⟩]
def Fi:List T_Regex→List T_Regex
 | []=>[]
 | y::l=>ua y++Fi l
end
def GQ (x:T_Regex):List T_Regex:=bif x.Kind == 5 then Fi x.Kids else bif x.Kind == 1 then [] else [x]
def Do:List Nat→List (List Nat)
 | []=>[]
 | a::v=>(a::v)::Do v
mutual
noncomputable def SS:T_Regex→List Nat→List T_Regex
 | ⟨k,s,l⟩,v=>bif k == 4 then SC l v else bif k == 5 then SU l v
  else bif k == 6 then ⟨k,s,l⟩::(Do v).map (fun u=>ct [Fu (l.headD oE) u,⟨k,s,l⟩]) else [⟨k,s,l⟩,oE,sP]
noncomputable def SU:List T_Regex→List Nat→List T_Regex
 | [],_=>[]
 | y::l,v=>SS y v++SU l v
noncomputable def SC:List T_Regex→List Nat→List T_Regex
 | [],_=>[]
 | y::l,v=>(if ne l=[] then (Do v).flatMap (fun u=>SS y u) else (Do v).flatMap (fun u=>GQ (ct (Fu y u::l))))++SC l v
end
noncomputable def hd (y:T_Regex) (l:List T_Regex) (v:List Nat):List T_Regex:=
 if ne l=[] then (Do v).flatMap (fun u=>SS y u) else (Do v).flatMap (fun u=>GQ (ct (Fu y u::l)))
def ix (l:List Bool) (j:Nat):Bool:=l.getD j false
theorem uY {s:aT 4} {n:Nat} (h:iN 6 s n=true):n=1:=by
 simp [iN] at h; exact h.1
theorem yC {k:Int} {s:aT 4} {n:Nat} (hk:k=1∨k=2) (h:iN k s n=true):n=0∧s=aT.zero 4:=by
 rcases hk with rfl|rfl
 ·simp only [iN,beq_self_eq_true,Bool.true_or,cond_true,Bool.and_eq_true,beq_iff_eq] at h; exact h
 ·simp only [iN,beq_self_eq_true,Bool.or_true,cond_true,Bool.and_eq_true,beq_iff_eq] at h; exact h
theorem tf:∀x d,bP x→V d x=true→parts x≤100000→Fit x:=by
 refine T_Regex.ind fun k s l ih d ok a hp=>?_
 have h:bF l+1≤100000:=hp;have hlen:=fy l;cases d with
 | zero=>cases a
 | succ d=>
  rw [V,Bool.and_eq_true,List.all_eq_true] at a;obtain ⟨hs,a⟩:=a;have f:∀j,k=j→j=1∨j=2→(⟨k,s,l⟩:T_Regex)=⟨j,aT.zero 4,[]⟩:=fun j e g=>by
   subst e;obtain ⟨c,b⟩:=yC g hs;have b:s=aT.zero 4:=b;have c:l=[]:=IZ c;rw [b,c]
  refine .mk _ (BR (yO ok)) (by show l.length≤big; unfold big; omega) (fun e=>?_) (fun e=>f 1 e (.inl rfl)) (fun e=>f 2 e (.inr rfl))
   (fun y hy=>ih y hy d (jC ok y hy) (a y hy) (by have:parts y≤bF l:=eW hy; omega))
  obtain rfl:k=6:=e;have:=uY hs;exact List.length_eq_one_iff.1 this
theorem Ab:∀b x,bP x→height x<b→height x≤1000→M.h3 b x=some (height x:Int):=by
 intro b;induction b with
 | zero=>intro a _ h; omega
 | succ b ih=>
  rintro ⟨k,s,l⟩ ok hh hb;have hl:l.length≤9223372036854775807:=Nat.le_trans (vy ok) (by decide);unfold M.h3;refine Is.eq ?_;refine Is.bnd (P:=fun r=>r=((cb l:Nat):Int)) ?_ ?_
  ·refine Is.upto (fun i (e:Int×Int)=>e.2=(i:Int)∧e.1=((cb (l.take i):Nat):Int)) l.length hl ⟨rfl,by simp [cb]⟩ ?_ ?_
   ·rintro i ⟨a,_⟩ c ⟨rfl,d⟩;obtain rfl:a=_:=d;have f:=qF (x:=⟨k,s,l⟩) (Ii c);refine Is.dt (show (i:Int)<(l.length:Int) by omega) (Is.bnq (aZ c) (Is.bnq (ih _ (jC ok _ (Ii c)) (by omega) (by omega)) (Is.bnq (aK (by omega)) (Is.next ⟨rfl,?_⟩))));rw [List.take_add_one,Ie c,kR];simp only [za,Option.toList,cb];split <;> omega
   ·rintro ⟨a,_⟩ ⟨rfl,d⟩;obtain rfl:a=_:=d;refine Is.df (show ¬ (l.length:Int)<(l.length:Int) by omega) (Is.stop ?_);rw [Ij]
  ·rintro _ rfl;have:height (⟨k,s,l⟩:T_Regex)=cb l+1:=rfl;exact Is.bnq (aK (by omega)) (Is.pure (by rw [this]))
section
variable {P N H:Nat} (hP:3≤P) (hM:1≤N) (hB:P*P*(N+1)≤big) (hH:H≤1000) {x:T_Regex} (hF:Fit x) (hp:parts x≤P) (hh:height x≤H)
include hP hM hB hH hF hp hh
end
end Go.Proofs.YtggpjcdhflcfmaaGreatDoor
namespace Go.Proofs.YtggpjcdhflcfmaaGreatDoor
open Go.Lx
def pv (p:Nat×Nat):aT 2:=⟨[(p.1:Int),(p.2:Int)],rfl⟩
def pk (P:List (Nat×Nat)):List (aT 2):=P.map pv
theorem AH (P Q:List (Nat×Nat)):pk (P++Q)=pk P++pk Q:=by simp [pk]
theorem pj (P:List (Nat×Nat)):(pk P).length=P.length:=by simp [pk]
theorem vu (a b:List Nat) (p:Nat):dv (a++[p]) b=dv a b++b.map fun q=>(p,q):=by simp [dv]
theorem we {S:List (aT 4)} {P:List (Nat×Nat)} {la fi:List Nat} (h:P.length+la.length*fi.length≤1000000000) (g:la.length≤1000000) (f:fi.length≤1000000) :
 M.c6 ⟨S,pk P⟩ (gx la) (gx fi)=some ⟨S,pk (P++dv la fi)⟩:=by
 refine Is.eq ?_;unfold M.c6;refine Is.upto (fun i (a:List (aT 2)×Int)=>a.2=(i:Int)∧a.1=pk (P++dv (la.take i) fi)) la.length (by omega) ⟨rfl,by simp [dv]⟩ ?_ ?_
 ·rintro i ⟨s,_⟩ b ⟨rfl,e⟩;obtain rfl:s=_:=e;have d:(i+1)*fi.length≤la.length*fi.length:=IB _ b;rw [Nat.succ_mul] at d;have hlen:(P++dv (la.take i) fi).length=P.length+i*fi.length:=by rw [Ik,ly,IF,Nat.min_eq_left (Nat.le_of_lt b)]
  refine Is.dt (by rw [cL]; omega) (Is.bnq (x:=pk (P++dv (la.take (i+1)) fi)) (Is.eq ?_) (Is.bnq (aK (by omega)) (Is.next ⟨rfl,rfl⟩)));refine Is.upto (fun k (a:List (aT 2)×Int)=>a.2=(k:Int)∧a.1=pk ((P++dv (la.take i) fi)++(fi.take k).map fun q=>(la[i],q))) fi.length (by omega) ⟨rfl,by simp⟩ ?_ ?_
  ·rintro k ⟨s,_⟩ c ⟨rfl,e⟩;obtain rfl:s=_:=e;refine Is.dt (by rw [cL]; omega) (Is.bnq (lj b) (Is.bnq (lj c) (Is.bnq (bO ?_) (Is.bnq (aK (by omega)) (Is.next ⟨rfl,?_⟩)))))
   ·rw [pj,Ik,hlen,Iy,IF,Ih]; omega
   ·rw [cO c,Iz,←Ir,AH (_++_) (List.map _ [fi[k]])];rfl
  ·rintro ⟨s,_⟩ ⟨rfl,e⟩;obtain rfl:s=_:=e;refine Is.df (by rw [cL]; omega) (Is.stop ?_);rw [Ij,cO b,vu,Ir]
 ·rintro ⟨s,_⟩ ⟨rfl,e⟩;obtain rfl:s=_:=e;refine Is.df (by rw [cL]; omega) (Is.stop ?_);rw [Ij]
def uU (x:Pt):cA:=⟨x.nl,gx x.fi,gx x.la⟩
theorem vn {S:List (aT 4)} {P:List (Nat×Nat)} {x y:Pt} (h:P.length+x.la.length*y.fi.length≤1000000000) (d:x.la.length≤100000) (c:y.fi.length≤100000) (b:x.fi.length≤100000) (a:y.la.length≤100000) :
 M.d8 ⟨S,pk P⟩ (uU x) (uU y)=some (uU (eJ x y),⟨S,pk (P++dv x.la y.fi)⟩):=by
 refine Is.eq ?_;unfold M.d8;refine Is.bnq (we h (by omega) (by omega)) ?_;refine Is.bnq (x:=x.nl && y.nl) (Is.eq (Is.cnd (fun hn=>Is.pure ?_) (fun hn=>Is.pure ?_))) ?_
 ·have hn:x.nl=true:=hn;rw [hn]; rfl
 ·have hn:x.nl=false:=hn;rw [hn]; rfl
 refine Is.bnq (x:=gx (eJ x y).fi) (Is.eq (Is.cnd (fun hn=>?_) (fun hn=>Is.pure ?_))) ?_
 ·have hn:x.nl=true:=hn;refine Is.bnq (bO (by simp only [uU,cL,List.length_nil]; omega)) (Is.bnq (bO (by simp only [uU,cL,Iv]; omega)) (Is.pure ?_));unfold eJ uU;rw [hn,cond_true,jt,Iv]
 ·have hn:x.nl=false:=hn;unfold eJ uU;rw [hn,cond_false]
 refine Is.bnq (x:=gx (eJ x y).la) (Is.eq (Is.cnd (fun hn=>?_) (fun hn=>Is.pure ?_))) (Is.pure rfl)
 ·have hn:y.nl=true:=hn;refine Is.bnq (bO (by simp only [uU,cL,List.length_nil]; omega)) (Is.bnq (bO (by simp only [uU,cL,Iv]; omega)) (Is.pure ?_));unfold eJ uU;rw [hn,cond_true,jt,Iv]
 ·have hn:y.nl=false:=hn;unfold eJ uU;rw [hn,cond_false]
section
variable {K q:Nat} (hq:K*K≤q)
include hq
mutual
theorem jQ:∀(x:T_Regex) (b:Bs),parts x≤K→(bd x b).2.P.length+q≤b.P.length+2*(parts x*q)
 | ⟨k,s,l⟩,b,hK=>by
  simp only [parts] at hK ⊢;rw [Nat.add_mul,Nat.one_mul];simp only [bd];cases k == 3
  ·cases k == 4
   ·cases k == 5
    ·cases k == 6
     ·simp only [cond_false]; omega
     ·match l,hK with
      | [],_=>simp only [cond_false,cond_true,Ai]; omega
      | y::l,hK=>
       simp only [bF] at hK;have h:=jQ y b (by omega);have d:=fu y b;have c:(bd y b).1.la.length*(bd y b).1.fi.length≤q:=Nat.le_trans (Nat.mul_le_mul (by omega) (by omega)) hq;simp only [cond_false,cond_true,Ai,bF,Ik,ly,Nat.add_mul];omega
    ·have h:=qU l ⟨false,[],[]⟩ b (by omega);simp only [cond_false,cond_true] at h ⊢;omega
   ·have h:=qX l ⟨true,[],[]⟩ b (by simp only [List.length_nil]; omega);simp only [cond_false,cond_true] at h ⊢;omega
  ·simp only [cond_true]; omega
theorem qX:∀(l:List T_Regex) (x:Pt) (b:Bs),x.la.length+bF l≤K→(fH l x b).2.P.length≤b.P.length+2*(bF l*q)
 | [],x,b,_=>by simp [fH,bF]
 | y::l,x,b,hK=>by
  simp only [bF] at hK;have h:=jQ y b (by omega);have d:=fu y b;have c:x.la.length*(bd y b).1.fi.length≤q:=Nat.le_trans (Nat.mul_le_mul (by omega) (by omega)) hq;have e:(eJ x (bd y b).1).la.length≤x.la.length+(bd y b).1.la.length:=by unfold eJ; cases (bd y b).1.nl <;> simp
  have a:=qX l (eJ x (bd y b).1) ⟨(bd y b).2.S,(bd y b).2.P++dv x.la (bd y b).1.fi⟩ (by omega);simp only [Ik,ly] at a;simp only [fH,bF,Nat.add_mul];omega
theorem qU:∀(l:List T_Regex) (x:Pt) (b:Bs),bF l≤K→(gj l x b).2.P.length≤b.P.length+2*(bF l*q)
 | [],x,b,_=>by simp [gj,bF]
 | y::l,x,b,hK=>by
  simp only [bF] at hK;have h:=jQ y b (by omega);have a:=qU l (iI x (bd y b).1) (bd y b).2 (by omega);simp only [gj,bF,Nat.add_mul];omega
end
theorem qG (a:1≤K):∀(l:List T_Regex) (i:Nat) (s:Bs×List Int),bF l≤K→(dH i l s).1.P.length≤s.1.P.length+2*(bF l*q)
 | [],i,s,_=>by simp [dH,bF]
 | y::l,i,s,hK=>by
  simp only [bF] at hK;have h:=jQ hq y s.1 (by omega);have d:=fu y s.1;have c:K≤q:=Nat.le_trans (by rw [←Nat.mul_one K,Nat.mul_assoc]; exact IC _ (by omega)) hq;have b:=qG a l (i+1) (rR i y s) (by omega);have h6:(rR i y s).1.P.length=(bd y s.1).2.P.length+(bd y s.1).1.fi.length:=by
   show ((bd y s.1).2.P++dv [0] (bd y s.1).1.fi).length=_;rw [Ik,ly];simp
  simp only [dH,bF,Nat.add_mul];omega
end
theorem zH:∀(d a:Nat) (x:T_Regex) (b:Bs),V d x=true→d+1≤a→b.S.length+parts x≤500→b.P.length+500000*parts x≤500000000→M.a8 a ⟨b.S,pk b.P⟩ x=some (uU (bd x b).1,⟨(bd x b).2.S,pk (bd x b).2.P⟩):=by
 intro d;induction d with
 | zero=>intro a x b h; simp [V] at h
 | succ d ih=>
  intro a x b G J hsz t;obtain ⟨a,rfl⟩:∃f,a=f+1:=⟨a - 1,by omega⟩;obtain ⟨k,s,l⟩:=x;obtain ⟨p,n⟩:=zP G;have B:parts ⟨k,s,l⟩=bF l+1:=by simp [parts]
  rw [B] at hsz t;have I:=fy l;refine Is.eq ?_;unfold M.a8;have fin:∀ {o:Option (Bool×List Int×List Int×List (aT 4)×List (aT 2))} {r:Pt×Bs},bd ⟨k,s,l⟩ b=r→Is o (fun v=>v=(r.1.nl,gx r.1.fi,gx r.1.la,r.2.S,pk r.2.P))→
   Is (o.bind fun x=>some ((cA.mk x.1 x.2.1 x.2.2.1),(bS.mk x.2.2.2.1 x.2.2.2.2))) (fun v=>v=(uU (bd ⟨k,s,l⟩ b).1,⟨(bd ⟨k,s,l⟩ b).2.S,pk (bd ⟨k,s,l⟩ b).2.P⟩)):=by
   intro o r F D;refine Is.bnd D fun v w=>Is.pure ?_
   rw [w,F];rfl
  have hq:500*500≤250000:=by decide
  rcases pU p with rfl|rfl|rfl|rfl|rfl|rfl
  ·exact fin (r:=(⟨false,[],[]⟩,b)) (by simp [bd]) (Is.cf rfl (Is.cf rfl (Is.cf rfl (Is.cf rfl (Is.cf rfl (Is.pure rfl))))))
  ·exact fin (r:=(⟨true,[],[]⟩,b)) (by simp [bd]) (Is.ct rfl (Is.pure rfl))
  ·refine fin (r:=(⟨false,[b.S.length+1],[b.S.length+1]⟩,⟨b.S++[s],b.P⟩)) (by simp [bd]) (Is.cf rfl (Is.ct rfl (Is.bnq (bO (by simp only [Ih]; omega)) (Is.pure ?_))));simp [gx]
  ·refine fin (r:=fH l ⟨true,[],[]⟩ b) (by simp [bd]) (Is.cf rfl (Is.cf rfl (Is.ct rfl ?_)));refine Is.upto (fun i (j:List (aT 4)×List (aT 2)×Bool×List Int×List Int×Int)=>j=((fH (l.take i) ⟨true,[],[]⟩ b).2.S,pk (fH (l.take i) ⟨true,[],[]⟩ b).2.P,(fH (l.take i) ⟨true,[],[]⟩ b).1.nl,gx (fH (l.take i) ⟨true,[],[]⟩ b).1.fi,gx (fH (l.take i) ⟨true,[],[]⟩ b).1.la,(i:Int))) l.length (by omega) (by simp [fH,gx]) ?_ ?_
   ·rintro i _ c rfl;have g:=pC (l.take i) ⟨true,[],[]⟩ b;have m:=qX (K:=500) (q:=250000) hq (l.take i) ⟨true,[],[]⟩ b (by have:=cW l i; simp only [List.length_nil]; omega);have z:=eR c;have A:=cW l (i+1);have e:=qW l[i] (l.take i) ⟨true,[],[]⟩ b;rw [←cO c] at e;generalize fH (l.take i) ⟨true,[],[]⟩ b=r at g m e;simp only [List.length_nil] at g;have hy:=fu l[i] r.2;have u:=jQ (K:=500) (q:=250000) hq l[i] r.2 (by omega);have hm:r.1.la.length*(bd l[i] r.2).1.fi.length≤250000:=Nat.le_trans (Nat.mul_le_mul (show _≤500 by omega) (show _≤500 by omega)) hq;refine Is.dt (show ((i:Nat):Int)<(l.length:Int) by omega) (Is.bnq (aZ c) (Is.bnq (ih a l[i] r.2 (n _ (Ii c)) (by omega) (by omega) (by omega)) ?_));refine Is.bnq (vn (x:=r.1) (y:=(bd l[i] r.2).1) (by omega) (by omega) (by omega) (by omega) (by omega)) (Is.bnq (aK (by omega)) (Is.next ?_));rw [e];rfl
   ·rintro _ rfl;refine Is.df (show ¬ ((l.length:Nat):Int)<(l.length:Int) by omega) (Is.stop ?_);rw [Ij]
  ·refine fin (r:=gj l ⟨false,[],[]⟩ b) (by simp [bd]) (Is.cf rfl (Is.cf rfl (Is.cf rfl (Is.ct rfl ?_))));refine Is.upto (fun i (j:List (aT 4)×List (aT 2)×Bool×List Int×List Int×Int)=>j=((gj (l.take i) ⟨false,[],[]⟩ b).2.S,pk (gj (l.take i) ⟨false,[],[]⟩ b).2.P,(gj (l.take i) ⟨false,[],[]⟩ b).1.nl,gx (gj (l.take i) ⟨false,[],[]⟩ b).1.fi,gx (gj (l.take i) ⟨false,[],[]⟩ b).1.la,(i:Int))) l.length (by omega) (by simp [gj,gx]) ?_ ?_
   ·rintro i _ c rfl;have g:=pB (l.take i) ⟨false,[],[]⟩ b;have m:=qU (K:=500) (q:=250000) hq (l.take i) ⟨false,[],[]⟩ b (by have:=cW l i; omega);have z:=eR c;have A:=cW l (i+1);have e:=qT l[i] (l.take i) ⟨false,[],[]⟩ b;rw [←cO c] at e;generalize gj (l.take i) ⟨false,[],[]⟩ b=r at g m e;simp only [List.length_nil] at g;have hy:=fu l[i] r.2;refine Is.dt (show ((i:Nat):Int)<(l.length:Int) by omega) (Is.bnq (aZ c) (Is.bnq (ih a l[i] r.2 (n _ (Ii c)) (by omega) (by omega) (by omega)) ?_));refine Is.bnq (x:=r.1.nl || (bd l[i] r.2).1.nl) (Is.eq (Is.cnd (fun hn=>Is.pure ?_) (fun hn=>Is.pure ?_))) ?_
    ·rw [hn]; rfl
    ·rw [hn]; rfl
    refine Is.bnq (bO (by simp only [cL,List.length_nil]; omega)) (Is.bnq (bO (by simp only [uU,cL,Iv]; omega)) (Is.bnq (bO (by simp only [cL,List.length_nil]; omega)) (Is.bnq (bO (by simp only [uU,cL,Iv]; omega)) (Is.bnq (aK (by omega)) (Is.next ?_)))));rw [e];simp only [Iv,uU,iI,jt]
   ·rintro _ rfl;refine Is.df (show ¬ ((l.length:Nat):Int)<(l.length:Int) by omega) (Is.stop ?_);rw [Ij]
  ·have H:=rT p;obtain ⟨y,rfl⟩:=List.length_eq_one_iff.1 H;simp only [bF] at hsz t;have hy:=fu y b;have u:=jQ (K:=500) (q:=250000) hq y b (by omega);have hm:(bd y b).1.la.length*(bd y b).1.fi.length≤250000:=Nat.le_trans (Nat.mul_le_mul (show _≤500 by omega) (show _≤500 by omega)) hq;refine fin (r:=(⟨true,(bd y b).1.fi,(bd y b).1.la⟩,⟨(bd y b).2.S,(bd y b).2.P++dv (bd y b).1.la (bd y b).1.fi⟩)) (by simp [bd,Ai]) (Is.cf rfl (Is.cf rfl (Is.cf rfl (Is.cf rfl (Is.ct rfl ?_)))));refine Is.bnq (x:=y) rfl (Is.bnq (ih a y b (n y (by simp)) (by omega) (by omega) (by omega)) ?_);refine Is.bnq (we (la:=(bd y b).1.la) (fi:=(bd y b).1.fi) (by omega) (by omega) (by omega)) (Is.pure rfl)
theorem sk {α:Type} (N:Nat) (f:Nat→Bool) (g:Nat→α):∀k,((List.range (k*N)).filter f).map g=(List.range k).flatMap fun p=>((List.range N).filter fun q=>f (p*N+q)).map fun q=>g (p*N+q)
 | 0=>by simp
 | k+1=>by
  rw [Nat.succ_mul,List.range_add,List.filter_append,Iz,sk N f g k,IV,List.flatMap_append];congr 1;simp only [List.flatMap_cons,List.flatMap_nil,List.append_nil];rw [List.filter_map,IW];rfl
theorem nC {N p q:Nat} (hq:q<N):(p*N+q) / N=p∧(p*N+q) % N=q:=by
 have hN:0<N:=by omega
 rw [Nat.mul_comm p N,Nat.mul_add_div hN,Nat.div_eq_of_lt hq,Nat.mul_add_mod,IY hq];exact ⟨Nat.add_zero _,rfl⟩
theorem kT {α β:Type} {f g:α→List β}:∀ {l:List α},(∀x∈l,f x=g x)→l.flatMap f=l.flatMap g
 | [],_=>rfl
 | x::l,h=>by rw [List.flatMap_cons,List.flatMap_cons,h x (by simp),kT fun y hy=>h y (by simp [hy])]
theorem wb (S:List (aT 4)) (P:List (Nat×Nat)) (N:Nat):((List.range (N*N)).filter fun i=>decide ((i / N,i % N)∈P)).map (fun i=>Ah S (i / N) (i % N))=gh S P N N:=by
 rw [sk];unfold gh;refine kT fun p _=>?_
 unfold uN oO;have a:((List.range N).filter fun q=>decide (((p*N+q) / N,(p*N+q) % N)∈P))=(List.range N).filter fun q=>decide ((p,q)∈P):=by
  refine IS fun q hq=>?_
  rw [(nC (IL.1 hq)).1,(nC (IL.1 hq)).2]
 rw [a];refine List.map_congr_left fun q hq=>?_
 have hq:=IL.1 (IT.1 hq).1;rw [(nC hq).1,(nC hq).2]
theorem Ao (p:Nat×Nat):ic (pv p) 0=some (p.1:Int):=by simp [ic,pv]
theorem An (p:Nat×Nat):ic (pv p) 1=some (p.2:Int):=by simp [ic,pv]
theorem CR {n:Nat} (h:n≤9223372036854775807):cd .i64 (n:Int)=some (n:Int):=dT (by omega) (by omega)
theorem Ds {n:Nat} (h:n≤9223372036854775807):IntKind.i64.wrap (n:Int)=(n:Int):=fZ (by omega) (by omega)
theorem vj {l:List T_Regex} (ok:∀x∈l,bP x) (u:∀y∈l,V 30 y=true) (hp:bF l≤500):M.c7 l=some (dc l,0):=by
 refine Is.eq ?_;unfold M.c7;refine Is.bnd (uF ok (by omega)) fun e Q=>?_
 obtain rfl:e=0:=by
  rcases Q with ⟨⟨y,hy,h⟩,_⟩|⟨_,h,_⟩|⟨_,_,h,_⟩
  ·rw [u y hy] at h; cases h
  ·omega
  ·exact h
 refine Is.cf rfl ?_;have hlen:=fy l;have a1:dj.1.S.length=0:=rfl;have a5:dj.1.P.length=0:=rfl;have hq:500*500≤250000:=by decide
 have r:=jL l 0 dj oG;have a8:=lz l 0 dj;have a7:=qG (K:=500) (q:=250000) hq (by omega) l 0 dj (by omega);refine Is.bnq (x:=((dH 0 l dj).1.S,pk (dH 0 l dj).1.P,(dH 0 l dj).2)) (Is.eq ?_) ?_
 ·refine Is.upto (fun i (c:List (aT 4)×List (aT 2)×List Int×Int)=>c=((dH 0 (l.take i) dj).1.S,pk (dH 0 (l.take i) dj).1.P,(dH 0 (l.take i) dj).2,(i:Int))) l.length (by omega) rfl ?_ ?_
  ·rintro i _ b rfl;have F:=jL (l.take i) 0 dj oG;have R:=lz (l.take i) 0 dj;have a3:=eR b;have a4:=cW l (i+1);have gp:=qG (K:=500) (q:=250000) hq (by omega) (l.take i) 0 dj (by omega);have m:=nA l[i] (l.take i) 0 dj;rw [←cO b,show 0+(l.take i).length=i by rw [IF]; omega] at m;generalize dH 0 (l.take i) dj=s at F R gp m;have hy:=fu l[i] s.1;have G:=qS l[i] s.1;have Y:=pA l[i] s.1;have a0:=jQ (K:=500) (q:=250000) hq l[i] s.1 (by omega);have hal:=F.len;have w:(tA s.2 (bd l[i] s.1).2.S.length).length=(bd l[i] s.1).2.S.length+1:=po (by omega);refine Is.dt (by omega) (Is.bnq (x:=((rR i l[i] s).1.S,pk (rR i l[i] s).1.P,(rR i l[i] s).2)) (Is.eq (Is.bnq (aZ b) (Is.bnq (zH 30 ba l[i] s.1 (u _ (Ii b)) (by unfold ba; omega) (by omega) (by omega)) ?_))) (Is.bnq (aK (by omega)) (Is.next (by rw [m]))));refine Is.bnq (we (la:=[0]) (fi:=(bd l[i] s.1).1.fi) (by simp only [Ih]; omega) (by simp) (by omega)) ?_;refine Is.bnq (uh (a:=s.2) (n:=(bd l[i] s.1).2.S.length) (by omega) (by omega) (fun _=>rfl)) ?_;refine Is.bnq (tS (la:=(bd l[i] s.1).1.la) (v:=(i:Int)) (fun p hp=>by rw [w]; have:=G.2 p hp; omega) (by omega) (fun _ _=>rfl)) ?_;exact Is.of (zo (f:=fun y=>((bd l[i] s.1).2.S,pk ((bd l[i] s.1).2.P++dv [0] (bd l[i] s.1).1.fi),y)) (by rw [iQ,w]; omega)) rfl
  ·rintro _ rfl;refine Is.df (by omega) (Is.stop ?_);rw [Ij]
 have hal:=r.len;have B:∀p q,(p,q)∈(dH 0 l dj).1.P→p<(dH 0 l dj).2.length∧q<(dH 0 l dj).2.length:=fun p q h=>by have:=r.cl p q h; omega
 have I:=r.pos;have D:(dH 0 l dj).2.length≤501:=by omega
 unfold dc;generalize (dH 0 l dj).2=acc at *;generalize (dH 0 l dj).1.S=S at *;generalize (dH 0 l dj).1.P=P at *;have b0:acc.length*acc.length≤251001:=Nat.le_trans (Nat.mul_le_mul D D) (by decide);have b1:0<acc.length:=by omega
 refine Is.bnq (x:=((acc.length*acc.length:Nat):Int)) (by rw [show (acc.length:Int)*(acc.length:Int)=((acc.length*acc.length:Nat):Int) by rw [Int.natCast_mul]]; exact CR (by omega)) ?_;refine Is.bnq (eH (by omega)) ?_;have L:∀p q,p<acc.length→q<acc.length→p*acc.length+q<acc.length*acc.length:=fun p q g d=>by
  have:(p+1)*acc.length≤acc.length*acc.length:=IB _ g;rw [Nat.succ_mul] at this;omega
 refine Is.bnd (P:=fun h:List Bool=>h.length=acc.length*acc.length∧∀j,j<acc.length*acc.length→(h[j]?=some true↔(j / acc.length,j % acc.length)∈P)) ?_ ?_
 ·refine Is.upto (fun i (c:List Bool×Int)=>c.2=(i:Int)∧c.1.length=acc.length*acc.length∧∀j,j<acc.length*acc.length→(c.1[j]?=some true↔(j / acc.length,j % acc.length)∈P.take i)) P.length (by omega) ⟨rfl,by simp,fun j z=>by simp [z]⟩ ?_ ?_
  ·rintro i ⟨h,_⟩ b ⟨rfl,g,d⟩;simp only at g d;obtain ⟨c1,c2⟩:=B P[i].1 P[i].2 (Ii b);have z:=L _ _ c1 c2;have a6:P[i].1*acc.length≤acc.length*acc.length:=IB _ (by omega);refine Is.dt (by rw [pj]; omega) (Is.bnq (x:=pv P[i]) (by rw [aZ (by rw [pj]; exact b)]; simp [pk]) (Is.bnq (Ao _) (Is.bnq (x:=((P[i].1*acc.length:Nat):Int)) (by rw [show ((P[i].1:Nat):Int)*(acc.length:Int)=((P[i].1*acc.length:Nat):Int) by rw [Int.natCast_mul]]; exact CR (by omega)) (Is.bnq (An _) (Is.bnq (x:=((P[i].1*acc.length+P[i].2:Nat):Int)) (by rw [show ((P[i].1*acc.length:Nat):Int)+((P[i].2:Nat):Int)=((P[i].1*acc.length+P[i].2:Nat):Int) by omega]; exact CR (by omega)) (Is.bnq (dk (by omega)) (Is.bnq (aK (by omega)) (Is.next ⟨rfl,by rw [IR]; exact g,fun j J=>?_⟩))))))));rw [IQ,cO b,Iq,Ip];obtain ⟨X,W⟩:=nC (p:=P[i].1) c2
   by_cases e:P[i].1*acc.length+P[i].2=j
   ·rw [if_pos e,if_pos (by omega)];subst e;rw [X,W];simp
   ·rw [if_neg e,d j J];constructor
    ·exact .inl
    ·rintro (k|k)
     ·exact k
     ·exfalso;have U:j / acc.length=P[i].1:=by rw [←k]
      have T:j % acc.length=P[i].2:=by rw [←k]
      have:=Nat.div_add_mod j acc.length;rw [U,T,Nat.mul_comm] at this;exact e this
  ·rintro ⟨h,_⟩ ⟨rfl,g,d⟩;rw [Ij] at d;exact Is.df (by rw [pj]; omega) (Is.stop ⟨g,d⟩)
 ·rintro h ⟨g,d⟩;refine Is.bnq (x:=gh S P acc.length acc.length) (Is.eq ?_) (Is.pure rfl);rw [←wb];refine Is.upto (fun i (c:List ca×Int)=>c.2=(i:Int)∧c.1=((List.range i).filter fun i=>decide ((i / acc.length,i % acc.length)∈P)).map (fun i=>Ah S (i / acc.length) (i % acc.length))) (acc.length*acc.length) (by omega) ⟨rfl,rfl⟩ ?_ ?_
  ·rintro i ⟨t,_⟩ b ⟨rfl,e⟩;obtain rfl:t=_:=e;have N:=List.length_filter_le (fun i=>decide ((i / acc.length,i % acc.length)∈P)) (List.range i);rw [IN] at N;have A:i<h.length:=by omega
   have o:=d i b;rw [Ie A] at o;refine Is.dt (by omega) (Is.bnq (x:=((List.range (i+1)).filter fun i=>decide ((i / acc.length,i % acc.length)∈P)).map (fun i=>Ah S (i / acc.length) (i % acc.length))) (Is.eq (Is.bnq (aZ A) (Is.cnd (fun hb=>?_) (fun hb=>Is.pure ?_)))) (Is.bnq (aK (by omega)) (Is.next ⟨rfl,rfl⟩)))
   ·have hm:=o.1 (by rw [hb]);have H:=I _ _ hm;have a2:=(B _ _ hm).2;have a9:i / acc.length≤i:=Nat.div_le_self _ _;refine Is.bnq (wK (by omega) (Ds (by omega))) (Is.bnq (mY (by omega)) (Is.bnq (x:=((i % acc.length:Nat):Int) - 1) (dT (by omega) (by omega)) (Is.bnq (ww H (by omega)) (Is.bnq (bO (by rw [Iy,Ih]; omega)) (Is.pure ?_)))));rw [IV,List.filter_append,Iz];simp [hm,Ah]
   ·have hm:¬ (i / acc.length,i % acc.length)∈P:=fun hm=>by have:=o.2 hm; rw [hb] at this; cases this
    rw [IV,List.filter_append,Iz];simp [hm]
  ·rintro ⟨t,_⟩ ⟨rfl,e⟩;obtain rfl:t=_:=e;exact Is.df (by omega) (Is.stop rfl)
mutual
theorem pz:∀(x:T_Regex) (b:Bs),bP x→(∀v∈b.S,W4 v)→∀v∈(bd x b).2.S,W4 v
 | ⟨k,s,l⟩,b,ok,h=>by
  simp only [bd];cases k == 3
  ·cases k == 4
   ·cases k == 5
    ·cases k == 6
     ·exact h
     ·match l,ok with
      | [],_=>exact h
      | y::l,ok=>exact pz y b (jC ok y (by simp)) h
    ·exact uL l _ b (jC ok) h
   ·exact uM l _ b (jC ok) h
  ·intro v a;rcases Iq.1 a with a|a
   ·exact h v a
   ·rw [Ip.1 a]; exact BR (yO ok)
theorem uM:∀(l:List T_Regex) (x:Pt) (b:Bs),(∀y∈l,bP y)→(∀v∈b.S,W4 v)→∀v∈(fH l x b).2.S,W4 v
 | [],_,_,_,h=>by simpa [fH] using h
 | y::l,x,b,ok,h=>by
  simp only [fH];exact uM l _ _ (fun z c=>ok z (by simp [c])) (pz y b (ok y (by simp)) h)
theorem uL:∀(l:List T_Regex) (x:Pt) (b:Bs),(∀y∈l,bP y)→(∀v∈b.S,W4 v)→∀v∈(gj l x b).2.S,W4 v
 | [],_,_,_,h=>by simpa [gj] using h
 | y::l,x,b,ok,h=>by
  simp only [gj];exact uL l _ _ (fun z c=>ok z (by simp [c])) (pz y b (ok y (by simp)) h)
end
theorem ux:∀(l:List T_Regex) (i:Nat) (s:Bs×List Int),(∀y∈l,bP y)→(∀v∈s.1.S,W4 v)→∀v∈(dH i l s).1.S,W4 v
 | [],_,_,_,h=>h
 | y::l,i,s,ok,h=>ux l (i+1) (rR i y s) (fun z hz=>ok z (by simp [hz])) (pz y s.1 (ok y (by simp)) h)
theorem rX {l:List T_Regex} (ok:∀x∈l,bP x) (hp:bF l≤500):FitN (dc l):=by
 obtain ⟨b,hl⟩:=kM hp;refine b.fit (by omega) fun a ha=>?_
 obtain ⟨p,q,_,_,_,rfl⟩:=jd.1 ha;show W4 ((dH 0 l dj).1.S.getD (q - 1) (aT.zero 4));rw [Ic];cases h:(dH 0 l dj).1.S[q - 1]? with
 | none=>exact jR
 | some v=>exact ux l 0 dj ok (by simp [dj]) v (List.mem_of_getElem? h)
section
variable (l:List T_Regex)
def sJ (j:Nat):Bs×List Int:=dH 0 (l.take j) dj
def xJ (j:Nat):T_Regex:=l.getD j oE
def pJ (j:Nat):Pt:=(bd (xJ l j) (sJ l j).1).1
def lo (j:Nat):Nat:=(sJ l j).1.S.length
theorem yr {j:Nat} (h:j<l.length):xJ l j=l[j]:=by simp [xJ,Ic,h]
theorem mV {j:Nat} (h:j<l.length):sJ l (j+1)=rR j (xJ l j) (sJ l j):=by
 unfold sJ;rw [cO h,nA,yr l h];congr 1;rw [IF]; omega
theorem vG (j:Nat):∃T Q,Dk (sJ l j).1 (bd (xJ l j) (sJ l j).1) T Q (L (xJ l j)):=ib _ _
noncomputable def tJ (j:Nat):List (aT 4):=(vG l j).choose
noncomputable def qJ (j:Nat):List (Nat×Nat):=(vG l j).choose_spec.choose
theorem mJ (j:Nat):Dk (sJ l j).1 (bd (xJ l j) (sJ l j).1) (tJ l j) (qJ l j) (L (xJ l j)):=(vG l j).choose_spec.choose_spec
theorem sZ {j:Nat} (h:j<l.length):lo l (j+1)=(bd (xJ l j) (sJ l j).1).2.S.length:=by
 unfold lo;rw [mV l h];rfl
theorem mW {j:Nat} (h:j<l.length):lP (gm (qJ l j)) (pJ l j) (lo l j) (lo l (j+1)):=by
 rw [sZ l h];exact (mJ l j).rng
theorem jI {i j:Nat} (hij:i≤j) (hj:j≤l.length):lo l i≤lo l j:=by
 induction hij with
 | refl=>exact Nat.le_refl _
 | @step j hij ih=>exact Nat.le_trans (ih (by omega)) (mW l (j:=j) (by omega)).le
theorem DJ {i j:Nat} (hij:i≤j) (hj:j≤l.length):∃V,(sJ l j).1.S=(sJ l i).1.S++V:=by
 induction hij with
 | refl=>exact ⟨[],by simp⟩
 | @step j hij ih=>
  obtain ⟨V,hV⟩:=ih (by omega);refine ⟨V++tJ l j,?_⟩;rw [mV l (by omega)];show (bd (xJ l j) (sJ l j).1).2.S=_;rw [(mJ l j).S,hV,Ir]
theorem yF {j:Nat} (h:j<l.length):oJ (tC (sJ l l.length).1.S) (gm (qJ l j)) (pJ l j) (L (xJ l j)):=by
 refine (mJ l j).rep _ ?_;obtain ⟨V,hV⟩:=DJ l (i:=j+1) (j:=l.length) (by omega) (Nat.le_refl _);refine ⟨V,?_⟩;rw [hV,mV l h];rfl
theorem px:∀k,k≤l.length→∀p r,(p,r)∈(sJ l k).1.P↔∃j,j<k∧(gm (qJ l j) p r∨(p=0∧r∈(pJ l j).fi))
 | 0,_,p,r=>by simp [sJ,dH,dj]
 | k+1,hk,p,r=>by
  rw [mV l (by omega)];show (p,r)∈(bd (xJ l k) (sJ l k).1).2.P++dv [0] (bd (xJ l k) (sJ l k).1).1.fi↔_;rw [Iq,eX,(mJ l k).P,Iq,px k (by omega),Ip];constructor
  ·rintro ((⟨j,a,h⟩|h)|h)
   ·exact ⟨j,by omega,h⟩
   ·exact ⟨k,by omega,.inl h⟩
   ·exact ⟨k,by omega,.inr h⟩
  ·rintro ⟨j,a,h⟩
   by_cases e:j=k
   ·subst e;rcases h with h|h
    ·exact .inl (.inr h)
    ·exact .inr h
   ·exact .inl (.inl ⟨j,by omega,h⟩)
theorem yL {M:Nat→Nat→Prop} {j:Nat} (c:j<l.length) {p q:Nat} (hp:lo l j<p∧p≤lo l (j+1)) {w:List Nat}:lQ M (gm (sJ l l.length).1.P) p w q↔lQ M (gm (qJ l j)) p w q:=by
 have f:=mW l c;refine gC (R:=fun p=>lo l j<p∧p≤lo l (j+1)) (fun p r hp=>?_) (fun p r hp h=>?_) w hp
 ·show (p,r)∈(sJ l l.length).1.P↔_;rw [px l l.length (Nat.le_refl _)];constructor
  ·rintro ⟨i,b,h|h⟩
   ·have d:=((mW l b).e _ _ h).1
    by_cases e:i=j
    ·subst e; exact h
    ·exfalso;rcases Nat.lt_or_gt_of_ne e with a|a
     ·have:=jI l (i:=i+1) (j:=j) a (by omega); omega
     ·have:=jI l (i:=j+1) (j:=i) a (by omega); omega
   ·omega
  ·exact fun h=>⟨j,c,.inl h⟩
 ·have h:(p,r)∈(sJ l l.length).1.P:=h;rw [px l l.length (Nat.le_refl _)] at h;obtain ⟨i,b,h|h⟩:=h
  ·have d:=(mW l b).e _ _ h
   by_cases e:i=j
   ·subst e; exact d.2
   ·exfalso;rcases Nat.lt_or_gt_of_ne e with a|a
    ·have:=jI l (i:=i+1) (j:=j) a (by omega); omega
    ·have:=jI l (i:=j+1) (j:=i) a (by omega); omega
  ·omega
end
theorem sE {v:Int} {p:Nat}:∀(la:List Nat) (a:List Int),p<a.length→p∈la→(lH la v a)[p]?=some v
 | [],_,_,h=>by simp at h
 | q::la,a,hp,h=>by
  show (lH la v (a.set q v))[p]?=some v
  by_cases b:p∈la
  ·exact sE la _ (by rw [IR]; exact hp) b
  ·obtain rfl:p=q:=by
    rcases IJ.1 h with h|h
    ·exact h
    ·exact absurd h b
   have:∀(la:List Nat) (a:List Int),p∉la→(lH la v a)[p]?=a[p]?:=by
    intro la;induction la with
    | nil=>intro a _; rfl
    | cons r la ih=>
     intro a hn;show (lH la v (a.set r v))[p]?=_;rw [ih _ (fun h=>hn (by simp [h])),List.getElem?_set_ne (fun e=>hn (by simp [e]))]
   rw [this la _ b,List.getElem?_set_self hp]
theorem mU {v:Int} {p:Nat}:∀(la:List Nat) (a:List Int),p∉la→(lH la v a)[p]?=a[p]?
 | [],_,_=>rfl
 | r::la,a,hn=>by
  show (lH la v (a.set r v))[p]?=_;rw [mU la _ (fun h=>hn (by simp [h])),List.getElem?_set_ne (fun e=>hn (by simp [e]))]
theorem sT {a:List Int} {n p:Nat} (h:p<a.length):(tA a n)[p]?=a[p]?:=by unfold tA; rw [Iu h]
theorem AM {a:List Int} {n p:Nat} (h:a.length≤p) {v:Int} (hv:(tA a n)[p]?=some v):v=-1:=by
 unfold tA at hv;rw [IM h,List.getElem?_replicate] at hv;split at hv <;> cases hv
 rfl
theorem uA {n:Bool} {v:Int} {a:List Int} {p:Nat} (hp:0<p):(lN n v a)[p]?=a[p]?:=by
 unfold lN;cases n && decide (a.getD 0 0<0)
 ·rfl
 ·rw [cond_true,List.getElem?_set_ne (by omega)]
structure GZ (l:List T_Regex) (k:Nat) (a:List Int):Prop where
  inn:∀j,j<k→∀p∈(pJ l j).la,a[p]?=some (j:Int)
  out:∀p v,0<p→a[p]?=some v→0≤v→∃j,j<k∧v=(j:Int)∧p∈(pJ l j).la
  zero:(a[0]?=some (-1)∧∀j,j<k→(pJ l j).nl=false)∨∃j,j<k∧a[0]?=some (j:Int)∧(pJ l j).nl=true∧∀i,i<j→(pJ l i).nl=false
theorem Cm (l:List T_Regex):∀k,k≤l.length→GZ l k (sJ l k).2
 | 0,_=>by
  refine ⟨fun j h=>by omega,fun p v hp h=>?_,.inl ⟨rfl,fun j h=>by omega⟩⟩;have h:([-1]:List Int)[p]?=some v:=h;rw [List.getElem?_singleton,if_neg (by omega)] at h;cases h
 | k+1,hk=>by
  have ih:=Cm l k (by omega);have m:k<l.length:=by omega
  have t:Dr (sJ l k):=jL _ _ _ oG;have q:=mW l m;have hlen:(sJ l k).2.length=lo l k+1:=t.len;rw [mV l m];have r:(tA (sJ l k).2 (bd (xJ l k) (sJ l k).1).2.S.length).length=lo l (k+1)+1:=by
   rw [sZ l m,po];rw [hlen,←sZ l m];have:=q.le;omega
  have g:∀p∈(pJ l k).la,lo l k<p∧p≤lo l (k+1):=q.la;have s:(0:Nat)∉(pJ l k).la:=fun h=>by have:=g 0 h; omega
  have b:(lH (pJ l k).la (k:Int) (tA (sJ l k).2 (bd (xJ l k) (sJ l k).1).2.S.length))[0]?=(sJ l k).2[0]?:=by
   rw [mU _ _ s,sT (by omega)]
  show GZ l (k+1) (lN (pJ l k).nl (k:Int) (lH (pJ l k).la (k:Int) (tA (sJ l k).2 (bd (xJ l k) (sJ l k).1).2.S.length)));refine ⟨fun j o p hp=>?_,fun p v hp a h=>?_,?_⟩
  ·have w:=(mW l (j:=j) (by omega)).la p hp;rw [uA (by omega)]
   by_cases e:j=k
   ·subst e;exact sE _ _ (by rw [r]; have:=g p hp; omega) hp
   ·have d:=jI l (i:=j+1) (j:=k) (by omega) (by omega);rw [mU _ _ (fun h=>by have:=g p h; omega),sT (by omega)];exact ih.inn j (by omega) p hp
  ·rw [uA hp] at a
   by_cases d:p∈(pJ l k).la
   ·by_cases c:p<(tA (sJ l k).2 (bd (xJ l k) (sJ l k).1).2.S.length).length
    ·rw [sE _ _ c d] at a;exact ⟨k,by omega,(Option.some.inj a).symm,d⟩
    ·have:=g p d; omega
   ·rw [mU _ _ d] at a;rcases Nat.lt_or_ge p (sJ l k).2.length with c|c
    ·rw [sT c] at a;obtain ⟨j,o,e,hm⟩:=ih.out p v hp a h;exact ⟨j,by omega,e,hm⟩
    ·have:=AM c a; omega
  ·generalize hA:lH (pJ l k).la (k:Int) (tA (sJ l k).2 (bd (xJ l k) (sJ l k).1).2.S.length)=A at b;have u:0<A.length:=by rw [←hA,iQ,r]; omega
   rcases ih.zero with ⟨n,f⟩|⟨j,o,n,f,z3⟩
   ·rw [n] at b;have hd:A.getD 0 0=-1:=by rw [Ic,b]; rfl
    cases hn:(pJ l k).nl
    ·left;refine ⟨by unfold lN; exact b,fun j o=>?_⟩
     by_cases e:j=k
     ·subst e; exact hn
     ·exact f j (by omega)
    ·right;refine ⟨k,by omega,?_,hn,f⟩;unfold lN;rw [hd];show (A.set 0 (k:Int))[0]?=_;rw [List.getElem?_set_self u]
   ·right;rw [n] at b;have hd:A.getD 0 0=(j:Int):=by rw [Ic,b]; rfl
    refine ⟨j,by omega,?_,f,z3⟩;unfold lN;rw [hd];have:decide ((j:Int)<0)=false:=decide_eq_false (by omega);rw [this,Bool.and_false];exact b
theorem jP {l:List T_Regex} (hn:FitN (dc l)) {T:List Int} {s:Int}:s∈clo (dc l) T↔s∈T∧0≤s∧s<((dH 0 l dj).2.length:Int):=by
 rw [pw hn];constructor
 ·intro h;cases h with
  | base h1 h2 h3=>exact ⟨h1,h2,h3⟩
  | arc ha he _=>
   obtain ⟨p,q,_,_,_,rfl⟩:=jd.1 ha;cases he
 ·rintro ⟨h1,h2,h3⟩;exact .base h1 h2 h3
open Classical in
theorem wE {l:List T_Regex} (hn:FitN (dc l)) {T:List Int} {b:Nat} {r:Nat} (k:∀s∈T,0≤s∧s<((dH 0 l dj).2.length:Int)) :
 (r:Int)∈fC (dc l) T b↔∃p:Nat,(p:Int)∈T∧(p,r)∈(dH 0 l dj).1.P∧tC (dH 0 l dj).1.S r b:=by
 have c:=jL l 0 dj oG;have hal:=c.len;unfold fC;rw [jP hn];unfold Ae;constructor
 ·rintro ⟨m,_,_⟩;obtain ⟨a,ha,e⟩:=IK.1 m;obtain ⟨j,d⟩:=IT.1 ha;obtain ⟨p,q,_,_,hR,rfl⟩:=jd.1 j;obtain rfl:q=r:=by have e:((q:Nat):Int)=(r:Int):=e; omega
  simp only [Ah,Bool.not_false,Bool.true_and,Bool.and_eq_true] at d;have i:=c.cl p q hR;have hp:=c.pos p q hR;refine ⟨p,((jP hn).1 (of_decide_eq_true d.1)).1,hR,_,Ie (show q - 1<(dH 0 l dj).1.S.length by omega),?_⟩;have f:=d.2;rw [Ic,Ie (show q - 1<(dH 0 l dj).1.S.length by omega)] at f;exact f
 ·rintro ⟨p,hp,hR,v,g,hm⟩;have i:=c.cl p r hR;have h:=k _ hp;refine ⟨IK.2 ⟨Ah (dH 0 l dj).1.S p r,IT.2 ⟨jd.2 ⟨p,r,by omega,by omega,hR,rfl⟩,?_⟩,rfl⟩,by omega,by omega⟩;simp only [Ah,Bool.not_false,Bool.true_and,Bool.and_eq_true];refine ⟨decide_eq_true ((jP hn).2 ⟨hp,h⟩),?_⟩;rw [Ic,g];exact hm
theorem rP {l:List T_Regex} (hn:FitN (dc l)):∀(w:List Nat) (T:List Int) (q:Nat),(∀s∈T,0≤s∧s<((dH 0 l dj).2.length:Int))→
 ((q:Int)∈w.foldl (fC (dc l)) T↔∃p:Nat,(p:Int)∈T∧lQ (tC (dH 0 l dj).1.S) (gm (dH 0 l dj).1.P) p w q)
 | [],T,q,_=>by
  simp only [List.foldl_nil,lQ];exact ⟨fun h=>⟨q,h,rfl⟩,fun ⟨p,h,e⟩=>e ▸ h⟩
 | b::w,T,q,hT=>by
  rw [List.foldl_cons,rP hn w (fC (dc l) T b) q (fun s hs=>((jP hn).1 hs).2)];constructor
  ·rintro ⟨r,f,h⟩;obtain ⟨p,d,c,a⟩:=(wE hn hT).1 f;exact ⟨p,d,r,c,a,h⟩
  ·rintro ⟨p,d,r,c,a,h⟩;exact ⟨r,(wE hn hT).2 ⟨p,d,c,a⟩,h⟩
theorem qP (acc:List Int):∀(l:List Int) (o:Int),-1≤o→((l.foldl (gg acc) o=o∧∀s∈l,0≤acc.getD s.toNat 0→0≤o∧o≤acc.getD s.toNat 0)∨(0≤l.foldl (gg acc) o∧(∃s∈l,acc.getD s.toNat 0=l.foldl (gg acc) o)∧(0≤o→l.foldl (gg acc) o≤o)∧∀s∈l,0≤acc.getD s.toNat 0→l.foldl (gg acc) o≤acc.getD s.toNat 0))
 | [],o,_=>.inl ⟨rfl,by simp⟩
 | x::l,o,ho=>by
  rw [List.foldl_cons];have hb:(gg acc o x=o∧(0≤acc.getD x.toNat 0→0≤o∧o≤acc.getD x.toNat 0))∨(gg acc o x=acc.getD x.toNat 0∧0≤acc.getD x.toNat 0∧(0≤o→acc.getD x.toNat 0≤o)):=by
   unfold gg
   by_cases a:0≤acc.getD x.toNat 0
   ·by_cases d:o<0
    ·right;rw [decide_eq_true a,decide_eq_true d];exact ⟨rfl,a,fun h=>by omega⟩
    ·by_cases i:acc.getD x.toNat 0<o
     ·right;rw [decide_eq_true a,decide_eq_true i,Bool.or_true];exact ⟨rfl,a,fun h=>by omega⟩
     ·left;rw [decide_eq_false d,decide_eq_false i,Bool.or_false,Bool.and_false];exact ⟨rfl,fun h=>by omega⟩
   ·left;rw [decide_eq_false a,Bool.false_and];exact ⟨rfl,fun h=>absurd h a⟩
  rcases hb with ⟨e,a⟩|⟨e,a,d⟩
  ·rw [e];rcases qP acc l o ho with ⟨c,b⟩|⟨c,⟨s,hs,b⟩,f,g⟩
   ·refine .inl ⟨c,fun s hs h=>?_⟩;rcases IJ.1 hs with rfl|hs
    ·exact a h
    ·exact b s hs h
   ·refine .inr ⟨c,⟨s,by simp [hs],b⟩,f,fun s hs h=>?_⟩;rcases IJ.1 hs with rfl|hs
    ·have:=a h; have:=f this.1; omega
    ·exact g s hs h
  ·rw [e];rcases qP acc l (acc.getD x.toNat 0) (by omega) with ⟨c,b⟩|⟨c,⟨s,hs,b⟩,f,g⟩
   ·right;rw [c];refine ⟨a,⟨x,by simp,rfl⟩,d,fun s hs h=>?_⟩;rcases IJ.1 hs with rfl|hs
    ·exact Int.le_refl _
    ·exact (b s hs h).2
   ·right;refine ⟨c,⟨s,by simp [hs],b⟩,fun h=>?_,fun s hs h=>?_⟩
    ·have:=f a; have:=d h; omega
    ·rcases IJ.1 hs with rfl|hs
     ·exact f a
     ·exact g s hs h
def zW (l:List T_Regex) (w:List Nat) (r:Int):Prop:=
 (r=-1∧∀j,j<l.length→¬ L (xJ l j) w)∨∃j,j<l.length∧r=(j:Int)∧L (xJ l j) w∧∀i,i<j→¬ L (xJ l i) w
theorem pX (l:List T_Regex):sJ l l.length=dH 0 l dj:=by unfold sJ; rw [Ij]
theorem nH {l:List T_Regex} {b:Nat} {w:List Nat} {j:Nat} (d:j<l.length) :
 L (xJ l j) (b::w)↔∃q:Nat,q∈(pJ l j).la∧lQ (tC (dH 0 l dj).1.S) (gm (dH 0 l dj).1.P) 0 (b::w) q:=by
 have m:=mW l d;have k:=yF l d;rw [pX] at k;have s:∀p r,gm (dH 0 l dj).1.P p r↔∃j,j<l.length∧(gm (qJ l j) p r∨(p=0∧r∈(pJ l j).fi)):=by
  intro p r;have:=px l l.length (Nat.le_refl _) p r;rw [pX] at this;exact this
 have v:∀ {p q:Nat},(lo l j<p∧p≤lo l (j+1))→(lQ (tC (dH 0 l dj).1.S) (gm (dH 0 l dj).1.P) p w q↔lQ (tC (dH 0 l dj).1.S) (gm (qJ l j)) p w q):=by
  intro p q hp;have:=yL l (M:=tC (dH 0 l dj).1.S) d hp (w:=w) (q:=q);rw [pX] at this;exact this
 rw [k.ac];constructor
 ·rintro ⟨p,hp,hm,q,hq,h⟩;exact ⟨q,hq,p,(s 0 p).2 ⟨j,d,.inr ⟨rfl,hp⟩⟩,hm,(v (m.fi p hp)).2 h⟩
 ·rintro ⟨q,hq,p,a,hm,h⟩;obtain ⟨i,f,a⟩:=(s 0 p).1 a;have o:p∈(pJ l i).fi:=by
   rcases a with a|⟨_,a⟩
   ·have:=((mW l f).e _ _ a).1; omega
   ·exact a
  have g:=mW l f;have n:=g.fi p o;have u:=yL l (M:=tC (dH 0 l dj).1.S) f n (w:=w) (q:=q);rw [pX] at u;have t:=u.1 h;have x:lo l i<q∧q≤lo l (i+1):=kF (R:=fun p=>lo l i<p∧p≤lo l (i+1)) (fun p r _ h=>(g.e _ _ h).2) w n t;have y:=m.la q hq;obtain rfl:i=j:=by
   rcases Nat.lt_trichotomy i j with c|c|c
   ·have:=jI l (i:=i+1) (j:=j) c (by omega); omega
   ·exact c
   ·have:=jI l (i:=j+1) (j:=i) c (by omega); omega
  exact ⟨p,o,hm,q,hq,t⟩
theorem xx {l:List T_Regex} (hn:FitN (dc l)) (s:Str):zW l (cU s) (Cr (dc l) s):=by
 have hacc:=Cm l l.length (Nat.le_refl _);rw [pX] at hacc;have k:=jL l 0 dj oG;have hal:=k.len;have Y:∀x∈([0]:List Int),0≤x∧x<((dH 0 l dj).2.length:Int):=by intro x hx; rw [Ip.1 hx]; omega
 have G:∀x,x∈clo (dc l) [0]↔x=0:=by
  intro x;rw [jP hn,Ip];exact ⟨fun h=>h.1,fun h=>⟨h,Y x (by simp [h])⟩⟩
 have V:∀x∈clo (dc l) [0],0≤x∧x<((dH 0 l dj).2.length:Int):=fun x hx=>((jP hn).1 hx).2
 have I:=rP hn (cU s) (clo (dc l) [0]);have t:∀q:Nat,(q:Int)∈tQ (dc l) [0] s↔lQ (tC (dH 0 l dj).1.S) (gm (dH 0 l dj).1.P) 0 (cU s) q:=by
  intro q;show (q:Int)∈(cU s).foldl (fC (dc l)) (clo (dc l) [0])↔_;rw [I q V];constructor
  ·rintro ⟨p,hp,h⟩;obtain rfl:p=0:=by have:=(G _).1 hp; omega
   exact h
  ·exact fun h=>⟨0,(G _).2 rfl,h⟩
 have Q:∀x∈tQ (dc l) [0] s,∃q:Nat,x=(q:Int):=by
  obtain ⟨T,u⟩:=Av (n:=dc l) (s.map UInt8.toNat) _ ⟨[0],rfl⟩;have u:tQ (dc l) [0] s=clo (dc l) T:=u;intro x hx;rw [u] at hx;obtain ⟨q,rfl⟩:=IE ((jP hn).1 hx).2.1;exact ⟨q,rfl⟩
 -- numbers of the places that are reached
 have key:∀j,(∃q:Nat,(q:Int)∈tQ (dc l) [0] s∧(dH 0 l dj).2.getD q 0=(j:Nat))→j<l.length∧L (xJ l j) (cU s):=by
  rintro j ⟨q,hq,a⟩;have hp:=(t q).1 hq;cases hw:cU s with
  | nil=>
   rw [hw] at hp;have hp:0=q:=hp;subst hp;rcases hacc.zero with ⟨g,_⟩|⟨i,f,g,m,_⟩
   ·rw [Ic,g] at a;have a:(-1:Int)=(j:Int):=a;omega
   ·rw [Ic,g] at a;have a:(i:Int)=(j:Int):=a;obtain rfl:i=j:=by omega
    have J:=yF l f;exact ⟨f,J.nl.1 m⟩
  | cons b w=>
   rw [hw] at hp;obtain ⟨r,y,X,v⟩:=hp;have K:0<q:=kF (M:=tC (dH 0 l dj).1.S) (E:=gm (dH 0 l dj).1.P) (R:=fun p=>0<p) (fun p r _ h=>k.pos p r h) w (k.pos 0 r y) v;have D:q<(dH 0 l dj).2.length:=by
    have:=kF (M:=tC (dH 0 l dj).1.S) (E:=gm (dH 0 l dj).1.P) (R:=fun p=>p<(dH 0 l dj).2.length) (fun p r _ h=>by have:=k.cl p r h; omega) w (by have:=k.cl 0 r y; omega) v;exact this
   have U:(dH 0 l dj).2[q]?=some (j:Int):=by
    rw [Ic,Ie D] at a;rw [Ie D];exact congrArg some a
   obtain ⟨i,f,e,hm⟩:=hacc.out q _ K U (by omega);obtain rfl:i=j:=by omega
   exact ⟨f,(nH f).2 ⟨q,hm,r,y,X,v⟩⟩
 have A:∀j,j<l.length→L (xJ l j) (cU s)→∃i,i≤j∧∃q:Nat,(q:Int)∈tQ (dc l) [0] s∧(dH 0 l dj).2.getD q 0=(i:Nat):=by
  intro j c d;cases hw:cU s with
  | nil=>
   rw [hw] at d;have B:=(yF l c).nl.2 d;rcases hacc.zero with ⟨_,m⟩|⟨i,f,g,m,z3⟩
   ·have:=m j c; rw [B] at this; cases this
   ·refine ⟨i,?_,0,(t 0).2 (by rw [hw]; rfl),by rw [Ic,g]; rfl⟩;rcases Nat.lt_or_ge j i with h|h
    ·have:=z3 j h; rw [B] at this; cases this
    ·exact h
  | cons b w=>
   rw [hw] at d;obtain ⟨q,hm,hp⟩:=(nH c).1 d;refine ⟨j,Nat.le_refl _,q,(t q).2 (by rw [hw]; exact hp),?_⟩;rw [Ic,hacc.inn j c q hm];rfl
 show zW l (cU s) ((tQ (dc l) [0] s).foldl (gg (dH 0 l dj).2) (-1));rcases qP (dH 0 l dj).2 (tQ (dc l) [0] s) (-1) (by omega) with ⟨z,o⟩|⟨z,⟨x,hx,o⟩,_,H⟩
 ·rw [z];refine .inl ⟨rfl,fun j c d=>?_⟩;obtain ⟨i,_,q,hq,e⟩:=A j c d;have:=o _ hq (by rw [ID,e]; omega);omega
 ·obtain ⟨q,rfl⟩:=Q x hx;obtain ⟨j,F⟩:=IE z;rw [ID] at o;obtain ⟨c,d⟩:=key j ⟨q,hx,by rw [o]; exact F⟩;rw [F] at H ⊢;refine .inr ⟨j,c,rfl,d,fun i f W=>?_⟩;obtain ⟨i',a2,q',N,e⟩:=A i (by omega) W;have:=H _ N (by rw [ID,e]; omega);rw [ID,e] at this;omega
def dP {α β:Type} (A:Option α) (B:Option β) (Q:α→β→Prop):Prop:=∃a b,A=some a∧B=some b∧Q a b
section
variable {α β α' β' σ τ:Type} {P:α→β→Prop} {Q:α'→β'→Prop}
theorem dP.pure {a:α'} {b:β'} (h:Q a b):dP (some a) (some b) Q:=⟨a,b,rfl,rfl,h⟩
theorem dP.bb {A:Option α} {B:Option β} {f:α→Option α'} {g:β→Option β'} (h:dP A B P) (k:∀a b,P a b→dP (f a) (g b) Q):dP (A.bind f) (B.bind g) Q:=by
 obtain ⟨a,b,rfl,rfl,hp⟩:=h;exact k a b hp
theorem dP.l {A:Option α} {B:Option β'} {f:α→Option α'} {a:α} (h:A=some a) (k:dP (f a) B Q):dP (A.bind f) B Q:=by subst h; exact k
theorem dP.r {A:Option α'} {B:Option β} {g:β→Option β'} {b:β} (h:B=some b) (k:dP A (g b) Q):dP A (B.bind g) Q:=by subst h; exact k
theorem dP.sl {ρ:Type} {R:ρ→β'→Prop} {A:Option (cN σ ρ)} {B:Option β'} {f:σ→Option ρ} {a:σ} (h:A=some (.next a)) (k:dP (f a) B R):dP (bn A f) B R:=by subst h; exact k
theorem dP.er {A:Option α'} {B B':Option β'} (h:B=B') (k:dP A B' Q):dP A B Q:=h ▸ k
theorem dP.sb {ρ:Type} {P:cN σ ρ→β→Prop} {R:ρ→β'→Prop} {A:Option (cN σ ρ)} {B:Option β} {f:σ→Option ρ} {g:β→Option β'} (h:dP A B P) (kn:∀a b,P (.next a) b→dP (f a) (g b) R)
 (ks:∀x b,P (.stop x) b→dP (some x) (g b) R):dP (bn A f) (B.bind g) R:=by
 obtain ⟨a,b,rfl,rfl,hp⟩:=h;cases a with
 | next a=>exact kn a b hp
 | stop x=>exact ks x b hp
theorem dP.on_ret {γ:Type} {x:γ} {k:γ→Option α'} {pp:Int→Option α'} {B:Option β'} (h:dP (k x) B Q):dP ((Rt.ret x).on k pp) B Q:=h
theorem dP.on_pan {γ:Type} {x:Int} {k:γ→Option α'} {pp:Int→Option α'} {B:Option β'} (h:dP (pp x) B Q):dP ((Rt.pan x:Rt γ).on k pp) B Q:=h
theorem hY {α:Type} {b:Bool} {x y r:α} (h:b=true) (k:x=r):(bif b then x else y)=r:=by subst h; exact k
theorem ee {α:Type} {b:Bool} {x y r:α} (h:b=false) (k:y=r):(bif b then x else y)=r:=by subst h; exact k
theorem dP.loop {ρ ρ':Type} {Q:ρ→ρ'→Prop} {bA:σ→Option (cN σ ρ)} {bB:τ→Option (cN τ ρ')} (R:σ→τ→Nat→Prop)
    (h:∀m a b,R a b m→(∃i c m',bA a=some (.next i)∧bB b=some (.next c)∧m'<m∧R i c m')∨
      (∃x,bA a=some (.stop x)∧((∃y,bB b=some (.stop y)∧Q x y)∨∃c y,bB b=some (.next c)∧bB c=some (.stop y)∧Q x y))) :
    ∀m e d a b,m<e→m+1<d→R a b m→dP (bc bA e a) (bc bB d b) Q:=by
  intro m;induction m using Nat.strongRecOn with
  | _ m ih=>
    intro e d a b n hB hR;obtain ⟨e,rfl⟩:∃k,e=k+1:=⟨e - 1,by omega⟩;obtain ⟨d,rfl⟩:∃k,d=k+2:=⟨d - 2,by omega⟩;rcases h m a b hR with ⟨i,c,m',g,f,hm,j⟩|⟨x,g,⟨y,f,hq⟩|⟨c,y,f,l,hq⟩⟩
    · have:=ih m' hm e (d+1) i c (by omega) (by omega) j
      simp only [bc,g,f] at this ⊢;exact this
    · exact ⟨x,y,by simp only [bc,g],by simp only [bc,f],hq⟩
    · exact ⟨x,y,by simp only [bc,g],by simp only [bc,f,l],hq⟩
end
def Fq (br:Bool):Str:=bif br then [93,92,45] else [40,41,91,93,124,42,43,63,46,92]
def pl (br:Bool) (c:Nat):Bool:=decide (32≤c∧c≤126) && !((Fq br).map UInt8.toNat).contains c
theorem AL:∀br,∀c:Nat,c<256→(bif decide ((c:Int)<32) then some true else bif decide (126<(c:Int)) then some true else (M.i9 (Fq br) (c:Int)).bind fun r=>some (decide (0≤r)))=some (!pl br c):=by decide +kernel
theorem CC:∀br,∀c:Nat,c<256→M.k2 (c:Int) br=some (pl br c):=by decide +kernel
theorem CD:∀br,M.k2 (-1) br=some false:=by decide +kernel
def es (c:Nat):Bool:=decide (32≤c∧c≤126) && !(decide (48≤c∧c≤57) || decide (97≤c∧c≤122) || decide (65≤c∧c≤90))
theorem Bg:∀c:Nat,c<256→(bif decide ((c:Int)<32) then some true else bif decide (126<(c:Int)) then some true else (M.g3 (c:Int)).bind fun r=>some r)=some (!es c):=by decide +kernel
theorem zt:∀c:Nat,c<256→(bif decide (32≤(c:Int)) then bif decide ((c:Int)≤126) then (M.j0 (c:Int)).bind fun r=>some (!r) else some false else some false)=some (es c):=by decide +kernel
theorem CL:(bif decide ((32:Int)≤-1) then bif decide ((-1:Int)≤126) then (M.j0 (-1)).bind fun r=>some (!r) else some false else some false)=some false:=by decide +kernel
section
variable {s:Str} (hs:s.length≤1000000)
theorem gu {p:Nat} {b:Bool} (h:p<s.length):M.a0 ⟨s,p,b⟩=some ((s[p]).toNat:Int):=by
 unfold M.a0;simp only [eI (show ¬ (s.length:Int)≤(p:Int) by omega),cond_false,dM h,Ig];rw [fZ (by omega) (by have:=(s[p]).toNat_lt; omega)]
theorem kN {b:Bool}:M.a0 ⟨s,(s.length:Nat),b⟩=some (-1):=by
 unfold M.a0;simp only [ed (show (s.length:Int)≤(s.length:Int) by omega),cond_true]
theorem wM {p:Nat} (h:p<s.length):M.a2 ⟨s,p⟩=some ((s[p]).toNat:Int):=by
 unfold M.a2;simp only [ed (show (p:Int)<(s.length:Int) by omega),cond_true,dM h,Ig]
theorem yK:M.a2 ⟨s,(s.length:Nat)⟩=some 0:=by
 unfold M.a2;simp only [eI (show ¬ (s.length:Int)<(s.length:Int) by omega),cond_false]
def GK (s:Str) (p:Nat) (a:Rt (Int×aD)) (b:Int×aG):Prop:=
 (∃c q:Nat,p+1≤q∧q≤s.length∧c<256∧a=.ret ((c:Int),⟨s,q⟩)∧b=((c:Int),⟨s,q,false⟩))∨(∃q:Nat,q≤s.length∧a=.pan q∧b=(0,⟨s,q,true⟩))
include hs
theorem vT {p:Nat} (hp:p≤s.length):∃a,M.e2 ⟨s,p⟩=some a∧((∃c:Nat,p<s.length∧c<256∧a=.ret ((c:Int),⟨s,(p+1:Nat)⟩)∧
 (∃h:p<s.length,((s[p]).toNat=110∧c=10)∨((s[p]).toNat≠110∧(s[p]).toNat=116∧c=9)∨((s[p]).toNat≠110∧(s[p]).toNat≠116∧es (s[p]).toNat=true∧c=(s[p]).toNat)))∨
 (a=.pan p∧(p=s.length∨∃h:p<s.length,(s[p]).toNat≠110∧(s[p]).toNat≠116∧es (s[p]).toNat=false))):=by
 unfold M.e2;rcases Nat.lt_or_eq_of_le hp with h|h
 ·have e:(s[p]).toNat<256:=(s[p]).toNat_lt;have g:(((p:Nat):Int) == (s.length:Int))=false:=cv (by omega);simp only [g,cond_false,bn,dM h,Ig]
  by_cases b:(s[p]).toNat=110
  ·simp only [qR (show ((s[p]).toNat:Int)=110 by omega),cond_true,aK (show p<9223372036854775807 by omega),Ig];exact ⟨_,rfl,.inl ⟨10,h,by omega,rfl,h,.inl ⟨b,rfl⟩⟩⟩
  ·by_cases d:(s[p]).toNat=116
   ·simp only [cv (show ((s[p]).toNat:Int)≠110 by omega),qR (show ((s[p]).toNat:Int)=116 by omega),cond_false,cond_true,aK (show p<9223372036854775807 by omega),Ig];exact ⟨_,rfl,.inl ⟨9,h,by omega,rfl,h,.inr (.inl ⟨b,d,rfl⟩)⟩⟩
   ·simp only [cv (show ((s[p]).toNat:Int)≠110 by omega),cv (show ((s[p]).toNat:Int)≠116 by omega),cond_false,Bg _ e,Ig];cases f:es (s[p]).toNat
    ·simp only [Bool.not_false,cond_true,M.a3,Ig,Rt.on];exact ⟨_,rfl,.inr ⟨rfl,.inr ⟨h,b,d,f⟩⟩⟩
    ·simp only [Bool.not_true,cond_false,aK (show p<9223372036854775807 by omega),Ig];exact ⟨_,rfl,.inl ⟨_,h,e,rfl,h,.inr (.inr ⟨b,d,f,rfl⟩)⟩⟩
 ·subst h;simp only [beq_self_eq_true,cond_true,M.a3,Ig,Rt.on,bn];exact ⟨_,rfl,.inr ⟨rfl,.inl trivial⟩⟩
theorem qN {p:Nat} (hp:p≤s.length) (b:Bool):dP (M.c0 ⟨s,p⟩ (Fq b)) (M.b3 ⟨s,p,false⟩ b) (GK s p):=by
 unfold M.c0 M.b3;rcases Nat.lt_or_eq_of_le hp with h|h
 ·have e:(s[p]).toNat<256:=(s[p]).toNat_lt;have m:(((p:Nat):Int) == (s.length:Int))=false:=cv (by omega);simp only [m,cond_false,bn,dM h,Ig,gu h]
  by_cases r:(s[p]).toNat=92
  ·simp only [qR (show ((s[p]).toNat:Int)=92 by omega),cond_true,aK (show p<9223372036854775807 by omega),Ig];obtain ⟨a,ha,l⟩:=vT hs (p:=p+1) h;simp only [ha,Ig];rcases l with ⟨c,n,o,rfl,hh,k⟩|⟨rfl,hh⟩
   ·have d:(s[p+1]).toNat<256:=(s[p+1]).toNat_lt;have i:cd .i64 (((p+1:Nat):Int)+1)=some ((p+1+1:Nat):Int):=aK (by omega);simp only [Rt.on,gu hh,Ig];rcases k with ⟨g,rfl⟩|⟨g,j,rfl⟩|⟨g,j,f,rfl⟩
    ·simp only [qR (show ((s[p+1]).toNat:Int)=110 by omega),cond_true,i,Ig];exact .pure (.inl ⟨10,p+1+1,by omega,hh,by omega,rfl,rfl⟩)
    ·simp only [cv (show ((s[p+1]).toNat:Int)≠110 by omega),qR (show ((s[p+1]).toNat:Int)=116 by omega),cond_false,cond_true,i,Ig];exact .pure (.inl ⟨9,p+1+1,by omega,hh,by omega,rfl,rfl⟩)
    ·simp only [cv (show ((s[p+1]).toNat:Int)≠110 by omega),cv (show ((s[p+1]).toNat:Int)≠116 by omega),cond_false,zt _ d,f,Ig,cond_true,i];exact .pure (.inl ⟨_,p+1+1,by omega,hh,d,rfl,rfl⟩)
   ·simp only [Rt.on];rcases hh with hh|⟨hh,g,j,f⟩
    ·rw [hh,kN];simp only [Ig,show ((-1:Int) == 110)=false from rfl,show ((-1:Int) == 116)=false from rfl,cond_false,CL];exact .pure (.inr ⟨s.length,Nat.le_refl _,by rw [←hh],rfl⟩)
    ·have d:(s[p+1]).toNat<256:=(s[p+1]).toNat_lt;simp only [gu hh,Ig,cv (show ((s[p+1]).toNat:Int)≠110 by omega),cv (show ((s[p+1]).toNat:Int)≠116 by omega),cond_false,zt _ d,f];exact .pure (.inr ⟨p+1,h,rfl,rfl⟩)
  ·simp only [cv (show ((s[p]).toNat:Int)≠92 by omega),cond_false,AL b _ e,CC b _ e,Ig];cases q:pl b (s[p]).toNat
   ·simp only [Bool.not_false,cond_true,M.a3,Ig,Rt.on];exact .pure (.inr ⟨p,hp,rfl,rfl⟩)
   ·simp only [Bool.not_true,cond_false,aK (show p<9223372036854775807 by omega),Ig];exact .pure (.inl ⟨_,p+1,by omega,h,e,rfl,rfl⟩)
 ·subst h;simp only [beq_self_eq_true,cond_true,M.a3,Ig,Rt.on,bn,kN,show ((-1:Int) == 92)=false from rfl,cond_false,CD,Bool.not_false];exact .pure (.inr ⟨s.length,Nat.le_refl _,rfl,rfl⟩)
end
theorem mr {v:aT 4} (a:W4 v) {c:Nat} (o:c<256):M.g4 v (c:Int)=some (fg v c):=by
 have d:2 ^ (c % 64)<18446744073709551616:=Nat.pow_lt_pow_right (n:=64) (by omega) (Nat.mod_lt _ (by omega));have m:=nh (k:=.i64) (c:=c) (fZ (by omega) (by omega));have l:=jr a (i:=c / 64) (by omega);have j:mZ (c:Int) 64=some ((c % 64:Nat):Int):=mY (b:=64) (by omega);have h:=pT (t:=c % 64) (by omega);have g:=ia (iG a (c / 64)) d;have f:=kj (v:=v) (i:=c / 64) (x:=wd v (c / 64) ||| 2 ^ (c % 64)) (by omega);have e:IntKind.u64.wrap ((c % 64:Nat):Int)=((c % 64:Nat):Int):=ki (by omega) (by omega);unfold M.g4 fg;simp only [m,l,j,e,h,g,f,Ig]
theorem xA {v:aT 4} (hv:W4 v):M.m2 v=some (ml v):=iE hv
theorem pF (l:List Nat) {v:aT 4} (hv:W4 v):W4 (l.foldl fg v):=uz l v hv
theorem ud {lo hi:Nat} (h:hi<256):∀b∈eE lo hi,b<256:=by
 intro b hb;simp only [eE,IK,IL] at hb;obtain ⟨i,hi,rfl⟩:=hb;omega
theorem tM {v:aT 4} (hv:W4 v) {lo hi:Nat} (h:hi<256):mj v (rv (eE lo hi))=(eE lo hi).foldl fg v:=by
 refine AA (zO hv (lb _)) (pF _ hv) fun b hb=>?_
 rw [xQ hb,wQ (ud h),sj _ _ (ud h)]
theorem qz {σ ρ:Type} {body:σ→Option (cN σ ρ)} {a:σ} {r:ρ} (k:Nat) (h:body a=some (.stop r)):bc body (k+1) a=some r:=by simp only [bc,h]
theorem vI {σ ρ:Type} {body:σ→Option (cN σ ρ)} {a b:σ} (k:Nat) (h:body a=some (.next b)):bc body (k+1) a=bc body k b:=by simp only [bc,h]
theorem sh:ba=18446744073709551615+1:=by unfold ba; rfl
theorem je {σ ρ:Type} {body:σ→Option (cN σ ρ)} {a:σ} {r:ρ} (h:body a=some (.stop r)):bc body ba a=some r:=by rw [sh]; exact qz _ h
theorem sa {σ ρ:Type} {body:σ→Option (cN σ ρ)} {a b:σ} (h:body a=some (.next b)):bc body ba a=bc body 18446744073709551615 b:=by rw [sh]; exact vI _ h
theorem rL {ρ:Type} {set:aT 4} (b:W4 set) {lo a:Nat} (hl:lo≤a) (hh:a<256) {X:aT 4→ρ} {body:aT 4×Int→Option (cN (aT 4×Int) ρ)}
 (hb:∀v x,body (v,x)=(some (decide (x≤(a:Int)))).bind fun c=>bif c then (M.g4 v x).bind fun r=>(cd .i64 (x+1)).bind fun t=>some (.next (r,t)) else some (.stop (X v))) :
 bc body ba (set,(lo:Int))=some (X ((eE lo a).foldl fg set)):=by
 have key:∀i,i≤a - lo+1→W4 (((List.range i).map (lo+·)).foldl fg set):=fun i _=>pF _ b
 refine fx (body:=body) (fun i=>(((List.range i).map (lo+·)).foldl fg set,((lo+i:Nat):Int))) (a+1 - lo) (fun i d=>?_) ?_ ba (gX (by omega))
 ·have e:cd .i64 (((lo+i:Nat):Int)+1)=some ((lo+(i+1):Nat):Int):=by rw [dT (by omega) (by omega)]; rfl
  rw [hb];simp only [ed (show ((lo+i:Nat):Int)≤(a:Int) by omega),Ig,cond_true,mr (key i (by omega)) (show lo+i<256 by omega),e];rw [IV,Iz,List.foldl_append];rfl
 ·rw [hb];simp only [eI (show ¬ ((lo+(a+1 - lo):Nat):Int)≤(a:Int) by omega),Ig,cond_false];rfl
def wI (s:Str) (p:Int) (set:aT 4):Option (cN (Str×Int×Bool×(aT 4)×Bool) (Str×Int×Bool×(aT 4))):=
    (M.b3 (aG.mk s p false) true).bind fun a=>
    (
     (
      bif (!a.2.bad) then
       (M.a0 a.2).bind fun o=>
       some (o == 45)
      else
       some false).bind fun (i:Bool)=>
     bif i then
      (cd .i64 (a.2.atv+1)).bind fun f=>
      (M.b3 (aG.mk a.2.s f a.2.bad) true).bind fun b=>
      (
       bif (!b.2.bad) then
        some (decide (b.1<a.1))
       else
        some false).bind fun (h:Bool)=>
      bif h then
       some (b.2.s,f,true,b.1)
      else
       some (b.2.s,b.2.atv,b.2.bad,b.1)
     else
      some (a.2.s,a.2.atv,a.2.bad,a.1)).bind fun (k,l,e,j)=>
    bc (fun (m:(aT 4)×Int)=>match m with
    | (d,c)=>
     (
      bif (!e) then
       some (decide (c≤j))
      else
       some false).bind fun (g:Bool)=>
     bif g then
      (M.g4 d c).bind fun n=>
      (cd .i64 (c+1)).bind fun t46=>
      some (.next (n,t46))
     else
      some (.stop (.next (k,l,e,d,false)))) ba (set,a.1)
section
variable {s:Str} (hs:s.length≤1000000)
theorem gD {q:Nat} (hq:q≤s.length):∃x y,M.a2 ⟨s,q⟩=some x∧M.a0 ⟨s,q,false⟩=some y∧(∀v:Int,v≠0→v≠-1→(x == v)=(y == v))∧(∀v:Int,v≠0→x=v→q<s.length):=by
 rcases Nat.lt_or_eq_of_le hq with h|h
 ·exact ⟨_,_,wM h,gu h,fun _ _ _=>rfl,fun _ _ _=>h⟩
 ·subst h;exact ⟨_,_,yK,kN,fun v b a=>by rw [cv (fun e=>b e.symm),cv (fun e=>a e.symm)],fun v b a=>absurd a.symm b⟩
def GJ (s:Str) (p:Nat) (set:aT 4) (a:Rt ((aT 4)×aD)) (b:cN (Str×Int×Bool×(aT 4)×Bool) (Str×Int×Bool×(aT 4))):Prop:=
 (∃lo hi q:Nat,p+1≤q∧q≤s.length∧lo≤hi∧hi<256∧a=.ret (rv (eE lo hi),⟨s,q⟩)∧b=.next (s,q,false,(eE lo hi).foldl fg set,false))∨
 (∃q:Nat,q≤s.length∧a=.pan q∧b=.next (s,q,true,set,false))
include hs
theorem uB {p:Nat} (hp:p≤s.length) {set:aT 4} (g:W4 set):dP (M.c4 ⟨s,p⟩) (wI s p set) (GJ s p set):=by
 unfold M.c4 wI;have F:=qN hs hp true;refine dP.bb F ?_;rintro a b (⟨c,q,o,k,e,rfl,rfl⟩|⟨q,hq,rfl,rfl⟩)
 ·simp only [Rt.on];obtain ⟨x,y,hx,hy,m,t⟩:=gD k;have B:=m 45 (by decide) (by decide);simp only [Bool.not_false,cond_true,hx,hy,Ig];rw [←B];cases h:(x == (45:Int))
  ·refine dP.sl rfl (dP.l (nK e e) (dP.r (b:=(s,(q:Int),false,(c:Int))) rfl ?_));refine ⟨_,_,rfl,rL g (Nat.le_refl c) e (X:=fun v=>.next (s,(q:Int),false,v,false)) (fun v x=>rfl),.inl ⟨c,c,q,o,k,Nat.le_refl _,e,rfl,rfl⟩⟩
  ·have j:=t 45 (by decide) (dG h);simp only [cond_true,aK (show q<9223372036854775807 by omega),Ig];have D:=qN hs (p:=q+1) j true;obtain ⟨G,I,A,w,u⟩:=D;have z:M.c0 ⟨s,((q+1:Nat):Int)⟩ [93,92,45]=some G:=A;simp only [z,w,Ig];rcases u with ⟨c2,d,i,n,f,rfl,rfl⟩|⟨d,i,rfl,rfl⟩
   ·simp only [Rt.on,Bool.not_false,cond_true,Ig]
    by_cases H:c2<c
    ·simp only [ed (show (c2:Int)<(c:Int) by omega),cond_true,M.a3,Ig,Rt.on,bn];exact ⟨_,_,rfl,je rfl,.inr ⟨q+1,j,rfl,rfl⟩⟩
    ·rw [show decide ((c2:Int)<(c:Int))=false from eI (by omega)];refine dP.sl rfl (dP.l (nK e f) (dP.r (b:=(s,(d:Int),false,(c2:Int))) rfl ?_));exact ⟨_,_,rfl,rL g (by omega:c≤c2) f (X:=fun v=>.next (s,(d:Int),false,v,false)) (fun v x=>rfl),.inl ⟨c,c2,d,by omega,n,by omega,f,rfl,rfl⟩⟩
   ·simp only [Rt.on,Bool.not_true,cond_false,Ig,bn];exact ⟨_,_,rfl,je rfl,.inr ⟨d,i,rfl,rfl⟩⟩
 ·simp only [Rt.on,Bool.not_true,cond_false,Ig];exact ⟨_,_,rfl,je rfl,.inr ⟨q,hq,rfl,rfl⟩⟩
def GL (s:Str) (p:Nat) (a:Rt ((aT 4)×aD)) (b:T_Regex×aG):Prop:=
 (∃(set:aT 4) (q:Nat),p+1≤q∧q≤s.length∧W4 set∧a=.ret (set,⟨s,q⟩)∧b=(⟨3,set,[]⟩,⟨s,q,false⟩))∨(∃(q:Nat) (y:T_Regex),q≤s.length∧a=.pan q∧b=(y,⟨s,q,true⟩))
theorem uI {p:Nat} (hp:p<s.length) (R:(s[p]).toNat=91):dP (M.d7 ⟨s,p⟩) (M.d2 ⟨s,(p+1:Nat),false⟩) (GL s p):=by
  unfold M.d7 M.d2;have J:M.a4 ⟨s,p⟩ 91=some (.ret ⟨s,(p+1:Nat)⟩):=by
    unfold M.a4;simp only [cv (show (p:Int)≠(s.length:Int) by omega),cond_false,dM hp,Ig,su (show ((s[p]).toNat:Int)=91 by omega),bn,aK (show p<9223372036854775807 by omega)]
  obtain ⟨x,y,hx,hy,n,u⟩:=gD (s:=s) (q:=p+1) hp;have K:=n 94 (by decide) (by decide);simp only [J,Ig,Rt.on,hx,hy];rw [←K]
  -- the place behind the sign
  obtain ⟨g,H,Q,hsel⟩:∃g:Nat,g≤s.length∧p+1≤g∧(bif x == (94:Int) then (cd .i64 (((p+1:Nat):Int)+1)).bind fun D=>some D else some ((p+1:Nat):Int))=some (g:Int):=by
    cases h:(x == (94:Int))
    · exact ⟨p+1,hp,Nat.le_refl _,rfl⟩
    · have:=u 94 (by decide) (dG h)
      exact ⟨p+2,by omega,by omega,by rw [cond_true,aK (by omega)]; rfl⟩
  generalize hng:(x == (94:Int))=ng at hsel ⊢;refine dP.l hsel (dP.r hsel ?_);obtain ⟨N,L,k,f,w⟩:=uB hs H jR;refine dP.l k ?_;rcases w with ⟨lo,v,q,F,o,I,z,rfl,rfl⟩|⟨q,hq,rfl,rfl⟩
  · refine dP.sb (P:=fun (a:cN (Str×Int×(aT 4)) (Rt ((aT 4)×aD))) (b:Str×Int×Bool×(aT 4))=>
        (∃(q:Nat) (set:aT 4),q<s.length∧p+1≤q∧W4 set∧a=.next (s,(q:Int),set)∧b=(s,(q:Int),false,set))∨(∃(q:Nat) (set:aT 4),q≤s.length∧a=.stop (.pan q)∧b=(s,(q:Int),true,set)))
      (dP.er (sa f) (dP.loop (fun (a:Str×Int×(aT 4)) (b:Str×Int×Bool×(aT 4)×Bool) m=>∃(q:Nat) (set:aT 4),q≤s.length∧p+1≤q∧W4 set∧a=(s,(q:Int),set)∧b=(s,(q:Int),false,set,false)∧m=s.length - q) ?_
        (s.length - q) _ _ _ _ (by unfold ba; omega) (by omega) ⟨q,(eE lo v).foldl fg (aT.zero 4),o,by omega,pF _ jR,rfl,rfl,rfl⟩)) ?_ ?_
    · rintro m _ _ ⟨q,set,hq,t,c,rfl,rfl,rfl⟩
      obtain ⟨x,y,hx,hy,n,u⟩:=gD hq;have B:=n 93 (by decide) (by decide);cases h:(x == (93:Int))
      · have f:(x != (93:Int))=true:=by rw [bne,h]; rfl
        have j:(y != (93:Int))=true:=by rw [bne,←B,h]; rfl
        obtain ⟨N,L,k,A,w⟩:=uB hs hq c;rcases w with ⟨lo,v,d,F,o,I,z,rfl,rfl⟩|⟨d,G,rfl,rfl⟩
        · refine .inl ⟨(s,(d:Int),mj set (rv (eE lo v))),_,s.length - d,aN hx (hY f (aN k (aN (zQ c (lb _)) rfl))),aN (x:=true) (aN hy (congrArg some j)) A,by omega,?_⟩
          exact ⟨d,_,o,by omega,pF _ c,by rw [tM c z],rfl,rfl⟩
        · refine .inr ⟨.stop (.pan d),aN hx (hY f (aN k rfl)),.inr ⟨(s,(d:Int),true,set,false),(s,(d:Int),true,set),aN (x:=true) (aN hy (congrArg some j)) A,rfl,?_⟩⟩
          exact .inr ⟨d,set,G,rfl,rfl⟩
      · have f:(x != (93:Int))=false:=by rw [bne,h]; rfl
        have j:(y != (93:Int))=false:=by rw [bne,←B,h]; rfl
        refine .inr ⟨.next (s,(q:Int),set),aN hx (ee f rfl),.inl ⟨(s,(q:Int),false,set),aN (x:=false) (aN hy (congrArg some j)) rfl,?_⟩⟩;exact .inl ⟨q,set,u 93 (by decide) (dG h),t,c,rfl,rfl⟩
    · rintro a b (⟨q,set,hq,t,c,e,rfl⟩|⟨q,set,hq,e,rfl⟩)
      · cases e
        refine dP.l (aK (i:=q) (by omega)) (dP.r (aK (i:=q) (by omega)) ?_);cases ng
        · exact .pure (.inl ⟨set,q+1,by omega,hq,c,rfl,rfl⟩)
        · exact dP.l (iE c) (dP.r (b:=ml set) (aN (xA c) rfl) (.pure (.inl ⟨ml set,q+1,by omega,hq,uQ c,rfl,rfl⟩)))
      · cases e
    · rintro x b (⟨q,set,hq,t,c,e,rfl⟩|⟨q,set,hq,e,rfl⟩)
      · cases e
      · cases e
        exact .pure (.inr ⟨q,_,hq,rfl,rfl⟩)
  · exact dP.r (b:=(s,(q:Int),true,aT.zero 4)) ((sa f).trans (qz 18446744073709551614 rfl)) (.pure (.inr ⟨q,_,hq,rfl,rfl⟩))
end
end Go.Proofs.YtggpjcdhflcfmaaGreatDoor
