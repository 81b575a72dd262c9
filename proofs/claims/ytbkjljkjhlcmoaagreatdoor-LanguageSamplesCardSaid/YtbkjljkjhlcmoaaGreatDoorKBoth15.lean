/- Part 15. -/
import Derived.Test.YtbkjljkjhlcmoaaGreatDoorKBoth14
set_option linter.unusedVariables false
set_option linter.unusedSimpArgs false
namespace Go.Lx
open Go.RowKit
def nH (F:Frm) (ρ:List Place) (r:OR):Value→World→Prop:=fun v w'=>∃ρ' a t n,r=.mem a t n∧bj ρ ρ'∧HR F ρ' (co t n) w'∧aD ρ' a=some v
def fM (P:Program) (f:FuncId) (args:List Value) (w:World) (R:Value→World→Prop):Prop:=
 (CF P f∧aT P f args.toArray w R)∨∃v w',(callFunc f args.toArray).run P w=.ok (.value v) w'∧R v w'
structure dS (P:Program) (call:CallY):Prop where
  fn:∀(F:Frm) (ρ:List Place) (f:FuncId) (xs:List AV) (vs:List Value) (t:HpT) (n:Nat) (w:World),GI ρ→HR F ρ (co t n) w→concL ρ xs=some vs→call (.fn f) xs t n≠.bad→fM P f vs w (nH F ρ (call (.fn f) xs t n))
  yl:∀(F:Frm) (ρ:List Place) (b:Nat) (p:Place) (xs:List AV) (vs:List Value) (t:HpT) (n:Nat) (w:World),GI ρ→HR F ρ (co t n) w→concL ρ xs=some vs→ρ[b]?=some p→call (.yl b) xs t n≠.bad→mY P (.func (.yield p.b) #[] #[]) vs w (nH F ρ (call (.yl b) xs t n))
def nJ (ρ:List Place):DSs→List Deferred→Prop
 | [],[]=>True
 | .fn f cap::r,d::l=>(∃vs,concL ρ cap=some vs∧d=fu f vs)∧nJ ρ r l
 | .mark b::r,d::l=>(∃p,ρ[b]?=some p∧d=xw p.b)∧nJ ρ r l
 | _,_=>False
theorem jY {ρ ρ':List Place} (h:bj ρ ρ') {l:List AV} {vs:List Value} (hc:concL ρ l=some vs):concL ρ' l=some vs:=concL_mono h l vs hc
theorem nJ.mono {ρ ρ':List Place} (hg:bj ρ ρ'):∀ {ds:DSs} {l:List Deferred},nJ ρ ds l→nJ ρ' ds l
 | [],[],_=>trivial
 | [],_::_,h=>h.elim
 | .fn f cap::r,[],h=>h.elim
 | .mark b::r,[],h=>h.elim
 | .fn f cap::r,d::l,⟨⟨vs,h1,h2⟩,h3⟩=>⟨⟨vs,jY hg h1,h2⟩,h3.mono hg⟩
 | .mark b::r,d::l,⟨⟨p,h1,h2⟩,h3⟩=>⟨⟨p,hg _ _ h1,h2⟩,h3.mono hg⟩
structure kH (F:Frm) (ρ:List Place) (s:FrT) (t:HpT) (n:Nat) (ds:DSs) (E:Env) (w:World):Prop where
  hr:HR F ρ (co t n) w
  fr:FR ρ (s.at bV) E
  ds:nJ ρ ds E.ds
def KQ (F:Frm) (ρ:List Place) (k:KZ) (r:OR) (E:Env) (w:World):Prop:=∃ρ' s t n ds,bj ρ ρ'∧kH F ρ' s t n ds E w∧k s t n ds=r
section
variable {P:Program} {F:Frm} {ρ:List Place} {t:HpT} {n m:Nat} {s:FrT} {ds:DSs} {E:Env} {w:World}
theorem kH.put (h:kH F ρ s t n ds E w) {ρ':List Place} (b:bj ρ ρ') {c:HpT} {e:Nat} {w':World} (hr:HR F ρ' (co c e) w') {d:Option Tmp} {put:FrT→AV→FrT} (i:mR m d=some (.mk put)) {a:AV} {v:Value} (j:aD ρ' a=some v):kH F ρ' (put s a) c e ds (iV E d v) w':=by
 have f:=(sT i).2;refine ⟨hr,?_,?_⟩
 ·cases d with
  | none=>exact ⟨h.fr.g.mono b,fun k=>by rw [f]; exact bS b _ _ (h.fr.s k)⟩
  | some x=>exact (h.fr.mono b).put x j (fun k=>by rw [f])
 ·have:=h.ds.mono b;cases d <;> exact this
theorem jm {fr:Fr} (hm:fr.sz=m) {d:Option Tmp} {put:FrT→AV→FrT} (hd:mR m d=some (.mk put)):gA fr d=true:=by
 cases d with
 | none=>rfl
 | some x=>
  have:=(sT hd).1 x rfl;show Nat.blt x fr.sz=true;rw [hm];exact Nat.ble_eq_true_of_le this
def wJ (P:Program) (df:Bool) (m:Nat) (o:Oper) (f:ot):Prop:=∀(fr:Fr) (ops:Array Oper) (rest:List Oper) (Q:EPost) (call:CallY) (F:Frm) (ρ:List Place) (s:FrT) (t:HpT) (n:Nat) (ds:DSs) (k:KZ) (r:OR) (E:Env) (w:World),
 fr.sz=m→(df=true→fr.ro=none)→dS P call→kH F ρ s t n ds E w→f call s t n ds k=r→r≠.bad→(∀E' w',KQ F ρ k r E' w'→OW P fr ops Q rest E' w')→OW P fr ops Q (o::rest) E w
theorem rJ {fr:Fr} {ops:Array Oper} {Q:EPost} {rest:List Oper} {d:Option Tmp} {f:FuncId} {x:Operand} {xs:Array Operand} {c:Array TypeId} {ty:TypeId} {ps:String} {af:Array Edge} {first args cap:List Value} {v:Value} {w':World}
 (hx:ev E x=.func (.func f) first.toArray cap.toArray) (a:xs.toList.map (ev E)=args) (hr:(callFunc f (first++(args++cap)).toArray).run P w=.ok (.value v) w') (b:gA fr d=true)
 (k:OW P fr ops Q rest (iV E d v) w'):OW P fr ops Q (⟨d,.call { callee:=.value x,args:=xs,argTypes:=c },ty,ps,af,none⟩::rest) E w:=by
 refine gK (v:=v) (w':=w') (.inl ?_) b rfl k;have a:xs.map (ev E)=args.toArray:=by apply Array.ext'; rw [Array.toList_map,a]
 have e:(first.toArray++args.toArray)++cap.toArray=(first++(args++cap)).toArray:=by simp
 simp only [execOp,resolve,Deferred.ofValue,invoke,hx,a,Sem.run_bind,Sem.run_pure,Jz];rw [e];exact hr
theorem nV {k:AV→OR} {r:OR} {o:OR} (h:(OR.casesOn o .bad k (fun _ _ _=>.bad):OR)=r) (hb:r≠.bad):∃a,o=.val a∧k a=r:=by
 cases o with
 | bad=>exact absurd h.symm hb
 | val a=>exact ⟨a,rfl,h⟩
 | mem a t n=>exact absurd h.symm hb
theorem gR {k:AV→HpT→Nat→OR} {r:OR} {o:OR} (h:(OR.casesOn o .bad (fun _=>.bad) k:OR)=r) (hb:r≠.bad):∃a t n,o=.mem a t n∧k a t n=r:=by
 cases o with
 | bad=>exact absurd h.symm hb
 | val a=>exact absurd h.symm hb
 | mem a t n=>exact ⟨a,t,n,rfl,h⟩
theorem EX {df:Bool} {o:Oper} {put:FrT→AV→FrT} {e:Bool} {g:dZ} {f:ot} (q:o.guard=none) (c:mR m o.dst=some (.mk put)) (j:oI P o.op g) (u:If put (.v e g)=.mk f):wJ P df m o f:=by
 cases u
 intro fr ops rest Q call F ρ s t n ds k r E w l B D b x y p;obtain ⟨a,A,z⟩:=nV x y;obtain ⟨v,i,h⟩:=j F ρ s t n E w a b.hr b.fr A;obtain ⟨d,op,ty,ps,af,gd⟩:=o;refine gK (h d ty ps af gd) (jm l c) q (p _ _ ⟨ρ,_,_,_,_,bj.refl _,b.put (bj.refl _) b.hr c i,z⟩)
theorem wg {df:Bool} {o:Oper} {put:FrT→AV→FrT} {g:FrT→HpT→Nat→OR} (p:o.guard=none) (c:mR m o.dst=some (.mk put)) (i:BM P o.op g):wJ P df m o (fun _ s t n ds k=>OR.casesOn (g s t n) .bad (fun _=>.bad) (fun v t n=>k (put s v) t n ds)):=by
 intro fr ops rest Q call F ρ s t n ds k r E w j D G b q u l;obtain ⟨a,f,h,y,x⟩:=gR q u;obtain ⟨d,op,ty,ps,af,gd⟩:=o;obtain ⟨ρ',v,w',e,B,A,z⟩:=i F ρ s t n E w a f h b.hr b.fr y d ty ps af gd;exact gK z (jm j c) p (l _ _ ⟨ρ',_,_,_,_,e,b.put e A c B,x⟩)
theorem EY {df:Bool} {o:Oper} {g:nI} (i:o.guard=none) (l:o.dst=none) (f:∀call,BI P o.op (g call)):wJ P df m o (fun call s t n ds k=>OR.casesOn (g call s t n) .bad (fun _=>.bad) (fun _ t n=>k s t n ds)):=by
 intro fr ops rest Q call F ρ s t n ds k r E w z y A b j p h;obtain ⟨a,c,e,u,q⟩:=gR j p;obtain ⟨d,op,ty,ps,af,gd⟩:=o;obtain ⟨w',x,v⟩:=f call F ρ s t n E w a c e b.hr b.fr u d ty ps af gd;exact tg v l i (h _ _ ⟨ρ,_,_,_,_,bj.refl _,⟨x,b.fr,b.ds⟩,q⟩)
theorem rE {l:List Operand} {vl:List AV} (hf:FR ρ (s.at bV) E) (h:zk (s.at bV) l=some vl):concL ρ vl=some (l.map (ev E)):=sR hf h
theorem Bs {df:Bool} {o:Oper} {f:FuncId} {xs:Array Operand} {a0:Array TypeId} {put:FrT→AV→FrT} {g:nI} (p:o.op=.call ⟨.value (.func f),xs,a0⟩) (u:o.guard=none) (i:mR m o.dst=some (.mk put)) (b:lS f xs.toList=some (.m g)):wJ P df m o (fun call s t n ds k=>OR.casesOn (g call s t n) .bad (fun _=>.bad) (fun v t n=>k (put s v) t n ds)):=by
 unfold lS at b;cases l:dk xs.toList with
 | none=>rw [l] at b; cases b
 | some a=>
  cases a with
  | mk a=>
   rw [l] at b;cases b
   intro fr ops rest Q call F ρ s t n ds k r E w q a3 N e H R b;obtain ⟨c,B,D,j,T⟩:=gR H R;have j:call (.fn f) (a s) t n=.mem c B D:=j;obtain ⟨d,op,ty,ps,af,gd⟩:=o;simp only at p u i;subst p u;have J:=rE e.fr (fk l s);have L:=N.fn F ρ f (a s) _ t n w e.fr.g e.hr J (by rw [j]; intro h; cases h);have y:∀v w',nH F ρ (call (.fn f) (a s) t n) v w'→OW P fr ops Q rest (iV E d v) w':=by
    rintro v w' ⟨ρ',a',t2,n2,A,z,V,U⟩;rw [j] at A;cases A
    exact b _ _ ⟨ρ',_,_,_,_,z,e.put z V i U,T⟩
   rcases L with ⟨K,I⟩|⟨v,w',G,S⟩
   ·obtain ⟨fn,Z,X,W⟩:=K;exact oL (sg Z X W rfl) (jm q i) rfl I y
   ·exact rJ (first:=[]) (cap:=[]) (x:=.func f) rfl rfl (by simpa using G) (jm q i) (y v w' S)
theorem yp {d:Option Tmp} {f:FuncId} {x:Operand} {xs:Array Operand} {l:Array TypeId} {ty:TypeId} {ps:String} {af:Array Edge} {gd:Option (Nat×Bool)} {first args cap:List Value} (g:CF P f) (hx:ev E x=.func (.func f) first.toArray cap.toArray) (a:xs.toList.map (ev E)=args) :
 (execOp (ev E) ⟨d,.call { callee:=.value x,args:=xs,argTypes:=l },ty,ps,af,gd⟩).run P w=.ok (.enter f (first++(args++cap)).toArray) w:=by
 obtain ⟨fn,k,b,j⟩:=g;have a:xs.map (ev E)=args.toArray:=by apply Array.ext'; rw [Array.toList_map,a]
 have c:¬ fn.name = "runtime.NumGoroutine":=by simpa using j
 have i:¬ fn.body=none:=by intro h; rw [h] at b; cases b
 have e:(first.toArray++args.toArray)++cap.toArray=(first++(args++cap)).toArray:=by simp
 simp only [execOp,resolve,Deferred.ofValue,invoke,hx,a,Sem.run_bind,Sem.run_pure,Jz];rw [e];simp [callFunc,k,i,c]
theorem BK {fr:Fr} {ops:Array Oper} {Q:EPost} {rest:List Oper} {d:Option Tmp} {x:Operand} {xs:Array Operand} {r:Array TypeId} {ty:TypeId} {ps:String} {af:Array Edge} {l:Nat} (args:List Value) {R:Value→World→Prop} (hx:ev E x=.func (.yield l) #[] #[]) (o:xs.toList.map (ev E)=args) (n:mY P (.func (.yield l) #[] #[]) args w R) (m:gA fr d=true)
 (k:∀v w',R v w'→OW P fr ops Q rest (iV E d v) w'):OW P fr ops Q (⟨d,.call { callee:=.value x,args:=xs,argTypes:=r },ty,ps,af,none⟩::rest) E w:=by
 rcases n with ⟨f,cap,b,i,g⟩|⟨l',fn,tmps,assign,s,b,i,g⟩
 ·cases b
 ·cases b
  intro a c;refine wpListIn_plain rfl fun K q=>⟨fun _ _=>trivial,?_⟩
  rw [c.eval,eI (vy hx o i) (by simp)];refine ⟨fun h=>(by cases h),RoundIn.mono g fun e w' ⟨v,j,p⟩=>?_⟩;subst j;exact q _ _ (k v w' p _ (c.put (d:=d) m v))
theorem Bq {df:Bool} {o:Oper} {x:Operand} {xs:Array Operand} {a5:Array TypeId} {put:FrT→AV→FrT} {g:nI} (K:o.op=.call ⟨.value x,xs,a5⟩) (L:o.guard=none) (u:mR m o.dst=some (.mk put)) (i:jZ x xs.toList=some (.m g)):wJ P df m o (fun call s t n ds k=>OR.casesOn (g call s t n) .bad (fun _=>.bad) (fun v t n=>k (put s v) t n ds)):=by
 unfold jZ at i;cases A:bc x with
 | none=>rw [A] at i; cases i
 | some b=>
  cases H:dk xs.toList with
  | none=>rw [A,H] at i; cases i
  | some a=>
   cases b with
   | mk b=>cases a with
    | mk a=>
     rw [A,H] at i;cases i
     intro fr ops rest Q call F ρ s t n ds k r E w B a8 R q U X i;obtain ⟨c,I,J,j,h3⟩:=gR U X;have j:wB call t n (a s) (b s)=.mem c I J:=j;obtain ⟨d,op,ty,ps,af,gd⟩:=o;simp only at K L u;subst K L;have N:=rE q.fr (fk H s);have e:=aV q.fr (bN A s);have D:∀v w',nH F ρ (.mem c I J) v w'→OW P fr ops Q rest (iV E d v) w':=by
      rintro v w' ⟨ρ',a',t2,n2,g1,S,g3,g4⟩;cases g1
      exact i _ _ ⟨ρ',_,_,_,_,S,q.put S g3 u g4,h3⟩
     generalize b s=bv at j e;cases bv <;> simp only [wB] at j <;> first|(cases j; done)|skip
     ·rename_i f first cap;simp only [aD] at e;cases z:concL ρ first with
      | none=>rw [z] at e; cases e
      | some fs=>
       cases G:concL ρ cap with
       | none=>rw [z,G] at e; cases e
       | some cs=>
        rw [z,G] at e;have e:=(Option.some.inj e).symm;have Z:=fv z (fv N G);have y:=R.fn F ρ f _ _ t n w q.fr.g q.hr Z (by rw [j]; intro h; cases h);rw [j] at y;rcases y with ⟨W,V⟩|⟨v,w',T,hR⟩
        ·exact oL (yp W e rfl) (jm B u) rfl V D
        ·exact rJ e rfl T (jm B u) (D v w' hR)
     ·rename_i l;simp only [aD] at e;split at e
      ·rename_i p hp;have y:=R.yl F ρ l p _ _ t n w q.fr.g q.hr N hp (by rw [j]; intro h; cases h);rw [j] at y;exact BK _ (Option.some.inj e).symm rfl y (jm B u) D
      ·cases e
end
section
variable {P:Program} {F:Frm} {ρ:List Place} {t:HpT} {n m:Nat} {s:FrT} {ds:DSs} {E:Env} {w:World} {fr:Fr} {Q:EPost}
theorem Dw {ops:Array Oper} {o:Oper} {rest:List Oper} {j:Nat} {e:Bool} {oj:Oper} {d:Tmp} {b:Bool} (f:o.guard=some (j,e)) (k:ops[j]?=some oj) (l:oj.dst=some d)
 (m:E d=.bool b) (i:(b == e)=true) (h:OW P fr ops Q ({ o with guard:=none }::rest) E w):OW P fr ops Q (o::rest) E w:=by
 intro a g;have hy:=eD g k l m;have c:=h a g;obtain ⟨n,op,ty,ps,af,gd⟩:=o;simp only at f;subst f;unfold wpListIn at c ⊢;rw [if_pos (fD rfl)] at c;rw [if_pos (by simp only [Region.wanted,hy]; simpa using i)];exact c
theorem zf {ops:Array Oper} {o:Oper} {rest:List Oper} {j:Nat} {c:Bool} {oj:Oper} {d:Tmp} (f:o.guard=some (j,c)) (e:ops[j]?=some oj) (g:oj.dst=some d)
 (i:E d=undef) (h:gA fr o.dst=true) (k:OW P fr ops Q rest (iV E o.dst undef) w):OW P fr ops Q (o::rest) E w:=by
 intro a b;refine wpListIn_step fun K l=>?_
 have hy:yielded ops a.tmps j=none:=by
  have:=b.get d;rw [i,Array.getD_eq_getD_getElem?] at this;unfold yielded;simp only [e,Jp,g];cases hx:a.tmps[d]? with
  | none=>rfl
  | some x=>rw [hx] at this; simp at this; subst this; rfl
 rw [if_neg (by simp [Region.wanted,f,hy])];exact ⟨fun _ _=>trivial,l _ _ (k _ (b.put h undef))⟩
theorem Dc {df:Bool} {o:Oper} {c:Call} {f:ot} (q:o.op=.defer c) (u:o.guard=none) (A:df=true) (h:wz c o.dst=some (.mk f)):wJ P df m o f:=by
 unfold wz at h;split at h
 ·rename_i x hc j hd;cases p:bc x with
  | none=>rw [p] at h; cases h
  | some b=>
   cases b with
   | mk b=>
    rw [p] at h;cases h
    intro fr ops rest Q call F ρ s t n ds k r E w B y D i a v z;have a:AR (fun ds=>k s t n ds) ds (b s)=r:=a;have e:=aV i.fr (bN p s);obtain ⟨d,op,ty,ps,af,gd⟩:=o;simp only at q u hd;subst q u hd;obtain ⟨callee,args,G⟩:=c;simp only at hc j;subst hc;have j:=gH j;subst j;generalize b s=bv at a e;cases bv with
    | fn f first cap=>
     cases first with
     | nil=>
      simp only [AR] at a;simp only [aD,concL] at e;cases l:concL ρ cap with
      | none=>rw [l] at e; cases e
      | some cs=>
       rw [l] at e;have e:=(Option.some.inj e).symm;exact vi cs (y A) e (z _ _ ⟨ρ,_,_,_,_,bj.refl _,⟨i.hr,⟨i.fr.g,i.fr.s⟩,(show nJ ρ (.fn f cap::ds) (fu f cs::E.ds) from ⟨⟨cs,l,rfl⟩,i.ds⟩)⟩,a⟩)
     | cons _ _=>simp only [AR] at a; exact absurd a.symm v
    | _=>simp only [AR] at a; exact absurd a.symm v
 ·cases h
theorem uY {b:Builtin} {xs:Array Operand} {ts:Array TypeId} {g:nI} (h:gG P b xs.toList ts.toList=some (.m g)):∀call,BM P (.call ⟨.builtin b,xs,ts⟩) (g call):=by
 unfold gG at h;split at h
 ·rename_i x y T T' hx ht;rw [gH hx,gH ht];cases hb:Nat.beq T T' with
  | false=>rw [hb] at h; cases h
  | true=>
   have:=Nat.eq_of_beq_eq_true hb;subst this;rw [hb,cond_true] at h;split at h
   ·rename_i el size zs he;exact sG h fun F ρ f t n E w a b c j k hr e hx hy i d ty ps af gd=>wG hr e hx hy (Dp he hr (aV e hx) (aV e hy) i)
   ·cases h
 ·split at h
  ·have:=eV h; cases this
  ·have:=eV h; cases this
  ·have:=eV h; cases this
  ·cases h
 ·have:=kU h; cases this
 ·have:=kU h; cases this
 ·rename_i x y T T' hx ht;rw [gH hx,gH ht];split at h
  ·rename_i el size zs he;exact sG h fun F ρ f t n E w a b c j k hr e hx hy i d ty ps af gd=>AY hr e hx hy (AU he hr (aV e hx) (aV e hy) i)
  ·cases h
 ·rename_i x y T ts' hx ht;rw [gH hx,gH ht];exact sG h fun F ρ f t n E w a b c j k hr e hx hy i d ty ps af gd=>wy hr e hx hy (by simp) (wx hr (aV e hx) i)
 ·cases h
theorem rc {df:Bool} {o:Oper} {f:ot} (e:o.guard=none) (h:pn P df m o=some (.mk f)):wJ P df m o f:=by
 unfold pn at h;split at h
 ·rename_i c i;cases df with
  | false=>cases h
  | true=>exact Dc i e rfl h
 ·rename_i op hnd;split at h
  ·rename_i put ko hd d;cases hu:(ko.isU && o.dst.isSome) with
   | true=>rw [hu] at h; cases h
   | false=>
    rw [hu,cond_false] at h;cases put with
    | mk put=>
     have h:=Option.some.inj h;cases ko with
     | v rd g=>exact EX e hd (FM d) h
     | a g=>cases h; exact wg e hd (EQ d)
     | u g=>
      cases h
      refine EY e ?_ (FN d);simp only [KO.isU,Bool.true_and] at hu;cases hdd:o.dst with
      | none=>rfl
      | some x=>rw [hdd] at hu; cases hu
     | m g=>
      cases h
      by_cases hcl:∃c,o.op=.call c
      ·obtain ⟨c,i⟩:=hcl;rw [i] at d;have d:mU P c=some (.m g):=d;obtain ⟨callee,args,D⟩:=c;unfold mU at d;simp only at d;split at d
       ·split at d
        ·exact Bs i e hd d
        ·exact Bq i e hd d
       ·cases d
       ·rename_i b;intro fr ops rest Q call F ρ s t n ds k r E w p l z j y A q;exact wg (df:=df) e hd (by rw [i]; exact uY d call) fr ops rest Q call F ρ s t n ds k r E w p l z j y A q
      ·have B:∀c,o.op≠.call c:=fun c i=>hcl ⟨c,i⟩
       intro fr ops rest Q call F ρ s t n ds k r E w p l z j y A q;exact wg (df:=df) e hd (FO d B call) fr ops rest Q call F ρ s t n ds k r E w p l z j y A q
  ·cases h
def Ib (P:Program) (df:Bool) (m:Nat) (ops:List Oper) (o:Oper) (f:ot):Prop:=∀(fr:Fr) (rest:List Oper) (Q:EPost) (call:CallY) (F:Frm) (ρ:List Place) (s:FrT) (t:HpT) (n:Nat) (ds:DSs) (k:KZ) (r:OR) (E:Env) (w:World),
 fr.sz=m→(df=true→fr.ro=none)→dS P call→kH F ρ s t n ds E w→f call s t n ds k=r→r≠.bad→(∀E' w',KQ F ρ k r E' w'→OW P fr ops.toArray Q rest E' w')→OW P fr ops.toArray Q (o::rest) E w
theorem ru {ops:List Oper} {o:Oper} {g:FrT→AV} {a:Bool} (h:fL ops o.guard=some (some (.mk g,a))):∃j oj d,o.guard=some (j,a)∧ops[j]?=some oj∧oj.dst=some d∧gO d=.mk g:=by
 unfold fL at h;split at h
 ·cases h
 ·rename_i j w' hgd;rw [fS] at h;split at h
  ·rename_i d op ty ps af gd hj;simp only [Option.some.injEq,Prod.mk.injEq] at h;obtain ⟨b,rfl⟩:=h;exact ⟨j,_,d,hgd,hj,rfl,b⟩
  ·cases h
theorem tZ {df:Bool} {ops:List Oper} {o:Oper} {f:ot} (h:fP P df m ops o=some (.mk f)):Ib P df m ops o f:=by
 unfold fP at h;split at h
 ·rename_i f' hg hp;cases h
  have H:o.guard=none:=by
   unfold fL at hg;cases hog:o.guard with
   | none=>rfl
   | some q=>
    rw [hog] at hg;simp only at hg;split at hg <;> cases hg
  intro fr rest Q call F ρ s t n ds k r E w i v A c a p u;exact rc H hp fr _ rest Q call F ρ s t n ds k r E w i v A c a p u
 ·rename_i g want put f' hg hd hp;cases g with
  | mk g=>cases put with
   | mk put=>cases f' with
    | mk f'=>
     cases h
     obtain ⟨j,oj,d,z,G,x,B⟩:=ru hg;have y:ops.toArray[j]?=some oj:=by simpa using G
     intro fr rest Q call F ρ s t n ds k r E w i v A c a p u;have a:uD want (f' call s t n ds k) (k (put s bV) t n ds) (g s)=r:=a;have e:aD ρ (g s)=some (E d):=by rw [gm d B s]; exact c.fr.s d
     generalize g s=gv at a e;have skip:k (put s bV) t n ds=r→OW P fr ops.toArray Q rest (iV E o.dst undef) w:=fun D=>
      u _ _ ⟨ρ,_,_,_,_,bj.refl _,c.put (bj.refl _) c.hr hd (show aD ρ bV=some undef from rfl),D⟩
     cases gv with
     | bool b=>
      simp only [uD] at a;simp only [aD,Option.some.injEq] at e;cases hw:(b == want) with
      | true=>
       rw [hw,cond_true] at a;refine Dw z y x e.symm hw ?_;exact rc (o:={ o with guard:=none }) rfl hp fr _ rest Q call F ρ s t n ds k r E w i v A c a p u
      | false=>
       rw [hw,cond_false] at a;exact na z y x e.symm hw (jm i hd) (skip a)
     | tup l=>
      cases l with
      | nil=>
       simp only [uD] at a;simp only [aD,concL,Option.some.injEq] at e;exact zf z y x e.symm (jm i hd) (skip a)
      | cons _ _=>simp only [uD] at a; exact absurd a.symm p
     | _=>simp only [uD] at a; exact absurd a.symm p
 ·cases h
theorem zP {df:Bool} {ops:List Oper} {o:Oper} {f:ot} (h:nT (fP P df m ops o)=.mk f):Ib P df m ops o f:=by
 unfold nT at h;cases ho:fP P df m ops o with
 | some g=>
  rw [ho] at h;have h:g=.mk f:=h;subst h;exact tZ ho
 | none=>
  rw [ho] at h;cases h
  intro fr rest Q call F ρ s t n ds k r E w hm hro hc hs he hb hk;exact absurd he.symm hb
theorem KQ.trans {k:KZ} {r:OR} {ρ':List Place} (hg:bj ρ ρ') {E':Env} {w':World} (h:KQ F ρ' k r E' w'):KQ F ρ k r E' w':=by
 obtain ⟨ρ2,s,t,n,ds,h1,h2,h3⟩:=h;exact ⟨ρ2,s,t,n,ds,hg.trans h1,h2,h3⟩
theorem sb {df:Bool} {ops:List Oper}:∀ {l:List Oper} {f:ot},tT P df m ops l=.mk f→∀(fr:Fr) (Q:EPost) (call:CallY) (F:Frm) (ρ:List Place) (s:FrT) (t:HpT) (n:Nat) (ds:DSs) (k:KZ) (r:OR) (E:Env) (w:World),
 fr.sz=m→(df=true→fr.ro=none)→dS P call→kH F ρ s t n ds E w→f call s t n ds k=r→r≠.bad→(∀E' w',KQ F ρ k r E' w'→Q .normal E' w')→OW P fr ops.toArray Q l E w
 | [],f,h,fr,Q,call,F,ρ,s,t,n,ds,k,r,E,w,hm,hro,hc,hs,he,hb,hq=>by
  cases h
  exact aa (hq _ _ ⟨ρ,s,t,n,ds,bj.refl _,hs,he⟩)
 | o::l,f,h,fr,Q,call,F,ρ,s,t,n,ds,k,r,E,w,hm,hro,hc,hs,he,hb,hq=>by
  have h:(CW.casesOn (nT (fP P df m ops o)) fun f=>CW.casesOn (tT P df m ops l) fun g=>.mk fun call s t n ds k=>f call s t n ds fun s t n ds=>g call s t n ds k:CW ot)=.mk f:=h;cases b:nT (fP P df m ops o) with
  | mk y=>
   cases a:tT P df m ops l with
   | mk x=>
    rw [b,a] at h;cases h
    refine zP b fr l Q call F ρ s t n ds _ r E w hm hro hc hs he hb fun E' w' e=>?_
    obtain ⟨ρ',s',c,d,u,q,p,j⟩:=e;exact sb a fr Q call F ρ' s' c d u k r E' w' hm hro hc p j hb fun z v i=>hq _ _ (i.trans q)
end
section
variable {P:Program} {F:Frm} {ρ:List Place} {t:HpT} {n m:Nat} {s:FrT} {ds:DSs} {E:Env} {w:World} {fr:Fr} {Q:EPost}
def CQ (F:Frm) (ρ:List Place) (kn:KZ) (ke:Nat→KZ) (kr:KZ) (r:OR):EPost:=fun e E w=>match e with
 | .normal=>KQ F ρ kn r E w
 | .exit i=>KQ F ρ (ke i) r E w
 | .ret=>KQ F ρ kr r E w
 | _=>False
instance {F:Frm} {ρ:List Place} {kn:KZ} {ke:Nat→KZ} {kr:KZ} {r:OR}:eM (CQ F ρ kn ke kr r):=⟨fun _ _ _ _ _ q=>q⟩
theorem CQ.trans {kn:KZ} {ke:Nat→KZ} {kr:KZ} {r:OR} {ρ':List Place} (hg:bj ρ ρ') {e:Exit} {E':Env} {w':World} (h:CQ F ρ' kn ke kr r e E' w'):CQ F ρ kn ke kr r e E' w':=by
 cases e with
 | normal=>exact KQ.trans hg h
 | exit i=>exact KQ.trans hg h
 | ret=>exact KQ.trans hg h
 | _=>exact h.elim
def nK (P:Program) (df:Bool) (m:Nat) (c:Code) (f:fQ):Prop:=∀(fr:Fr) (call:CallY) (F:Frm) (ρ:List Place) (s:FrT) (t:HpT) (n:Nat) (ds:DSs) (kn:KZ) (ke:Nat→KZ) (kr:KZ) (r:OR) (E:Env) (w:World),
 fr.sz=m→(df=true→fr.ro=none)→dS P call→kH F ρ s t n ds E w→f call s t n ds kn ke kr=r→r≠.bad→WP P fr c (CQ F ρ kn ke kr r) E w
def ig (P:Program):Prop:=∀(df:Bool) (m:Nat) (id:Nat) (ops:Array Oper) (f:ot),uO P df m ops.toList=.mk f→nK P df m (.region id ops true) (fun call s t n ds kn _ _=>f call s t n ds kn)
def fC (P:Program):Prop:=∀(df:Bool) (m:Nat) (g:Operand) (ps:Array Tmp) (asg body:Code) (x:FrT→AV),bc g=some (.mk x)→nK P df m (.rangeFunc g ps asg body) (fun call s t n ds kn _ _=>mw P df call m ps.toList asg body s t n ds kn (x s))
theorem BG {c:Code} (I:Nat→Env→World→Prop) (k:Nat) (b:I k E w) (f:∀E w,¬ I 0 E w)
 (round:∀j E w,I (j+1) E w→WP P fr c (fun e E w=>match e with|.normal=>I j E w|e=>Q e E w) E w):WP P fr (.loop c) Q E w:=by
 intro a g;refine wpIn_loop_rounds k ?_;induction k generalizing E w a with
 | zero=>exact absurd b (f E w)
 | succ k ih=>
  rw [roundsIn_succ];refine wpIn_mono (round k E w b a g) ?_;rintro e h w' ⟨E',d,q⟩;cases e with
  | normal=>exact ih q h d
  | _=>exact ⟨E',d,q⟩
theorem mV {df:Bool} {c:Code}:nK P df m c (fun _ _ _ _ _ _ _ _=>.bad):=by
 intro fr call F ρ s t n ds kn ke kr r E w hm hro hc hs he hb;exact absurd he.symm hb
theorem Af {df:Bool} {c:Code} {f:fQ} (z:nK P df m c f) (fuel:Nat):nK P df m (.loop c) (fun call s t n ds _ b a=>uq (fun s t n ds k=>f call s t n ds k b a) fuel s t n ds):=by
 intro fr call F ρ s t n ds H b a r E w y x B v A p;refine BG (fun j E w=>KQ F ρ (uq (fun s t n ds k=>f call s t n ds k b a) j) r E w) fuel ⟨ρ,s,t,n,ds,bj.refl _,v,A⟩ ?_ ?_
 ·rintro E w ⟨_,_,_,_,_,_,_,h⟩;exact absurd h.symm p
 ·rintro j E w ⟨ρ',s',l,o,u,g,D,d⟩;have d:f call s' l o u (uq (fun s t n ds k=>f call s t n ds k b a) j) b a=r:=d;refine (z fr call F ρ' s' l o u _ b a r E w y x B D d p).mono fun e I G q=>?_
  cases e with
  | normal=>exact KQ.trans g q
  | exit i=>exact KQ.trans g q
  | ret=>exact KQ.trans g q
  | _=>exact q.elim
theorem dN {df:Bool} (H:ig P) (G:fC P) (fuel:Nat):∀(c:Code) (f:fQ),dO P df m fuel c=.mk f→nK P df m c f
 | .skip,f,h=>by
  cases h
  intro fr call F ρ s t n ds d p o r E w B A D v u z;exact ax ⟨ρ,s,t,n,ds,bj.refl _,v,u⟩
 | .region id ops draw,f,h=>by
  have h:(CW.casesOn (bif draw then uO P df m ops.toList else tT P df m ops.toList ops.toList) fun f=>.mk fun call s t n ds d _ _=>f call s t n ds d:CW fQ)=.mk f:=h;cases draw with
  | true=>
   simp only [cond_true] at h;cases y:uO P df m ops.toList with
   | mk g=>rw [y] at h; cases h; exact H df m id ops g y
  | false=>
   simp only [cond_false] at h;cases y:tT P df m ops.toList ops.toList with
   | mk g=>
    rw [y] at h;cases h
    intro fr call F ρ s t n ds d p o r E w B A D v u z;have:=sb y fr (CQ F ρ d p o r) call F ρ s t n ds d r E w B A D v u z fun E' w' Z=>Z
    have:=ak (id:=id) this;simpa using this
 | .seq a b,f,h=>by
  have h:(CW.casesOn (dO P df m fuel a) fun f=>CW.casesOn (dO P df m fuel b) fun g=>.mk fun call s t n ds d p o=>f call s t n ds (fun s t n ds=>g call s t n ds d p o) p o:CW fQ)=.mk f:=h;cases y:dO P df m fuel a with
  | mk J=>cases R:dO P df m fuel b with
   | mk V=>
    rw [y,R] at h;cases h
    intro fr call F ρ s t n ds d p o r E w B A D v u z;refine aA ((dN H G fuel a J y fr call F ρ s t n ds _ p o r E w B A D v u z).mono fun e X W q=>?_);cases e with
    | normal=>
     obtain ⟨ρ',s',L,N,Q,U,T,I⟩:=q;exact (dN H G fuel b V R fr call F ρ' s' L N Q d p o r X W B A D T I z).mono fun e E3 w3 q=>q.trans U
    | exit i=>exact q
    | ret=>exact q
    | _=>exact q.elim
 | .cond c a b,f,h=>by
  have h:(Option.casesOn (bc c) za fun x=>CW.casesOn x fun x=>CW.casesOn (dO P df m fuel a) fun f=>CW.casesOn (dO P df m fuel b) fun g=>.mk fun call s t n ds d p o=>xX (f call s t n ds d p o) (g call s t n ds d p o) (x s):CW fQ)=.mk f:=h;cases K:bc c with
  | none=>rw [K] at h; cases h; exact mV
  | some x=>cases x with
   | mk x=>cases y:dO P df m fuel a with
    | mk J=>cases R:dO P df m fuel b with
     | mk V=>
      rw [K,y,R] at h;cases h
      intro fr call F ρ s t n ds d p o r E w B A D v u z;have u:xX (J call s t n ds d p o) (V call s t n ds d p o) (x s)=r:=u;have S:=aV v.fr (bN K s);generalize x s=xv at u S;cases xv with
      | bool bb=>
       simp only [aD,Option.some.injEq] at S;cases bb with
       | true=>exact ap S.symm rfl (dN H G fuel a J y fr call F ρ s t n ds d p o r E w B A D v u z)
       | false=>exact al S.symm rfl (dN H G fuel b V R fr call F ρ s t n ds d p o r E w B A D v u z)
      | _=>simp only [xX] at u; exact absurd u.symm z
 | .block i c,f,h=>by
  have h:(CW.casesOn (dO P df m fuel c) fun f=>.mk fun call s t n ds d p o=>f call s t n ds d (fun j s t n ds=>bif Nat.beq j i then d s t n ds else p j s t n ds) o:CW fQ)=.mk f:=h;cases y:dO P df m fuel c with
  | mk J=>
   rw [y] at h;cases h
   intro fr call F ρ s t n ds d p o r E w B A D v u z;refine am ((dN H G fuel c J y fr call F ρ s t n ds d _ o r E w B A D v u z).mono fun e X W q=>?_);cases e with
   | normal=>exact q
   | exit j=>
    simp only [tj];obtain ⟨ρ',s',L,N,Q,U,T,I⟩:=q;have I:(bif Nat.beq j i then d s' L N Q else p j s' L N Q)=r:=I;cases hj:Nat.beq j i with
    | true=>
     rw [hj,cond_true] at I;rw [if_pos (Nat.eq_of_beq_eq_true hj)];exact ⟨ρ',s',L,N,Q,U,T,I⟩
    | false=>
     rw [hj,cond_false] at I;rw [if_neg (fun e=>by subst e; simp at hj)];exact ⟨ρ',s',L,N,Q,U,T,I⟩
   | ret=>exact q
   | _=>exact q.elim
 | .loop c,f,h=>by
  have h:(CW.casesOn (dO P df m fuel c) fun f=>.mk fun call s t n ds _ p o=>uq (fun s t n ds k=>f call s t n ds k p o) fuel s t n ds:CW fQ)=.mk f:=h;cases y:dO P df m fuel c with
  | mk J=>rw [y] at h; cases h; exact Af (dN H G fuel c J y) fuel
 | .rangeFunc g ps asg body,f,h=>by
  have h:(Option.casesOn (bc g) za fun x=>CW.casesOn x fun x=>.mk fun call s t n ds d _ _=>mw P df call m ps.toList asg body s t n ds d (x s):CW fQ)=.mk f:=h;cases K:bc g with
  | none=>rw [K] at h; cases h; exact mV
  | some x=>cases x with
   | mk x=>rw [K] at h; cases h; exact G df m g ps asg body x K
 | .exit i,f,h=>by
  cases h
  intro fr call F ρ s t n ds d p o r E w B A D v u z;exact aY ⟨ρ,s,t,n,ds,bj.refl _,v,u⟩
 | .scope c,f,h=>by
  have h:dO P df m fuel c=.mk f:=h;intro fr call F ρ s t n ds d p o r E w B A D v u z;refine BF ((dN H G fuel c f h fr call F ρ s t n ds d p o r E w B A D v u z).mono fun e X W q=>?_);cases e <;> first|exact q|exact q.elim
 | .label l,f,h=>by
  cases h
  intro fr call F ρ s t n ds d p o r E w B A D v u z;exact BH ⟨ρ,s,t,n,ds,bj.refl _,v,u⟩
 | .goto l,f,h=>by cases h; exact mV
 | .ret,f,h=>by
  cases h
  intro fr call F ρ s t n ds d p o r E w B A D v u z;exact aI ⟨ρ,s,t,n,ds,bj.refl _,v,u⟩
 | .refuse w',f,h=>by cases h; exact mV
end
section
variable {P:Program} {F:Frm} {ρ:List Place} {t:HpT} {n m:Nat} {s:FrT} {ds:DSs} {E:Env} {w:World} {fr:Fr}
def Hv (P:Program) (fr:Fr) (E:Env) (w:World):List ResultVar→List Value→Prop
 | [],[]=>True
 | r::l,v::vs=>RV P fr E w r v∧Hv P fr E w l vs
 | _,_=>False
theorem xa {a:Act} (ha:cV fr E a):∀ {l:List ResultVar} {vs:List Value},Hv P fr E w l vs→(l.mapM (pc a)).run P w=.ok vs w
 | [],[],_=>by simp
 | r::l,v::vs,⟨h1,h2⟩=>by
  simp [List.mapM_cons,h1 a ha,xa ha h2]
 | [],_::_,h=>h.elim
 | _::_,[],h=>h.elim
theorem pf {fn:Func} {vs:List Value} (h:Hv P fr E w fn.results.toList vs):iT P fn fr E w (match (generalizing:=false) vs with
 | [v]=>v
 | l=>.tuple l.toArray):=fun a b=>by
 rw [iY a rfl];have d:=xa b h;have c:(fn.results.mapM (pc a)).run P w=.ok vs.toArray w:=by
  rw [Array.mapM_eq_mapM_toList,map_eq_pure_bind];simp only [Sem.run_bind,d,Jz,Sem.run_pure]
 simp only [Sem.run_bind,c,Jz]
 match vs with
 | []=>rfl
 | [v]=>rfl
 | v::u::l=>
  have:¬ (v::u::l).toArray.size=1:=by simp
  simp [this]
theorem ur {T:TypeId} {agg:Bool} {size y:Nat} {z:Value} {h:List AB} (r:js P T=some (agg,size,y,z)) (hr:HR F ρ h w) {a c:AV} {u:Value} (x:aD ρ a=some u) (d:nW P h T a=some c) :
 ∃ad,u=.pointer (some ad)∧((agg=false∧∃v,w.cell? ad=some v∧aD ρ c=some v)∨(agg=true∧∃(vs:List Value),vs.length=size∧(∀(j:Nat) v,vs[j]?=some v→w.cell? (ad.add j)=some v)∧aD ρ c=some (.agg vs.toArray))):=by
 unfold nW at d;split at d
 ·rename_i b o;obtain ⟨p,n,q⟩:=eW x;split at d
  ·rename_i agg' size' bytes' z' l T' e own heq hb;rw [r] at heq;simp only [Option.some.injEq,Prod.mk.injEq] at heq;obtain ⟨rfl,rfl,rfl,rfl⟩:=heq;refine ⟨_,q,?_⟩;cases agg with
   | false=>
    simp only [Bool.false_eq_true,if_false] at d;obtain ⟨v,k,g⟩:=hr.cell n hb d;exact .inl ⟨rfl,v,k,g⟩
   | true=>
    simp only [if_true] at d;split at d
    ·rename_i hle;cases d
     obtain ⟨vs,m,t⟩:=gD (ρ:=ρ) (l:=(l.drop o).take size) (fun i=>w.cell? ⟨p.b,p.o+o+i,none⟩) (fun i a f=>by
      rw [List.getElem?_take] at f;split at f
      ·rw [List.getElem?_drop] at f;obtain ⟨v,k,g⟩:=hr.cell n hb f;exact ⟨v,by rw [Nat.add_assoc]; exact k,g⟩
      ·cases f)
     refine .inr ⟨rfl,vs,?_,?_,by simp only [aD,m]⟩
     ·rw [bI m,JG,JQ]; omega
     ·intro j u s;rw [Addr.add_lit];exact t j u s
    ·cases d
  ·cases d
 ·cases d
theorem zE {r:ResultVar} {f:FrT→HpT→OR} (h:tQ P r=some (.mk f)) (b:kH F ρ s t n ds E w) {a:AV} (j:f s t=.val a):∃v,aD ρ a=some v∧RV P fr E w r v:=by
 cases r with
 | tmp k=>
  have h:(CW.casesOn (gO k) fun f=>some (.mk fun s (_:HpT)=>OR.val (f s)):Option (CW (FrT→HpT→OR)))=some (.mk f):=h;cases hk:gO k with
  | mk g=>
   rw [hk] at h;cases h
   cases j
   refine ⟨E k,by rw [gm k hk s]; exact b.fr.s k,aU rfl⟩
 | cell c T=>
  simp only [tQ] at h;cases hk:gO c with
  | mk g=>
   rw [hk] at h;simp only at h;have d:aD ρ (g s)=some (E c):=by rw [gm c hk s]; exact b.fr.s c
   split at h
   ·rename_i size bytes z ht;cases h
    have i:=xA (P:=P) (T:=T) ht b.hr d j;obtain ⟨q,e,⟨o,_⟩|⟨_,vs,m,l,p⟩⟩:=ur ht b.hr d i
    ·cases o
    ·exact ⟨_,p,ba (cR ht) e m l⟩
   ·rename_i size bytes z ht;cases h
    have i:=xB (P:=P) (T:=T) ht b.hr d j;obtain ⟨q,e,⟨_,v,m,l⟩|⟨o,_⟩⟩:=ur ht b.hr d i
    ·exact ⟨v,l,fU (cR ht) e m⟩
    ·cases o
   ·cases h
theorem pe:∀ {l:List ResultVar} {R:FrT→HpT→(List AV→OR)→OR},il P l=some (.mk R)→kH F ρ s t n ds E w→∀ {k:List AV→OR} {r:OR},R s t k=r→r≠.bad→∃c vs,concL ρ c=some vs∧Hv P fr E w l vs∧k c=r
 | [],R,h,hs,k,r,he,hb=>by
  cases h
  exact ⟨[],[],rfl,trivial,he⟩
 | x::l,R,h,hs,k,r,he,hb=>by
  have h:(Option.casesOn (tQ P x) none fun f=>Option.casesOn (il P l) none fun g=>CW.casesOn f fun f=>CW.casesOn g fun g=>some (.mk fun s t k=>OR.casesOn (f s t) .bad (fun v=>g s t fun l=>k (v::l)) (fun _ _ _=>.bad)):Option (CW (FrT→HpT→(List AV→OR)→OR)))=some (.mk R):=h;cases b:tQ P x with
  | none=>rw [b] at h; cases h
  | some f=>
   cases d:il P l with
   | none=>rw [b,d] at h; cases h
   | some g=>
    cases f with
    | mk f=>cases g with
     | mk g=>
      rw [b,d] at h;cases h
      obtain ⟨a,q,p⟩:=nV he hb;obtain ⟨v,o,m⟩:=zE (fr:=fr) b hs q;obtain ⟨c,vs,j,i,e⟩:=pe d hs p hb;exact ⟨a::c,v::vs,by simp only [concL,o,j],⟨m,i⟩,e⟩
theorem xd {c:List AV} {vs:List Value} (h:concL ρ c=some vs):aD ρ (Ex c)=some (match (generalizing:=false) vs with
 | [v]=>v
 | l=>.tuple l.toArray):=by
 match c,vs,h with
 | [],vs,h=>cases h; rfl
 | [a],vs,h=>
  simp only [concL] at h;cases ha:aD ρ a with
  | none=>rw [ha] at h; cases h
  | some v=>rw [ha] at h; cases h; exact ha
 | a::b::l,vs,h=>
  have d:=bI h
  match vs,d with
  | u::v::r,_=>simp only [Ex,aD,h]
end
section
variable {P:Program} {F:Frm} {ρ:List Place} {t:HpT} {n m:Nat} {s:FrT} {ds:DSs} {E:Env} {w:World} {fr:Fr} {call:CallY}
theorem mL {xs:List AV} {vs:List Value} (hG:GI ρ) (h:concL ρ xs=some vs):FR ρ ((jr xs 0 .nil).at bV) (fx vs):=by
 have:=FR.args hG h;refine ⟨hG,fun k=>?_⟩;rw [←this.s k];congr 1;rw [oP,if_neg (Nat.not_lt_zero k),Nat.sub_zero,TR.at_nil,Jl];cases xs[k]? <;> rfl
theorem vA {ops:Array Oper} {a b:Tmp} (h:sc ops.toList=some (a,b)):∃(i:Array TypeId) (e d:TypeId) (g f:String) (k j:Array Edge),ops=#[⟨some a,.call { callee:=.builtin .recover,args:=#[],argTypes:=i },e,g,k,none⟩,⟨some b,.assign (.tmp a),d,f,j,none⟩]:=by
 obtain ⟨l⟩:=ops;simp only at h;unfold sc at h;split at h
 ·rename_i p o;obtain ⟨w,op1,e,g,k,u⟩:=p;obtain ⟨v,r,d,f,j,t⟩:=o;simp only at h;split at h
  ·rename_i c a0 q y;obtain ⟨x,n,i⟩:=c;simp only at h;split at h
   ·rename_i s m;cases hq:Nat.beq a0 q with
    | false=>rw [hq] at h; cases h
    | true=>
     rw [hq] at h;cases h
     obtain rfl:=Nat.eq_of_beq_eq_true hq;obtain ⟨n⟩:=n;simp only at m;subst m;exact ⟨i,e,d,g,f,k,j,by simp_all⟩
   ·cases h
  ·cases h
 ·cases h
theorem CZ {fuel:Nat} (D:ig P) (B:fC P) {f:FuncId} {G:CallY→List AV→HpT→Nat→OR} (h:AO P fuel f=.mk G) (A:dS P call) {xs:List AV} {vs:List Value} (x:GI ρ) (hr:HR F ρ (co t n) w) (hx:concL ρ xs=some vs) (c:G call xs t n≠.bad) :
 CF P f∧lX P f vs.toArray .returning .returning w fun w'=>∃ρ' g j,G call xs t n=.mem bV g j∧bj ρ ρ'∧HR F ρ' (co g j) w':=by
 unfold AO at h;split at h
 ·rename_i fn hfn;split at h
  ·rename_i id ops rest hbody m;cases hnm:fn.name == "runtime.NumGoroutine" with
   | true=>rw [hnm] at m; cases m
   | false=>
    rw [hnm] at m;have m:fn.results.toList=[]:=by
     simpa using m
    split at h
    ·rename_i a b hrec;cases hab:Nat.blt a fn.ntmps && Nat.blt b fn.ntmps with
     | false=>rw [hab] at h; cases h; exact absurd rfl c
     | true=>
      rw [hab] at h;cases hcz:dO P true fn.ntmps fuel rest with
      | mk K=>
       rw [hcz] at h;cases h
       cases hle:Nat.ble (cG xs) fn.ntmps with
       | false=>simp only [hle,cond_false,ne_eq,not_true_eq_false] at c
       | true=>
        simp only [hle,cond_true] at c ⊢;obtain ⟨N,I,H,L,J,R,Q,rfl⟩:=vA hrec;have u:Nat.ble vs.length fn.ntmps=true:=by rw [bI hx,←cQ]; exact hle
        simp only [Bool.and_eq_true] at hab;have y:=((mL x hx).put a (a:=.if0) (v:=.nilIface) rfl (s':=((jr xs 0 .nil).set bV a .if0).at bV) (fun k=>by rw [TR.at_set])).put b (a:=.if0) (v:=.nilIface) rfl (s':=(((jr xs 0 .nil).set bV a .if0).set bV b .if0).at bV) (fun k=>by rw [TR.at_set]);refine ⟨bw hfn (by rw [hbody]; rfl) hnm,nC (val:=.nilIface) (.inl ⟨rfl,rfl,rfl⟩) hfn hbody rfl u hab.1 hab.2 ?_⟩;refine (dN D B fuel rest K hcz ⟨fn.ntmps,none⟩ call F ρ _ t n [] _ _ _ _ _ w rfl (fun _=>rfl) A ⟨hr,y,trivial⟩ rfl c).mono ?_;have key:∀E' w',KQ F ρ (fun (_:FrT) t n (ds:DSs)=>(List.casesOn ds (.mem bV t n) fun _ _=>.bad:OR)) (K call (((jr xs 0 .nil).set bV a .if0).set bV b .if0) t n [] (fun _ t n ds=>List.casesOn ds (.mem bV t n) fun _ _=>.bad) (fun _ _ _ _ _=>.bad) (fun _ t n ds=>List.casesOn ds (.mem bV t n) fun _ _=>.bad)) E' w'→E'.ds=[]∧∃v,iT P fn ⟨fn.ntmps,none⟩ E' w' v∧∃ρ' g j,(K call (((jr xs 0 .nil).set bV a .if0).set bV b .if0) t n [] (fun _ t n ds=>List.casesOn ds (.mem bV t n) fun _ _=>.bad) (fun _ _ _ _ _=>.bad) (fun _ t n ds=>List.casesOn ds (.mem bV t n) fun _ _=>.bad))=.mem bV g j∧bj ρ ρ'∧HR F ρ' (co g j) w':=by
         rintro E' w' ⟨ρ',s',g,j,s,r,p,o⟩;cases s with
         | cons d l=>exact absurd o.symm c
         | nil=>
          have z:E'.ds=[]:=by
           have:=p.ds;cases he:E'.ds with
           | nil=>rfl
           | cons d l=>rw [he] at this; exact this.elim
          exact ⟨z,_,pf (vs:=[]) (by rw [m]; trivial),ρ',g,j,o.symm,r,p.hr⟩
        intro e E' w' q;cases e with
        | normal=>exact key E' w' q
        | ret=>exact key E' w' q
        | exit i=>
         obtain ⟨ρ',s',g,j,s,r,p,o⟩:=q;exact absurd o.symm c
        | _=>exact q.elim
    ·cases h; exact absurd rfl c
  ·cases h; exact absurd rfl c
 ·cases h; exact absurd rfl c
end
def LW (P:Program) (fn:Func) (n:Fr) (E:Env) (R:Value→World→Prop):List Deferred→World→Prop
 | [],w=>∃v,iT P fn n E w v∧R v w
 | d::ds,w=>(∃D w',d=xw D∧(Instr.takeDeferred D).run P w=.ok [] w'∧LW P fn n E R ds w')∨
  ∃f cap S,d=fu f cap∧CF P f∧lX P f (List.toArray cap) .returning .returning w S∧∀w',S w'→LW P fn n E R ds w'
def FW (P:Program) (fn:Func) (n:Fr) (R:Value→World→Prop):EPost:=fun e E w=>match e with
 | .normal|.ret=>LW P fn n E R E.ds w
 | _=>False
section
variable {P:Program} {n:Fr} {Q:EPost} {E:Env} {w:World} {fn:Func} {R:Value→World→Prop}
theorem nm {a:Act} (b:cV n E a):∀(ds:List Deferred) (w:World),LW P fn n E R ds w→LeavesInM (Fz n) 0 P fn a.tmps (fun e w'=>∃v,e=.returned v∧R v w') ds .returning w
 | [],w,⟨v,hr,hR⟩=>⟨v,hr a b,v,rfl,hR⟩
 | _::ds,w,.inl ⟨D,w',hd,ht,h⟩=>⟨by simp,.inl ⟨D,w',by rw [hd]; rfl,ht,nm b ds w' h⟩⟩
 | _::ds,w,.inr ⟨f,cap,S,hd,hcf,hc,hk⟩=>by
  subst hd;obtain ⟨d,l,c,k⟩:=hcf;have g:¬ d.name = "runtime.NumGoroutine":=by simpa using k
  have i:¬ d.body=none:=by intro h; rw [h] at c; cases c
  refine ⟨by simp,.inr ⟨fun h=>(by cases h),.func f,List.toArray cap,f,List.toArray cap,rfl,?_,fun _ _=>trivial,?_⟩⟩
  ·simp [fu,invoke,callFunc,l,i,g]
  ·refine CallsDIn.mono (F:=Fz ⟨0,none⟩) hc ?_;rintro e m w' ⟨rfl,v,rfl,j⟩;exact nm b ds w' (hk w' j)
theorem fV {f:FuncId} {c:Code} {m:Nat} {args:List Value} (i:P.funcs[f]?=some fn) (j:fn.body=some c) (d:fn.ntmps=m) (g:Nat.ble args.length m=true)
 (h:WP P ⟨m,none⟩ c (FW P fn ⟨m,none⟩ R) (fx args) w):aT P f args.toArray w R:=by
 subst d;refine callsIn_wide (n:=0) |>.1 (callsIn_of_wp_marks (F:=Fz ⟨fn.ntmps,none⟩) i j trivial ?_);refine wpIn_mono (h _ (iQ args _ (Nat.le_of_ble_eq_true g))) ?_;rintro e a w ⟨E,b,q⟩;cases e <;> first
  | exact q.elim
  | (show LeavesInM _ _ _ _ _ _ a.defers _ _; rw [b.defers]; exact nm b E.ds w q)
end
section
variable {P:Program} {F:Frm} {ρ:List Place} {t:HpT} {n m:Nat} {s:FrT} {ds:DSs} {E:Env} {w:World} {fr:Fr} {call:CallY}
theorem mj {fuel:Nat} (q:ig P) (o:fC P) (m:dS P call) {fn:Func} {R:Value→World→Prop} {k:HpT→Nat→OR} {r:OR} (j:r≠.bad):∀(ds:DSs) (l:List Deferred) (ρ:List Place) (t:HpT) (n:Nat) (w:World),nJ ρ ds l→GI ρ→HR F ρ (co t n) w→xc P fuel call ds t n k=r→
 (∀ρ' g i w',bj ρ ρ'→HR F ρ' (co g i) w'→k g i=r→∃v,iT P fn fr E w' v∧R v w')→LW P fn fr E R l w
 | [],[],ρ,t,n,w,hd,hg,hr,a,c=>c ρ t n w (bj.refl _) hr a
 | .fn f cap::ds,d::l,ρ,t,n,w,⟨⟨vs,hv,hdd⟩,hd⟩,hg,hr,a,c=>by
  have a:(CW.casesOn (AO P fuel f) fun G=>OR.casesOn (G call cap t n) .bad (fun _=>.bad) (fun _ t n=>xc P fuel call ds t n k):OR)=r:=a;cases hG:AO P fuel f with
  | mk G=>
   rw [hG] at a;simp only at a;have H:G call cap t n≠.bad:=by
    intro h;rw [h] at a;exact j a.symm
   obtain ⟨Q,N⟩:=CZ q o hG m hg hr hv H;refine .inr ⟨f,vs,_,hdd,Q,N,?_⟩;rintro w' ⟨ρ',g,i,T,s,S⟩;rw [T] at a;exact mj q o m j ds l ρ' g i w' (hd.mono s) (hg.mono s) S a fun y A B z L K J=>c y A B z (s.trans L) K J
 | .mark b::ds,d::l,ρ,t,n,w,⟨⟨p,hp,hdd⟩,hd⟩,hg,hr,a,c=>by
  have a:(match t.get b with
   | .other .defs=>xc P fuel call ds (t.put b .dead) n k
   | _=>.bad:OR)=r:=a
  split at a
  ·rename_i hbl;have x:=cC hr hp hbl;have D:w.heap[p.b]?=some (.deferred (some [])):=hr.at_ b p _ hp x;have I:w.grownBy (w.putObj p.b (.deferred none)) (some p.b):=⟨rfl,rfl,rfl,by simp,fun k _ c=>World.putObj_heap_other (fun e=>c (by simp [e]))⟩;have u:=hr.upd hp x rfl (x':=.dead) I trivial rfl;rw [←show (co (t.put b .dead) n)=(co t n).set b .dead from dp t n b .dead] at u;exact .inl ⟨p.b,_,hdd,run_takeDeferred D,mj q o m j ds l ρ _ n _ hd hg u a c⟩
  ·exact absurd a.symm j
 | .fn f cap::ds,[],ρ,t,n,w,hd,hg,hr,a,c=>hd.elim
 | .mark b::ds,[],ρ,t,n,w,hd,hg,hr,a,c=>hd.elim
 | [],d::l,ρ,t,n,w,hd,hg,hr,a,c=>hd.elim
theorem Fe {fuel:Nat} (z:ig P) (y:fC P) {f:FuncId} {G:CallY→List AV→HpT→Nat→OR} (h:Ge P fuel f=.mk G) (x:dS P call) {xs:List AV} {vs:List Value} (L:GI ρ) (I:HR F ρ (co t n) w) (hx:concL ρ xs=some vs) (a:G call xs t n≠.bad) :
 fM P f vs w (nH F ρ (G call xs t n)):=by
 unfold Ge at h;split at h
 ·cases h; exact absurd Y a
 ·rename_i fn hfn;split at h
  ·rename_i c j hbody b;cases hnm:fn.name == "runtime.NumGoroutine" with
   | true=>rw [hnm] at b; cases b
   | false=>
    rw [hnm] at b;have b:il P fn.results.toList=some j:=b;cases hcz:dO P true fn.ntmps fuel c with
    | mk K=>
     cases j with
     | mk j=>
      rw [hcz] at h;cases h
      cases hle:Nat.ble (cG xs) fn.ntmps with
      | false=>simp only [hle,cond_false,ne_eq,not_true_eq_false] at a
      | true=>
       simp only [hle,cond_true] at a ⊢;have J:Nat.ble vs.length fn.ntmps=true:=by rw [bI hx,←cQ]; exact hle
       refine .inl ⟨bw hfn (by rw [hbody]; rfl) hnm,fV hfn hbody Y J ?_⟩;generalize hrr:K call (jr xs 0 .nil) t n [] (mP P fuel j call) (fun _ _ _ _ _=>.bad) (mP P fuel j call)=r at a ⊢;refine (dN z y fuel c K hcz ⟨fn.ntmps,none⟩ call F ρ _ t n [] _ _ _ r _ w Y (fun _=>Y) x ⟨I,mL L hx,trivial⟩ hrr a).mono ?_;have key:∀E' w',KQ F ρ (mP P fuel j call) r E' w'→LW P fn ⟨fn.ntmps,none⟩ E' (nH F ρ r) E'.ds w':=by
        rintro E' w' ⟨ρ',s',s,v,m,B,d,l⟩;refine mj z y x a m E'.ds ρ' s v w' d.ds d.fr.g d.hr l ?_;intro o p u D k A S;have H:kH F o s' p u m E' D:=⟨A,d.fr.mono k,d.ds.mono k⟩;obtain ⟨U,T,R,Q,N⟩:=pe (fr:=⟨fn.ntmps,none⟩) b H S a;exact ⟨_,pf Q,o,_,p,u,N.symm,B.trans k,A,xd R⟩
       intro e E' w' q;cases e with
       | normal=>exact key E' w' q
       | ret=>exact key E' w' q
       | exit i=>
        obtain ⟨ρ',s',s,v,m,B,d,l⟩:=q;exact absurd l.symm a
       | _=>exact q.elim
  ·cases h; exact absurd Y a
def yf (P:Program) (lib:zh):Prop:=∀(f:FuncId) (g:List AV→HpT→Nat→OR),lib f=some (.mk g)→∀(F:Frm) (ρ:List Place) (xs:List AV) (vs:List Value) (t:HpT) (n:Nat) (w:World),GI ρ→HR F ρ (co t n) w→concL ρ xs=some vs→g xs t n≠.bad→fM P f vs w (nH F ρ (g xs t n))
def El (P:Program) (fuel:Nat):Prop:=∀(call:CallY),dS P call→∀(F:Frm) (ρ:List Place) (b:Nat) (p:Place) (xs:List AV) (vs:List Value) (t:HpT) (n:Nat) (w:World),GI ρ→HR F ρ (co t n) w→concL ρ xs=some vs→ρ[b]?=some p→Cf P fuel call b xs t n≠.bad→mY P (.func (.yield p.b) #[] #[]) vs w (nH F ρ (Cf P fuel call b xs t n))
theorem xb {fuel:Nat} {c:zh} (l:ig P) (i:fC P) (k:yf P c) (j:El P fuel):∀(d:Nat),dS P (yq P c fuel d)
 | 0=>⟨fun F ρ f xs vs t n w e hr hx a=>absurd rfl a,fun F ρ b p xs vs t n w e hr hx h a=>absurd rfl a⟩
 | d+1=>by
  have ih:=xb l i k j d;refine ⟨fun F ρ f xs vs t n w e hr hx a=>?_,fun F ρ b p xs vs t n w e hr hx h a=>j _ ih F ρ b p xs vs t n w e hr hx h a⟩;have m:yq P c fuel (d+1) (.fn f)=(match c f with
   | some g=>CW.casesOn g fun g=>g
   | none=>CW.casesOn (Ge P fuel f) fun F=>F (yq P c fuel d):List AV→HpT→Nat→OR):=rfl
  rw [m] at a ⊢;cases hl:c f with
  | some g=>
   cases g with
   | mk g=>
    rw [hl] at a;exact k f g hl F ρ xs vs t n w e hr hx a
  | none=>
   rw [hl] at a;cases hG:Ge P fuel f with
   | mk G=>
    simp only [hG] at a ⊢;exact Fe l i hG ih e hr hx a
end
section
variable {P:Program} {F:Frm} {ρ:List Place} {h:List AB} {w:World}
theorem iw {y:AB}:y.own=true→y.live=true:=by cases y <;> simp [AB.own,AB.live]
theorem ef {b:Nat} {x:AB} {c:Nat} {y:AB} (hy:(h.set b x)[c]?=some y):(c=b∧y=x)∨(c≠b∧h[c]?=some y):=by
 rw [JM] at hy
 by_cases hc:b=c
 ·subst hc;rw [if_pos rfl] at hy;split at hy
  ·exact .inl ⟨rfl,(Option.some.inj hy).symm⟩
  ·cases hy
 ·rw [if_neg hc] at hy;exact .inr ⟨Ne.symm hc,hy⟩
def Frm.and (F:Frm) (w:World) (b:Nat):Frm:=⟨w,fun c=>F.D c∨c=b,fun c=>F.E c∨c=b⟩
theorem HR.fence (hr:HR F ρ h w) {b:Nat} {p:Place} {x:AB} (l:ρ[b]?=some p) (hx:h[b]?=some x) (m:x.own=true):HR (F.and w p.b) ρ (h.set b .dead) w:=by
 have v:=(hr.at_ b p x l hx).lt (iw m);refine ⟨⟨rfl,rfl,rfl,Nat.le_refl _,fun c f=>⟨?_,rfl⟩⟩,by simp [hr.len],?_,?_,?_,?_⟩
 ·rcases f with f|rfl
  ·exact hr.below.lt f
  ·exact v
 ·intro c q y e hy;rcases ef hy with ⟨rfl,rfl⟩|⟨f,a⟩
  ·trivial
  ·exact hr.at_ c q y e a
 ·intro c q y e hy i;rcases ef hy with ⟨rfl,rfl⟩|⟨f,a⟩
  ·cases i
  ·rintro (g|j)
   ·exact hr.fresh c q y e a i g
   ·exact hr.apart c b q p y x f e l a hx i (iw m) j
 ·intro c d q r y z A e u hy t i o;rcases ef hy with ⟨rfl,rfl⟩|⟨f,a⟩
  ·cases i
  ·rcases ef t with ⟨rfl,rfl⟩|⟨g,s⟩
   ·cases o
   ·exact hr.apart c d q r y z A e u a s i o
 ·intro c q y e hy k;rcases ef hy with ⟨rfl,rfl⟩|⟨f,a⟩
  ·cases k
  ·have n:q.b≠p.b:=(hr.apart b c p q x y (Ne.symm f) l e hx a m k).symm;rintro ⟨g|g,j|j⟩
   ·exact hr.off c q y e a k ⟨g,j⟩
   ·exact n j
   ·exact n g
   ·exact n g
theorem HR.unfence {w0:World} {b:Nat} {p:Place} (hr:HR (F.and w0 p.b) ρ h w) (j:F.kept w0) (u:¬ F.D p.b) (l:ρ[b]?=some p) {r:Loop} (K:w.heap[p.b]?=some (.loop r)) {x:AB} {o:Obj} (hx:x.holds ρ (w.putObj p.b o) p) (P:x.own=x.live):HR F ρ (h.set b x) (w.putObj p.b o):=by
 have Q:p.b<w.heap.size:=(Array.getElem?_eq_some_iff.1 K).1;have L:F.kept w:=⟨hr.below.os.trans j.os,hr.below.tape.trans j.tape,hr.below.output.trans j.output,Nat.le_trans j.size hr.below.size,fun c f=>⟨(j.block c f).1,((hr.below.block c (.inl f)).2).trans (j.block c f).2⟩⟩;have apart:∀(c:Nat) q y,c≠b→ρ[c]?=some q→h[c]?=some y→y.live=true→q.b≠p.b:=
  fun c q y f a hy t H=>hr.off c q y a hy t ⟨.inr H,.inr H⟩
 have G:w.grownBy (w.putObj p.b o) (some p.b):=⟨rfl,rfl,rfl,by simp,fun k _ j=>World.putObj_heap_other (fun e=>j (by simp [e]))⟩;refine ⟨L.grown G (fun k N e=>by cases e; exact u N),by simp [hr.len],?_,?_,?_,?_⟩
 ·intro c q y a hy;rcases ef hy with ⟨rfl,rfl⟩|⟨f,g⟩
  ·rw [l] at a; cases a; exact hx
  ·have J:=hr.at_ c q y a g;refine J.kept fun B=>G.block _ (J.lt B) (fun e=>?_)
   exact apart c q y f a g B (Option.some.inj e)
 ·intro c q y a hy m;rcases ef hy with ⟨rfl,rfl⟩|⟨f,g⟩
  ·rw [l] at a; cases a; exact u
  ·exact fun i=>hr.fresh c q y a g m (.inl i)
 ·intro c d q r y z I a n hy A m v;rcases ef hy with ⟨rfl,rfl⟩|⟨f,g⟩
  ·rcases ef A with ⟨rfl,rfl⟩|⟨i,s⟩
   ·exact absurd rfl I
   ·rw [l] at a; cases a;exact Ne.symm (apart d r z i n s v)
  ·rcases ef A with ⟨rfl,rfl⟩|⟨i,s⟩
   ·rw [l] at n; cases n;exact apart c q y f a g (iw m)
   ·exact hr.apart c d q r y z I a n g s m v
 ·intro c q y a hy t;rcases ef hy with ⟨rfl,rfl⟩|⟨f,g⟩
  ·rw [l] at a; cases a; exact fun i=>u i.1
  ·exact fun i=>hr.off c q y a g t ⟨.inl i.1,.inl i.2⟩
end
section
variable {P:Program} {F:Frm} {ρ:List Place} {h:List AB} {w:World}
theorem HR.refence {w0:World} {p:Place} (hr:HR (F.and w0 p.b) ρ h w) (a:F.kept w0) (z:¬ F.D p.b) {r:Loop} (u:w.heap[p.b]?=some (.loop r)) (o:Obj):F.kept (w.putObj p.b o)∧HR (F.and (w.putObj p.b o) p.b) ρ h (w.putObj p.b o):=by
 have t:p.b<w.heap.size:=(Array.getElem?_eq_some_iff.1 u).1;have v:F.kept w:=⟨hr.below.os.trans a.os,hr.below.tape.trans a.tape,hr.below.output.trans a.output,Nat.le_trans a.size hr.below.size,fun c d=>⟨(a.block c d).1,((hr.below.block c (.inl d)).2).trans (a.block c d).2⟩⟩;have apart:∀(c:Nat) q y,ρ[c]?=some q→h[c]?=some y→y.live=true→q.b≠p.b:=
  fun c q y f hy s l=>hr.off c q y f hy s ⟨.inr l,.inr l⟩
 have j:w.grownBy (w.putObj p.b o) (some p.b):=⟨rfl,rfl,rfl,by simp,fun k _ a=>World.putObj_heap_other (fun e=>a (by simp [e]))⟩;have i:F.kept (w.putObj p.b o):=v.grown j (fun k x e=>by cases e; exact z x);refine ⟨i,⟨rfl,rfl,rfl,Nat.le_refl _,fun c d=>⟨?_,rfl⟩⟩,hr.len,?_,?_,hr.apart,hr.off⟩
 ·rcases d with d|rfl
  ·exact i.lt d
  ·show p.b<(w.putObj p.b o).heap.size;simpa using t
 ·intro c q y f hy;have m:=hr.at_ c q y f hy;exact m.kept fun g=>j.block _ (m.lt g) (fun e=>apart c q y f hy g (Option.some.inj e))
 ·exact fun c q y f hy n=>hr.fresh c q y f hy n
theorem xx {f:Nat}:∀ {ps:List Tmp},yD f ps=true→∀t∈ps,t<f
 | [],_,t,ht=>by cases ht
 | p::ps,h,t,ht=>by
  have h:(Nat.blt p f && yD f ps)=true:=h;simp only [Bool.and_eq_true] at h;rcases JI.1 ht with rfl|ht
  ·exact Nat.le_of_ble_eq_true h.1
  ·exact xx h.2 t ht
theorem tJ:∀ {ps:List Tmp} {s:FrT} {xs:List AV} {vs:List Value} {E:Env},FR ρ (s.at bV) E→concL ρ xs=some vs→FR ρ ((zw ps s xs).at bV) (rR E ps vs)
 | [],s,xs,vs,E,h,hx=>h
 | p::ps,s,[],vs,E,h,hx=>by cases hx; exact h
 | p::ps,s,x::xs,vs,E,h,hx=>by
  simp only [concL] at hx;cases a:aD ρ x with
  | none=>rw [a] at hx; cases hx
  | some v=>
   cases b:concL ρ xs with
   | none=>rw [a,b] at hx; cases hx
   | some us=>
    rw [a,b] at hx;cases hx
    exact tJ (ps:=ps) (s:=s.set bV p x) (h.put p a (fun k=>by rw [TR.at_set])) b
theorem wN:∀ {ts:List Tmp} {vs:List Value} {E:Env},(rR E ts vs).ds=E.ds
 | [],_,_=>rfl
 | _::_,[],_=>rfl
 | t::ts,v::vs,E=>(wN (ts:=ts) (vs:=vs) (E:=bR E t v)).trans rfl
theorem tV {b:Nat} {o o':Obj} (hb:w.heap[b]?=some o):(w.putObj b o').heap[b]?=some o':=by
 have hlt:b<w.heap.size:=(Array.getElem?_eq_some_iff.1 hb).1;simp [World.putObj,hlt]
theorem Ce {fuel:Nat} (hD:ig P) (hR:fC P):El P fuel:=by
 intro call Z F ρ b p xs vs t n w hg hr hx d a;unfold Cf at a ⊢;split at a
 ·rename_i f ps asg body s hbl;cases hA:dO P false f fuel asg with
  | mk A=>
   cases hB:dO P false f fuel body with
   | mk B=>
    simp only [hA,hB] at a ⊢;cases hck:!(Nat.beq (cG xs) (cG ps) && yD f ps) with
    | true=>simp only [hck,cond_true,ne_eq,not_true_eq_false] at a
    | false=>
     simp only [hck,cond_false] at a ⊢;simp only [Bool.not_eq_false',Bool.and_eq_true] at hck;have J:=cC hr d hbl;have b3:b<n:=by
      have:=oF hr d;exact this
     obtain ⟨c,V,U,o,T,l5,l6,l7,S⟩:=hr.at_ b p _ d J;have X:=hr.fresh b p _ d J rfl;have W:=hr.fence d J rfl;rw [←show (co (t.put b .dead) n)=(co t n).set b .dead from dp t n b .dead] at W;generalize hrr:(A call (zw ps s xs) (t.put b .dead) n [] _ _ _:OR)=r at a ⊢
     let L:Env:=⟨fun k=>c.tmps.getD k undef,[]⟩
     have a9:cV ⟨f,some p.b⟩ L { tmps:=c.tmps,defers:=[] }:=⟨rfl,U,fun k=>rfl⟩;have a8:FR ρ (s.at bV) L:=⟨hg,fun k=>S k⟩;refine tP (E:=L) V rfl a9 ?_ ?_ ?_
     ·have h1:=Nat.eq_of_beq_eq_true hck.1;rw [cQ,cQ] at h1;rw [bI hx,h1,←o]; simp
     ·rw [o]; exact xx hck.2
     ·rw [o,T];refine (dN hD hR fuel asg A hA ⟨f,some p.b⟩ call (F.and w p.b) ρ _ (t.put b .dead) n [] _ _ _ r _ w rfl (fun h=>Bool.noConfusion h) Z ⟨W,tJ a8 hx,?_⟩ hrr a).mono ?_
      ·rw [wN]; trivial
      ·intro e E1 N q;cases e with
       | normal=>
        obtain ⟨x,z,y,G,K,l,g,j⟩:=q;have I:N.heap[p.b]?=some (.loop c):=((g.hr.below.block p.b (.inr rfl)).2).trans V;obtain ⟨k2,h2⟩:=g.hr.refence hr.below X I (.loop { c with state:=.busy });refine ⟨c,I,l6,?_⟩;subst l5;refine (dN hD hR fuel _ B hB ⟨f,some p.b⟩ call (F.and (N.putObj p.b (.loop { c with state:=.busy })) p.b) x z y G K _ _ _ r E1 _ rfl (fun h=>Bool.noConfusion h) Z ⟨h2,g.fr,g.ds⟩ j a).mono ?_;intro e E2 w2 m;cases e with
        | normal=>
         obtain ⟨v,R,Q,D,a3,j1,u,j3⟩:=m;have H:w2.heap[p.b]?=some (.loop { c with state:=.busy }):=((u.hr.below.block p.b (.inr rfl)).2).trans (tV I);refine ⟨_,H,v,.bool true,_,D,j3.symm,l.trans j1,?_,rfl⟩;rw [dp];exact u.hr.unfence k2 X (l.trans j1 b p d) H ⟨_,tV H,U,o,T,rfl,rfl,rfl,fun k=>bS (l.trans j1) _ _ (S k)⟩ rfl
        | ret=>
         obtain ⟨v,R,Q,D,a3,j1,u,j3⟩:=m;exact absurd j3.symm a
        | exit i=>
         obtain ⟨v,R,Q,D,a3,j1,u,j3⟩:=m;exact absurd j3.symm a
        | _=>exact m.elim
       | ret=>
        obtain ⟨x,z,y,G,K,l,g,j⟩:=q;exact absurd j.symm a
       | exit i=>
        obtain ⟨x,z,y,G,K,l,g,j⟩:=q;exact absurd j.symm a
       | _=>exact q.elim
 ·exact absurd rfl a
end
section
variable {P:Program} {F:Frm} {ρ:List Place} {h:List AB} {w:World}
theorem lR {g:FuncId} (h:Ht P g=true):CF P g:=by
 unfold Ht at h;split at h
 ·rename_i fn hfn;simp only [Bool.and_eq_true,Bool.not_eq_true'] at h;exact bw hfn h.1 h.2
 ·cases h
theorem qg {g:FuncId} (h:CF P g) (args:Array Value) (w:World):(callFunc g args).run P w=.ok (.enter g args) w:=by
 obtain ⟨fd,h1,h2,h3⟩:=h;have hn':¬ fd.name = "runtime.NumGoroutine":=by simpa using h3
 have hb2:¬ fd.body=none:=by intro h; rw [h] at h2; cases h2
 simp [callFunc,h1,hb2,hn']
theorem mu:fC P:=by
 intro df m g ps l j x hx fr call F ρ s t n ds Z ke kr r E w hm a1 hc i b y;have b:mw P df call m ps.toList l j s t n ds Z (x s)=r:=b;have d:=aV i.fr (bN hx s);generalize x s=xv at b d;cases xv with
 | fn f first cap=>
  cases first with
  | cons _ _=>exact absurd b.symm y
  | nil=>
   simp only [mw] at b;cases hck:(df && (yD m ps.toList && (Nat.beq (cG ps.toList) 1 && Ht P f))) with
   | false=>rw [hck] at b; exact absurd b.symm y
   | true=>
    rw [hck,cond_true] at b;simp only [Bool.and_eq_true] at hck;obtain ⟨a8,c8,c7,b1⟩:=hck;have S:=lR b1;have a0:=a1 a8;simp only [aD,concL] at d;cases hcap:concL ρ cap with
    | none=>rw [hcap] at d; cases d
    | some cs=>
     rw [hcap] at d;have d:=(Option.some.inj d).symm;have Q:ρ.length=n:=by rw [i.hr.len,cH]
     intro a q;refine wpIn_rangeFunc fun fn _=>?_
     have R:=q.eval;rw [show (Fz fr).round=none from a0]
     let z:Loop:=⟨.ready,none,fn,a.tmps,ps,l,j,w.heap.size⟩
     let W:=(w.alloc (.deferred (some []))).alloc (.loop z)
     let o:=ρ++[⟨w.heap.size,0,0⟩]
     let c:=o++[⟨(w.alloc (.deferred (some []))).heap.size,0,0⟩]
     have hsz:(w.alloc (.deferred (some []))).heap.size=w.heap.size+1:=by simp
     have p:bj ρ c:=(bj.app ρ _).trans (bj.app o _);have a2:HR F o (co t n++[.defs]) (w.alloc (.deferred (some []))):=i.hr.alloc _ (x:=.defs) (n:=0) (heap_alloc_new w _);have L:HR F c ((co t n++[.defs])++[.loop m ps.toList l j (s.at bV)]) W:=a2.alloc (.loop z) (n:=0) (x:=.loop m ps.toList l j (s.at bV)) ⟨z,heap_alloc_new _ _,by rw [←hm]; exact q.size,rfl,rfl,rfl,rfl,rfl,fun k=>by
      have h1:=bS p _ _ (i.fr.s k);show aD c (s.at bV k)=some (a.tmps.getD k undef);rw [h1,q.get k]⟩
     rw [←show (XB.other AB.defs).ab=AB.defs from rfl,←dq,←show (XB.loop m ps.toList l j s).ab=AB.loop m ps.toList l j (s.at bV) from rfl,←dq] at L;have a5:o.length=n+1:=by simp [o,Q]
     have N:c[n+1]?=some ⟨w.heap.size+1,0,0⟩:=by
      show (o++[_])[n+1]?=_;rw [←a5,List.getElem?_concat_length,hsz]
     have a3:c[n]?=some ⟨w.heap.size,0,0⟩:=by
      refine bj.app o _ n _ ?_;show (ρ++[_])[n]?=_;rw [←Q,List.getElem?_concat_length]
     have b3:concL c (.yld (n+1)::cap)=some (.func (.yield (w.heap.size+1)) #[] #[]::cs):=by
      simp only [concL,aD,N,jY p hcap]
     split at b
     ·rename_i av t' n' hcl;split at b
      ·rename_i c9 f' ps' asg' body' s' a9;have D:=hc.fn F c f _ _ _ (n+2) W (i.fr.g.mono p) L b3 (by rw [hcl]; intro h; cases h);have D:aT P f (List.toArray (.func (.yield (w.heap.size+1)) #[] #[]::cs)) W (nH F c (call (.fn f) (.yld n.succ::cap) ((t.put n (.other .defs)).put n.succ (.loop m ps.toList l j s)) n.succ.succ)):=by
        rcases D with ⟨_,b0⟩|⟨v,w',K,_⟩
        ·exact b0
        ·rw [qg S] at K; cases K
       refine ⟨w.heap.size+1,[xw w.heap.size],W,{ target:=.fn (.func f) cs.toArray,args:=#[.func (.yield (w.heap.size+1)) #[] #[]] },W,f,([Value.func (.yield (w.heap.size+1)) #[] #[]]++cs).toArray,W,run_enterLoop_outer fn a.tmps ps l j,?_,fun _ _=>trivial,?_,fun h=>(by cases h),ic.2 ?_⟩
       ·have e1:(rangeCall g (w.heap.size+1)).args.map a.eval=#[.func (.yield (w.heap.size+1)) #[] #[]]:=by rw [R]; simp [ev]
        have e2:a.eval g=.func (.func f) #[] cs.toArray:=by rw [R]; exact d
        simp only [resolve,e1,e2,Deferred.ofValue];simp
       ·have:=qg S ([Value.func (.yield (w.heap.size+1)) #[] #[]]++cs).toArray W;simpa [invoke] using this
       ·refine Calls.mono D ?_;rintro e H ⟨v,rfl,ρ',a',t2,n2,U,u,G,g4⟩;rw [hcl] at U;cases U
        have B:=u _ _ N;have T:=cC G B a9;obtain ⟨I,X,q2,q3,q4,q5,V,J,q8⟩:=G.at_ _ _ _ B T;refine ⟨none,_,(run_endLoop X (by rw [V]; intro h; cases h)).trans (by rw [show I.pending=none from J]),?_⟩;have a7:H.grownBy (H.putObj (w.heap.size+1) (.loop { I with state:=.exhausted })) (some (w.heap.size+1)):=⟨rfl,rfl,rfl,by simp,fun k _ hk=>World.putObj_heap_other (fun e=>hk (by simp [e]))⟩;have A:=G.upd B T rfl (x':=.dead) a7 trivial rfl;rw [←show XB.dead.ab=AB.dead from rfl,←dp] at A;simp only [J] at A ⊢;refine ⟨⟨E.s,xw w.heap.size::E.ds⟩,⟨by simp [q.defers],q.size,q.get⟩,?_⟩;exact ⟨ρ',s,_,n',.mark n::ds,p.trans u,⟨A,⟨(i.fr.mono (p.trans u)).g,(i.fr.mono (p.trans u)).s⟩,⟨⟨_,u _ _ a3,rfl⟩,i.ds.mono (p.trans u)⟩⟩,b⟩
      ·exact absurd b.symm y
     ·exact absurd b.symm y
 | _=>exact absurd b.symm y
end
section
variable {P:Program} {s s':FrT}
def fW (s s':FrT) (x:Operand):Prop:=∀k,x=.tmp k→s.at bV k=s'.at bV k
theorem cl {x:Operand} {f:FrT→AV} (h:bc x=some (.mk f)) (ha:fW s s' x):f s=f s':=by
 have h1:=bN h s;have h2:=bN h s';have:cW (s.at bV) x=cW (s'.at bV) x:=by
  cases x with
  | tmp k=>simp only [cW,ha k rfl]
  | _=>rfl
 rw [this,h2] at h1;exact (Option.some.inj h1).symm
theorem xK:∀ {l:List Operand},(∀x∈l,fW s s' x)→zk (s.at bV) l=zk (s'.at bV) l
 | [],_=>rfl
 | x::r,h=>by
  have h1:cW (s.at bV) x=cW (s'.at bV) x:=by
   cases x with
   | tmp k=>simp only [cW,h _ (List.mem_cons_self ..) k rfl]
   | _=>rfl
  simp only [zk,h1,xK (fun y hy=>h y (List.mem_cons_of_mem _ hy))]
theorem jb {l:List Operand} {g:FrT→List AV} (h:dk l=some (.mk g)) (ha:∀x∈l,fW s s' x):g s=g s':=by
 have h1:=fk h s;rw [xK ha,fk h s'] at h1;exact (Option.some.inj h1).symm
theorem xJ:∀ {l:List (Nat×Operand)},(∀x∈l,fW s s' x.2)→AH (s.at bV) l=AH (s'.at bV) l
 | [],_=>rfl
 | (i,x)::r,h=>by
  have h1:cW (s.at bV) x=cW (s'.at bV) x:=by
   cases x with
   | tmp k=>simp only [cW,h _ (List.mem_cons_self ..) k rfl]
   | _=>rfl
  simp only [AH,h1,xJ (fun y hy=>h y (List.mem_cons_of_mem _ hy))]
theorem po {l:List (Nat×Operand)} {g:FrT→List (Nat×AV)} (h:eT l=some (.mk g)) (ha:∀x∈l,fW s s' x.2):g s=g s':=by
 have h1:=gb h s;rw [xJ ha,gb h s'] at h1;exact (Option.some.inj h1).symm
theorem nU {lo:Option Operand} {l:FrT→Option AV} (h:ez lo=some (.mk l)) (ha:∀x,lo=some x→fW s s' x):l s=l s':=by
 have h1:=fj h s;have:nj (s.at bV) lo=nj (s'.at bV) lo:=by
  cases lo with
  | none=>rfl
  | some x=>
   cases x with
   | tmp k=>simp only [nj,cW,ha _ rfl k rfl]
   | _=>rfl
 rw [this,fj h s'] at h1;exact (Option.some.inj h1).symm
def KO.dep (s s':FrT):KO→Prop
 | .v rd g=>(∀t,g s t=g s' t)∧(rd=false→∀s t t',g s t=g s t')
 | .a g=>∀t n,g s t n=g s' t n
 | .m g=>∀call t n,g call s t n=g call s' t n
 | .u g=>∀call t n,g call s t n=g call s' t n
theorem dA {rd:Bool} {x:Operand} {g:HpT→AV→OR} {ko:KO} (h:qo rd x g=some ko) (hx:fW s s' x) (hr:rd=false→∀t t' a,g t a=g t' a):ko.dep s s':=by
 unfold qo at h;cases h1:bc x with
 | none=>rw [h1] at h; cases h
 | some a=>
  cases a with
  | mk a=>
   rw [h1] at h;cases h
   exact ⟨fun t=>by simp only [cl h1 hx],fun e s t t'=>hr e t t' _⟩
theorem gT {i:Bool} {x y:Operand} {g:HpT→AV→AV→OR} {j:KO} (h:xC i x y g=some j) (hx:fW s s' x) (hy:fW s s' y) (hr:i=false→∀t d a b,g t a b=g d a b):j.dep s s':=by
 unfold xC at h;cases c:bc x with
 | none=>rw [c] at h; cases h
 | some a=>
  cases f:bc y with
  | none=>rw [c,f] at h; cases h
  | some b=>
   cases a; cases b
   rw [c,f] at h;cases h
   exact ⟨fun t=>by simp only [cl c hx,cl f hy],fun e s t d=>hr e t d _ _⟩
theorem sJ {x:Operand} {g:HpT→Nat→AV→OR} {ko:KO} (h:vk x g=some ko) (hx:fW s s' x):ko.dep s s':=by
 unfold vk at h;cases h1:bc x with
 | none=>rw [h1] at h; cases h
 | some a=>cases a; rw [h1] at h; cases h; exact fun _ t n=>by simp only [cl h1 hx]
theorem oC {x y:Operand} {g:HpT→Nat→AV→AV→OR} {ko:KO} (h:zj x y g=some ko) (hx:fW s s' x) (hy:fW s s' y):ko.dep s s':=by
 unfold zj at h;cases h1:bc x with
 | none=>rw [h1] at h; cases h
 | some a=>
  cases h2:bc y with
  | none=>rw [h1,h2] at h; cases h
  | some b=>cases a; cases b; rw [h1,h2] at h; cases h; exact fun _ t n=>by simp only [cl h1 hx,cl h2 hy]
theorem CC {x y:Operand} {g:HpT→Nat→AV→AV→OR} {ko:KO} (h:CD x y g=some ko) (hx:fW s s' x) (hy:fW s s' y):ko.dep s s':=by
 unfold CD at h;cases h1:bc x with
 | none=>rw [h1] at h; cases h
 | some a=>
  cases h2:bc y with
  | none=>rw [h1,h2] at h; cases h
  | some b=>cases a; cases b; rw [h1,h2] at h; cases h; exact fun _ t n=>by simp only [cl h1 hx,cl h2 hy]
theorem sF {x y z:Operand} {g:HpT→Nat→AV→AV→AV→OR} {i:KO} (h:BR x y z g=some i) (hx:fW s s' x) (hy:fW s s' y) (j:fW s s' z):i.dep s s':=by
 unfold BR at h;cases d:bc x with
 | none=>rw [d] at h; cases h
 | some a=>
  cases e:bc y with
  | none=>rw [d,e] at h; cases h
  | some b=>
   cases f:bc z with
   | none=>rw [d,e,f] at h; cases h
   | some c=>cases a; cases b; cases c; rw [d,e,f] at h; cases h; exact fun _ t n=>by simp only [cl d hx,cl e hy,cl f j]
theorem yS {c:Call} {k:KO} (h:mU P c=some k) (m:∀x∈c.operands,fW s s' x):k.dep s s':=by
 obtain ⟨callee,args,o⟩:=c;have j:∀x∈args.toList,fW s s' x:=fun x hx=>m x (by simp [Call.operands]; right; simpa using hx)
 unfold mU at h;simp only at h;split at h
 ·rename_i x;have hx:fW s s' x:=m x (by simp [Call.operands]);split at h
  ·rename_i f;unfold lS at h;cases g:dk args.toList with
   | none=>rw [g] at h; cases h
   | some a=>cases a; rw [g] at h; cases h; exact fun call t n=>by simp only [jb g j]
  ·unfold jZ at h;cases i:bc x with
   | none=>rw [i] at h; cases h
   | some b=>
    cases g:dk args.toList with
    | none=>rw [i,g] at h; cases h
    | some a=>cases a; cases b; rw [i,g] at h; cases h; exact fun call t n=>by simp only [jb g j,cl i hx]
 ·cases h
 ·rename_i b;have d:∀ {l:List Operand},args.toList=l→∀x∈l,fW s s' x:=fun e x hx=>j x (by rw [e]; exact hx)
  unfold gG at h;split at h
  ·rename_i x y T T' hxs hts;have hx:=d hxs x (by simp);have hy:=d hxs y (by simp);cases hb:Nat.beq T T' with
   | false=>rw [hb] at h; cases h
   | true=>
    rw [hb,cond_true] at h;split at h
    ·exact oC h hx hy
    ·cases h
  ·rename_i x T hxs hts;have hx:=d hxs x (by simp);split at h
   ·exact dA h hx (fun _ _ _ _=>rfl)
   ·exact dA h hx (fun _ _ _ _=>rfl)
   ·exact dA h hx (fun e=>by cases e)
   ·cases h
  ·rename_i x y hxs;exact gT h (d hxs x (by simp)) (d hxs y (by simp)) (fun _ _ _ _ _=>rfl)
  ·rename_i x y hxs;exact gT h (d hxs x (by simp)) (d hxs y (by simp)) (fun _ _ _ _ _=>rfl)
  ·rename_i x y T T' hxs hts;split at h
   ·exact oC h (d hxs x (by simp)) (d hxs y (by simp))
   ·cases h
  ·rename_i x y T ts hxs hts;exact oC h (d hxs x (by simp)) (d hxs y (by simp))
  ·cases h
theorem ox {op:Op} {o:KO} (h:sk P op=some o) (j:∀x∈op.operands,fW s s' x):o.dep s s':=by
 cases op with
 | move x=>exact dA h (j x (by simp [Op.operands])) (fun _ _ _ _=>rfl)
 | assign x=>exact dA h (j x (by simp [Op.operands])) (fun _ _ _ _=>rfl)
 | pick c a b=>
  have h:pu c a b=some o:=h;unfold pu at h;cases l:bc c with
  | none=>rw [l] at h; cases h
  | some x=>cases p:bc a with
   | none=>rw [l,p] at h; cases h
   | some y=>cases q:bc b with
    | none=>rw [l,p,q] at h; cases h
    | some z=>
     cases x; cases y; cases z; rw [l,p,q] at h; cases h
     exact ⟨fun t=>by simp only [cl l (j c (by simp [Op.operands])),cl p (j a (by simp [Op.operands])),cl q (j b (by simp [Op.operands]))],fun _ _ _ _=>rfl⟩
 | alloc T=>
  have h:gI P T=some o:=h;unfold gI at h;split at h
  ·cases h; exact fun _ _=>rfl
  ·cases h
 | box T x=>
  have h:px T x=some o:=h;unfold px at h;cases l:bc x with
  | none=>rw [l] at h; cases h
  | some a=>cases a; rw [l] at h; cases h; exact fun t n=>by simp only [cl l (j x (by simp [Op.operands]))]
 | build T ps=>
  have h:ls P T ps=some o:=h;unfold ls at h;cases l:eT ps.toList with
  | none=>rw [l] at h; cases h
  | some x=>cases x; rw [l] at h; cases h; exact ⟨fun t=>by simp only [po l (fun x hx=>j x.2 (by simp only [Op.operands]; exact (List.mem_toArray).2 (JJ.2 ⟨x,hx,rfl⟩)))],fun _ _ _ _=>rfl⟩
 | buildSlice T k ps=>
  have h:cK P T k ps=some o:=h;unfold cK at h;split at h
  ·cases l:eT ps.toList with
   | none=>rw [l] at h; cases h
   | some x=>cases x; rw [l] at h; cases h; exact fun t n=>by simp only [po l (fun x hx=>j x.2 (by simp only [Op.operands]; exact (List.mem_toArray).2 (JJ.2 ⟨x,hx,rfl⟩)))]
  ·cases h
 | mapUpdate T m k v=>exact sF h (j m (by simp [Op.operands])) (j k (by simp [Op.operands])) (j v (by simp [Op.operands]))
 | load T x=>
  have h:pI P T x=some o:=h;unfold pI at h;split at h
  ·exact dA h (j x (by simp [Op.operands])) (fun e=>by cases e)
  ·exact dA h (j x (by simp [Op.operands])) (fun e=>by cases e)
  ·cases h
 | store T x y=>
  have h:iW P T x y=some o:=h;unfold iW at h;split at h
  ·exact CC h (j x (by simp [Op.operands])) (j y (by simp [Op.operands]))
  ·cases h
 | nilCheck x=>exact dA h (j x (by simp [Op.operands])) (fun _ _ _ _=>rfl)
 | binOp op T x y T'=>
  have h:vL P op T x y T'=some o:=h;unfold vL sZ at h;split at h
  ·exact dA h (j x (by simp [Op.operands])) (fun _ _ _ _=>rfl)
  ·cases hb:yX P op T with
   | mk g'=>rw [hb] at h; exact gT h (j x (by simp [Op.operands])) (j y (by simp [Op.operands])) (fun _ _ _ _ _=>rfl)
 | unOp op T x=>
  have h:qo false x (fun _ a=>rf (Hq op a))=some o:=h;exact dA h (j x (by simp [Op.operands])) (fun _ _ _ _=>rfl)
 | convert S T x=>
  have h:(CW.casesOn (jX P S T) fun g=>vk x g)=some o:=h;cases hcv:jX P S T with
  | mk g'=>rw [hcv] at h; exact sJ h (j x (by simp [Op.operands]))
 | makeFunc f a b=>
  have h:ET f a b=some o:=h;unfold ET at h;split at h
  ·cases l:dk a.toList with
   | none=>rw [l] at h; cases h
   | some x=>cases p:dk b.toList with
    | none=>rw [l,p] at h; cases h
    | some y=>
     cases x; cases y; rw [l,p] at h; cases h
     exact ⟨fun t=>by simp only [jb l (fun x hx=>j x (by simp only [Op.operands,Array.mem_append]; left; simpa using hx)),jb p (fun x hx=>j x (by simp only [Op.operands,Array.mem_append]; right; simpa using hx))],fun _ _ _ _=>rfl⟩
  ·cases h
 | makeMap T r=>
  have h:pv P T r=some o:=h;unfold pv at h;split at h
  ·cases h; exact fun _ _=>rfl
  ·cases h
 | makeSlice T x y=>
  have h:dc P T x y=some o:=h;unfold dc at h;split at h
  ·cases l:bc x with
   | none=>rw [l] at h; cases h
   | some a=>cases p:bc y with
    | none=>rw [l,p] at h; cases h
    | some b=>cases a; cases b; rw [l,p] at h; cases h; exact fun t n=>by simp only [cl l (j x (by simp [Op.operands])),cl p (j y (by simp [Op.operands]))]
  ·cases h
 | slice T x lo hi mx=>
  have h:lq P T x lo hi mx=some o:=h;unfold lq at h;split at h
  ·unfold mf at h;cases l:bc x with
   | none=>rw [l] at h; cases h
   | some a=>cases p:ez lo with
    | none=>rw [l,p] at h; cases h
    | some b=>cases q:ez hi with
     | none=>rw [l,p,q] at h; cases h
     | some c=>
      cases a; cases b; cases c
      rw [l,p,q] at h;simp only at h;have A:=cl l (j x (by simp [Op.operands]));have w:=nU p (fun y hy=>j y (by subst hy; simp [Op.operands]));have u:=nU q (fun y hy=>j y (by subst hy; simp [Op.operands]));split at h
      ·cases h; exact ⟨fun t=>by simp only [A,w,u],fun e=>by cases e⟩
      ·cases h; exact ⟨fun t=>by simp only [A,w,u],fun e=>by cases e⟩
  ·cases h
 | fieldAddr T x f=>
  have h:fq P T f x=some o:=h;unfold fq at h;split at h
  ·split at h
   ·split at h
    ·rename_i size _ _ _;cases hb:Nat.blt 0 size with
     | false=>rw [hb] at h; cases h
     | true=>rw [hb,cond_true] at h; exact dA h (j x (by simp [Op.operands])) (fun _ _ _ _=>rfl)
    ·cases h
   ·cases h
  ·cases h
 | field T x f=>
  have h:ny P T f x=some o:=h;unfold ny at h;split at h
  ·split at h
   ·split at h
    ·exact dA h (j x (by simp [Op.operands])) (fun _ _ _ _=>rfl)
    ·exact dA h (j x (by simp [Op.operands])) (fun _ _ _ _=>rfl)
    ·cases h
   ·cases h
  ·cases h
 | indexAddr T x y=>
  have h:eF P T x y=some o:=h;unfold eF at h;split at h
  ·split at h
   ·exact gT h (j x (by simp [Op.operands])) (j y (by simp [Op.operands])) (fun _ _ _ _ _=>rfl)
   ·cases h
  ·exact gT h (j x (by simp [Op.operands])) (j y (by simp [Op.operands])) (fun _ _ _ _ _=>rfl)
 | index T x y=>
  have h:lH P T x y=some o:=h;unfold lH at h;split at h
  ·exact gT h (j x (by simp [Op.operands])) (j y (by simp [Op.operands])) (fun _ _ _ _ _=>rfl)
  ·exact gT h (j x (by simp [Op.operands])) (j y (by simp [Op.operands])) (fun _ _ _ _ _=>rfl)
 | lookup T x y ok=>exact gT h (j x (by simp [Op.operands])) (j y (by simp [Op.operands])) (fun e=>by cases e)
 | insert T m k v=>exact sF h (j m (by simp [Op.operands])) (j k (by simp [Op.operands])) (j v (by simp [Op.operands]))
 | mapEntry T m k=>exact oC h (j m (by simp [Op.operands])) (j k (by simp [Op.operands]))
 | entryStore T m k v=>exact sF h (j m (by simp [Op.operands])) (j k (by simp [Op.operands])) (j v (by simp [Op.operands]))
 | range T x=>exact sJ h (j x (by simp [Op.operands]))
 | next x b=>cases b <;> exact sJ h (j x (by simp [Op.operands]))
 | entry x=>exact dA h (j x (by simp [Op.operands])) (fun e=>by cases e)
 | typeAssert x xt T ok=>
  have h:vM P x xt T ok=some o:=h;unfold vM at h;cases hb:(!ok && sL P T (fun d=>!(CJ d))) with
  | false=>rw [hb] at h; cases h
  | true=>rw [hb,cond_true] at h; exact dA h (j x (by simp [Op.operands])) (fun _ _ _ _=>rfl)
 | extract x i=>exact dA h (j x (by simp [Op.operands])) (fun _ _ _ _=>rfl)
 | call c=>exact yS h (fun x hx=>j x (by simpa [Op.operands] using hx))
 | _=>cases h
theorem lZ {u:UX}:∀ {l:List Operand},tv u l=true→∀x∈l,cJ u x=true
 | [],_,x,hx=>by cases hx
 | y::r,h,x,hx=>by
  have h:(cJ u y && tv u r)=true:=h;simp only [Bool.and_eq_true] at h;rcases JI.1 hx with rfl|hx
  ·exact h.1
  ·exact lZ h.2 x hx
theorem rQ {u:UX}:∀ {l:List (Nat×Operand)},BU u l=true→∀x∈l,cJ u x.2=true
 | [],_,x,hx=>by cases hx
 | y::r,h,x,hx=>by
  have h:(cJ u y.2 && BU u r)=true:=h;simp only [Bool.and_eq_true] at h;rcases JI.1 hx with rfl|hx
  ·exact h.1
  ·exact rQ h.2 x hx
theorem zo {u:UX} {op:Op} (h:qN u op=true):∀x∈op.operands,cJ u x=true:=by
  intro x hx;cases op with
  | build T ps=>
    simp only [Op.operands,List.mem_toArray,JJ] at hx;obtain ⟨y,hy,rfl⟩:=hx;exact rQ h y hy
  | buildSlice T k ps=>
    simp only [Op.operands,List.mem_toArray,JJ] at hx;obtain ⟨y,hy,rfl⟩:=hx;exact rQ h y hy
  | makeFunc f y z=>
    have h:(tv u y.toList && tv u z.toList)=true:=h;simp only [Bool.and_eq_true] at h;simp only [Op.operands,Array.mem_append] at hx;rcases hx with hx|hx
    · exact lZ h.1 x (by simpa using hx)
    · exact lZ h.2 x (by simpa using hx)
  | makeMap T r=>
    cases r with
    | none=>simp [Op.operands] at hx
    | some y=>
      simp [Op.operands] at hx;subst hx;exact h
  | slice T y l k m=>
    have h:(cJ u y && (vm u l && (vm u k && vm u m)))=true:=h;simp only [Bool.and_eq_true] at h;simp only [Op.operands,Array.mem_append,List.mem_toArray,Jt,Option.mem_toArray] at hx;rcases hx with ((hx|hx)|hx)|hx
    · subst hx; exact h.1
    · subst hx; exact h.2.1
    · subst hx; exact h.2.2.1
    · subst hx; exact h.2.2.2
  | call c=>
    obtain ⟨callee,args,a⟩:=c;have h:En u ⟨callee,args,a⟩=true:=h;unfold En at h;simp only [Op.operands,Call.operands,Array.mem_append] at hx;simp only at h;split at h
    · simp only [Bool.and_eq_true] at h
      rcases hx with hx|hx
      · simp at hx; subst hx; exact h.1
      · exact lZ h.2 x (by simpa using hx)
    · rcases hx with hx|hx
      · simp at hx
      · exact lZ h x (by simpa using hx)
    · cases h
  | _=>first
    | (simp [Op.operands] at hx; done)
    | (simp only [Op.operands,List.mem_toArray,JI,List.not_mem_nil,or_false] at hx
       simp only [qN,Bool.and_eq_true] at h
       first
         | (subst hx; exact h)
         | (rcases hx with rfl|rfl <;> first|exact h.1|exact h.2)
         | (rcases hx with rfl|rfl|rfl <;> first|exact h.1|exact h.2.1|exact h.2.2))
    | cases h
end
end Go.Lx
