/- Part 12. -/
import Derived.Test.YtbkjljkjhlcmoaaGreatDoorKBoth6
set_option linter.unusedVariables false
set_option linter.unusedSimpArgs false
namespace Go.Proofs.YtbkjljkjhlcmoaaGreatDoor
open Go.Lx Go.RowKit
theorem oe {c:List Str} {d:Str} {r:Str} (i:M.e9 c d=some r) {g0:Hp} {w0:World} (g:dE g0 w0) {v1:Value} (z:cv eE g0 v1 c) :
 aT Tryz.prog 32 #[v1,ao d] w0 (fun v w'=>∃g',(dj eE false g' v r)∧ei g0 w0 g' w'):=by
 unfold M.e9 at i;split at i
 ·rename_i hc;obtain rfl:=Option.some.inj i;obtain ⟨xs,hr,p⟩:=z;have q:c=[]→∀a cap,v1=.slice a 0 cap→aT Tryz.prog 32 #[v1,ao d] w0 (fun v w'=>∃g',(dj eE false g' v (Lib.join c d))∧ei g0 w0 g' w'):=by
   rintro rfl a cap rfl;refine (Tryz.strings_Join_none a cap ⟨d.toArray⟩ w0).mono ?_;rintro e w' ⟨rfl,rfl⟩;exact ⟨_,rfl,g0,⟨_,rfl,rfl⟩,ei.refl g⟩
  rcases p with ⟨u,_,a,cap,k,_⟩|⟨b,off,cap,H,e,G,k,t,n,w⟩
  ·exact q (JP u) a cap k
  ·subst k;have m:(c.map fun s=>ByteArray.mk s.toArray).map (fun x=>x.data.toList)=c:=by simp [JN,Function.comp_def]
   have o:=g b _ n;have h:=Tryz.strings_Join b off cap (c.map fun s=>ByteArray.mk s.toArray) ⟨d.toArray⟩ w0 ?_ (g.lt n) (by simpa using hc.1) (by simpa using t) (by rw [m]; exact hc.2)
   ·rw [m,JA] at h;refine h.mono ?_;rintro e w' ⟨rfl,y⟩;exact ⟨_,rfl,_,⟨_,rfl,rfl⟩,mO g y⟩
   ·intro j x f;rw [JL] at f;cases hl:c[j]? with
    | none=>rw [hl] at f; cases f
    | some s=>
     rw [hl] at f;obtain rfl:=Option.some.inj f;have F:=hr.2 j s hl;have D:((xs.drop (j*1)).take 1)=[ao s]:=F;have B:xs[j]?=some (ao s):=by
      have:=congrArg (fun l=>l[0]?) D;simpa using this
     have A:=w j _ B;simp [World.cell?,o,A,ao]
 ·cases i
end Go.Proofs.YtbkjljkjhlcmoaaGreatDoor
namespace Go.Lx
open Go.RowKit
inductive AV where
  | int (k:IntKind) (z:Int)
  | bool (b:Bool)
  | str (s:Str)
  | ptr0
  | ptr (b o:Nat)
  | sl0
  | sl (b o l e:Nat)
  | slz (b o l e:Nat)
  | mp0
  | mp (b:Nat)
  | fn0
  | fn (f:FuncId) (first cap:List AV)
  | yld (b:Nat)
  | if0
  | iface (t:TypeId) (v:AV)
  | agg (l:List AV)
  | tup (l:List AV)
structure Place where
  b:Nat
  o:Nat
  n:Nat
mutual
def aD (ρ:List Place):AV→Option Value
 | .int k z=>some (.int k z)
 | .bool b=>some (.bool b)
 | .str s=>some (ao s)
 | .ptr0=>some (.pointer none)
 | .ptr b o=>match ρ[b]? with
  | some p=>some (.pointer (some ⟨p.b,p.o+o,none⟩))
  | none=>none
 | .sl0=>some (.slice none 0 0)
 | .sl b o l e=>match ρ[b]? with
  | some p=>some (.slice (some ⟨p.b,p.o+o,none⟩) l ((p.n - o) / e))
  | none=>none
 | .slz b o l e=>match ρ[b]? with
  | some p=>some (.slice (some ⟨p.b,if (p.n - o) / e=l then p.o+o else p.o+o+l*e,none⟩) 0 ((p.n - o) / e - l))
  | none=>none
 | .mp0=>some (.map none)
 | .mp b=>match ρ[b]? with
  | some p=>some (.map (some p.b))
  | none=>none
 | .fn0=>some .nilFunc
 | .fn f a c=>match concL ρ a,concL ρ c with
  | some a,some c=>some (.func (.func f) a.toArray c.toArray)
  | _,_=>none
 | .yld b=>match ρ[b]? with
  | some p=>some (.func (.yield p.b) #[] #[])
  | none=>none
 | .if0=>some .nilIface
 | .iface t v=>match aD ρ v with
  | some v=>some (.iface t v)
  | none=>none
 | .agg l=>match concL ρ l with
  | some l=>some (.agg l.toArray)
  | none=>none
 | .tup l=>match concL ρ l with
  | some l=>some (.tuple l.toArray)
  | none=>none
def concL (ρ:List Place):List AV→Option (List Value)
 | []=>some []
 | a::r=>match aD ρ a,concL ρ r with
  | some v,some l=>some (v::l)
  | _,_=>none
end
def bj (ρ ρ':List Place):Prop:=∀(b:Nat) p,ρ[b]?=some p→ρ'[b]?=some p
theorem bj.refl (ρ:List Place):bj ρ ρ:=fun _ _ h=>h
theorem bj.trans {a b c:List Place} (h:bj a b) (k:bj b c):bj a c:=fun i p hp=>k i p (h i p hp)
theorem bj.app (ρ s:List Place):bj ρ (ρ++s):=fun i p h=>by
 have hi:i<ρ.length:=(Jo.1 h).1;rw [Jw hi]; exact h
mutual
theorem bS {ρ ρ':List Place} (h:bj ρ ρ'):∀(a:AV) (v:Value),aD ρ a=some v→aD ρ' a=some v
 | .int _ _,_,e=>e
 | .bool _,_,e=>e
 | .str _,_,e=>e
 | .ptr0,_,e=>e
 | .ptr b o,v,e=>by
  simp only [aD] at e ⊢;cases hb:ρ[b]? with
  | none=>rw [hb] at e; cases e
  | some p=>rw [hb] at e; rw [h b p hb]; exact e
 | .sl0,_,e=>e
 | .sl b o l n,v,e=>by
  simp only [aD] at e ⊢;cases hb:ρ[b]? with
  | none=>rw [hb] at e; cases e
  | some p=>rw [hb] at e; rw [h b p hb]; exact e
 | .slz b o l n,v,e=>by
  simp only [aD] at e ⊢;cases hb:ρ[b]? with
  | none=>rw [hb] at e; cases e
  | some p=>rw [hb] at e; rw [h b p hb]; exact e
 | .yld b,v,e=>by
  simp only [aD] at e ⊢;cases hb:ρ[b]? with
  | none=>rw [hb] at e; cases e
  | some p=>rw [hb] at e; rw [h b p hb]; exact e
 | .mp0,_,e=>e
 | .mp b,v,e=>by
  simp only [aD] at e ⊢;cases hb:ρ[b]? with
  | none=>rw [hb] at e; cases e
  | some p=>rw [hb] at e; rw [h b p hb]; exact e
 | .fn0,_,e=>e
 | .fn f a c,v,e=>by
  simp only [aD] at e ⊢;cases d:concL ρ a with
  | none=>rw [d] at e; cases e
  | some x=>
   cases g:concL ρ c with
   | none=>rw [d,g] at e; cases e
   | some y=>rw [d,g] at e; rw [concL_mono h a x d,concL_mono h c y g]; exact e
 | .if0,_,e=>e
 | .iface t a,v,e=>by
  simp only [aD] at e ⊢;cases d:aD ρ a with
  | none=>rw [d] at e; cases e
  | some x=>rw [d] at e; rw [bS h a x d]; exact e
 | .agg l,v,e=>by
  simp only [aD] at e ⊢;cases d:concL ρ l with
  | none=>rw [d] at e; cases e
  | some x=>rw [d] at e; rw [concL_mono h l x d]; exact e
 | .tup l,v,e=>by
  simp only [aD] at e ⊢;cases d:concL ρ l with
  | none=>rw [d] at e; cases e
  | some x=>rw [d] at e; rw [concL_mono h l x d]; exact e
theorem concL_mono {ρ ρ':List Place} (h:bj ρ ρ'):∀(a:List AV) (v:List Value),concL ρ a=some v→concL ρ' a=some v
 | [],_,e=>e
 | a::r,v,e=>by
  simp only [concL] at e ⊢;cases d:aD ρ a with
  | none=>rw [d] at e; cases e
  | some x=>
   cases g:concL ρ r with
   | none=>rw [d,g] at e; cases e
   | some y=>rw [d,g] at e; rw [bS h a x d,concL_mono h r y g]; exact e
end
theorem di {ρ:List Place}:∀ {l:List AV} {vs:List Value} {i:Nat} {a:AV},concL ρ l=some vs→l[i]?=some a→∃v,vs[i]?=some v∧aD ρ a=some v
 | [],_,i,a,_,h=>by simp at h
 | x::r,vs,i,a,e,h=>by
  simp only [concL] at e;cases b:aD ρ x with
  | none=>rw [b] at e; cases e
  | some v=>
   cases c:concL ρ r with
   | none=>rw [b,c] at e; cases e
   | some l=>
    rw [b,c] at e;cases e
    cases i with
    | zero=>simp at h; subst h; exact ⟨v,rfl,b⟩
    | succ i=>
     obtain ⟨u,d,f⟩:=di (i:=i) c (by simpa using h);exact ⟨u,by simpa using d,f⟩
theorem bI {ρ:List Place}:∀ {l:List AV} {vs:List Value},concL ρ l=some vs→vs.length=l.length
 | [],_,e=>by cases e; rfl
 | x::r,vs,e=>by
  simp only [concL] at e;cases h1:aD ρ x with
  | none=>rw [h1] at e; cases e
  | some v=>
   cases h2:concL ρ r with
   | none=>rw [h1,h2] at e; cases e
   | some l=>rw [h1,h2] at e; cases e; simp [bI h2]
inductive AB where
  | cells (l:List AV) (T:TypeId) (e:Nat) (own:Bool)
  | map (es:List (AV×AV×Nat)) (clock:Nat)
  | loop (fn:FuncId) (ps:List Tmp) (asg body:Code) (s:Nat→AV)
  | siter (s:Str) (pos:Nat)
  | miter (m since:Nat) (seen:List Nat) (stepped:Nat)
  | defs
  | dead
def AB.live:AB→Bool
 | .dead=>false
 | _=>true
def AB.own:AB→Bool
 | .cells _ _ _ o=>o
 | .map _ _=>true
 | .loop _ _ _ _ _=>true
 | .siter _ _=>true
 | .miter _ _ _ _=>true
 | .defs=>true
 | .dead=>false
def MR (ρ:List Place):List (AV×AV×Nat)→List MapEntry→Prop
 | [],[]=>True
 | (k,a,n)::r,m::l=>aD ρ k=some m.key∧aD ρ a=some m.val∧m.born=n∧MR ρ r l
 | _,_=>False
theorem MR.grow {ρ ρ':List Place} (hg:bj ρ ρ'):∀ {es:List (AV×AV×Nat)} {en:List MapEntry},MR ρ es en→MR ρ' es en
 | [],[],_=>trivial
 | (k,a,n)::r,m::l,⟨h1,h2,h3,h4⟩=>⟨bS hg k _ h1,bS hg a _ h2,h3,h4.grow hg⟩
 | [],_::_,h=>h.elim
 | _::_,[],h=>h.elim
def AB.holds (ρ:List Place) (w:World) (p:Place):AB→Prop
 | .cells l T e own=>∃(c:Array Value) (T':TypeId) (d:Nat×Nat),w.heap[p.b]?=some (.cells c T' d)∧(own=true→d=(0,0)∧T'=T∧p.o=0∧p.n % e=0∧p.n / e≤maxLen∧c.size=p.o+p.n)∧l.length≤p.n∧∀(i:Nat) a,l[i]?=some a→∃v,c[p.o+i]?=some v∧aD ρ a=some v
 | .map es clock=>∃(en:Array MapEntry),w.heap[p.b]?=some (.map en clock)∧MR ρ es en.toList
 | .loop fn ps asg body s=>∃r:Loop,w.heap[p.b]?=some (.loop r)∧r.tmps.size=fn∧r.params.toList=ps∧r.assign=asg∧r.body=body∧r.state=.ready∧r.pending=none∧∀t,aD ρ (s t)=some (r.tmps.getD t undef)
 | .siter s pos=>p.o=0∧w.heap[p.b]?=some (.stringIter ⟨s.toArray⟩ pos)
 | .miter m since seen stepped=>p.o=0∧∃q,ρ[m]?=some q∧w.heap[p.b]?=some (.mapIter (some q.b) since seen.toArray stepped)
 | .defs=>w.heap[p.b]?=some (.deferred (some []))
 | .dead=>True
structure Frm where
  w:World
  D:Nat→Prop
  E:Nat→Prop
structure Frm.kept (F:Frm) (w:World):Prop where
  os:w.os=F.w.os
  tape:w.tape=F.w.tape
  output:w.output=F.w.output
  size:F.w.heap.size≤w.heap.size
  block:∀b,F.D b→b<F.w.heap.size∧w.heap[b]?=F.w.heap[b]?
theorem Frm.kept.lt {F:Frm} {w:World} (h:F.kept w) {b:Nat} (hb:F.D b):b<w.heap.size:=Nat.lt_of_lt_of_le (h.block b hb).1 h.size
theorem Frm.kept.drew {F:Frm} {w:World} (h:F.kept w):F.kept w.drew:=⟨h.os,h.tape,h.output,h.size,h.block⟩
theorem Frm.kept.alloc {F:Frm} {w:World} (h:F.kept w) (o:Obj):F.kept (w.alloc o):=⟨h.os,h.tape,h.output,Nat.le_trans h.size (by simp),fun b hb=>⟨(h.block b hb).1,(Below.heap_alloc _ _ _ (h.lt hb)).trans (h.block b hb).2⟩⟩
theorem Frm.kept.grown {F:Frm} {w w':World} (h:F.kept w) {row:Option Nat} (hg:w.grownBy w' row) (hr:∀b,F.D b→some b≠row):F.kept w':=
 ⟨hg.os.trans h.os,hg.tape.trans h.tape,hg.output.trans h.output,Nat.le_trans h.size hg.size,fun b hb=>⟨(h.block b hb).1,(hg.block b (h.lt hb) (hr b hb)).trans (h.block b hb).2⟩⟩
def Frm.all (w:World):Frm:=⟨w,fun b=>b<w.heap.size,fun _=>False⟩
theorem Frm.kept.self (w:World):(Frm.all w).kept w:=⟨rfl,rfl,rfl,Nat.le_refl _,fun _ hb=>⟨hb,rfl⟩⟩
structure HR (w0:Frm) (ρ:List Place) (h:List AB) (w:World):Prop where
  below:w0.kept w
  len:ρ.length=h.length
  at_:∀(b:Nat) p x,ρ[b]?=some p→h[b]?=some x→x.holds ρ w p
  fresh:∀(b:Nat) p x,ρ[b]?=some p→h[b]?=some x→x.own=true→¬ w0.D p.b
  apart:∀(b c:Nat) p q x y,b≠c→ρ[b]?=some p→ρ[c]?=some q→h[b]?=some x→h[c]?=some y→x.own=true→y.live=true→p.b≠q.b
  off:∀(b:Nat) p x,ρ[b]?=some p→h[b]?=some x→x.live=true→¬ (w0.D p.b∧w0.E p.b)
theorem AB.holds.grow {ρ ρ':List Place} (e:bj ρ ρ') {w:World} {p:Place}:∀ {x:AB},x.holds ρ w p→x.holds ρ' w p
 | .cells l _ _ own,⟨c,T,fz,d,b,g,f⟩=>⟨c,T,fz,d,b,g,fun i a k=>by
  obtain ⟨v,j,m⟩:=f i a k;exact ⟨v,j,bS e a v m⟩⟩
 | .map es clock,⟨en,d,b⟩=>⟨en,d,b.grow e⟩
 | .loop _ _ _ _ _,⟨r,d,b,o,g,f,h5',h5'',n⟩=>⟨r,d,b,o,g,f,h5',h5'',fun t=>bS e _ _ (n t)⟩
 | .siter _ _,h=>h
 | .miter _ _ _ _,⟨s,q,d,b⟩=>⟨s,q,e _ _ d,b⟩
 | .defs,h=>h
 | .dead,_=>trivial
theorem AB.holds.kept {ρ:List Place} {w w':World} {p:Place}:∀ {x:AB},x.holds ρ w p→(x.live=true→w'.heap[p.b]?=w.heap[p.b]?)→x.holds ρ w' p
 | .cells l _ _ own,⟨c,T,fz,a,d⟩,h=>⟨c,T,fz,by rw [h rfl]; exact a,d⟩
 | .map es clock,⟨en,a,d⟩,h=>⟨en,by rw [h rfl]; exact a,d⟩
 | .loop _ _ _ _ _,⟨r,a,d⟩,h=>⟨r,by rw [h rfl]; exact a,d⟩
 | .siter _ _,⟨e,a⟩,h=>⟨e,by rw [h rfl]; exact a⟩
 | .miter _ _ _ _,⟨e,q,a,d⟩,h=>⟨e,q,a,by rw [h rfl]; exact d⟩
 | .defs,a,h=>(h rfl).trans a
 | .dead,_,_=>trivial
theorem AB.holds.lt {ρ:List Place} {w:World} {p:Place}:∀ {x:AB},x.holds ρ w p→x.live=true→p.b<w.heap.size
 | .cells l _ _ own,⟨c,T,fz,a,_⟩,_=>(Array.getElem?_eq_some_iff.1 a).1
 | .map es clock,⟨en,a,_⟩,_=>(Array.getElem?_eq_some_iff.1 a).1
 | .loop _ _ _ _ _,⟨r,a,_⟩,_=>(Array.getElem?_eq_some_iff.1 a).1
 | .siter _ _,⟨_,a⟩,_=>(Array.getElem?_eq_some_iff.1 a).1
 | .miter _ _ _ _,⟨_,q,_,a⟩,_=>(Array.getElem?_eq_some_iff.1 a).1
 | .defs,a,_=>(Array.getElem?_eq_some_iff.1 a).1
section
variable {w:World} {w0:Frm} {ρ:List Place} {h:List AB}
theorem HR.drew (hr:HR w0 ρ h w):HR w0 ρ h w.drew:=⟨hr.below.drew,hr.len,hr.at_,hr.fresh,hr.apart,hr.off⟩
theorem HR.alloc (hr:HR w0 ρ h w) (o:Obj) {x:AB} {n:Nat} (hx:x.holds (ρ++[⟨w.heap.size,0,n⟩]) (w.alloc o) ⟨w.heap.size,0,n⟩):HR w0 (ρ++[⟨w.heap.size,0,n⟩]) (h++[x]) (w.alloc o):=by
 have B:=hr.below.size;have u:=bj.app ρ [⟨w.heap.size,0,n⟩];have split:∀(b:Nat) p y,(ρ++[⟨w.heap.size,0,n⟩])[b]?=some p→(h++[x])[b]?=some y→(b<ρ.length∧ρ[b]?=some p∧h[b]?=some y)∨(b=ρ.length∧p=⟨w.heap.size,0,n⟩∧y=x):=by
  intro b p y a hy;rw [List.getElem?_append] at a hy
  by_cases d:b<ρ.length
  ·rw [if_pos d] at a;rw [if_pos (by rw [←hr.len]; exact d)] at hy;exact .inl ⟨d,a,hy⟩
  ·rw [if_neg d] at a;rw [if_neg (by rw [←hr.len]; exact d)] at hy;rw [List.getElem?_singleton] at a hy;split at a
   ·rename_i A;rw [if_pos (by rw [←hr.len]; exact A)] at hy;exact .inr ⟨by omega,(Option.some.inj a).symm,(Option.some.inj hy).symm⟩
   ·cases a
 refine ⟨hr.below.alloc o,by simp [hr.len],?_,?_,?_,?_⟩
 ·intro b p y a hy;rcases split b p y a hy with ⟨_,a,hy⟩|⟨_,rfl,rfl⟩
  ·have s:=hr.at_ b p y a hy;exact (s.grow u).kept fun e=>Below.heap_alloc _ _ _ (s.lt e)
  ·exact hx
 ·intro b p y a hy f;rcases split b p y a hy with ⟨_,a,hy⟩|⟨_,rfl,rfl⟩
  ·exact hr.fresh b p y a hy f
  ·exact fun j=>Nat.lt_irrefl _ (hr.below.lt j)
 ·intro b c p q y z v a m hy k f e;have t:∀ {y:AB},y.own=true→y.live=true:=by intro y; cases y <;> simp [AB.own,AB.live]
  rcases split b p y a hy with ⟨d,r,l⟩|⟨d,rfl,rfl⟩
  ·rcases split c q z m k with ⟨_,i,g⟩|⟨_,rfl,rfl⟩
   ·exact hr.apart b c p q y z v r i l g f e
   ·have:=(hr.at_ b p y r l).lt (t f);show p.b≠w.heap.size;omega
  ·rcases split c q z m k with ⟨_,i,g⟩|⟨D,rfl,rfl⟩
   ·have:=(hr.at_ c q z i g).lt e;show w.heap.size≠q.b;omega
   ·omega
 ·intro b p y a hy e;rcases split b p y a hy with ⟨_,a,hy⟩|⟨_,rfl,rfl⟩
  ·exact hr.off b p y a hy e
  ·exact fun j=>Nat.lt_irrefl _ (hr.below.lt j.1)
theorem HR.cell (hr:HR w0 ρ h w) {b i:Nat} {p:Place} {l:List AV} {T:TypeId} {e:Nat} {own:Bool} {a:AV} (hp:ρ[b]?=some p) (hb:h[b]?=some (.cells l T e own)) (hi:l[i]?=some a):∃v,w.cell? ⟨p.b,p.o+i,none⟩=some v∧aD ρ a=some v:=by
 obtain ⟨c,T,fz,h1,_,_,h5⟩:=hr.at_ b p _ hp hb;obtain ⟨v,hv,hc⟩:=h5 i a hi;refine ⟨v,?_,hc⟩;simp [World.cell?,h1,hv]
theorem HR.upd (hr:HR w0 ρ h w) {b:Nat} {p:Place} {x x':AB} (i:ρ[b]?=some p) (hx:h[b]?=some x) (l:x.own=true) {w':World} (F:w.grownBy w' (some p.b)) (I:x'.holds ρ w' p) (P:x'.own=x'.live):HR w0 ρ (h.set b x') w':=by
 have K:b<h.length:=(Jo.1 hx).1;have t:=hr.fresh b p x i hx l;have L:=hr.below.size;have v:∀ {y:AB},y.own=true→y.live=true:=by intro y; cases y <;> simp [AB.own,AB.live]
 have N:=(hr.at_ b p x i hx).lt (v l);have j:∀(c:Nat) y,(h.set b x')[c]?=some y→(c=b∧y=x')∨(c≠b∧h[c]?=some y):=by
  intro c y hy;rw [JM] at hy
  by_cases g:b=c
  ·subst g;rw [if_pos rfl,if_pos K] at hy;exact .inl ⟨rfl,(Option.some.inj hy).symm⟩
  ·rw [if_neg g] at hy;exact .inr ⟨Ne.symm g,hy⟩
 refine ⟨hr.below.grown F (fun k J e=>by cases e; exact t J),by simp [hr.len],?_,?_,?_,?_⟩
 ·intro c q y a hy;rcases j c y hy with ⟨rfl,rfl⟩|⟨g,f⟩
  ·rw [i] at a; cases a; exact I
  ·have G:=hr.at_ c q y a f;refine G.kept fun D=>F.block _ (G.lt D) (fun e=>?_)
   exact hr.apart b c p q x y (Ne.symm g) i a hx f l D (Option.some.inj e).symm
 ·intro c q y a hy m;rcases j c y hy with ⟨rfl,rfl⟩|⟨g,f⟩
  ·rw [i] at a; cases a; exact t
  ·exact hr.fresh c q y a f m
 ·intro c d q r y z n a s hy B m A;rcases j c y hy with ⟨rfl,rfl⟩|⟨g,f⟩
  ·rcases j d z B with ⟨rfl,rfl⟩|⟨u,o⟩
   ·exact absurd rfl n
   ·exact hr.apart c d q r x z n a s hx o l A
  ·rcases j d z B with ⟨rfl,rfl⟩|⟨u,o⟩
   ·exact hr.apart c d q r y x n a s f hx m (v l)
   ·exact hr.apart c d q r y z n a s f o m A
 ·intro c q y a hy H;rcases j c y hy with ⟨rfl,rfl⟩|⟨g,f⟩
  ·rw [i] at a; cases a; exact fun u=>t u.1
  ·exact hr.off c q y a f H
theorem HR.put (hr:HR w0 ρ h w) {b o:Nat} {p:Place} {l vs:List AV} {d:List Value} {T:TypeId} {e:Nat} (q:ρ[b]?=some p) (r:h[b]?=some (.cells l T e true)) (G:o+vs.length≤l.length) (m:concL ρ vs=some d) (y:∀v∈d,v.oneCell'=true) :
 ∃w',(∀P:Program,(storeCells ⟨p.b,p.o+o,none⟩ d).run P w=.ok () w')∧HR w0 ρ (h.set b (.cells (l.take o++vs++l.drop (o+vs.length)) T e true)) w':=by
 obtain ⟨c,T',L,t,F,K,s⟩:=hr.at_ b p _ q r;obtain ⟨rfl,rfl,B,A,z,D⟩:=F rfl;have H:=bI m;refine ⟨w.setRow p.b ((c.toList.take (p.o+o+0))++d++c.toList.drop (p.o+o+0+d.length)).toArray,fun P=>run_storeCells_at P p.b (p.o+o) T' d 0 c w t (by omega) y,?_⟩;refine hr.upd q r rfl (w':=w.setRow p.b _) ⟨rfl,rfl,rfl,by simp [World.setRow],fun k _ u=>setRow_other w p.b k _ (fun e=>u (by rw [e]))⟩ ?_ rfl;refine ⟨_,T',(0,0),setRow_heap w p.b _ _ T' (0,0) t,fun _=>⟨rfl,rfl,B,A,z,?_⟩,?_,?_⟩
 ·simp; omega
 ·simp; omega
 ·intro i a f;simp only [List.getElem?_toArray];rw [Nat.add_zero];have I:c.toList.length=p.o+p.n:=by simpa using D
  by_cases x:i<o
  ·rw [Jv,Jw (by rw [JG]; omega),List.getElem?_take_of_lt x] at f;obtain ⟨v,j,g⟩:=s i a f;refine ⟨v,?_,g⟩;rw [Jv,Jw (by rw [JG]; omega),List.getElem?_take_of_lt (by omega)];simpa using j
  ·by_cases J:i<o+vs.length
   ·rw [Jv,JK (by rw [JG]; omega),JG,Nat.min_eq_left (by omega),Jw (by omega)] at f;obtain ⟨v,j,g⟩:=di m f;refine ⟨v,?_,g⟩;rw [Jv,JK (by rw [JG]; omega),JG,Nat.min_eq_left (by omega),Jw (by omega),show p.o+i - (p.o+o)=i - o by omega];exact j
   ·rw [JK (by simp; omega),Jr,JG,Nat.min_eq_left (by omega),List.getElem?_drop,show o+vs.length+(i - (o+vs.length))=i by omega] at f;obtain ⟨v,j,g⟩:=s i a f;refine ⟨v,?_,g⟩;rw [JK (by simp; omega),Jr,JG,Nat.min_eq_left (by omega),List.getElem?_drop,show p.o+o+d.length+(p.o+i - (p.o+o+d.length))=p.o+i by omega];simpa using j
theorem HR.add (hr:HR w0 ρ h w) {x:AB} {q:Place} (hx:x.holds (ρ++[q]) w q) (n:¬ w0.D q.b) (o:∀(c:Nat) r y,ρ[c]?=some r→h[c]?=some y→y.live=true→r.b≠q.b):HR w0 (ρ++[q]) (h++[x]) w:=by
 have t:=bj.app ρ [q];have split:∀(b:Nat) p y,(ρ++[q])[b]?=some p→(h++[x])[b]?=some y→(b<ρ.length∧ρ[b]?=some p∧h[b]?=some y)∨(b=ρ.length∧p=q∧y=x):=by
  intro b p y a hy;rw [List.getElem?_append] at a hy
  by_cases f:b<ρ.length
  ·rw [if_pos f] at a;rw [if_pos (by rw [←hr.len]; exact f)] at hy;exact .inl ⟨f,a,hy⟩
  ·rw [if_neg f] at a;rw [if_neg (by rw [←hr.len]; exact f)] at hy;rw [List.getElem?_singleton] at a hy;split at a
   ·rename_i A;rw [if_pos (by rw [←hr.len]; exact A)] at hy;exact .inr ⟨by omega,(Option.some.inj a).symm,(Option.some.inj hy).symm⟩
   ·cases a
 have s:∀ {y:AB},y.own=true→y.live=true:=by intro y; cases y <;> simp [AB.own,AB.live]
 refine ⟨hr.below,by simp [hr.len],?_,?_,?_,?_⟩
 ·intro b p y a hy;rcases split b p y a hy with ⟨_,e,d⟩|⟨_,rfl,rfl⟩
  ·exact (hr.at_ b p y e d).grow t
  ·exact hx
 ·intro b p y a hy g;rcases split b p y a hy with ⟨_,e,d⟩|⟨_,rfl,rfl⟩
  ·exact hr.fresh b p y e d g
  ·exact n
 ·intro b c p r y z v a m hy l g i;rcases split b p y a hy with ⟨f,e,d⟩|⟨f,rfl,rfl⟩
  ·rcases split c r z m l with ⟨_,k,j⟩|⟨_,rfl,rfl⟩
   ·exact hr.apart b c p r y z v e k d j g i
   ·exact o b p y e d (s g)
  ·rcases split c r z m l with ⟨_,k,j⟩|⟨B,rfl,rfl⟩
   ·exact (o c r z k j i).symm
   ·omega
 ·intro b p y a hy i;rcases split b p y a hy with ⟨_,e,d⟩|⟨_,rfl,rfl⟩
  ·exact hr.off b p y e d i
  ·exact fun u=>n u.1
theorem gD {ρ:List Place}:∀ {l:List AV} (f:Nat→Option Value),(∀(i:Nat) a,l[i]?=some a→∃v,f i=some v∧aD ρ a=some v)→∃vs,concL ρ l=some vs∧∀(i:Nat) v,vs[i]?=some v→f i=some v
 | [],f,_=>⟨[],rfl,by simp⟩
 | a::r,f,hf=>by
  obtain ⟨v,d,g⟩:=hf 0 a rfl;obtain ⟨vs,c,e⟩:=gD (l:=r) (fun i=>f (i+1)) (fun i a b=>hf (i+1) a (by simpa using b));refine ⟨v::vs,by simp only [concL,g,c],fun i u b=>?_⟩;cases i with
  | zero=>simp at b; subst b; exact d
  | succ i=>exact e i u (by simpa using b)
theorem fv {ρ:List Place}:∀ {a b:List AV} {x y:List Value},concL ρ a=some x→concL ρ b=some y→concL ρ (a++b)=some (x++y)
 | [],_,_,_,ha,hb=>by cases ha; exact hb
 | a::r,b,x,y,ha,hb=>by
  simp only [concL] at ha;cases c:aD ρ a with
  | none=>rw [c] at ha; cases ha
  | some v=>
   cases d:concL ρ r with
   | none=>rw [c,d] at ha; cases ha
   | some l=>
    rw [c,d] at ha;cases ha
    rw [Jy,concL,c,fv d hb]; rfl
theorem HR.append (hr:HR w0 ρ h w) {P:Program} (t ty T:TypeId) {agg:Bool} {size L:Nat} {z:Value} (V:P.underlying t=some (.slice T)) (he:dF P T agg size L z) (N:z.cells.size=size) (hsz:0<size)
 {b n m:Nat} {p:Place} {l ys:List AV} {u:Value} {k:List Value} (s:ρ[b]?=some p) (A:h[b]?=some (.cells l T size true)) (hn:n*size≤l.length)
 (S:Dt w u m k) (H:concL ρ ys=some k) (hl:k.length=m*size) (h1:∀y∈k,y.oneCell'=true) (hm:0<n+m) (b5:n+m≤maxLen) (b3:(n+m)*L≤140737488355328) :
 ∃B w' q,(Builtin.append_ #[t,t] ty #[.slice (some ⟨p.b,p.o+0,none⟩) n (p.n / size),u]).run P w=.ok B w'∧HR w0 (ρ++[q]) (h.set b .dead++[.cells (l.take (n*size)++ys) T size true]) w'∧aD (ρ++[q]) (.sl h.length 0 (n+m) size)=some B:=by
 obtain ⟨c,T',fz,g1,g2,g4,g5⟩:=hr.at_ b p _ s A;obtain ⟨rfl,rfl,G,g7,g8,g3⟩:=g2 rfl;have hf:=hr.fresh b p _ s A rfl;have b0:p.n / size*size=p.n:=Nat.div_mul_cancel (Nat.dvd_of_mod_eq_zero g7);obtain ⟨xs,I,R⟩:=gD (ρ:=ρ) (l:=l.take (n*size)) (fun i=>c[i]?) (fun i a e=>by
  rw [List.getElem?_take] at e;split at e
  ·obtain ⟨v,f,F⟩:=g5 i a e;rw [G,Nat.zero_add] at f;exact ⟨v,f,F⟩
  ·cases e)
 have Q:xs.length=n*size:=by rw [bI I,JG]; omega
 have Z:w.ownsRow 0 T' size (.slice (some ⟨p.b,p.o+0,none⟩) n (p.n / size)) n xs:=by
  refine ⟨Q,.inr ⟨p.b,p.n / size,c,by rw [G],Nat.zero_le _,g1,?_,g8,by rw [b0,g3,G,Nat.zero_add],?_⟩⟩
  ·rw [Nat.le_div_iff_mul_le hsz]; omega
  ·refine List.ext_getElem? fun i=>?_
   rw [List.getElem?_take]
   by_cases e:i<n*size
   ·rw [if_pos e];have hx:xs[i]?=some (xs[i]'(by omega)):=Jn (by omega);rw [hx];simpa using R i _ hx
   ·rw [if_neg e,JH (by omega)]
 obtain ⟨B,w',W,X,hg,b4,_⟩:=fB (P:=P) t ty T' V he N hsz Z S hl h1 b5 b3;rcases X.2 with ⟨_,h0⟩|⟨g,cap,c4,rfl,_,a5,a0,b2,b1,U⟩
 ·omega
 have a6:w.grownBy w' (some p.b):=hg;have hk:=hr.upd s A rfl (x':=.dead) a6 trivial rfl;have K:cap*size / size=cap:=Nat.mul_div_cancel _ hsz;have a1:ρ.length=h.length:=hr.len;have J:g=p.b∨w.heap.size≤g:=by
  rcases b4 g rfl with j|j
  ·left; simpa [Value.ownBlock] using j.symm
  ·exact .inr j
 refine ⟨_,w',⟨g,0,cap*size⟩,W,?_,?_⟩
 ·refine hk.add (q:=⟨g,0,cap*size⟩) ?_ ?_ ?_
  ·refine ⟨c4,T',(0,0),a5,fun _=>⟨rfl,rfl,rfl,Nat.mul_mod_left _ _,by show cap*size / size≤maxLen; rw [K]; exact b2,by simpa using b1⟩,?_,fun i a e=>?_⟩
   ·rw [Jr,JG];have:=bI H;have a2:(n+m)*size≤cap*size:=JD _ a0;rw [Nat.add_mul] at a2;show min (n*size) l.length+ys.length≤cap*size;omega
   ·obtain ⟨v,f,F⟩:=di (fv I H) e;refine ⟨v,?_,bS (bj.app _ _) a v F⟩;rw [←U,List.getElem?_take] at f;split at f
    ·rw [Nat.zero_add]; simpa using f
    ·cases f
  ·rcases J with rfl|j
   ·exact hf
   ·exact fun x=>Nat.lt_irrefl _ (Nat.lt_of_lt_of_le (hr.below.lt x) j)
  ·intro d r y x hy D;rw [JM] at hy;split at hy
   ·split at hy
    ·cases hy; cases D
    ·cases hy
   ·rename_i hne;have j:=(hr.at_ d r y x hy).lt D;show r.b≠g;rcases J with rfl|h3
    ·exact (hr.apart b d p r _ y hne s x A hy rfl D).symm
    ·omega
 ·simp only [aD];rw [←a1,List.getElem?_concat_length];simp only [Nat.zero_add,Nat.sub_zero];rw [K]
end
mutual
def fa:Value→Option AV
 | .int k z=>some (.int k z)
 | .bool b=>some (.bool b)
 | .string s=>some (.str s.data.toList)
 | .pointer none=>some .ptr0
 | .slice none 0 0=>some .sl0
 | .map none=>some .mp0
 | .nilFunc=>some .fn0
 | .nilIface=>some .if0
 | .agg ⟨l⟩=>match absL l with
  | some l=>some (.agg l)
  | none=>none
 | .tuple ⟨l⟩=>match absL l with
  | some l=>some (.tup l)
  | none=>none
 | _=>none
def absL:List Value→Option (List AV)
 | []=>some []
 | v::r=>match fa v,absL r with
  | some a,some l=>some (a::l)
  | _,_=>none
end
mutual
theorem oH (ρ:List Place):∀(v:Value) (a:AV),fa v=some a→aD ρ a=some v
 | .int k z,a,h=>by simp only [fa] at h; cases h; rfl
 | .bool b,a,h=>by simp only [fa] at h; cases h; rfl
 | .string s,a,h=>by simp only [fa] at h; cases h; rfl
 | .pointer none,a,h=>by simp only [fa] at h; cases h; rfl
 | .pointer (some _),a,h=>by simp only [fa] at h; cases h
 | .slice none 0 0,a,h=>by simp only [fa] at h; cases h; rfl
 | .slice none 0 (_+1),a,h=>by simp only [fa] at h; cases h
 | .slice none (_+1) _,a,h=>by simp only [fa] at h; cases h
 | .slice (some _) _ _,a,h=>by simp only [fa] at h; cases h
 | .map none,a,h=>by simp only [fa] at h; cases h; rfl
 | .map (some _),a,h=>by simp only [fa] at h; cases h
 | .nilFunc,a,h=>by simp only [fa] at h; cases h; rfl
 | .nilIface,a,h=>by simp only [fa] at h; cases h; rfl
 | .agg ⟨l⟩,a,h=>by
  simp only [fa] at h;cases c:absL l with
  | none=>rw [c] at h; cases h
  | some x=>
   rw [c] at h;cases h
   simp only [aD,absL_ok ρ l x c]
 | .tuple ⟨l⟩,a,h=>by
  simp only [fa] at h;cases c:absL l with
  | none=>rw [c] at h; cases h
  | some x=>
   rw [c] at h;cases h
   simp only [aD,absL_ok ρ l x c]
 | .float _ _,a,h=>by simp only [fa] at h; cases h
 | .complex _ _ _,a,h=>by simp only [fa] at h; cases h
 | .chan _,a,h=>by simp only [fa] at h; cases h
 | .func _ _ _,a,h=>by simp only [fa] at h; cases h
 | .iface _ _,a,h=>by simp only [fa] at h; cases h
theorem absL_ok (ρ:List Place):∀(l:List Value) (x:List AV),absL l=some x→concL ρ x=some l
 | [],x,h=>by simp only [absL] at h; cases h; rfl
 | v::r,x,h=>by
  simp only [absL] at h;cases c:fa v with
  | none=>rw [c] at h; cases h
  | some a=>
   cases d:absL r with
   | none=>rw [c,d] at h; cases h
   | some l=>
    rw [c,d] at h;cases h
    simp only [concL,oH ρ v a c,absL_ok ρ r l d]
end
def bV:AV:=.tup []
def gN:Nat:=9
def CM (g:Nat):Nat:=[3,1,20,256,32,1,1,32,64].getD g 0
def GI (ρ:List Place):Prop:=∀g,g<gN→ρ[g]?=some ⟨g,0,CM g⟩
theorem GI.mono {ρ ρ':List Place} (h:GI ρ) (hg:bj ρ ρ'):GI ρ':=fun g hl=>hg g _ (h g hl)
structure FR (ρ:List Place) (s:Nat→AV) (E:Env):Prop where
  g:GI ρ
  s:∀t,aD ρ (s t)=some (E t)
theorem FR.mono {ρ ρ':List Place} {s:Nat→AV} {E:Env} (h:FR ρ s E) (hg:bj ρ ρ'):FR ρ' s E:=⟨h.g.mono hg,fun t=>bS hg _ _ (h.s t)⟩
theorem FR.put {ρ:List Place} {s:Nat→AV} {E:Env} (h:FR ρ s E) (d:Nat) {a:AV} {v:Value} (b:aD ρ a=some v) {s':Nat→AV} (c:∀t,s' t=if t=d then a else s t):FR ρ s' (bR E d v):=by
 refine ⟨h.g,fun t=>?_⟩;rw [c];simp only [bR]
 by_cases hb:t=d
 ·subst hb;simp [b]
 ·have e:Nat.beq t d=false:=by
   cases hx:Nat.beq t d
   ·rfl
   ·exact absurd (Nat.eq_of_beq_eq_true hx) hb
  rw [if_neg hb,e];exact h.s t
theorem FR.args {ρ:List Place} {l:List AV} {vs:List Value} (c:GI ρ) (h:concL ρ l=some vs):FR ρ (fun t=>l.getD t bV) (fx vs):=by
 refine ⟨c,fun t=>?_⟩;simp only [fx,Jl]
 by_cases ht:t<l.length
 ·obtain ⟨v,a,b⟩:=di h (Jn ht);rw [Jn ht,a];exact b
 ·have d:=bI h;rw [JH (by omega),JH (l:=vs) (by omega)];rfl
def cW (s:Nat→AV):Operand→Option AV
 | .tmp t=>some (s t)
 | .const v=>fa v
 | .func f=>some (.fn f [] [])
 | .global g=>if Nat.blt g gN then some (.ptr g 0) else none
theorem aV {ρ:List Place} {s:Nat→AV} {E:Env} (h:FR ρ s E) {x:Operand} {a:AV} (hx:cW s x=some a):aD ρ a=some (ev E x):=by
 cases x with
 | tmp t=>cases hx; exact h.s t
 | const v=>exact oH ρ v a hx
 | func f=>cases hx; rfl
 | global g=>
  simp only [cW] at hx;split at hx
  ·rename_i hl;cases hx
   simp only [aD,h.g g (Nat.le_of_ble_eq_true hl),ev]
  ·cases hx
def oq (op:BinOp) (k:IntKind) (a b:Int):Option AV:=match op with
 | .add=>some (.int k (k.wrap (a+b)))
 | .sub=>some (.int k (k.wrap (a - b)))
 | .mul=>some (.int k (k.wrap (a*b)))
 | .rem=>if b=0 then none else some (.int k (a.tmod b))
 | .and=>some (.int k (bits .and k a b))
 | .or=>some (.int k (bits .or k a b))
 | .xor=>some (.int k (bits .xor k a b))
 | .eql=>some (.bool (a == b))
 | .neq=>some (.bool (a != b))
 | .lss=>some (.bool (decide (a<b)))
 | .leq=>some (.bool (decide (a≤b)))
 | .gtr=>some (.bool (decide (b<a)))
 | .geq=>some (.bool (decide (b≤a)))
 | _=>none
def Bw (op:BinOp) (a b:Str):Option AV:=match op with
 | .add=>(Bp a b).map .str
 | .eql=>some (.bool (a == b))
 | .neq=>some (.bool (a != b))
 | .lss=>some (.bool (Ae a b))
 | .leq=>some (.bool (Ae a b || a == b))
 | .gtr=>some (.bool (!(Ae a b || a == b)))
 | .geq=>some (.bool (!(Ae a b)))
 | _=>none
def yY (op:BinOp):AV→AV→Option AV
 | .int k a,.int k' b=>if k=k' then oq op k a b else none
 | .str a,.str b=>Bw op a b
 | _,_=>none
section
variable {P:Program} {E:Env} {w:World} {d:Option Tmp} {ty:TypeId} {ps:String} {af:Array Edge} {gd:Option (Nat×Bool)}
theorem Dm {ρ:List Place} {op:BinOp} {T T':TypeId} {x y:Operand} {k:IntKind} {a b:Int} {c:AV} (hx:ev E x=.int k a) (hy:ev E y=.int k b) (h:oq op k a b=some c):∃v,aD ρ c=some v∧bo P E ⟨d,.binOp op T x y T',ty,ps,af,gd⟩ w v w:=by
 cases op <;> simp only [oq] at h <;> first|(cases h; done)|skip
 case add=>cases h; exact ⟨_,rfl,zI hx hy⟩
 case sub=>cases h; exact ⟨_,rfl,Ey hx hy⟩
 case mul=>cases h; exact ⟨_,rfl,ED hx hy⟩
 case rem=>
  split at h
  ·cases h
  ·rename_i hb; cases h; exact ⟨_,rfl,DI hx hy hb⟩
 case and=>cases h; exact ⟨_,rfl,DK hx hy⟩
 case or=>cases h; exact ⟨_,rfl,Ci hx hy⟩
 case xor=>cases h; exact ⟨_,rfl,FD hx hy⟩
 case eql=>cases h; exact ⟨_,rfl,cx hx hy⟩
 case neq=>cases h; exact ⟨_,rfl,fN hx hy⟩
 case lss=>cases h; exact ⟨_,rfl,bu hx hy⟩
 case leq=>cases h; exact ⟨_,rfl,iu hx hy⟩
 case gtr=>cases h; exact ⟨_,rfl,fO hx hy⟩
 case geq=>cases h; exact ⟨_,rfl,ej hx hy⟩
theorem xY {ρ:List Place} {op:BinOp} {T T':TypeId} {x y:Operand} {a b:Str} {c:AV} (hx:ev E x=ao a) (hy:ev E y=ao b) (h:Bw op a b=some c):∃v,aD ρ c=some v∧bo P E ⟨d,.binOp op T x y T',ty,ps,af,gd⟩ w v w:=by
 cases op <;> simp only [Bw] at h <;> first|(cases h; done)|skip
 case add=>
  cases hc:Bp a b with
  | none=>rw [hc] at h; cases h
  | some s=>rw [hc] at h; cases h; exact ⟨_,rfl,zH hx hy hc⟩
 case eql=>cases h; exact ⟨_,rfl,ni hx hy⟩
 case neq=>cases h; exact ⟨_,rfl,EA hx hy⟩
 case lss=>cases h; exact ⟨_,rfl,EH hx hy⟩
 case leq=>cases h; exact ⟨_,rfl,EI hx hy⟩
 case gtr=>cases h; exact ⟨_,rfl,EJ hx hy⟩
 case geq=>cases h; exact ⟨_,rfl,EK hx hy⟩
theorem Dn {ρ:List Place} {s:Nat→AV} (g:FR ρ s E) {op:BinOp} {T T':TypeId} {x y:Operand} {a b c:AV} (hx:cW s x=some a) (hy:cW s y=some b) (h:yY op a b=some c):∃v,aD ρ c=some v∧bo P E ⟨d,.binOp op T x y T',ty,ps,af,gd⟩ w v w:=by
 have f:=aV g hx;have e:=aV g hy;unfold yY at h;split at h
 ·split at h
  ·rename_i hk;subst hk;simp only [aD,Option.some.injEq] at f e;exact Dm f.symm e.symm h
  ·cases h
 ·simp only [aD,Option.some.injEq] at f e;exact xY f.symm e.symm h
 ·cases h
end
def Ia:TypeDesc→Bool
 | .struct _=>true
 | .array _ _=>true
 | _=>false
def js (P:Program) (T:TypeId):Option (Bool×Nat×Nat×Value):=match P.info? T,P.underlying T with
 | some i,some d=>match i.zero with
  | some z=>some (Ia d,i.size,i.bytes,z)
  | none=>none
 | _,_=>none
theorem cR {P:Program} {T:TypeId} {agg:Bool} {size a:Nat} {z:Value} (h:js P T=some (agg,size,a,z)):dF P T agg size a z:=by
 unfold js at h;cases hi:P.info? T with
 | none=>rw [hi] at h; cases h
 | some i=>
  cases hd:P.underlying T with
  | none=>rw [hi,hd] at h; cases h
  | some dd=>
   rw [hi,hd] at h;simp only at h;cases hz:i.zero with
   | none=>rw [hz] at h; cases h
   | some z'=>
    rw [hz] at h;simp only [Option.some.injEq,Prod.mk.injEq] at h;obtain ⟨rfl,rfl,rfl,rfl⟩:=h;exact ⟨⟨i,hi,hz,rfl,rfl⟩,⟨dd,hd,by cases dd <;> rfl⟩⟩
def nW (P:Program) (h:List AB) (T:TypeId):AV→Option AV
 | .ptr b o=>match js P T,h[b]? with
  | some (agg,size,_,_),some (.cells l _ _ _)=>if agg then (if o+size≤l.length then some (.agg ((l.drop o).take size)) else none) else l[o]?
  | _,_=>none
 | _=>none
section
variable {P:Program} {E:Env} {w:World} {w0:Frm} {d:Option Tmp} {ty:TypeId} {ps:String} {af:Array Edge} {gd:Option (Nat×Bool)} {ρ:List Place} {h:List AB} {s:Nat→AV}
theorem eW {b o:Nat} {v:Value} (hc:aD ρ (.ptr b o)=some v):∃p,ρ[b]?=some p∧v=.pointer (some ⟨p.b,p.o+o,none⟩):=by
 simp only [aD] at hc;cases hb:ρ[b]? with
 | none=>rw [hb] at hc; cases hc
 | some p=>rw [hb] at hc; cases hc; exact ⟨p,rfl,rfl⟩
theorem ut (hr:HR w0 ρ h w) (B:FR ρ s E) {T:TypeId} {x:Operand} {a c:AV} (hx:cW s x=some a) (f:nW P h T a=some c):∃v,aD ρ c=some v∧bo P E ⟨d,.load T x,ty,ps,af,gd⟩ w v w:=by
 have D:=aV B hx;unfold nW at f;split at f
 ·rename_i b o;obtain ⟨p,t,q⟩:=eW D;split at f
  ·rename_i agg size bytes z l T' e own ht hb;have r:=cR ht;cases agg with
   | false=>
    simp only [Bool.false_eq_true,if_false] at f;obtain ⟨v,m,k⟩:=hr.cell t hb f;exact ⟨v,k,bh r q m⟩
   | true=>
    simp only [if_true] at f;split at f
    ·rename_i hle;cases f
     obtain ⟨vs,n,A⟩:=gD (ρ:=ρ) (l:=(l.drop o).take size) (fun i=>w.cell? ⟨p.b,p.o+o+i,none⟩) (fun i a g=>by
      rw [List.getElem?_take] at g;split at g
      ·rw [List.getElem?_drop] at g;obtain ⟨v,m,k⟩:=hr.cell t hb g;exact ⟨v,by rw [Nat.add_assoc]; exact m,k⟩
      ·cases g)
     refine ⟨.agg vs.toArray,by simp only [aD,n],cP r q ?_ ?_⟩
     ·rw [bI n,JG,JQ]; omega
     ·intro j u y;rw [Addr.add_lit];exact A j u y
    ·cases f
  ·cases f
 ·cases f
def cy:AV→List AV
 | .agg l=>l
 | a=>[a]
def jc:AV→Bool
 | .agg _=>false
 | .tup _=>false
 | _=>true
theorem xk:∀ {a:AV} {v:Value},jc a=true→aD ρ a=some v→v.oneCell'=true∧v.cells=#[v]:=by
 intro a v ha hc;cases a <;> simp only [jc,Bool.false_eq_true] at ha <;> simp only [aD] at hc
 all_goals (try (split at hc))
 all_goals first|(cases hc; exact ⟨rfl,rfl⟩)|(cases hc; done)
theorem kG {a:AV} {v:Value} (b:aD ρ a=some v) (d:(cy a).all jc=true):concL ρ (cy a)=some v.cells.toList:=by
 by_cases ha:jc a=true
 ·have:=(xk ha b).2;have e:cy a=[a]:=by cases a <;> simp_all [jc,cy]
  rw [e,this];simp only [concL,b]
 ·cases a with
  | agg l=>
   simp only [aD] at b;cases c:concL ρ l with
   | none=>rw [c] at b; cases b
   | some vs=>rw [c] at b; cases b; exact c
  | tup l=>simp [cy,jc] at d
  | _=>exact absurd rfl ha
theorem oy:∀ {l:List AV} {vs:List Value},l.all jc=true→concL ρ l=some vs→∀v∈vs,v.oneCell'=true
 | [],vs,_,h,v,hv=>by cases h; cases hv
 | a::r,vs,ha,h,v,hv=>by
  simp only [concL] at h;simp only [List.all_cons,Bool.and_eq_true] at ha;cases b:aD ρ a with
  | none=>rw [b] at h; cases h
  | some u=>
   cases c:concL ρ r with
   | none=>rw [b,c] at h; cases h
   | some us=>
    rw [b,c] at h;cases h
    rcases JI.1 hv with rfl|hv
    ·exact (xk ha.1 b).1
    ·exact oy ha.2 c v hv
def rV (P:Program) (h:List AB) (T:TypeId):AV→AV→Option (List AB)
 | .ptr b o,v=>match js P T,h[b]? with
  | some (_,size,_,_),some (.cells l T' e true)=>if (cy v).length=size∧(cy v).all jc=true∧o+size≤l.length then some (h.set b (.cells (l.take o++cy v++l.drop (o+(cy v).length)) T' e true)) else none
  | _,_=>none
 | _,_=>none
theorem yj (hr:HR w0 ρ h w) (g:FR ρ s E) {T:TypeId} {x y:Operand} {a v:AV} {i:List AB} (hx:cW s x=some a) (hy:cW s y=some v) (c:rV P h T a v=some i):∃w',HR w0 ρ i w'∧vh P E ⟨d,.store T x y,ty,ps,af,gd⟩ w w':=by
 have t:=aV g hx;have r:=aV g hy;unfold rV at c;split at c
 ·rename_i b o;obtain ⟨p,q,k⟩:=eW t;split at c
  ·rename_i agg size bytes z l T' e ht hb;have m:=cR ht;split at c
   ·rename_i hc;cases c
    obtain ⟨c1,c2,c3⟩:=hc;have f:=kG r c2;obtain ⟨w',j,n⟩:=hr.put q hb (o:=o) (by omega) f (oy c2 f);refine ⟨w',n,cF m k rfl ?_ j⟩;have:=bI f;simp only [Array.length_toList] at this;omega
   ·cases c
  ·cases c
 ·cases c
theorem uT (hr:HR w0 ρ h w) (q:Place):aD (ρ++[q]) (.ptr h.length 0)=some (.pointer (some ⟨q.b,q.o+0,none⟩)):=by
 simp only [aD];rw [←hr.len,List.getElem?_concat_length]
theorem qb (n:Nat):n / n≤maxLen:=by
 cases n with
 | zero=>simp [maxLen]
 | succ n=>rw [Nat.div_self (Nat.succ_pos n)]; simp only [maxLen]; omega
theorem HR.cells (hr:HR w0 ρ h w) {l:List AV} {cs:Array Value} (b:concL ρ l=some cs.toList) (T:TypeId):HR w0 (ρ++[⟨w.heap.size,0,l.length⟩]) (h++[.cells l T l.length true]) (w.alloc (.cells cs T)):=by
 refine hr.alloc _ ?_;have d:=bI b;refine ⟨cs,T,(0,0),heap_alloc_new w _,fun _=>⟨rfl,rfl,rfl,Nat.mod_self _,by show l.length / l.length≤maxLen; exact qb _,by show cs.size=0+l.length; rw [←d]; simp⟩,Nat.le_refl _,fun i a e=>?_⟩
 ·obtain ⟨v,c,f⟩:=di b e;refine ⟨v,?_,bS (bj.app _ _) a v f⟩;show cs[0+i]?=some v;rw [Nat.zero_add]; simpa using c
def wH (P:Program) (h:List AB) (T:TypeId):Option (AV×List AB):=match js P T with
 | some (_,_,_,z)=>match absL z.cells.toList with
  | some l=>some (.ptr h.length 0,h++[.cells l T l.length true])
  | none=>none
 | none=>none
theorem ze (hr:HR w0 ρ h w) {T:TypeId} {a:AV} {c:List AB} (b:wH P h T=some (a,c)):∃ρ' v w',bj ρ ρ'∧aD ρ' a=some v∧HR w0 ρ' c w'∧bo P E ⟨d,.alloc T,ty,ps,af,gd⟩ w v w':=by
 unfold wH at b;split at b
 ·rename_i agg size bytes z ht;split at b
  ·rename_i l habs;cases b
   exact ⟨_,_,_,bj.app _ _,uT hr _,hr.cells (absL_ok ρ _ _ habs) T,xg (cR ht)⟩
  ·cases b
 ·cases b
def Fi (h:List AB) (T:TypeId) (v:AV):Option (AV×List AB):=if (cy v).all jc=true then some (.ptr h.length 0,h++[.cells (cy v) T (cy v).length true]) else none
theorem Di (hr:HR w0 ρ h w) (hf:FR ρ s E) {T:TypeId} {x:Operand} {v a:AV} {h':List AB} (hx:cW s x=some v) (hl:Fi h T v=some (a,h')):∃ρ' v w',bj ρ ρ'∧aD ρ' a=some v∧HR w0 ρ' h' w'∧bo P E ⟨d,.box T x,ty,ps,af,gd⟩ w v w':=by
 unfold Fi at hl;split at hl
 ·rename_i hc;cases hl
  exact ⟨_,_,_,bj.app _ _,uT hr _,hr.cells (kG (aV hf hx) hc) T,DJ rfl⟩
 ·cases hl
theorem dK {b o l e:Nat} {v:Value} (hc:aD ρ (.sl b o l e)=some v):∃p,ρ[b]?=some p∧v=.slice (some ⟨p.b,p.o+o,none⟩) l ((p.n - o) / e):=by
 simp only [aD] at hc;cases hb:ρ[b]? with
 | none=>rw [hb] at hc; cases hc
 | some p=>rw [hb] at hc; cases hc; exact ⟨p,rfl,rfl⟩
theorem gV {b o:Nat} {p:Place} (hp:ρ[b]?=some p):aD ρ (.ptr b o)=some (.pointer (some ⟨p.b,p.o+o,none⟩)):=by simp only [aD,hp]
def lM (P:Program) (T:TypeId) (f:Nat):AV→Option AV
 | .ptr b o=>match P.underlying T with
  | some (.struct fs)=>match fs[f]? with
   | some fd=>match js P fd.type with
    | some (_,size,_,_)=>if Nat.blt 0 size=true then some (.ptr b (o+fd.offset)) else none
    | none=>none
   | none=>none
  | _=>none
 | _=>none
theorem qF (i:FR ρ s E) {T:TypeId} {x:Operand} {f:Nat} {a c:AV} (hx:cW s x=some a) (e:lM P T f a=some c):∃v,aD ρ c=some v∧bo P E ⟨d,.fieldAddr T x f,ty,ps,af,gd⟩ w v w:=by
 have j:=aV i hx;unfold lM at e;split at e
 ·rename_i b o;obtain ⟨p,h,g⟩:=eW j;split at e
  ·rename_i fs hT;split at e
   ·rename_i fd hfd;split at e
    ·rename_i agg size bytes z ht;split at e
     ·rename_i k;cases e
      exact ⟨_,gV h,au hT (cR ht) hfd rfl k g (by omega)⟩
     ·cases e
    ·cases e
   ·cases e
  ·cases e
 ·cases e
def jk (P:Program) (T:TypeId):AV→AV→Option AV
 | .sl b o l e,.int _ q=>match P.underlying T with
  | some (.slice el)=>match js P el with
   | some (_,size,_,_)=>if 0≤q∧q<(l:Int) then some (.ptr b (o+q.toNat*size)) else none
   | none=>none
  | _=>none
 | _,_=>none
theorem qD (g:FR ρ s E) {T:TypeId} {x y:Operand} {a i c:AV} (hx:cW s x=some a) (hy:cW s y=some i) (f:jk P T a i=some c):∃v,aD ρ c=some v∧bo P E ⟨d,.indexAddr T x y,ty,ps,af,gd⟩ w v w:=by
 have n:=aV g hx;have h:=aV g hy;unfold jk at f;split at f
 ·rename_i b o l e k q;obtain ⟨p,m,j⟩:=dK n;simp only [aD,Option.some.injEq] at h;split at f
  ·rename_i el hT;split at f
   ·rename_i agg size bytes z ht;split at f
    ·rename_i hq;cases f
     refine ⟨_,gV m,?_⟩;rw [←Nat.add_assoc];exact aF hT (cR ht) rfl j h.symm hq.1 hq.2
    ·cases f
   ·cases f
  ·cases f
 ·cases f
def An (P:Program) (T:TypeId):AV→Option AV
 | .sl _ _ l _=>match P.underlying T with
  | some (.slice _)=>some (.int .i64 l)
  | _=>none
 | .sl0=>match P.underlying T with
  | some (.slice _)=>some (.int .i64 0)
  | _=>none
 | .slz _ _ _ _=>match P.underlying T with
  | some (.slice _)=>some (.int .i64 0)
  | _=>none
 | .str a=>match P.underlying T with
  | some .string=>some (.int .i64 a.length)
  | _=>none
 | _=>none
theorem Cx (g:FR ρ s E) {T:TypeId} {x:Operand} {a c:AV} (hx:cW s x=some a) (b:An P T a=some c):∃v,aD ρ c=some v∧bo P E ⟨d,.call { callee:=.builtin .len,args:=#[x],argTypes:=#[T] },ty,ps,af,gd⟩ w v w:=by
 have e:=aV g hx;unfold An at b;split at b
 ·obtain ⟨p,h,f⟩:=dK e;split at b
  ·rename_i hT; cases b; exact ⟨_,rfl,aN hT rfl f⟩
  ·cases b
 ·simp only [aD,Option.some.injEq] at e;split at b
  ·rename_i hT; cases b; exact ⟨_,rfl,aN hT rfl e.symm⟩
  ·cases b
 ·simp only [aD] at e;split at e
  ·simp only [Option.some.injEq] at e;split at b
   ·rename_i hT; cases b; exact ⟨_,rfl,aN hT rfl e.symm⟩
   ·cases b
  ·cases e
 ·simp only [aD,Option.some.injEq] at e;split at b
  ·rename_i hT; cases b; exact ⟨_,rfl,dl hT e.symm⟩
  ·cases b
 ·cases b
end
section
variable {P:Program} {E:Env} {w:World} {w0:Frm} {d:Option Tmp} {ty:TypeId} {ps:String} {af:Array Edge} {gd:Option (Nat×Bool)} {ρ:List Place} {h:List AB} {s:Nat→AV}
def uK (i:Nat):AV→Option AV
 | .tup l=>l[i]?
 | _=>none
theorem uJ (h:FR ρ s E) {x:Operand} {i:Nat} {a c:AV} (hx:cW s x=some a) (e:uK i a=some c):∃v,aD ρ c=some v∧bo P E ⟨d,.extract x i,ty,ps,af,gd⟩ w v w:=by
 have b:=aV h hx;unfold uK at e;split at e
 ·rename_i l;simp only [aD] at b;cases f:concL ρ l with
  | none=>rw [f] at b; cases b
  | some vs=>
   rw [f] at b;simp only [Option.some.injEq] at b;obtain ⟨v,g,j⟩:=di f e;exact ⟨v,j,ra b.symm g⟩
 ·cases e
def DM (c a b:AV):Option AV:=match c with
 | .bool true=>some a
 | .bool false=>some b
 | _=>none
theorem zN (h:FR ρ s E) {x y z:Operand} {a b c e:AV} (hx:cW s x=some a) (hy:cW s y=some b) (i:cW s z=some c) (f:DM a b c=some e):∃v,aD ρ e=some v∧bo P E ⟨d,.pick x y z,ty,ps,af,gd⟩ w v w:=by
 have g:=aV h hx;unfold DM at f;split at f
 ·simp only [aD,Option.some.injEq] at g;cases f
  exact ⟨_,aV h hy,aP g.symm rfl rfl⟩
 ·simp only [aD,Option.some.injEq] at g;cases f
  exact ⟨_,aV h i,aS g.symm rfl rfl⟩
 ·cases f
theorem zY (hf:FR ρ s E) {x:Operand} {a:AV} (hx:cW s x=some a):∃v,aD ρ a=some v∧bo P E ⟨d,.move x,ty,ps,af,gd⟩ w v w:=⟨_,aV hf hx,dR rfl⟩
theorem wF (hf:FR ρ s E) {x:Operand} {a:AV} (hx:cW s x=some a):∃v,aD ρ a=some v∧bo P E ⟨d,.assign x,ty,ps,af,gd⟩ w v w:=⟨_,aV hf hx,iv rfl⟩
def rj:AV→Option AV
 | .ptr b o=>some (.ptr b o)
 | _=>none
theorem sq (hf:FR ρ s E) {x:Operand} {a c:AV} (hx:cW s x=some a) (hl:rj a=some c):∃v,aD ρ c=some v∧bo P E ⟨d,.nilCheck x,ty,ps,af,gd⟩ w v w:=by
 have h1:=aV hf hx;unfold rj at hl;split at hl
 ·obtain ⟨p,hp,hv⟩:=eW h1;cases hl
  exact ⟨_,gV hp,aJ hv⟩
 ·cases hl
def kq (P:Program) (T:TypeId):AV→AV→Option AV
 | .str a,.int _ q=>match P.underlying T,kM a q with
  | some .string,some c=>some (.int .u8 c)
  | _,_=>none
 | _,_=>none
theorem rU (e:FR ρ s E) {T:TypeId} {x y:Operand} {a i c:AV} (hx:cW s x=some a) (hy:cW s y=some i) (b:kq P T a i=some c):∃v,aD ρ c=some v∧bo P E ⟨d,.index T x y,ty,ps,af,gd⟩ w v w:=by
 have g:=aV e hx;have f:=aV e hy;unfold kq at b;split at b
 ·simp only [aD,Option.some.injEq] at g f;split at b
  ·rename_i hT hc;cases b
   exact ⟨_,rfl,da hT g.symm f.symm hc⟩
  ·cases b
 ·cases b
theorem lQ:∀ {l:List AV} {vs:List Value} (n:Nat),concL ρ l=some vs→concL ρ (l.drop n)=some (vs.drop n)
 | l,vs,0,hc=>hc
 | [],vs,n+1,hc=>by cases hc; rfl
 | a::r,vs,n+1,hc=>by
  simp only [concL] at hc;cases c:aD ρ a with
  | none=>rw [c] at hc; cases hc
  | some v=>
   cases b:concL ρ r with
   | none=>rw [c,b] at hc; cases hc
   | some us=>rw [c,b] at hc; cases hc; exact lQ n b
theorem lP:∀ {l:List AV} {vs:List Value} (n:Nat),concL ρ l=some vs→concL ρ (l.take n)=some (vs.take n)
 | l,vs,0,hc=>by simp [concL]
 | [],vs,n+1,hc=>by cases hc; rfl
 | a::r,vs,n+1,hc=>by
  simp only [concL] at hc;cases b:aD ρ a with
  | none=>rw [b] at hc; cases hc
  | some v=>
   cases c:concL ρ r with
   | none=>rw [b,c] at hc; cases hc
   | some us=>
    rw [b,c] at hc;cases hc
    simp only [List.take_succ_cons,concL,b,lP n c]
def sP (P:Program) (T:TypeId) (f:Nat):AV→Option AV
 | .agg l=>match P.underlying T with
  | some (.struct fs)=>match fs[f]? with
   | some fd=>match js P fd.type with
    | some (agg,size,_,_)=>if fd.offset+size≤l.length then (if agg then some (.agg ((l.drop fd.offset).take size)) else if size=1 then l[fd.offset]? else none) else none
    | none=>none
   | none=>none
  | _=>none
 | _=>none
theorem ry (p:FR ρ s E) {T:TypeId} {x:Operand} {f:Nat} {a c:AV} (hx:cW s x=some a) (b:sP P T f a=some c):∃v,aD ρ c=some v∧bo P E ⟨d,.field T x f,ty,ps,af,gd⟩ w v w:=by
 have g:=aV p hx;unfold sP at b;split at b
 ·rename_i l;simp only [aD] at g;cases h:concL ρ l with
  | none=>rw [h] at g; cases g
  | some vs=>
   rw [h] at g;simp only [Option.some.injEq] at g;have r:=bI h;split at b
   ·rename_i fs hT;split at b
    ·rename_i fd hfd;split at b
     ·rename_i agg size bytes z ht;split at b
      ·rename_i hle;have j:vs=vs.take fd.offset++((vs.drop fd.offset).take size++vs.drop (fd.offset+size)):=by
        rw [←List.drop_drop,List.take_append_drop,List.take_append_drop]
       have k:(vs.take fd.offset).length=fd.offset:=by rw [JG]; omega
       have m:((vs.drop fd.offset).take size).length=size:=by rw [JG,JQ]; omega
       cases agg with
       | true=>
        simp only [if_true] at b;cases b
        refine ⟨_,?_,xe hT (cR ht) hfd rfl g.symm _ _ j k m rfl (.inl rfl)⟩;simp only [aD,lP size (lQ fd.offset h)];rfl
       | false=>
        simp only [Bool.false_eq_true,if_false] at b;split at b
        ·rename_i n;subst n;obtain ⟨v,i,q⟩:=di h b;have e:(vs.drop fd.offset).take 1=[v]:=by
          have o:=(Jo.1 i).1;rw [List.drop_eq_getElem_cons o];have:=(Jo.1 i).2;rw [this]; rfl
         refine ⟨v,q,xe hT (cR ht) hfd rfl g.symm _ _ j k m ?_ (.inr rfl)⟩;rw [e]; rfl
        ·cases b
      ·cases b
     ·cases b
    ·cases b
   ·cases b
 ·cases b
def zk (s:Nat→AV):List Operand→Option (List AV)
 | []=>some []
 | x::r=>match cW s x,zk s r with
  | some a,some l=>some (a::l)
  | _,_=>none
theorem sR (e:FR ρ s E):∀ {l:List Operand} {c:List AV},zk s l=some c→concL ρ c=some (l.map (ev E))
 | [],c,hl=>by cases hl; rfl
 | x::r,c,hl=>by
  simp only [zk] at hl;cases b:cW s x with
  | none=>rw [b] at hl; cases hl
  | some a=>
   cases d:zk s r with
   | none=>rw [b,d] at hl; cases hl
   | some l=>
    rw [b,d] at hl;cases hl
    simp only [concL,aV e b,sR e d,List.map_cons]
end
def nj (s:Nat→AV):Option Operand→Option (Option AV)
 | none=>some none
 | some x=>(cW s x).map some
def jV (P:Program) (T:TypeId):Option TypeId:=match P.underlying T with
 | some (.slice el)=>some el
 | _=>none
def intOf:AV→Option Int
 | .int _ z=>some z
 | _=>none
def Fp:Option AV→Option Int
 | none=>some 0
 | some a=>intOf a
def Fq (n:Nat):Option AV→Option Int
 | none=>some n
 | some a=>intOf a
def fi (P:Program) (h:List AB) (T:TypeId) (x:AV) (a c:Option AV):Option AV:=match x with
 | .str s=>match P.underlying T,Fp a,Fq s.length c with
  | some .string,some i,some j=>(qt s i j).map .str
  | _,_,_=>none
 | .sl0=>match jV P T with
  | none=>none
  | some el=>match js P el,Fp a,Fq 0 c with
   | some _,some i,some j=>if i=0∧j=0 then some .sl0 else none
   | _,_,_=>none
 | .sl b o l e=>match jV P T with
  | none=>none
  | some el=>match js P el,h[b]?,Fp a,Fq l c with
   | some (_,size,_,_),some (.cells cs _ _ _),some i,some j=>if Nat.beq e size && (Nat.blt 0 size && Nat.ble (o+l*size) cs.length) then (if 0≤i∧i≤j∧j≤l then (if i=0 then some (.sl b o j.toNat e) else if i<l then some (.sl b (o+i.toNat*e) (j - i).toNat e) else some (.slz b o l e)) else none) else none
   | _,_,_,_=>none
 | .ptr b o=>match a,c,P.underlying T with
  | none,none,some (.array n el)=>match js P el with
   | some (_,size,_,_)=>if Nat.beq o 0 && (Nat.blt b gN && (Nat.blt 0 size && Nat.beq (n*size) (CM b))) then some (.sl b 0 n size) else none
   | none=>none
  | _,_,_=>none
 | _=>none
def tF (h:List AB) (e:Nat) (n:Option Nat):AV→Option (Nat×List AV)
 | .sl0=>some (0,[])
 | .slz _ _ _ _=>some (0,[])
 | .str s=>let m:=match n with
  | some k=>min k s.length
  | none=>s.length
  some (m,(s.take m).map fun c=>.int .u8 c.toNat)
 | .sl b o l e'=>if e'=e then (match h[b]? with
  | some (.cells cs _ _ _)=>let m:=match n with
   | some k=>min k l
   | none=>l
   if o+m*e≤cs.length then some (m,(cs.drop o).take (m*e)) else none
  | _=>none) else none
 | _=>none
def Et:AV→Bool
 | .str _=>true
 | _=>false
def mW (P:Program) (h:List AB) (T:TypeId) (x y:AV):Option (AV×List AB):=match jV P T with
 | none=>none
 | some el=>match js P el with
  | none=>none
  | some (_,size,bytes,z)=>match tF h size none y with
   | none=>none
   | some (m,ys)=>if !(Et y) && (ys.all jc && (Nat.beq z.cells.size size && (Nat.blt 0 size && Nat.ble bytes 10000))) then (match x with
    | .sl0=>if Nat.beq m 0 then some (.sl0,h) else if Nat.ble m 1000000 then some (.sl h.length 0 m size,h++[.cells ys el size true]) else none
    | .sl b o n e=>if Nat.beq (n+m) 0 then some (.sl b o n e,h) else if Nat.beq o 0 && (Nat.beq e size && Nat.ble (n+m) 1000000) then (match h[b]? with
     | some (.cells l T' e' true)=>if Nat.beq e' size && (Nat.beq T' el && Nat.ble (n*size) l.length) then some (.sl h.length 0 (n+m) size,h.set b .dead++[.cells (l.take (n*size)++ys) el size true]) else none
     | _=>none) else none
    | _=>none) else none
def rm:AV→Option Nat
 | .sl0=>some 0
 | .slz _ _ _ _=>some 0
 | .sl _ _ l _=>some l
 | _=>none
def nw (h:List AB) (e m:Nat):AV→Option (List AV)
 | .sl b o l e'=>match h[b]? with
  | some (.cells cs _ _ _)=>if Nat.beq e' e && Nat.ble (o+m*e) cs.length then some ((cs.drop o).take (m*e)) else none
  | _=>none
 | _=>none
def uS (P:Program) (h:List AB) (T:TypeId) (x y:AV):Option (AV×List AB):=match jV P T,rm x,rm y with
 | some el,some n,some k=>match js P el with
  | none=>none
  | some (_,size,_,_)=>let m:=min k n
   if Nat.beq m 0 then some (.int .i64 0,h) else match nw h size m y,x with
    | some ys,.sl b o _ e=>match h[b]? with
     | some (.cells l T' e' true)=>if Nat.beq e size && (ys.all jc && Nat.ble (o+ys.length) l.length) then some (.int .i64 (m:Nat),h.set b (.cells (l.take o++ys++l.drop (o+ys.length)) T' e' true)) else none
     | _=>none
    | _,_=>none
 | _,_,_=>none
def jt {α:Type} (l:List α):Nat→List α
 | 0=>[]
 | n+1=>l++jt l n
def ly (P:Program) (h:List AB) (T:TypeId):AV→AV→Option (AV×List AB)
 | .int _ n,.int _ c=>match jV P T with
  | none=>none
  | some el=>match js P el with
   | none=>none
   | some (_,size,bytes,z)=>match absL z.cells.toList with
    | none=>none
    | some zs=>if Nat.beq z.cells.size size && (Nat.blt 0 size && (Nat.ble bytes 10000 && (Nat.ble c.toNat 1000000 && decide (0≤n∧n≤c)))) then some (.sl h.length 0 n.toNat size,h++[.cells (jt zs c.toNat) el size true]) else none
 | _,_=>none
def mN (place:Nat→Option (Nat×Nat)):List AV→List (Nat×AV)→Option (List AV)
 | cs,[]=>some cs
 | cs,(i,v)::r=>match place i with
  | none=>none
  | some (off,size)=>if Nat.beq (cy v).length size && ((cy v).all jc && Nat.ble (off+size) cs.length) then mN place (cs.take off++(cy v++cs.drop (off+size))) r else none
def AH (s:Nat→AV):List (Nat×Operand)→Option (List (Nat×AV))
 | []=>some []
 | (i,x)::r=>match cW s x,AH s r with
  | some a,some l=>some ((i,a)::l)
  | _,_=>none
def wD (P:Program) (T:TypeId) (ps:List (Nat×AV)):Option AV:=match P.info? T,P.underlying T with
 | some it,some (.array _ e)=>match it.zero,P.info? e with
  | some z,some ie=>match absL z.cells.toList with
   | some zs=>(mN (fun i=>some (i*ie.size,ie.size)) zs ps).map .agg
   | none=>none
  | _,_=>none
 | some it,some (.struct fields)=>match it.zero,fields.toList.mapM (fun f=>(P.info? f.type).map fun i=>(f.offset,i.size)) with
  | some z,some places=>match absL z.cells.toList with
   | some zs=>(mN (fun i=>places[i]?) zs ps).map .agg
   | none=>none
  | _,_=>none
 | _,_=>none
def kc (P:Program) (h:List AB) (T:TypeId) (len:Nat) (ps:List (Nat×AV)):Option (AV×List AB):=match jV P T with
 | none=>none
 | some el=>match js P el with
  | none=>none
  | some (_,size,_,z)=>match absL z.cells.toList with
   | none=>none
   | some zs=>if Nat.beq z.cells.size size && (Nat.blt 0 size && (Nat.ble len 1000000 && Nat.ble (len*size) 16777216)) then (match mN (fun i=>some (i*size,size)) (jt zs len) ps with
    | none=>none
    | some cs=>some (.sl h.length 0 len size,h++[.cells cs el size true])) else none
def jS (k:IntKind):List AV→Option (List Int)
 | []=>some []
 | .int k' z::r=>if k'=k then (jS k r).map fun l=>z::l else none
 | _=>none
def ia (P:Program) (T:TypeId):AV→AV→Option Bool
 | .int k a,.int k' b=>match P.underlying T with
  | some (.int kk)=>if kk=k∧k=k' then some (a == b) else none
  | _=>none
 | .str a,.str b=>match P.underlying T with
  | some .string=>some (a == b)
  | _=>none
 | .bool a,.bool b=>match P.underlying T with
  | some .bool=>some (a == b)
  | _=>none
 | _,_=>none
def CY (P:Program) (l m:List AV):List Field→Option Bool
 | []=>some true
 | f::fs=>if f.name = "_" then none else match js P f.type,l[f.offset]?,m[f.offset]? with
  | some (false,1,_,_),some a,some b=>match ia P f.type a b,CY P l m fs with
   | some x,some y=>some (x && y)
   | _,_=>none
  | _,_,_=>none
def oa (P:Program) (T:TypeId) (l m:List AV):Option Bool:=match P.underlying T with
 | some (.struct fs)=>if P.stoodInHeld T then none else CY P l m fs.toList
 | some (.array n el)=>match P.underlying el,js P el with
  | some (.int k),some (false,1,_,_)=>match jS k l,jS k m with
   | some x,some y=>if x.length=n∧y.length=n then some (x == y) else none
   | _,_=>none
  | _,_=>none
 | _=>none
def CX (P:Program) (T:TypeId):AV→AV→Option Bool
 | .agg l,.agg m=>oa P T l m
 | a,b=>ia P T a b
def xH:TypeDesc→Bool
 | .pointer _=>true
 | _=>false
def CH:TypeDesc→Bool
 | .slice _=>true
 | _=>false
def Au:TypeDesc→Bool
 | .map _ _=>true
 | _=>false
def Fa:TypeDesc→Bool
 | .func _ _ _=>true
 | _=>false
def Aw:TypeDesc→Bool
 | .bool=>true
 | _=>false
def sL (P:Program) (T:TypeId) (f:TypeDesc→Bool):Bool:=match P.underlying T with
 | some d=>f d
 | none=>false
def ri (P:Program) (T:TypeId):AV→AV→Option Bool
 | .ptr0,.ptr0=>if sL P T xH then some true else none
 | .ptr _ _,.ptr0=>if sL P T xH then some false else none
 | .ptr0,.ptr _ _=>if sL P T xH then some false else none
 | .sl0,.sl0=>if sL P T CH then some true else none
 | .sl _ _ _ _,.sl0=>if sL P T CH then some false else none
 | .slz _ _ _ _,.sl0=>if sL P T CH then some false else none
 | .mp0,.mp0=>if sL P T Au then some true else none
 | .mp _,.mp0=>if sL P T Au then some false else none
 | .fn0,.fn0=>if sL P T Fa then some true else none
 | .fn _ _ _,.fn0=>if sL P T Fa then some false else none
 | .bool a,.bool b=>if sL P T Aw then some (a == b) else none
 | _,_=>none
def Fg (P:Program) (op:BinOp) (T:TypeId) (a b:AV):Option AV:=match op with
 | .eql=>(ri P T a b).map .bool
 | .neq=>(ri P T a b).map fun x=>.bool (!x)
 | _=>none
def By (op:BinOp) (k k':IntKind) (a b:Int):Option AV:=match op with
 | .quo=>if k=k' then (if b=0 then none else some (.int k (k.wrap (a.tdiv b)))) else none
 | .shl=>(ym k a b).map (.int k)
 | .shr=>(vt k a b).map (.int k)
 | _=>none
def BE (P:Program) (op:BinOp) (T:TypeId) (l m:List AV):Option AV:=if P.eqGuardType P.depth T then none else match op with
 | .eql=>(oa P T l m).map .bool
 | .neq=>(oa P T l m).map fun x=>.bool (!x)
 | _=>none
def qJ (P:Program) (op:BinOp) (T:TypeId) (a b:AV):Option AV:=match a,b with
 | .int k x,.int k' y=>match yY op a b with
  | some v=>some v
  | none=>By op k k' x y
 | .str x,.str y=>Bw op x y
 | .agg l,.agg m=>BE P op T l m
 | _,_=>Fg P op T a b
def Az (P:Program) (op:BinOp) (T:TypeId) (a:AV):Option AV:=if sL P T CJ then (match op,a with
 | .eql,.if0=>some (.bool true)
 | .neq,.if0=>some (.bool false)
 | .eql,.iface _ _=>some (.bool false)
 | .neq,.iface _ _=>some (.bool true)
 | _,_=>none) else none
def Hq (op:UnOp) (a:AV):Option AV:=match op,a with
 | .not,.bool b=>some (.bool (!b))
 | .neg,.int k z=>some (.int k (k.wrap (-z)))
 | .xor,.int k z=>some (.int k (qd k z))
 | _,_=>none
def mH (P:Program) (T:TypeId):AV→Bool
 | .int k _=>match P.underlying T with
  | some (.int k')=>decide (k'=k)
  | _=>false
 | .str _=>match P.underlying T with
  | some .string=>true
  | _=>false
 | .agg l=>match P.underlying T with
  | some (.array n el)=>match P.underlying el,js P el with
   | some (.int k),some (false,1,_,_)=>match jS k l with
    | some x=>Nat.beq x.length n
    | none=>false
   | _,_=>false
  | _=>false
 | _=>false
def kX (P:Program) (T:TypeId) (k:AV):List (AV×AV×Nat)→Nat→Option (Option (Nat×AV×Nat))
 | [],_=>some none
 | (k',v,n)::r,i=>match CX P T k k' with
  | some true=>some (some (i,v,n))
  | some false=>kX P T k r (i+1)
  | none=>none
def iD (P:Program) (T:TypeId):Option (TypeId×TypeId):=match P.underlying T with
 | some (.map k e)=>some (k,e)
 | _=>none
def Fv (z:Value):Option AV:=fa z
def kA (P:Program) (h:List AB) (T:TypeId) (m k:AV) (ok:Bool):Option AV:=match iD P T with
 | none=>none
 | some (kt,el)=>match js P el with
  | none=>none
  | some (_,_,_,z)=>match Fv z with
   | none=>none
   | some zv=>match m with
    | .mp b=>match h[b]? with
     | some (.map es clock)=>if mH P kt k then (match kX P kt k es 0 with
      | none=>none
      | some none=>some (if ok then .tup [zv,.bool false] else zv)
      | some (some (_,v,_))=>some (if ok then .tup [v,.bool true] else v)) else none
     | _=>none
    | .mp0=>if mH P kt k then some (if ok then .tup [zv,.bool false] else zv) else none
    | _=>none
def gS (P:Program) (h:List AB) (T:TypeId) (m k v:AV):Option (List AB):=match iD P T,m with
 | some (kt,_),.mp b=>match h[b]? with
  | some (.map es clock)=>if mH P kt k then (match kX P kt k es 0 with
   | none=>none
   | some none=>some (h.set b (.map (es++[(k,v,clock)]) (clock+1)))
   | some (some (i,_,n))=>some (h.set b (.map (es.set i (k,v,n)) clock))) else none
  | _=>none
 | _,_=>none
def rC (P:Program) (h:List AB) (S T:TypeId) (a:AV):Option (AV×List AB):=match a with
 | .int k q=>match P.underlying S,P.underlying T with
  | some _,some (.int k)=>some (.int k (k.wrap q),h)
  | some _,some .string=>some (.str (wZ q),h)
  | _,_=>none
 | .str s=>match P.underlying S,P.underlying T with
  | some .string,some (.slice el)=>match P.underlying el with
   | some (.int .u8)=>some (.sl h.length 0 s.length 1,h++[.cells (s.map fun c=>.int .u8 c.toNat) el 1 false])
   | _=>none
  | _,_=>none
 | _=>none
def sM (P:Program) (T:TypeId) (a i:AV):Option AV:=match a,i with
 | .str _,_=>kq P T a i
 | .agg l,.int _ q=>match P.underlying T with
  | some (.array n el)=>match js P el with
   | some (false,1,_,_)=>if 0≤q∧q<n then l[q.toNat]? else none
   | _=>none
  | _=>none
 | _,_=>none
def ji (P:Program) (T:TypeId) (a i:AV):Option AV:=match a,i with
 | .sl _ _ _ _,_=>jk P T a i
 | .ptr b o,.int _ q=>match P.underlying T with
  | some (.array n el)=>match js P el with
   | some (_,size,_,_)=>if 0≤q∧q<n then some (.ptr b (o+q.toNat*size)) else none
   | none=>none
  | _=>none
 | _,_=>none
def uw (P:Program) (h:List AB) (T:TypeId) (a:AV):Option AV:=match a with
 | .mp b=>match h[b]?,iD P T with
  | some (.map es _),some _=>some (.int .i64 es.length)
  | _,_=>none
 | _=>An P T a
def ul (op:Int→Int→Int):List AV→Option AV
 | [.int k a,.int _ b]=>some (.int k (op a b))
 | _=>none
def kb (P:Program) (h:List AB) (b:Builtin) (ts:List TypeId) (xs:List AV):Option (AV×List AB):=match b,ts,xs with
 | .len,[T],[a]=>(uw P h T a).map fun v=>(v,h)
 | .append,T::_,[x,y]=>mW P h T x y
 | .copy,T::_,[x,y]=>uS P h T x y
 | .min,_,xs=>(ul Ab xs).map fun v=>(v,h)
 | .max,_,xs=>(ul Ac xs).map fun v=>(v,h)
 | .delete,T::_,[m,k]=>match m with
  | .mp b=>match h[b]?,iD P T with
   | some (.map es clock),some (kt,_)=>if mH P kt k then (match kX P kt k es 0 with
    | none=>none
    | some none=>some (.tup [],h)
    | some (some (i,_,_))=>some (.tup [],h.set b (.map (es.eraseIdx i) clock))) else none
   | _,_=>none
  | _=>none
 | _,_,_=>none
inductive CT where
  | fn (f:FuncId)
  | yl (b:Nat)
def gh (P:Program) (h:List AB) (T:TypeId) (m k:AV):Option (AV×List AB):=match iD P T,m with
 | some (kt,el),.mp b=>match h[b]?,js P el with
  | some (.map es clock),some (_,_,_,z)=>if mH P kt k then (match kX P kt k es 0,Fv z with
   | some none,some zv=>some (.tup [zv,.int .i64 clock],h.set b (.map (es++[(k,zv,clock)]) (clock+1)))
   | some (some (i,v,n)),_=>some (.tup [v,.int .i64 n],h.set b (.map (es.set i (k,v,n)) clock))
   | _,_=>none) else none
  | _,_=>none
 | _,_=>none
def lj (v:AV) (n:Int):List (AV×AV×Nat)→Option (List (AV×AV×Nat))
 | []=>none
 | (k,u,m)::r=>if (m:Int)=n then some ((k,v,m)::r) else (lj v n r).map fun r=>(k,u,m)::r
def eL (h:List AB) (m st v:AV):Option (List AB):=match m,st with
 | .mp b,.int _ n=>match h[b]? with
  | some (.map es clock)=>(lj v n es).map fun es=>h.set b (.map es clock)
  | _=>none
 | _,_=>none
def pk (P:Program) (h:List AB) (T:TypeId):AV→Option (AV×List AB)
 | .str s=>match P.underlying T with
  | some .string=>some (.ptr h.length 0,h++[.siter s 0])
  | _=>none
 | .mp m=>match iD P T,h[m]? with
  | some _,some (.map _ clock)=>some (.ptr h.length 0,h++[.miter m clock [] clock])
  | _,_=>none
 | _=>none
def xq (h:List AB):AV→Option (AV×List AB)
 | .ptr b 0=>match h[b]? with
  | some (.miter m since seen stepped)=>match h[m]? with
   | some (.map [] _)=>some (.tup [.bool false],h)
   | some (.map [(k,v,n)] clock)=>if Nat.blt n since && Nat.ble since stepped then (if seen.contains n then some (.tup [.bool false],h) else some (.tup [.bool true,k,v],h.set b (.miter m since (seen++[n]) clock))) else none
   | _=>none
  | _=>none
 | _=>none
def xp (h:List AB):AV→Option (AV×List AB)
 | .ptr b 0=>match h[b]? with
  | some (.siter s pos)=>match s[pos]? with
   | none=>some (.tup [.bool false],h)
   | some c=>if Nat.blt c.toNat 128 then some (.tup [.bool true,.int .i64 pos,.int .i32 c.toNat],h.set b (.siter s (pos+1))) else none
  | _=>none
 | _=>none
def sS (h:List AB):AV→Option AV
 | .ptr b 0=>match h[b]? with
  | some (.miter m since seen stepped)=>match h[m]? with
   | some (.map [(k,v,n)] clock)=>if Nat.beq clock stepped && seen.getLast? == some n then some (.tup [k,v]) else none
   | _=>none
  | _=>none
 | _=>none
def Ex:List AV→AV
 | [v]=>v
 | l=>.tup l
inductive TR (α:Type) where
  | nil
  | node (x:α) (l r:TR α)
noncomputable def TR.at {α:Type} (d:α) (t:TR α):Nat→α:=
 TR.rec (fun _=>d) (fun x _ _ ihl ihr n=>Nat.casesOn n x (fun m=>Nat.casesOn (Nat.land m 1) (ihl (Nat.shiftRight m 1)) (fun _=>ihr (Nat.shiftRight m 1)))) t
noncomputable def TR.new {α:Type} (d:α) (k:Nat):Nat→α→TR α:=
 Nat.rec (fun _ _=>.nil) (fun _ ih n v=>Nat.casesOn n (.node v .nil .nil) fun m=>Nat.casesOn (Nat.land m 1) (.node d (ih (Nat.shiftRight m 1) v) .nil) fun _=>.node d .nil (ih (Nat.shiftRight m 1) v)) k
noncomputable def TR.set {α:Type} (d:α) (t:TR α):Nat→α→TR α:=
 TR.rec (fun n v=>TR.new d (Nat.succ n) n v) (fun x l r ihl ihr n v=>Nat.casesOn n (.node v l r) fun m=>Nat.casesOn (Nat.land m 1) (.node x (ihl (Nat.shiftRight m 1) v) r) fun _=>.node x l (ihr (Nat.shiftRight m 1) v)) t
abbrev FrT:=TR AV
inductive XB where
  | cells (t:TR AV) (n:Nat) (T:TypeId) (e:Nat) (own:Bool)
  | other (x:AB)
  | loop (fn:FuncId) (ps:List Tmp) (asg body:Code) (s:FrT)
def XB.dead:XB:=.other .dead
abbrev HpT:=TR XB
noncomputable def HpT.get (h:HpT) (b:Nat):XB:=TR.at .dead h b
noncomputable def HpT.put (h:HpT) (b:Nat) (x:XB):HpT:=TR.set .dead h b x
noncomputable def qX (t:TR AV) (k:Nat):Nat→List AV:=Nat.rec (fun _=>[]) (fun _ ih o=>t.at bV o::ih (Nat.succ o)) k
noncomputable def jr (vs:List AV):Nat→TR AV→TR AV:=List.rec (fun _ t=>t) (fun v _ ih o t=>ih (Nat.succ o) (t.set bV o v)) vs
noncomputable def cG {α:Type} (l:List α):Nat:=List.rec 0 (fun _ _ ih=>Nat.succ ih) l
noncomputable def me {α:Type} (l:List α):Nat→Option α:=List.rec (fun _=>none) (fun x _ ih n=>Nat.casesOn n (some x) ih) l
noncomputable def xM {α:Type} (l:List α):Nat→List α:=List.rec (fun _=>[]) (fun x r ih n=>Nat.casesOn n (x::r) ih) l
noncomputable def wP {α:Type} (l:List α):Nat→List α:=List.rec (fun _=>[]) (fun x _ ih n=>Nat.casesOn n [] fun m=>x::ih m) l
noncomputable def mC (l:List AV):Bool:=List.rec true (fun x _ ih=>jc x && ih) l
inductive OR where
  | bad
  | val (v:AV)
  | mem (v:AV) (t:HpT) (n:Nat)
def rf:Option AV→OR
 | some v=>.val v
 | none=>.bad
abbrev CallY:=CT→List AV→HpT→Nat→OR
def uu:IntKind→Nat
 | .i8=>128
 | .i16=>32768
 | .i32=>2147483648
 | .i64=>9223372036854775808
 | .u8=>256
 | .u16=>65536
 | .u32=>4294967296
 | .u64=>18446744073709551616
def nM (k:IntKind) (z:Int):Int:=match z with
 | .ofNat n=>bif Nat.blt n (uu k) then .ofNat n else k.wrap (.ofNat n)
 | .negSucc n=>bif k.signed && Nat.blt n (uu k) then .negSucc n else k.wrap (.negSucc n)
def AJ:Int→Int→Bool
 | .ofNat a,.ofNat b=>Nat.beq a b
 | .negSucc a,.negSucc b=>Nat.beq a b
 | _,_=>false
def leI:Int→Int→Bool
 | .ofNat a,.ofNat b=>Nat.ble a b
 | .negSucc a,.negSucc b=>Nat.ble b a
 | .negSucc _,.ofNat _=>true
 | .ofNat _,.negSucc _=>false
def DS:IntKind→IntKind→Bool
 | .i64,.i64=>true
 | a,b=>decide (a=b)
inductive CW (α:Type) where
  | mk (f:α)
inductive DE where
  | fn (f:FuncId) (cap:List AV)
  | mark (b:Nat)
abbrev DSs:=List DE
abbrev KZ:=FrT→HpT→Nat→DSs→OR
abbrev ot:=CallY→FrT→HpT→Nat→DSs→KZ→OR
abbrev fQ:=CallY→FrT→HpT→Nat→DSs→KZ→(Nat→KZ)→KZ→OR
noncomputable def zC (s:FrT):AV:=TR.casesOn s bV (fun x _ _=>x)
noncomputable def rn (s:FrT):FrT:=TR.casesOn s .nil (fun _ l _=>l)
noncomputable def nc (s:FrT):FrT:=TR.casesOn s .nil (fun _ _ r=>r)
noncomputable def vu (k:Nat):Nat→CW (FrT→AV):=
 Nat.rec (fun _=>.mk fun _=>bV) (fun _ ih n=>Nat.casesOn n (.mk zC) fun m=>Nat.casesOn (Nat.land m 1) (CW.casesOn (ih (Nat.shiftRight m 1)) fun f=>.mk fun s=>f (rn s)) fun _=>CW.casesOn (ih (Nat.shiftRight m 1)) fun f=>.mk fun s=>f (nc s)) k
noncomputable def tK (s:FrT) (v:AV):FrT:=TR.casesOn s (.node v .nil .nil) (fun _ l r=>.node v l r)
noncomputable def mh (f:FrT→AV→FrT) (s:FrT) (v:AV):FrT:=TR.casesOn s (.node bV (f .nil v) .nil) (fun x l r=>.node x (f l v) r)
noncomputable def kx (f:FrT→AV→FrT) (s:FrT) (v:AV):FrT:=TR.casesOn s (.node bV .nil (f .nil v)) (fun x l r=>.node x l (f r v))
noncomputable def tW (k:Nat):Nat→CW (FrT→AV→FrT):=
 Nat.rec (fun _=>.mk fun s _=>s) (fun _ ih n=>Nat.casesOn n (.mk tK) fun m=>Nat.casesOn (Nat.land m 1) (CW.casesOn (ih (Nat.shiftRight m 1)) fun f=>.mk (mh f)) fun _=>CW.casesOn (ih (Nat.shiftRight m 1)) fun f=>.mk (kx f)) k
noncomputable def gO (t:Nat):CW (FrT→AV):=vu (Nat.succ t) t
noncomputable def mR (m:Nat) (d:Option Tmp):Option (CW (FrT→AV→FrT)):=Option.casesOn d (some (.mk fun s _=>s)) fun d=>bif Nat.blt d m then some (tW (Nat.succ d) d) else none
noncomputable def bc (x:Operand):Option (CW (FrT→AV)):=Operand.casesOn x (fun t=>some (gO t)) (fun v=>Option.casesOn (fa v) none fun a=>some (.mk fun _=>a)) (fun g=>bif Nat.blt g gN then some (.mk fun _=>.ptr g 0) else none) (fun f=>some (.mk fun _=>.fn f [] []))
noncomputable def dk (l:List Operand):Option (CW (FrT→List AV)):=List.rec (some (.mk fun _=>[])) (fun x _ ih=>Option.casesOn (bc x) none fun f=>Option.casesOn ih none fun g=>CW.casesOn f fun f=>CW.casesOn g fun g=>some (.mk fun s=>f s::g s)) l
noncomputable def eT (l:List (Nat×Operand)):Option (CW (FrT→List (Nat×AV))):=List.rec (some (.mk fun _=>[])) (fun x _ ih=>Option.casesOn (bc x.2) none fun f=>Option.casesOn ih none fun g=>CW.casesOn f fun f=>CW.casesOn g fun g=>some (.mk fun s=>(x.1,f s)::g s)) l
noncomputable def CA (h:HpT) (a:AV):OR:=match a with
 | .ptr b o=>match h.get b with
  | .cells t n _ _ _=>bif Nat.blt o n then .val (t.at bV o) else .bad
  | _=>.bad
 | _=>.bad
noncomputable def Cz (size:Nat) (h:HpT) (a:AV):OR:=match a with
 | .ptr b o=>match h.get b with
  | .cells t n _ _ _=>bif Nat.ble (o+size) n then .val (.agg (qX t size o)) else .bad
  | _=>.bad
 | _=>.bad
noncomputable def Eu (size:Nat) (h:HpT) (n:Nat) (a v:AV):OR:=match a with
 | .ptr b o=>match h.get b with
  | .cells t m T' e true=>match cy v with
   | l=>bif Nat.beq (cG l) size && (mC l && Nat.ble (o+size) m) then .mem bV (h.put b (.cells (jr l o t) m T' e true)) n else .bad
  | _=>.bad
 | _=>.bad
def Gh (off:Nat) (a:AV):OR:=match a with
 | .ptr b o=>.val (.ptr b (o+off))
 | _=>.bad
noncomputable def DU (off:Nat) (a:AV):OR:=match a with
 | .agg l=>rf (me l off)
 | _=>.bad
noncomputable def DT (off size:Nat) (a:AV):OR:=match a with
 | .agg l=>bif Nat.ble (off+size) (cG l) then .val (.agg (wP (xM l off) size)) else .bad
 | _=>.bad
noncomputable def FZ (size:Nat) (a i:AV):OR:=match a,i with
 | .sl b o l e,.int _ (.ofNat q)=>bif Nat.blt q l then .val (.ptr b (o+q*size)) else .bad
 | _,_=>.bad
noncomputable def yB (T:TypeId) (h:HpT) (n:Nat) (l:List AV):OR:=.mem (.ptr n 0) (h.put n (.cells (jr l 0 .nil) (cG l) T (cG l) true)) (Nat.succ n)
noncomputable def Ew (h:HpT) (e:Nat):AV→Option (Nat×List AV)
 | .sl0=>some (0,[])
 | .slz _ _ _ _=>some (0,[])
 | .sl b o l e'=>match h.get b with
  | .cells t n _ _ _=>bif Nat.beq e' e && Nat.ble (o+l*e) n then some (l,qX t (l*e) o) else none
  | _=>none
 | _=>none
noncomputable def Fk (el size:Nat) (h:HpT) (a:Nat) (x y:AV):OR:=match Ew h size y with
 | none=>.bad
 | some (m,ys)=>bif mC ys then (match x with
  | .sl0=>bif Nat.beq m 0 then .mem .sl0 h a else bif Nat.ble m 1000000 then .mem (.sl a 0 m size) (h.put a (.cells (jr ys 0 .nil) (cG ys) el size true)) (Nat.succ a) else .bad
  | .sl b o n e=>bif Nat.beq (n+m) 0 then .mem (.sl b o n e) h a else bif Nat.beq o 0 && (Nat.beq e size && Nat.ble (n+m) 1000000) then (match h.get b with
   | .cells t k T' e' true=>bif Nat.beq e' size && (Nat.beq T' el && Nat.ble (n*size) k) then .mem (.sl a 0 (n+m) size) ((h.put b .dead).put a (.cells (jr ys (n*size) t) (n*size+cG ys) el size true)) (Nat.succ a) else .bad
   | _=>.bad) else .bad
  | _=>.bad) else .bad
noncomputable def wU (a i:AV):OR:=match a,i with
 | .str s,.int _ (.ofNat q)=>match me s q with
  | some c=>.val (.int .u8 (.ofNat c.toNat))
  | none=>.bad
 | _,_=>.bad
def DP (a:AV):OR:=match a with
 | .sl _ _ l _=>.val (.int .i64 (.ofNat l))
 | .sl0=>.val (.int .i64 (.ofNat 0))
 | .slz _ _ _ _=>.val (.int .i64 (.ofNat 0))
 | _=>.bad
noncomputable def DO (a:AV):OR:=match a with
 | .str s=>.val (.int .i64 (.ofNat (cG s)))
 | _=>.bad
def Hm (a b:AV):OR:=match a,b with
 | .int k x,.int k' y=>bif DS k k' then .val (.int k (nM k (x+y))) else .bad
 | .str x,.str y=>rf (Bw .add x y)
 | _,_=>.bad
def FA (a b:AV):OR:=match a,b with
 | .int k x,.int k' y=>bif DS k k' then .val (.int k (nM k (x - y))) else .bad
 | _,_=>.bad
def uV (P:Program) (op:BinOp) (T:TypeId) (f:Int→Int→Bool) (a b:AV):OR:=match a,b with
 | .int k x,.int k' y=>bif DS k k' then .val (.bool (f x y)) else .bad
 | a,b=>rf (qJ P op T a b)
def yX (P:Program) (op:BinOp) (T:TypeId):CW (AV→AV→OR):=match op with
 | .add=>.mk Hm
 | .sub=>.mk FA
 | .eql=>.mk (uV P .eql T AJ)
 | .neq=>.mk (uV P .neq T fun a b=>!(AJ a b))
 | .lss=>.mk (uV P .lss T fun a b=>!(leI b a))
 | .leq=>.mk (uV P .leq T leI)
 | .gtr=>.mk (uV P .gtr T fun a b=>!(leI a b))
 | .geq=>.mk (uV P .geq T fun a b=>leI b a)
 | op=>.mk fun a b=>rf (qJ P op T a b)
noncomputable def tx (t:TR AV) (n:Nat):List AV:=qX t n 0
noncomputable def XB.ab:XB→AB
 | .cells t n T e own=>.cells (tx t n) T e own
 | .other x=>x
 | .loop f ps asg body s=>.loop f ps asg body (s.at bV)
noncomputable def co (h:HpT) (n:Nat):List AB:=(List.range n).map fun b=>(h.get b).ab
abbrev dZ:=FrT→HpT→OR
abbrev nI:=CallY→FrT→HpT→Nat→OR
noncomputable def vq (P:Program) (T:TypeId) (size:Nat) (h:HpT) (x:AV) (a c:Option AV):OR:=match x with
 | .sl b o l e=>match h.get b,Fp a,Fq l c with
  | .cells _ n _ _ _,some i,some j=>bif Nat.beq e size && (leI 0 i && (leI i j && (leI j l && Nat.ble (o+l*e) n))) then (bif AJ i 0 then .val (.sl b o j.toNat e) else bif leI l i then .val (.slz b o l e) else .val (.sl b (o+i.toNat*e) (j - i).toNat e)) else .bad
  | _,_,_=>.bad
 | x=>rf (fi P [] T x a c)
noncomputable def oN (zs:List AV) (c:Nat):Nat→TR AV→TR AV:=Nat.rec (fun _ t=>t) (fun _ ih o t=>ih (o+cG zs) (jr zs o t)) c
noncomputable def de (el size:Nat) (zs:List AV) (h:HpT) (hn:Nat):AV→AV→OR
 | .int _ (.ofNat n),.int _ (.ofNat c)=>bif Nat.ble n c && Nat.ble c 1000000 then .mem (.sl hn 0 n size) (h.put hn (.cells (oN zs c 0 .nil) (c*size) el size true)) (Nat.succ hn) else .bad
 | _,_=>.bad
def du (el size len:Nat) (zs:List AV) (h:HpT) (hn:Nat) (put:HpT→Nat→XB→HpT) (wr:List AV→TR AV) (ps:List (Nat×AV)):OR:=match mN (fun i=>some (i*size,size)) (jt zs len) ps with
 | none=>.bad
 | some cs=>.mem (.sl hn 0 len size) (put hn' hn (.cells (wr cs) cs.length el size true)) (Nat.succ hn)
where hn':=h
noncomputable def sB (P:Program) (T:TypeId) (ok:Bool) (h:HpT) (m k:AV):OR:=match m with
 | .mp b=>match h.get b with
  | .other x=>rf (kA P [x] T (.mp 0) k ok)
  | _=>.bad
 | m=>rf (kA P [] T m k ok)
noncomputable def sw (P:Program) (T:TypeId) (h:HpT) (hn:Nat) (m k v:AV):OR:=match m with
 | .mp b=>match h.get b with
  | .other x=>match gS P [x] T (.mp 0) k v with
   | some [x']=>.mem bV (h.put b (.other x')) hn
   | _=>.bad
  | _=>.bad
 | _=>.bad
noncomputable def nl (P:Program) (T:TypeId) (h:HpT) (hn:Nat) (m k:AV):OR:=match m with
 | .mp b=>match h.get b with
  | .other x=>match gh P [x] T (.mp 0) k with
   | some (c,[x'])=>.mem c (h.put b (.other x')) hn
   | _=>.bad
  | _=>.bad
 | _=>.bad
noncomputable def jU (h:HpT) (hn:Nat) (m k v:AV):OR:=match m with
 | .mp b=>match h.get b with
  | .other x=>match eL [x] (.mp 0) k v with
   | some [x']=>.mem bV (h.put b (.other x')) hn
   | _=>.bad
  | _=>.bad
 | _=>.bad
noncomputable def sV (P:Program) (T:TypeId) (h:HpT) (hn:Nat) (m k:AV):OR:=match m with
 | .mp b=>match h.get b with
  | .other x=>match kb P [x] .delete [T] [.mp 0,k] with
   | some (c,[x'])=>.mem c (h.put b (.other x')) hn
   | _=>.bad
  | _=>.bad
 | _=>.bad
noncomputable def Al (P:Program) (T:TypeId) (h:HpT) (a:AV):OR:=match a with
 | .mp b=>match h.get b with
  | .other x=>rf (uw P [x] T (.mp 0))
  | _=>.bad
 | _=>.bad
noncomputable def AW (size:Nat) (h:HpT) (a:Nat) (x y:AV):OR:=match rm x,rm y with
 | some n,some k=>match min k n with
  | 0=>.mem (.int .i64 0) h a
  | m=>match y,x with
   | .sl b' o' _ e',.sl b o _ e=>match h.get b',h.get b with
    | .cells t' n' _ _ _,.cells t l T c true=>bif Nat.beq e' size && (Nat.beq e size && (Nat.ble (o'+m*size) n' && Nat.ble (o+m*size) l)) then (match qX t' (m*size) o' with
     | ys=>bif mC ys then .mem (.int .i64 (.ofNat m)) (h.put b (.cells (jr ys o t) l T c true)) a else .bad) else .bad
    | _,_=>.bad
   | _,_=>.bad
 | _,_=>.bad
noncomputable def vB (P:Program) (T:TypeId) (h:HpT) (hn:Nat) (a:AV):OR:=match a with
 | .str s=>match P.underlying T with
  | some .string=>.mem (.ptr hn 0) (h.put hn (.other (.siter s 0))) (Nat.succ hn)
  | _=>.bad
 | .mp m=>match iD P T,h.get m with
  | some _,.other (.map _ clock)=>.mem (.ptr hn 0) (h.put hn (.other (.miter m clock [] clock))) (Nat.succ hn)
  | _,_=>.bad
 | _=>.bad
noncomputable def vN (h:HpT) (hn:Nat):AV→OR
 | .ptr b 0=>match h.get b with
  | .other (.siter s pos)=>match me s pos with
   | none=>.mem (.tup [.bool false]) h hn
   | some c=>bif Nat.blt c.toNat 128 then .mem (.tup [.bool true,.int .i64 (.ofNat pos),.int .i32 (.ofNat c.toNat)]) (h.put b (.other (.siter s (pos+1)))) hn else .bad
  | _=>.bad
 | _=>.bad
noncomputable def vO (h:HpT) (a:Nat):AV→OR
 | .ptr b 0=>match h.get b with
  | .other (.miter m since seen stepped)=>match h.get m with
   | .other (.map [] _)=>.mem (.tup [.bool false]) h a
   | .other (.map [(k,v,n)] clock)=>bif Nat.blt n since && Nat.ble since stepped then (bif seen.contains n then .mem (.tup [.bool false]) h a else .mem (.tup [.bool true,k,v]) (h.put b (.other (.miter m since (seen++[n]) clock))) a) else .bad
   | _=>.bad
  | _=>.bad
 | _=>.bad
noncomputable def wv (h:HpT):AV→OR
 | .ptr b 0=>match h.get b with
  | .other (.miter m since seen stepped)=>match h.get m with
   | .other (.map [(k,v,n)] clock)=>bif Nat.beq clock stepped && seen.getLast? == some n then .val (.tup [k,v]) else .bad
   | _=>.bad
  | _=>.bad
 | _=>.bad
noncomputable def jX (P:Program) (S T:TypeId):CW (HpT→Nat→AV→OR):=match P.underlying T with
 | some (.int k)=>match P.underlying S with
  | some _=>.mk fun h b a=>match a with
   | .int _ z=>.mem (.int k (nM k z)) h b
   | _=>.bad
  | none=>.mk fun _ _ _=>.bad
 | some .string=>match P.underlying S with
  | some _=>.mk fun h b a=>match a with
   | .int _ z=>.mem (.str (wZ z)) h b
   | _=>.bad
  | none=>.mk fun _ _ _=>.bad
 | some (.slice el)=>match P.underlying el,P.underlying S with
  | some (.int .u8),some .string=>.mk fun h b a=>match a with
   | .str s=>.mem (.sl b 0 (cG s) 1) (h.put b (.cells (jr (s.map fun c=>.int .u8 c.toNat) 0 .nil) (cG s) el 1 false)) (Nat.succ b)
   | _=>.bad
  | _,_=>.mk fun _ _ _=>.bad
 | _=>.mk fun _ _ _=>.bad
def uI (i:Nat) (sub:List AV→Nat→Option AV):AV→OR
 | .tup l=>rf (sub l i)
 | _=>.bad
def wB (call:CallY) (h:HpT) (n:Nat) (xs:List AV):AV→OR
 | .fn f a cap=>call (.fn f) (a++(xs++cap)) h n
 | .yld b=>call (.yl b) xs h n
 | _=>.bad
def xo:AV→OR
 | .ptr b o=>.val (.ptr b o)
 | _=>.bad
def DB (T:TypeId):AV→OR
 | .iface T' v=>bif Nat.beq T T' then .val v else .bad
 | _=>.bad
def DL:AV→AV→AV→OR
 | .bool true,a,_=>.val a
 | .bool false,_,b=>.val b
 | _,_,_=>.bad
inductive KO where
  | v (rd:Bool) (g:dZ)
  | a (g:FrT→HpT→Nat→OR)
  | m (g:nI)
  | u (g:nI)
noncomputable def qo (rd:Bool) (x:Operand) (g:HpT→AV→OR):Option KO:=Option.casesOn (bc x) none fun f=>CW.casesOn f fun f=>some (.v rd fun s t=>g t (f s))
noncomputable def xC (rd:Bool) (x y:Operand) (g:HpT→AV→AV→OR):Option KO:=Option.casesOn (bc x) none fun f=>Option.casesOn (bc y) none fun f'=>CW.casesOn f fun f=>CW.casesOn f' fun f'=>some (.v rd fun s t=>g t (f s) (f' s))
noncomputable def vk (x:Operand) (g:HpT→Nat→AV→OR):Option KO:=Option.casesOn (bc x) none fun f=>CW.casesOn f fun f=>some (.m fun _ s t n=>g t n (f s))
noncomputable def zj (x y:Operand) (g:HpT→Nat→AV→AV→OR):Option KO:=Option.casesOn (bc x) none fun f=>Option.casesOn (bc y) none fun f'=>CW.casesOn f fun f=>CW.casesOn f' fun f'=>some (.m fun _ s t n=>g t n (f s) (f' s))
noncomputable def CD (x y:Operand) (g:HpT→Nat→AV→AV→OR):Option KO:=Option.casesOn (bc x) none fun f=>Option.casesOn (bc y) none fun f'=>CW.casesOn f fun f=>CW.casesOn f' fun f'=>some (.u fun _ s t n=>g t n (f s) (f' s))
noncomputable def BR (x y z:Operand) (g:HpT→Nat→AV→AV→AV→OR):Option KO:=Option.casesOn (bc x) none fun f=>Option.casesOn (bc y) none fun f'=>Option.casesOn (bc z) none fun f''=>CW.casesOn f fun f=>CW.casesOn f' fun f'=>CW.casesOn f'' fun f''=>some (.u fun _ s t n=>g t n (f s) (f' s) (f'' s))
noncomputable def pI (P:Program) (T:TypeId) (x:Operand):Option KO:=match js P T with
 | some (true,size,_,_)=>qo true x (Cz size)
 | some (false,_,_,_)=>qo true x CA
 | none=>none
noncomputable def iW (P:Program) (T:TypeId) (x y:Operand):Option KO:=match js P T with
 | some (_,size,_,_)=>CD x y (Eu size)
 | none=>none
noncomputable def zl (P:Program) (T:TypeId):Option (List AV):=match js P T with
 | some (_,_,_,z)=>absL z.cells.toList
 | none=>none
noncomputable def gI (P:Program) (T:TypeId):Option KO:=match zl P T with
 | some l=>some (.a fun _ t n=>yB T t n l)
 | none=>none
noncomputable def fq (P:Program) (T:TypeId) (f:Nat) (x:Operand):Option KO:=match P.underlying T with
 | some (.struct fs)=>match fs[f]? with
  | some fd=>match js P fd.type with
   | some (_,size,_,_)=>bif Nat.blt 0 size then qo false x fun _=>Gh fd.offset else none
   | none=>none
  | none=>none
 | _=>none
noncomputable def ny (P:Program) (T:TypeId) (f:Nat) (x:Operand):Option KO:=match P.underlying T with
 | some (.struct fs)=>match fs[f]? with
  | some fd=>match js P fd.type with
   | some (true,size,_,_)=>qo false x fun _=>DT fd.offset size
   | some (false,1,_,_)=>qo false x fun _=>DU fd.offset
   | _=>none
  | none=>none
 | _=>none
noncomputable def eF (P:Program) (T:TypeId) (x y:Operand):Option KO:=match jV P T with
 | some el=>match js P el with
  | some (_,size,_,_)=>xC false x y fun _=>FZ size
  | none=>none
 | none=>xC false x y fun _ a b=>rf (ji P T a b)
noncomputable def kY (P:Program) (T:TypeId):Option (Nat×Nat×List AV):=match jV P T with
 | some el=>match js P el with
  | some (_,size,bytes,z)=>match absL z.cells.toList with
   | some zs=>bif Nat.beq z.cells.size size && (Nat.blt 0 size && Nat.ble bytes 10000) then some (el,size,zs) else none
   | none=>none
  | none=>none
 | none=>none
noncomputable def lH (P:Program) (T:TypeId) (x y:Operand):Option KO:=match P.underlying T with
 | some .string=>xC false x y fun _=>wU
 | _=>xC false x y fun _ a b=>rf (sM P T a b)
noncomputable def sZ (P:Program) (op:BinOp) (T:TypeId) (x y:Operand):Option KO:=match y with
 | .const .nilIface=>qo false x fun _ a=>rf (Az P op T a)
 | y=>CW.casesOn (yX P op T) fun g=>xC false x y fun _=>g
noncomputable def gG (P:Program) (b:Builtin) (xs:List Operand) (ts:List TypeId):Option KO:=match b,xs,ts with
 | .append,[x,y],[T,T']=>bif Nat.beq T T' then (match kY P T with
  | some (el,size,_)=>zj x y (Fk el size)
  | none=>none) else none
 | .len,[x],[T]=>match P.underlying T with
  | some (.slice _)=>qo false x fun _=>DP
  | some .string=>qo false x fun _=>DO
  | some (.map _ _)=>qo true x (Al P T)
  | _=>none
 | .min,[x,y],_=>xC false x y fun _ a b=>rf (ul Ab [a,b])
 | .max,[x,y],_=>xC false x y fun _ a b=>rf (ul Ac [a,b])
 | .copy,[x,y],[T,_]=>match kY P T with
  | some (_,size,_)=>zj x y (AW size)
  | none=>none
 | .delete,[x,y],T::_=>zj x y (sV P T)
 | _,_,_=>none
noncomputable def lS (f:FuncId) (xs:List Operand):Option KO:=Option.casesOn (dk xs) none fun g=>CW.casesOn g fun g=>some (.m fun call s t n=>call (.fn f) (g s) t n)
noncomputable def jZ (x:Operand) (xs:List Operand):Option KO:=Option.casesOn (bc x) none fun f=>Option.casesOn (dk xs) none fun g=>CW.casesOn f fun f=>CW.casesOn g fun g=>some (.m fun call s t n=>wB call t n (g s) (f s))
noncomputable def mU (P:Program) (c:Call):Option KO:=match c.callee with
 | .value x=>match x with
  | .func f=>lS f c.args.toList
  | x=>jZ x c.args.toList
 | .invoke _ _=>none
 | .builtin b=>gG P b c.args.toList c.argTypes.toList
noncomputable def ez:Option Operand→Option (CW (FrT→Option AV))
 | none=>some (.mk fun _=>none)
 | some x=>Option.casesOn (bc x) none fun f=>CW.casesOn f fun f=>some (.mk fun s=>some (f s))
noncomputable def mf (P:Program) (T:TypeId) (x:Operand) (a b:Option Operand):Option KO:=Option.casesOn (bc x) none fun f=>Option.casesOn (ez a) none fun l=>Option.casesOn (ez b) none fun h=>CW.casesOn f fun f=>CW.casesOn l fun l=>CW.casesOn h fun h=>
 match kY P T with
 | some (_,size,_)=>some (.v true fun s t=>vq P T size t (f s) (l s) (h s))
 | none=>some (.v true fun s t=>rf (fi P [] T (f s) (l s) (h s)))
noncomputable def xm (x:Operand):Option KO:=qo false x fun _ v=>.val v
noncomputable def pu (c a b:Operand):Option KO:=Option.casesOn (bc c) none fun c=>Option.casesOn (bc a) none fun a=>Option.casesOn (bc b) none fun b=>CW.casesOn c fun c=>CW.casesOn a fun a=>CW.casesOn b fun b=>some (.v false fun s _=>DL (c s) (a s) (b s))
noncomputable def px (T:TypeId) (x:Operand):Option KO:=Option.casesOn (bc x) none fun f=>CW.casesOn f fun f=>some (.a fun s t n=>bif mC (cy (f s)) then yB T t n (cy (f s)) else .bad)
noncomputable def ls (P:Program) (T:TypeId) (ps:Array (Nat×Operand)):Option KO:=Option.casesOn (eT ps.toList) none fun g=>CW.casesOn g fun g=>some (.v false fun s _=>rf (wD P T (g s)))
noncomputable def cK (P:Program) (T:TypeId) (k:Nat) (ps:Array (Nat×Operand)):Option KO:=match kY P T with
 | some (el,size,zs)=>Option.casesOn (eT ps.toList) none fun g=>CW.casesOn g fun g=>some (.a fun s t n=>bif Nat.ble k 1000000 && Nat.ble (k*size) 16777216 then du el size k zs t n HpT.put (fun l=>jr l 0 .nil) (g s) else .bad)
 | none=>none
noncomputable def FP (P:Program) (T:TypeId) (m k v:Operand):Option KO:=BR m k v (sw P T)
noncomputable def rh (x:Operand):Option KO:=qo false x fun _=>xo
noncomputable def vL (P:Program) (op:BinOp) (T:TypeId) (x y:Operand) (_:TypeId):Option KO:=sZ P op T x y
noncomputable def Hr (op:UnOp) (_:TypeId) (x:Operand):Option KO:=qo false x fun _ a=>rf (Hq op a)
noncomputable def FT (P:Program) (S T:TypeId) (x:Operand):Option KO:=CW.casesOn (jX P S T) fun g=>vk x g
noncomputable def ET (f:Fn) (a b:Array Operand):Option KO:=match f with
 | .func f=>Option.casesOn (dk a.toList) none fun a=>Option.casesOn (dk b.toList) none fun b=>CW.casesOn a fun a=>CW.casesOn b fun b=>some (.v false fun s _=>.val (.fn f (a s) (b s)))
 | _=>none
noncomputable def pv (P:Program) (T:TypeId) (r:Option Operand):Option KO:=match r,iD P T with
 | none,some _=>some (.a fun _ t n=>.mem (.mp n) (t.put n (.other (.map [] 0))) (Nat.succ n))
 | _,_=>none
noncomputable def dc (P:Program) (T:TypeId) (a b:Operand):Option KO:=match kY P T with
 | some (el,size,zs)=>Option.casesOn (bc a) none fun a=>Option.casesOn (bc b) none fun b=>CW.casesOn a fun a=>CW.casesOn b fun b=>some (.a fun s t n=>de el size zs t n (a s) (b s))
 | none=>none
noncomputable def lq (P:Program) (T:TypeId) (x:Operand) (lo hi mx:Option Operand):Option KO:=match mx with
 | none=>mf P T x lo hi
 | some _=>none
noncomputable def lr (P:Program) (T:TypeId) (x:Operand) (f:Nat):Option KO:=fq P T f x
noncomputable def vK (P:Program) (T:TypeId) (x:Operand) (f:Nat):Option KO:=ny P T f x
noncomputable def xn (P:Program) (T:TypeId) (x y:Operand) (ok:Bool):Option KO:=xC true x y (sB P T ok)
noncomputable def Cn (P:Program) (T:TypeId) (m k:Operand):Option KO:=zj m k (nl P T)
noncomputable def Cm (_:TypeId) (m k v:Operand):Option KO:=BR m k v jU
noncomputable def ES (P:Program) (T:TypeId) (x:Operand):Option KO:=vk x (vB P T)
noncomputable def FS (x:Operand) (b:Bool):Option KO:=Bool.casesOn b (vk x vO) (vk x vN)
noncomputable def zS (x:Operand):Option KO:=qo true x wv
noncomputable def vM (P:Program) (x:Operand) (_ T:TypeId) (ok:Bool):Option KO:=bif !ok && sL P T (fun d=>!(CJ d)) then qo false x fun _=>DB T else none
noncomputable def ui (x:Operand) (i:Nat):Option KO:=qo false x fun _=>uI i me
noncomputable def sk (P:Program) (o:Op):Option KO:=Op.casesOn o xm xm pu (gI P) px (ls P) (cK P) (FP P) (pI P) (iW P) (fun _=>none) (fun _=>none) rh (vL P) Hr (FT P) (fun _ _=>none) (fun _ _=>none) ET (pv P) (fun _ _=>none) (dc P) (lq P) (lr P) (vK P) (eF P) (lH P) (xn P) (FP P) (Cn P) Cm (ES P) FS zS (vM P) ui (mU P) (fun _=>none) (fun _=>none) (fun _=>none) (fun _ _=>none) (fun _ _ _=>none) (fun _ _=>none)
end Go.Lx
