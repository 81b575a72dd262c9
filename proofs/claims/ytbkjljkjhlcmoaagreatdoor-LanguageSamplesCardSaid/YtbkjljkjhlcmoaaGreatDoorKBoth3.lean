/- Part 3. -/
import Derived.RecoverIn
import Derived.RangeFuncLeaves
import Derived.Lib.ConvBytes
import Derived.WideShapes
import Derived.Shelf.SlIterI.Sorted
import Derived.Shelf.Spec.SlicesGrow
import Derived.Shelf.SortM.Plain
import Derived.Shelf.SortM.SortNone
import Derived.Shelf.Strings.Builder1
import Derived.Shelf.Strings.Builder2
import Derived.Shelf.Strings.OnBuilder
import Derived.Shelf.Small.Utf8
import Derived.Shelf.Small.Bits
import Derived.Shelf.Small.Strs
import Derived.Shelf.Utf8.RuneCount
import Derived.Shelf.Strconv.Itoa0
import Derived.Shelf.Strconv.Itoa1
import Derived.Shelf.LaysM
import Derived.Shelf.Strconv.Itoa2
import Derived.Shelf.Strconv.Itoa3
import Derived.Shelf.Strings.Search1
import Derived.Shelf.Strings.Search2
import Derived.Shelf.Strings.Search3
import Derived.Shelf.Strings.Cut
import Derived.Shelf.Strings.Count
import Derived.Shelf.Strings.Shaped
import Derived.Shelf.Sort.Plain
import Derived.Shelf.Strings.Split
import Derived.Shelf.Strings.SplitShaped
import Derived.Shelf.Unicode.Decode
import Derived.Shelf.Strings.Runes
import Derived.Shelf.Strings.RuneCount
import Derived.Shelf.Strings.AsciiSet
import Derived.Shelf.Strings.Explode
import Derived.Shelf.Bits.Mul64
import Derived.Shelf.Unicode.DecodeSlow
import Derived.Shelf.Unicode.DecodeAny
import Derived.Shelf.Unicode.DecodeLast
import Derived.Shelf.Slices.Clone
import Derived.Shelf.Slices.SearchI
import Derived.Shelf.Slices.In.SortNone
import Derived.Shelf.SlicesE.Clone
import Derived.Test.YtbkjljkjhlcmoaaGreatDoorProg
import Derived.Test.YtbkjljkjhlcmoaaGreatDoorKBoth2
set_option linter.unusedVariables false
set_option linter.unusedSimpArgs false
namespace Go.Lx
section
variable {α:Type}
theorem ag.imp {τ τ':Ty α} (hsz:τ.sz=τ'.sz) {g:Hp} (h:∀cs x,τ.rel g cs x→τ'.rel g cs x) {xs:List Value} {l:List α} (hr:ag τ g xs l):ag τ' g xs l:=
 ⟨by rw [←hsz]; exact hr.1,fun i x hx=>by rw [←hsz]; exact h _ _ (hr.2 i x hx)⟩
theorem cv.imp {τ τ':Ty α} (hsz:τ.sz=τ'.sz) {g:Hp} (h:∀cs x,τ.rel g cs x→τ'.rel g cs x) {v:Value} {l:List α} (hr:cv τ g v l):cv τ' g v l:=
 let ⟨xs,h1,h2⟩:=hr; ⟨xs,h1.imp hsz h,h2⟩
theorem wR {τ τ':Ty α} (hsz:τ.sz=τ'.sz) {g:Hp} (h:∀cs x,τ.rel g cs x→τ'.rel g cs x) {cs:List Value} {l:List α} (hr:(cj τ).rel g cs l):(cj τ').rel g cs l:=
 let ⟨v,h1,h2⟩:=hr; ⟨v,h1,h2.imp hsz h⟩
structure ed (α:Type) where
  sz:Nat
  F:Ty α→Ty α
  hsz:∀τ,(F τ).sz=sz
  mono:∀ {τ τ':Ty α} {g:Hp},τ.sz=sz→τ'.sz=sz→(∀cs x,τ.rel g cs x→τ'.rel g cs x)→∀cs x,(F τ).rel g cs x→(F τ').rel g cs x
def ed.iter (T:ed α):Nat→Ty α
 | 0=>⟨T.sz,fun _ _ _=>False,fun _ h=>h.elim,fun h=>h.elim,fun h=>h.elim⟩
 | n+1=>T.F (T.iter n)
theorem ed.iter_sz (T:ed α):∀n,(T.iter n).sz=T.sz
 | 0=>rfl
 | n+1=>T.hsz _
theorem ed.up (T:ed α) {g:Hp}:∀(n:Nat) (cs:List Value) (x:α),(T.iter n).rel g cs x→(T.iter (n+1)).rel g cs x
 | 0,_,_,h=>h.elim
 | n+1,cs,x,h=>T.mono (T.iter_sz n) (T.iter_sz (n+1)) (ed.up T n) cs x h
theorem ed.le (T:ed α) {g:Hp} {n m:Nat} (hnm:n≤m):∀(cs:List Value) (x:α),(T.iter n).rel g cs x→(T.iter m).rel g cs x:=by
 induction hnm with
 | refl=>exact fun _ _ h=>h
 | step _ ih=>exact fun cs x h=>T.up _ cs x (ih cs x h)
theorem ed.fix_len (T:ed α) {g:Hp} {cs:List Value} {x:α} (h:∃n,(T.iter n).rel g cs x):cs.length=T.sz:=let ⟨n,h⟩:=h; ((T.iter n).len h).trans (T.iter_sz n)
theorem ed.fix_one (T:ed α) {g:Hp} {cs:List Value} {x:α} (h:∃n,(T.iter n).rel g cs x):∀v∈cs,v.oneCell'=true:=let ⟨n,h⟩:=h; (T.iter n).one h
theorem ed.fix_mono (T:ed α) {g g':Hp} {cs:List Value} {x:α} (hg:be g g') (h:∃n,(T.iter n).rel g cs x):∃n,(T.iter n).rel g' cs x:=let ⟨n,h⟩:=h; ⟨n,(T.iter n).mono hg h⟩
theorem ed.supRow (T:ed α) {fix:Ty α} (e:∀g cs x,fix.rel g cs x→∃n,(T.iter n).rel g cs x) (c:fix.sz=T.sz) {g:Hp} {xs:List Value} {l:List α} (h:ag fix g xs l):∃n,ag (T.iter n) g xs l:=by
 have key:∀k,∃n,∀i,i<k→∀x,l[i]?=some x→(T.iter n).rel g ((xs.drop (i*T.sz)).take T.sz) x:=by
  intro k;induction k with
  | zero=>exact ⟨0,fun i b=>absurd b (Nat.not_lt_zero _)⟩
  | succ k ih=>
   obtain ⟨n,a⟩:=ih;cases hk:l[k]? with
   | none=>
    refine ⟨n,fun i b x hx=>?_⟩
    by_cases hik:i=k
    ·subst hik; rw [hk] at hx; cases hx
    ·exact a i (by omega) x hx
   | some y=>
    have:=h.2 k y hk;rw [c] at this;obtain ⟨m,d⟩:=e _ _ _ this;refine ⟨max n m,fun i b x hx=>?_⟩
    by_cases hik:i=k
    ·subst hik; rw [hk] at hx; cases hx; exact T.le (Nat.le_max_right _ _) _ _ d
    ·exact T.le (Nat.le_max_left _ _) _ _ (a i (by omega) x hx)
 obtain ⟨n,a⟩:=key l.length;refine ⟨n,⟨by rw [T.iter_sz]; rw [←c]; exact h.1,fun i x hx=>?_⟩⟩;rw [T.iter_sz];exact a i (Jo.1 hx).1 x hx
theorem ed.sup (T:ed α) {fix:Ty α} (hf:∀g cs x,fix.rel g cs x→∃n,(T.iter n).rel g cs x) (hs:fix.sz=T.sz) {g:Hp} {cs:List Value} {l:List α} (h:(cj fix).rel g cs l):∃n,(cj (T.iter n)).rel g cs l:=by
 obtain ⟨v,h1,xs,h2,h3⟩:=h;obtain ⟨n,hn⟩:=T.supRow hf hs h2;exact ⟨n,v,h1,xs,hn,h3⟩
theorem ed.leSl (T:ed α) {g:Hp} {n m:Nat} (hnm:n≤m) {cs:List Value} {l:List α} (h:(cj (T.iter n)).rel g cs l):(cj (T.iter m)).rel g cs l:=
 wR ((T.iter_sz n).trans (T.iter_sz m).symm) (T.le hnm) h
end
end Go.Lx
namespace Go.Lx
open Go.RowKit
def lX (P:Program) (f:FuncId) (args:Array Value) (u u':FrameMode) (w:World) (R:World→Prop):Prop:=
 CallsDIn (Fz ⟨0,none⟩) 0 P f args u w fun e u2 w'=>u2=u'∧∃v,e=.returned v∧R w'
def Ig (P:Program) (fn:Func) (n:Fr) (R:World→Prop):EPost:=fun e E w=>match e with
 | .normal|.ret=>E.ds=[]∧∃v,iT P fn n E w v∧R w
 | _=>False
instance {P:Program} {fn:Func} {n:Fr} {R:World→Prop}:eM (Ig P fn n R):=⟨fun _ _ _ _ _ q=>q⟩
def Cg (v:Value):FrameMode:=.panicking [{ v:=v,recovered:=true }]
section
variable {P:Program} {w:World}
theorem nC {f:FuncId} {fn:Func} {rest:Code} {m id a b:Nat} {args:List Value} {R:World→Prop} {o:Array TypeId} {j r:TypeId} {k x:String} {p A:Array Edge} {u c:FrameMode} {val:Value}
 (G:(u=.returning∧val=.nilIface∧c=.returning)∨(u=.panicking (tY val)∧c=Cg val)) (N:P.funcs[f]?=some fn)
 (U:fn.body=some (.seq (.region id #[⟨some a,.call { callee:=.builtin .recover,args:=#[],argTypes:=o },j,k,p,none⟩,⟨some b,.assign (.tmp a),r,x,A,none⟩] false) rest))
 (I:fn.ntmps=m) (J:Nat.ble args.length m=true) (W:Nat.blt a m=true) (T:Nat.blt b m=true)
 (h:WP P ⟨m,none⟩ rest (Ig P fn ⟨m,none⟩ R) (bR (bR (fx args) a val) b val) w):lX P f args.toArray u c w R:=by
 subst I;refine callsDIn_of_wpSIn N U trivial fun c0 cs n=>?_
 refine wpSIn_seq (wpSIn_region ?_);have L:=iQ args ⟨fn.ntmps,none⟩ (Nat.le_of_ble_eq_true J);have y:=L.put (d:=some a) W val;have K:=y.put (d:=some b) T val;have V:∀(t:Tmp),(Act.put ⟨args.toArray++Array.replicate (fn.ntmps - args.toArray.size) undef,[]⟩ (some a) val).eval (.tmp t)=(bR (fx args) a val) t:=fun t=>by
  have:=congrFun y.eval (.tmp t);exact this
 have D:(Act.put ⟨args.toArray++Array.replicate (fn.ntmps - args.toArray.size) undef,[]⟩ (some a) val).eval (.tmp a)=val:=by
  rw [V]; simp [bR]
 have B:∀g,(g=c0::cs∧c0.mode=c∨g={ c0 with mode:=c }::cs)→
  rest.wpSIn (Fz ⟨0,none⟩) 0 P (bodyPostS P fn c0 cs fun e i w'=>i=c∧∃v,e=.returned v∧R w') ((Act.put ⟨args.toArray++Array.replicate (fn.ntmps - args.toArray.size) undef,[]⟩ (some a) val).put (some b) val) g w:=by
  intro g l;refine wpSIn_of_wpIn rfl ?_;refine wpIn_mono (h _ K) ?_;rintro e X w' ⟨E,z,q⟩;have S:∃i,g={ c0 with mode:=i }::cs∧i=c:=by
   rcases l with ⟨rfl,hm⟩|rfl
   ·exact ⟨c,by rw [←hm],rfl⟩
   ·exact ⟨c,rfl,rfl⟩
  cases e <;> first
   | exact q.elim
   | (obtain ⟨i,Q,F⟩:=S; exact ⟨by rw [z.defers]; exact q.1,i,Q,q.2.choose,q.2.choose_spec.1 _ z,F,_,rfl,q.2.choose_spec.2⟩)
 show wpOpsSIn _ _ _ _ _ [0,1] _ _ _;simp only [wpOpsSIn,List.getElem?_toArray,List.getElem?_cons_zero,List.getElem?_cons_succ];refine ⟨fun _ _=>trivial,?_⟩;rw [if_pos (fD rfl)];have H:∀ρ:Operand→Value,(execOp ρ ⟨some a,.call { callee:=.builtin .recover,args:=#[],argTypes:=o },j,k,p,none⟩).run P w=.ok .recover w:=fun ρ=>by
  simp [execOp,resolve,invoke,builtin]
 rw [H];have s:∀g,(g=c0::cs∧c0.mode=c∨g={ c0 with mode:=c }::cs)→wpOpsSIn (Fz ⟨0,none⟩) 0 P #[⟨some a,.call { callee:=.builtin .recover,args:=#[],argTypes:=o },j,k,p,none⟩,⟨some b,.assign (.tmp a),r,x,A,none⟩]
  (Exit.thenS (rest.wpSIn (Fz ⟨0,none⟩) 0 P (bodyPostS P fn c0 cs fun e i w'=>i=c∧∃v,e=.returned v∧R w')) (bodyPostS P fn c0 cs fun e i w'=>i=c∧∃v,e=.returned v∧R w')) [1] (Act.put ⟨args.toArray++Array.replicate (fn.ntmps - args.toArray.size) undef,[]⟩ (some a) val) g w:=by
  intro g l;simp only [wpOpsSIn,List.getElem?_toArray,List.getElem?_cons_zero,List.getElem?_cons_succ];refine ⟨fun _ _=>trivial,?_⟩;rw [if_pos (fD rfl)];simp only [execOp,Sem.run_pure,D];exact B g l
 rcases G with ⟨rfl,rfl,rfl⟩|⟨rfl,rfl⟩
 ·have:recoverD (c0::cs)=none:=by simp [recoverD,n]
  simp only [this];exact s _ (.inl ⟨rfl,n⟩)
 ·have:recoverD (c0::cs)=some (val,{ c0 with mode:=Cg val }::cs):=by simp [recoverD,n,tY,Cg]
  simp only [this];exact s _ (.inr rfl)
end
def fu (f:FuncId) (cap:List Value):Deferred:={ target:=.fn (.func f) (List.toArray cap),args:=#[] }
def LV (P:Program) (fn:Func) (n:Fr) (E:Env) (R:Value→World→Prop):List Deferred→FrameMode→World→Prop
 | [],u,w=>u=.returning∧∃v,iT P fn n E w v∧R v w
 | d::ds,u,w=>u≠.run∧∃f cap u' S,d=fu f cap∧CF P f∧lX P f (List.toArray cap) u u' w S∧∀w',S w'→LV P fn n E R ds (settle u') w'
def FV (P:Program) (fn:Func) (n:Fr) (R:Value→World→Prop):EPost:=fun e E w=>match e with
 | .normal|.ret=>LV P fn n E R E.ds .returning w
 | .panic ch=>LV P fn n E R E.ds (.panicking ch) w
 | _=>False
section
variable {P:Program} {n:Fr} {Q:EPost} {E:Env} {w:World} {fn:Func} {R:Value→World→Prop}
theorem rl {a:Act} (b:cV n E a):∀(ds:List Deferred) (u:FrameMode) (w:World),LV P fn n E R ds u w→LeavesInM (Fz n) 0 P fn a.tmps (fun e w'=>∃v,e=.returned v∧R v w') ds u w
 | [],_,_,⟨hu,v,hr,hR⟩=>by subst hu; exact ⟨v,hr a b,v,rfl,hR⟩
 | _::ds,u,w,⟨hne,f,cap,u',S,hd,hcf,hc,hk⟩=>by
  subst hd;obtain ⟨d,l,c,k⟩:=hcf;have g:¬ d.name = "runtime.NumGoroutine":=by simpa using k
  have i:¬ d.body=none:=by intro h; rw [h] at c; cases c
  refine ⟨hne,.inr ⟨fun h=>(by cases h),.func f,List.toArray cap,f,List.toArray cap,rfl,?_,fun _ _=>trivial,?_⟩⟩
  ·simp [fu,invoke,callFunc,l,i,g]
  ·refine CallsDIn.mono (F:=Fz ⟨0,none⟩) hc ?_;rintro e m w' ⟨rfl,v,rfl,j⟩;exact rl b ds _ w' (hk w' j)
theorem sY {f:FuncId} {c:Code} {m:Nat} {args:List Value} (i:P.funcs[f]?=some fn) (j:fn.body=some c) (d:fn.ntmps=m) (g:Nat.ble args.length m=true)
 (h:WP P ⟨m,none⟩ c (FV P fn ⟨m,none⟩ R) (fx args) w):aT P f args.toArray w R:=by
 subst d;refine callsIn_wide (n:=0) |>.1 (callsIn_of_wp_marks (F:=Fz ⟨fn.ntmps,none⟩) i j trivial ?_);refine wpIn_mono (h _ (iQ args _ (Nat.le_of_ble_eq_true g))) ?_;rintro e a w ⟨E,b,q⟩;cases e <;> first
  | exact q.elim
  | (show LeavesInM _ _ _ _ _ _ a.defers _ _; rw [b.defers]; exact rl b E.ds _ w q)
theorem ti {ds:List Deferred} {u:FrameMode} (hd:ds=[]) (hu:u=.returning) (h:∃v,iT P fn n E w v∧R v w):LV P fn n E R ds u w:=by subst hd; exact ⟨hu,h⟩
theorem oM {ds ds':List Deferred} {f:FuncId} {cap:List Value} {u u':FrameMode} {S:World→Prop} (hd:ds=fu f cap::ds') (hne:u≠.run) (hcf:CF P f) (hc:lX P f (List.toArray cap) u u' w S) (k:∀w',S w'→LV P fn n E R ds' (settle u') w'):LV P fn n E R ds u w:=by
 subst hd; exact ⟨hne,f,cap,u',S,rfl,hcf,hc,k⟩
theorem vi {ops:Array Oper} {rest:List Oper} {ty:TypeId} {ps:String} {af:Array Edge} {x:Operand} {c:Array TypeId} {f:FuncId} (cap:List Value) (d:n.ro=none) (hx:ev E x=.func (.func f) #[] cap.toArray)
 (k:OW P n ops Q rest ⟨E.s,fu f cap::E.ds⟩ w):OW P n ops Q (⟨none,.defer { callee:=.value x,args:=#[],argTypes:=c },ty,ps,af,none⟩::rest) E w:=by
 intro a b;refine wpListIn_plain rfl fun K e=>⟨fun _ _=>trivial,?_⟩
 rw [show (Fz n).round=none from d,Oper.semAt_none,b.eval];have hr:(execOp (ev E) ⟨none,.defer { callee:=.value x,args:=#[],argTypes:=c },ty,ps,af,none⟩).run P w=.ok (.defer (fu f cap)) w:=by
  simp [execOp,resolve,Deferred.ofValue,hx,fu]
 rw [hr];exact e _ _ (k { a with defers:=fu f cap::a.defers } ⟨by simp [b.defers],b.size,b.get⟩)
end
section
variable {P:Program} {E:Env} {w:World} {d:Option Tmp} {ty:TypeId} {ps:String} {af:Array Edge} {gd:Option (Nat×Bool)}
def CJ:TypeDesc→Bool
 | .interface _=>true
 | _=>false
theorem my {xt T:TypeId} {x:Operand} {v:Value} {td:TypeDesc} (hT:P.underlying T=some td) (hni:CJ td=false) (hx:ev E x=.iface T v) :
 bo P E ⟨d,.typeAssert x xt T false,ty,ps,af,gd⟩ w v w:=.inl (by
 simp only [execOp,Instr.typeAssert,hx,Sem.run_bind,run_underlying hT];cases td with
 | interface ms=>simp [CJ] at hni
 | _=>simp)
theorem rA {T:TypeId} {ms:Array (String×TypeId)} (hT:P.underlying T=some (.interface ms)) (V:TypeId) (v:Value) (n:Nat):(Op.equalIn (n+1) T (.iface V v) .nilIface).run P w=.ok false w:=by
 rw [Op.equalIn];simp [run_underlying hT]
theorem rz {T:TypeId} {ms:Array (String×TypeId)} (hT:P.underlying T=some (.interface ms)) (n:Nat):(Op.equalIn (n+1) T .nilIface .nilIface).run P w=.ok true w:=by
 rw [Op.equalIn];simp [run_underlying hT]
theorem qZ {T T':TypeId} {a:Array (String×TypeId)} {x y:Operand} {V:TypeId} {v:Value} (b:P.underlying T=some (.interface a)) (hx:ev E x=.iface V v) (hy:ev E y=.nilIface):bo P E ⟨d,.binOp .neq T x y T',ty,ps,af,gd⟩ w (.bool true) w:=
 aR (by rw [hx,hy]; rfl) (by
  rw [hx,hy];have h:(Op.equal T (.iface V v) .nilIface).run P w=.ok false w:=rA b V v 9999;simp only [binOp,Sem.run_bind,h,Jz,Sem.run_pure,Bool.not_false])
theorem qY {T T':TypeId} {a:Array (String×TypeId)} {x y:Operand} (c:P.underlying T=some (.interface a)) (hx:ev E x=.nilIface) (b:y=.const .nilIface):bo P E ⟨d,.binOp .neq T x y T',ty,ps,af,gd⟩ w (.bool false) w:=by
 subst b;exact aR (by rw [hx]; cases x <;> rfl) (by
  rw [hx];have h:(Op.equal T .nilIface .nilIface).run P w=.ok true w:=rz c 9999;simp only [binOp,ev,Sem.run_bind,h,Jz,Sem.run_pure,Bool.not_true])
end
def BS (P:Program) (D:Nat) (t:TypeId) (x y:Value) (b:Bool):Prop:=∀w,(Op.equalIn D t x y).run P w=.ok b w
inductive zi (P:Program) (D:Nat) (xs ys:List Value):List Field→Bool→Prop where
  | nil:zi P D xs ys [] true
  | cons {f:Field} {fs:List Field} {x y:Value} {b c:Bool}:f.name≠ "_"→(∀w,(part f.type xs.toArray f.offset).run P w=.ok x w)→(∀w,(part f.type ys.toArray f.offset).run P w=.ok y w)→
      BS P D f.type x y b→zi P D xs ys fs c→zi P D xs ys (f::fs) (b && c)
section
variable {P:Program} {D:Nat} {t:TypeId}
theorem CU {k:IntKind} (hT:P.underlying t=some (.int k)) (a b:Int):BS P (D+1) t (.int k a) (.int k b) (a == b):=fun _=>ew D hT a b
theorem AI (hT:P.underlying t=some .bool) (a b:Bool):BS P (D+1) t (.bool a) (.bool b) (a == b):=fun w=>by simp [Op.equalIn,run_underlying hT]
theorem CS (hT:P.underlying t=some .string) (a b:Str):BS P (D+1) t (ao a) (ao b) (a == b):=fun w=>by
 have h:(Value.string ⟨a.toArray⟩)=ao a:=rfl;have:(Op.equalIn (D+1) t (ao a) (ao b)).run P w=.ok ((⟨a.toArray⟩:ByteArray) == ⟨b.toArray⟩) w:=by simp [Op.equalIn,run_underlying hT,ao]
 rw [this,←pY]
theorem CR {el:TypeId} {n:Nat} {k:IntKind} {bytes:Nat} {z:Value} (hT:P.underlying t=some (.array n el)) (hE:P.underlying el=some (.int k)) (he:dF P el false 1 bytes z) (a b:bM n):BS P (D+2) t (cL k a) (cL k b) (a == b):=
 fun _=>fI D hT hE he a b
theorem sh {ft:TypeId} {bytes:Nat} {z:Value} (ht:dF P ft false 1 bytes z) {cs:List Value} {o:Nat} {v:Value} (hv:cs[o]?=some v) (w:World):(part ft cs.toArray o).run P w=.ok v w:=by
 have:cs.toArray[o]?=some v:=by simpa using hv
 exact jK ht this
theorem wu {a:Array Field} {xs ys:List Value} {b:Bool} (g:P.underlying t=some (.struct a)) (d:P.stoodInHeld t=false) (h:zi P D xs ys a.toList b):BS P (D+1) t (.agg xs.toArray) (.agg ys.toArray) b:=fun w=>by
  have e:∀w,(program).run P w=.ok P w:=fun w=>rfl
  rw [Op.equalIn];simp only [Sem.run_bind,run_underlying g,Jz,e,d,Bool.false_eq_true,if_false];rw [←Array.forIn_toList];generalize a.toList=l at h;have key:∀(l:List Field) (b:Bool),zi P D xs ys l b→∀w,
      (forIn l ((none,()):Option Bool×Unit) fun f r=>(do
        if f.name≠ "_" then
          if (!(←Op.equalIn D f.type (←part f.type xs.toArray f.offset) (←part f.type ys.toArray f.offset)))=true then pure (ForInStep.done (some false,()))
          else pure (ForInStep.yield (none,()))
        else pure (ForInStep.yield (none,())):Sem (ForInStep (Option Bool×Unit)))).run P w=.ok (if b then (none,()) else (some false,())) w:=by
    intro l b h;induction h with
    | nil=>intro w; simp [Sem.run_pure]
    | cons hn hx hy he hr ih=>
      intro w;rename_i b c;rw [List.forIn_cons,Sem.run_bind,if_pos hn];simp only [Sem.run_bind,hx,hy,Jz,he w];cases b
      · simp [Sem.run_pure]
      · simpa using ih w
  have:=key l b h w;rw [this];cases b <;> rfl
variable {E:Env} {w:World} {d:Option Tmp} {ty:TypeId} {ps:String} {af:Array Edge} {gd:Option (Nat×Bool)} {T T':TypeId} {x y:Operand} {xs ys:List Value} {b:Bool}
theorem EN (hx:ev E x=.agg xs.toArray) (hy:ev E y=.agg ys.toArray) (a:P.eqGuardType P.depth T=false) (h:BS P 10000 T (.agg xs.toArray) (.agg ys.toArray) b):bo P E ⟨d,.binOp .eql T x y T',ty,ps,af,gd⟩ w (.bool b) w:=
 aR (by rw [hx,hy]; simp only [eqGuard]; simp [program,Sem.run,a]) (by
  rw [hx,hy];simp only [binOp,Sem.run_bind,Op.equal,Op.maxDepth,h w,Jz,Sem.run_pure])
theorem EC (hx:ev E x=.agg xs.toArray) (hy:ev E y=.agg ys.toArray) (a:P.eqGuardType P.depth T=false) (h:BS P 10000 T (.agg xs.toArray) (.agg ys.toArray) b):bo P E ⟨d,.binOp .neq T x y T',ty,ps,af,gd⟩ w (.bool (!b)) w:=
 aR (by rw [hx,hy]; simp only [eqGuard]; simp [program,Sem.run,a]) (by
  rw [hx,hy];simp only [binOp,Sem.run_bind,Op.equal,Op.maxDepth,h w,Jz,Sem.run_pure])
end
section
variable {P:Program} {n:Fr} {Q:EPost} {E:Env} {w:World} {α σ ρ:Type}
def BX (g0:Hp) (w0:World) (Inv:σ→Hp→List Res→Prop) (InvX:ρ→Hp→List Res→Prop) (a:ρ→Code) (r:nG σ ρ) (g:Hp) (L:List Res):EPost:=fun e _ w=>match e with
 | .normal=>∃s,r=.next s∧∃g' Ls,Inv s g' Ls∧be g g'∧Sep g0 w0 g' w (Ls++L)
 | .ret=>∃q,r=.stop q∧a q=.ret∧∃g' Ls,InvX q g' Ls∧be g g'∧Sep g0 w0 g' w (Ls++L)
 | .exit i=>∃q,r=.stop q∧a q=.exit i∧∃g' Ls,InvX q g' Ls∧be g g'∧Sep g0 w0 g' w (Ls++L)
 | _=>False
instance {g0:Hp} {w0:World} {Inv:σ→Hp→List Res→Prop} {InvX:ρ→Hp→List Res→Prop} {ex:ρ→Code} {r:nG σ ρ} {g:Hp} {L:List Res}:eM (BX g0 w0 Inv InvX ex r g L):=⟨fun _ _ _ _ _ q=>q⟩
def AX (P:Program) (n:Fr) (g0:Hp) (w0:World) (Inv:σ→Hp→List Res→Prop) (InvX:ρ→Hp→List Res→Prop) (ex:ρ→Code) (r:nG σ ρ) (body:Code) (g:Hp) (L:List Res):EPost:=fun e E w=>match e with
 | .normal=>∃g' Ls,Sep g0 w0 g' w (Ls++L)∧be g g'∧∀w' L',Sep g0 w0 g' w' (Ls++L')→WP P n body (BX g0 w0 Inv InvX ex r g' L') E w'
 | _=>False
instance {P:Program} {n:Fr} {g0:Hp} {w0:World} {Inv:σ→Hp→List Res→Prop} {InvX:ρ→Hp→List Res→Prop} {ex:ρ→Code} {r:nG σ ρ} {body:Code} {g:Hp} {L:List Res}:eM (AX P n g0 w0 Inv InvX ex r body g L):=⟨fun _ _ _ _ _ q=>q⟩
end
section
variable {P:Program} {E:Env} {w:World} {d:Option Tmp} {ty:TypeId} {ps:String} {af:Array Edge} {gd:Option (Nat×Bool)} {T T':TypeId} {qs rs:Array TypeId} {vd:Bool} {x y:Operand} {fn:Fn} {bs cs:Array Value}
end
structure InT (β:Type) where
  rel:Hp→Value→β→Res→Prop
  mono:∀ {g g':Hp} {v:Value} {l:β} {r:Res},be g g'→rel g v l r→rel g' v l r
  one:∀ {g:Hp} {v:Value} {l:β} {r:Res},rel g v l r→v.oneCell'=true
def dY {K V:Type} (ek:K→Value) (ev:V→Value):InT (List (K×V)):=
 ⟨fun _ v m r=>∃b es ck,v=.map (some b)∧r=.obj b (.map es ck)∧cz ek ev es ck m,fun _ h=>h,fun ⟨b,_,_,h,_⟩=>by rw [h]; rfl⟩
structure cD {β:Type} (I:InT β) (g:Hp) (xs:List Value) (ll:List β) (G:List Res):Prop where
  lx:xs.length=ll.length
  lG:G.length=ll.length
  el:∀(i:Nat) (l:β),ll[i]?=some l→∃v r,xs[i]?=some v∧G[i]?=some r∧I.rel g v l r
section
variable {β:Type} {I:InT β} {g g':Hp} {xs ys:List Value} {ll mm:List β} {G H:List Res}
theorem cD.mono (h:cD I g xs ll G) (hg:be g g'):cD I g' xs ll G:=⟨h.lx,h.lG,fun i l hl=>by
 obtain ⟨v,r,h1,h2,h3⟩:=h.el i l hl;exact ⟨v,r,h1,h2,I.mono hg h3⟩⟩
theorem cD.nil:cD I g [] [] []:=⟨rfl,rfl,fun i l h=>by simp at h⟩
theorem cD.append (h:cD I g xs ll G) (b:cD I g ys mm H):cD I g (xs++ys) (ll++mm) (G++H):=by
 refine ⟨by simp [h.lx,b.lx],by simp [h.lG,b.lG],fun i l a=>?_⟩;have j:=h.lx;have f:=h.lG
 by_cases hi:i<ll.length
 ·rw [Jw hi] at a;obtain ⟨v,r,e,d,c⟩:=h.el i l a;exact ⟨v,r,by rw [Jw (by omega)]; exact e,by rw [Jw (by omega)]; exact d,c⟩
 ·rw [JK (by omega)] at a;obtain ⟨v,r,e,d,c⟩:=b.el _ l a;exact ⟨v,r,by rw [JK (by omega),j]; exact e,by rw [JK (by omega),f]; exact d,c⟩
theorem cD.cons {v:Value} {l:β} {r:Res} (h:I.rel g v l r) (h':cD I g ys mm H):cD I g (v::ys) (l::mm) (r::H):=by
 refine ⟨by simp [h'.lx],by simp [h'.lG],fun i x hx=>?_⟩;cases i with
 | zero=>simp at hx; subst hx; exact ⟨v,r,rfl,rfl,h⟩
 | succ i=>exact h'.el i x (by simpa using hx)
theorem cD.put (h:cD I g xs ll G) {k:Nat} {v:Value} {l':β} {r':Res} (hx:xs[k]?=some v) (b:I.rel g v l' r'):cD I g xs (ll.set k l') (G.set k r'):=by
 refine ⟨by simp [h.lx],by simp [h.lG],fun i l a=>?_⟩;have j:=(Jo.1 hx).1;have n:=h.lx;have m:=h.lG;rw [JM] at a;split at a
 ·rename_i e;subst e;rw [if_pos (by omega)] at a;obtain rfl:=Option.some.inj a;exact ⟨v,r',hx,by rw [List.getElem?_set_self (by omega)],b⟩
 ·rename_i e;obtain ⟨u,r,f,d,c⟩:=h.el i l a;exact ⟨u,r,f,by rw [List.getElem?_set_ne e]; exact d,c⟩
theorem cD.ones (h:cD I g xs ll G):∀v∈xs,v.oneCell'=true:=by
 intro v hv;obtain ⟨i,hi,rfl⟩:=JC.1 hv;have hl:i<ll.length:=by rw [←h.lx]; exact hi
 obtain ⟨u,r,e1,_,e3⟩:=h.el i _ (Jn hl);rw [Jn hi] at e1;rw [Option.some.inj e1];exact I.one e3
end
def qq:Ty Value:=⟨1,fun _ cs v=>cs=[v]∧v.oneCell'=true,fun _ h=>h,fun h=>by rw [h.1]; rfl,fun h v hv=>by rw [h.1] at hv; simp at hv; subst hv; exact h.2⟩
theorem vz {g:Hp} {xs:List Value} (h:∀v∈xs,v.oneCell'=true):ag qq g xs xs:=by
 refine ⟨by simp [qq],fun i x hx=>⟨?_,h x (List.mem_of_getElem? hx)⟩⟩;show (xs.drop (i*1)).take 1=[x];obtain ⟨hi,rfl⟩:=Jo.1 hx;rw [Nat.mul_one,List.drop_eq_getElem_cons hi];rfl
theorem qV {g:Hp} {xs ys:List Value} (h:ag qq g xs ys):xs=ys:=by
 have a:xs.length=ys.length:=by have:=h.1; simpa [qq] using this
 refine List.ext_getElem a fun i c b=>?_
 have:(xs.drop (i*1)).take 1=[ys[i]]:=(h.2 i _ (Jn b)).1;rw [Nat.mul_one,List.drop_eq_getElem_cons c] at this;simp only [List.take_succ_cons,List.take_zero,List.cons.injEq,and_true] at this;exact this
theorem BB {α β:Type} {B:Nat} {l m:List α} {r:List α} {l' m':List β} (h:dz B l m=some r) (h1:l'.length=l.length) (h2:m'.length=m.length):dz B l' m'=some (l'++m')∧r=l++m:=by
 obtain ⟨e,hb⟩:=nF h;refine ⟨?_,e⟩;unfold dz;rw [if_pos (by rw [h1,h2]; exact hb)]
theorem pU {α:Type}:∀ {l:List α} {i:Nat} (h:i<l.length),l.Perm (l[i]::l.eraseIdx i)
 | x::l,0,_=>List.Perm.refl _
 | x::l,i+1,h=>((pU (l:=l) (i:=i) (by simpa using h)).cons x).trans (List.Perm.swap _ _ _)
theorem Sep.perm {g0 g:Hp} {w0 w:World} {L L':List Res} (h:Sep g0 w0 g w L) (hp:L.Perm L'):Sep g0 w0 g w L':=
 ⟨h.ext,fun r hr=>h.ok r (hp.mem_iff.2 hr),fun r hr=>h.fresh r (hp.mem_iff.2 hr),(hp.pairwise_iff fun hxy b hb hc=>hxy b hc hb).1 h.apart⟩
theorem Gc {A G B:List Res} {k:Nat} {r:Res} (h:G[k]?=some r):(A++(G++B))[A.length+k]?=some r:=by
 have hk:=(Jo.1 h).1;rw [JK (by omega),Nat.add_sub_cancel_left,Jw hk];exact h
theorem HT {A G B:List Res} {k:Nat} {r:Res} (hk:k<G.length):(A++(G++B)).set (A.length+k) r=A++(G.set k r++B):=by
 rw [List.set_append_right _ _ (by omega),Nat.add_sub_cancel_left,List.set_append_left _ _ hk]
section
variable {g0 g:Hp} {w0 w:World} {A G B:List Res}
theorem Sep.gridAt {L:List Res} {β:Type} {I:InT β} {ll:List β} {i:Nat} {v:Value} {e:TypeId} {xs:List Value} (h:Sep g0 w0 g w L) (t:L[i]?=some (.row v e 1 ll.length xs)) (a:cD I g xs ll G) {q:Int} {l:β} (n:bK ll q=some l) :
 ∃b cap,v=.slice (some ⟨b,0,none⟩) ll.length cap∧∃u r,xs[q.toNat]?=some u∧G[q.toNat]?=some r∧I.rel g u l r∧
  ∀w',(Res.row v e 1 ll.length xs).ok w'→∀j y,[u][j]?=some y→w'.cell? ⟨b,0+q.toNat*1+j,none⟩=some y:=by
 obtain ⟨z,F,p⟩:=ah n;obtain ⟨u,r,c,B,A⟩:=a.el _ _ p;have s:L[i]?=some (.row v e qq.sz xs.length xs):=by rw [a.lx]; exact t
 have f:bK xs q=some u:=by
  obtain ⟨k,rfl⟩:=JF z;rw [JE] at c;have D:=(Jo.1 c).1;unfold bK;rw [if_pos (by omega),JE];exact c
 obtain ⟨b,cap,d,cs,x,o⟩:=h.rowEl s (vz a.ones) f;obtain ⟨rfl,_⟩:=x;rw [a.lx] at d;refine ⟨b,cap,d,u,r,c,B,A,fun w' m j y hy=>o w' ?_ j y hy⟩;rw [a.lx]; exact m
theorem Sep.gridMap {K V:Type} {ek:K→Value} {ev:V→Value} {ll a:List (List (K×V))} {m':List (K×V)} {xs:List Value} {b k d:Nat} {es c:Array MapEntry} {p:Int} (j:cD (dY ek ev) g xs ll G) (hx:xs[p.toNat]?=some (Value.map (some b)))
 (e:G[p.toNat]?=some (.obj b (.map es k))) (i:cz ek ev c d m') (f:gn ll p m'=some a) (h:Sep g0 w0 g w ((A++(G++B)).set (A.length+p.toNat) (.obj b (.map c d)))) :
 ∃G',cD (dY ek ev) g xs a G'∧a.length=ll.length∧Sep g0 w0 g w (A++(G'++B)):=by
 obtain ⟨m,l,rfl⟩:=bq f;rw [HT (Jo.1 e).1] at h;exact ⟨_,j.put hx ⟨b,c,d,rfl,rfl,i⟩,List.length_set,h⟩
end
section
variable {P:Program} {n:Fr} {Q:EPost} {E:Env} {w:World} {ops:Array Oper} {rest:List Oper} {d:Tmp} {ty:TypeId} {ps:String} {af:Array Edge} {g0 g:Hp} {w0:World} {A B G H:List Res}
theorem ye {β:Type} {I:InT β} {T el:TypeId} {G:Nat} {z:Value} {c:Array (Nat×Operand)} {i:Nat} {r:Res} {u:Value} {l:β}
 (F:P.underlying T=some (.slice el)) (x:dF P el false 1 G z) (s:Sep g0 w0 g w (A++B)) (m:A[i]?=some r) (h:I.rel g u l r)
 (v:(c.toList.map fun p=>(p.1,ev E p.2))=[(0,u)]) (y:Nat.blt d n.sz=true)
 (k:∀a w' b G',cD I g b [l] G'→Sep g0 w0 g w' ((.row a el 1 [l].length b::A.eraseIdx i)++(G'++B))→OW P n ops Q rest (bR E d a) w') :
 OW P n ops Q (⟨some d,.buildSlice T 1 c,ty,ps,af,none⟩::rest) E w:=by
 have f:=I.one h;have D:u.cells.toList=[u]:=aK f;refine bA (τ:=qq) [u] [u] F x (by decide) s rfl (by decide) v ⟨⟨D,f⟩,trivial⟩ y fun a w' b hr q=>?_
 obtain rfl:=qV hr;refine k a w' _ _ ((cD.nil (g:=g)).cons h) ?_;have j:=(Jo.1 m).1;have t:A[i]'j=r:=(Jo.1 m).2;refine q.perm ?_;have e:=pU j;rw [t] at e;have o:(A++B).Perm (A.eraseIdx i++([r]++B)):=(List.Perm.append_right B e).trans List.perm_middle.symm;exact List.Perm.cons _ o
theorem wK {β:Type} {I:InT β} {T el:TypeId} {h:Nat} {z:Value} {x y:Operand} {v u:Value} {ll mm r:List β} {xs ys:List Value} {i j:Nat}
 (R:P.underlying T=some (.slice el)) (K:dF P el false 1 h z) (s:z.cells.size=1) (N:0<h) (l:Sep g0 w0 g w (A++(H++(G++B))))
 (p:A[i]?=some (.row v el 1 ll.length xs)) (m:A[j]?=some (.row u el 1 mm.length ys)) (_:i≠j) (c:cD I g xs ll G) (b:cD I g ys mm H)
 (hx:ev E x=v) (hy:ev E y=u) (U:dz h ll mm=some r) (L:Nat.blt d n.sz=true)
 (k:∀a w' e G',cD I g e r G'→Sep g0 w0 g w' ((A.set i (.row a el 1 r.length e)).eraseIdx j++(G'++B))→OW P n ops Q rest (bR E d a) w') :
 OW P n ops Q (⟨some d,.call { callee:=.builtin .append,args:=#[x,y],argTypes:=#[T,T] },ty,ps,af,none⟩::rest) E w:=by
 obtain ⟨S,rfl⟩:=BB (l':=xs) (m':=ys) U c.lx b.lx;have o:=(Jo.1 p).1;have D:=(Jo.1 m).1;have J:(A++(H++(G++B)))[i]?=some (.row v el qq.sz xs.length xs):=by rw [Jw o,c.lx]; exact p
 have F:(A++(H++(G++B)))[j]?=some (.row u el qq.sz ys.length ys):=by rw [Jw D,b.lx]; exact m
 refine bL (τ:=qq) R K s (by decide) N l J (vz c.ones) hx hy (l.rowSrc F) (vz b.ones) S L fun a w' e hr f=>?_
 obtain rfl:=qV hr;refine k a w' _ _ (c.append b) ?_;have t:(xs++ys).length=(ll++mm).length:=by simp [c.lx,b.lx]
 rw [List.set_append_left _ _ o,t] at f;generalize W:A.set i (.row a el qq.sz (ll++mm).length (xs++ys))=A2 at f;have V:A.set i (.row a el 1 (ll++mm).length (xs++ys))=A2:=W;rw [V];have q:Sep g0 w0 g w' (A2.eraseIdx j++(H++(G++B))):=f.sub ((List.eraseIdx_sublist A2 j).append_right _);refine q.perm (List.Perm.append_left _ ?_);rw [Jv];exact Js _ _ _
end
end Go.Lx
namespace Go.Lx
open Go.RowKit Go.Maps
section
variable {P:Program} {n:Fr} {Q:EPost} {E:Env} {w:World} {ops:Array Oper} {rest:List Oper} {d:Tmp} {ty:TypeId} {ps:String} {af:Array Edge} {g0 g:Hp} {w0:World} {L:List Res}
theorem nE (w:World) (e:TypeId) (s:ByteArray):w.grownBy (Lib.bytesWorld w e s) none:=
 ⟨rfl,rfl,rfl,by rw [Lib.bytesWorld_size]; omega,fun k hk _=>Lib.bytesWorld_at_old w e s k hk⟩
theorem fZ {d':Option Tmp} {gd:Option (Nat×Bool)} {K V:Type} [BEq K] {ek:K→Value} {vf:V→Value} {T Tk Te:TypeId} {es:Array MapEntry} {h b i:Nat} {m:List (K×V)} {x y:Operand} {kk:K} {vv:V} (q:P.underlying T=some (.map Tk Te)) (c:kj P Tk ek)
 (l:Sep g0 w0 g w L) (n:L[i]?=some (.obj b (.map es h))) (d:cz ek vf es h m) (hx:ev E x=.map (some b)) (hy:ev E y=ek kk) (a:cn m kk=some vv) :
 bo P E ⟨d',.lookup T x y false,ty,ps,af,gd⟩ w (vf vv) w:=.inl (by
 have f:=(l.at n).out;simp only [Res.okB] at f;have o:=c.find kk es.toList (m.map (·.1)) w d.keys;have k:=d.val;rw [jT] at a;simp only [execOp,Instr.lookup,hx,hy,Sem.run_bind,run_underlying q,Jz,getObj,Sem.run,f,Sem.run_pure,c.check,o];cases hj:(m.map (·.1)).findIdx? (· == kk) with
 | none=>rw [hj] at a; cases a
 | some j=>
  have:=k j;rw [hj] at a;simp only [Jp] at a;cases hm':m[j]? with
  | none=>rw [hm'] at a; cases a
  | some p=>
   rw [hm'] at this a;cases he':es.toList[j]? with
   | none=>rw [he'] at this; simp at this
   | some e=>
    rw [he'] at this;simp only [Option.map_some,Option.some.injEq] at this a;simp only [Jp,he',Option.map_some,this,a];rfl)
end
end Go.Lx
namespace Go.Lx
open Go.RowKit Go.Maps Go.Proofs Go.Shelf
open Go.WideElems (Fit rd rg pl)
def wm (x:Int):List Int→List Int
 | []=>[x]
 | y::l=>if x≤y then x::y::l else y::wm x l
def kV:List Int→List Int
 | []=>[]
 | x::l=>wm x (kV l)
theorem nu (x:Int):∀l,(wm x l).Perm (x::l)
 | []=>List.Perm.refl _
 | y::l=>by
  unfold wm;split
  ·exact List.Perm.refl _
  ·exact ((nu x l).cons y).trans (List.Perm.swap _ _ _)
theorem pL:∀l,(kV l).Perm l
 | []=>List.Perm.refl _
 | x::l=>(nu x _).trans ((pL l).cons x)
theorem nZ (x:Int):∀l:List Int,l.Pairwise (·≤·)→(wm x l).Pairwise (·≤·)
 | [],_=>by simp [wm]
 | y::l,h=>by
  unfold wm;obtain ⟨b,c⟩:=List.pairwise_cons.1 h;split
  ·rename_i hxy;refine List.pairwise_cons.2 ⟨fun z a=>?_,h⟩;rcases JI.1 a with rfl|a
   ·exact hxy
   ·exact Int.le_trans hxy (b z a)
  ·rename_i hxy;refine List.pairwise_cons.2 ⟨fun z a=>?_,nZ x l c⟩;rcases JI.1 ((nu x l).mem_iff.1 a) with rfl|a
   ·omega
   ·exact b z a
theorem mI:∀l:List Int,(kV l).Pairwise (·≤·)
 | []=>List.Pairwise.nil
 | x::l=>nZ x _ (mI l)
theorem ol {d l:List Int} (h:d.Perm l):d.mergeSort leI=kV l:=by
 have g:∀a b c:Int,leI a b=true→leI b c=true→leI a c=true:=fun a b c f e=>by simp only [leI,decide_eq_true_eq] at *; exact Int.le_trans f e
 have i:∀a b:Int,(leI a b || leI b a)=true:=fun a b=>by simp only [leI,Bool.or_eq_true,decide_eq_true_eq]; exact Int.le_total a b
 refine List.Perm.eq_of_pairwise (le:=fun a b:Int=>a≤b) (fun a b _ _ f e=>Int.le_antisymm f e) ((List.pairwise_mergeSort g i d).imp fun h=>by simpa [leI] using h) (mI l) (((List.mergeSort_perm d leI).trans h).trans (pL l).symm)
def xG {V:Type} (m:List (Int×V)):Option (List Int):=if m.length≤17592186044416∧∀p∈m,-9223372036854775808≤p.1∧p.1≤9223372036854775807 then some (kV (m.map (·.1))) else none
theorem wh {V:Type} {m:List (Int×V)} {l:List Int} (h:xG m=some l):m.length≤17592186044416∧(∀p∈m,-9223372036854775808≤p.1∧p.1≤9223372036854775807)∧l=kV (m.map (·.1)):=by
 unfold xG at h;split at h
 ·rename_i hc; exact ⟨hc.1,hc.2,(Option.some.inj h).symm⟩
 ·cases h
def zb:Value→Option (DataW Unit×List MemPlace):=fun _=>some (.nil,[])
theorem yC {P:Program} {Tk:TypeId} {V:Type} {vf:V→Value} {es:Array MapEntry} {j b:Nat} {m:List (Int×V)} {w:World} (v:P.underlying Tk=some (.int .i64)) (t:w.heap[b]?=some (.map es j)) (c:cz (Value.int .i64) vf es j m)
 (A:m.length≤17592186044416) (hr:∀p∈m,-9223372036854775808≤p.1∧p.1≤9223372036854775807) :
 ∃k:DataW Unit,w.ownsMap P Tk zb b m.length k∧Maps.size k=m.length∧(intKeys k).Perm (m.map (·.1)):=by
 have l:∀x∈es.toList,∃a:Int,x.key=.int .i64 a∧rd P Tk zb x=some (.int .i64 a,.nil):=by
  intro x hx;have n:x.key∈es.toList.map (·.key):=JJ.2 ⟨x,hx,rfl⟩;rw [c.keys] at n;obtain ⟨a,u,o⟩:=JJ.1 n;obtain ⟨p,r,rfl⟩:=JJ.1 u;refine ⟨p.1,o.symm,?_⟩;have d:=hr p r;have q:(Lit.int .i64 p.1).wf=true:=by
   simp only [Lit.wf,Bool.and_eq_true,decide_eq_true_eq];exact ⟨d.1,d.2⟩
  have:keyOf P Tk x.key=some (.int .i64 p.1):=by
   rw [←o];simp [keyOf,v,mapKey,q]
  simp [rd,this,zb]
 refine ⟨_,⟨es,j,t,⟨?_,c.stamp,fun x hx=>?_⟩,by rw [c.size]; exact Nat.le_refl _,rfl⟩,?_,?_⟩
 ·rw [c.size]; unfold maxLen; omega
 ·obtain ⟨a,_,h⟩:=l x hx; exact ⟨_,h⟩
 ·show (List.foldr DataW.insert [] _).length=_;rw [length_sorted,JA,Array.length_toList,c.size]
 ·show ((List.foldr DataW.insert [] (es.toList.map (rg P Tk zb))).map fun p=>intOf p.1).Perm _;refine ((Go.WideShapes.sorted_perm _).map _).trans ?_;rw [JN];have e:es.toList.map ((fun p:Lit×DataW Unit=>intOf p.1)∘rg P Tk zb)=m.map (·.1):=by
   have s:∀i g:List Int,i.map (Value.int .i64)=g.map (Value.int .i64)→i=g:=by
    intro i g h;refine List.map_inj_right (f:=Value.int .i64) (fun x y h=>?_) |>.1 h;cases h; rfl
   refine s _ _ ?_;rw [←c.keys,JN];refine List.map_congr_left fun x hx=>?_
   obtain ⟨a,d,z⟩:=l x hx;simp [rg,z,d,intOf]
  rw [e]
def BN (P:Program) (f g1:FuncId) (T:TypeId):Prop:=∀(mb:Option Nat) (W:World),aT P f #[.map mb] W fun v w'=>v=.func (.func g1) #[] #[.pointer (some ⟨W.heap.size,0,none⟩)]∧w'=W.alloc (.cells #[.map mb] T)
theorem Aq {P:Program} {ρ:Ren} (L:SlLaysZI.n7 P ρ):BN P (ρ.f 7) (ρ.f 10) (ρ.t 23):=fun mb W=>(callsIn_wide.1 (AnyZI.keys_in L Fence.wide 5 trivial rfl mb W)).mono fun _ _ ⟨h1,h2⟩=>⟨_,h1,rfl,h2⟩
def te (P:Program) (f d:FuncId) (Tk:TypeId):Prop:=∀(Bm mb c:Nat) (b:DataW Unit) (w:World),Bm<w.heap.size→w.cell? ⟨Bm,0,none⟩=some (.map (some mb))→w.ownsMap P Tk zb mb c b→Maps.size b*8≤140737488355328→
 aT P f #[.func (.func d) #[] #[.pointer (some ⟨Bm,0,none⟩)]] w fun v w'=>∃a:List Int,a.Perm (intKeys b)∧w'.ownsRow w.heap.size Tk 1 v a.length ((a.mergeSort leI).map encZ)∧Below w.heap.size w w'
theorem vo {P:Program} {ρ ρ':Ren} (L:SlLaysZI.n7 P ρ) (L':SlLaysZI.n6 P ρ') (j:ρ'.t 26=ρ.t 26) (h:AnyZI.SortsIn P ρ' Fence.wide 4) (o:∀args w,(callFunc (ρ'.f 9) args).run P w=.ok (.enter (ρ'.f 9) args) w) (p:∀args w,(callFunc (ρ.f 10) args).run P w=.ok (.enter (ρ.f 10) args) w) :
 te P (ρ'.f 6) (ρ.f 10) (ρ.t 26):=by
 intro Bm mb d b w l k i hsz;have g:SeqGives Fence.wide 2 P (ρ.f 10) #[.pointer (some ⟨Bm,0,none⟩)] encZ (fun a=>a.Perm (intKeys b)) (Maps.size b) w:=AnyZI.keys_gives { L with } Fence.wide 2 trivial rfl (by omega) Bm mb d b w l k i;refine (callsIn_wide.1 (AnyZI.sorted_in L' Fence.wide 5 trivial trivial trivial trivial rfl (by omega) h o (ρ.f 10) _ trivial p _ _ (by unfold maxLen; omega) hsz w g)).mono ?_;rintro e w' ⟨v,a,rfl,n,c,q,m⟩;rw [j] at c;exact ⟨v,rfl,a,n,c,m⟩
section
variable {P:Program} {n:Fr} {Q:EPost} {E:Env} {w:World} {ops:Array Oper} {rest:List Oper} {d:Tmp} {ty:TypeId} {ps:String} {af:Array Edge} {g0 g:Hp} {w0:World} {L:List Res}
theorem Dy {f a:FuncId} {T:TypeId} {j:Array TypeId} {x:Operand} {mb:Option Nat} (i:BN P f a T) (e:CF P f) (c:Sep g0 w0 g w L) (hx:ev E x=.map mb) (h:Nat.blt d n.sz=true)
 (k:∀b w',Sep g0 w0 g w' (oG b T [.map mb]::L)→OW P n ops Q rest (bR E d (.func (.func a) #[] #[.pointer (some ⟨b,0,none⟩)])) w') :
 OW P n ops Q (⟨some d,.call { callee:=.value (.func f),args:=#[x],argTypes:=j },ty,ps,af,none⟩::rest) E w:=by
 refine C [.map mb] e (by simp [hx]) (i mb w) h ?_;rintro v w' ⟨rfl,rfl⟩;exact k _ _ (c.alloc _)
theorem zg {f t:FuncId} {Tk T:TypeId} {a5:Array TypeId} {x:Operand} {b mb i j y:Nat} {es:Array MapEntry} {V:Type} {vf:V→Value} {m:List (Int×V)} {l:List Int} (W:te P f t Tk) (S:CF P f) (Z:P.underlying Tk=some (.int .i64)) (a:Sep g0 w0 g w L)
 (R:L[i]?=some (oG b T [.map (some mb)])) (N:L[j]?=some (.obj mb (.map es y))) (H:cz (Value.int .i64) vf es y m) (K:xG m=some l) (hx:ev E x=.func (.func t) #[] #[.pointer (some ⟨b,0,none⟩)]) (U:Nat.blt d n.sz=true)
 (k:∀v w' xs,ag (ai .i64) g xs l→Sep g0 w0 g w' (.row v Tk (ai .i64).sz l.length xs::L)→OW P n ops Q rest (bR E d v) w') :
 OW P n ops Q (⟨some d,.call { callee:=.value (.func f),args:=#[x],argTypes:=a5 },ty,ps,af,none⟩::rest) E w:=by
 obtain ⟨h1,h2,rfl⟩:=wh K;have p:=(a.at R).out;have s:=(a.at N).out;simp only [Res.okB] at p s;obtain ⟨D0,G,hz,D⟩:=yC Z s H h1 h2;refine C [_] S (by simp [hx]) (W b mb _ D0 w (Array.getElem?_eq_some_iff.1 p).1 (by simp [World.cell?,p]) G (by omega)) U ?_;rintro v w' ⟨A,B,c,X⟩;have e:=ol (B.trans D);have I:A.length=(kV (m.map (·.1))).length:=by rw [←e,List.length_mergeSort]
 rw [e,I] at c;refine k v w' ((kV (m.map (·.1))).map encZ) ?_ ?_
 ·refine ⟨by simp [ai],fun i x hx=>?_⟩;show (List.drop (i*1) _).take 1=[Value.int .i64 x];obtain ⟨J,rfl⟩:=Jo.1 hx;rw [Nat.mul_one,List.drop_eq_getElem_cons (by simpa using J)];simp
 ·have hx:=mO a.imm X;have F:(Res.row v Tk (ai .i64).sz (kV (m.map (·.1))).length ((kV (m.map (·.1))).map encZ)).ok w':=⟨⟨c.1,by
   rcases c.2 with h|⟨q,cap,u,a1,_,a3⟩
   ·exact .inl h
   ·exact .inr ⟨q,cap,u,a1,Nat.zero_le _,a3⟩⟩⟩
  refine a.callOwn (L':=[_]) ⟨hx,by simpa using F,?_,by simp⟩;intro r hr q o;simp only [Jt] at hr;subst hr;rcases c.2 with ⟨rfl,_⟩|⟨q',cap,u,rfl,z,_⟩
  ·simp [Res.blk,Value.ownBlock] at o
  ·simp only [Res.blk,Value.ownBlock,Option.some.injEq] at o;subst o;exact ⟨z,a.none_at z⟩
end
def AC (l:List Int) (n:Int):Option (List Int):=if l=[]∧0≤n∧n≤17592186044416 then some [] else none
theorem CL {P:Program} {ρ:Ren} (L:Lays8.n4 P ρ) (c:(P.info? (ρ.t 25)).map (fun i=>(i.zero,i.size,i.bytes))=some (some (.int .i64 0),1,8)) {l:List Int} {k:Int} {r:List Int} (g:AC l k=some r) {g0:Hp} {w0:World} (n:dE g0 w0) :
 aT P (ρ.f 4) #[.slice none 0 0,.int .i64 k] w0 (fun v w'=>∃g' xs,ag (ai .i64) g' xs r∧Sep g0 w0 g' w' [.row v (ρ.t 25) (ai .i64).sz r.length xs]):=by
 unfold AC at g;split at g
 ·rename_i hc;obtain ⟨_,w,y⟩:=hc;obtain rfl:=Option.some.inj g;obtain ⟨q,rfl⟩:=JF w;cases j:P.info? (ρ.t 25) with
  | none=>rw [j] at c; cases c
  | some p=>
   rw [j] at c;simp only [Option.map_some,Option.some.injEq,Prod.mk.injEq] at c;obtain ⟨o,x,z3⟩:=c;rcases Nat.eq_zero_or_pos q with rfl|hq
   ·refine (Any8.slices_Grow_room L none 0 0 0 w0 (by omega) (by omega) (by omega) (by omega)).mono ?_;rintro e w' ⟨rfl,rfl⟩;exact ⟨_,rfl,g0,[],ag.nil,(Sep.start n).nilRow _ _⟩
   ·refine (Any8.slices_Grow_grow L p (.int .i64 0) j o (by omega) none 0 0 q [] w0 (by omega) (by omega) (by rw [z3]; omega) (by omega) (by simp) (fun _=>rfl) (fun a h=>by cases h)).mono ?_;rintro e w' ⟨rfl,rfl⟩;refine ⟨_,rfl,g0,[],ag.nil,?_⟩;have m:=(Sep.start n).drew.alloc (.cells (#[]++Builtin.zeroCells (Value.int .i64 0).cells (0+q - 0)++Builtin.zeroCells (Value.int .i64 0).cells (grownCap w0 (0+q) 0 (ρ.t 25) - (0+q))) (ρ.t 25));have d:=(m.at (i:=0) rfl).out;simp only [Res.okB] at d;have u:0+q≤grownCap w0 (0+q) 0 (ρ.t 25):=grownCap_ge w0 _ _ _;have s:grownCap w0 (0+q) 0 (ρ.t 25)≤maxLen:=grownCap_le_maxLen w0 _ _ _ (by unfold maxLen; omega);refine m.upd (i:=0) rfl (w':=_) ⟨rfl,rfl,rfl,Nat.le_refl _,fun _ _ _=>rfl⟩ (r':=.row _ (ρ.t 25) (ai .i64).sz 0 []) ⟨⟨by simp,.inr ⟨_,_,_,rfl,Nat.zero_le _,d,Nat.zero_le _,s,?_,by simp⟩⟩⟩ (fun b d=>.inl d);simp only [Nat.zero_add] at u ⊢;simp [Builtin.zeroCells,ai,Value.cells];omega
 ·cases g
end Go.Lx
namespace Go.Proofs
open Go.Shelf
def Tryz.lays137_ren:Go.Shelf.Ren:=⟨fun|137=>361|217=>305|266=>345|n=>n,fun|9=>9|5=>5|3=>3|n=>n,fun|n=>n⟩
theorem Tryz.lays137:Go.Proofs.Lays.n137 Tryz.prog Tryz.lays137_ren:={
 mixed:=by kernel_rfl
 f137:=Tryz.func361.trans (congrArg some (by kernel_rfl))
 f217:=Tryz.func305.trans (congrArg some (by kernel_rfl))
 f266:=Tryz.func345.trans (congrArg some (by kernel_rfl))
 t3:=IE
 a3:=Tryz.isAgg3
 z3:=Tryz.sizeOf3
 v3:=Tryz.zeroValue3
 t5:=IK
 a5:=Tryz.isAgg5
 z5:=Tryz.sizeOf5
 v5:=Tryz.zeroValue5
 t9:=IC
 a9:=Tryz.isAgg9
 z9:=Tryz.sizeOf9
 v9:=Tryz.zeroValue9 }
open Go.RowKit in
theorem Tryz.strings_IndexByte (s:ByteArray) (c:Int) (w:World) :
 Calls Tryz.prog 361 #[.string s,.int .u8 c] w fun e w'=>e=.returned (.int .i64 (Lib.indexByte s.data.toList c.toNat.toUInt8))∧w'=w:=Any.strings_IndexByte Tryz.lays137 s c w
def Tryz.grow215_ren:Go.Shelf.Ren:=⟨fun|4=>215|n=>n,fun|22=>35|25=>3|3=>3|4=>4|9=>9|20=>20|0=>0|n=>n,fun|n=>n⟩
theorem Tryz.grow215:Go.Proofs.Lays8.n4 Tryz.prog Tryz.grow215_ren:={
 mixed:=by kernel_rfl
 f4:=⟨Tryz.f215.name,by decide,Tryz.func215.trans (congrArg some (by kernel_rfl))⟩
 t0:=Jd
 a0:=Tryz.isAgg0
 z0:=Tryz.sizeOf0
 v0:=Tryz.zeroValue0
 t3:=IE
 a3:=Tryz.isAgg3
 z3:=Tryz.sizeOf3
 v3:=Tryz.zeroValue3
 t4:=IZ
 a4:=Tryz.isAgg4
 z4:=Tryz.sizeOf4
 v4:=Tryz.zeroValue4
 t9:=IC
 a9:=Tryz.isAgg9
 z9:=Tryz.sizeOf9
 v9:=Tryz.zeroValue9
 t20:=Jh
 a20:=Tryz.isAgg20
 z20:=Tryz.sizeOf20
 v20:=Tryz.zeroValue20
 t22:=IB
 a22:=Tryz.isAgg35
 z22:=Tryz.sizeOf35
 v22:=Tryz.zeroValue35 }
def Tryz.keys251_ren:Go.Shelf.Ren:=⟨fun|7=>251|10=>316|n=>n,fun|23=>375|26=>3|3=>4|28=>386|0=>0|27=>385|33=>85|4=>4|n=>n,fun|n=>n⟩
theorem Tryz.keys251:Go.Proofs.SlLaysZI.n7 Tryz.prog Tryz.keys251_ren:={
 mixed:=by kernel_rfl
 f7:=⟨Tryz.f251.name,by decide,Tryz.func251.trans (congrArg some (by kernel_rfl))⟩
 f10:=⟨Tryz.f316.name,by decide,Tryz.func316.trans (congrArg some (by kernel_rfl))⟩
 t0:=Jd
 a0:=Tryz.isAgg0
 z0:=Tryz.sizeOf0
 v0:=Tryz.zeroValue0
 t4:=IZ
 a4:=Tryz.isAgg4
 z4:=Tryz.sizeOf4
 v4:=Tryz.zeroValue4
 t23:=Tryz.underlying375
 a23:=Tryz.isAgg375
 z23:=Tryz.sizeOf375
 v23:=Tryz.zeroValue375
 t26:=IE
 a26:=Tryz.isAgg3
 z26:=Tryz.sizeOf3
 v26:=Tryz.zeroValue3
 t27:=Tryz.underlying385
 a27:=Tryz.isAgg385
 z27:=Tryz.sizeOf385
 v27:=Tryz.zeroValue385
 t28:=Tryz.underlying386
 a28:=Tryz.isAgg386
 z28:=Tryz.sizeOf386
 v28:=Tryz.zeroValue386
 t33:=Tryz.underlying85
 a33:=Tryz.isAgg85
 z33:=Tryz.sizeOf85
 v33:=Tryz.zeroValue85 }
def Tryz.sorted250_ren:Go.Shelf.Ren:=⟨fun|6=>250|8=>315|9=>161|11=>347|13=>219|12=>218|23=>281|24=>282|14=>272|15=>273|16=>274|17=>275|18=>276|19=>277|20=>278|21=>279|22=>280|25=>325|26=>326|27=>327|28=>328|29=>329|30=>330|31=>349|n=>n,fun|26=>3|28=>386|24=>35|0=>0|3=>3|37=>315|48=>368|50=>243|4=>4|40=>413|39=>412|45=>205|5=>5|9=>9|51=>441|55=>288|57=>458|58=>459|33=>85|n=>n,fun|n=>n⟩
theorem Tryz.sorted250:Go.Proofs.SlLaysZI.n6 Tryz.prog Tryz.sorted250_ren:={
 mixed:=by kernel_rfl
 f6:=⟨Tryz.f250.name,by decide,Tryz.func250.trans (congrArg some (by kernel_rfl))⟩
 f8:=⟨Tryz.f315.name,by decide,Tryz.func315.trans (congrArg some (by kernel_rfl))⟩
 f11:=⟨Tryz.f347.name,by decide,Tryz.func347.trans (congrArg some (by kernel_rfl))⟩
 t0:=Jd
 a0:=Tryz.isAgg0
 z0:=Tryz.sizeOf0
 v0:=Tryz.zeroValue0
 t24:=IB
 a24:=Tryz.isAgg35
 z24:=Tryz.sizeOf35
 v24:=Tryz.zeroValue35
 t26:=IE
 a26:=Tryz.isAgg3
 z26:=Tryz.sizeOf3
 v26:=Tryz.zeroValue3
 t28:=Tryz.underlying386
 a28:=Tryz.isAgg386
 z28:=Tryz.sizeOf386
 v28:=Tryz.zeroValue386
 i26:=by kernel_rfl }
def Tryz.sort161_ren:Go.Shelf.Ren:=⟨fun|5=>161|8=>219|7=>218|19=>281|20=>282|10=>272|11=>273|12=>274|13=>275|14=>276|15=>277|16=>278|17=>279|18=>280|30=>325|31=>326|32=>327|33=>328|34=>329|35=>330|40=>349|n=>n,fun|23=>35|25=>3|3=>3|32=>315|22=>35|0=>0|44=>368|46=>243|4=>4|36=>413|35=>412|41=>205|5=>5|9=>9|53=>441|57=>288|63=>458|64=>459|n=>n,fun|n=>n⟩
theorem Tryz.sort161:Go.Proofs.SlLaysM.n5 Tryz.prog Tryz.sort161_ren:={
 mixed:=by kernel_rfl
 f5:=⟨Tryz.f161.name,by decide,Tryz.func161.trans (congrArg some (by kernel_rfl))⟩
 f7:=⟨Tryz.f218.name,by decide,Tryz.func218.trans (congrArg some (by kernel_rfl))⟩
 f8:=Tryz.func219.trans (congrArg some (by kernel_rfl))
 f10:=⟨Tryz.f272.name,by decide,Tryz.func272.trans (congrArg some (by kernel_rfl))⟩
 f11:=⟨Tryz.f273.name,by decide,Tryz.func273.trans (congrArg some (by kernel_rfl))⟩
 f12:=⟨Tryz.f274.name,by decide,Tryz.func274.trans (congrArg some (by kernel_rfl))⟩
 f13:=⟨Tryz.f275.name,by decide,Tryz.func275.trans (congrArg some (by kernel_rfl))⟩
 f14:=⟨Tryz.f276.name,by decide,Tryz.func276.trans (congrArg some (by kernel_rfl))⟩
 f15:=⟨Tryz.f277.name,by decide,Tryz.func277.trans (congrArg some (by kernel_rfl))⟩
 f16:=⟨Tryz.f278.name,by decide,Tryz.func278.trans (congrArg some (by kernel_rfl))⟩
 f17:=⟨Tryz.f279.name,by decide,Tryz.func279.trans (congrArg some (by kernel_rfl))⟩
 f18:=⟨Tryz.f280.name,by decide,Tryz.func280.trans (congrArg some (by kernel_rfl))⟩
 f19:=Tryz.func281.trans (congrArg some (by kernel_rfl))
 f20:=Tryz.func282.trans (congrArg some (by kernel_rfl))
 f30:=⟨Tryz.f325.name,by decide,Tryz.func325.trans (congrArg some (by kernel_rfl))⟩
 f31:=Tryz.func326.trans (congrArg some (by kernel_rfl))
 f32:=Tryz.func327.trans (congrArg some (by kernel_rfl))
 f33:=⟨Tryz.f328.name,by decide,Tryz.func328.trans (congrArg some (by kernel_rfl))⟩
 f34:=⟨Tryz.f329.name,by decide,Tryz.func329.trans (congrArg some (by kernel_rfl))⟩
 f35:=⟨Tryz.f330.name,by decide,Tryz.func330.trans (congrArg some (by kernel_rfl))⟩
 f40:=⟨Tryz.f349.name,by decide,Tryz.func349.trans (congrArg some (by kernel_rfl))⟩
 t0:=Jd
 a0:=Tryz.isAgg0
 z0:=Tryz.sizeOf0
 v0:=Tryz.zeroValue0
 t3:=IE
 a3:=Tryz.isAgg3
 z3:=Tryz.sizeOf3
 v3:=Tryz.zeroValue3
 t4:=IZ
 a4:=Tryz.isAgg4
 z4:=Tryz.sizeOf4
 v4:=Tryz.zeroValue4
 t5:=IK
 a5:=Tryz.isAgg5
 z5:=Tryz.sizeOf5
 v5:=Tryz.zeroValue5
 t9:=IC
 a9:=Tryz.isAgg9
 z9:=Tryz.sizeOf9
 v9:=Tryz.zeroValue9
 t22:=IB
 a22:=Tryz.isAgg35
 z22:=Tryz.sizeOf35
 v22:=Tryz.zeroValue35
 t23:=IB
 a23:=Tryz.isAgg35
 z23:=Tryz.sizeOf35
 v23:=Tryz.zeroValue35
 t25:=IE
 a25:=Tryz.isAgg3
 z25:=Tryz.sizeOf3
 v25:=Tryz.zeroValue3
 t32:=Tryz.underlying315
 a32:=Tryz.isAgg315
 z32:=Tryz.sizeOf315
 v32:=Tryz.zeroValue315
 t35:=Tryz.underlying412
 a35:=Tryz.isAgg412
 z35:=Tryz.sizeOf412
 v35:=Tryz.zeroValue412
 t36:=Tryz.underlying413
 a36:=Tryz.isAgg413
 z36:=Tryz.sizeOf413
 v36:=Tryz.zeroValue413
 t41:=Tryz.underlying205
 a41:=Tryz.isAgg205
 z41:=Tryz.sizeOf205
 v41:=Tryz.zeroValue205
 t44:=Tryz.underlying368
 a44:=Tryz.isAgg368
 z44:=Tryz.sizeOf368
 v44:=Tryz.zeroValue368
 t46:=Ji
 a46:=Tryz.isAgg243
 z46:=Tryz.sizeOf243
 v46:=Tryz.zeroValue243
 t53:=Tryz.underlying441
 a53:=Tryz.isAgg441
 z53:=Tryz.sizeOf441
 v53:=Tryz.zeroValue441
 t57:=Tryz.underlying288
 a57:=Tryz.isAgg288
 z57:=Tryz.sizeOf288
 v57:=Tryz.zeroValue288
 t63:=Tryz.underlying458
 a63:=Tryz.isAgg458
 z63:=Tryz.sizeOf458
 v63:=Tryz.zeroValue458
 t64:=Tryz.underlying459
 a64:=Tryz.isAgg459
 z64:=Tryz.sizeOf459
 v64:=Tryz.zeroValue459 }
def Tryz.lays156_ren:Go.Shelf.Ren:=⟨fun|156=>32|165=>56|166=>57|169=>58|240=>117|241=>118|276=>183|277=>184|n=>n,fun|31=>62|9=>9|3=>3|4=>4|0=>0|20=>20|72=>128|76=>132|70=>125|37=>126|75=>131|127=>237|164=>305|5=>5|80=>134|n=>n,fun|n=>n⟩
theorem Tryz.lays156:Go.Proofs.Lays.n156 Tryz.prog Tryz.lays156_ren:={
 mixed:=by kernel_rfl
 f156:=Tryz.func32.trans (congrArg some (by kernel_rfl))
 f165:=Tryz.func56.trans (congrArg some (by kernel_rfl))
 f166:=Tryz.func57.trans (congrArg some (by kernel_rfl))
 f169:=Tryz.func58.trans (congrArg some (by kernel_rfl))
 f240:=Tryz.func117.trans (congrArg some (by kernel_rfl))
 f241:=Tryz.func118.trans (congrArg some (by kernel_rfl))
 f276:=Tryz.func183.trans (congrArg some (by kernel_rfl))
 f277:=Tryz.func184.trans (congrArg some (by kernel_rfl))
 t0:=Jd
 a0:=Tryz.isAgg0
 z0:=Tryz.sizeOf0
 v0:=Tryz.zeroValue0
 t3:=IE
 a3:=Tryz.isAgg3
 z3:=Tryz.sizeOf3
 v3:=Tryz.zeroValue3
 t4:=IZ
 a4:=Tryz.isAgg4
 z4:=Tryz.sizeOf4
 v4:=Tryz.zeroValue4
 t9:=IC
 a9:=Tryz.isAgg9
 z9:=Tryz.sizeOf9
 v9:=Tryz.zeroValue9
 t20:=Jh
 a20:=Tryz.isAgg20
 z20:=Tryz.sizeOf20
 v20:=Tryz.zeroValue20
 t31:=Tryz.underlying62
 a31:=Tryz.isAgg62
 z31:=Tryz.sizeOf62
 v31:=Tryz.zeroValue62
 t37:=IJ
 a37:=Tryz.isAgg126
 z37:=Tryz.sizeOf126
 v37:=Tryz.zeroValue126
 t70:=Tryz.underlying125
 a70:=Tryz.isAgg125
 z70:=Tryz.sizeOf125
 v70:=Tryz.zeroValue125
 t72:=Tryz.underlying128
 a72:=Tryz.isAgg128
 z72:=Tryz.sizeOf128
 v72:=Tryz.zeroValue128
 t75:=Tryz.underlying131
 a75:=Tryz.isAgg131
 z75:=Tryz.sizeOf131
 v75:=Tryz.zeroValue131
 t76:=Tryz.underlying132
 a76:=Tryz.isAgg132
 z76:=Tryz.sizeOf132
 v76:=Tryz.zeroValue132
 t127:=Tryz.underlying237
 a127:=Tryz.isAgg237
 z127:=Tryz.sizeOf237
 v127:=Tryz.zeroValue237
 t164:=Tryz.underlying305
 a164:=Tryz.isAgg305
 z164:=Tryz.sizeOf305
 v164:=Tryz.zeroValue305 }
theorem Tryz.Builder_Extra_156:Builder.Extra Tryz.prog Tryz.lays156_ren:={
 sizeBuilder:=by kernel_rfl
 liesBuilder:=by kernel_rfl
 t5:=IK
 a5:=Tryz.isAgg5
 z5:=Tryz.sizeOf5
 v5:=Tryz.zeroValue5
 infoByte:=by kernel_rfl
 cellsByte:=by kernel_rfl
 sizeByte:=by kernel_rfl
 neB5:=by decide }
open Go.RowKit in
theorem Tryz.strings_Join_none (a:Option Addr) (c:Nat) (sep:ByteArray) (w:World) :
 Calls Tryz.prog 32 #[.slice a 0 c,.string sep] w fun e w'=>e=.returned (.string ⟨#[]⟩)∧w'=w:=Any.strings_Join_none Tryz.lays156 Tryz.Builder_Extra_156 a c sep w
open Go.RowKit in
theorem Tryz.strings_Join (b o c:Nat) (xs:List ByteArray) (a:ByteArray) (w:World) (f:∀(j:Nat) x,xs[j]?=some x→w.cell? ⟨b,o+j,none⟩=some (.string x)) (h:b<w.heap.size) (i:xs.length≤140737488355328) (g:xs.length≤c) (d:(Lib.join (xs.map (·.data.toList)) a.data.toList).length≤140737488355328) :
 Calls Tryz.prog 32 #[.slice (some ⟨b,o,none⟩) xs.length c,.string a] w fun e w'=>e=.returned (.string ⟨(Lib.join (xs.map (·.data.toList)) a.data.toList).toArray⟩)∧Below w.heap.size w w':=Any.strings_Join Tryz.lays156 Tryz.Builder_Extra_156 b o c xs a w f h i g d
end Go.Proofs
