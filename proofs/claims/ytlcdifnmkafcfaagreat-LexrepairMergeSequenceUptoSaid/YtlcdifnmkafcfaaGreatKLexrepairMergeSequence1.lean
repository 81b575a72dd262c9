/- Part 1. -/
import Derived.WalkKit
import Derived.StillTailTactics
import Derived.Laws.AppendOwn
import Derived.Below
import Derived.TacticsIn
import Derived.OrdersIn
import Derived.LoopNIn
import Derived.RangeFuncRecord
import Derived.Laws.MakeOwn
import Derived.Laws.BytesString
import Derived.MapKept
import Derived.Laws.IdiomStrings
import Derived.OrdersHeld
import Derived.ProofKit
import Derived.OpenShut
import Derived.ShutString
import Derived.ChangeOld
import Derived.Deep.Slices
import Derived.WalkSpells
import Derived.Laws.Cover1
import Derived.Laws.Small
import Derived.Laws.CopyRow
import Derived.Laws.IdiomCopy
import Derived.Laws.Runes
import Derived.Laws.Strings2
import Derived.Laws.Slices
import Derived.Lib.LaidTab
import Derived.Lib.LaidU8
import Derived.RecoverIn
import Derived.RangeFuncLeaves
import Derived.Lib.ConvBytes
import Derived.WideShapes
import Derived.Shelf.SlIterI.Sorted
import Derived.Shelf.Spec.SlicesGrow
import Derived.JoinedCond
import Derived.Shelf.Small.Strs
import Derived.Shelf.Strings.Search1
import Derived.Shelf.Strings.Search2
import Derived.Shelf.Strings.Cut
import Derived.Shelf.LaysM
import Derived.Shelf.Strings.Shaped
import Derived.Test.YtlcdifnmkafcfaaGreatProg
import Derived.Test.YtlcdifnmkafcfaaGreatRows
import Derived.Lib.IndexLaws
namespace Go.Lx
theorem Z.{u} {α : Sort u} {a : α} : a = a := rfl
open Go.RowKit
structure Env where
  s:Nat→Value
  ds:List Deferred
instance:CoeFun Env (fun _=>Nat→Value):=⟨Env.s⟩
def dD (E:Env) (k:Nat) (v:Value):Env:=⟨fun t=>bif Nat.beq t k then v else E.s t,E.ds⟩
def mA (E:Env):Option Tmp→Value→Env
  | some d,v=>dD E d v
  | none,_=>E
def ev (E:Env):Operand→Value
  | .tmp t=>E.s t
  | .const v=>v
  | .global g=>.pointer (some ⟨g,0,none⟩)
  | .func f=>.func (.func f) #[] #[]
theorem bS {E:Env} {k:Nat} {v:Value} (h:E k=v):dD E k v=E:=by
  cases E with
  | mk s ds=>
    simp only [dD,Env.mk.injEq,and_true]
    funext t
    cases hb:Nat.beq t k
    · rfl
    · have:=Nat.eq_of_beq_eq_true hb; subst this; exact h.symm
theorem cH {E:Env} {k:Nat} {v:Value} (h:E k=v):∃E0,E=dD E0 k v:=⟨E,(bS h).symm⟩
theorem ce {E:Env} {k1:Nat} {v1:Value} (h1:E k1=v1) {k2:Nat} {v2:Value} (h2:E k2=v2):∃E0,E=dD (dD E0 k2 v2) k1 v1:=⟨E,by rw [bS h2,bS h1]⟩
theorem cb {E:Env} {k1:Nat} {v1:Value} (h1:E k1=v1) {k2:Nat} {v2:Value} (h2:E k2=v2) {k3:Nat} {v3:Value} (h3:E k3=v3):∃E0,E=dD (dD (dD E0 k3 v3) k2 v2) k1 v1:=⟨E,by rw [bS h3,bS h2,bS h1]⟩
theorem cv {E:Env} {k1:Nat} {v1:Value} (h1:E k1=v1) {k2:Nat} {v2:Value} (h2:E k2=v2) {k3:Nat} {v3:Value} (h3:E k3=v3) {k4:Nat} {v4:Value} (h4:E k4=v4):∃E0,E=dD (dD (dD (dD E0 k4 v4) k3 v3) k2 v2) k1 v1:=⟨E,by rw [bS h4,bS h3,bS h2,bS h1]⟩
theorem de {E:Env} {k1:Nat} {v1:Value} (h1:E k1=v1) {k2:Nat} {v2:Value} (h2:E k2=v2) {k3:Nat} {v3:Value} (h3:E k3=v3) {k4:Nat} {v4:Value} (h4:E k4=v4) {k5:Nat} {v5:Value} (h5:E k5=v5):∃E0,E=dD (dD (dD (dD (dD E0 k5 v5) k4 v4) k3 v3) k2 v2) k1 v1:=⟨E,by rw [bS h5,bS h4,bS h3,bS h2,bS h1]⟩
theorem eg {E:Env} {k1:Nat} {v1:Value} (h1:E k1=v1) {k2:Nat} {v2:Value} (h2:E k2=v2) {k3:Nat} {v3:Value} (h3:E k3=v3) {k4:Nat} {v4:Value} (h4:E k4=v4) {k5:Nat} {v5:Value} (h5:E k5=v5) {k6:Nat} {v6:Value} (h6:E k6=v6):∃E0,E=dD (dD (dD (dD (dD (dD E0 k6 v6) k5 v5) k4 v4) k3 v3) k2 v2) k1 v1:=⟨E,by rw [bS h6,bS h5,bS h4,bS h3,bS h2,bS h1]⟩
theorem dY {E:Env} {k:Nat} {d:Value} (q:E k=d) {j:Nat} {c:Value} (p:E j=c) {i:Nat} {v3:Value} (o:E i=v3) {h:Nat} {v4:Value} (n:E h=v4) {g:Nat} {v5:Value} (m:E g=v5) {f:Nat} {b:Value} (h6:E f=b) {e:Nat} {a:Value} (l:E e=a):∃r,E=dD (dD (dD (dD (dD (dD (dD r e a) f b) g v5) h v4) i v3) j c) k d:=⟨E,by rw [bS l,bS h6,bS m,bS n,bS o,bS p,bS q]⟩
theorem cC {E:Env} {m:Nat} {e:Value} (t:E m=e) {l:Nat} {d:Value} (s:E l=d) {k:Nat} {v3:Value} (r:E k=v3) {j:Nat} {v4:Value} (q:E j=v4) {i:Nat} {v5:Value} (p:E i=v5) {h:Nat} {c:Value} (h6:E h=c) {g:Nat} {b:Value} (o:E g=b) {f:Nat} {a:Value} (n:E f=a):∃u,E=dD (dD (dD (dD (dD (dD (dD (dD u f a) g b) h c) i v5) j v4) k v3) l d) m e:=⟨E,by rw [bS n,bS o,bS h6,bS p,bS q,bS r,bS s,bS t]⟩
structure Fr where
  sz:Nat
  ro:Option Nat
abbrev Fz (n:Fr):Fence:={ fn:=fun _=>True,depth:=none,alive:=false,round:=n.ro }
structure eH (n:Fr) (E:Env) (a:Act):Prop where
  defers:a.defers=E.ds
  size:a.tmps.size=n.sz
  get:∀t,a.tmps.getD t undef=E t
theorem eH.eval {n:Fr} {E:Env} {a:Act} (h:eH n E a):a.eval=ev E:=by
  funext x
  cases x with
  | tmp t=>exact h.get t
  | _=>rfl
def jq (n:Fr):Option Tmp→Bool
  | some d=>Nat.blt d n.sz
  | none=>true
theorem eH.put {n:Fr} {E:Env} {a:Act} (h:eH n E a) {d:Option Tmp} (hd:jq n d=true) (v:Value):eH n (mA E d v) (a.put d v):=by
  cases d with
  | none=>exact h
  | some d=>
    have hd':d<n.sz:=Nat.le_of_ble_eq_true hd
    refine ⟨h.defers,by simp [Act.put,h.size],fun t=>?_⟩
    simp only [Act.put,mA,dD]
    cases hb:Nat.beq t d
    · have hne:¬ d=t:=fun e=>by subst e; simp at hb
      have:=h.get t
      simp only [cond_false,←this,Array.getD_eq_getD_getElem?,Array.getElem?_setIfInBounds_ne hne]
    · have:=Nat.eq_of_beq_eq_true hb
      subst this
      have hs:=h.size
      simp [Array.getD_eq_getD_getElem?,hs,hd']
theorem eH.same {n:Fr} {E:Env} {a:Act} {d:Option Tmp} {v:Value} (h:eH n E (a.put d v)):∃E',eH n E' a∧E.ds=E'.ds:=by
  refine ⟨⟨fun t=>a.tmps.getD t undef,a.defers⟩,⟨rfl,?_,fun t=>rfl⟩,?_⟩
  · have:=h.size
    cases d <;> simpa [Act.put] using this
  · rw [←h.defers]; cases d <;> rfl
def kH (args:List Value):Env:=⟨fun t=>args.getD t undef,[]⟩
theorem jK (args:List Value) (n:Fr) (h:args.length≤n.sz):eH n (kH args) ⟨args.toArray++Array.replicate (n.sz - args.toArray.size) undef,[]⟩:=by
  refine ⟨rfl,by simp; omega,fun t=>?_⟩
  simp only [kH,Array.getD_eq_getD_getElem?,List.getD_eq_getElem?_getD]
  by_cases ht:t<args.length
  · simp [Array.getElem?_append,ht]
  · by_cases a:t - args.length<n.sz - args.length
    · simp [Array.getElem?_append,ht,a]
    · simp [Array.getElem?_append,ht,a]
abbrev EPost:=Exit→Env→World→Prop
def lm (n:Fr) (Q:EPost):Exit→Act→World→Prop:=fun e a w=>∃E,eH n E a∧Q e E w
def WP (P:Program) (n:Fr) (c:Code) (Q:EPost) (E:Env) (w:World):Prop:=
  ∀a,eH n E a→c.wpIn (Fz n) 0 P (lm n Q) a w
theorem ka {n:Fr} {m:Nat} {P:Program} {f:FuncId} {args:Array Value} {w:World} {R:Ending→World→Prop}:CallsIn (Fz n) m P f args w R↔Calls P f args w R:=
  callsIn_wide (n:=m)
class eQ (Q:EPost):Prop where
  ok:∀c E E' w,E.ds=E'.ds→Q (.panic c) E w→Q (.panic c) E' w
def pJ (R:Env→World→Prop) (Q:EPost):EPost:=fun e E w=>match e with
  | .normal=>R E w
  | e=>Q e E w
def tw (id:Nat) (Q:EPost):EPost:=fun e E w=>match e with
  | .exit i=>if i=id then Q .normal E w else Q (.exit i) E w
  | e=>Q e E w
def xq (Q:EPost):EPost:=fun e E w=>match e with
  | .goto _=>False
  | e=>Q e E w
instance {Q:EPost} [h:eQ Q]:eQ (xq Q):=⟨h.ok⟩
theorem eC {P:Program} {b:Frame} {a:Act} {k:List Item} {cs:List Frame} {w:World} {c:Code}:step P (lone (b.atR a (.code (.scope c)::k)) cs w)=.next (lone (b.atR a (.code c::.inScope c::k)) cs w):=
  step_lone_go (by simp [stepG,stepG.exec,Frame.atR])
theorem oK {P:Program} {b:Frame} {a:Act} {k:List Item} {cs:List Frame} {w:World} {c:Code}:step P (lone (b.atR a (.inScope c::k)) cs w)=.next (lone (b.atR a k) cs w):=
  step_lone_go (by simp [stepG,stepG.exec,Frame.atR])
instance {R:Env→World→Prop} {Q:EPost} [h:eQ Q]:eQ (pJ R Q):=⟨h.ok⟩
instance {id:Nat} {Q:EPost} [h:eQ Q]:eQ (tw id Q):=⟨h.ok⟩
section
variable {P:Program} {n:Fr} {Q:EPost} {E:Env} {w:World}
theorem WP.mono {c:Code} {Q':EPost} (h:WP P n c Q E w) (hq:∀e E w,Q e E w→Q' e E w):WP P n c Q' E w:=
  fun a ha=>wpIn_mono (h a ha) fun e _ w ⟨E,f,q⟩=>⟨E,f,hq e E w q⟩
theorem am (h:Q .normal E w):WP P n .skip Q E w:=fun _ ha=>wpIn_skip ⟨E,ha,h⟩
theorem aM {id:Nat} (h:Q (.exit id) E w):WP P n (.exit id) Q E w:=fun _ ha=>wpIn_exit ⟨E,ha,h⟩
theorem aF (h:Q .ret E w):WP P n .ret Q E w:=fun _ ha=>wpIn_ret ⟨E,ha,h⟩
theorem av {x y:Code} (h:WP P n x (pJ (WP P n y Q) Q) E w):WP P n (.seq x y) Q E w:=
  fun a ha=>wpIn_seq (wpIn_mono (h a ha) fun e a' w' hq=>by
    obtain ⟨E',f,q⟩:=hq
    cases e with
    | normal=>exact q a' f
    | _=>exact ⟨E',f,q⟩)
theorem aA {x y:Code} (R:Env→World→Prop) (h:WP P n x (pJ R Q) E w) (h2:∀E w,R E w→WP P n y Q E w):WP P n (.seq x y) Q E w:=
  av (h.mono fun e E w q=>by
    cases e with
    | normal=>exact h2 E w q
    | _=>exact q)
theorem al {id:Nat} {c:Code} (h:WP P n c (tw id Q) E w):WP P n (.block id c) Q E w:=
  fun a ha=>wpIn_block (wpIn_mono (h a ha) fun e a' w' hq=>by
    obtain ⟨E',f,q⟩:=hq
    cases e with
    | exit i=>
      simp only [tw] at q
      simp only [Exit.inBlock]
      split
      · rename_i hi; rw [if_pos hi] at q; exact ⟨E',f,q⟩
      · rename_i hi; rw [if_neg hi] at q; exact ⟨E',f,q⟩
    | _=>exact ⟨E',f,q⟩)
theorem xc {l:Nat} (h:Q .normal E w):WP P n (.label l) Q E w:=fun _ ha=>wpIn_label ⟨E,ha,h⟩
theorem xb {c:Code} (h:WP P n c (xq Q) E w):WP P n (.scope c) Q E w:=by
  intro a ha b k cs hro hb hr
  have d:(lone (b.atR a (.code (.scope c)::k)) cs w).fenced P (Fz n):=fenced_calm hb hr rfl
  obtain ⟨e,a₁,w₁,⟨g,f,hq⟩,harr⟩:=h a ha b (.inScope c::k) cs hro hb hr
  cases e with
  | normal=>exact ⟨.normal,a₁,w₁,⟨g,f,hq⟩,.head d eC (StepsIn.trans harr (.one (fenced_calm hb hr rfl) oK))⟩
  | exit id=>
    have hx:exitTo id (.inScope c::k)=exitTo id k:=by simp [exitTo]
    exact ⟨.exit id,a₁,w₁,⟨g,f,hq⟩,fun k' hk=>.head d eC (harr.1 k' (by rw [hx]; exact hk)),
      fun hr' hk=>let ⟨k₁,j,i⟩:=harr.2 hr' (by rw [hx]; exact hk); ⟨k₁,j,.head d eC i⟩⟩
  | goto l=>exact hq.elim
  | ret=>exact ⟨_,a₁,w₁,⟨g,f,hq⟩,.of_steps (.one d eC) harr⟩
  | panic ch=>exact ⟨_,a₁,w₁,⟨g,f,hq⟩,.of_steps (.one d eC) harr⟩
  | outgrown=>exact ⟨_,a₁,w₁,⟨g,f,hq⟩,.of_steps (.one d eC) harr⟩
theorem aj {c:Operand} {x y:Code} {b:Bool} (hc:ev E c=.bool b) (hb:b=true) (h:WP P n x Q E w):WP P n (.cond c x y) Q E w:=
  fun a ha=>wpIn_cond (t:=true) (by rw [ha.eval,hc,hb]) (h a ha)
theorem ag {c:Operand} {x y:Code} {b:Bool} (hc:ev E c=.bool b) (hb:b=false) (h:WP P n y Q E w):WP P n (.cond c x y) Q E w:=
  fun a ha=>wpIn_cond (t:=false) (by rw [ha.eval,hc,hb]) (h a ha)
inductive cD (σ ρ:Type) where
  | next (s:σ)
  | stop (r:ρ)
def aT {σ ρ:Type} (body:σ→Option (cD σ ρ)):Nat→σ→Option ρ
  | 0,_=>none
  | k+1,s=>match body s with
    | some (.next s')=>aT body k s'
    | some (.stop r)=>some r
    | none=>none
def LQ {σ ρ:Type} (I:σ→Env→World→Prop) (r:ρ) (Q:EPost) (o:cD σ ρ):EPost:=fun e E w=>match e with
  | .outgrown=>False
  | .normal=>(match o with
    | .next s=>I s E w
    | .stop _=>False)
  | e=>(match o with
    | .next _=>False
    | .stop r'=>r'=r→Q e E w)
instance {σ ρ:Type} {I:σ→Env→World→Prop} {r:ρ} {Q:EPost} {o:cD σ ρ} [h:eQ Q]:eQ (LQ I r Q o):=⟨fun c E E' w hd q=>by
  cases o with
  | next s=>exact q
  | stop r'=>exact fun hr=>h.ok c E E' w hd (q hr)⟩
theorem aP {σ ρ:Type} {c:Code} {bodyM:σ→Option (cD σ ρ)} (I:σ→Env→World→Prop) {k:Nat} {s:σ} {r:ρ} (hM:aT bodyM k s=some r) (b:I s E w)
    (round:∀s o E w,bodyM s=some o→I s E w→WP P n c (LQ I r Q o) E w):WP P n (.loop c) Q E w:=by
  intro a ha
  refine wpIn_loop_rounds k ?_
  induction k generalizing s E w a with
  | zero=>simp [aT] at hM
  | succ k ih=>
    rw [roundsIn_succ]
    simp only [aT] at hM
    cases hb:bodyM s with
    | none=>rw [hb] at hM; simp at hM
    | some o=>
      rw [hb] at hM
      refine wpIn_mono (round s o E w hb b a ha) ?_
      rintro e a' w' ⟨E',f',q⟩
      cases o with
      | next s'=>cases e <;> first|exact ih hM q a' f'|exact q.elim
      | stop r'=>
        have hr:r'=r:=by simpa using hM
        cases e <;> first|exact q.elim|exact ⟨E',f',q hr⟩
def OW (P:Program) (n:Fr) (ops:Array Oper) (Q:EPost) (l:List Oper) (E:Env) (w:World):Prop:=
  ∀a,eH n E a→wpListIn (Fz n) 0 P ops (lm n Q) l a w
structure cr (P:Program) (E:Env) (o:Oper) (w:World) (v:Value) (w':World):Prop where
  inl::
  out:(execOp (ev E) o).run P w=.ok (.value v) w'
structure uC (P:Program) (E:Env) (o:Oper) (w:World) (w':World):Prop where
  inl::
  out:(execOp (ev E) o).run P w=.ok .skip w'
theorem wc {ρ:Operand→Value} {o:Oper} {r:Next} {w':World} (h:(execOp ρ o).run P w=.ok r w') (hr:∀d,r≠.defer d):∀c,o.op≠.defer c:=by
  intro c hc
  unfold execOp at h
  rw [hc] at h
  simp only [Sem.run_bind] at h
  cases hx:(resolve ρ c o.type).run P w with
  | ok d a=>rw [hx] at h; simp only [Result.andThen_ok,Sem.run_pure,Result.ok.injEq] at h; exact hr d h.1.symm
  | halt x a=>rw [hx] at h; cases h
theorem eY {ro:Option Nat} {ρ:Operand→Value} {o:Oper} {r:Next} {w':World} (h:(execOp ρ o).run P w=.ok r w') (hr:∀d,r≠.defer d):(o.semAt ro ρ).run P w=.ok r w':=by
  rw [Oper.semAt_eq _ _ _ (wc h hr)]; exact h
theorem ai {id:Nat} {l:List Oper} (h:OW P n l.toArray Q l E w):WP P n (.region id l.toArray false) Q E w:=
  fun a ha=>wpIn_region_lit (h a ha)
theorem aa {ops:Array Oper} (h:Q .normal E w):OW P n ops Q [] E w:=fun _ ha=>⟨E,ha,h⟩
theorem fg {o:Oper} {y:Nat→Option Bool} (hg:o.guard=none):Region.wanted o y=true:=by simp [Region.wanted,hg]
theorem nW {o:Oper} {v:Value} {w':World} {a:Act} {K:Act→World→Prop} {Q:Exit→Act→World→Prop} (ha:eH n E a) (hr:(execOp (ev E) o).run P w=.ok (.value v) w') (hk:K (a.put o.dst v) w'):o.wpIn (Fz n) 0 P a w K Q:=by
  refine ⟨fun _ _=>trivial,?_⟩
  rw [ha.eval,eY hr (by simp)]
  exact hk
theorem kv {o:Oper} {f:FuncId} {args:Array Value} {w':World} {a:Act} {K:Act→World→Prop} {Q:Exit→Act→World→Prop} (ha:eH n E a) (hr:(execOp (ev E) o).run P w=.ok (.enter f args) w')
    (hc:Calls P f args w' (fun e w''=>match e with|.returned v=>K (a.put o.dst v) w''|.panicked c=>Q (.panic c) a w''|.outgrown=>False)):o.wpIn (Fz n) 0 P a w K Q:=by
  refine ⟨fun _ _=>trivial,?_⟩
  rw [ha.eval,eY hr (by simp)]
  refine ⟨fun h=>(by cases h),ka.2 (hc.mono fun e w'' h=>?_)⟩
  cases e with
  | outgrown=>exact h.elim
  | _=>exact h
theorem sn {ops:Array Oper} {o:Oper} {rest:List Oper} {v:Value} {w':World} (hr:cr P E o w v w') (hd:jq n o.dst=true) (hg:o.guard=none)
    (k:OW P n ops Q rest (mA E o.dst v) w'):OW P n ops Q (o::rest) E w:=by
  intro a ha
  exact wpListIn_plain hg fun K hK=>nW ha hr.out (hK _ _ (k _ (ha.put hd v)))
theorem tu {ops:Array Oper} {o:Oper} {rest:List Oper} {w':World} (hr:uC P E o w w') (hd:o.dst=none) (hg:o.guard=none)
    (k:OW P n ops Q rest E w'):OW P n ops Q (o::rest) E w:=by
  intro a ha
  refine wpListIn_plain hg fun K hK=>⟨fun _ _=>trivial,?_⟩
  have hk:=hK _ _ (k _ ha)
  rw [ha.eval,eY hr.out (by simp)]
  show K (a.put o.dst undef) w'
  rw [hd]
  exact hk
theorem eu {ops:Array Oper} {a:Act} (ha:eH n E a) {j:Nat} {oj:Oper} {d:Tmp} {b:Bool} (hj:ops[j]?=some oj) (hd:oj.dst=some d) (hb:E d=.bool b):yielded ops a.tmps j=some b:=by
  have:=ha.get d
  rw [hb,Array.getD_eq_getD_getElem?] at this
  unfold yielded
  simp only [hj,Option.bind_some,hd]
  cases hx:a.tmps[d]? with
  | none=>rw [hx] at this; simp [undef] at this
  | some x=>rw [hx] at this; simp at this; subst this; rfl
theorem yV {ops:Array Oper} {o:Oper} {rest:List Oper} {j:Nat} {want:Bool} {oj:Oper} {d:Tmp} {b:Bool} (hg:o.guard=some (j,want)) (hj:ops[j]?=some oj) (hdj:oj.dst=some d)
    (hb:ev E (.tmp d)=.bool b) (hne:(b == want)=false) (hd:jq n o.dst=true) (k:OW P n ops Q rest (mA E o.dst undef) w):OW P n ops Q (o::rest) E w:=by
  intro a ha
  refine wpListIn_step fun K hK=>?_
  have hy:=eu ha hj hdj hb
  rw [if_neg (by simp only [Region.wanted,hg,hy]; intro h; simp at h; simp [h] at hne)]
  exact ⟨fun _ _=>trivial,hK _ _ (k _ (ha.put hd undef))⟩
theorem yU {ops:Array Oper} {o:Oper} {rest:List Oper} {j:Nat} {want:Bool} {oj:Oper} {d:Tmp} {b:Bool} {v:Value} {w':World} (hg:o.guard=some (j,want)) (hj:ops[j]?=some oj) (hdj:oj.dst=some d)
    (hb:ev E (.tmp d)=.bool b) (hne:(b == want)=true) (hr:cr P E o w v w') (hd:jq n o.dst=true) (k:OW P n ops Q rest (mA E o.dst v) w'):OW P n ops Q (o::rest) E w:=by
  intro a ha
  refine wpListIn_step fun K hK=>?_
  have hy:=eu ha hj hdj hb
  rw [if_pos (by simp only [Region.wanted,hg,hy]; simpa using hne)]
  exact nW ha hr.out (hK _ _ (k _ (ha.put hd v)))
def bi (P:Program) (f:FuncId) (args:Array Value) (w:World) (R:Value→World→Prop):Prop:=
  Calls P f args w fun e w'=>∃v,e=.returned v∧R v w'
theorem yW {ops:Array Oper} {o:Oper} {rest:List Oper} {f:FuncId} {args:Array Value} {R:Value→World→Prop}
    (hr:(execOp (ev E) o).run P w=.ok (.enter f args) w) (hd:jq n o.dst=true) (hg:o.guard=none) (hc:bi P f args w R)
    (k:∀v w',R v w'→OW P n ops Q rest (mA E o.dst v) w'):OW P n ops Q (o::rest) E w:=by
  intro a ha
  refine wpListIn_plain hg fun K hK=>kv ha hr (hc.mono fun e w' ⟨v,he,hR⟩=>?_)
  subst he
  exact hK _ _ (k v w' hR _ (ha.put hd v))
theorem so {ops:Array Oper} {o:Oper} {rest:List Oper} {f:FuncId} {args:Array Value} {R:Value→World→Prop} {j:Nat} {want:Bool} {oj:Oper} {d:Tmp} {b:Bool}
    (hg:o.guard=some (j,want)) (hj:ops[j]?=some oj) (hdj:oj.dst=some d) (hb:ev E (.tmp d)=.bool b) (hne:(b == want)=true)
    (hr:(execOp (ev E) o).run P w=.ok (.enter f args) w) (hd:jq n o.dst=true) (hc:bi P f args w R)
    (k:∀v w',R v w'→OW P n ops Q rest (mA E o.dst v) w'):OW P n ops Q (o::rest) E w:=by
  intro a ha
  refine wpListIn_step fun K hK=>?_
  have hy:=eu ha hj hdj hb
  rw [if_pos (by simp only [Region.wanted,hg,hy]; simpa using hne)]
  refine kv ha hr (hc.mono fun e w' ⟨v,he,hR⟩=>?_)
  subst he
  exact hK _ _ (k v w' hR _ (ha.put hd v))
def SW (P:Program) (n:Fr) (ops:Array Oper) (w:World) (Q:Env→Prop) (l:List Oper) (E:Env):Prop:=
  ∀a,eH n E a→wpStill P ops w (fun a'=>∃E',eH n E' a'∧Q E') l a
theorem bY {ops:Array Oper} {Q:Env→Prop} (h:Q E):SW P n ops w Q [] E:=fun _ ha=>⟨E,ha,h⟩
theorem BN {ops:Array Oper} {Q:Env→Prop} {o:Oper} {rest:List Oper} {v:Value} (hr:cr P E o w v w) (hd:jq n o.dst=true) (hg:o.guard=none)
    (k:SW P n ops w Q rest (mA E o.dst v)):SW P n ops w Q (o::rest) E:=by
  intro a ha
  unfold wpStill
  rw [if_pos (fg hg)]
  have hk:=k _ (ha.put hd v)
  unfold Oper.still
  rw [ha.eval]
  rw [hr.out,Oper.stillUpon_value]; exact hk
theorem yR {ops:Array Oper} {Q:Env→Prop} {o:Oper} {rest:List Oper} {j:Nat} {want:Bool} {oj:Oper} {d:Tmp} {b:Bool} (hg:o.guard=some (j,want)) (hj:ops[j]?=some oj) (hdj:oj.dst=some d)
    (hb:ev E (.tmp d)=.bool b) (hne:(b == want)=false) (hd:jq n o.dst=true) (k:SW P n ops w Q rest (mA E o.dst undef)):SW P n ops w Q (o::rest) E:=by
  intro a ha
  have hy:=eu ha hj hdj hb
  unfold wpStill
  rw [if_neg (by simp only [Region.wanted,hg,hy]; intro h; simp at h; simp [h] at hne)]
  exact k _ (ha.put hd undef)
theorem yQ {ops:Array Oper} {Q:Env→Prop} {o:Oper} {rest:List Oper} {j:Nat} {want:Bool} {oj:Oper} {d:Tmp} {b:Bool} {v:Value} (hg:o.guard=some (j,want)) (hj:ops[j]?=some oj) (hdj:oj.dst=some d)
    (hb:ev E (.tmp d)=.bool b) (hne:(b == want)=true) (hr:cr P E o w v w) (hd:jq n o.dst=true) (k:SW P n ops w Q rest (mA E o.dst v)):SW P n ops w Q (o::rest) E:=by
  intro a ha
  have hy:=eu ha hj hdj hb
  unfold wpStill
  rw [if_pos (by simp only [Region.wanted,hg,hy]; simpa using hne)]
  have hk:=k _ (ha.put hd v)
  unfold Oper.still
  rw [ha.eval]
  rw [hr.out,Oper.stillUpon_value]; exact hk
theorem kk {ops:Array Oper} {Q Q':Act→Prop} (hq:∀a,Q a→Q' a):∀(l:List Oper) (a:Act),wpStill P ops w Q l a→wpStill P ops w Q' l a
  | [],a,h=>hq a h
  | o::l,a,h=>by
    unfold wpStill at *
    split
    · rename_i hw; rw [if_pos hw] at h; exact Oper.still_mono (fun a' h'=>kk hq l a' h') h
    · rename_i hw; rw [if_neg hw] at h; exact kk hq l _ h
theorem lh {ops:Array Oper} {i:Nat} {a:Act} {K:Act→Prop} {K':Act→World→Prop} {Q':Exit→Act→World→Prop} (h:∀a,K a→K' a w) (hh:stOp P ops w i K a):wpOpIn (Fz n) 0 P ops Q' i K' a w:=by
  unfold stOp at hh
  unfold wpOpIn
  split
  · rename_i ho; simp only [ho] at hh; exact h _ hh
  · rename_i o ho
    simp only [ho] at hh
    split
    · rename_i hw
      simp only [hw,if_true] at hh
      unfold Oper.still at hh
      refine ⟨fun _ _=>trivial,?_⟩
      cases hr:(execOp a.eval o).run P w with
      | halt x b=>rw [hr] at hh; exact hh.elim
      | ok r b=>
        rw [hr] at hh
        cases r with
        | value v=>rw [eY hr (by simp)]; obtain ⟨rfl,hh⟩:=hh; exact h _ hh
        | skip=>rw [eY hr (by simp)]; obtain ⟨rfl,hh⟩:=hh; exact h _ hh
        | enter f args=>
          rw [eY hr (by simp)]
          obtain ⟨rfl,v,hc,hh⟩:=hh
          refine ⟨fun h=>(by cases h),ka.2 (hc.mono fun e w'' he=>?_)⟩
          obtain ⟨rfl,rfl⟩:=he
          exact h _ hh
        | _=>exact hh.elim
    · rename_i hw; simp only [hw] at hh; exact ⟨fun _ _=>trivial,h _ hh⟩
theorem js {ops:Array Oper} {Q:Act→Prop} {Q':Exit→Act→World→Prop} (hQ:∀a,Q a→Q' .normal a w):∀(aR:Nat) (listed:Array Bool) (a:Act),
    wpAnyS P .any ops w Q aR listed a→wpAnyIn (Fz n) 0 P .any ops Q' aR listed a w
  | 0,_,_,h=>⟨h.1,hQ _ h.2⟩
  | aR+1,_,_,h=>⟨fun h0=>hQ _ (h.1 h0),fun i hi=>lh (fun a'=>js hQ aR _ a') (h.2 i hi)⟩
theorem kc {ops:Array Oper} {m g:Nat} {L:Array Bool→Act→Prop} {Q':Exit→Act→World→Prop} (hL:∀listed a,L listed a→wpAnyIn (Fz n) 0 P .any ops Q' g listed a w) :
    ∀(f:Nat) (listed:Array Bool) (a:Act),wpAnyL P .any ops w m L f listed a→wpAnyIn (Fz n) 0 P .any ops Q' (f+g) listed a w
  | 0,listed,a,h=>by rw [Nat.zero_add]; exact hL _ _ h
  | f+1,listed,a,h=>by
    rw [show f+1+g=(f+g)+1 by omega]
    exact ⟨fun b=>absurd b h.1,fun i hi=>lh (fun a' h'=>kc hL f _ a' h') (h.2 i hi).2⟩
theorem ly {ops:Array Oper} {Q':Exit→Act→World→Prop}:∀(l:List Oper) (k:Nat) (listed:Array Bool) (a:Act) (w:World),(∀j,l[j]?=ops[k+j]?)→
    Region.seqB .any ops l.length k listed=true→wpListIn (Fz n) 0 P ops Q' l a w→wpAnyIn (Fz n) 0 P .any ops Q' l.length listed a w
  | [],_,_,_,_,_,hB,h=>⟨by simpa [Region.seqB] using hB,h⟩
  | o::l,k,listed,a,w,hl,hB,h=>by
    have c:ops[k]?=some o:=by simpa using (hl 0).symm
    simp only [List.length_cons,Region.seqB,Bool.and_eq_true,decide_eq_true_eq] at hB
    refine ⟨fun b=>(by rw [hB.1] at b; cases b),fun i hi=>?_⟩
    rw [hB.1] at hi
    have hik:i=k:=by simpa using hi
    subst hik
    have hw:wpOpIn (Fz n) 0 P ops Q' i (wpListIn (Fz n) 0 P ops Q' l) a w:=by unfold wpOpIn; simp only [c]; exact h
    exact wpOpIn_mono (fun a' w' h'=>ly l (i+1) _ a' w' (fun j=>by have:=hl (j+1); simpa [Nat.add_assoc,Nat.add_comm 1 j] using this) hB.2 h') hw
theorem cK {id:Nat} {l:List Oper} (hm:P.follows .mixedOrders=true) (hB:Region.lexB .any l.toArray=true)
    (h:SW P n l.toArray w.drew (fun E'=>Q .normal E' w.drew) l E):WP P n (.region id l.toArray true) Q E w:=by
  intro a ha
  simp only [Region.lexB,Bool.and_eq_true] at hB
  refine wpIn_region_any hm (js (w:=w.drew) (Q:=fun a'=>lm n Q .normal a' w.drew) (fun _ h=>h) _ _ _ ?_)
  have:=wpAnyS_lex (md:=.any) hB.1 l.toArray.toList 0 (Array.replicate l.toArray.size false) a (by simp) (by simpa using hB.2) (by simpa using h a ha)
  simpa [lm] using this
theorem dg {id:Nat} {l:List Oper} (m:Nat) (hm:P.follows .mixedOrders=true) (hB:Region.lexTailB .any l.toArray m=true)
    (h:SW P n l.toArray w.drew (fun E'=>OW P n l.toArray Q (l.drop m) E' w.drew) (l.take m) E):WP P n (.region id l.toArray true) Q E w:=by
  intro a ha
  have h:=kk (fun a' ⟨_,f,q⟩=>q a' f) _ _ (h a ha)
  simp only [Region.lexTailB,Bool.and_eq_true,decide_eq_true_eq] at hB
  obtain ⟨⟨⟨⟨hsel,hn⟩,hs⟩,hc⟩,hlex⟩:=hB
  have hn':m<l.length:=by simpa using hn
  have htl:(l.take m).length=m:=by simp; omega
  have hdl:(l.drop m).length=l.toArray.size - m:=by simp
  have b:HeadInv .any l.toArray m (Array.replicate l.toArray.size false):=
    ⟨by simp,fun j oj _ hl=>(by rw [getD_replicate_false] at hl; cases hl),fun t _ ht=>getD_in (by simpa using ht) (getD_replicate_false _ _)⟩
  have H:=wpAnyL_lex (md:=.any) (g:=l.toArray.size - m) hsel hs hc hn (l.take m) 0 _ a (fun j hj=>by
    have hj':j<m:=by rw [htl] at hj; exact hj
    simp [hj']) (by simpa using htl) b (by rw [htl]; exact hlex) h
  refine wpIn_region_any hm ?_
  have:=kc (n:=n) (Q':=lm n Q) (g:=l.toArray.size - m) (fun listed a' hL=>by
    have:=ly (n:=n) (Q':=lm n Q) (l.drop m) m listed a' w.drew (fun j=>by simp [List.getElem?_drop]) (by rw [hdl]; exact hL.1) hL.2
    rwa [hdl] at this) _ _ _ H
  rw [htl,show m+(l.toArray.size - m)=l.toArray.size by omega] at this
  exact this
def lz (P:Program) (fn:Func) (n:Fr) (E:Env) (w:World) (v:Value):Prop:=∀a,eH n E a→(results fn a.tmps).run P w=.ok v w
def FL (P:Program) (fn:Func) (n:Fr) (E:Env) (R:Value→World→Prop):List Deferred→World→Prop
  | [],w=>∃v,lz P fn n E w v∧R v w
  | d::ds,w=>∃D w',d={ target:=.collected D,args:=#[] }∧(Instr.takeDeferred D).run P w=.ok [] w'∧FL P fn n E R ds w'
def FQ (P:Program) (fn:Func) (n:Fr) (R:Value→World→Prop):EPost:=fun e E w=>match e with
  | .normal|.ret=>FL P fn n E R E.ds w
  | _=>False
instance {P:Program} {fn:Func} {n:Fr} {R:Value→World→Prop}:eQ (FQ P fn n R):=⟨fun _ _ _ _ _ q=>q⟩
theorem aG {fn:Func} {R:Value→World→Prop} {ds:List Deferred} (hd:ds=[]) (h:∃v,lz P fn n E w v∧R v w):FL P fn n E R ds w:=by subst hd; exact h
theorem mh {fn:Func} {R:Value→World→Prop} {a:Act} (ha:eH n E a):∀(ds:List Deferred) (w:World),FL P fn n E R ds w→LeavesInM (Fz n) 0 P fn a.tmps (fun e w'=>∃v,e=.returned v∧R v w') ds .returning w
  | [],_,⟨v,hr,hR⟩=>⟨v,hr a ha,v,rfl,hR⟩
  | _::ds,_,⟨D,w',hd,ht,h⟩=>⟨by simp,.inl ⟨D,w',by rw [hd],ht,mh ha ds w' h⟩⟩
theorem aD {f:FuncId} {fn:Func} {c:Code} {m:Nat} {args:List Value} {R:Value→World→Prop} (hf:P.funcs[f]?=some fn) (hb:fn.body=some c) (hn:fn.ntmps=m) (hl:Nat.ble args.length m=true)
    (h:WP P ⟨m,none⟩ c (FQ P fn ⟨m,none⟩ R) (kH args) w):bi P f args.toArray w R:=by
  subst hn
  refine callsIn_wide (n:=0) |>.1 (callsIn_of_wp_marks (F:=Fz ⟨fn.ntmps,none⟩) hf hb trivial ?_)
  refine wpIn_mono (h _ (jK args _ (Nat.le_of_ble_eq_true hl))) ?_
  rintro e a w ⟨E,hfit,q⟩
  cases e <;> first
    | exact q.elim
    | (show LeavesInM _ _ _ _ _ _ a.defers _ _; rw [hfit.defers]; exact mh hfit E.ds w q)
end
theorem kS {P:Program} {fn:Func} {n:Fr} {E:Env} {w:World} (h:fn.results=#[]):lz P fn n E w (.tuple #[]):=fun a _=>results_none h a.tmps P w
theorem ab {α β:Type} {o:Option α} {f:α→Option β} {r:β} (h:o.bind f=some r):∃a,o=some a∧f a=some r:=Option.bind_eq_some_iff.1 h
theorem an {α:Type} {c:Bool} {x y:Option α} {r:α} (h:(bif c then x else y)=some r):(c=true∧x=some r)∨(c=false∧y=some r):=by cases c <;> simp_all
end Go.Lx
namespace Go.Lx
open Go.RowKit
abbrev Hp:=Nat→Option Obj
def dp (g:Hp) (w:World):Prop:=∀b o,g b=some o→w.heap[b]?=some o
def aY (g g':Hp):Prop:=∀b o,g b=some o→g' b=some o
theorem aY.refl (g:Hp):aY g g:=fun _ _ h=>h
theorem aY.trans {g g' g'':Hp} (h:aY g g') (h':aY g' g''):aY g g'':=fun b o x=>h' b o (h b o x)
theorem dp.lt {g:Hp} {w:World} (h:dp g w) {b:Nat} {o:Obj} (hb:g b=some o):b<w.heap.size:=(Array.getElem?_eq_some_iff.1 (h b o hb)).1
structure dC (g:Hp) (w:World) (g':Hp) (w':World):Prop where
  below:Below w.heap.size w w'
  old:∀b,b<w.heap.size→g' b=g b
  imm:dp g' w'
theorem dC.le {g g':Hp} {w w':World} (h:dC g w g' w') (hi:dp g w):aY g g':=fun b o hb=>by rw [h.old b (hi.lt hb)]; exact hb
theorem dC.refl {g:Hp} {w:World} (h:dp g w):dC g w g w:=⟨Below.refl _ _,fun _ _=>rfl,h⟩
theorem dC.drew {g g':Hp} {w w':World} (h:dC g w g' w'):dC g w g' w'.drew:=⟨h.below.drew,h.old,h.imm⟩
inductive Res where
  | obj (b:Nat) (o:Obj)
  | row (v:Value) (e:TypeId) (sz n:Nat) (xs:List Value)
abbrev rV (b:Nat) (T:TypeId) (cs:List Value):Res:=.obj b (.cells cs.toArray T (0,0))
def Res.blk:Res→Option Nat
  | .obj b _=>some b
  | .row v _ _ _ _=>v.ownBlock
def Res.okB (w:World):Res→Prop
  | .obj b o=>w.heap[b]?=some o
  | .row v e sz n xs=>w.ownsRow 0 e sz v n xs
structure Res.ok (w:World) (r:Res):Prop where
  out:r.okB w
theorem Res.lt {w:World} {r:Res} (h:r.ok w) {b:Nat} (hb:r.blk=some b):b<w.heap.size:=by
  have h:=h.out
  cases r with
  | obj b' o=>simp [Res.blk] at hb; subst hb; exact (Array.getElem?_eq_some_iff.1 h).1
  | row v e sz n xs=>exact (World.ownsRow.lt h b hb).2
theorem Res.ok.kept {w w':World} {r:Res} (h:r.ok w) {row:Option Nat} (hg:w.grownBy w' row) (hne:r.blk=none∨r.blk≠row):r.ok w':=by
  have h:=h.out
  refine ⟨?_⟩
  cases r with
  | obj b o=>
    simp only [Res.okB] at *
    rw [hg.block b (Array.getElem?_eq_some_iff.1 h).1 (by simpa [Res.blk] using hne)]
    exact h
  | row v e sz n xs=>exact World.ownsRow.kept h hg hne
structure Sep (g0:Hp) (w0:World) (g:Hp) (w:World) (L:List Res):Prop where
  ext:dC g0 w0 g w
  ok:∀r∈L,r.ok w
  fresh:∀r∈L,∀b,r.blk=some b→w0.heap.size≤b∧g b=none
  apart:L.Pairwise fun r s=>∀b,r.blk=some b→s.blk≠some b
section
variable {g0 g:Hp} {w0 w:World} {L:List Res}
theorem Sep.start (h:dp g0 w0):Sep g0 w0 g0 w0 []:=⟨dC.refl h,by simp,by simp,List.Pairwise.nil⟩
theorem Sep.imm (h:Sep g0 w0 g w L):dp g w:=h.ext.imm
theorem Sep.none_at (h:Sep g0 w0 g w L) {b:Nat} (hb:w.heap.size≤b):g b=none:=by
  cases hg:g b with
  | none=>rfl
  | some o=>have:=h.imm.lt hg; omega
theorem Sep.drew (h:Sep g0 w0 g w L):Sep g0 w0 g w.drew L:=
  ⟨h.ext.drew,fun r hr=>(h.ok r hr).kept (row:=none) ⟨rfl,rfl,rfl,Nat.le_refl _,fun _ _ _=>rfl⟩ (by cases r.blk <;> simp),h.fresh,h.apart⟩
theorem Sep.alloc (h:Sep g0 w0 g w L) (o:Obj):Sep g0 w0 g (w.alloc o) (.obj w.heap.size o::L):=by
  have hs:=h.ext.below.size
  refine ⟨⟨h.ext.below.alloc hs o,h.ext.old,fun b o' hb=>?_⟩,?_,?_,?_⟩
  · rw [Below.heap_alloc _ _ _ (h.imm.lt hb)]; exact h.imm b o' hb
  · intro r hr
    rcases List.mem_cons.1 hr with rfl|hr
    · exact ⟨heap_alloc_new w o⟩
    · exact (h.ok r hr).kept (World.grownBy_alloc w o none) (by cases r.blk <;> simp)
  · intro r hr b hb
    rcases List.mem_cons.1 hr with rfl|hr
    · simp [Res.blk] at hb; subst hb; exact ⟨hs,h.none_at (Nat.le_refl _)⟩
    · exact h.fresh r hr b hb
  · refine List.Pairwise.cons ?_ h.apart
    intro s hs' b hb hsb
    simp [Res.blk] at hb
    subst hb
    have:=Res.lt (h.ok s hs') hsb
    omega
theorem Sep.nilRow (h:Sep g0 w0 g w L) (e:TypeId) (sz:Nat):Sep g0 w0 g w (.row (.slice none 0 0) e sz 0 []::L):=by
  refine ⟨h.ext,?_,?_,?_⟩
  · intro r hr
    rcases List.mem_cons.1 hr with rfl|hr
    · exact ⟨⟨by simp,.inl ⟨rfl,rfl⟩⟩⟩
    · exact h.ok r hr
  · intro r hr b hb
    rcases List.mem_cons.1 hr with rfl|hr
    · simp [Res.blk,Value.ownBlock] at hb
    · exact h.fresh r hr b hb
  · exact List.Pairwise.cons (by intro s _ b hb; simp [Res.blk,Value.ownBlock] at hb) h.apart
theorem Sep.at (h:Sep g0 w0 g w L) {i:Nat} {r:Res} (hi:L[i]?=some r):r.ok w:=h.ok r (List.mem_of_getElem? hi)
theorem Sep.upd (h:Sep g0 w0 g w L) {i:Nat} {r r':Res} (hi:L[i]?=some r) {w':World} (hg:w.grownBy w' r.blk) (hok:r'.ok w')
    (hb:∀b,r'.blk=some b→r.blk=some b∨w.heap.size≤b):Sep g0 w0 g w' (L.set i r'):=by
  have hr:=List.mem_of_getElem? hi
  have hfr:=h.fresh r hr
  have hlt:∀b,r.blk=some b→b<w.heap.size:=fun b hb=>Res.lt (h.ok r hr) hb
  have hs:=h.ext.below.size
  have hil:i<L.length:=(List.getElem?_eq_some_iff.1 hi).1
  have hapart:∀(j:Nat) (s:Res),j≠i→L[j]?=some s→∀b,s.blk=some b→r.blk≠some b:=by
    intro j s hji hj b hb hrb
    obtain ⟨hjl,hj⟩:=List.getElem?_eq_some_iff.1 hj
    obtain ⟨hil,hi'⟩:=List.getElem?_eq_some_iff.1 hi
    have hp:=(List.pairwise_iff_getElem.1 h.apart)
    rcases Nat.lt_or_gt_of_ne hji with hlt'|hlt'
    · exact hp j i hjl hil hlt' b (by rw [hj]; exact hb) (by rw [hi']; exact hrb)
    · exact hp i j hil hjl hlt' b (by rw [hi']; exact hrb) (by rw [hj]; exact hb)
  refine ⟨⟨h.ext.below.trans ⟨hg.os,hg.tape,hg.output,hg.size,fun k hk=>hg.block k (by omega) (fun e=>?_)⟩,h.ext.old,fun b o hb=>?_⟩,?_,?_,?_⟩
  · have:=(hfr k e.symm).1; omega
  · rw [hg.block b (h.imm.lt hb) (fun e=>by rw [(hfr b e.symm).2] at hb; cases hb)]; exact h.imm b o hb
  · intro s hs'
    obtain ⟨j,hj,hjs⟩:=List.mem_iff_getElem.1 hs'
    rw [List.getElem_set] at hjs
    split at hjs
    · subst hjs; exact hok
    · rename_i hne
      have hjl:j<L.length:=by simpa using hj
      have hj':L[j]?=some s:=by rw [List.getElem?_eq_getElem hjl,hjs]
      refine (h.ok s (List.mem_of_getElem? hj')).kept hg ?_
      cases hsb:s.blk with
      | none=>exact .inl rfl
      | some b=>exact .inr (fun e=>hapart j s (Ne.symm hne) hj' b hsb e.symm)
  · intro s hs' b hb'
    obtain ⟨j,hj,hjs⟩:=List.mem_iff_getElem.1 hs'
    rw [List.getElem_set] at hjs
    split at hjs
    · subst hjs
      rcases hb b hb' with hb|hb
      · exact hfr b hb
      · exact ⟨by omega,h.none_at hb⟩
    · have hjl:j<L.length:=by simpa using hj
      have hj':L[j]?=some s:=by rw [List.getElem?_eq_getElem hjl,hjs]
      exact h.fresh s (List.mem_of_getElem? hj') b hb'
  · rw [List.pairwise_iff_getElem]
    intro j k hj hk hjk b hjb hkb
    have hjl:j<L.length:=by simpa using hj
    have hkl:k<L.length:=by simpa using hk
    have hp:=(List.pairwise_iff_getElem.1 h.apart) j k hjl hkl hjk
    rw [List.getElem_set] at hjb hkb
    by_cases hij:i=j
    · subst hij
      rw [if_pos rfl] at hjb
      rw [if_neg (by omega)] at hkb
      have hk':L[k]?=some L[k]:=List.getElem?_eq_getElem hkl
      rcases hb b hjb with hb|hb
      · exact hapart k _ (by omega) hk' b hkb hb
      · have:=Res.lt (h.ok _ (List.mem_of_getElem? hk')) hkb; omega
    · rw [if_neg hij] at hjb
      by_cases hik:i=k
      · subst hik
        rw [if_pos rfl] at hkb
        have hj':L[j]?=some L[j]:=List.getElem?_eq_getElem hjl
        rcases hb b hkb with hb|hb
        · exact hapart j _ (by omega) hj' b hjb hb
        · have:=Res.lt (h.ok _ (List.mem_of_getElem? hj')) hjb; omega
      · rw [if_neg hik] at hkb
        exact hp b hjb hkb
theorem Sep.call (h:Sep g0 w0 g w L) {g':Hp} {w':World} (he:dC g w g' w'):Sep g0 w0 g' w' L:=by
  have hs:=h.ext.below.size
  have hgb:w.grownBy w' none:=⟨he.below.os,he.below.tape,he.below.output,he.below.size,fun k hk _=>he.below.block k hk⟩
  refine ⟨⟨h.ext.below.trans (he.below.mono hs),fun b hb=>(he.old b (by omega)).trans (h.ext.old b hb),he.imm⟩,fun r hr=>(h.ok r hr).kept hgb (by cases r.blk <;> simp),fun r hr b hb=>?_,h.apart⟩
  have a:=h.fresh r hr b hb
  exact ⟨a.1,by rw [he.old b (Res.lt (h.ok r hr) hb)]; exact a.2⟩
theorem Sep.sub (h:Sep g0 w0 g w L) {L':List Res} (hl:List.Sublist L' L):Sep g0 w0 g w L':=
  ⟨h.ext,fun r hr=>h.ok r (hl.subset hr),fun r hr=>h.fresh r (hl.subset hr),h.apart.sublist hl⟩
def rD (g:Hp) (b:Nat) (o:Obj):Hp:=fun k=>if k=b then some o else g k
theorem Sep.release (h:Sep g0 w0 g w L) {i:Nat} {r:Res} (hi:L[i]?=some r) {b:Nat} {o:Obj} (hb:r.blk=some b) (ho:w.heap[b]?=some o) :
    Sep g0 w0 (rD g b o) w (L.eraseIdx i)∧aY g (rD g b o):=by
  have hr:=List.mem_of_getElem? hi
  have hf:=h.fresh r hr b hb
  refine ⟨⟨⟨h.ext.below,fun k hk=>?_,fun k o' hk=>?_⟩,fun s hs=>h.ok s ((List.eraseIdx_sublist L i).subset hs),fun s hs k hk=>?_,h.apart.sublist (List.eraseIdx_sublist L i)⟩,fun k o' hk=>?_⟩
  · simp only [rD]; rw [if_neg (by omega)]; exact h.ext.old k hk
  · simp only [rD] at hk
    split at hk
    · rename_i e; subst e; rw [ho]; exact hk
    · exact h.imm k o' hk
  · obtain ⟨j,hjl,hj,rfl⟩:=List.mem_eraseIdx_iff_getElem.1 hs
    have hfs:=h.fresh _ (List.getElem_mem hjl) k hk
    refine ⟨hfs.1,?_⟩
    simp only [rD]
    rw [if_neg]
    · exact hfs.2
    · intro e
      subst e
      obtain ⟨hil,hi'⟩:=List.getElem?_eq_some_iff.1 hi
      have hp:=List.pairwise_iff_getElem.1 h.apart
      rcases Nat.lt_or_gt_of_ne hj with hlt|hlt
      · exact hp j i hjl hil hlt _ hk (by rw [hi']; exact hb)
      · exact hp i j hil hjl hlt _ (by rw [hi']; exact hb) hk
  · simp only [rD]
    rw [if_neg (fun e=>by subst e; rw [hf.2] at hk; cases hk)]
    exact hk
end
end Go.Lx
namespace Go.Lx
open Go.RowKit
structure eb (P:Program) (T:TypeId) (agg:Bool) (size bytes:Nat) (z:Value):Prop where
  info:∃i,P.info? T=some i∧i.zero=some z∧i.size=size∧i.bytes=bytes
  und:∃d,P.underlying T=some d∧(match d with|.struct _=>true|.array _ _=>true|_=>false)=agg
section
variable {P:Program} {E:Env} {w:World} {d:Option Tmp} {ty:TypeId} {ps:String} {af:Array Edge} {g:Option (Nat×Bool)}
theorem cU {x:Operand} {v:Value} (h:ev E x=v):cr P E ⟨d,.move x,ty,ps,af,g⟩ w v w:=.inl (by subst h; rfl)
theorem nS {x:Operand} {v:Value} (h:ev E x=v):cr P E ⟨d,.assign x,ty,ps,af,g⟩ w v w:=.inl (by subst h; rfl)
theorem vR {c x y:Operand} {b:Bool} {v:Value} (hc:ev E c=.bool b) (h:(bif b then ev E x else ev E y)=v):cr P E ⟨d,.pick c x y,ty,ps,af,g⟩ w v w:=.inl (by
  subst h
  cases b <;> simp [execOp,hc,asBool])
theorem jW {T:TypeId} {agg:Bool} {size bytes:Nat} {z:Value} (ht:eb P T agg size bytes z):(zeroValue T).run P w=.ok z w:=by
  obtain ⟨i,hi,hz,_⟩:=ht.info
  simp [zeroValue,typeInfo,hi,hz]
theorem dy {T:TypeId} {agg:Bool} {size bytes:Nat} {z:Value} (ht:eb P T agg size bytes z):(sizeOf T).run P w=.ok size w:=by
  obtain ⟨i,hi,_,hs,_⟩:=ht.info
  simp [sizeOf,typeInfo,hi,hs]
theorem fB {T:TypeId} {agg:Bool} {size bytes:Nat} {z:Value} (ht:eb P T agg size bytes z):(isAgg T).run P w=.ok agg w:=by
  obtain ⟨dd,hd,ha⟩:=ht.und
  subst ha
  simp only [isAgg,Sem.run_bind,run_underlying hd,Result.andThen_ok]
  cases dd <;> rfl
theorem xV {T:TypeId} {agg:Bool} {size bytes:Nat} {z:Value} (ht:eb P T agg size bytes z) :
    cr P E ⟨d,.alloc T,ty,ps,af,g⟩ w (.pointer (some ⟨w.heap.size,0,none⟩)) (w.alloc (.cells z.cells T)):=.inl (by
  simp [execOp,Instr.alloc,jW ht,newVar,newRow])
theorem AO {T:TypeId} {x:Operand} {v:Value} (h:ev E x=v) :
    cr P E ⟨d,.box T x,ty,ps,af,g⟩ w (.pointer (some ⟨w.heap.size,0,none⟩)) (w.alloc (.cells v.cells T)):=.inl (by
  simp [execOp,Instr.box,h,newVar,newRow])
theorem aZ {T:TypeId} {size bytes:Nat} {z:Value} {x:Operand} {a:Addr} {v:Value} (ht:eb P T false size bytes z) (hx:ev E x=.pointer (some a)) (hc:w.cell? a=some v) :
    cr P E ⟨d,.load T x,ty,ps,af,g⟩ w v w:=.inl (by
  simp [execOp,Instr.loadAt,Instr.sureAddr,hx,loadVar,fB ht,load,Sem.run,hc])
theorem eK (a:Addr) (cs:List Value):∀(i:Nat) (acc:Array Value),(∀j u,cs[j]?=some u→w.cell? (a.add (i+j))=some u)→
    (loadCellsFrom a i cs.length acc).run P w=.ok (acc++cs.toArray) w:=by
  induction cs with
  | nil=>intro i acc _; simp [loadCellsFrom]
  | cons c cs ih=>
    intro i acc h
    have b:=h 0 c rfl
    have:=ih (i+1) (acc.push c) (fun j u hj=>by have:=h (j+1) u (by simpa using hj); simpa [Nat.add_assoc,Nat.add_comm 1 j] using this)
    simp only [List.length_cons,loadCellsFrom,Sem.run_bind,load,Sem.run]
    simp only [Nat.add_zero] at b
    rw [b]
    simp only [Result.andThen_ok,this]
    simp
theorem cm {T:TypeId} {size bytes:Nat} {z:Value} {x:Operand} {a:Addr} {cs:List Value} (ht:eb P T true size bytes z) (hx:ev E x=.pointer (some a)) (hl:cs.length=size)
    (hc:∀j u,cs[j]?=some u→w.cell? (a.add j)=some u):cr P E ⟨d,.load T x,ty,ps,af,g⟩ w (.agg cs.toArray) w:=.inl (by
  have h:=eK (P:=P) (w:=w) a cs 0 #[] (fun j u hj=>by simpa using hc j u hj)
  simp only [Array.empty_append] at h
  subst hl
  simp [execOp,Instr.loadAt,Instr.sureAddr,hx,loadVar,fB ht,dy ht,loadCells,h])
theorem bN {op:BinOp} {T T':TypeId} {x y:Operand} {v:Value} (h1:(eqGuard op T x y (ev E x) (ev E y)).run P w=.ok () w) (h2:(binOp op T (ev E x) (ev E y)).run P w=.ok v w) :
    cr P E ⟨d,.binOp op T x y T',ty,ps,af,g⟩ w v w:=.inl (by
  simp [execOp,h1,h2])
theorem cj {op:BinOp} {T:TypeId} {x y:Operand} {k:IntKind} {n:Int} {v:Value}:(eqGuard op T x y (.int k n) v).run P w=.ok () w:=by rw [eqGuard_at_int]; rfl
section
variable {T T':TypeId} {x y:Operand} {k:IntKind} {a b:Int} (hx:ev E x=.int k a) (hy:ev E y=.int k b)
include hx hy
theorem AP (hf:k.wrap (a+b)=a+b):cr P E ⟨d,.binOp .add T x y T',ty,ps,af,g⟩ w (.int k (a+b)) w:=bN (by rw [hx]; exact cj) (by rw [hx,hy]; simp [binOp,Op.intArith,hf])
theorem AF (hf:k.wrap (a - b)=a - b):cr P E ⟨d,.binOp .sub T x y T',ty,ps,af,g⟩ w (.int k (a - b)) w:=bN (by rw [hx]; exact cj) (by rw [hx,hy]; simp [binOp,Op.intArith,hf])
theorem AM (hf:k.wrap (a*b)=a*b):cr P E ⟨d,.binOp .mul T x y T',ty,ps,af,g⟩ w (.int k (a*b)) w:=bN (by rw [hx]; exact cj) (by rw [hx,hy]; simp [binOp,Op.intArith,hf])
theorem AL (hb:b≠0) (hf:k.wrap (a.tdiv b)=a.tdiv b):cr P E ⟨d,.binOp .quo T x y T',ty,ps,af,g⟩ w (.int k (a.tdiv b)) w:=bN (by rw [hx]; exact cj) (by rw [hx,hy]; simp [binOp,Op.intDiv,hf,hb])
theorem AJ (hb:b≠0):cr P E ⟨d,.binOp .rem T x y T',ty,ps,af,g⟩ w (.int k (a.tmod b)) w:=bN (by rw [hx]; exact cj) (by rw [hx,hy]; simp [binOp,Op.intDiv,hb])
theorem vT:cr P E ⟨d,.binOp .and T x y T',ty,ps,af,g⟩ w (.int k (bits .and k a b)) w:=bN (by rw [hx]; exact cj) (by rw [hx,hy]; simp [binOp,intBits_and])
theorem xU:cr P E ⟨d,.binOp .or T x y T',ty,ps,af,g⟩ w (.int k (bits .or k a b)) w:=bN (by rw [hx]; exact cj) (by rw [hx,hy]; simp [binOp,intBits_or])
theorem bv:cr P E ⟨d,.binOp .eql T x y T',ty,ps,af,g⟩ w (.bool (a == b)) w:=bN (by rw [hx]; exact cj) (by rw [hx,hy]; simp [binOp,Op.intCmp])
theorem dm:cr P E ⟨d,.binOp .neq T x y T',ty,ps,af,g⟩ w (.bool (a != b)) w:=bN (by rw [hx]; exact cj) (by rw [hx,hy]; simp [binOp,Op.intCmp])
theorem bn:cr P E ⟨d,.binOp .lss T x y T',ty,ps,af,g⟩ w (.bool (decide (a<b))) w:=bN (by rw [hx]; exact cj) (by rw [hx,hy]; simp [binOp,Op.intCmp])
theorem dq:cr P E ⟨d,.binOp .leq T x y T',ty,ps,af,g⟩ w (.bool (decide (a≤b))) w:=bN (by rw [hx]; exact cj) (by rw [hx,hy]; simp [binOp,Op.intCmp])
theorem dz:cr P E ⟨d,.binOp .gtr T x y T',ty,ps,af,g⟩ w (.bool (decide (b<a))) w:=bN (by rw [hx]; exact cj) (by rw [hx,hy]; simp [binOp,Op.intCmp])
theorem dA:cr P E ⟨d,.binOp .geq T x y T',ty,ps,af,g⟩ w (.bool (decide (b≤a))) w:=bN (by rw [hx]; exact cj) (by rw [hx,hy]; simp [binOp,Op.intCmp])
end
theorem AI {T T':TypeId} {x y:Operand} {k k':IntKind} {a b:Int} (hx:ev E x=.int k a) (hy:ev E y=.int k' b) (hb:0≤b) :
    cr P E ⟨d,.binOp .shl T x y T',ty,ps,af,g⟩ w (.int k (k.wrap (a*2 ^ min b.toNat k.bits))) w:=bN (by rw [hx]; exact cj) (by rw [hx,hy,binOp_shl,shift_shl_any k k' a b hb]; rfl)
theorem AH {T T':TypeId} {x y:Operand} {k k':IntKind} {a b:Int} (hx:ev E x=.int k a) (hy:ev E y=.int k' b) (hb:0≤b) :
    cr P E ⟨d,.binOp .shr T x y T',ty,ps,af,g⟩ w (.int k (a / 2 ^ min b.toNat k.bits)) w:=bN (by rw [hx]; exact cj) (by rw [hx,hy,binOp_shr,shift_shr_any k k' a b hb]; rfl)
theorem cY {T:TypeId} {x:Operand} {b:Bool} (hx:ev E x=.bool b):cr P E ⟨d,.unOp .not T x,ty,ps,af,g⟩ w (.bool (!b)) w:=.inl (by simp [execOp,hx,Op.unary])
theorem fu {S T:TypeId} {x:Operand} {k j:IntKind} {a:Int} {D:TypeDesc} (hS:P.underlying S=some D) (hT:P.underlying T=some (.int k)) (hx:ev E x=.int j a) :
    cr P E ⟨d,.convert S T x,ty,ps,af,g⟩ w (.int k (k.wrap a)) w:=.inl (by simp [execOp,hx,convert,run_underlying hS,run_underlying hT,Conv.intToInt])
end
theorem dS {P:Program} {T:TypeId} {agg:Bool} {size bytes:Nat} {z:Value} (b:(P.info? T).map (fun i=>(i.zero,i.size,i.bytes))=some (some z,size,bytes))
    (a:(P.underlying T).map (fun d=>match d with|.struct _=>true|.array _ _=>true|_=>false)=some agg):eb P T agg size bytes z:=by
  constructor
  · cases h:P.info? T with
    | none=>simp [h] at b
    | some i=>simp [h] at b; exact ⟨i,rfl,b.1,b.2.1,b.2.2⟩
  · cases h:P.underlying T with
    | none=>rw [h] at a; simp at a
    | some d=>rw [h] at a; simp at a; exact ⟨d,rfl,a⟩
abbrev Str:=List UInt8
def ah (s:Str):Value:=.string ⟨s.toArray⟩
abbrev az (n:Nat):={ l:List Int // l.length=n }
def az.zero (n:Nat):az n:=⟨List.replicate n 0,by simp⟩
def fU {n:Nat} (v:az n) (q:Int):Option Int:=if 0≤q then v.1[q.toNat]? else none
def my {n:Nat} (v:az n) (q x:Int):Option (az n):=if 0≤q∧q.toNat<n then some ⟨v.1.set q.toNat x,by simp [v.2]⟩ else none
def fa (s:Str) (i:Int):Option Int:=if 0≤i then (s[i.toNat]?).map (fun c=>(c.toNat:Int)) else none
def bU (k:IntKind) (n:Int):Option Int:=if k.wrap n=n then some n else none
def bo {α:Type} (l:List α) (i:Int):Option α:=if 0≤i then l[i.toNat]? else none
def cZ {α:Type} (l:List α) (i:Int) (x:α):Option (List α):=if 0≤i∧i.toNat<l.length then some (l.set i.toNat x) else none
def sx (k:IntKind) (a b:Int):Option Int:=if 0≤b then some (k.wrap (a*2 ^ min b.toNat k.bits)) else none
def sw (k:IntKind) (a b:Int):Option Int:=if 0≤b then some (a / 2 ^ min b.toNat k.bits) else none
def mN (k:IntKind) (a b:Int):Option Int:=if b≠0∧k.wrap (a.tdiv b)=a.tdiv b then some (a.tdiv b) else none
def jP (a b:Int):Option Int:=if b≠0 then some (a.tmod b) else none
theorem ow {k:IntKind} {n m:Int} (h:bU k n=some m):m=n∧k.wrap n=n:=by
  unfold bU at h; split at h <;> simp_all
theorem cd {n:Nat} {v:az n} {q c:Int} (h:fU v q=some c):0≤q∧q<n∧v.1[q.toNat]?=some c:=by
  unfold fU at h
  split at h
  · rename_i h0
    have hl:=(List.getElem?_eq_some_iff.1 h).1
    rw [v.2] at hl
    exact ⟨h0,by omega,h⟩
  · cases h
theorem dk {n:Nat} {v v':az n} {q x:Int} (h:my v q x=some v'):0≤q∧q<n∧v'.1=v.1.set q.toNat x:=by
  unfold my at h
  split at h
  · rename_i h0; cases h; exact ⟨h0.1,by omega,rfl⟩
  · cases h
theorem ve {s:Str} {i c:Int} (h:fa s i=some c):0≤i∧i<s.length∧∃u:UInt8,s[i.toNat]?=some u∧c=u.toNat:=by
  unfold fa at h
  split at h
  · rename_i h0
    cases hs:s[i.toNat]? with
    | none=>rw [hs] at h; simp at h
    | some u=>
      rw [hs] at h
      simp at h
      have:=(List.getElem?_eq_some_iff.1 hs).1
      exact ⟨h0,by omega,u,rfl,h.symm⟩
  · cases h
theorem ad {α:Type} {l:List α} {i:Int} {c:α} (h:bo l i=some c):0≤i∧i<l.length∧l[i.toNat]?=some c:=by
  unfold bo at h
  split at h
  · rename_i h0
    have:=(List.getElem?_eq_some_iff.1 h).1
    exact ⟨h0,by omega,h⟩
  · cases h
theorem aU {α:Type} {l l':List α} {i:Int} {x:α} (h:cZ l i x=some l'):0≤i∧i<l.length∧l'=l.set i.toNat x:=by
  unfold cZ at h
  split at h
  · rename_i h0; cases h; exact ⟨h0.1,by omega,rfl⟩
  · cases h
section
variable {P:Program} {E:Env} {w:World} {d:Option Tmp} {ty:TypeId} {ps:String} {af:Array Edge} {g:Option (Nat×Bool)}
theorem aK {T T':TypeId} {x y:Operand} {k:IntKind} {a b m:Int} (hx:ev E x=.int k a) (hy:ev E y=.int k b) (h:bU k (a+b)=some m):cr P E ⟨d,.binOp .add T x y T',ty,ps,af,g⟩ w (.int k m) w:=by
  obtain ⟨rfl,hf⟩:=ow h; exact AP hx hy hf
theorem dQ {T T':TypeId} {x y:Operand} {k:IntKind} {a b m:Int} (hx:ev E x=.int k a) (hy:ev E y=.int k b) (h:bU k (a - b)=some m):cr P E ⟨d,.binOp .sub T x y T',ty,ps,af,g⟩ w (.int k m) w:=by
  obtain ⟨rfl,hf⟩:=ow h; exact AF hx hy hf
theorem sN {T T':TypeId} {x y:Operand} {k:IntKind} {a b m:Int} (hx:ev E x=.int k a) (hy:ev E y=.int k b) (h:bU k (a*b)=some m):cr P E ⟨d,.binOp .mul T x y T',ty,ps,af,g⟩ w (.int k m) w:=by
  obtain ⟨rfl,hf⟩:=ow h; exact AM hx hy hf
theorem jf {T T':TypeId} {x y:Operand} {k:IntKind} {a b m:Int} (hx:ev E x=.int k a) (hy:ev E y=.int k b) (h:mN k a b=some m):cr P E ⟨d,.binOp .quo T x y T',ty,ps,af,g⟩ w (.int k m) w:=by
  unfold mN at h; split at h
  · rename_i h0; cases h; exact AL hx hy h0.1 h0.2
  · cases h
theorem je {T T':TypeId} {x y:Operand} {k:IntKind} {a b m:Int} (hx:ev E x=.int k a) (hy:ev E y=.int k b) (h:jP a b=some m):cr P E ⟨d,.binOp .rem T x y T',ty,ps,af,g⟩ w (.int k m) w:=by
  unfold jP at h; split at h
  · rename_i h0; cases h; exact AJ hx hy h0
  · cases h
theorem sL {T T':TypeId} {x y:Operand} {k k':IntKind} {a b m:Int} (hx:ev E x=.int k a) (hy:ev E y=.int k' b) (h:sx k a b=some m):cr P E ⟨d,.binOp .shl T x y T',ty,ps,af,g⟩ w (.int k m) w:=by
  unfold sx at h; split at h
  · rename_i h0; cases h; exact AI hx hy h0
  · cases h
theorem sK {T T':TypeId} {x y:Operand} {k k':IntKind} {a b m:Int} (hx:ev E x=.int k a) (hy:ev E y=.int k' b) (h:sw k a b=some m):cr P E ⟨d,.binOp .shr T x y T',ty,ps,af,g⟩ w (.int k m) w:=by
  unfold sw at h; split at h
  · rename_i h0; cases h; exact AH hx hy h0
  · cases h
theorem cp {T:TypeId} {x y:Operand} {s:Str} {i c:Int} {k:IntKind} (hT:P.underlying T=some .string) (hx:ev E x=ah s) (hy:ev E y=.int k i) (h:fa s i=some c) :
    cr P E ⟨d,.index T x y,ty,ps,af,g⟩ w (.int .u8 c) w:=.inl (by
  obtain ⟨e,f,u,hu,rfl⟩:=ve h
  have hb:(ByteArray.mk s.toArray)[i.toNat]?=some u:=by
    have hl:=(List.getElem?_eq_some_iff.1 hu).1
    have hs:i.toNat<(ByteArray.mk s.toArray).size:=by simpa [ByteArray.size] using hl
    have b:(ByteArray.mk s.toArray)[i.toNat]?=some ((ByteArray.mk s.toArray)[i.toNat]'hs):=getElem?_pos (ByteArray.mk s.toArray) i.toNat hs
    have a:(ByteArray.mk s.toArray)[i.toNat]'hs=s[i.toNat]:=rfl
    rw [b,a,←(List.getElem?_eq_some_iff.1 hu).2]
  simp only [execOp,Instr.index,hx,hy,ah,asIntOf,Sem.run_bind,Sem.run_pure,Result.andThen_ok,run_underlying hT,if_pos e,hb])
theorem bR {T:TypeId} {x:Operand} {s:Str} (hT:P.underlying T=some .string) (hx:ev E x=ah s) :
    cr P E ⟨d,.call { callee:=.builtin .len,args:=#[x],argTypes:=#[T] },ty,ps,af,g⟩ w (.int .i64 s.length) w:=.inl (by
  simp [execOp,resolve,invoke,builtin,hx,ah,Builtin.len_,run_underlying hT,goInt,ByteArray.size_mk'])
theorem cW {T el:TypeId} {x y:Operand} {b o len:Nat} {q:Int} {k:IntKind} {agg:Bool} {size bytes:Nat} {z:Value} (hT:P.underlying T=some (.array len el)) (he:eb P el agg size bytes z)
    (hx:ev E x=.pointer (some ⟨b,o,none⟩)) (hy:ev E y=.int k q) (c:0≤q) (a:q<len) :
    cr P E ⟨d,.indexAddr T x y,ty,ps,af,g⟩ w (.pointer (some ⟨b,o+q.toNat*size,none⟩)) w:=.inl (by
  simp [execOp,Instr.indexAt,hx,hy,asIntOf,run_underlying hT,Instr.sureAddr,c,a,dy he,Addr.add_lit])
end
section
variable {g0 g:Hp} {w0 w:World} {L:List Res} (h:Sep g0 w0 g w L)
include h
theorem Sep.cell {i b:Nat} {T:TypeId} {cs:List Value} (hi:L[i]?=some (rV b T cs)) {o:Nat} {v:Value} (hv:cs[o]?=some v):w.cell? ⟨b,o,none⟩=some v:=by
  have:=(h.at hi).out
  simp only [Res.okB] at this
  simp [World.cell?,this,hv]
theorem Sep.cells {i b:Nat} {T:TypeId} {cs:List Value} (hi:L[i]?=some (rV b T cs)):∀j u,cs[j]?=some u→w.cell? ((⟨b,0,none⟩:Addr).add j)=some u:=fun j u hj=>by
  rw [Addr.add_lit,Nat.zero_add]; exact h.cell hi hj
theorem Sep.cellsAt {i b:Nat} {T:TypeId} {cs vs:List Value} (hi:L[i]?=some (rV b T cs)) {o:Nat} (hv:∀j u,vs[j]?=some u→cs[o+j]?=some u):∀j u,vs[j]?=some u→w.cell? ((⟨b,o,none⟩:Addr).add j)=some u:=fun j u hj=>by
  rw [Addr.add_lit]; exact h.cell hi (hv j u hj)
theorem Sep.put {i b:Nat} {T:TypeId} {cs vs:List Value} (hi:L[i]?=some (rV b T cs)) {o:Nat} (ho:o+vs.length≤cs.length) (a:∀v∈vs,v.oneCell'=true) :
    ∃w',(∀P:Program,(storeCells ⟨b,o,none⟩ vs).run P w=.ok () w')∧Sep g0 w0 g w' (L.set i (rV b T (cs.take o++vs++cs.drop (o+vs.length)))):=by
  have hb:=(h.at hi).out
  simp only [Res.okB] at hb
  refine ⟨w.setRow b ((cs.toArray.toList.take (o+0))++vs++cs.toArray.toList.drop (o+0+vs.length)).toArray,fun P=>run_storeCells_at P b o T vs 0 cs.toArray w hb (by simpa using ho) a,?_⟩
  refine h.upd hi (w':=w.setRow b _) ⟨rfl,rfl,rfl,by simp [World.setRow],fun k _ hk=>setRow_other w b k _ (fun e=>hk (by simp [Res.blk,e]))⟩ ⟨?_⟩ (fun b' hb'=>.inl (by simpa [Res.blk] using hb'))
  simp only [Res.okB]
  rw [setRow_heap w b _ _ T (0,0) hb]
  simp
end
section
variable {P:Program} {E:Env} {w w':World} {d:Option Tmp} {ty:TypeId} {ps:String} {af:Array Edge} {g:Option (Nat×Bool)}
theorem cc {T:TypeId} {x y:Operand} {a:Addr} {v:Value} {agg:Bool} {size bytes:Nat} {z:Value} (ht:eb P T agg size bytes z) (hx:ev E x=.pointer (some a)) (hy:ev E y=v) (hl:v.cells.size=size)
    (hs:∀P:Program,(storeCells a v.cells.toList).run P w=.ok () w'):uC P E ⟨d,.store T x y,ty,ps,af,g⟩ w w':=.inl (by
  subst hl
  simp [execOp,Instr.storeAt,Instr.sureAddr,hx,hy,storeVar,dy ht,hs P])
end
def cB {n:Nat} (k:IntKind) (v:az n):Value:=.agg (v.1.map (Value.int k)).toArray
section
variable {P:Program} {n:Fr} {Q:EPost} {E:Env} {w:World} {ops:Array Oper} {rest:List Oper} {d:Option Tmp} {ty:TypeId} {ps:String} {af:Array Edge} {g0 g:Hp} {w0:World} {L:List Res}
theorem aX {d:Tmp} {T:TypeId} {agg:Bool} {size bytes:Nat} {z:Value} (ht:eb P T agg size bytes z) (hs:Sep g0 w0 g w L) (zs:List Value) (hz:z.cells=zs.toArray) (hd:Nat.blt d n.sz=true)
    (k:∀b w',Sep g0 w0 g w' (rV b T zs::L)→OW P n ops Q rest (dD E d (.pointer (some ⟨b,0,none⟩))) w'):OW P n ops Q (⟨some d,.alloc T,ty,ps,af,none⟩::rest) E w:=
  sn (xV ht) hd rfl (k _ _ (by rw [hz]; exact hs.alloc _))
theorem iE {d:Tmp} {T:TypeId} {x:Operand} {v:Value} (hx:ev E x=v) (hs:Sep g0 w0 g w L) (zs:List Value) (hz:v.cells=zs.toArray) (hd:Nat.blt d n.sz=true)
    (k:∀b w',Sep g0 w0 g w' (rV b T zs::L)→OW P n ops Q rest (dD E d (.pointer (some ⟨b,0,none⟩))) w'):OW P n ops Q (⟨some d,.box T x,ty,ps,af,none⟩::rest) E w:=
  sn (AO hx) hd rfl (k _ _ (by rw [hz]; exact hs.alloc _))
theorem bj {T T':TypeId} {x y:Operand} {b o i:Nat} {v:Value} {cs:List Value} {bytes:Nat} {z:Value} (ht:eb P T false 1 bytes z) (hs:Sep g0 w0 g w L) (hi:L[i]?=some (rV b T' cs))
    (hx:ev E x=.pointer (some ⟨b,o,none⟩)) (hy:ev E y=v) (a:v.oneCell'=true) (ho:o<cs.length)
    (k:∀w',Sep g0 w0 g w' (L.set i (rV b T' (cs.set o v)))→OW P n ops Q rest E w'):OW P n ops Q (⟨none,.store T x y,ty,ps,af,none⟩::rest) E w:=by
  have hc:v.cells=#[v]:=by cases v <;> first|rfl|simp [Value.oneCell'] at a
  obtain ⟨w',hst,hs'⟩:=hs.put hi (vs:=[v]) (o:=o) (by simp; omega) (by simpa using a)
  refine tu (cc ht hx hy (by rw [hc]; rfl) (by rw [hc]; exact hst)) rfl rfl (k w' ?_)
  have e:cs.set o v=List.take o cs++[v]++List.drop (o+[v].length) cs:=by
    rw [List.set_eq_take_append_cons_drop,if_pos ho]; simp
  rw [e]; exact hs'
theorem cy {T T':TypeId} {x y:Operand} {b i:Nat} {v:Value} {cs vs:List Value} {size bytes:Nat} {z:Value} (ht:eb P T true size bytes z) (hs:Sep g0 w0 g w L) (hi:L[i]?=some (rV b T' cs))
    (hx:ev E x=.pointer (some ⟨b,0,none⟩)) (hy:ev E y=v) (hv:v=.agg vs.toArray) (a:∀v∈vs,v.oneCell'=true) (hl:vs.length=size) (hl':cs.length=vs.length)
    (k:∀w',Sep g0 w0 g w' (L.set i (rV b T' vs))→OW P n ops Q rest E w'):OW P n ops Q (⟨none,.store T x y,ty,ps,af,none⟩::rest) E w:=by
  subst hv
  obtain ⟨w',hst,hs'⟩:=hs.put hi (vs:=vs) (o:=0) (by omega) a
  refine tu (cc ht hx hy (by simpa [Value.cells] using hl) (by simpa [Value.cells] using hst)) rfl rfl (k w' ?_)
  have:cs.drop vs.length=[]:=List.drop_eq_nil_iff.2 (by omega)
  simpa [this] using hs'
end
theorem bh {k:IntKind} {l:List Int}:∀v∈l.map (Value.int k),v.oneCell'=true:=by
  intro v hv
  obtain ⟨n,_,rfl⟩:=List.mem_map.1 hv
  rfl
theorem dJ {n:Nat} {v:az n} {q c:Int} {k:IntKind} (h:fU v q=some c):(v.1.map (Value.int k))[0+q.toNat*1]?=some (.int k c):=by
  obtain ⟨_,_,h⟩:=cd h
  simp [h]
theorem eX {n:Nat} {v v':az n} {q x:Int} {k:IntKind} (h:my v q x=some v'):(v.1.map (Value.int k)).set (0+q.toNat*1) (.int k x)=v'.1.map (Value.int k):=by
  obtain ⟨_,_,h⟩:=dk h
  rw [h]; simp [List.map_set]
theorem ju {n:Nat} {v v':az n} {q x:Int} {k:IntKind} (h:my v q x=some v'):0+q.toNat*1<(v.1.map (Value.int k)).length:=by
  have h:=dk h
  simp [v.2]; omega
def qT (a:Act):ResultVar→Sem Value
  | .tmp t=>pure (a.tmps.getD t undef)
  | .cell c t=>do loadVar t (←asAddr (a.tmps.getD c undef))
def RV (P:Program) (n:Fr) (E:Env) (w:World) (r:ResultVar) (v:Value):Prop:=∀a,eH n E a→(qT a r).run P w=.ok v w
section
variable {P:Program} {fn:Func} {n:Fr} {E:Env} {w:World}
theorem aJ {t:Tmp} {v:Value} (hv:ev E (.tmp t)=v):RV P n E w (.tmp t) v:=fun a ha=>by
  subst hv; simp only [qT,ha.get]; rfl
theorem ga {c:Tmp} {T:TypeId} {size bytes:Nat} {z:Value} {a:Addr} {v:Value} (ht:eb P T false size bytes z) (hv:ev E (.tmp c)=.pointer (some a)) (hc:w.cell? a=some v):RV P n E w (.cell c T) v:=fun ac ha=>by
  have hp:ac.tmps.getD c undef=.pointer (some a):=(ha.get c).trans hv
  simp [qT,hp,asAddr,loadVar,fB ht,load,Sem.run,hc]
theorem bl {c:Tmp} {T:TypeId} {size bytes:Nat} {z:Value} {a:Addr} {vs:List Value} (ht:eb P T true size bytes z) (hv:ev E (.tmp c)=.pointer (some a)) (hl:vs.length=size)
    (hc:∀j u,vs[j]?=some u→w.cell? (a.add j)=some u):RV P n E w (.cell c T) (.agg vs.toArray):=fun ac ha=>by
  have hp:ac.tmps.getD c undef=.pointer (some a):=(ha.get c).trans hv
  have hr:=eK (P:=P) (w:=w) a vs 0 #[] (fun j u hj=>by simpa using hc j u hj)
  simp only [Array.empty_append] at hr
  subst hl
  simp [qT,hp,asAddr,loadVar,fB ht,dy ht,loadCells,hr]
theorem ko {rs:Array ResultVar} (a:Act) (h:fn.results=rs):results fn a.tmps=(do let vs←rs.mapM (qT a); pure (if h:vs.size=1 then vs[0] else .tuple vs)):=by
  subst h
  unfold results
  congr 2
theorem bq {r:ResultVar} {v:Value} (h:fn.results=#[r]) (h1:RV P n E w r v):lz P fn n E w v:=fun a ha=>by
  rw [ko a h]; simp [h1 a ha]
theorem fo {r s:ResultVar} {v u:Value} (h:fn.results=#[r,s]) (h1:RV P n E w r v) (h2:RV P n E w s u):lz P fn n E w (.tuple #[v,u]):=fun a ha=>by
  rw [ko a h]; simp [h1 a ha,h2 a ha]
theorem oL {r s t:ResultVar} {v u x:Value} (h:fn.results=#[r,s,t]) (h1:RV P n E w r v) (h2:RV P n E w s u) (h3:RV P n E w t x):lz P fn n E w (.tuple #[v,u,x]):=fun a ha=>by
  rw [ko a h]; simp [h1 a ha,h2 a ha,h3 a ha]
end
section
variable {P:Program} {n:Fr} {Q:EPost} {E:Env} {w:World} {ops:Array Oper} {rest:List Oper} {op:Op} {ty:TypeId} {ps:String} {af:Array Edge}
theorem O {d:Tmp} {v:Value} {w':World} (hr:cr P E ⟨some d,op,ty,ps,af,none⟩ w v w') (hd:Nat.blt d n.sz=true) (k:OW P n ops Q rest (dD E d v) w'):OW P n ops Q (⟨some d,op,ty,ps,af,none⟩::rest) E w:=sn hr hd rfl k
theorem O0 {w':World} (hr:uC P E ⟨none,op,ty,ps,af,none⟩ w w') (k:OW P n ops Q rest E w'):OW P n ops Q (⟨none,op,ty,ps,af,none⟩::rest) E w:=tu hr rfl rfl k
theorem S {Q:Env→Prop} {d:Tmp} {v:Value} (hr:cr P E ⟨some d,op,ty,ps,af,none⟩ w v w) (hd:Nat.blt d n.sz=true) (k:SW P n ops w Q rest (dD E d v)):SW P n ops w Q (⟨some d,op,ty,ps,af,none⟩::rest) E:=BN hr hd rfl k
end
end Go.Lx
namespace Go.Lx
open Go.RowKit
structure Ty (α:Type) where
  sz:Nat
  rel:Hp→List Value→α→Prop
  mono:∀ {g g':Hp} {cs:List Value} {x:α},aY g g'→rel g cs x→rel g' cs x
  len:∀ {g:Hp} {cs:List Value} {x:α},rel g cs x→cs.length=sz
  one:∀ {g:Hp} {cs:List Value} {x:α},rel g cs x→∀v∈cs,v.oneCell'=true
def au (k:IntKind):Ty Int:=⟨1,fun _ cs n=>cs=[.int k n],fun _ h=>h,fun h=>by rw [h]; rfl,fun h v hv=>by rw [h] at hv; simp at hv; subst hv; rfl⟩
def aV:Ty Bool:=⟨1,fun _ cs n=>cs=[.bool n],fun _ h=>h,fun h=>by rw [h]; rfl,fun h v hv=>by rw [h] at hv; simp at hv; subst hv; rfl⟩
def cM:Ty Str:=⟨1,fun _ cs n=>cs=[ah n],fun _ h=>h,fun h=>by rw [h]; rfl,fun h v hv=>by rw [h] at hv; simp at hv; subst hv; rfl⟩
def bH (n:Nat) (k:IntKind):Ty (az n):=⟨n,fun _ cs v=>cs=v.1.map (Value.int k),fun _ h=>h,fun {_ _ x} h=>by rw [h]; simp [x.2],fun h=>by rw [h]; exact bh⟩
def ak {α:Type} (τ:Ty α) (g:Hp) (xs:List Value) (l:List α):Prop:=
  xs.length=l.length*τ.sz∧∀i x,l[i]?=some x→τ.rel g ((xs.drop (i*τ.sz)).take τ.sz) x
section
variable {α:Type} {τ:Ty α} {g g':Hp} {xs:List Value} {l:List α}
theorem ak.nil:ak τ g [] []:=⟨by simp,by simp⟩
theorem ak.mono (h:ak τ g xs l) (hg:aY g g'):ak τ g' xs l:=⟨h.1,fun i x hx=>τ.mono hg (h.2 i x hx)⟩
theorem ak.append {ys:List Value} {m:List α} (h:ak τ g xs l) (h':ak τ g ys m):ak τ g (xs++ys) (l++m):=by
  refine ⟨by simp [h.1,h'.1,Nat.add_mul],fun i x hx=>?_⟩
  by_cases hi:i<l.length
  · rw [List.getElem?_append_left hi] at hx
    have:=h.2 i x hx
    have b:i*τ.sz+τ.sz≤xs.length:=by rw [h.1]; rw [←Nat.succ_mul]; exact Nat.mul_le_mul_right _ hi
    rw [List.drop_append_of_le_length (by omega),List.take_append_of_le_length (by simp; omega)]
    exact this
  · rw [List.getElem?_append_right (by omega)] at hx
    have:=h'.2 _ x hx
    have e:i*τ.sz=xs.length+(i - l.length)*τ.sz:=by rw [h.1,←Nat.add_mul]; congr 1; omega
    rw [e,List.drop_append]
    have a:List.drop (xs.length+(i - l.length)*τ.sz) xs=[]:=List.drop_eq_nil_iff.2 (by omega)
    rw [a,List.nil_append,Nat.add_sub_cancel_left]
    exact this
theorem ak.one {cs:List Value} {x:α} (h:τ.rel g cs x):ak τ g cs [x]:=by
  refine ⟨by simp [τ.len h],fun i y hy=>?_⟩
  cases i with
  | zero=>simp at hy; subst hy; simp; rw [List.take_of_length_le (by rw [τ.len h]; exact Nat.le_refl _)]; exact h
  | succ i=>simp at hy
theorem ak.ones {g:Hp}:ak τ g xs l→∀v∈xs,v.oneCell'=true:=by
  intro h v hv
  obtain ⟨j,hj,rfl⟩:=List.mem_iff_getElem.1 hv
  have hl:=h.1
  have hs:0<τ.sz:=by
    rcases Nat.eq_zero_or_pos τ.sz with e|e
    · rw [e] at hl; simp at hl; subst hl; simp at hj
    · exact e
  have hi:j / τ.sz<l.length:=Nat.div_lt_of_lt_mul (by rw [Nat.mul_comm]; omega)
  have:=h.2 (j / τ.sz) l[j / τ.sz] (List.getElem?_eq_getElem hi)
  refine τ.one this _ ?_
  have e:xs[j]=((xs.drop (j / τ.sz*τ.sz)).take τ.sz)[j % τ.sz]'(by
    have:=Nat.mod_lt j hs
    have:=Nat.div_add_mod j τ.sz
    rw [Nat.mul_comm] at this
    simp; omega):=by
    simp only [List.getElem_take,List.getElem_drop]
    congr 1
    have:=Nat.div_add_mod j τ.sz
    rw [Nat.mul_comm] at this; omega
  rw [e]; exact List.getElem_mem _
theorem ak.set {cs:List Value} {x:α} {i:Nat} (h:ak τ g xs l) (hc:τ.rel g cs x) (hi:i<l.length) :
    ak τ g (xs.take (i*τ.sz)++cs++xs.drop (i*τ.sz+cs.length)) (l.set i x):=by
  have hl:=τ.len hc
  have c:i*τ.sz+τ.sz≤xs.length:=by rw [h.1]; rw [←Nat.succ_mul]; exact Nat.mul_le_mul_right _ hi
  refine ⟨by rw [List.length_append,List.length_append,List.length_take,List.length_drop,List.length_set,hl]; have:=h.1; omega,fun j y hy=>?_⟩
  rw [List.getElem?_set] at hy
  split at hy
  · rename_i e
    subst e
    simp at hy
    obtain ⟨_,rfl⟩:=hy
    have a:(List.take (i*τ.sz) xs).length=i*τ.sz:=by simp; omega
    rw [List.append_assoc,List.drop_append]
    rw [List.drop_eq_nil_iff.2 (by omega),List.nil_append,a,Nat.sub_self,List.drop_zero,List.take_append_of_le_length (by omega),List.take_of_length_le (by omega)]
    exact hc
  · rename_i hne
    have:=h.2 j y hy
    have hjl:=(List.getElem?_eq_some_iff.1 hy).1
    have b:j*τ.sz+τ.sz≤xs.length:=by rw [h.1]; rw [←Nat.succ_mul]; exact Nat.mul_le_mul_right _ hjl
    have e:(List.drop (j*τ.sz) (List.take (i*τ.sz) xs++cs++List.drop (i*τ.sz+cs.length) xs)).take τ.sz=(List.drop (j*τ.sz) xs).take τ.sz:=by
      apply List.ext_getElem?
      intro q
      simp only [List.getElem?_take,List.getElem?_drop]
      split
      · rename_i hq
        rcases Nat.lt_or_gt_of_ne hne with hlt|hlt
        · have:(i+1)*τ.sz≤j*τ.sz:=Nat.mul_le_mul_right _ hlt
          rw [Nat.succ_mul] at this
          rw [List.getElem?_append_right (by simp; omega),List.getElem?_drop]
          congr 1
          simp
          omega
        · have:(j+1)*τ.sz≤i*τ.sz:=Nat.mul_le_mul_right _ hlt
          rw [Nat.succ_mul] at this
          rw [List.append_assoc,List.getElem?_append_left (by simp; omega),List.getElem?_take]
          rw [if_pos (by omega)]
      · rfl
    rw [e]; exact this
end
def sk (g:Hp) (v:Value) (n:Nat) (xs:List Value):Prop:=
  (n=0∧xs=[]∧∃a cap,v=.slice a 0 cap∧(a=none→cap=0))∨
  ∃b off cap arr e fz,v=.slice (some ⟨b,off,none⟩) n cap∧n≤cap∧g b=some (.cells arr e fz)∧∀j u,xs[j]?=some u→arr[off+j]?=some u
def cI {α:Type} (τ:Ty α) (g:Hp) (v:Value) (l:List α):Prop:=∃xs,ak τ g xs l∧sk g v l.length xs
theorem sk.mono {g g':Hp} {v:Value} {n:Nat} {xs:List Value} (h:sk g v n xs) (hg:aY g g'):sk g' v n xs:=by
  rcases h with h|⟨b,off,cap,arr,e,fz,h1,h2,h3,h4⟩
  · exact .inl h
  · exact .inr ⟨b,off,cap,arr,e,fz,h1,h2,hg _ _ h3,h4⟩
theorem cI.mono {α:Type} {τ:Ty α} {g g':Hp} {v:Value} {l:List α} (h:cI τ g v l) (hg:aY g g'):cI τ g' v l:=by
  obtain ⟨xs,h1,h2⟩:=h
  exact ⟨xs,h1.mono hg,h2.mono hg⟩
theorem sk.shape {g:Hp} {v:Value} {n:Nat} {xs:List Value} (h:sk g v n xs):∃a cap,v=.slice a n cap:=by
  rcases h with ⟨rfl,_,a,cap,rfl,_⟩|⟨b,off,cap,arr,e,fz,rfl,_⟩
  · exact ⟨_,_,rfl⟩
  · exact ⟨_,_,rfl⟩
theorem cI.shape {α:Type} {τ:Ty α} {g:Hp} {v:Value} {l:List α} (h:cI τ g v l):∃a cap,v=.slice a l.length cap:=h.elim fun _ h=>h.2.shape
theorem cI.nil {α:Type} {τ:Ty α} {g:Hp}:cI τ g (.slice none 0 0) []:=⟨[],ak.nil,.inl ⟨rfl,rfl,none,0,rfl,fun _=>rfl⟩⟩
def cz {α:Type} (τ:Ty α):Ty (List α):=
  ⟨1,fun g cs l=>∃v,cs=[v]∧cI τ g v l,fun hg ⟨v,h1,h2⟩=>⟨v,h1,h2.mono hg⟩,fun ⟨v,h1,_⟩=>by rw [h1]; rfl,fun ⟨v,h1,h2⟩ u hu=>by
    rw [h1] at hu; simp at hu; subst hu
    obtain ⟨a,cap,rfl⟩:=h2.shape
    rfl⟩
theorem cI.at {α:Type} {τ:Ty α} {g:Hp} {v:Value} {l:List α} (h:cI τ g v l) {i:Int} {x:α} (hx:bo l i=some x) :
    ∃b off cap,v=.slice (some ⟨b,off,none⟩) l.length cap∧∃cs,τ.rel g cs x∧∀w,dp g w→∀j u,cs[j]?=some u→w.cell? ⟨b,off+i.toNat*τ.sz+j,none⟩=some u:=by
  obtain ⟨c,a,hl⟩:=ad hx
  obtain ⟨xs,hr,hs⟩:=h
  rcases hs with ⟨hn,_⟩|⟨b,off,cap,arr,e,fz,hv,_,hg,hc⟩
  · rw [hn] at a; omega
  · refine ⟨b,off,cap,hv,_,hr.2 _ _ hl,fun w hw j u hu=>?_⟩
    rw [List.getElem?_take] at hu
    split at hu
    · rw [List.getElem?_drop] at hu
      have:=hc _ _ hu
      simp [World.cell?,hw b _ hg,Nat.add_assoc] at this ⊢
      exact this
    · cases hu
end Go.Lx
namespace Go.Lx
open Go.RowKit
def tD (agg:Bool) (cs:List Value):Value:=if agg then .agg cs.toArray else cs.headD undef
section
variable {P:Program} {E:Env} {w:World} {d:Option Tmp} {ty:TypeId} {ps:String} {af:Array Edge} {gd:Option (Nat×Bool)}
theorem aN {T e:TypeId} {x:Operand} {v:Value} {a:Option Addr} {len cap:Nat} (hT:P.underlying T=some (.slice e)) (hx:ev E x=v) (hv:v=.slice a len cap) :
    cr P E ⟨d,.call { callee:=.builtin .len,args:=#[x],argTypes:=#[T] },ty,ps,af,gd⟩ w (.int .i64 len) w:=.inl (by
  subst hv
  simp [execOp,resolve,invoke,builtin,hx,Builtin.len_,run_underlying hT,goInt])
theorem ax {T el:TypeId} {x y:Operand} {v:Value} {b o len cap:Nat} {q:Int} {k:IntKind} {agg:Bool} {size bytes:Nat} {z:Value} (hT:P.underlying T=some (.slice el)) (he:eb P el agg size bytes z)
    (hx:ev E x=v) (hv:v=.slice (some ⟨b,o,none⟩) len cap) (hy:ev E y=.int k q) (c:0≤q) (a:q<len) :
    cr P E ⟨d,.indexAddr T x y,ty,ps,af,gd⟩ w (.pointer (some ⟨b,o+q.toNat*size,none⟩)) w:=.inl (by
  subst hv
  simp [execOp,Instr.indexAt,hx,hy,asIntOf,run_underlying hT,c,a,dy he,Addr.add_lit])
theorem aS {T:TypeId} {agg:Bool} {size bytes:Nat} {z:Value} {x:Operand} {b o:Nat} {cs:List Value} (ht:eb P T agg size bytes z) (hx:ev E x=.pointer (some ⟨b,o,none⟩)) (hl:cs.length=size) (a:agg=true∨size=1)
    (hc:∀j u,cs[j]?=some u→w.cell? ⟨b,o+j,none⟩=some u) {v:Value} (hv:tD agg cs=v):cr P E ⟨d,.load T x,ty,ps,af,gd⟩ w v w:=by
  subst hv
  cases agg with
  | true=>exact cm ht hx hl (fun j u hj=>by rw [Addr.add_lit]; exact hc j u hj)
  | false=>
    have a:size=1:=by simpa using a
    subst a
    match cs,hl with
    | [c],_=>exact aZ (v:=c) ht hx (by have:=hc 0 c rfl; simpa using this)
end
section
variable {g0 g:Hp} {w0 w:World} {L:List Res} (h:Sep g0 w0 g w L)
include h
theorem Sep.rowShape {i:Nat} {v:Value} {e:TypeId} {sz n:Nat} {xs:List Value} (hi:L[i]?=some (.row v e sz n xs)):∃a cap,v=.slice a n cap:=by
  have:=(h.at hi).out
  rcases this.2 with ⟨rfl,rfl⟩|⟨b,cap,cur,rfl,_⟩
  · exact ⟨_,_,rfl⟩
  · exact ⟨_,_,rfl⟩
theorem Sep.rowAt {i:Nat} {v:Value} {e:TypeId} {sz n:Nat} {xs:List Value} (hi:L[i]?=some (.row v e sz n xs)) (hn:0<n) :
    ∃b cap,v=.slice (some ⟨b,0,none⟩) n cap∧∀j u,xs[j]?=some u→w.cell? ⟨b,0+j,none⟩=some u:=by
  have:=(h.at hi).out
  rcases this.2 with ⟨_,rfl⟩|⟨b,cap,cur,hv,_,hb,hnc,_,hcs,ht⟩
  · omega
  · refine ⟨b,cap,hv,fun j u hu=>?_⟩
    simp only [World.cell?,hb,Nat.zero_add]
    rw [←ht,List.getElem?_take] at hu
    split at hu
    · simpa using hu
    · cases hu
theorem Sep.rowEl {α:Type} {τ:Ty α} {l:List α} {i:Nat} {v:Value} {e:TypeId} {xs:List Value} (hi:L[i]?=some (.row v e τ.sz l.length xs)) (hr:ak τ g xs l) {q:Int} {x:α} (hx:bo l q=some x) :
    ∃b cap,v=.slice (some ⟨b,0,none⟩) l.length cap∧∃cs,τ.rel g cs x∧∀w',(Res.row v e τ.sz l.length xs).ok w'→∀j u,cs[j]?=some u→w'.cell? ⟨b,0+q.toNat*τ.sz+j,none⟩=some u:=by
  obtain ⟨c,a,hl⟩:=ad hx
  obtain ⟨b,cap,hv,_⟩:=h.rowAt hi (by omega)
  refine ⟨b,cap,hv,_,hr.2 _ _ hl,fun w' hw' j u hu=>?_⟩
  have hw:=hw'.out
  subst hv
  rcases hw.2 with ⟨hn,_⟩|⟨b',cap',cur,hv,_,hb,hnc,_,hcs,ht⟩
  · cases hn
  · cases hv
    rw [List.getElem?_take] at hu
    split at hu
    · rw [List.getElem?_drop,←ht,List.getElem?_take] at hu
      split at hu
      · simp only [World.cell?,hb,Nat.zero_add]
        simpa [Nat.add_assoc] using hu
      · cases hu
    · cases hu
theorem Sep.rowPut {α:Type} {τ:Ty α} {l l':List α} {i:Nat} {v:Value} {e:TypeId} {xs cs:List Value} (hi:L[i]?=some (.row v e τ.sz l.length xs)) (hr:ak τ g xs l) {q:Int} {x:α} (hx:cZ l q x=some l') (hc:τ.rel g cs x) :
    ∃b cap,v=.slice (some ⟨b,0,none⟩) l.length cap∧∃w' xs',(∀P:Program,(storeCells ⟨b,0+q.toNat*τ.sz,none⟩ cs).run P w=.ok () w')∧ak τ g xs' l'∧Sep g0 w0 g w' (L.set i (.row v e τ.sz l'.length xs')):=by
  obtain ⟨j,f,rfl⟩:=aU hx
  have hq:q.toNat<l.length:=by omega
  have hl:=τ.len hc
  have hrow:=(h.at hi).out
  rcases hrow.2 with ⟨_,hn⟩|⟨b,cap,cur,hv,_,hb,hnc,hcm,hcs,ht⟩
  · omega
  · subst hv
    have hfit:q.toNat*τ.sz+τ.sz≤l.length*τ.sz:=by rw [←Nat.succ_mul]; exact Nat.mul_le_mul_right _ hq
    have hcap:l.length*τ.sz≤cap*τ.sz:=Nat.mul_le_mul_right _ hnc
    refine ⟨b,cap,rfl,w.setRow b (cur.toList.take (0+q.toNat*τ.sz+0)++cs++cur.toList.drop (0+q.toNat*τ.sz+0+cs.length)).toArray,xs.take (q.toNat*τ.sz)++cs++xs.drop (q.toNat*τ.sz+cs.length),
      fun P=>run_storeCells_at P b (0+q.toNat*τ.sz) e cs 0 cur w hb (by omega) (τ.one hc),hr.set hc hq,?_⟩
    refine h.upd hi (w':=w.setRow b _) ⟨rfl,rfl,rfl,by simp [World.setRow],fun k _ hk=>setRow_other w b k _ (fun e=>hk (by simp [Res.blk,Value.ownBlock,e]))⟩ ⟨?_⟩ (fun b' hb'=>.inl (by simpa [Res.blk] using hb'))
    simp only [Res.okB,List.length_set]
    have d:xs.length=l.length*τ.sz:=hr.1
    refine ⟨by have:=(hr.set hc hq).1; simpa using this,.inr ⟨b,cap,_,rfl,Nat.zero_le _,setRow_heap w b cur _ e _ hb,hnc,hcm,by rw [List.size_toArray,List.length_append,List.length_append,List.length_take,List.length_drop,Array.length_toList,hcs]; omega,?_⟩⟩
    simp only [Nat.zero_add,Nat.add_zero]
    rw [←ht]
    have hcur:l.length*τ.sz≤cur.toList.length:=by have:=Array.length_toList (xs:=cur); omega
    generalize cur.toList=cu at hcur
    generalize hA:q.toNat*τ.sz=A at *
    generalize hB:l.length*τ.sz=B at *
    have c:(List.take A cu).length=A:=by rw [List.length_take]; omega
    have a:List.take A (List.take B cu)=List.take A cu:=by rw [List.take_take]; congr 1; omega
    rw [a,List.append_assoc,List.append_assoc,List.take_append,List.take_of_length_le (l:=List.take A cu) (by omega),c,List.take_append,List.take_of_length_le (l:=cs) (by omega)]
    congr 2
    rw [List.take_drop]
    congr 2
    omega
end
end Go.Lx
namespace Go.Lx
open Go.RowKit
def cO {α:Type} (B:Nat) (l m:List α):Option (List α):=if (l.length+m.length)*B≤140737488355328 then some (l++m) else none
def nY {α:Type} (B:Nat) (n:Int) (z:α):Option (List α):=if 0≤n∧n*B≤140737488355328 then some (List.replicate n.toNat z) else none
theorem ml {α:Type} {B:Nat} {l m r:List α} (h:cO B l m=some r):r=l++m∧(l.length+m.length)*B≤140737488355328:=by
  unfold cO at h; split at h
  · rename_i h0; cases h; exact ⟨rfl,h0⟩
  · cases h
theorem rn {α:Type} {B:Nat} {n:Int} {z:α} {r:List α} (h:nY B n z=some r):r=List.replicate n.toNat z∧0≤n∧n*B≤140737488355328:=by
  unfold nY at h; split at h
  · rename_i h0; cases h; exact ⟨rfl,h0⟩
  · cases h
def zr (w:World) (u:Value) (m:Nat) (ys:List Value):Prop:=
  (u=.slice none 0 0∧m=0∧ys=[])∨∃a c,u=.slice (some a) m c∧∀j y,ys[j]?=some y→w.cell? (a.add j)=some y
theorem sk.src {g:Hp} {w:World} {v:Value} {n:Nat} {xs:List Value} (h:sk g v n xs) (hi:dp g w):zr w v n xs:=by
  rcases h with ⟨rfl,rfl,a,cap,rfl,ha⟩|⟨b,off,cap,arr,e,fz,hv,_,hg,hc⟩
  · cases a with
    | none=>rw [ha rfl]; exact .inl ⟨rfl,rfl,rfl⟩
    | some a=>exact .inr ⟨a,cap,rfl,by simp⟩
  · exact .inr ⟨⟨b,off,none⟩,cap,hv,fun j y hy=>by have:=hc j y hy; rw [Addr.add_lit]; simp [World.cell?,hi b _ hg]; simpa using this⟩
theorem Sep.rowSrc {g0 g:Hp} {w0 w:World} {L:List Res} (h:Sep g0 w0 g w L) {i:Nat} {v:Value} {e:TypeId} {sz n:Nat} {xs:List Value} (hi:L[i]?=some (.row v e sz n xs)):zr w v n xs:=by
  have:=(h.at hi).out
  rcases this.2 with ⟨rfl,rfl⟩|⟨b,cap,cur,hv,_,hb,hnc,_,hcs,ht⟩
  · have:=this.1; simp at this; exact .inl ⟨rfl,rfl,this⟩
  · refine .inr ⟨⟨b,0,none⟩,cap,hv,fun j u hu=>?_⟩
    rw [Addr.add_lit]
    simp only [World.cell?,hb,Nat.zero_add]
    rw [←ht,List.getElem?_take] at hu
    split at hu
    · simpa using hu
    · cases hu
section
variable {P:Program} {w:World}
theorem iH (t ty e:TypeId) {agg:Bool} {size bytes:Nat} {z:Value} (ht:P.underlying t=some (.slice e)) (he:eb P e agg size bytes z) (base:Option Addr) (n cap:Nat) (hn:n≤cap) (hb:base=none→n=0) :
    (Builtin.append_ #[t,t] ty #[.slice base n cap,.slice none 0 0]).run P w=.ok (.slice base n cap) w:=by
  cases base with
  | none=>simp [Builtin.append_,run_underlying ht,dy he,Builtin.lenOf,Builtin.firstCells,hn]
  | some a=>simp [Builtin.append_,run_underlying ht,dy he,Builtin.lenOf,Builtin.firstCells,hn,storeCells]
theorem gv (t ty e:TypeId) {agg:Bool} {size bytes:Nat} {z:Value} (ht:P.underlying t=some (.slice e)) (he:eb P e agg size bytes z) (hzs:z.cells.size=size) (hsz:0<size)
    {v u:Value} {n m:Nat} {xs ys:List Value} (hown:w.ownsRow 0 e size v n xs) (hu:zr w u m ys) (hl:ys.length=m*size) (c:∀y∈ys,y.oneCell'=true) (a:n+m≤maxLen) (hby:(n+m)*bytes≤140737488355328) :
    ∃v' w',(Builtin.append_ #[t,t] ty #[v,u]).run P w=.ok v' w'∧w'.ownsRow 0 e size v' (n+m) (xs++ys)∧w.grownBy w' v.ownBlock∧(∀b,v'.ownBlock=some b→v.ownBlock=some b∨w.heap.size≤b)∧w'.ownsRow 0 e size v n xs:=by
  have hgref:∀row,w.grownBy w row:=fun _=>⟨rfl,rfl,rfl,Nat.le_refl _,fun _ _ _=>rfl⟩
  rcases hu with ⟨rfl,rfl,rfl⟩|⟨ua,uc,rfl,hnews⟩
  · refine ⟨v,w,?_,by simpa using hown,hgref _,fun b hb=>.inl hb,hown⟩
    rcases hown.2 with ⟨rfl,rfl⟩|⟨g,cap,cur,rfl,_,_,hnc,_⟩
    · exact iH t ty e ht he none 0 0 (Nat.le_refl _) (fun _=>rfl)
    · exact iH t ty e ht he _ n cap hnc (fun h=>by cases h)
  obtain ⟨i,hi,hz,hsi,hbi⟩:=he.info
  subst hsi hbi
  have hsmall:n+m≤9223372036854775807:=by simp only [maxLen] at a; omega
  have hlen:(xs++ys).length=(n+m)*i.size:=by rw [List.length_append,hown.1,hl,Nat.add_mul]
  have grown:∀(old:Nat),old<n+m→∀(row:Option Nat),
      (w.drew.alloc (.cells (xs.toArray++ys.toArray++Builtin.zeroCells z.cells (grownCap w (n+m) old e - (n+m))) e)).ownsRow 0 e i.size
        (.slice (some ⟨w.heap.size,0,none⟩) (n+m) (grownCap w (n+m) old e)) (n+m) (xs++ys)∧
      w.grownBy (w.drew.alloc (.cells (xs.toArray++ys.toArray++Builtin.zeroCells z.cells (grownCap w (n+m) old e - (n+m))) e)) row:=by
    intro old ho row
    have hge:=grownCap_ge w (n+m) old e
    have hcm:grownCap w (n+m) old e≤maxLen:=grownCap_le_maxLen w (n+m) old e a
    refine ⟨⟨hlen,.inr ⟨w.heap.size,_,_,rfl,Nat.zero_le _,heap_alloc_new w.drew _,hge,hcm,?_,?_⟩⟩,⟨rfl,rfl,rfl,by simp,fun k hk _=>Below.heap_alloc w.drew _ k hk⟩⟩
    · simp only [Array.size_append,List.size_toArray,size_zeroCells,hzs,hown.1,hl,←Nat.add_mul]
      congr 1
      omega
    · simp only [Array.toList_append,List.append_assoc]
      rw [←List.append_assoc,←hlen]
      exact List.take_left
  rcases hown.2 with ⟨rfl,rfl⟩|⟨g,cap,cur,rfl,hbg,hg,hnc,hcm,hcs,htake⟩
  · have hx:xs=[]:=List.eq_nil_of_length_eq_zero (by simpa using hown.1)
    subst hx
    by_cases hm:m=0
    · subst hm
      have hn:ys=[]:=List.eq_nil_of_length_eq_zero (by simpa using hl)
      subst hn
      refine ⟨.slice none 0 0,w,?_,World.ownsRow_nil w 0 e i.size,hgref _,fun b hb=>by simp [Value.ownBlock] at hb,World.ownsRow_nil w 0 e i.size⟩
      simp [Builtin.append_,run_underlying ht,sizeOf,typeInfo,hi,Builtin.lenOf,Builtin.firstCells,loadCells,loadCellsFrom]
    · have hr:=run_append_nil (P:=P) w t ty e i z ht hi hz ua m uc ys hl hnews (by omega) (by omega) (by have hb:=hby; simp only [Nat.zero_add] at hb; omega)
      have hgr:=grown 0 (by omega) (Value.ownBlock (.slice none 0 0))
      simp only [Nat.zero_add,List.nil_append,Array.empty_append] at hgr ⊢
      exact ⟨_,_,hr,hgr.1,hgr.2,fun b hb=>.inr (by simp [Value.ownBlock] at hb; omega),World.ownsRow_nil _ 0 e i.size⟩
  · by_cases hroom:n+m≤cap
    · have hfit:n*i.size+ys.length≤cur.size:=by rw [hl,hcs,←Nat.add_mul]; exact Nat.mul_le_mul_right _ hroom
      have hr:=run_append_room (P:=P) w t ty e i ht hi g n cap cur hg ua m uc ys hl hnews c hroom hfit
      refine ⟨_,_,hr,⟨hlen,.inr ⟨g,cap,_,rfl,Nat.zero_le _,setRow_heap w g cur _ e _ hg,hroom,hcm,?_,?_⟩⟩,⟨rfl,rfl,rfl,by simp,fun k _ hk=>setRow_other w g k _ (fun e=>hk (by simp [Value.ownBlock,e]))⟩,fun b hb=>.inl (by simpa [Value.ownBlock] using hb),⟨hown.1,.inr ⟨g,cap,_,rfl,Nat.zero_le _,setRow_heap w g cur _ e _ hg,hnc,hcm,?_,?_⟩⟩⟩
      · simp only [List.size_toArray,List.length_append,List.length_take,List.length_drop,Array.length_toList]
        omega
      · rw [htake,←hlen]
        exact List.take_left
      · simp only [List.size_toArray,List.length_append,List.length_take,List.length_drop,Array.length_toList]
        omega
      · rw [htake,List.append_assoc,←hown.1]
        exact List.take_left
    · have holds:∀j u,xs[j]?=some u→w.cell? ((⟨g,0,none⟩:Addr).add j)=some u:=hown.cells (g:=g) rfl
      have hr:=run_append_grow (P:=P) w t ty e i z ht hi hz ⟨g,0,none⟩ n cap xs hown.1 holds ua m uc ys hl hnews (by omega) (by omega) (growslice_fits (by omega) hby)
      have hgr:=grown cap (by omega) (Value.ownBlock (.slice (some ⟨g,0,none⟩) n cap))
      exact ⟨_,_,hr,hgr.1,hgr.2,fun b hb=>.inr (by simp [Value.ownBlock] at hb; omega),World.ownsRow.kept hown (grown cap (by omega) none).2 (.inr (by simp [Value.ownBlock]))⟩
end
section
variable {P:Program} {n:Fr} {Q:EPost} {E:Env} {w:World} {ops:Array Oper} {rest:List Oper} {d:Tmp} {ty:TypeId} {ps:String} {af:Array Edge} {g0 g:Hp} {w0:World} {L:List Res}
theorem gk {a b:Nat} (h:a*b≤140737488355328) (hb:0<b):a≤maxLen:=by
  have:=Nat.le_mul_of_pos_right a hb
  simp only [maxLen]; omega
theorem bI {α:Type} {τ:Ty α} {T el:TypeId} {agg:Bool} {bytes:Nat} {z:Value} {x y:Operand} {v u:Value} {l m r:List α} {xs ys:List Value} {i:Nat}
    (hT:P.underlying T=some (.slice el)) (he:eb P el agg τ.sz bytes z) (hzs:z.cells.size=τ.sz) (hsz:0<τ.sz) (hbp:0<bytes) (hs:Sep g0 w0 g w L) (hi:L[i]?=some (.row v el τ.sz l.length xs)) (hr:ak τ g xs l)
    (hx:ev E x=v) (hy:ev E y=u) (hu:zr w u m.length ys) (hru:ak τ g ys m) (hM:cO bytes l m=some r) (hd:Nat.blt d n.sz=true)
    (k:∀v' w' xs',ak τ g xs' r→Sep g0 w0 g w' (L.set i (.row v' el τ.sz r.length xs'))→OW P n ops Q rest (dD E d v') w') :
    OW P n ops Q (⟨some d,.call { callee:=.builtin .append,args:=#[x,y],argTypes:=#[T,T] },ty,ps,af,none⟩::rest) E w:=by
  obtain ⟨rfl,hb⟩:=ml hM
  obtain ⟨v',w',hrun,hown,hgr,hblk,_⟩:=gv (P:=P) (w:=w) T ty el hT he hzs hsz (hs.at hi).out hu hru.1 hru.ones (gk hb hbp) hb
  refine O (.inl ?_) hd (k v' w' (xs++ys) (hr.append hru) (hs.upd hi hgr ⟨?_⟩ hblk))
  · simp only [execOp,resolve,invoke,builtin,Sem.run_bind,Sem.run_pure,Result.andThen_ok,List.map_toArray,List.map_cons,List.map_nil,hx,hy,hrun]
  · simp only [Res.okB,List.length_append]; exact hown
theorem ez {α:Type} {τ:Ty α} {T el:TypeId} {agg:Bool} {bytes:Nat} {z:Value} {x y:Operand} {v u:Value} {l m r:List α} {xs ys:List Value} {i:Nat}
    (hT:P.underlying T=some (.slice el)) (he:eb P el agg τ.sz bytes z) (hzs:z.cells.size=τ.sz) (hsz:0<τ.sz) (hbp:0<bytes) (hs:Sep g0 w0 g w L) (hi:L[i]?=some (.row v el τ.sz l.length xs)) (hr:ak τ g xs l)
    (hx:ev E x=v) (hy:ev E y=u) (hu:zr w u m.length ys) (hru:ak τ g ys m) (hM:cO bytes l m=some r) (hd:Nat.blt d n.sz=true)
    (k:∀v' w' xs',ak τ g xs' r→Sep g0 w0 g w' L→Sep g0 w0 g w' (L.set i (.row v' el τ.sz r.length xs'))→OW P n ops Q rest (dD E d v') w') :
    OW P n ops Q (⟨some d,.call { callee:=.builtin .append,args:=#[x,y],argTypes:=#[T,T] },ty,ps,af,none⟩::rest) E w:=by
  obtain ⟨rfl,hb⟩:=ml hM
  obtain ⟨v',w',hrun,hown,hgr,hblk,hold⟩:=gv (P:=P) (w:=w) T ty el hT he hzs hsz (hs.at hi).out hu hru.1 hru.ones (gk hb hbp) hb
  have a:=hs.upd (r':=.row v el τ.sz l.length xs) hi hgr ⟨hold⟩ (fun b hb=>.inl hb)
  have hL:L.set i (.row v el τ.sz l.length xs)=L:=by
    apply List.ext_getElem?
    intro j
    rw [List.getElem?_set]
    split
    · rename_i e; subst e
      rw [hi]
      have:=(List.getElem?_eq_some_iff.1 hi).1
      simp [this]
    · rfl
  rw [hL] at a
  refine O (.inl ?_) hd (k v' w' (xs++ys) (hr.append hru) a (hs.upd hi hgr ⟨?_⟩ hblk))
  · simp only [execOp,resolve,invoke,builtin,Sem.run_bind,Sem.run_pure,Result.andThen_ok,List.map_toArray,List.map_cons,List.map_nil,hx,hy,hrun]
  · simp only [Res.okB,List.length_append]; exact hown
theorem tv {α:Type} {τ:Ty α} {T el:TypeId} {agg:Bool} {bytes:Nat} {z:Value} {x y:Operand} {v u:Value} {l m r:List α} {xs ys:List Value} {i:Nat}
    (hT:P.underlying T=some (.slice el)) (he:eb P el agg τ.sz bytes z) (hzs:z.cells.size=τ.sz) (hsz:0<τ.sz) (hbp:0<bytes) (hs:Sep g0 w0 g w L) (hi:L[i]?=some (.row v el τ.sz l.length xs)) (hr:ak τ g xs l)
    (hx:ev E x=v) (hy:ev E y=u) (hu:zr w u m.length ys) (hru:ak τ g ys m) (hM:cO bytes l m=some r) (hd:Nat.blt d n.sz=true)
    (k:∀v' w' xs',ak τ g xs' r→(∀ {a:List Res} {j:Nat},a[j]?=some (.row v el τ.sz l.length xs)→Sep g0 w0 g w a→Sep g0 w0 g w' a)→Sep g0 w0 g w' (L.set i (.row v' el τ.sz r.length xs'))→OW P n ops Q rest (dD E d v') w') :
    OW P n ops Q (⟨some d,.call { callee:=.builtin .append,args:=#[x,y],argTypes:=#[T,T] },ty,ps,af,none⟩::rest) E w:=by
  obtain ⟨rfl,hb⟩:=ml hM
  obtain ⟨v',w',hrun,hown,hgr,hblk,hold⟩:=gv (P:=P) (w:=w) T ty el hT he hzs hsz (hs.at hi).out hu hru.1 hru.ones (gk hb hbp) hb
  have hK:∀ {a:List Res} {j:Nat},a[j]?=some (.row v el τ.sz l.length xs)→Sep g0 w0 g w a→Sep g0 w0 g w' a:=by
    intro a j hj f
    have c:=f.upd (r':=.row v el τ.sz l.length xs) hj hgr ⟨hold⟩ (fun b hb=>.inl hb)
    have hL:a.set j (.row v el τ.sz l.length xs)=a:=by
      apply List.ext_getElem?
      intro q
      rw [List.getElem?_set]
      split
      · rename_i e; subst e
        rw [hj]
        have:=(List.getElem?_eq_some_iff.1 hj).1
        simp [this]
      · rfl
    rw [hL] at c
    exact c
  refine O (.inl ?_) hd (k v' w' (xs++ys) (hr.append hru) hK (hs.upd hi hgr ⟨?_⟩ hblk))
  · simp only [execOp,resolve,invoke,builtin,Sem.run_bind,Sem.run_pure,Result.andThen_ok,List.map_toArray,List.map_cons,List.map_nil,hx,hy,hrun]
  · simp only [Res.okB,List.length_append]; exact hown
theorem ky (z:Array Value) (m j:Nat) (hj:j<m):(madeCells z m)[j]?=some (z[j % z.size]!):=by simp [madeCells,hj]
theorem qU {α:Type} {τ:Ty α} {zc:List Value} {x:α} {m:Nat} (hz:τ.rel g zc x):ak τ g (madeCells zc.toArray (m*τ.sz)).toList (List.replicate m x):=by
  have hl:=τ.len hz
  refine ⟨by simp [size_madeCells],fun i y hy=>?_⟩
  have hi:i<m:=by have:=(List.getElem?_eq_some_iff.1 hy).1; simpa using this
  have hy':y=x:=by rw [List.getElem?_replicate] at hy; simp [hi] at hy; exact hy.symm
  subst hy'
  have e:((madeCells zc.toArray (m*τ.sz)).toList.drop (i*τ.sz)).take τ.sz=zc:=by
    apply List.ext_getElem?
    intro j
    rw [List.getElem?_take]
    split
    · rename_i hj
      have hlt:i*τ.sz+j<m*τ.sz:=by
        have:(i+1)*τ.sz≤m*τ.sz:=Nat.mul_le_mul_right _ hi
        rw [Nat.succ_mul] at this; omega
      rw [List.getElem?_drop,Array.getElem?_toList,ky _ _ _ hlt]
      have hmod:(i*τ.sz+j) % τ.sz=j:=by rw [Nat.mul_comm,Nat.mul_add_mod]; exact Nat.mod_eq_of_lt hj
      have hj':j<zc.length:=by omega
      simp only [List.size_toArray,hl,hmod]
      rw [List.getElem?_eq_getElem hj']
      simp [hj']
    · rename_i hj
      rw [List.getElem?_eq_none (by omega)]
  rw [e]; exact hz
theorem cG {α:Type} {τ:Ty α} {T el:TypeId} {agg:Bool} {bytes:Nat} {z:Value} {zc:List Value} {zx:α} {x y:Operand} {c a:IntKind} {q:Int} {r:List α}
    (hT:P.underlying T=some (.slice el)) (he:eb P el agg τ.sz bytes z) (hzc:z.cells=zc.toArray) (hzx:τ.rel g zc zx) (hbp:0<bytes) (hs:Sep g0 w0 g w L)
    (hx:ev E x=.int c q) (hy:ev E y=.int a q) (hM:nY bytes q zx=some r) (hd:Nat.blt d n.sz=true)
    (k:∀v' w' xs',ak τ g xs' r→Sep g0 w0 g w' (.row v' el τ.sz r.length xs'::L)→OW P n ops Q rest (dD E d v') w') :
    OW P n ops Q (⟨some d,.makeSlice T x y,ty,ps,af,none⟩::rest) E w:=by
  obtain ⟨rfl,e,hb⟩:=rn hM
  obtain ⟨i,hi,hz,hsi,hbi⟩:=he.info
  have hq:q≤140737488355328:=by
    have:q*1≤q*bytes:=Int.mul_le_mul_of_nonneg_left (by omega) e
    omega
  have hrun:=run_make (P:=P) w T el i z hT hi hz c a q q e (Int.le_refl _) (by rw [hbi,Int.mul_comm]; omega) (by omega)
  rw [hsi,hzc] at hrun
  have hs':=hs.alloc (.cells (madeCells zc.toArray (q.toNat*τ.sz)) el)
  have f:=hs'.upd (i:=0) (r:=.obj w.heap.size (.cells (madeCells zc.toArray (q.toNat*τ.sz)) el)) (r':=.row (.slice (some ⟨w.heap.size,0,none⟩) q.toNat q.toNat) el τ.sz (List.replicate q.toNat zx).length (madeCells zc.toArray (q.toNat*τ.sz)).toList) rfl
    ⟨rfl,rfl,rfl,Nat.le_refl _,fun _ _ _=>rfl⟩ ⟨by
      simp only [Res.okB,List.length_replicate]
      refine ⟨by simp [size_madeCells],.inr ⟨w.heap.size,q.toNat,_,rfl,Nat.zero_le _,heap_alloc_new w _,Nat.le_refl _,by simp only [maxLen]; omega,size_madeCells _ _,?_⟩⟩
      rw [List.take_of_length_le (by simp [size_madeCells])]⟩ (fun b hb=>.inl (by simpa [Res.blk,Value.ownBlock] using hb))
  refine O (.inl ?_) hd (k _ _ _ (qU hzx) f)
  simp [execOp,hx,hy,hrun]
theorem wB (size:Nat):∀(vs:List Value) (k:Nat) (pre old:List Value),(∀v∈vs,v.cells.size=size)→pre.length=k*size→old.length=vs.length*size→
    Instr.fill (fun i=>some (i*size,size)) (pre++old).toArray ((vs.zipIdx k).map fun p=>(p.2,p.1))=some (pre++vs.flatMap fun v=>v.cells.toList).toArray:=by
  intro vs
  induction vs with
  | nil=>intro k pre old _ _ ho; simp at ho; subst ho; simp [Instr.fill]
  | cons v vs ih=>
    intro k pre old hv hp ho
    have hvs:=hv v (by simp)
    simp only [List.zipIdx_cons,List.map_cons,Instr.fill]
    have hol:size≤old.length:=by rw [ho]; simp [Nat.succ_mul]
    have hlen:k*size+v.cells.size≤(pre++old).toArray.size:=by simp [hp,hvs]; omega
    rw [if_neg (by simp [hvs,hp] at *; omega)]
    have e:v.cells.zipIdx.foldl (fun cs (x:Value×Nat)=>cs.setIfInBounds (k*size+x.2) x.1) (pre++old).toArray=((pre++v.cells.toList)++old.drop size).toArray:=by
      have ib:∀(cs:List Value) (q:Nat) (acc old:List Value),acc.length=k*size+q→cs.length≤old.length→
          (cs.zipIdx q).foldl (fun a (x:Value×Nat)=>a.setIfInBounds (k*size+x.2) x.1) (acc++old).toArray=(acc++cs++old.drop cs.length).toArray:=by
        intro cs
        induction cs with
        | nil=>intro q acc old _ _; simp
        | cons c cs ihc=>
          intro q acc old ha hlo
          match old,hlo with
          | o::old,hlo=>
            simp only [List.zipIdx_cons,List.foldl_cons]
            have b:(acc++o::old).toArray.setIfInBounds (k*size+q) c=((acc++[c])++old).toArray:=by
              rw [←ha]
              simp [List.setIfInBounds_toArray]
            rw [b,ihc (q+1) (acc++[c]) old (by simp [ha]; omega) (by simpa using hlo)]
            simp
      have:=ib v.cells.toList 0 pre old (by simpa using hp) (by simpa [hvs] using hol)
      rw [←Array.foldl_toList,Array.toList_zipIdx]
      rw [this]
      simp [hvs]
    rw [e]
    have:=ih (k+1) (pre++v.cells.toList) (old.drop size) (fun u hu=>hv u (by simp [hu])) (by simp [hp,hvs,Nat.succ_mul]) (by simp [ho,Nat.succ_mul])
    rw [this]
    simp
def yX {α:Type} (τ:Ty α) (g:Hp):List Value→List α→Prop
  | [],[]=>True
  | v::vs,x::l=>τ.rel g v.cells.toList x∧yX τ g vs l
  | _,_=>False
theorem nt {α:Type} {τ:Ty α}:∀ {vs:List Value} {l:List α},yX τ g vs l→ak τ g (vs.flatMap fun v=>v.cells.toList) l∧vs.length=l.length∧∀v∈vs,v.cells.size=τ.sz
  | [],[],_=>⟨ak.nil,rfl,by simp⟩
  | v::vs,x::l,h=>by
    obtain ⟨c,b,a⟩:=nt h.2
    refine ⟨(ak.one h.1).append c,by simp [b],fun u hu=>?_⟩
    rcases List.mem_cons.1 hu with rfl|hu
    · have:=τ.len h.1; simpa using this
    · exact a u hu
  | [],_::_,h=>h.elim
  | _::_,[],h=>h.elim
theorem uD {α:Type} {τ:Ty α} {T el:TypeId} {agg:Bool} {bytes:Nat} {z:Value} {parts:Array (Nat×Operand)} {len:Nat} (vs:List Value) (l:List α)
    (hT:P.underlying T=some (.slice el)) (he:eb P el agg τ.sz bytes z) (hsz:0<τ.sz) (hs:Sep g0 w0 g w L) (hlen:len=l.length) (hsmall:Nat.ble (len*τ.sz) 16777216=true)
    (hp:(parts.toList.map fun p=>(p.1,ev E p.2))=(vs.zipIdx 0).map fun p=>(p.2,p.1)) (hl:yX τ g vs l) (hd:Nat.blt d n.sz=true)
    (k:∀v' w' xs',ak τ g xs' l→(∀e,Sep g0 w0 g w e→Sep g0 w0 g w' e)→Sep g0 w0 g w' (.row v' el τ.sz l.length xs'::L)→OW P n ops Q rest (dD E d v') w') :
    OW P n ops Q (⟨some d,.buildSlice T len parts,ty,ps,af,none⟩::rest) E w:=by
  obtain ⟨hrow,hvl,hvs⟩:=nt hl
  have hsm:len*τ.sz≤16777216:=Nat.le_of_ble_eq_true hsmall
  subst hlen
  have hfill:=wB τ.sz vs 0 [] (madeCells z.cells (l.length*τ.sz)).toList hvs (by simp) (by simp [size_madeCells,hvl])
  simp only [List.nil_append,Array.toArray_toList] at hfill
  have hs':=hs.alloc (.cells (vs.flatMap fun v=>v.cells.toList).toArray el)
  have f:=hs'.upd (i:=0) (r:=.obj w.heap.size (.cells (vs.flatMap fun v=>v.cells.toList).toArray el)) (r':=.row (.slice (some ⟨w.heap.size,0,none⟩) l.length l.length) el τ.sz l.length (vs.flatMap fun v=>v.cells.toList)) rfl
    ⟨rfl,rfl,rfl,Nat.le_refl _,fun _ _ _=>rfl⟩ ⟨by
      simp only [Res.okB]
      refine ⟨hrow.1,.inr ⟨w.heap.size,l.length,_,rfl,Nat.zero_le _,heap_alloc_new w _,Nat.le_refl _,gk (b:=τ.sz) (by omega) hsz,by simpa using hrow.1,?_⟩⟩
      rw [List.take_of_length_le (Nat.le_of_eq hrow.1)]⟩ (fun b hb=>.inl (by simpa [Res.blk,Value.ownBlock] using hb))
  refine O (.inl ?_) hd (k _ _ _ hrow (fun e h=>(h.alloc _).sub (.cons _ (List.Sublist.refl _))) f)
  have hn:¬ (l.length*τ.sz > 2 ^ 24):=by omega
  have hpa:(parts.map fun x=>(x.1,ev E x.2))=((vs.zipIdx 0).map fun p=>(p.2,p.1)).toArray:=by apply Array.ext'; rw [Array.toList_map,←hp]
  have hbs:(Instr.buildSlice T l.length (((vs.zipIdx 0).map fun p=>(p.2,p.1)).toArray)).run P w=.ok (.slice (some ⟨w.heap.size,0,none⟩) l.length l.length) (w.alloc (.cells (vs.flatMap fun v=>v.cells.toList).toArray el)):=by
    unfold Instr.buildSlice
    simp only [Sem.run_bind,run_underlying hT,Result.andThen_ok,dy he,if_neg hn]
    by_cases a:l.length*τ.sz=0
    · rw [a] at hfill
      simp only [a,if_true,Sem.run_bind,Sem.run_pure,Result.andThen_ok]
      have c:(Array.range 0).map (fun x=>(#[]:Array Value)[x % (#[]:Array Value).size]!)=madeCells z.cells 0:=by simp [madeCells]
      rw [c,hfill]
      simp [newRow]
    · simp only [a,if_false,Sem.run_bind,jW he,Sem.run_pure,Result.andThen_ok]
      have c:(Array.range (l.length*τ.sz)).map (fun x=>z.cells[x % z.cells.size]!)=madeCells z.cells (l.length*τ.sz):=rfl
      rw [c,hfill]
      simp [newRow]
  have hpa':(parts.map fun (i,x)=>(i,ev E x))=((vs.zipIdx 0).map fun p=>(p.2,p.1)).toArray:=hpa
  simp only [execOp,Sem.run_bind,hpa',hbs,Result.andThen_ok,Sem.run_pure]
theorem bC {α:Type} {τ:Ty α} {T el:TypeId} {agg:Bool} {bytes:Nat} {z:Value} {parts:Array (Nat×Operand)} {len:Nat} (vs:List Value) (l:List α)
    (hT:P.underlying T=some (.slice el)) (he:eb P el agg τ.sz bytes z) (hsz:0<τ.sz) (hs:Sep g0 w0 g w L) (hlen:len=l.length) (hsmall:Nat.ble (len*τ.sz) 16777216=true)
    (hp:(parts.toList.map fun p=>(p.1,ev E p.2))=(vs.zipIdx 0).map fun p=>(p.2,p.1)) (hl:yX τ g vs l) (hd:Nat.blt d n.sz=true)
    (k:∀v' w' xs',ak τ g xs' l→Sep g0 w0 g w' (.row v' el τ.sz l.length xs'::L)→OW P n ops Q rest (dD E d v') w') :
    OW P n ops Q (⟨some d,.buildSlice T len parts,ty,ps,af,none⟩::rest) E w:=
  uD vs l hT he hsz hs hlen hsmall hp hl hd fun v' w' xs' b _ a=>k v' w' xs' b a
theorem Sep.relRow {α:Type} {τ:Ty α} {l:List α} {i:Nat} {v:Value} {e:TypeId} {xs:List Value} (h:Sep g0 w0 g w L) (hi:L[i]?=some (.row v e τ.sz l.length xs)) (hr:ak τ g xs l) :
    ∃g',aY g g'∧cI τ g' v l∧Sep g0 w0 g' w (L.eraseIdx i):=by
  have hrow:=(h.at hi).out
  rcases hrow.2 with ⟨rfl,hn⟩|⟨b,cap,cur,rfl,_,hb,hnc,_,hcs,ht⟩
  · have:l=[]:=List.eq_nil_of_length_eq_zero hn
    subst this
    exact ⟨g,aY.refl g,cI.nil,h.sub (List.eraseIdx_sublist L i)⟩
  · obtain ⟨hs,hle⟩:=h.release hi (b:=b) rfl hb
    refine ⟨_,hle,⟨xs,hr.mono hle,.inr ⟨b,0,cap,cur,e,(0,0),rfl,hnc,by simp [rD],fun j u hu=>?_⟩⟩,hs⟩
    rw [←ht,List.getElem?_take] at hu
    split at hu
    · simpa using hu
    · cases hu
end
end Go.Lx
namespace Go.Lx
open Go.RowKit
theorem wE (a b:Str):((ByteArray.mk a.toArray) == (ByteArray.mk b.toArray))=(a == b):=by
  rw [Bool.eq_iff_iff,MapKept.bytes_beq]
  simp
section
variable {P:Program} {n:Fr} {Q:EPost} {E:Env} {w:World} {ops:Array Oper} {rest:List Oper} {d:Tmp} {d':Option Tmp} {ty:TypeId} {ps:String} {af:Array Edge} {gd:Option (Nat×Bool)} {g0 g:Hp} {w0:World} {L:List Res}
variable {K V:Type} [BEq K] {ek:K→Value} {vf:V→Value} {T Tk Te:TypeId}
end
end Go.Lx
namespace Go.Lx
open Go.RowKit
section
variable {P:Program} {E:Env} {w:World} {d:Option Tmp} {ty:TypeId} {ps:String} {af:Array Edge} {gd:Option (Nat×Bool)}
theorem uR {x:Operand} {vs:List Value} {i:Nat} {v:Value} (hx:ev E x=.tuple vs.toArray) (hi:vs[i]?=some v):cr P E ⟨d,.extract x i,ty,ps,af,gd⟩ w v w:=.inl (by simp [execOp,Instr.extract,hx,hi])
theorem zA {T T':TypeId} {x y:Operand} {a b:Bool} (hT:P.underlying T=some .bool) (hx:ev E x=.bool a) (hy:ev E y=.bool b):cr P E ⟨d,.binOp .eql T x y T',ty,ps,af,gd⟩ w (.bool (a == b)) w:=
  bN (by rw [hx,eqGuard_at_bool]; rfl) (by rw [hx,hy,run_eql_bool w T a b hT])
theorem zv {T T':TypeId} {x y:Operand} {a b:Bool} (hT:P.underlying T=some .bool) (hx:ev E x=.bool a) (hy:ev E y=.bool b):cr P E ⟨d,.binOp .neq T x y T',ty,ps,af,gd⟩ w (.bool (!(a == b))) w:=
  bN (by rw [hx,eqGuard_at_bool]; rfl) (by rw [hx,hy,run_neq_bool w T a b hT])
theorem ku {T T':TypeId} {x y:Operand} {a b:Str} (hx:ev E x=ah a) (hy:ev E y=ah b):cr P E ⟨d,.binOp .eql T x y T',ty,ps,af,gd⟩ w (.bool (a == b)) w:=
  bN (by rw [hx,hy]; rfl) (by rw [hx,hy]; simp [binOp,Op.stringOp,ah])
theorem vS {T T':TypeId} {x y:Operand} {a b:Str} (hx:ev E x=ah a) (hy:ev E y=ah b):cr P E ⟨d,.binOp .neq T x y T',ty,ps,af,gd⟩ w (.bool (a != b)) w:=
  bN (by rw [hx,hy]; rfl) (by rw [hx,hy]; simp [binOp,Op.stringOp,ah,bne])
def mR (a b:Str):Option Str:=if a.length+b.length≤9223372036854775807 then some (a++b) else none
theorem lX {T T':TypeId} {x y:Operand} {a b c:Str} (hx:ev E x=ah a) (hy:ev E y=ah b) (h:mR a b=some c):cr P E ⟨d,.binOp .add T x y T',ty,ps,af,gd⟩ w (ah c) w:=
  bN (by rw [hx,hy]; rfl) (by
    unfold mR at h
    split at h
    · rename_i e
      cases h
      have:=run_string_add_sum (P:=P) (w:=w) ⟨a.toArray⟩ ⟨b.toArray⟩ (by simpa [ByteArray.size_mk'] using e)
      rw [hx,hy]
      simp only [binOp,ah]
      rw [this]
      congr 2
    · cases h)
theorem sP {f:FuncId} {fn:Func} {xs:Array Operand} {ats:Array TypeId} {args:List Value} (hf:P.funcs[f]?=some fn) (hb:fn.body.isSome=true) (hn:(fn.name == "runtime.NumGoroutine")=false) (ha:xs.toList.map (ev E)=args) :
    (execOp (ev E) ⟨d,.call { callee:=.value (.func f),args:=xs,argTypes:=ats },ty,ps,af,gd⟩).run P w=.ok (.enter f args.toArray) w:=by
  have ha:xs.map (ev E)=args.toArray:=by apply Array.ext'; rw [Array.toList_map,ha]
  have hb':fn.body.isNone=false:=by cases hfb:fn.body <;> simp [hfb] at hb ⊢
  have hn':¬ fn.name = "runtime.NumGoroutine":=by simpa using hn
  have a:¬ fn.body=none:=by intro h; rw [h] at hb; cases hb
  simp [execOp,resolve,Deferred.ofValue,invoke,callFunc,ev,ha,hf,a,hn']
end
def kO (l:List Int):Str:=l.map fun n=>UInt8.ofNat n.toNat
theorem ot:∀(ns:List Int) (s:ByteArray),ns.foldl (fun r n=>r.push (UInt8.ofNat n.toNat)) s=⟨(s.data.toList++kO ns).toArray⟩
  | [],s=>by simp [kO]
  | n::ns,s=>by
    simp only [List.foldl_cons,ot ns]
    simp [kO,ByteArray.push]
section
variable {P:Program} {E:Env} {w:World} {d:Option Tmp} {ty:TypeId} {ps:String} {af:Array Edge} {gd:Option (Nat×Bool)}
theorem xT {S T e:TypeId} {x:Operand} {v:Value} {l:List Int} {xs:List Value} {g:Hp} (hS:P.underlying S=some (.slice e)) (he:P.underlying e=some (.int .u8)) (hT:P.underlying T=some .string)
    (hx:ev E x=v) (hv:zr w v l.length xs) (hr:ak (au .u8) g xs l):cr P E ⟨d,.convert S T x,ty,ps,af,gd⟩ w (ah (kO l)) w:=.inl (by
  have hxs:xs=l.map (Value.int .u8):=by
    apply List.ext_getElem?
    intro i
    have hl:xs.length=l.length:=by simpa [au] using hr.1
    by_cases hi:i<l.length
    · have:=hr.2 i l[i] (List.getElem?_eq_getElem hi)
      simp only [au,Nat.mul_one] at this
      have b:=congrArg (fun c=>c[0]?) this
      simp only [List.getElem?_take,List.getElem?_drop] at b
      simp at b
      rw [b]; simp [hi]
    · rw [List.getElem?_eq_none (by omega),List.getElem?_eq_none (by simp; omega)]
  rcases hv with ⟨rfl,hn,_⟩|⟨a,c,rfl,hc⟩
  · have:l=[]:=List.eq_nil_of_length_eq_zero hn
    subst this
    have:=run_convert_bytes_string (P:=P) w S T e none 0 0 hS he hT
    simp only [execOp,Sem.run_bind,hx,this]
    rfl
  · have k:=run_convert_bytes_string (P:=P) w S T e (some a) l.length c hS he hT
    have h:=eK (P:=P) (w:=w) a xs 0 #[] (fun j u hj=>by rw [Nat.zero_add]; exact hc j u hj)
    have f:=run_bytesToString (P:=P) w a l.length c l (by
      rw [hxs] at h
      simpa [loadCells] using h)
    rw [ot] at f
    simp only [execOp,Sem.run_bind,hx,k,f,Result.andThen_ok,Sem.run_pure,ah]
    simp)
end
def CF (P:Program) (f:FuncId):Prop:=∃fn,P.funcs[f]?=some fn∧fn.body.isSome=true∧(fn.name == "runtime.NumGoroutine")=false
theorem bz {P:Program} {f:FuncId} {fn:Func} (h:P.funcs[f]?=some fn) (hb:fn.body.isSome=true) (hn:(fn.name == "runtime.NumGoroutine")=false):CF P f:=⟨fn,h,hb,hn⟩
section
variable {P:Program} {n:Fr} {Q:EPost} {E:Env} {w:World} {ops:Array Oper} {rest:List Oper} {d:Tmp} {ty:TypeId} {ps:String} {af:Array Edge} {gd:Option (Nat×Bool)}
theorem C {f:FuncId} {xs:Array Operand} {ats:Array TypeId} (args:List Value) {R:Value→World→Prop} (hf:CF P f) (ha:xs.toList.map (ev E)=args) (hc:bi P f args.toArray w R) (hd:Nat.blt d n.sz=true)
    (k:∀v w',R v w'→OW P n ops Q rest (dD E d v) w'):OW P n ops Q (⟨some d,.call { callee:=.value (.func f),args:=xs,argTypes:=ats },ty,ps,af,none⟩::rest) E w:=by
  obtain ⟨fn,c,b,a⟩:=hf
  exact yW (sP c b a ha) hd rfl hc k
theorem OG {d0:Tmp} {op:Op} {v:Value} {w':World} {j:Nat} {want:Bool} {b:Bool} {oj:Oper} (hj:ops[j]?=some oj) (hdj:oj.dst=some d0) (hb:ev E (.tmp d0)=.bool b) (hne:(b == want)=true)
    (hr:cr P E ⟨some d,op,ty,ps,af,some (j,want)⟩ w v w') (hd:Nat.blt d n.sz=true) (k:OW P n ops Q rest (dD E d v) w'):OW P n ops Q (⟨some d,op,ty,ps,af,some (j,want)⟩::rest) E w:=
  yU rfl hj hdj hb hne hr hd k
theorem OK {d0:Tmp} {op:Op} {j:Nat} {want:Bool} {b:Bool} {oj:Oper} (hj:ops[j]?=some oj) (hdj:oj.dst=some d0) (hb:ev E (.tmp d0)=.bool b) (hne:(b == want)=false)
    (hd:Nat.blt d n.sz=true) (k:OW P n ops Q rest (dD E d undef) w):OW P n ops Q (⟨some d,op,ty,ps,af,some (j,want)⟩::rest) E w:=
  yV rfl hj hdj hb hne hd k
theorem CG {f:FuncId} {xs:Array Operand} {ats:Array TypeId} {a:Tmp} {j:Nat} {want:Bool} {b:Bool} {oj:Oper} (hj:ops[j]?=some oj) (hdj:oj.dst=some a) (hb:ev E (.tmp a)=.bool b) (hne:(b == want)=true)
    (args:List Value) {R:Value→World→Prop} (hf:CF P f) (ha:xs.toList.map (ev E)=args) (hc:bi P f args.toArray w R) (hd:Nat.blt d n.sz=true)
    (k:∀v w',R v w'→OW P n ops Q rest (dD E d v) w'):OW P n ops Q (⟨some d,.call { callee:=.value (.func f),args:=xs,argTypes:=ats },ty,ps,af,some (j,want)⟩::rest) E w:=by
  obtain ⟨fn,g,e,c⟩:=hf
  exact so rfl hj hdj hb hne (sP g e c ha) hd hc k
theorem SG {Q:Env→Prop} {d0:Tmp} {op:Op} {v:Value} {j:Nat} {want:Bool} {b:Bool} {oj:Oper} (hj:ops[j]?=some oj) (hdj:oj.dst=some d0) (hb:ev E (.tmp d0)=.bool b) (hne:(b == want)=true)
    (hr:cr P E ⟨some d,op,ty,ps,af,some (j,want)⟩ w v w) (hd:Nat.blt d n.sz=true) (k:SW P n ops w Q rest (dD E d v)):SW P n ops w Q (⟨some d,op,ty,ps,af,some (j,want)⟩::rest) E:=
  yQ rfl hj hdj hb hne hr hd k
theorem SK {Q:Env→Prop} {d0:Tmp} {op:Op} {j:Nat} {want:Bool} {b:Bool} {oj:Oper} (hj:ops[j]?=some oj) (hdj:oj.dst=some d0) (hb:ev E (.tmp d0)=.bool b) (hne:(b == want)=false)
    (hd:Nat.blt d n.sz=true) (k:SW P n ops w Q rest (dD E d undef)):SW P n ops w Q (⟨some d,op,ty,ps,af,some (j,want)⟩::rest) E:=
  yR rfl hj hdj hb hne hd k
theorem ay {d:Option Tmp} {c x y:Operand} {b:Bool} {v:Value} (hc:ev E c=.bool b) (hb:b=true) (h:ev E x=v):cr P E ⟨d,.pick c x y,ty,ps,af,gd⟩ w v w:=vR hc (by subst hb; exact h)
theorem aw {d:Option Tmp} {c x y:Operand} {b:Bool} {v:Value} (hc:ev E c=.bool b) (hb:b=false) (h:ev E y=v):cr P E ⟨d,.pick c x y,ty,ps,af,gd⟩ w v w:=vR hc (by subst hb; exact h)
end
def cX {α:Type} (τ:Ty α) (agg:Bool) (g:Hp) (v:Value) (x:α):Prop:=∃cs,tD agg cs=v∧τ.rel g cs x
def aR:Nat:=18446744073709551616
def bg {σ ρ:Type} (o:Option (cD σ ρ)) (k:σ→Option ρ):Option ρ:=match o with
  | none=>none
  | some (.next s)=>k s
  | some (.stop r)=>some r
def bV {σ ρ:Type} (o:cD σ ρ) (k:σ→Option ρ):Option ρ:=match o with
  | .next s=>k s
  | .stop r=>some r
theorem cx {σ ρ:Type} {o:Option (cD σ ρ)} {k:σ→Option ρ} {r:ρ} (h:bg o k=some r):∃s,o=some s∧bV s k=some r:=by
  cases o with
  | none=>cases h
  | some s=>cases s <;> exact ⟨_,rfl,h⟩
section
variable {P:Program} {E:Env} {w:World} {d:Option Tmp} {ty:TypeId} {ps:String} {af:Array Edge} {gd:Option (Nat×Bool)}
theorem jX (f:Nat→Option Bool×Unit→Sem (ForInStep (Option Bool×Unit))) (p:Nat→Bool) :
    ∀(l:List Nat),(∀i∈l,(f i (none,())).run P w=.ok (if p i then .yield (none,()) else .done (some false,())) w)→
    (forIn l (none,()) f).run P w=.ok (if l.all p then (none,()) else (some false,())) w
  | [],_=>by simp [Sem.run_pure]
  | i::l,h=>by
    rw [List.forIn_cons,Sem.run_bind,h i (by simp)]
    cases hp:p i
    · simp [Sem.run_pure,hp]
    · simp only [if_true,Result.andThen_ok,List.all_cons,hp,Bool.true_and]
      exact jX f p l (fun j hj=>h j (by simp [hj]))
theorem iG (D:Nat) {T:TypeId} {k:IntKind} (hT:P.underlying T=some (.int k)) (a b:Int):(Op.equalIn (D+1) T (.int k a) (.int k b)).run P w=.ok (a == b) w:=by
  simp [Op.equalIn,run_underlying hT]
theorem iF (D:Nat) {T el:TypeId} {n:Nat} {k:IntKind} {bytes:Nat} {z:Value} (hT:P.underlying T=some (.array n el)) (hE:P.underlying el=some (.int k)) (he:eb P el false 1 bytes z) (a b:az n) :
    (Op.equalIn (D+2) T (cB k a) (cB k b)).run P w=.ok (a == b) w:=by
  have hcell:∀(c:az n) (i:Nat) (hi:i<n),(part el (c.1.map (Value.int k)).toArray (i*1)).run P w=.ok (.int k (c.1[i]'(by rw [c.2]; exact hi))) w:=by
    intro c i hi
    have hi':i<c.1.length:=by rw [c.2]; exact hi
    simp [part,fB he,hi']
  unfold cB
  rw [Op.equalIn]
  simp only [Sem.run_bind,run_underlying hT,Result.andThen_ok,dy he]
  rw [Std.Legacy.Range.forIn_eq_forIn_range']
  rw [jX (P:=P) (w:=w) _ (fun i=>a.1[i]? == b.1[i]?)]
  · simp only [Result.andThen_ok]
    have:((List.range' 0 n 1).all fun i=>a.1[i]? == b.1[i]?)=(a == b):=by
      rw [Bool.eq_iff_iff]
      simp only [List.all_eq_true,beq_iff_eq]
      constructor
      · intro h
        apply Subtype.ext
        apply List.ext_getElem?
        intro i
        by_cases hi:i<n
        · exact h i (by simp [List.mem_range']; omega)
        · rw [List.getElem?_eq_none (by rw [a.2]; omega),List.getElem?_eq_none (by rw [b.2]; omega)]
      · rintro rfl i _; rfl
    simp only [Std.Legacy.Range.size,Nat.sub_zero,Nat.add_sub_cancel,Nat.div_one]
    rw [this]
    cases (a == b) <;> rfl
  · intro i hi
    have hi':i<n:=by simp [List.mem_range',Std.Legacy.Range.size] at hi; omega
    have ha:i<a.1.length:=by rw [a.2]; exact hi'
    have hb:i<b.1.length:=by rw [b.2]; exact hi'
    simp only [Sem.run_bind,hcell a i hi',hcell b i hi',Result.andThen_ok,iG D hE,List.getElem?_eq_getElem ha,List.getElem?_eq_getElem hb]
    cases h:(a.1[i] == b.1[i]) <;> simp_all
theorem zz {T T' el:TypeId} {x y:Operand} {n:Nat} {k:IntKind} {bytes:Nat} {z:Value} {a b:az n} (hT:P.underlying T=some (.array n el)) (hE:P.underlying el=some (.int k)) (he:eb P el false 1 bytes z)
    (hx:ev E x=cB k a) (hy:ev E y=cB k b) (hq:P.eqGuardType P.depth T=false):cr P E ⟨d,.binOp .eql T x y T',ty,ps,af,gd⟩ w (.bool (a == b)) w:=
  bN (by rw [hx,hy]; simp only [eqGuard,cB]; simp [program,Sem.run,hq]) (by
    rw [hx,hy]
    have:=iF (P:=P) (w:=w) 9998 hT hE he a b
    unfold cB at *
    simp only [binOp,Sem.run_bind,Op.equal,Op.maxDepth,this,Result.andThen_ok,Sem.run_pure])
theorem qa {T T' el:TypeId} {x y:Operand} {n:Nat} {k:IntKind} {bytes:Nat} {z:Value} {a b:az n} (hT:P.underlying T=some (.array n el)) (hE:P.underlying el=some (.int k)) (he:eb P el false 1 bytes z)
    (hx:ev E x=cB k a) (hy:ev E y=cB k b) (hq:P.eqGuardType P.depth T=false):cr P E ⟨d,.binOp .neq T x y T',ty,ps,af,gd⟩ w (.bool (a != b)) w:=
  bN (by rw [hx,hy]; simp only [eqGuard,cB]; simp [program,Sem.run,hq]) (by
    rw [hx,hy]
    have:=iF (P:=P) (w:=w) 9998 hT hE he a b
    unfold cB at *
    simp only [binOp,Sem.run_bind,Op.equal,Op.maxDepth,this,Result.andThen_ok,Sem.run_pure,bne])
def kD (k:IntKind) (n:Int):Int:=bits .xor k (if k.signed then -1 else k.max) n
theorem tT {T:TypeId} {x:Operand} {k:IntKind} {a:Int} (hx:ev E x=.int k a):cr P E ⟨d,.unOp .xor T x,ty,ps,af,gd⟩ w (.int k (kD k a)) w:=.inl (by simp [execOp,hx,Op.unary,intBits_xor,kD])
end
theorem cr.cast {P:Program} {E:Env} {o:Oper} {w w':World} {v v':Value} (h:cr P E o w v w') (e:v=v'):cr P E o w v' w':=e ▸ h
section
variable {P:Program} {n:Fr} {Q:EPost} {E:Env} {w:World} {ops:Array Oper} {rest:List Oper} {d:Tmp} {ty:TypeId} {ps:String} {af:Array Edge}
theorem gu {a:Act} (ha:eH n E a) {j:Nat} {oj:Oper} {d:Tmp} (hj:ops[j]?=some oj) (hd:oj.dst=some d) (hb:E d=undef):yielded ops a.tmps j=none:=by
  have:=ha.get d
  rw [hb,Array.getD_eq_getD_getElem?] at this
  unfold yielded
  simp only [hj,Option.bind_some,hd]
  cases hx:a.tmps[d]? with
  | none=>rfl
  | some x=>rw [hx] at this; simp at this; subst this; rfl
theorem fm {b:Tmp} {op:Op} {j:Nat} {want:Bool} {oj:Oper} (hj:ops[j]?=some oj) (hdj:oj.dst=some b) (hb:ev E (.tmp b)=undef)
    (hd:Nat.blt d n.sz=true) (k:OW P n ops Q rest (dD E d undef) w):OW P n ops Q (⟨some d,op,ty,ps,af,some (j,want)⟩::rest) E w:=by
  intro a ha
  refine wpListIn_step fun K hK=>?_
  have hy:=gu ha hj hdj hb
  rw [if_neg (by simp [Region.wanted,hy])]
  exact ⟨fun _ _=>trivial,hK _ _ (k _ (ha.put (d:=some d) hd undef))⟩
theorem dO {Q:Env→Prop} {b:Tmp} {op:Op} {j:Nat} {want:Bool} {oj:Oper} (hj:ops[j]?=some oj) (hdj:oj.dst=some b) (hb:ev E (.tmp b)=undef)
    (hd:Nat.blt d n.sz=true) (k:SW P n ops w Q rest (dD E d undef)):SW P n ops w Q (⟨some d,op,ty,ps,af,some (j,want)⟩::rest) E:=by
  intro a ha
  have hy:=gu ha hj hdj hb
  unfold wpStill
  rw [if_neg (by simp [Region.wanted,hy])]
  exact k _ (ha.put (d:=some d) hd undef)
end
end Go.Lx
namespace Go.Lx
open Go.RowKit
def yN (acc:List Nat):List Edge→List Nat
  | []=>acc
  | e::l=>yN (if Region.binds .any e && !acc.contains e.on then e.on::acc else acc) l
def rY (ops:Array Oper) (acc:List Nat) (j:Nat):List Nat:=match ops[j]? with
  | some o=>yN acc o.after.toList
  | none=>acc
def vv (ops:Array Oper) (j:Nat):Nat→List Nat
  | 0=>rY ops [] j
  | k+1=>(vv ops j k).foldl (rY ops) (vv ops j k)
def jZ (ops:Array Oper) (qs:List Nat) (j:Nat):Bool:=!(qs.all fun i=>(vv ops j 8).contains i)
def Cl (ops:Array Oper) (listed:Array Bool):Prop:=∀(k:Nat) (o:Oper),ops[k]?=some o→listed.getD k false=true→∀e∈o.after,Region.binds .any e=true→listed.getD e.on false=true
theorem jt {listed:Array Bool}:∀(l:List Edge) (acc:List Nat),(∀x∈acc,listed.getD x false=true)→(∀e∈l,Region.binds .any e=true→listed.getD e.on false=true)→∀x∈yN acc l,listed.getD x false=true
  | [],_,h,_=>h
  | e::l,acc,h,a=>by
    unfold yN
    refine jt l _ ?_ (fun e' he'=>a e' (List.mem_cons_of_mem _ he'))
    split
    · rename_i hc
      simp only [Bool.and_eq_true] at hc
      intro x hx
      rcases List.mem_cons.1 hx with rfl|hx
      · exact a e (List.mem_cons_self ..) hc.1
      · exact h x hx
    · exact h
theorem rX {ops:Array Oper} {listed:Array Bool} {j:Nat} (hcl:Cl ops listed) (hj:∀o,ops[j]?=some o→∀e∈o.after,Region.binds .any e=true→listed.getD e.on false=true):∀k,∀x∈vv ops j k,listed.getD x false=true:=by
  intro k
  induction k with
  | zero=>
    unfold vv rY
    split
    · rename_i o ho; exact jt _ _ (by simp) (fun e he=>hj o ho e (by simpa using he))
    · simp
  | succ k ih=>
    unfold vv
    have:∀(l acc:List Nat),(∀x∈l,listed.getD x false=true)→(∀x∈acc,listed.getD x false=true)→∀x∈l.foldl (rY ops) acc,listed.getD x false=true:=by
      intro l
      induction l with
      | nil=>exact fun _ _ h=>h
      | cons y l a=>
        intro acc hl hacc
        refine a _ (fun x hx=>hl x (List.mem_cons_of_mem _ hx)) ?_
        unfold rY
        split
        · rename_i o ho; exact jt _ _ hacc (fun e he=>hcl y o ho (hl y (List.mem_cons_self ..)) e (by simpa using he))
        · exact hacc
    exact this _ _ ih ih
def jE (ops:Array Oper):Bool:=ops.all fun o=>match o.op with|.defer _=>false|_=>true
theorem qf {ops:Array Oper} (h:jE ops=true) (j:Nat) (o:Oper) (c:Call) (hj:ops[j]?=some o):o.op≠.defer c:=by
  intro hc
  unfold jE at h
  rw [Array.all_eq_true] at h
  obtain ⟨hlt,hj⟩:=Array.getElem?_eq_some_iff.1 hj
  have:=h j hlt
  rw [hj,hc] at this
  cases this
def eW (n:Fr) (P:Program) (ops:Array Oper) (Q:Exit→Act→World→Prop) (S:World→Prop) (qs:List Nat):Nat→Array Bool→Act→World→Prop
  | 0,listed,a,w=>Region.ready .any ops listed=[]∧Q .normal a w
  | aR+1,listed,a,w=>
    (Region.ready .any ops listed=[]→Q .normal a w)∧
    ∀i∈Region.ready .any ops listed,wpOpIn (Fz n) 0 P ops Q i (fun a' w'=>(jZ ops qs i=true→S w')∧eW n P ops Q S qs aR (listed.setIfInBounds i true) a' w') a w
section
variable {n:Fr} {P:Program} {ops:Array Oper} {Q:Exit→Act→World→Prop} {S:World→Prop} {qs:List Nat}
theorem nj:∀(aR:Nat) (listed:Array Bool) (a:Act) (w:World),eW n P ops Q S qs aR listed a w→wpAnyIn (Fz n) 0 P .any ops Q aR listed a w
  | 0,_,_,_,h=>h
  | aR+1,_,_,_,h=>⟨h.1,fun i hi=>wpOpIn_mono (fun a' w' h'=>nj aR _ a' w' h'.2) (h.2 i hi)⟩
theorem jV {i:Nat} {o:Oper} {v:Value} {a:Act} (hi:ops[i]?=some o) (hy:YieldsIf P ops S o v a)
    {K:Act→World→Prop} {w:World} (hS:S w) (h:K (a.put o.dst v) w):wpOpIn (Fz n) 0 P ops Q i K a w:=by
  unfold Go.wpOpIn
  simp only [hi]
  rcases hy with ⟨hw,hv⟩|⟨hw,rfl⟩
  · rw [if_pos hw]
    refine ⟨fun _ _=>trivial,?_⟩
    rw [eY (hv w hS) (by simp)]
    exact h
  · rw [if_neg (by simp [hw])]; exact ⟨fun _ _=>trivial,h⟩
theorem pK {j:Nat} {oi oj:Oper} {v:Value} (hj:ops[j]?=some oj) (hap:oi.apart ops oj=true)
    (hsi:∀cs b,oi.op≠.select cs b) (hsj:∀cs b,oj.op≠.select cs b) (hdj:∀c,oj.op≠.defer c)
    (hQ:∀c a w,Q (.panic c) (a.put oi.dst v) w→Q (.panic c) a w) {K:Act→World→Prop} {a:Act} {w:World}
    (hy:YieldsIf P ops S oi v a) (h:wpOpIn (Fz n) 0 P ops Q j K (a.put oi.dst v) w) :
    wpOpIn (Fz n) 0 P ops Q j (fun a' w'=>YieldsIf P ops S oi v a'∧K (a'.put oi.dst v) w') a w:=by
  obtain ⟨k,g,i⟩:=Oper.apart_spec hap
  have keep:∀(a:Act),YieldsIf P ops S oi v a→∀u,YieldsIf P ops S oi v (a.put oj.dst u):=fun a hy u=>
    hy.of_same (execOp_put oi hsi a oj.dst u i) (wanted_put oi a oj.dst u i)
  have keepD:∀d,YieldsIf P ops S oi v { a with defers:=d::a.defers }:=fun d=>hy.of_same rfl rfl
  unfold wpOpIn at *
  simp only [hj] at *
  rw [wanted_put oj a oi.dst v k] at h
  split
  · rename_i hw
    simp only [hw,if_true] at h
    unfold Oper.wpIn at *
    refine ⟨fun _ _=>trivial,?_⟩
    have h:=h.2
    rw [Oper.semAt_eq _ _ _ hdj,execOp_put oj hsj a oi.dst v k] at h
    rw [Oper.semAt_eq _ _ _ hdj]
    generalize (execOp a.eval oj).run P w=r at *
    cases r with
    | ok x w'=>
      cases x <;> simp only [Oper.uponIn] at h ⊢
      case value u=>exact ⟨keep a hy u,by rw [←Act.put_comm a v u g]; exact h⟩
      case skip=>exact ⟨keep a hy _,by rw [←Act.put_comm a v undef g]; exact h⟩
      case defer d=>
        refine ⟨keep _ (keepD d) _,?_⟩
        rw [←Act.put_comm _ v undef g,←Act.put_defers]
        exact h
      case enter f args=>
        refine ⟨h.1,CallsIn.mono h.2 fun e w'' he=>?_⟩
        cases e with
        | returned u=>exact ⟨keep a hy u,by rw [←Act.put_comm a v u g]; exact he⟩
        | panicked c=>exact hQ _ _ _ he
        | outgrown=>exact he
      case row row args=>exact ⟨h.1,RowsIn.mono h.2 fun u w'' he=>⟨keep a hy u,by rw [←Act.put_comm a v u g]; exact he⟩⟩
      case round l f tmps assign body=>
        refine ⟨h.1,RoundIn.mono h.2 fun e w'' he=>?_⟩
        cases e with
        | returned u=>exact ⟨keep a hy u,by rw [←Act.put_comm a v u g]; exact he⟩
        | panicked c=>exact hQ _ _ _ he
        | outgrown=>exact he
    | halt x w'=>
      cases x <;> simp only [Oper.uponIn] at h ⊢
      case panic u=>exact hQ _ _ _ h
  · rename_i hw
    simp only [hw] at h
    exact ⟨fun _ _=>trivial,keep a hy _,by rw [←Act.put_comm a v undef g]; exact h.2⟩
theorem Cl.start (m:Nat):Cl ops (Array.replicate m false):=fun k o _ hk=>by
  simp only [Array.getD_eq_getD_getElem?,Array.getElem?_replicate] at hk
  split at hk <;> simp at hk
theorem Cl.set {listed:Array Bool} (h:Cl ops listed) {i:Nat} (hi:i∈Region.ready .any ops listed):Cl ops (listed.setIfInBounds i true):=by
  intro k o hk hl e he hb
  by_cases hik:i=k
  · subst hik
    obtain ⟨_,o',ho',hall⟩:=mem_ready.1 hi
    rw [hk] at ho'
    obtain rfl:=Option.some.inj ho'
    exact getD_set_true (hall e he hb)
  · rw [getD_set_ne false hik] at hl
    exact getD_set_true (h k o hk hl e he hb)
theorem pL {i:Nat} {oi:Oper} {v:Value} (hq:i∈qs) (hi:ops[i]?=some oi) (hsel:∀(j:Nat) (o:Oper) cs b,ops[j]?=some o→o.op≠.select cs b) (hdef:jE ops=true)
    (hQ:∀c a w,Q (.panic c) (a.put oi.dst v) w→Q (.panic c) a w) :
    ∀(aR:Nat) (listed:Array Bool) (a:Act) (w:World),
      (∀j oj,ops[j]?=some oj→j≠i→listed.getD j true=false→(∀e∈oj.after,Region.binds .any e=true→e.on≠i)→oi.apart ops oj=true)→
      Cl ops listed→i∈Region.ready .any ops listed→YieldsIf P ops S oi v a→S w→
      eW n P ops Q S qs aR (listed.setIfInBounds i true) (a.put oi.dst v) w→eW n P ops Q S qs (aR+1) listed a w:=by
  intro aR
  induction aR with
  | zero=>
    intro listed a w _ hcl hr hy hS H
    refine ⟨fun h=>(by rw [h] at hr; cases hr),fun j hj=>?_⟩
    by_cases hji:j=i
    · subst hji; exact jV hi hy hS ⟨fun _=>hS,H⟩
    · have:=ready_mono hj hji
      rw [H.1] at this
      cases this
  | succ aR ih=>
    intro listed a w hfree hcl hr hy hS H
    refine ⟨fun h=>(by rw [h] at hr; cases hr),fun j hj=>?_⟩
    by_cases hji:j=i
    · subst hji; exact jV hi hy hS ⟨fun _=>hS,H⟩
    · have d:=H.2 j (ready_mono hj hji)
      obtain ⟨hjun,oj,hoj,hall⟩:=mem_ready.1 hj
      have hnot:∀e∈oj.after,Region.binds .any e=true→e.on≠i:=fun e he hb heq=>by
        have d:=hall e he hb
        have f:=(mem_ready.1 hr).1
        rw [heq] at d
        rcases Nat.lt_or_ge i listed.size with h'|h'
        · simp [h'] at f d; rw [f] at d; cases d
        · simp [Array.getElem?_eq_none h'] at d
      have hneed:jZ ops qs j=true:=by
        unfold jZ
        rw [Bool.not_eq_true',List.all_eq_false]
        refine ⟨i,hq,fun hc=>?_⟩
        have d:=rX (j:=j) hcl (fun o ho e he hb=>by rw [hoj] at ho; obtain rfl:=Option.some.inj ho; exact hall e he hb) 8 i (by simpa using hc)
        have f:=(mem_ready.1 hr).1
        rcases Nat.lt_or_ge i listed.size with h'|h'
        · simp [h'] at f d; rw [f] at d; cases d
        · simp [Array.getElem?_eq_none h'] at d
      have l:=pK hoj (hfree j oj hoj hji hjun hnot) (fun cs b=>hsel i oi cs b hi) (fun cs b=>hsel j oj cs b hoj) (fun c=>qf hdef j oj c hoj) hQ hy d
      have hfree':∀k ok,ops[k]?=some ok→k≠i→(listed.setIfInBounds j true).getD k true=false→
          (∀e∈ok.after,Region.binds .any e=true→e.on≠i)→oi.apart ops ok=true:=fun k ok hk hki hun hno=>by
        refine hfree k ok hk hki ?_ hno
        by_cases hjk:j=k
        · subst hjk; exact hjun
        · rw [getD_set_ne true hjk] at hun; exact hun
      refine wpOpIn_mono (fun a' w' g=>⟨fun _=>g.2.1 hneed,ih (listed.setIfInBounds j true) a' w' hfree' (hcl.set hj) (ready_mono hr (Ne.symm hji)) g.1 (g.2.1 hneed) ?_⟩) l
      rw [Array.setIfInBounds_comm _ _ hji]
      exact g.2.2
theorem qI {i:Nat} {oi:Oper} {v:Value} {aR:Nat} {listed:Array Bool} {a:Act} {w:World} (hq:i∈qs) (hi:ops[i]?=some oi)
    (hs:Region.noSelect ops=true) (hdef:jE ops=true) (hf:Region.free .any ops listed i=true) (hr:(Region.ready .any ops listed).contains i=true)
    (hcl:Cl ops listed) (hQ:∀c a w,Q (.panic c) (a.put oi.dst v) w→Q (.panic c) a w) (hy:YieldsIf P ops S oi v a) (hS:S w)
    (h:eW n P ops Q S qs aR (listed.setIfInBounds i true) (a.put oi.dst v) w):eW n P ops Q S qs (aR+1) listed a w:=
  pL hq hi (Region.noSelect_spec hs) hdef hQ aR listed a w (Region.free_spec hi hf) hcl (by simpa using hr) hy hS h
theorem nk {rs:List Nat} {aR:Nat} {listed:Array Bool} {a:Act} {w:World} (hr:Region.ready .any ops listed=rs) (hne:rs≠[])
    (h:∀i∈rs,wpOpIn (Fz n) 0 P ops Q i (fun a' w'=>(jZ ops qs i=true→S w')∧eW n P ops Q S qs aR (listed.setIfInBounds i true) a' w') a w):eW n P ops Q S qs (aR+1) listed a w:=
  ⟨fun h0=>absurd (hr ▸ h0) hne,hr ▸ h⟩
theorem qJ {listed:Array Bool} {a:Act} {w:World} (hr:Region.ready .any ops listed=[]) (h:Q .normal a w) :
    ∀aR,eW n P ops Q S qs aR listed a w
  | 0=>⟨hr,h⟩
  | _+1=>⟨fun _=>h,by rw [hr]; simp⟩
theorem qH {id:Nat} {a:Act} {w:World} (hm:P.follows .mixedOrders=true)
    (h:eW n P ops Q S qs ops.size (Array.replicate ops.size false) a { w with drawn:=w.drawn+1 }):(Code.region id ops true).wpIn (Fz n) 0 P Q a w:=
  wpIn_region_any hm (nj _ _ _ _ h)
end
inductive OT where
  | leaf
  | q (k:Nat) (t:OT)
  | s (k:Nat) (t:OT)
  | c (k:Nat) (t u:OT)
  | n
def OT.depth:OT→Nat
  | .leaf=>0
  | .q _ t=>t.depth+1
  | .s _ t=>t.depth+1
  | .c _ t u=>max (t.depth+1) u.depth
  | .n=>0
def OT.alts:OT→List Nat
  | .c k _ u=>k::u.alts
  | _=>[]
def OT.qs:OT→List Nat
  | .leaf=>[]
  | .q k t=>k::t.qs
  | .s _ t=>t.qs
  | .c _ t u=>t.qs++u.qs
  | .n=>[]
def qE (ops:Array Oper):OT→Bool→Array Bool→Bool
  | .leaf,f,l=>f && (Region.ready .any ops l).isEmpty
  | .q k t,f,l=>f && (Region.ready .any ops l).contains k && Region.free .any ops l k && qE ops t true (l.setIfInBounds k true)
  | .s k t,f,l=>f && Region.ready .any ops l == [k] && qE ops t true (l.setIfInBounds k true)
  | .c k t u,f,l=>(!f || Region.ready .any ops l == (OT.c k t u).alts) && qE ops t true (l.setIfInBounds k true) && qE ops u false l
  | .n,f,_=>!f
def sV (ops:Array Oper) (t:OT):Bool:=(Region.noSelect ops && jE ops) && decide (t.depth≤ops.size) && qE ops t true (Array.replicate ops.size false)
section
variable {P:Program} {n:Fr} {ops:Array Oper} {Q:EPost} {S:World→Prop} {qs:List Nat}
def QS (b:Bool) (S:World→Prop) (K:Env→World→Prop) (Q:EPost):EPost:=fun e E w=>match e with
  | .normal=>(b=true→S w)∧K E w
  | e=>Q e E w
def YE (P:Program) (ops:Array Oper) (S:World→Prop) (o:Oper) (v:Value) (E:Env):Prop:=
  (o.guard=none∧∀w,S w→(execOp (ev E) o).run P w=.ok (.value v) w)∨
  (∃j want oj d b,o.guard=some (j,want)∧ops[j]?=some oj∧oj.dst=some d∧ev E (.tmp d)=.bool b∧(((b == want)=true∧∀w,S w→(execOp (ev E) o).run P w=.ok (.value v) w)∨((b == want)=false∧v=undef)))∨
  (∃j want oj d,o.guard=some (j,want)∧ops[j]?=some oj∧oj.dst=some d∧ev E (.tmp d)=undef∧v=undef)
def AT (P:Program) (n:Fr) (ops:Array Oper) (Q:EPost) (S:World→Prop) (qs:List Nat):OT→Env→World→Prop
  | .leaf,E,w=>Q .normal E w
  | .q k t,E,w=>∃o v,ops[k]?=some o∧jq n o.dst=true∧S w∧YE P ops S o v E∧AT P n ops Q S qs t (mA E o.dst v) w
  | .s k t,E,w=>∃o,ops[k]?=some o∧OW P n ops (QS (jZ ops qs k) S (AT P n ops Q S qs t) Q) [o] E w
  | .c k t u,E,w=>(∃o,ops[k]?=some o∧OW P n ops (QS (jZ ops qs k) S (AT P n ops Q S qs t) Q) [o] E w)∧AT P n ops Q S qs u E w
  | .n,_,_=>True
theorem ni {k:Nat} {o:Oper} {K:Env→World→Prop} {E:Env} {w:World} {a:Act} {b:Bool} (ho:ops[k]?=some o) (h:OW P n ops (QS b S K Q) [o] E w) (ha:eH n E a) :
    wpOpIn (Fz n) 0 P ops (lm n Q) k (fun a' w'=>(b=true→S w')∧∃E',eH n E' a'∧K E' w') a w:=by
  have h:=h a ha
  unfold wpOpIn
  simp only [ho]
  unfold wpListIn at h
  have conv:∀a' w',lm n (QS b S K Q) .normal a' w'→(b=true→S w')∧∃E',eH n E' a'∧K E' w':=fun a' w' ⟨E',f,hS,hK⟩=>⟨hS,E',f,hK⟩
  split at h
  · rename_i hw
    rw [if_pos hw]
    unfold Oper.wpIn at *
    refine ⟨fun _ _=>trivial,?_⟩
    have h:=h.2
    generalize (o.semAt (Fz n).round a.eval).run P w=r at *
    cases r with
    | ok nx w'=>
      cases nx <;> simp only [Oper.uponIn] at h ⊢ <;> first
        | exact conv _ _ h
        | exact h.elim
        | (refine ⟨h.1,CallsIn.mono h.2 ?_⟩
           rintro e w'' he
           cases e <;> first
             | exact conv _ _ he
             | exact he)
        | (exact ⟨h.1,RowsIn.mono h.2 fun v w'' he=>conv _ _ he⟩)
        | (refine ⟨h.1,RoundIn.mono h.2 ?_⟩
           rintro e w'' he
           cases e <;> first
             | exact conv _ _ he
             | exact he)
    | halt x w'=>cases x <;> first|exact h|exact h.elim
  · rename_i hw
    rw [if_neg hw]
    exact ⟨fun _ _=>trivial,conv _ _ h.2⟩
theorem YE.yields {o:Oper} {v:Value} {E:Env} {a:Act} (h:YE P ops S o v E) (ha:eH n E a):YieldsIf P ops S o v a:=by
  unfold YieldsIf
  rw [ha.eval]
  rcases h with ⟨hg,h⟩|⟨j,want,oj,d,b,hg,hj,hd,hb,h⟩|⟨j,want,oj,d,hg,hj,hd,hb,h⟩
  · exact .inl ⟨fg hg,h⟩
  · have hy:=eu ha hj hd hb
    rcases h with ⟨hw,h⟩|⟨hw,h⟩
    · exact .inl ⟨by simp only [Region.wanted,hg,hy]; simpa using hw,h⟩
    · exact .inr ⟨by simp only [Region.wanted,hg,hy]; cases b <;> cases want <;> simp_all,h⟩
  · have hy:=gu ha hj hd hb
    exact .inr ⟨by simp [Region.wanted,hg,hy],h⟩
theorem wY (hs:Region.noSelect ops=true∧jE ops=true) [hP:eQ Q]:∀(t:OT),(∀k∈t.qs,k∈qs)→
    (∀(aR:Nat) (listed:Array Bool) (E:Env) (w:World) (a:Act),t.depth≤aR→qE ops t true listed=true→Cl ops listed→AT P n ops Q S qs t E w→eH n E a→eW n P ops (lm n Q) S qs aR listed a w)∧
    (∀(aR:Nat) (listed:Array Bool) (E:Env) (w:World) (a:Act),t.depth≤aR+1→qE ops t false listed=true→Cl ops listed→(∀i∈t.alts,i∈Region.ready .any ops listed)→AT P n ops Q S qs t E w→eH n E a→
      ∀i∈t.alts,wpOpIn (Fz n) 0 P ops (lm n Q) i (fun a' w'=>(jZ ops qs i=true→S w')∧eW n P ops (lm n Q) S qs aR (listed.setIfInBounds i true) a' w') a w):=by
  intro t
  induction t with
  | leaf=>
    intro hq
    refine ⟨fun aR listed E w a _ hB _ h ha=>qJ (by simpa [qE] using hB) ⟨E,ha,h⟩ aR,fun _ _ _ _ _ _ hB=>by simp [qE] at hB⟩
  | n=>exact fun hq=>⟨fun _ _ _ _ _ _ hB=>by simp [qE] at hB,fun _ _ _ _ _ _ _ _ _ _ _ i hi=>by simp [OT.alts] at hi⟩
  | q k t ih=>
    intro hq
    have ih:=ih (fun j hj=>hq j (by simp [OT.qs,hj]))
    refine ⟨fun aR listed E w a hd hB hcl h ha=>?_,fun _ _ _ _ _ _ hB=>by simp [qE] at hB⟩
    obtain ⟨o,v,ho,hdst,hS,hy,hk⟩:=h
    simp only [qE,Bool.and_eq_true,Bool.true_and] at hB
    match aR,hd with
    | aR+1,hd=>
      refine qI (hq k (by simp [OT.qs])) ho hs.1 hs.2 hB.1.2 hB.1.1 hcl (fun c a w ⟨E,f,q⟩=>(let ⟨E',f',hd⟩:=f.same; ⟨E',f',hP.ok c E E' w hd q⟩)) (hy.yields ha) hS ?_
      exact ih.1 aR _ _ _ _ (by simpa [OT.depth] using hd) hB.2 (hcl.set (by simpa using hB.1.1)) hk (ha.put hdst v)
  | s k t ih=>
    intro hq
    have ih:=ih (fun j hj=>hq j (by simpa [OT.qs] using hj))
    refine ⟨fun aR listed E w a hd hB hcl h ha=>?_,fun _ _ _ _ _ _ hB=>by simp [qE] at hB⟩
    obtain ⟨o,ho,h⟩:=h
    simp only [qE,Bool.and_eq_true,beq_iff_eq,Bool.true_and] at hB
    match aR,hd with
    | aR+1,hd=>
      refine nk hB.1 (by simp) fun i hi=>?_
      have hik:i=k:=by simpa using hi
      subst hik
      exact wpOpIn_mono (fun a' w' ⟨hS,E',f,hk⟩=>⟨hS,ih.1 aR _ _ _ _ (by simpa [OT.depth] using hd) hB.2 (hcl.set (by rw [hB.1]; simp)) hk f⟩) (ni ho h ha)
  | c k t u iht ihu=>
    intro hq
    have iht:=iht (fun j hj=>hq j (by simp [OT.qs,hj]))
    have ihu:=ihu (fun j hj=>hq j (by simp [OT.qs,hj]))
    have main:∀(aR:Nat) (listed:Array Bool) (E:Env) (w:World) (a:Act),(OT.c k t u).depth≤aR+1→qE ops t true (listed.setIfInBounds k true)=true→qE ops u false listed=true→Cl ops listed→(∀i∈(OT.c k t u).alts,i∈Region.ready .any ops listed)→AT P n ops Q S qs (.c k t u) E w→eH n E a→
        ∀i∈(OT.c k t u).alts,wpOpIn (Fz n) 0 P ops (lm n Q) i (fun a' w'=>(jZ ops qs i=true→S w')∧eW n P ops (lm n Q) S qs aR (listed.setIfInBounds i true) a' w') a w:=by
      intro aR listed E w a hd d b hcl hal h ha i hi
      obtain ⟨⟨o,ho,h⟩,h'⟩:=h
      have hd':max (t.depth+1) u.depth≤aR+1:=by simpa [OT.depth] using hd
      rcases List.mem_cons.1 hi with rfl|hi
      · exact wpOpIn_mono (fun a' w' ⟨hS,E',f,hk⟩=>⟨hS,iht.1 aR _ _ _ _ (by omega) d (hcl.set (hal _ (by simp [OT.alts]))) hk f⟩) (ni ho h ha)
      · exact ihu.2 aR listed E w a (by omega) b hcl (fun q hq=>hal q (by simp [OT.alts,hq])) h' ha i hi
    refine ⟨fun aR listed E w a hd hB hcl h ha=>?_,fun aR listed E w a hd hB hcl hal h ha=>?_⟩
    · simp only [qE,Bool.and_eq_true,Bool.not_true,Bool.false_or,beq_iff_eq] at hB
      match aR,hd with
      | 0,hd=>simp [OT.depth] at hd
      | aR+1,hd=>exact nk hB.1.1 (by simp [OT.alts]) (main aR listed E w a hd hB.1.2 hB.2 hcl (fun i hi=>by rw [hB.1.1]; exact hi) h ha)
    · simp only [qE,Bool.and_eq_true,Bool.not_false,Bool.true_or,true_and] at hB
      exact main aR listed E w a hd hB.1 hB.2 hcl hal h ha
theorem mp {id:Nat} {l:List Oper} {E:Env} {w:World} (t:OT) (S:World→Prop) (hm:P.follows .mixedOrders=true) (hB:sV l.toArray t=true) [hP:eQ Q]
    (h:AT P n l.toArray Q S t.qs t E w.drew):WP P n (.region id l.toArray true) Q E w:=by
  simp only [sV,Bool.and_eq_true,decide_eq_true_eq] at hB
  exact fun a ha=>qH (qs:=t.qs) hm ((wY hB.1.1 t (fun _ h=>h)).1 _ _ _ _ _ hB.1.2 hB.2 (Cl.start _) h ha)
section
variable {E:Env} {w:World} {k d:Nat} {op:Op} {ty:TypeId} {ps:String} {af:Array Edge} {v:Value} {t:OT}
theorem A (ho:ops[k]?=some ⟨some d,op,ty,ps,af,none⟩) (hS:S w) (hr:∀w,S w→cr P E ⟨some d,op,ty,ps,af,none⟩ w v w) (hd:Nat.blt d n.sz=true) (h:AT P n ops Q S qs t (dD E d v) w):AT P n ops Q S qs (.q k t) E w:=
  ⟨_,v,ho,hd,hS,.inl ⟨rfl,fun w hw=>(hr w hw).out⟩,h⟩
theorem AG {j a:Nat} {want b:Bool} {oj:Oper} (ho:ops[k]?=some ⟨some d,op,ty,ps,af,some (j,want)⟩) (hj:ops[j]?=some oj) (hdj:oj.dst=some a) (hb:ev E (.tmp a)=.bool b) (hne:(b == want)=true)
    (hS:S w) (hr:∀w,S w→cr P E ⟨some d,op,ty,ps,af,some (j,want)⟩ w v w) (hd:Nat.blt d n.sz=true) (h:AT P n ops Q S qs t (dD E d v) w):AT P n ops Q S qs (.q k t) E w:=
  ⟨_,v,ho,hd,hS,.inr (.inl ⟨j,want,oj,a,b,rfl,hj,hdj,hb,.inl ⟨hne,fun w hw=>(hr w hw).out⟩⟩),h⟩
theorem AK {j d0:Nat} {want b:Bool} {oj:Oper} (ho:ops[k]?=some ⟨some d,op,ty,ps,af,some (j,want)⟩) (hj:ops[j]?=some oj) (hdj:oj.dst=some d0) (hb:ev E (.tmp d0)=.bool b) (hne:(b == want)=false)
    (hS:S w) (hd:Nat.blt d n.sz=true) (h:AT P n ops Q S qs t (dD E d undef) w):AT P n ops Q S qs (.q k t) E w:=
  ⟨_,undef,ho,hd,hS,.inr (.inl ⟨j,want,oj,d0,b,rfl,hj,hdj,hb,.inr ⟨hne,rfl⟩⟩),h⟩
theorem A1 {o:Oper} (ho:ops[k]?=some o) (h:OW P n ops (QS (jZ ops qs k) S (AT P n ops Q S qs t) Q) [o] E w):AT P n ops Q S qs (.s k t) E w:=⟨o,ho,h⟩
theorem A2 {o:Oper} {u:OT} (ho:ops[k]?=some o) (h:OW P n ops (QS (jZ ops qs k) S (AT P n ops Q S qs t) Q) [o] E w) (h':AT P n ops Q S qs u E w):AT P n ops Q S qs (.c k t u) E w:=⟨⟨o,ho,h⟩,h'⟩
theorem AN (h:Q .normal E w):AT P n ops Q S qs .leaf E w:=h
end
end
def SS (g0:Hp) (w0:World) (g:Hp) (L:List Res):World→Prop:=fun w=>∃g',aY g g'∧Sep g0 w0 g' w L
theorem SS.to {g0 g g':Hp} {w0 w w':World} {L:List Res} (_:SS g0 w0 g L w) (h:aY g g') (hs:Sep g0 w0 g' w' L):SS g0 w0 g L w':=⟨g',h,hs⟩
theorem dp.of_le {g g':Hp} {w:World} (h:dp g' w) (hl:aY g g'):dp g w:=fun b o hb=>h b o (hl b o hb)
end Go.Lx
namespace Go.Lx
open Go.RowKit Go.ChangeShapes Go.WideShapes Go.ChangeAt
def gr (w:World):Hp:=fun b=>w.heap[b]?
theorem yj (w:World):dp (gr w) w:=fun _ _ h=>h
def uE (k:IntKind) (n:Int):Prop:=k.min≤n∧n≤k.max
def ik (P:Program) (T:TypeId) {α:Type} (τ:Ty α) (ok:α→Prop):Prop:=
  ∀(H:Type) (enc:TypeId×Value→H) (w:World) (f:Nat) (cs:List Value) (x:DataW H×List MemPlace),
    DataW.trod enc P w 0 (fun _=>true) true f T cs=some x→∃y,τ.rel (gr w) cs y∧ok y
def lA (P:Program) (T:TypeId) {α:Type} (τ:Ty α) (ok:α→Prop) (f:Nat):Prop:=
  ∀(H:Type) (enc:TypeId×Value→H) (w:World) (cs:List Value) (x:DataW H×List MemPlace),
    DataW.trod enc P w 0 (fun _=>true) true f T cs=some x→∃y,τ.rel (gr w) cs y∧ok y
theorem ik.at {P:Program} {T:TypeId} {α:Type} {τ:Ty α} {ok:α→Prop} (h:ik P T τ ok) (f:Nat):lA P T τ ok f:=fun H enc w cs x hx=>h H enc w f cs x hx
theorem ik.of {P:Program} {T:TypeId} {α:Type} {τ:Ty α} {ok:α→Prop} (h:∀f,lA P T τ ok f):ik P T τ ok:=fun H enc w f cs x hx=>h f H enc w cs x hx
section
variable {P:Program} {T:TypeId}
theorem fC {k:IntKind} (hT:P.underlying T=some (.int k)):ik P T (au k) (uE k):=by
  intro H enc w f cs x h
  obtain ⟨n,rfl,_,hw⟩:=DataW.trod_int hT h
  exact ⟨n,rfl,by unfold uE; simpa [Lit.wf] using hw⟩
theorem sF (hT:P.underlying T=some .bool):ik P T aV (fun _=>True):=by
  intro H enc w f cs x h
  obtain ⟨n,rfl,_⟩:=DataW.trod_bool hT h
  exact ⟨n,rfl,trivial⟩
theorem jA (hT:P.underlying T=some .string):ik P T cM (fun s=>s.length≤maxLen):=by
  intro H enc w f cs x h
  obtain ⟨s,rfl,_,hw⟩:=DataW.trod_string hT h
  exact ⟨s.data.toList,rfl,(show s.data.toList.length≤maxLen from hw)⟩
theorem oe {w:World} {a:Addr}:∀ {n:Nat} {cs:List Value},(List.range n).mapM (fun i=>w.cell? (a.add i))=some cs→cs.length=n∧∀j u,cs[j]?=some u→w.cell? (a.add j)=some u:=by
  intro n cs h
  have hl:cs.length=n:=by simpa using mapM_some_length h
  refine ⟨hl,fun j u hu=>?_⟩
  have hj:j<n:=by have:=(List.getElem?_eq_some_iff.1 hu).1; omega
  have:=mapM_some_get h j j (by simp [hj])
  rw [this]; exact hu
theorem oZ {α:Type} {el:TypeId} {τ:Ty α} {ok:α→Prop} {f:Nat} (hT:P.underlying T=some (.slice el)) (hc:P.cellsOf el=τ.sz) (hsz:0<τ.sz) (hr:∀m,m<f→lA P el τ ok m) :
    lA P T (cz τ) (fun l=>(∀x∈l,ok x)∧l.length≤maxLen) f:=by
  intro H enc w cs x h
  rcases DataW.trod_slice hT h with ⟨rfl,_⟩|⟨a,len,cap,elems,rest,m,hfm,rfl,_,_,hlc,hcm,hlen,hel,_⟩
  · exact ⟨[],⟨_,rfl,cI.nil⟩,by simp,by simp⟩
  · have hex:∀i,i<len→∃ci y,(∀j u,ci[j]?=some u→w.cell? ((a.add (i*τ.sz)).add j)=some u)∧ci.length=τ.sz∧τ.rel (gr w) ci y∧ok y:=by
      intro i hi
      have c:=hel i hi
      rw [List.getElem?_eq_getElem (by omega),hc] at c
      cases d:w.cells? 0 (a.add (i*τ.sz)) τ.sz with
      | none=>rw [d] at c; simp at c
      | some ci=>
        rw [d] at c
        simp only [Option.bind_some] at c
        obtain ⟨y,hy,hok⟩:=hr m (by omega) H enc w ci _ c
        simp only [World.cells?,Nat.zero_le,if_true] at d
        obtain ⟨hl,hcell⟩:=oe d
        exact ⟨ci,y,hcell,hl,hy,hok⟩
    rcases Nat.eq_zero_or_pos len with g|g
    · subst g
      exact ⟨[],⟨_,rfl,[],ak.nil,.inl ⟨rfl,rfl,some a,cap,rfl,fun h=>by cases h⟩⟩,by simp,by simp⟩
    · have hspot:a.spot=none:=by
        obtain ⟨ci,_,hcell,hl,_⟩:=hex 0 g
        have hci:ci[0]?=some (ci[0]'(by omega)):=List.getElem?_eq_getElem (by omega)
        have:=hcell 0 _ hci
        have:=World.cell?_spot this
        simpa [Addr.add] using this
      obtain ⟨b,off,spot⟩:=a
      simp only at hspot
      subst hspot
      -- build the list and its cells
      have build:∀k,k≤len→∃(xs:List Value) (l:List α),l.length=k∧ak τ (gr w) xs l∧(∀y∈l,ok y)∧∀j u,xs[j]?=some u→w.cell? ⟨b,off+j,none⟩=some u:=by
        intro k
        induction k with
        | zero=>intro _; exact ⟨[],[],rfl,ak.nil,by simp,by simp⟩
        | succ k ih=>
          intro hk
          obtain ⟨xs,l,hl,hrr,hok,hcell⟩:=ih (by omega)
          obtain ⟨ci,y,hci,hcl,hy,hoky⟩:=hex k (by omega)
          refine ⟨xs++ci,l++[y],by simp [hl],hrr.append (ak.one hy),?_,?_⟩
          · intro z hz
            rcases List.mem_append.1 hz with hz|hz
            · exact hok z hz
            · simp at hz; subst hz; exact hoky
          · intro j u hu
            rw [List.getElem?_append] at hu
            split at hu
            · exact hcell j u hu
            · rename_i hj
              have:=hci _ _ hu
              rw [Addr.add_lit,Addr.add_lit] at this
              have hx:=hrr.1
              rw [hl] at hx
              rw [show off+j=off+k*τ.sz+(j - xs.length) by omega]
              exact this
      obtain ⟨xs,l,hl,hrr,hok,hcell⟩:=build len (Nat.le_refl _)
      have n:0<xs.length:=by rw [hrr.1,hl]; exact Nat.mul_pos g hsz
      have hfirst:=hcell 0 xs[0] (List.getElem?_eq_getElem n)
      cases hblk:w.heap[b]? with
      | none=>simp [World.cell?,hblk] at hfirst
      | some o=>
        cases o with
        | cells arr e fz=>
          refine ⟨l,⟨_,rfl,xs,hrr,.inr ⟨b,off,cap,arr,e,fz,by rw [hl],by omega,hblk,fun j u hu=>?_⟩⟩,hok,by omega⟩
          have:=hcell j u hu
          simpa [World.cell?,hblk] using this
        | _=>simp [World.cell?,hblk] at hfirst
theorem qY {α:Type} {el:TypeId} {τ:Ty α} {ok:α→Prop} (hT:P.underlying T=some (.slice el)) (hc:P.cellsOf el=τ.sz) (hsz:0<τ.sz) (hr:ik P el τ ok) :
    ik P T (cz τ) (fun l=>(∀x∈l,ok x)∧l.length≤maxLen):=.of fun _=>oZ hT hc hsz fun m _=>hr.at m
theorem gN {P:Program} {α:Type} {H:Type} {enc:TypeId×Value→H} {w:World} {n:Nat} {fs:Array Field} {cs:List Value} {xs:List (DataW H×List MemPlace)} {f:Field} {τ:Ty α} {ok:α→Prop}
    (hr:lA P f.type τ ok n) (hf:∀(i:Nat) (f:Field),fs[i]?=some f→DataW.trod enc P w 0 (fun _=>true) true n f.type ((cs.drop f.offset).take (P.cellsOf f.type))=xs[i]?) (hlen:xs.length=fs.size)
    (i:Nat) (hi:fs[i]?=some f) {o s:Nat} (ho:f.offset=o) (hs:P.cellsOf f.type=s):∃y,τ.rel (gr w) ((cs.drop o).take s) y∧ok y:=by
  have h:=hf i f hi
  have hl:i<xs.length:=by rw [hlen]; exact (Array.getElem?_eq_some_iff.1 hi).1
  rw [List.getElem?_eq_getElem hl,ho,hs] at h
  exact hr H enc w _ _ h
theorem dF {P:Program} {α:Type} {H:Type} {enc:TypeId×Value→H} {w:World} {n:Nat} {fs:Array Field} {cs:List Value} {xs:List (DataW H×List MemPlace)} {f:Field} {τ:Ty α} {ok:α→Prop}
    (hr:ik P f.type τ ok) (hf:∀(i:Nat) (f:Field),fs[i]?=some f→DataW.trod enc P w 0 (fun _=>true) true n f.type ((cs.drop f.offset).take (P.cellsOf f.type))=xs[i]?) (hlen:xs.length=fs.size)
    (i:Nat) (hi:fs[i]?=some f) {o s:Nat} (ho:f.offset=o) (hs:P.cellsOf f.type=s):∃y,τ.rel (gr w) ((cs.drop o).take s) y∧ok y:=by
  have h:=hf i f hi
  have hl:i<xs.length:=by rw [hlen]; exact (Array.getElem?_eq_some_iff.1 hi).1
  rw [List.getElem?_eq_getElem hl,ho,hs] at h
  exact hr H enc w n _ _ h
theorem pe (cs:List Value) (o s:Nat):cs.drop o=(cs.drop o).take s++cs.drop (o+s):=by
  rw [←List.drop_drop,List.take_append_drop]
theorem zY {cs:List Value} {o s:Nat} (h:cs.length=o+s):cs.drop o=(cs.drop o).take s:=by
  rw [List.take_of_length_le (by simp; omega)]
def xf (P:Program) (T:TypeId):Prop:=∀w r base cs,¬ Value.okWide P w r base T (.agg cs)
theorem pO {e:TypeId} (hT:P.underlying T=some (.slice e)):xf P T:=fun _ _ _ _ h=>by obtain ⟨_,_,_,h⟩:=okWide_slice hT h; cases h
theorem xz {α:Type} {τ:Ty α} {ok:α→Prop} {size bytes:Nat} {z:Value} (ht:eb P T true size bytes z) (hr:ik P T τ ok) {H:Type} {enc:TypeId×Value→H} {w:World} {v:Value} {d:DataW H} {p:List MemPlace} {r:Reach} {base:Nat}
    (hv:Value.okWide P w r base T v) (h:DataW.Trod enc P w 0 (fun _=>true) true T v d p):∃y,cX τ true (gr w) v y∧ok y:=by
  obtain ⟨f,hf⟩:=h
  obtain ⟨y,hy,hok⟩:=hr H enc w f _ _ hf
  refine ⟨y,⟨v.cells.toList,?_,hy⟩,hok⟩
  obtain ⟨D,hD,hagg⟩:=ht.und
  unfold Value.okWide at hv
  rw [hD] at hv
  have:∃cs,v=.agg cs:=by
    cases D <;> simp at hagg
    · obtain ⟨cs,h,_⟩:=hv; exact ⟨cs,h⟩
    · obtain ⟨cs,h,_⟩:=hv; exact ⟨cs,h⟩
  obtain ⟨cs,rfl⟩:=this
  simp [tD,Value.cells]
end
theorem va {P:Program} {f:FuncId} {args:Array Value} {W:World} (h:bi P f args W (fun v w'=>∃g',(cX aV false g' v true)∧dC (gr W) W g' w')) :
    Calls P f args W fun e W'=>e=.returned (.bool true)∧Below W.heap.size W W':=
  h.mono fun e W' ⟨v,he,g',⟨cs,hv,hb⟩,hx⟩=>by
    have hb:cs=_:=hb
    subst hb hv he
    exact ⟨rfl,hx.below⟩
end Go.Lx
namespace Go.Lx
open Go.RowKit
section
variable {P:Program} {n:Fr} {Q:EPost} {E:Env} {w:World} {ops:Array Oper} {rest:List Oper} {d:Option Tmp} {ty:TypeId} {ps:String} {af:Array Edge} {gd:Option (Nat×Bool)}
theorem ao {T ft:TypeId} {x:Operand} {f b o o':Nat} {fs:Array Field} {fd:Field} {agg:Bool} {size bytes:Nat} {z:Value} (hT:P.underlying T=some (.struct fs)) (ht:eb P ft agg size bytes z) (hf:fs[f]?=some fd) (he:fd.type=ft) (a:Nat.blt 0 size=true) (hx:ev E x=.pointer (some ⟨b,o,none⟩)) (ho:o'=o+fd.offset) :
    cr P E ⟨d,.fieldAddr T x f,ty,ps,af,gd⟩ w (.pointer (some ⟨b,o',none⟩)) w:=.inl (by
  subst he; subst ho
  have a:¬ size=0:=by have:0<size:=Nat.le_of_ble_eq_true a; omega
  simp [execOp,Instr.fieldAt,run_underlying hT,hf,hx,Instr.sureAddr,fieldPlace,dy ht,a,Addr.add])
theorem tk (off:Nat):∀(cs:List Value) (q:Nat) (acc old:List Value),acc.length=off+q→cs.length≤old.length→
    (cs.zipIdx q).foldl (fun a (x:Value×Nat)=>a.setIfInBounds (off+x.2) x.1) (acc++old).toArray=(acc++cs++old.drop cs.length).toArray:=by
  intro cs
  induction cs with
  | nil=>intro q acc old _ _; simp
  | cons c cs ihc=>
    intro q acc old ha hlo
    match old,hlo with
    | o::old,hlo=>
      simp only [List.zipIdx_cons,List.foldl_cons]
      have b:(acc++o::old).toArray.setIfInBounds (off+q) c=((acc++[c])++old).toArray:=by
        rw [←ha]
        simp [List.setIfInBounds_toArray]
      rw [b,ihc (q+1) (acc++[c]) old (by simp [ha]; omega) (by simpa using hlo)]
      simp
theorem bk {place:Nat→Option (Nat×Nat)} {cells:List Value} {i off size:Nat} {v:Value} {rest:List (Nat×Value)} {r:Option (Array Value)} (pre old post cs:List Value) (hpl:place i=some (off,size)) (hc:cells=pre++(old++post)) (hv:v.cells.toList=cs) (c:pre.length=off) (b:old.length=size) (a:cs.length=size)
    (k:Instr.fill place (pre++(cs++post)).toArray rest=r):Instr.fill place cells.toArray ((i,v)::rest)=r:=by
  subst hc; subst c; subst b
  subst hv
  have hvs:v.cells.size=old.length:=by simpa using a
  simp only [Instr.fill,hpl]
  rw [if_neg (by simp [hvs])]
  rw [←Array.foldl_toList,Array.toList_zipIdx,tk pre.length v.cells.toList 0 pre (old++post) (by simp) (by simp [hvs]),←k]
  congr 2
  rw [List.append_assoc,List.drop_append_of_le_length (by rw [a]; exact Nat.le_refl _),a,List.drop_length,List.nil_append]
theorem bG {place:Nat→Option (Nat×Nat)} {cells:Array Value}:Instr.fill place cells []=some cells:=rfl
theorem vk {place:Nat→Option (Nat×Nat)} {cells cs:List Value} (h:cells=cs):Instr.fill place cells.toArray []=some cs.toArray:=by rw [h]; rfl
theorem bu {T:TypeId} (places:List (Nat×Nat)) (zs:List Value) {vs:List (Nat×Value)} {r:Option (Array Value)} (h:∀vs,P.built T vs=Instr.fill (places.toArray[·]?) zs.toArray vs) (k:Instr.fill (places.toArray[·]?) zs.toArray vs=r):P.built T vs=r:=(h vs).trans k
theorem aI:∀v∈([]:List Value),v.oneCell'=true:=by simp
theorem ap {a:Value} {l:List Value} (h:a.oneCell'=true) (t:∀v∈l,v.oneCell'=true):∀v∈a::l,v.oneCell'=true:=List.forall_mem_cons.2 ⟨h,t⟩
theorem aq {l m:List Value} (h:∀v∈l,v.oneCell'=true) (t:∀v∈m,v.oneCell'=true):∀v∈l++m,v.oneCell'=true:=List.forall_mem_append.2 ⟨h,t⟩
theorem ca {v:Value} {n:Nat} (h:∃a cap,v=.slice a n cap):v.oneCell'=true:=by obtain ⟨a,c,h⟩:=h; rw [h]; rfl
theorem bZ {v:Value} (h:v.oneCell'=true):v.cells.toList=[v]:=by cases v <;> first|rfl|simp [Value.oneCell'] at h
theorem bp {T:TypeId} {parts:Array (Nat×Operand)} {vs:List (Nat×Value)} {cs:List Value} (hp:parts.toList.map (fun p=>(p.1,ev E p.2))=vs) (hb:P.built T vs=some cs.toArray) :
    cr P E ⟨d,.build T parts,ty,ps,af,gd⟩ w (.agg cs.toArray) w:=.inl (by
  have hpa:(parts.map fun (x:Nat×Operand)=>(x.1,ev E x.2))=vs.toArray:=by apply Array.ext'; rw [Array.toList_map,←hp]
  have hpa':(parts.map fun ((i,x):Nat×Operand)=>(i,ev E x))=vs.toArray:=hpa
  have:=run_build (P:=P) w T vs.toArray cs.toArray (by simpa using hb)
  simp only [execOp,Sem.run_bind,hpa',this,Result.andThen_ok,Sem.run_pure])
theorem cq {b o off:Nat} {cs:List Value} (hc:∀j u,cs[j]?=some u→w.cell? ⟨b,o+j,none⟩=some u) (pre ds post:List Value) (he:cs=pre++(ds++post)) (hl:pre.length=off) :
    ∀j u,ds[j]?=some u→w.cell? ⟨b,o+off+j,none⟩=some u:=by
  intro j u hj
  subst he; subst hl
  rw [Nat.add_assoc]
  refine hc _ u ?_
  have hjl:j<ds.length:=(List.getElem?_eq_some_iff.1 hj).1
  rw [List.getElem?_append_right (by omega),Nat.add_sub_cancel_left,List.getElem?_append_left hjl]
  exact hj
end
def sq (T:TypeId) (b:Nat) (cs:List Value) (g:Hp):Prop:=g b=some (.cells cs.toArray T (0,0))
theorem sq.mono {T:TypeId} {b:Nat} {cs:List Value} {g g':Hp} (h:sq T b cs g) (hg:aY g g'):sq T b cs g':=hg _ _ h
theorem sq.cells {T:TypeId} {b:Nat} {cs:List Value} {g:Hp} {w:World} (h:sq T b cs g) (hi:dp g w):∀j u,cs[j]?=some u→w.cell? ⟨b,0+j,none⟩=some u:=fun j u hj=>by
  have:=hi b _ h
  simp [World.cell?,this,hj]
section
variable {g0 g:Hp} {w0 w:World} {L:List Res}
theorem Sep.relBox (h:Sep g0 w0 g w L) {i b:Nat} {T:TypeId} {cs:List Value} (hi:L[i]?=some (rV b T cs)):∃g',aY g g'∧sq T b cs g'∧Sep g0 w0 g' w (L.eraseIdx i):=by
  have ho:=(h.at hi).out
  obtain ⟨hs,hle⟩:=h.release hi (b:=b) rfl ho
  exact ⟨_,hle,by simp [sq,rD],hs⟩
theorem Sep.lent (h:Sep g0 w0 g w L) {g1 g1':Hp} {w':World} (he:dC g1 w g1' w'):∃g',aY g g'∧Sep g0 w0 g' w' L:=by
  have hx:dC g w (fun k=>if k<w.heap.size then g k else g1' k) w':=by
    refine ⟨he.below,fun b hb=>if_pos hb,fun b o hb=>?_⟩
    split at hb
    · rename_i hlt
      have:=h.imm b o hb
      rw [he.below.block b hlt]; exact this
    · exact he.imm b o hb
  exact ⟨_,hx.le h.imm,h.call hx⟩
end
theorem Sep.callOwn {g0 g:Hp} {w0 w:World} {L L':List Res} (h:Sep g0 w0 g w L) {g':Hp} {w':World} (he:Sep g w g' w' L'):Sep g0 w0 g' w' (L'++L):=by
  have hc:=h.call he.ext
  refine ⟨hc.ext,fun r hr=>?_,fun r hr b hb=>?_,?_⟩
  · rcases List.mem_append.1 hr with hr|hr
    · exact he.ok r hr
    · exact hc.ok r hr
  · rcases List.mem_append.1 hr with hr|hr
    · have:=he.fresh r hr b hb
      have hs:=h.ext.below.size
      exact ⟨by omega,this.2⟩
    · exact hc.fresh r hr b hb
  · refine List.pairwise_append.2 ⟨he.apart,h.apart,fun r hr s hs b hb hb'=>?_⟩
    have c:=he.fresh r hr b hb
    have a:=Res.lt (h.ok s hs) hb'
    omega
theorem Sep.sel {g0 g:Hp} {w0 w:World} {L L':List Res} (h:Sep g0 w0 g w L) (is:List Nat) (hn:is.Nodup) (hl:L'.map some=is.map (L[·]?)):Sep g0 w0 g w L':=by
  have hm:∀r∈L',r∈L:=by
    intro r hr
    have:some r∈L'.map some:=List.mem_map_of_mem hr
    rw [hl] at this
    obtain ⟨i,_,hi⟩:=List.mem_map.1 this
    exact List.mem_of_getElem? hi
  refine ⟨h.ext,fun r hr=>h.ok r (hm r hr),fun r hr=>h.fresh r (hm r hr),?_⟩
  have hlen:L'.length=is.length:=by have:=congrArg List.length hl; simpa using this
  have hat:∀(i:Nat) (hi:i<L'.length),L[is[i]'(by omega)]?=some L'[i]:=by
    intro i hi
    have:=congrArg (fun l=>l[i]?) hl
    have k:i<is.length:=by omega
    simp [hi,k] at this
    exact this.symm
  rw [List.pairwise_iff_getElem]
  intro i j hi hj hij b hb hb'
  have c:=hat i hi
  have a:=hat j hj
  obtain ⟨f,c⟩:=List.getElem?_eq_some_iff.1 c
  obtain ⟨d,a⟩:=List.getElem?_eq_some_iff.1 a
  have hne:is[i]'(by omega)≠is[j]'(by omega):=fun e=>by
    exact List.pairwise_iff_getElem.1 hn i j (by omega) (by omega) hij e
  have hp:=List.pairwise_iff_getElem.1 h.apart
  rcases Nat.lt_or_gt_of_ne hne with hlt|hlt
  · exact hp _ _ f d hlt b (by rw [c]; exact hb) (by rw [a]; exact hb')
  · exact hp _ _ d f hlt b (by rw [a]; exact hb') (by rw [c]; exact hb)
section
variable {P:Program} {n:Fr} {Q:EPost} {E:Env} {w:World} {ops:Array Oper} {rest:List Oper} {d:Tmp} {ty:TypeId} {ps:String} {af:Array Edge} {gd:Option (Nat×Bool)}
theorem nR {d:Option Tmp} {f:FuncId} {cap:Array Operand} {vs:List Value} (hc:cap.toList.map (ev E)=vs):cr P E ⟨d,.makeFunc (.func f) #[] cap,ty,ps,af,gd⟩ w (.func (.func f) #[] vs.toArray) w:=.inl (by
  have:cap.map (ev E)=vs.toArray:=by apply Array.ext'; rw [Array.toList_map,hc]
  simp [execOp,Instr.makeFunc,this])
theorem uK {d:Option Tmp} {f:FuncId} {x:Operand} {xs:Array Operand} {ats:Array TypeId} {args cap:List Value} (hf:CF P f) (hx:ev E x=.func (.func f) #[] cap.toArray) (ha:xs.toList.map (ev E)=args) :
    (execOp (ev E) ⟨d,.call { callee:=.value x,args:=xs,argTypes:=ats },ty,ps,af,gd⟩).run P w=.ok (.enter f (args++cap).toArray) w:=by
  obtain ⟨fn,e,a,c⟩:=hf
  have ha:xs.map (ev E)=args.toArray:=by apply Array.ext'; rw [Array.toList_map,ha]
  have hn':¬ fn.name = "runtime.NumGoroutine":=by simpa using c
  have b:¬ fn.body=none:=by intro h; rw [h] at a; cases a
  simp [execOp,resolve,Deferred.ofValue,invoke,callFunc,hx,ha,e,b,hn']
theorem Dy {f:FuncId} {x:Operand} {xs:Array Operand} {ats:Array TypeId} {a:Tmp} {j:Nat} {want:Bool} {b:Bool} {oj:Oper} (hj:ops[j]?=some oj) (hdj:oj.dst=some a) (hb:ev E (.tmp a)=.bool b) (hne:(b == want)=true)
    (args cap:List Value) {R:Value→World→Prop} (hf:CF P f) (hx:ev E x=.func (.func f) #[] cap.toArray) (ha:xs.toList.map (ev E)=args) (hc:bi P f (args++cap).toArray w R) (hd:Nat.blt d n.sz=true)
    (k:∀v w',R v w'→OW P n ops Q rest (dD E d v) w'):OW P n ops Q (⟨some d,.call { callee:=.value x,args:=xs,argTypes:=ats },ty,ps,af,some (j,want)⟩::rest) E w:=
  so rfl hj hdj hb hne (uK hf hx ha) hd hc k
end
section
variable {P:Program} {E:Env} {w:World} {d:Option Tmp} {ty:TypeId} {ps:String} {af:Array Edge} {gd:Option (Nat×Bool)}
end
section
variable {P:Program} {E:Env} {w:World} {d:Option Tmp} {ty:TypeId} {ps:String} {af:Array Edge} {gd:Option (Nat×Bool)} {T T':TypeId} {x y:Operand} {a b:Str}
end
theorem vX {P:Program} {w:World} {T:TypeId} {size bytes:Nat} {z:Value} (ht:eb P T false size bytes z) {cs:Array Value} {o:Nat} {v:Value} (hv:cs[o]?=some v):(part T cs o).run P w=.ok v w:=by
  simp [part,fB ht,hv]
end Go.Lx
