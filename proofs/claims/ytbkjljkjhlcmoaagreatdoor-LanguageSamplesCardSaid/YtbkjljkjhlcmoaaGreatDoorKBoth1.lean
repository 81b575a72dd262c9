/- Part 1. -/
import Derived.WalkKit
import Derived.StillTailTactics
import Derived.Laws.AppendOwn
import Derived.Below
import Derived.TacticsIn
import Derived.OrdersIn
import Derived.LoopNIn
import Derived.RangeFuncRecord
import Derived.Laws.MakeOwn
import Derived.Laws.BytesString
import Derived.MapKept
import Derived.Laws.IdiomStrings
import Derived.WalkSpells
import Derived.OrdersHeld
import Derived.Laws.Cover1
import Derived.Laws.Small
import Derived.Laws.CopyRow
import Derived.Laws.IdiomCopy
import Derived.Laws.Runes
import Derived.Laws.Strings2
import Derived.Laws.Slices
import Derived.RecoverIn
import Derived.RangeFuncLeaves
import Derived.Lib.ConvBytes
import Derived.WideShapes
import Derived.Shelf.SlIterI.Sorted
import Derived.Shelf.Spec.SlicesGrow
import Derived.Shelf.SortM.Plain
import Derived.Shelf.SortM.SortNone
import Derived.Shelf.Strings.Builder1
import Derived.Shelf.Strings.Builder2
import Derived.Shelf.Strings.OnBuilder
import Derived.Shelf.Small.Utf8
import Derived.Shelf.Small.Bits
import Derived.Shelf.Small.Strs
import Derived.Shelf.Utf8.RuneCount
import Derived.Shelf.Strconv.Itoa0
import Derived.Shelf.Strconv.Itoa1
import Derived.Shelf.LaysM
import Derived.Shelf.Strconv.Itoa2
import Derived.Shelf.Strconv.Itoa3
import Derived.Shelf.Strings.Search1
import Derived.Shelf.Strings.Search2
import Derived.Shelf.Strings.Search3
import Derived.Shelf.Strings.Cut
import Derived.Shelf.Strings.Count
import Derived.Shelf.Strings.Shaped
import Derived.Shelf.Sort.Plain
import Derived.Shelf.Strings.Split
import Derived.Shelf.Strings.SplitShaped
import Derived.Shelf.Unicode.Decode
import Derived.Shelf.Strings.Runes
import Derived.Shelf.Strings.RuneCount
import Derived.Shelf.Strings.AsciiSet
import Derived.Shelf.Strings.Explode
import Derived.Shelf.Bits.Mul64
import Derived.Shelf.Unicode.DecodeSlow
import Derived.Shelf.Unicode.DecodeAny
import Derived.Shelf.Unicode.DecodeLast
import Derived.Shelf.Slices.Clone
import Derived.Shelf.Slices.SearchI
import Derived.Shelf.Slices.In.SortNone
import Derived.Shelf.SlicesE.Clone
import Derived.Test.YtbkjljkjhlcmoaaGreatDoorProg
import Derived.ProofKit
import Derived.OpenShut
import Derived.ShutString
import Derived.ChangeOld
import Derived.Deep.Slices
import Derived.Lib.LaidTab
import Derived.Lib.LaidU8
import Derived.Test.YtbkjljkjhlcmoaaGreatDoorRows
import Derived.Test.YtbkjljkjhlcmoaaGreatDoorCards
import Derived.Test.YtbkjljkjhlcmoaaGreatDoorTie
import Derived.SevenTiedAt
import Derived.ChangeVars
import Derived.LaidHandle
import Derived.Handed
import Derived.JoinedOf
import Derived.Lib.AppendStr
import Derived.Lib.Builder
import Derived.Laws.Externs
import Derived.Maps.RangeRun
import Derived.Laws.RangeAny
import Derived.Lib.Bytealg
import Derived.Lay
import Derived.MakeChecks
import Derived.LaidOnce
import Derived.Deep.DeepHandedRow
set_option linter.unusedVariables false
set_option linter.unusedSimpArgs false
namespace Go.Proofs
abbrev IB:=@Tryz.underlying35
abbrev IC:=@Tryz.underlying9
abbrev ID:=@Tryz.underlying311
abbrev IE:=@Tryz.underlying3
abbrev IF:=@Tryz.underlying58
abbrev IG:=@Tryz.underlying246
abbrev IH:=@Tryz.underlying381
abbrev II:=@Tryz.underlying60
abbrev IJ:=@Tryz.underlying126
abbrev IK:=@Tryz.underlying5
abbrev IL:=@Tryz.underlying324
abbrev IM:=@Tryz.underlying113
abbrev IN:=@Tryz.underlying248
abbrev IP:=@Tryz.underlying196
abbrev IQ:=@Tryz.underlying245
abbrev IR:=@Tryz.underlying437
abbrev IS:=@Tryz.underlying389
abbrev IT:=@Tryz.underlying26
abbrev IU:=@Tryz.underlying37
abbrev IV:=@Tryz.underlying377
abbrev IW:=@Tryz.underlying322
abbrev IX:=@Tryz.underlying28
abbrev IY:=@Tryz.underlying379
abbrev IZ:=@Tryz.underlying4
abbrev Ja:=@Tryz.underlying402
abbrev Jb:=@Tryz.underlying376
abbrev Jc:=@Tryz.underlying404
abbrev Jd:=@Tryz.underlying0
abbrev Je:=@Tryz.underlying195
abbrev Jf:=@Tryz.underlying212
abbrev Jg:=@Tryz.underlying405
abbrev Jh:=@Tryz.underlying20
abbrev Ji:=@Tryz.underlying243
abbrev Jj:=@Tryz.underlying321
abbrev Jk:=@Tryz.underlying406
end Go.Proofs
namespace Go
abbrev Jl:=@List.getD_eq_getElem?_getD
abbrev Jn:=@List.getElem?_eq_getElem
abbrev Jo:=@List.getElem?_eq_some_iff
abbrev Jp:=@Option.bind_some
abbrev Jq:=@List.length_singleton
abbrev Jr:=@List.length_append
abbrev Js:=@List.perm_append_comm_assoc
abbrev Jt:=@List.mem_singleton
abbrev Ju:=@List.mem_append
abbrev Jv:=@List.append_assoc
abbrev Jw:=@List.getElem?_append_left
abbrev Jx:=@List.nil_append
abbrev Jy:=@List.cons_append
abbrev Jz:=@Result.andThen_ok
abbrev JA:=@List.length_map
abbrev JB:=@List.map_append
abbrev JC:=@List.mem_iff_getElem
abbrev JD:=@Nat.mul_le_mul_right
abbrev JE:=@Int.toNat_natCast
abbrev JF:=@Int.eq_ofNat_of_zero_le
abbrev JG:=@List.length_take
abbrev JH:=@List.getElem?_eq_none
abbrev JI:=@List.mem_cons
abbrev JJ:=@List.mem_map
abbrev JK:=@List.getElem?_append_right
abbrev JL:=@List.getElem?_map
abbrev JM:=@List.getElem?_set
abbrev JN:=@List.map_map
abbrev JO:=@List.take_of_length_le
abbrev JP:=@List.eq_nil_of_length_eq_zero
abbrev JQ:=@List.length_drop
end Go
namespace Go.Lx
theorem Y.{u} {α : Sort u} {a : α} : a = a := rfl
open Go.RowKit
structure Env where
  s:Nat→Value
  ds:List Deferred
instance:CoeFun Env (fun _=>Nat→Value):=⟨Env.s⟩
def bR (E:Env) (k:Nat) (v:Value):Env:=⟨fun t=>bif Nat.beq t k then v else E.s t,E.ds⟩
def iV (E:Env):Option Tmp→Value→Env
 | some d,v=>bR E d v
 | none,_=>E
def ev (E:Env):Operand→Value
 | .tmp t=>E.s t
 | .const v=>v
 | .global g=>.pointer (some ⟨g,0,none⟩)
 | .func f=>.func (.func f) #[] #[]
theorem zq {E:Env} {k:Nat} {v:Value} (h:E k=v):bR E k v=E:=by
 cases E with
 | mk s ds=>
  simp only [bR,Env.mk.injEq,and_true]
  funext t
  cases hb:Nat.beq t k
  ·rfl
  ·have:=Nat.eq_of_beq_eq_true hb; subst this; exact h.symm
structure Fr where
  sz:Nat
  ro:Option Nat
abbrev Fz (n:Fr):Fence:={ fn:=fun _=>True,depth:=none,alive:=false,round:=n.ro }
structure cV (n:Fr) (E:Env) (a:Act):Prop where
  defers:a.defers=E.ds
  size:a.tmps.size=n.sz
  get:∀t,a.tmps.getD t undef=E t
theorem cV.eval {n:Fr} {E:Env} {a:Act} (h:cV n E a):a.eval=ev E:=by
 funext x
 cases x with
 | tmp t=>exact h.get t
 | _=>rfl
def gA (n:Fr):Option Tmp→Bool
 | some d=>Nat.blt d n.sz
 | none=>true
theorem cV.put {n:Fr} {E:Env} {a:Act} (h:cV n E a) {d:Option Tmp} (g:gA n d=true) (v:Value):cV n (iV E d v) (a.put d v):=by
 cases d with
 | none=>exact h
 | some d=>
  have f:d<n.sz:=Nat.le_of_ble_eq_true g;refine ⟨h.defers,by simp [Act.put,h.size],fun t=>?_⟩;simp only [Act.put,iV,bR];cases hb:Nat.beq t d
  ·have c:¬ d=t:=fun e=>by subst e; simp at hb
   have:=h.get t;simp only [cond_false,←this,Array.getD_eq_getD_getElem?,Array.getElem?_setIfInBounds_ne c]
  ·have:=Nat.eq_of_beq_eq_true hb;subst this;have b:=h.size;simp [Array.getD_eq_getD_getElem?,b,f]
theorem cV.same {n:Fr} {E:Env} {a:Act} {d:Option Tmp} {v:Value} (h:cV n E (a.put d v)):∃E',cV n E' a∧E.ds=E'.ds:=by
 refine ⟨⟨fun t=>a.tmps.getD t undef,a.defers⟩,⟨rfl,?_,fun t=>rfl⟩,?_⟩
 ·have:=h.size;cases d <;> simpa [Act.put] using this
 ·rw [←h.defers]; cases d <;> rfl
def fx (args:List Value):Env:=⟨fun t=>args.getD t undef,[]⟩
theorem iQ (args:List Value) (n:Fr) (h:args.length≤n.sz):cV n (fx args) ⟨args.toArray++Array.replicate (n.sz - args.toArray.size) undef,[]⟩:=by
 refine ⟨rfl,by simp; omega,fun t=>?_⟩;simp only [fx,Array.getD_eq_getD_getElem?,Jl]
 by_cases ht:t<args.length
 ·simp [Array.getElem?_append,ht]
 ·by_cases a:t - args.length<n.sz - args.length
  ·simp [Array.getElem?_append,ht,a]
  ·simp [Array.getElem?_append,ht,a]
abbrev EPost:=Exit→Env→World→Prop
def lz (n:Fr) (Q:EPost):Exit→Act→World→Prop:=fun e a w=>∃E,cV n E a∧Q e E w
def WP (P:Program) (n:Fr) (c:Code) (Q:EPost) (E:Env) (w:World):Prop:=
 ∀a,cV n E a→c.wpIn (Fz n) 0 P (lz n Q) a w
theorem ic {n:Fr} {m:Nat} {P:Program} {f:FuncId} {args:Array Value} {w:World} {R:Ending→World→Prop}:CallsIn (Fz n) m P f args w R↔Calls P f args w R:=
 callsIn_wide (n:=m)
class eM (Q:EPost):Prop where
  ok:∀c E E' w,E.ds=E'.ds→Q (.panic c) E w→Q (.panic c) E' w
def ld (R:Env→World→Prop) (Q:EPost):EPost:=fun e E w=>match e with
 | .normal=>R E w
 | e=>Q e E w
def tj (id:Nat) (Q:EPost):EPost:=fun e E w=>match e with
 | .exit i=>if i=id then Q .normal E w else Q (.exit i) E w
 | e=>Q e E w
def BO (Q:EPost):EPost:=fun e E w=>match e with
 | .goto _=>False
 | e=>Q e E w
instance {Q:EPost} [h:eM Q]:eM (BO Q):=⟨h.ok⟩
theorem eH {P:Program} {b:Frame} {a:Act} {k:List Item} {cs:List Frame} {w:World} {c:Code}:step P (lone (b.atR a (.code (.scope c)::k)) cs w)=.next (lone (b.atR a (.code c::.inScope c::k)) cs w):=
 step_lone_go (by simp [stepG,stepG.exec,Frame.atR])
theorem qu {P:Program} {b:Frame} {a:Act} {k:List Item} {cs:List Frame} {w:World} {c:Code}:step P (lone (b.atR a (.inScope c::k)) cs w)=.next (lone (b.atR a k) cs w):=
 step_lone_go (by simp [stepG,stepG.exec,Frame.atR])
instance {R:Env→World→Prop} {Q:EPost} [h:eM Q]:eM (ld R Q):=⟨h.ok⟩
instance {id:Nat} {Q:EPost} [h:eM Q]:eM (tj id Q):=⟨h.ok⟩
section
variable {P:Program} {n:Fr} {Q:EPost} {E:Env} {w:World}
theorem WP.mono {c:Code} {Q':EPost} (h:WP P n c Q E w) (hq:∀e E w,Q e E w→Q' e E w):WP P n c Q' E w:=
 fun a ha=>wpIn_mono (h a ha) fun e _ w ⟨E,f,q⟩=>⟨E,f,hq e E w q⟩
theorem ax (h:Q .normal E w):WP P n .skip Q E w:=fun _ ha=>wpIn_skip ⟨E,ha,h⟩
theorem aY {id:Nat} (h:Q (.exit id) E w):WP P n (.exit id) Q E w:=fun _ ha=>wpIn_exit ⟨E,ha,h⟩
theorem aI (h:Q .ret E w):WP P n .ret Q E w:=fun _ ha=>wpIn_ret ⟨E,ha,h⟩
theorem aA {x y:Code} (h:WP P n x (ld (WP P n y Q) Q) E w):WP P n (.seq x y) Q E w:=
 fun a ha=>wpIn_seq (wpIn_mono (h a ha) fun e a' w' hq=>by
  obtain ⟨E',f,q⟩:=hq;cases e with
  | normal=>exact q a' f
  | _=>exact ⟨E',f,q⟩)
theorem aE {x y:Code} (R:Env→World→Prop) (h:WP P n x (ld R Q) E w) (h2:∀E w,R E w→WP P n y Q E w):WP P n (.seq x y) Q E w:=
 aA (h.mono fun e E w q=>by
  cases e with
  | normal=>exact h2 E w q
  | _=>exact q)
theorem am {id:Nat} {c:Code} (h:WP P n c (tj id Q) E w):WP P n (.block id c) Q E w:=
 fun a ha=>wpIn_block (wpIn_mono (h a ha) fun e a' w' hq=>by
  obtain ⟨E',f,q⟩:=hq;cases e with
  | exit i=>
   simp only [tj] at q;simp only [Exit.inBlock];split
   ·rename_i hi; rw [if_pos hi] at q; exact ⟨E',f,q⟩
   ·rename_i hi; rw [if_neg hi] at q; exact ⟨E',f,q⟩
  | _=>exact ⟨E',f,q⟩)
theorem BH {l:Nat} (h:Q .normal E w):WP P n (.label l) Q E w:=fun _ ha=>wpIn_label ⟨E,ha,h⟩
theorem BF {c:Code} (h:WP P n c (BO Q) E w):WP P n (.scope c) Q E w:=by
 intro a t b k cs r q hr;have g:(lone (b.atR a (.code (.scope c)::k)) cs w).fenced P (Fz n):=fenced_calm q hr rfl;obtain ⟨e,m,i,⟨o,j,d⟩,f⟩:=h a t b (.inScope c::k) cs r q hr;cases e with
 | normal=>exact ⟨.normal,m,i,⟨o,j,d⟩,.head g eH (StepsIn.trans f (.one (fenced_calm q hr rfl) qu))⟩
 | exit id=>
  have hx:exitTo id (.inScope c::k)=exitTo id k:=by simp [exitTo]
  exact ⟨.exit id,m,i,⟨o,j,d⟩,fun k' p=>.head g eH (f.1 k' (by rw [hx]; exact p)),
   fun s p=>let ⟨k₁,v,u⟩:=f.2 s (by rw [hx]; exact p); ⟨k₁,v,.head g eH u⟩⟩
 | goto l=>exact d.elim
 | ret=>exact ⟨_,m,i,⟨o,j,d⟩,.of_steps (.one g eH) f⟩
 | panic ch=>exact ⟨_,m,i,⟨o,j,d⟩,.of_steps (.one g eH) f⟩
 | outgrown=>exact ⟨_,m,i,⟨o,j,d⟩,.of_steps (.one g eH) f⟩
theorem ap {c:Operand} {x y:Code} {b:Bool} (hc:ev E c=.bool b) (hb:b=true) (h:WP P n x Q E w):WP P n (.cond c x y) Q E w:=
 fun a ha=>wpIn_cond (t:=true) (by rw [ha.eval,hc,hb]) (h a ha)
theorem al {c:Operand} {x y:Code} {b:Bool} (hc:ev E c=.bool b) (hb:b=false) (h:WP P n y Q E w):WP P n (.cond c x y) Q E w:=
 fun a ha=>wpIn_cond (t:=false) (by rw [ha.eval,hc,hb]) (h a ha)
inductive nG (σ ρ:Type) where
  | next (s:σ)
  | stop (r:ρ)
def bE {σ ρ:Type} (body:σ→Option (nG σ ρ)):Nat→σ→Option ρ
 | 0,_=>none
 | k+1,s=>match body s with
  | some (.next s')=>bE body k s'
  | some (.stop r)=>some r
  | none=>none
def LQ {σ ρ:Type} (I:σ→Env→World→Prop) (r:ρ) (Q:EPost) (o:nG σ ρ):EPost:=fun e E w=>match e with
 | .outgrown=>False
 | .normal=>(match o with
  | .next s=>I s E w
  | .stop _=>False)
 | e=>(match o with
  | .next _=>False
  | .stop r'=>r'=r→Q e E w)
instance {σ ρ:Type} {I:σ→Env→World→Prop} {r:ρ} {Q:EPost} {o:nG σ ρ} [h:eM Q]:eM (LQ I r Q o):=⟨fun c E E' w hd q=>by
 cases o with
 | next s=>exact q
 | stop r'=>exact fun hr=>h.ok c E E' w hd (q hr)⟩
theorem aZ {σ ρ:Type} {c:Code} {d:σ→Option (nG σ ρ)} (I:σ→Env→World→Prop) {k:Nat} {s:σ} {r:ρ} (b:bE d k s=some r) (h:I s E w)
 (round:∀s o E w,d s=some o→I s E w→WP P n c (LQ I r Q o) E w):WP P n (.loop c) Q E w:=by
 intro a g;refine wpIn_loop_rounds k ?_;induction k generalizing s E w a with
 | zero=>simp [bE] at b
 | succ k ih=>
  rw [roundsIn_succ];simp only [bE] at b;cases hb:d s with
  | none=>rw [hb] at b; simp at b
  | some o=>
   rw [hb] at b;refine wpIn_mono (round s o E w hb h a g) ?_;rintro e i w' ⟨E',f,q⟩;cases o with
   | next s'=>cases e <;> first|exact ih b q i f|exact q.elim
   | stop r'=>
    have hr:r'=r:=by simpa using b
    cases e <;> first|exact q.elim|exact ⟨E',f,q hr⟩
def OW (P:Program) (n:Fr) (ops:Array Oper) (Q:EPost) (l:List Oper) (E:Env) (w:World):Prop:=
 ∀a,cV n E a→wpListIn (Fz n) 0 P ops (lz n Q) l a w
structure bo (P:Program) (E:Env) (o:Oper) (w:World) (v:Value) (w':World):Prop where
  inl::
  out:(execOp (ev E) o).run P w=.ok (.value v) w'
structure vh (P:Program) (E:Env) (o:Oper) (w:World) (w':World):Prop where
  inl::
  out:(execOp (ev E) o).run P w=.ok .skip w'
theorem zU {ρ:Operand→Value} {o:Oper} {r:Next} {w':World} (h:(execOp ρ o).run P w=.ok r w') (hr:∀d,r≠.defer d):∀c,o.op≠.defer c:=by
 intro c b;unfold execOp at h;rw [b] at h;simp only [Sem.run_bind] at h;cases hx:(resolve ρ c o.type).run P w with
 | ok d a=>rw [hx] at h; simp only [Jz,Sem.run_pure,Result.ok.injEq] at h; exact hr d h.1.symm
 | halt x a=>rw [hx] at h; cases h
theorem eI {ro:Option Nat} {ρ:Operand→Value} {o:Oper} {r:Next} {w':World} (h:(execOp ρ o).run P w=.ok r w') (hr:∀d,r≠.defer d):(o.semAt ro ρ).run P w=.ok r w':=by
 rw [Oper.semAt_eq _ _ _ (zU h hr)]; exact h
theorem ak {id:Nat} {l:List Oper} (h:OW P n l.toArray Q l E w):WP P n (.region id l.toArray false) Q E w:=
 fun a ha=>wpIn_region_lit (h a ha)
theorem aa {ops:Array Oper} (h:Q .normal E w):OW P n ops Q [] E w:=fun _ ha=>⟨E,ha,h⟩
theorem fD {o:Oper} {y:Nat→Option Bool} (hg:o.guard=none):Region.wanted o y=true:=by simp [Region.wanted,hg]
theorem pq {o:Oper} {v:Value} {w':World} {a:Act} {K:Act→World→Prop} {Q:Exit→Act→World→Prop} (ha:cV n E a) (hr:(execOp (ev E) o).run P w=.ok (.value v) w') (hk:K (a.put o.dst v) w'):o.wpIn (Fz n) 0 P a w K Q:=by
 refine ⟨fun _ _=>trivial,?_⟩;rw [ha.eval,eI hr (by simp)];exact hk
theorem ln {o:Oper} {f:FuncId} {args:Array Value} {w':World} {a:Act} {K:Act→World→Prop} {Q:Exit→Act→World→Prop} (g:cV n E a) (hr:(execOp (ev E) o).run P w=.ok (.enter f args) w')
 (d:Calls P f args w' (fun e b=>match e with|.returned v=>K (a.put o.dst v) b|.panicked c=>Q (.panic c) a b|.outgrown=>False)):o.wpIn (Fz n) 0 P a w K Q:=by
 refine ⟨fun _ _=>trivial,?_⟩;rw [g.eval,eI hr (by simp)];refine ⟨fun h=>(by cases h),ic.2 (d.mono fun e b h=>?_)⟩;cases e with
 | outgrown=>exact h.elim
 | _=>exact h
theorem gK {ops:Array Oper} {o:Oper} {rest:List Oper} {v:Value} {w':World} (hr:bo P E o w v w') (hd:gA n o.dst=true) (hg:o.guard=none)
 (k:OW P n ops Q rest (iV E o.dst v) w'):OW P n ops Q (o::rest) E w:=by
 intro a ha;exact wpListIn_plain hg fun K hK=>pq ha hr.out (hK _ _ (k _ (ha.put hd v)))
theorem tg {ops:Array Oper} {o:Oper} {rest:List Oper} {w':World} (hr:vh P E o w w') (hd:o.dst=none) (hg:o.guard=none)
 (k:OW P n ops Q rest E w'):OW P n ops Q (o::rest) E w:=by
 intro a ha;refine wpListIn_plain hg fun K hK=>⟨fun _ _=>trivial,?_⟩
 have hk:=hK _ _ (k _ ha);rw [ha.eval,eI hr.out (by simp)];show K (a.put o.dst undef) w';rw [hd];exact hk
theorem eD {ops:Array Oper} {a:Act} (g:cV n E a) {j:Nat} {oj:Oper} {d:Tmp} {b:Bool} (c:ops[j]?=some oj) (e:oj.dst=some d) (f:E d=.bool b):yielded ops a.tmps j=some b:=by
 have:=g.get d;rw [f,Array.getD_eq_getD_getElem?] at this;unfold yielded;simp only [c,Jp,e];cases hx:a.tmps[d]? with
 | none=>rw [hx] at this; simp [undef] at this
 | some x=>rw [hx] at this; simp at this; subst this; rfl
theorem na {ops:Array Oper} {o:Oper} {rest:List Oper} {j:Nat} {c:Bool} {oj:Oper} {d:Tmp} {b:Bool} (i:o.guard=some (j,c)) (g:ops[j]?=some oj) (l:oj.dst=some d)
 (p:ev E (.tmp d)=.bool b) (f:(b == c)=false) (m:gA n o.dst=true) (k:OW P n ops Q rest (iV E o.dst undef) w):OW P n ops Q (o::rest) E w:=by
 intro a e;refine wpListIn_step fun K q=>?_
 have hy:=eD e g l p;rw [if_neg (by simp only [Region.wanted,i,hy]; intro h; simp at h; simp [h] at f)];exact ⟨fun _ _=>trivial,q _ _ (k _ (e.put m undef))⟩
theorem oK {ops:Array Oper} {o:Oper} {rest:List Oper} {j:Nat} {e:Bool} {oj:Oper} {d:Tmp} {b:Bool} {v:Value} {w':World} (h:o.guard=some (j,e)) (g:ops[j]?=some oj) (i:oj.dst=some d)
 (m:ev E (.tmp d)=.bool b) (f:(b == e)=true) (hr:bo P E o w v w') (l:gA n o.dst=true) (k:OW P n ops Q rest (iV E o.dst v) w'):OW P n ops Q (o::rest) E w:=by
 intro a c;refine wpListIn_step fun K p=>?_
 have hy:=eD c g i m;rw [if_pos (by simp only [Region.wanted,h,hy]; simpa using f)];exact pq c hr.out (p _ _ (k _ (c.put l v)))
def aT (P:Program) (f:FuncId) (args:Array Value) (w:World) (R:Value→World→Prop):Prop:=
 Calls P f args w fun e w'=>∃v,e=.returned v∧R v w'
theorem oL {ops:Array Oper} {o:Oper} {rest:List Oper} {f:FuncId} {args:Array Value} {R:Value→World→Prop}
 (hr:(execOp (ev E) o).run P w=.ok (.enter f args) w) (g:gA n o.dst=true) (c:o.guard=none) (h:aT P f args w R)
 (k:∀v w',R v w'→OW P n ops Q rest (iV E o.dst v) w'):OW P n ops Q (o::rest) E w:=by
 intro a b;refine wpListIn_plain c fun K j=>ln b hr (h.mono fun e w' ⟨v,d,i⟩=>?_)
 subst d;exact j _ _ (k v w' i _ (b.put g v))
theorem vj {ops:Array Oper} {o:Oper} {rest:List Oper} {f:FuncId} {args:Array Value} {R:Value→World→Prop} {j:Nat} {g:Bool} {oj:Oper} {d:Tmp} {b:Bool}
 (l:o.guard=some (j,g)) (i:ops[j]?=some oj) (p:oj.dst=some d) (s:ev E (.tmp d)=.bool b) (h:(b == g)=true)
 (hr:(execOp (ev E) o).run P w=.ok (.enter f args) w) (q:gA n o.dst=true) (r:aT P f args w R)
 (k:∀v w',R v w'→OW P n ops Q rest (iV E o.dst v) w'):OW P n ops Q (o::rest) E w:=by
 intro a c;refine wpListIn_step fun K u=>?_
 have hy:=eD c i p s;rw [if_pos (by simp only [Region.wanted,l,hy]; simpa using h)];refine ln c hr (r.mono fun e w' ⟨v,m,t⟩=>?_);subst m;exact u _ _ (k v w' t _ (c.put q v))
def SW (P:Program) (n:Fr) (ops:Array Oper) (w:World) (Q:Env→Prop) (l:List Oper) (E:Env):Prop:=
 ∀a,cV n E a→wpStill P ops w (fun a'=>∃E',cV n E' a'∧Q E') l a
theorem cS {ops:Array Oper} {Q:Env→Prop} (h:Q E):SW P n ops w Q [] E:=fun _ ha=>⟨E,ha,h⟩
theorem Hn {ops:Array Oper} {Q:Env→Prop} {o:Oper} {rest:List Oper} {v:Value} (hr:bo P E o w v w) (hd:gA n o.dst=true) (hg:o.guard=none)
 (k:SW P n ops w Q rest (iV E o.dst v)):SW P n ops w Q (o::rest) E:=by
 intro a ha;unfold wpStill;rw [if_pos (fD hg)];have hk:=k _ (ha.put hd v);unfold Oper.still;rw [ha.eval];rw [hr.out,Oper.stillUpon_value]; exact hk
theorem Dv {ops:Array Oper} {Q:Env→Prop} {o:Oper} {rest:List Oper} {j:Nat} {c:Bool} {oj:Oper} {d:Tmp} {b:Bool} (i:o.guard=some (j,c)) (g:ops[j]?=some oj) (l:oj.dst=some d)
 (p:ev E (.tmp d)=.bool b) (f:(b == c)=false) (m:gA n o.dst=true) (k:SW P n ops w Q rest (iV E o.dst undef)):SW P n ops w Q (o::rest) E:=by
 intro a e;have hy:=eD e g l p;unfold wpStill;rw [if_neg (by simp only [Region.wanted,i,hy]; intro h; simp at h; simp [h] at f)];exact k _ (e.put m undef)
theorem Du {ops:Array Oper} {Q:Env→Prop} {o:Oper} {rest:List Oper} {j:Nat} {e:Bool} {oj:Oper} {d:Tmp} {b:Bool} {v:Value} (i:o.guard=some (j,e)) (h:ops[j]?=some oj) (l:oj.dst=some d)
 (p:ev E (.tmp d)=.bool b) (f:(b == e)=true) (hr:bo P E o w v w) (m:gA n o.dst=true) (k:SW P n ops w Q rest (iV E o.dst v)):SW P n ops w Q (o::rest) E:=by
 intro a c;have hy:=eD c h l p;unfold wpStill;rw [if_pos (by simp only [Region.wanted,i,hy]; simpa using f)];have g:=k _ (c.put m v);unfold Oper.still;rw [c.eval];rw [hr.out,Oper.stillUpon_value]; exact g
theorem li {ops:Array Oper} {Q Q':Act→Prop} (hq:∀a,Q a→Q' a):∀(l:List Oper) (a:Act),wpStill P ops w Q l a→wpStill P ops w Q' l a
 | [],a,h=>hq a h
 | o::l,a,h=>by
  unfold wpStill at *;split
  ·rename_i hw; rw [if_pos hw] at h; exact Oper.still_mono (fun a' h'=>li hq l a' h') h
  ·rename_i hw; rw [if_neg hw] at h; exact li hq l _ h
theorem mB {ops:Array Oper} {i:Nat} {a:Act} {K:Act→Prop} {K':Act→World→Prop} {Q':Exit→Act→World→Prop} (h:∀a,K a→K' a w) (b:stOp P ops w i K a):wpOpIn (Fz n) 0 P ops Q' i K' a w:=by
 unfold stOp at b;unfold wpOpIn;split
 ·rename_i ho; simp only [ho] at b; exact h _ b
 ·rename_i o ho;simp only [ho] at b;split
  ·rename_i hw;simp only [hw,if_true] at b;unfold Oper.still at b;refine ⟨fun _ _=>trivial,?_⟩;cases hr:(execOp a.eval o).run P w with
   | halt x c=>rw [hr] at b; exact b.elim
   | ok r c=>
    rw [hr] at b;cases r with
    | value v=>rw [eI hr (by simp)]; obtain ⟨rfl,b⟩:=b; exact h _ b
    | skip=>rw [eI hr (by simp)]; obtain ⟨rfl,b⟩:=b; exact h _ b
    | enter f args=>
     rw [eI hr (by simp)];obtain ⟨rfl,v,g,b⟩:=b;refine ⟨fun h=>(by cases h),ic.2 (g.mono fun e j d=>?_)⟩;obtain ⟨rfl,rfl⟩:=d;exact h _ b
    | _=>exact b.elim
  ·rename_i hw; simp only [hw] at b; exact ⟨fun _ _=>trivial,h _ b⟩
theorem kg {ops:Array Oper} {Q:Act→Prop} {Q':Exit→Act→World→Prop} (hQ:∀a,Q a→Q' .normal a w):∀(fuel:Nat) (listed:Array Bool) (a:Act),
 wpAnyS P .any ops w Q fuel listed a→wpAnyIn (Fz n) 0 P .any ops Q' fuel listed a w
 | 0,_,_,h=>⟨h.1,hQ _ h.2⟩
 | fuel+1,_,_,h=>⟨fun h0=>hQ _ (h.1 h0),fun i hi=>mB (fun a'=>kg hQ fuel _ a') (h.2 i hi)⟩
theorem lb {ops:Array Oper} {m g:Nat} {L:Array Bool→Act→Prop} {Q':Exit→Act→World→Prop} (c:∀b a,L b a→wpAnyIn (Fz n) 0 P .any ops Q' g b a w) :
 ∀(f:Nat) (b:Array Bool) (a:Act),wpAnyL P .any ops w m L f b a→wpAnyIn (Fz n) 0 P .any ops Q' (f+g) b a w
 | 0,b,a,h=>by rw [Nat.zero_add]; exact c _ _ h
 | f+1,b,a,h=>by
  rw [show f+1+g=(f+g)+1 by omega];exact ⟨fun e=>absurd e h.1,fun i d=>mB (fun k j=>lb c f _ k j) (h.2 i d).2⟩
theorem mX {ops:Array Oper} {Q':Exit→Act→World→Prop}:∀(l:List Oper) (k:Nat) (b:Array Bool) (a:Act) (w:World),(∀j,l[j]?=ops[k+j]?)→
 Region.seqB .any ops l.length k b=true→wpListIn (Fz n) 0 P ops Q' l a w→wpAnyIn (Fz n) 0 P .any ops Q' l.length b a w
 | [],_,_,_,_,_,hB,h=>⟨by simpa [Region.seqB] using hB,h⟩
 | o::l,k,b,a,w,hl,hB,h=>by
  have g:ops[k]?=some o:=by simpa using (hl 0).symm
  simp only [List.length_cons,Region.seqB,Bool.and_eq_true,decide_eq_true_eq] at hB;refine ⟨fun d=>(by rw [hB.1] at d; cases d),fun i c=>?_⟩;rw [hB.1] at c;have f:i=k:=by simpa using c
  subst f;have e:wpOpIn (Fz n) 0 P ops Q' i (wpListIn (Fz n) 0 P ops Q' l) a w:=by unfold wpOpIn; simp only [g]; exact h
  exact wpOpIn_mono (fun p w' m=>mX l (i+1) _ p w' (fun j=>by have:=hl (j+1); simpa [Nat.add_assoc,Nat.add_comm 1 j] using this) hB.2 m) e
theorem eB {id:Nat} {l:List Oper} (c:P.follows .mixedOrders=true) (b:Region.lexB .any l.toArray=true)
 (h:SW P n l.toArray w.drew (fun E'=>Q .normal E' w.drew) l E):WP P n (.region id l.toArray true) Q E w:=by
 intro a d;simp only [Region.lexB,Bool.and_eq_true] at b;refine wpIn_region_any c (kg (w:=w.drew) (Q:=fun e=>lz n Q .normal e w.drew) (fun _ h=>h) _ _ _ ?_);have:=wpAnyS_lex (md:=.any) b.1 l.toArray.toList 0 (Array.replicate l.toArray.size false) a (by simp) (by simpa using b.2) (by simpa using h a d);simpa [lz] using this
theorem dH {id:Nat} {l:List Oper} (m:Nat) (y:P.follows .mixedOrders=true) (p:Region.lexTailB .any l.toArray m=true)
 (h:SW P n l.toArray w.drew (fun E'=>OW P n l.toArray Q (l.drop m) E' w.drew) (l.take m) E):WP P n (.region id l.toArray true) Q E w:=by
 intro a D;have h:=li (fun c ⟨_,f,q⟩=>q c f) _ _ (h a D);simp only [Region.lexTailB,Bool.and_eq_true,decide_eq_true_eq] at p;obtain ⟨⟨⟨⟨v,d⟩,x⟩,B⟩,z⟩:=p;have F:m<l.length:=by simpa using d
 have b:(l.take m).length=m:=by simp; omega
 have k:(l.drop m).length=l.toArray.size - m:=by simp
 have s:HeadInv .any l.toArray m (Array.replicate l.toArray.size false):=
  ⟨by simp,fun j oj _ e=>(by rw [getD_replicate_false] at e; cases e),fun t _ u=>getD_in (by simpa using u) (getD_replicate_false _ _)⟩
 have H:=wpAnyL_lex (md:=.any) (g:=l.toArray.size - m) v x B d (l.take m) 0 _ a (fun j i=>by
  have A:j<m:=by rw [b] at i; exact i
  simp [A]) (by simpa using b) s (by rw [b]; exact z) h
 refine wpIn_region_any y ?_;have:=lb (n:=n) (Q':=lz n Q) (g:=l.toArray.size - m) (fun r c o=>by
  have:=mX (n:=n) (Q':=lz n Q) (l.drop m) m r c w.drew (fun j=>by simp [List.getElem?_drop]) (by rw [k]; exact o.1) o.2
  rwa [k] at this) _ _ _ H
 rw [b,show m+(l.toArray.size - m)=l.toArray.size by omega] at this;exact this
def iT (P:Program) (fn:Func) (n:Fr) (E:Env) (w:World) (v:Value):Prop:=∀a,cV n E a→(results fn a.tmps).run P w=.ok v w
def FL (P:Program) (fn:Func) (n:Fr) (E:Env) (R:Value→World→Prop):List Deferred→World→Prop
 | [],w=>∃v,iT P fn n E w v∧R v w
 | d::ds,w=>∃D w',d={ target:=.collected D,args:=#[] }∧(Instr.takeDeferred D).run P w=.ok [] w'∧FL P fn n E R ds w'
def FQ (P:Program) (fn:Func) (n:Fr) (R:Value→World→Prop):EPost:=fun e E w=>match e with
 | .normal|.ret=>FL P fn n E R E.ds w
 | _=>False
instance {P:Program} {fn:Func} {n:Fr} {R:Value→World→Prop}:eM (FQ P fn n R):=⟨fun _ _ _ _ _ q=>q⟩
theorem aH {fn:Func} {R:Value→World→Prop} {ds:List Deferred} (hd:ds=[]) (h:∃v,iT P fn n E w v∧R v w):FL P fn n E R ds w:=by subst hd; exact h
theorem nv {fn:Func} {R:Value→World→Prop} {a:Act} (ha:cV n E a):∀(ds:List Deferred) (w:World),FL P fn n E R ds w→LeavesInM (Fz n) 0 P fn a.tmps (fun e w'=>∃v,e=.returned v∧R v w') ds .returning w
 | [],_,⟨v,hr,hR⟩=>⟨v,hr a ha,v,rfl,hR⟩
 | _::ds,_,⟨D,w',hd,ht,h⟩=>⟨by simp,.inl ⟨D,w',by rw [hd],ht,nv ha ds w' h⟩⟩
theorem aB {f:FuncId} {fn:Func} {c:Code} {m:Nat} {args:List Value} {R:Value→World→Prop} (i:P.funcs[f]?=some fn) (j:fn.body=some c) (d:fn.ntmps=m) (g:Nat.ble args.length m=true)
 (h:WP P ⟨m,none⟩ c (FQ P fn ⟨m,none⟩ R) (fx args) w):aT P f args.toArray w R:=by
 subst d;refine callsIn_wide (n:=0) |>.1 (callsIn_of_wp_marks (F:=Fz ⟨fn.ntmps,none⟩) i j trivial ?_);refine wpIn_mono (h _ (iQ args _ (Nat.le_of_ble_eq_true g))) ?_;rintro e a w ⟨E,b,q⟩;cases e <;> first
  | exact q.elim
  | (show LeavesInM _ _ _ _ _ _ a.defers _ _; rw [b.defers]; exact nv b E.ds w q)
end
theorem ik {P:Program} {fn:Func} {n:Fr} {E:Env} {w:World} (h:fn.results=#[]):iT P fn n E w (.tuple #[]):=fun a _=>results_none h a.tmps P w
theorem ae {α β:Type} {o:Option α} {f:α→Option β} {r:β} (h:o.bind f=some r):∃a,o=some a∧f a=some r:=Option.bind_eq_some_iff.1 h
theorem ay {α:Type} {c:Bool} {x y:Option α} {r:α} (h:(bif c then x else y)=some r):(c=true∧x=some r)∨(c=false∧y=some r):=by cases c <;> simp_all
abbrev Hp:=Nat→Option Obj
def dE (g:Hp) (w:World):Prop:=∀b o,g b=some o→w.heap[b]?=some o
def be (g g':Hp):Prop:=∀b o,g b=some o→g' b=some o
theorem be.refl (g:Hp):be g g:=fun _ _ h=>h
theorem be.trans {g g' g'':Hp} (h:be g g') (h':be g' g''):be g g'':=fun b o x=>h' b o (h b o x)
theorem dE.lt {g:Hp} {w:World} (h:dE g w) {b:Nat} {o:Obj} (hb:g b=some o):b<w.heap.size:=(Array.getElem?_eq_some_iff.1 (h b o hb)).1
structure ei (g:Hp) (w:World) (g':Hp) (w':World):Prop where
  below:Below w.heap.size w w'
  old:∀b,b<w.heap.size→g' b=g b
  imm:dE g' w'
theorem ei.le {g g':Hp} {w w':World} (h:ei g w g' w') (hi:dE g w):be g g':=fun b o hb=>by rw [h.old b (hi.lt hb)]; exact hb
theorem ei.refl {g:Hp} {w:World} (h:dE g w):ei g w g w:=⟨Below.refl _ _,fun _ _=>rfl,h⟩
theorem ei.drew {g g':Hp} {w w':World} (h:ei g w g' w'):ei g w g' w'.drew:=⟨h.below.drew,h.old,h.imm⟩
inductive Res where
  | obj (b:Nat) (o:Obj)
  | row (v:Value) (e:TypeId) (sz n:Nat) (xs:List Value)
abbrev oG (b:Nat) (T:TypeId) (cs:List Value):Res:=.obj b (.cells cs.toArray T (0,0))
def Res.blk:Res→Option Nat
 | .obj b _=>some b
 | .row v _ _ _ _=>v.ownBlock
def Res.okB (w:World):Res→Prop
 | .obj b o=>w.heap[b]?=some o
 | .row v e sz n xs=>w.ownsRow 0 e sz v n xs
structure Res.ok (w:World) (r:Res):Prop where
  out:r.okB w
theorem Res.lt {w:World} {r:Res} (h:r.ok w) {b:Nat} (hb:r.blk=some b):b<w.heap.size:=by
 have h:=h.out;cases r with
 | obj b' o=>simp [Res.blk] at hb; subst hb; exact (Array.getElem?_eq_some_iff.1 h).1
 | row v e sz n xs=>exact (World.ownsRow.lt h b hb).2
theorem Res.ok.kept {w w':World} {r:Res} (h:r.ok w) {row:Option Nat} (hg:w.grownBy w' row) (hne:r.blk=none∨r.blk≠row):r.ok w':=by
 have h:=h.out;refine ⟨?_⟩;cases r with
 | obj b o=>
  simp only [Res.okB] at *;rw [hg.block b (Array.getElem?_eq_some_iff.1 h).1 (by simpa [Res.blk] using hne)];exact h
 | row v e sz n xs=>exact World.ownsRow.kept h hg hne
structure Sep (g0:Hp) (w0:World) (g:Hp) (w:World) (L:List Res):Prop where
  ext:ei g0 w0 g w
  ok:∀r∈L,r.ok w
  fresh:∀r∈L,∀b,r.blk=some b→w0.heap.size≤b∧g b=none
  apart:L.Pairwise fun r s=>∀b,r.blk=some b→s.blk≠some b
section
variable {g0 g:Hp} {w0 w:World} {L:List Res}
theorem Sep.start (h:dE g0 w0):Sep g0 w0 g0 w0 []:=⟨ei.refl h,by simp,by simp,List.Pairwise.nil⟩
theorem Sep.imm (h:Sep g0 w0 g w L):dE g w:=h.ext.imm
theorem Sep.none_at (h:Sep g0 w0 g w L) {b:Nat} (hb:w.heap.size≤b):g b=none:=by
 cases hg:g b with
 | none=>rfl
 | some o=>have:=h.imm.lt hg; omega
theorem Sep.drew (h:Sep g0 w0 g w L):Sep g0 w0 g w.drew L:=
 ⟨h.ext.drew,fun r hr=>(h.ok r hr).kept (row:=none) ⟨rfl,rfl,rfl,Nat.le_refl _,fun _ _ _=>rfl⟩ (by cases r.blk <;> simp),h.fresh,h.apart⟩
theorem Sep.alloc (h:Sep g0 w0 g w L) (o:Obj):Sep g0 w0 g (w.alloc o) (.obj w.heap.size o::L):=by
 have c:=h.ext.below.size;refine ⟨⟨h.ext.below.alloc c o,h.ext.old,fun b o' a=>?_⟩,?_,?_,?_⟩
 ·rw [Below.heap_alloc _ _ _ (h.imm.lt a)]; exact h.imm b o' a
 ·intro r hr;rcases JI.1 hr with rfl|hr
  ·exact ⟨heap_alloc_new w o⟩
  ·exact (h.ok r hr).kept (World.grownBy_alloc w o none) (by cases r.blk <;> simp)
 ·intro r hr b a;rcases JI.1 hr with rfl|hr
  ·simp [Res.blk] at a; subst a; exact ⟨c,h.none_at (Nat.le_refl _)⟩
  ·exact h.fresh r hr b a
 ·refine List.Pairwise.cons ?_ h.apart;intro s e b a d;simp [Res.blk] at a;subst a;have:=Res.lt (h.ok s e) d;omega
theorem Sep.nilRow (h:Sep g0 w0 g w L) (e:TypeId) (sz:Nat):Sep g0 w0 g w (.row (.slice none 0 0) e sz 0 []::L):=by
 refine ⟨h.ext,?_,?_,?_⟩
 ·intro r hr;rcases JI.1 hr with rfl|hr
  ·exact ⟨⟨by simp,.inl ⟨rfl,rfl⟩⟩⟩
  ·exact h.ok r hr
 ·intro r hr b a;rcases JI.1 hr with rfl|hr
  ·simp [Res.blk,Value.ownBlock] at a
  ·exact h.fresh r hr b a
 ·exact List.Pairwise.cons (by intro s _ b a; simp [Res.blk,Value.ownBlock] at a) h.apart
theorem Sep.at (h:Sep g0 w0 g w L) {i:Nat} {r:Res} (hi:L[i]?=some r):r.ok w:=h.ok r (List.mem_of_getElem? hi)
theorem Sep.upd (h:Sep g0 w0 g w L) {i:Nat} {r r':Res} (v:L[i]?=some r) {w':World} (p:w.grownBy w' r.blk) (H:r'.ok w')
 (a:∀b,r'.blk=some b→r.blk=some b∨w.heap.size≤b):Sep g0 w0 g w' (L.set i r'):=by
 have hr:=List.mem_of_getElem? v;have x:=h.fresh r hr;have N:∀b,r.blk=some b→b<w.heap.size:=fun b a=>Res.lt (h.ok r hr) a
 have K:=h.ext.below.size;have u:i<L.length:=(Jo.1 v).1;have y:∀(j:Nat) (s:Res),j≠i→L[j]?=some s→∀b,s.blk=some b→r.blk≠some b:=by
  intro j s J c b a z;obtain ⟨f,c⟩:=Jo.1 c;obtain ⟨u,F⟩:=Jo.1 v;have q:=(List.pairwise_iff_getElem.1 h.apart);rcases Nat.lt_or_gt_of_ne J with hlt'|hlt'
  ·exact q j i f u hlt' b (by rw [c]; exact a) (by rw [F]; exact z)
  ·exact q i j u f hlt' b (by rw [F]; exact z) (by rw [c]; exact a)
 refine ⟨⟨h.ext.below.trans ⟨p.os,p.tape,p.output,p.size,fun k D=>p.block k (by omega) (fun e=>?_)⟩,h.ext.old,fun b o a=>?_⟩,?_,?_,?_⟩
 ·have:=(x k e.symm).1; omega
 ·rw [p.block b (h.imm.lt a) (fun e=>by rw [(x b e.symm).2] at a; cases a)]; exact h.imm b o a
 ·intro s t;obtain ⟨j,c,d⟩:=JC.1 t;rw [List.getElem_set] at d;split at d
  ·subst d; exact H
  ·rename_i hne;have f:j<L.length:=by simpa using c
   have n:L[j]?=some s:=by rw [Jn f,d]
   refine (h.ok s (List.mem_of_getElem? n)).kept p ?_;cases hsb:s.blk with
   | none=>exact .inl rfl
   | some b=>exact .inr (fun e=>y j s (Ne.symm hne) n b hsb e.symm)
 ·intro s t b G;obtain ⟨j,c,d⟩:=JC.1 t;rw [List.getElem_set] at d;split at d
  ·subst d;rcases a b G with a|a
   ·exact x b a
   ·exact ⟨by omega,h.none_at a⟩
  ·have f:j<L.length:=by simpa using c
   have n:L[j]?=some s:=by rw [Jn f,d]
   exact h.fresh s (List.mem_of_getElem? n) b G
 ·rw [List.pairwise_iff_getElem];intro j k c D I b m l;have f:j<L.length:=by simpa using c
  have A:k<L.length:=by simpa using D
  have q:=(List.pairwise_iff_getElem.1 h.apart) j k f A I;rw [List.getElem_set] at m l
  by_cases hij:i=j
  ·subst hij;rw [if_pos rfl] at m;rw [if_neg (by omega)] at l;have B:L[k]?=some L[k]:=Jn A;rcases a b m with a|a
   ·exact y k _ (by omega) B b l a
   ·have:=Res.lt (h.ok _ (List.mem_of_getElem? B)) l; omega
  ·rw [if_neg hij] at m
   by_cases hik:i=k
   ·subst hik;rw [if_pos rfl] at l;have n:L[j]?=some L[j]:=Jn f;rcases a b l with a|a
    ·exact y j _ (by omega) n b m a
    ·have:=Res.lt (h.ok _ (List.mem_of_getElem? n)) m; omega
   ·rw [if_neg hik] at l;exact q b m l
theorem Sep.call (h:Sep g0 w0 g w L) {g':Hp} {w':World} (a:ei g w g' w'):Sep g0 w0 g' w' L:=by
 have e:=h.ext.below.size;have i:w.grownBy w' none:=⟨a.below.os,a.below.tape,a.below.output,a.below.size,fun k f _=>a.below.block k f⟩;refine ⟨⟨h.ext.below.trans (a.below.mono e),fun b c=>(a.old b (by omega)).trans (h.ext.old b c),a.imm⟩,fun r hr=>(h.ok r hr).kept i (by cases r.blk <;> simp),fun r hr b c=>?_,h.apart⟩;have d:=h.fresh r hr b c;exact ⟨d.1,by rw [a.old b (Res.lt (h.ok r hr) c)]; exact d.2⟩
theorem Sep.sub (h:Sep g0 w0 g w L) {L':List Res} (hl:List.Sublist L' L):Sep g0 w0 g w L':=
 ⟨h.ext,fun r hr=>h.ok r (hl.subset hr),fun r hr=>h.fresh r (hl.subset hr),h.apart.sublist hl⟩
def uE (g:Hp) (b:Nat) (o:Obj):Hp:=fun k=>if k=b then some o else g k
theorem Sep.release (h:Sep g0 w0 g w L) {i:Nat} {r:Res} (p:L[i]?=some r) {b:Nat} {o:Obj} (f:r.blk=some b) (t:w.heap[b]?=some o) :
 Sep g0 w0 (uE g b o) w (L.eraseIdx i)∧be g (uE g b o):=by
 have hr:=List.mem_of_getElem? p;have v:=h.fresh r hr b f;refine ⟨⟨⟨h.ext.below,fun k a=>?_,fun k o' a=>?_⟩,fun s c=>h.ok s ((List.eraseIdx_sublist L i).subset c),fun s c k a=>?_,h.apart.sublist (List.eraseIdx_sublist L i)⟩,fun k o' a=>?_⟩
 ·simp only [uE]; rw [if_neg (by omega)]; exact h.ext.old k a
 ·simp only [uE] at a;split at a
  ·rename_i e; subst e; rw [t]; exact a
  ·exact h.imm k o' a
 ·obtain ⟨j,d,u,rfl⟩:=List.mem_eraseIdx_iff_getElem.1 c;have q:=h.fresh _ (List.getElem_mem d) k a;refine ⟨q.1,?_⟩;simp only [uE];rw [if_neg]
  ·exact q.2
  ·intro e;subst e;obtain ⟨m,n⟩:=Jo.1 p;have l:=List.pairwise_iff_getElem.1 h.apart;rcases Nat.lt_or_gt_of_ne u with hlt|hlt
   ·exact l j i d m hlt _ a (by rw [n]; exact f)
   ·exact l i j m d hlt _ (by rw [n]; exact f) a
 ·simp only [uE];rw [if_neg (fun e=>by subst e; rw [v.2] at a; cases a)];exact a
end
structure dF (P:Program) (T:TypeId) (agg:Bool) (size bytes:Nat) (z:Value):Prop where
  info:∃i,P.info? T=some i∧i.zero=some z∧i.size=size∧i.bytes=bytes
  und:∃d,P.underlying T=some d∧(match d with|.struct _=>true|.array _ _=>true|_=>false)=agg
section
variable {P:Program} {E:Env} {w:World} {d:Option Tmp} {ty:TypeId} {ps:String} {af:Array Edge} {g:Option (Nat×Bool)}
theorem dR {x:Operand} {v:Value} (h:ev E x=v):bo P E ⟨d,.move x,ty,ps,af,g⟩ w v w:=.inl (by subst h; rfl)
theorem iv {x:Operand} {v:Value} (h:ev E x=v):bo P E ⟨d,.assign x,ty,ps,af,g⟩ w v w:=.inl (by subst h; rfl)
theorem sf {c x y:Operand} {b:Bool} {v:Value} (hc:ev E c=.bool b) (h:(bif b then ev E x else ev E y)=v):bo P E ⟨d,.pick c x y,ty,ps,af,g⟩ w v w:=.inl (by
 subst h;cases b <;> simp [execOp,hc,asBool])
theorem dv {T:TypeId} {agg:Bool} {size bytes:Nat} {z:Value} (ht:dF P T agg size bytes z):(zeroValue T).run P w=.ok z w:=by
 obtain ⟨i,hi,hz,_⟩:=ht.info;simp [zeroValue,typeInfo,hi,hz]
theorem bX {T:TypeId} {agg:Bool} {size bytes:Nat} {z:Value} (ht:dF P T agg size bytes z):(sizeOf T).run P w=.ok size w:=by
 obtain ⟨i,hi,_,hs,_⟩:=ht.info;simp [sizeOf,typeInfo,hi,hs]
theorem dV {T:TypeId} {agg:Bool} {size bytes:Nat} {z:Value} (ht:dF P T agg size bytes z):(isAgg T).run P w=.ok agg w:=by
 obtain ⟨dd,hd,ha⟩:=ht.und;subst ha;simp only [isAgg,Sem.run_bind,run_underlying hd,Jz];cases dd <;> rfl
theorem xg {T:TypeId} {agg:Bool} {size bytes:Nat} {z:Value} (ht:dF P T agg size bytes z) :
 bo P E ⟨d,.alloc T,ty,ps,af,g⟩ w (.pointer (some ⟨w.heap.size,0,none⟩)) (w.alloc (.cells z.cells T)):=.inl (by
 simp [execOp,Instr.alloc,dv ht,newVar,newRow])
theorem DJ {T:TypeId} {x:Operand} {v:Value} (h:ev E x=v) :
 bo P E ⟨d,.box T x,ty,ps,af,g⟩ w (.pointer (some ⟨w.heap.size,0,none⟩)) (w.alloc (.cells v.cells T)):=.inl (by
 simp [execOp,Instr.box,h,newVar,newRow])
theorem bh {T:TypeId} {size bytes:Nat} {z:Value} {x:Operand} {a:Addr} {v:Value} (ht:dF P T false size bytes z) (hx:ev E x=.pointer (some a)) (hc:w.cell? a=some v) :
 bo P E ⟨d,.load T x,ty,ps,af,g⟩ w v w:=.inl (by
 simp [execOp,Instr.loadAt,Instr.sureAddr,hx,loadVar,dV ht,load,Sem.run,hc])
theorem eR (a:Addr) (cs:List Value):∀(i:Nat) (b:Array Value),(∀j u,cs[j]?=some u→w.cell? (a.add (i+j))=some u)→
 (loadCellsFrom a i cs.length b).run P w=.ok (b++cs.toArray) w:=by
 induction cs with
 | nil=>intro i b _; simp [loadCellsFrom]
 | cons c cs ih=>
  intro i b h;have d:=h 0 c rfl;have:=ih (i+1) (b.push c) (fun j u e=>by have:=h (j+1) u (by simpa using e); simpa [Nat.add_assoc,Nat.add_comm 1 j] using this);simp only [List.length_cons,loadCellsFrom,Sem.run_bind,load,Sem.run];simp only [Nat.add_zero] at d;rw [d];simp only [Jz,this];simp
theorem cP {T:TypeId} {size i:Nat} {z:Value} {x:Operand} {a:Addr} {cs:List Value} (b:dF P T true size i z) (hx:ev E x=.pointer (some a)) (c:cs.length=size)
    (f:∀j u,cs[j]?=some u→w.cell? (a.add j)=some u):bo P E ⟨d,.load T x,ty,ps,af,g⟩ w (.agg cs.toArray) w:=.inl (by
  have h:=eR (P:=P) (w:=w) a cs 0 #[] (fun j u e=>by simpa using f j u e);simp only [Array.empty_append] at h;subst c;simp [execOp,Instr.loadAt,Instr.sureAddr,hx,loadVar,dV b,bX b,loadCells,h])
theorem aR {op:BinOp} {T T':TypeId} {x y:Operand} {v:Value} (h1:(eqGuard op T x y (ev E x) (ev E y)).run P w=.ok () w) (h2:(binOp op T (ev E x) (ev E y)).run P w=.ok v w) :
 bo P E ⟨d,.binOp op T x y T',ty,ps,af,g⟩ w v w:=.inl (by
 simp [execOp,h1,h2])
theorem bG {op:BinOp} {T:TypeId} {x y:Operand} {k:IntKind} {n:Int} {v:Value}:(eqGuard op T x y (.int k n) v).run P w=.ok () w:=by rw [eqGuard_at_int]; rfl
section
variable {T T':TypeId} {x y:Operand} {k:IntKind} {a b:Int} (hx:ev E x=.int k a) (hy:ev E y=.int k b)
include hx hy
theorem FK (hf:k.wrap (a+b)=a+b):bo P E ⟨d,.binOp .add T x y T',ty,ps,af,g⟩ w (.int k (a+b)) w:=aR (by rw [hx]; exact bG) (by rw [hx,hy]; simp [binOp,Op.intArith,hf])
theorem zI:bo P E ⟨d,.binOp .add T x y T',ty,ps,af,g⟩ w (.int k (k.wrap (a+b))) w:=aR (by rw [hx]; exact bG) (by rw [hx,hy]; simp [binOp,Op.intArith])
theorem FE (hf:k.wrap (a - b)=a - b):bo P E ⟨d,.binOp .sub T x y T',ty,ps,af,g⟩ w (.int k (a - b)) w:=aR (by rw [hx]; exact bG) (by rw [hx,hy]; simp [binOp,Op.intArith,hf])
theorem Ey:bo P E ⟨d,.binOp .sub T x y T',ty,ps,af,g⟩ w (.int k (k.wrap (a - b))) w:=aR (by rw [hx]; exact bG) (by rw [hx,hy]; simp [binOp,Op.intArith])
theorem FJ (hf:k.wrap (a*b)=a*b):bo P E ⟨d,.binOp .mul T x y T',ty,ps,af,g⟩ w (.int k (a*b)) w:=aR (by rw [hx]; exact bG) (by rw [hx,hy]; simp [binOp,Op.intArith,hf])
theorem ED:bo P E ⟨d,.binOp .mul T x y T',ty,ps,af,g⟩ w (.int k (k.wrap (a*b))) w:=aR (by rw [hx]; exact bG) (by rw [hx,hy]; simp [binOp,Op.intArith])
theorem FH (hb:b≠0) (hf:k.wrap (a.tdiv b)=a.tdiv b):bo P E ⟨d,.binOp .quo T x y T',ty,ps,af,g⟩ w (.int k (a.tdiv b)) w:=aR (by rw [hx]; exact bG) (by rw [hx,hy]; simp [binOp,Op.intDiv,hf,hb])
theorem DI (hb:b≠0):bo P E ⟨d,.binOp .rem T x y T',ty,ps,af,g⟩ w (.int k (a.tmod b)) w:=aR (by rw [hx]; exact bG) (by rw [hx,hy]; simp [binOp,Op.intDiv,hb])
theorem DK:bo P E ⟨d,.binOp .and T x y T',ty,ps,af,g⟩ w (.int k (bits .and k a b)) w:=aR (by rw [hx]; exact bG) (by rw [hx,hy]; simp [binOp,intBits_and])
theorem Ci:bo P E ⟨d,.binOp .or T x y T',ty,ps,af,g⟩ w (.int k (bits .or k a b)) w:=aR (by rw [hx]; exact bG) (by rw [hx,hy]; simp [binOp,intBits_or])
theorem FD:bo P E ⟨d,.binOp .xor T x y T',ty,ps,af,g⟩ w (.int k (bits .xor k a b)) w:=aR (by rw [hx]; exact bG) (by rw [hx,hy]; simp [binOp,intBits_xor])
theorem cx:bo P E ⟨d,.binOp .eql T x y T',ty,ps,af,g⟩ w (.bool (a == b)) w:=aR (by rw [hx]; exact bG) (by rw [hx,hy]; simp [binOp,Op.intCmp])
theorem fN:bo P E ⟨d,.binOp .neq T x y T',ty,ps,af,g⟩ w (.bool (a != b)) w:=aR (by rw [hx]; exact bG) (by rw [hx,hy]; simp [binOp,Op.intCmp])
theorem bu:bo P E ⟨d,.binOp .lss T x y T',ty,ps,af,g⟩ w (.bool (decide (a<b))) w:=aR (by rw [hx]; exact bG) (by rw [hx,hy]; simp [binOp,Op.intCmp])
theorem iu:bo P E ⟨d,.binOp .leq T x y T',ty,ps,af,g⟩ w (.bool (decide (a≤b))) w:=aR (by rw [hx]; exact bG) (by rw [hx,hy]; simp [binOp,Op.intCmp])
theorem fO:bo P E ⟨d,.binOp .gtr T x y T',ty,ps,af,g⟩ w (.bool (decide (b<a))) w:=aR (by rw [hx]; exact bG) (by rw [hx,hy]; simp [binOp,Op.intCmp])
theorem ej:bo P E ⟨d,.binOp .geq T x y T',ty,ps,af,g⟩ w (.bool (decide (b≤a))) w:=aR (by rw [hx]; exact bG) (by rw [hx,hy]; simp [binOp,Op.intCmp])
end
theorem FG {T T':TypeId} {x y:Operand} {k k':IntKind} {a b:Int} (hx:ev E x=.int k a) (hy:ev E y=.int k' b) (hb:0≤b) :
 bo P E ⟨d,.binOp .shl T x y T',ty,ps,af,g⟩ w (.int k (k.wrap (a*2 ^ min b.toNat k.bits))) w:=aR (by rw [hx]; exact bG) (by rw [hx,hy,binOp_shl,shift_shl_any k k' a b hb]; rfl)
theorem FF {T T':TypeId} {x y:Operand} {k k':IntKind} {a b:Int} (hx:ev E x=.int k a) (hy:ev E y=.int k' b) (hb:0≤b) :
 bo P E ⟨d,.binOp .shr T x y T',ty,ps,af,g⟩ w (.int k (a / 2 ^ min b.toNat k.bits)) w:=aR (by rw [hx]; exact bG) (by rw [hx,hy,binOp_shr,shift_shr_any k k' a b hb]; rfl)
theorem dC {T:TypeId} {x:Operand} {b:Bool} (hx:ev E x=.bool b):bo P E ⟨d,.unOp .not T x,ty,ps,af,g⟩ w (.bool (!b)) w:=.inl (by simp [execOp,hx,Op.unary])
theorem fJ {S T:TypeId} {x:Operand} {k j:IntKind} {a:Int} {D:TypeDesc} (hS:P.underlying S=some D) (hT:P.underlying T=some (.int k)) (hx:ev E x=.int j a) :
 bo P E ⟨d,.convert S T x,ty,ps,af,g⟩ w (.int k (k.wrap a)) w:=.inl (by simp [execOp,hx,convert,run_underlying hS,run_underlying hT,Conv.intToInt])
end
theorem dy {P:Program} {T:TypeId} {agg:Bool} {size c:Nat} {z:Value} (b:(P.info? T).map (fun i=>(i.zero,i.size,i.bytes))=some (some z,size,c))
 (a:(P.underlying T).map (fun d=>match d with|.struct _=>true|.array _ _=>true|_=>false)=some agg):dF P T agg size c z:=by
 constructor
 ·cases h:P.info? T with
  | none=>simp [h] at b
  | some i=>simp [h] at b; exact ⟨i,rfl,b.1,b.2.1,b.2.2⟩
 ·cases h:P.underlying T with
  | none=>rw [h] at a; simp at a
  | some d=>rw [h] at a; simp at a; exact ⟨d,rfl,a⟩
abbrev Str:=List UInt8
def ao (s:Str):Value:=.string ⟨s.toArray⟩
abbrev bM (n:Nat):={ l:List Int // l.length=n }
def bM.zero (n:Nat):bM n:=⟨List.replicate n 0,by simp⟩
def rP {n:Nat} (v:bM n) (q:Int):Option Int:=if 0≤q then v.1[q.toNat]? else none
def tu {n:Nat} (v:bM n) (q x:Int):Option (bM n):=if 0≤q∧q.toNat<n then some ⟨v.1.set q.toNat x,by simp [v.2]⟩ else none
def kM (s:Str) (i:Int):Option Int:=if 0≤i then (s[i.toNat]?).map (fun c=>(c.toNat:Int)) else none
def dt (k:IntKind) (n:Int):Option Int:=if k.wrap n=n then some n else none
def bK {α:Type} (l:List α) (i:Int):Option α:=if 0≤i then l[i.toNat]? else none
def gn {α:Type} (l:List α) (i:Int) (x:α):Option (List α):=if 0≤i∧i.toNat<l.length then some (l.set i.toNat x) else none
def ym (k:IntKind) (a b:Int):Option Int:=if 0≤b then some (k.wrap (a*2 ^ min b.toNat k.bits)) else none
def vt (k:IntKind) (a b:Int):Option Int:=if 0≤b then some (a / 2 ^ min b.toNat k.bits) else none
def zJ (k:IntKind) (a b:Int):Option Int:=if b≠0∧k.wrap (a.tdiv b)=a.tdiv b then some (a.tdiv b) else none
def zF (a b:Int):Option Int:=if b≠0 then some (a.tmod b) else none
theorem qe {k:IntKind} {n m:Int} (h:dt k n=some m):m=n∧k.wrap n=n:=by
 unfold dt at h; split at h <;> simp_all
theorem cX {n:Nat} {v:bM n} {q c:Int} (h:rP v q=some c):0≤q∧q<n∧v.1[q.toNat]?=some c:=by
 unfold rP at h;split at h
 ·rename_i h0;have hl:=(Jo.1 h).1;rw [v.2] at hl;exact ⟨h0,by omega,h⟩
 ·cases h
theorem dQ {n:Nat} {v v':bM n} {q x:Int} (h:tu v q x=some v'):0≤q∧q<n∧v'.1=v.1.set q.toNat x:=by
 unfold tu at h;split at h
 ·rename_i h0; cases h; exact ⟨h0.1,by omega,rfl⟩
 ·cases h
theorem yG {s:Str} {i c:Int} (h:kM s i=some c):0≤i∧i<s.length∧∃u:UInt8,s[i.toNat]?=some u∧c=u.toNat:=by
 unfold kM at h;split at h
 ·rename_i h0;cases hs:s[i.toNat]? with
  | none=>rw [hs] at h; simp at h
  | some u=>
   rw [hs] at h;simp at h;have:=(Jo.1 hs).1;exact ⟨h0,by omega,u,rfl,h.symm⟩
 ·cases h
theorem ah {α:Type} {l:List α} {i:Int} {c:α} (h:bK l i=some c):0≤i∧i<l.length∧l[i.toNat]?=some c:=by
 unfold bK at h;split at h
 ·rename_i h0;have:=(Jo.1 h).1;exact ⟨h0,by omega,h⟩
 ·cases h
theorem bq {α:Type} {l l':List α} {i:Int} {x:α} (h:gn l i x=some l'):0≤i∧i<l.length∧l'=l.set i.toNat x:=by
 unfold gn at h;split at h
 ·rename_i h0; cases h; exact ⟨h0.1,by omega,rfl⟩
 ·cases h
section
variable {P:Program} {E:Env} {w:World} {d:Option Tmp} {ty:TypeId} {ps:String} {af:Array Edge} {g:Option (Nat×Bool)}
theorem bf {T T':TypeId} {x y:Operand} {k:IntKind} {a b m:Int} (hx:ev E x=.int k a) (hy:ev E y=.int k b) (h:dt k (a+b)=some m):bo P E ⟨d,.binOp .add T x y T',ty,ps,af,g⟩ w (.int k m) w:=by
 obtain ⟨rfl,hf⟩:=qe h; exact FK hx hy hf
theorem sd {T T':TypeId} {x y:Operand} {k:IntKind} {a b m:Int} (hx:ev E x=.int k a) (hy:ev E y=.int k b) (h:dt k (a - b)=some m):bo P E ⟨d,.binOp .sub T x y T',ty,ps,af,g⟩ w (.int k m) w:=by
 obtain ⟨rfl,hf⟩:=qe h; exact FE hx hy hf
theorem EE {T T':TypeId} {x y:Operand} {k:IntKind} {a b m:Int} (hx:ev E x=.int k a) (hy:ev E y=.int k b) (h:dt k (a*b)=some m):bo P E ⟨d,.binOp .mul T x y T',ty,ps,af,g⟩ w (.int k m) w:=by
 obtain ⟨rfl,hf⟩:=qe h; exact FJ hx hy hf
theorem vF {T T':TypeId} {x y:Operand} {k:IntKind} {a b m:Int} (hx:ev E x=.int k a) (hy:ev E y=.int k b) (h:zJ k a b=some m):bo P E ⟨d,.binOp .quo T x y T',ty,ps,af,g⟩ w (.int k m) w:=by
 unfold zJ at h; split at h
 ·rename_i h0; cases h; exact FH hx hy h0.1 h0.2
 ·cases h
theorem vE {T T':TypeId} {x y:Operand} {k:IntKind} {a b m:Int} (hx:ev E x=.int k a) (hy:ev E y=.int k b) (h:zF a b=some m):bo P E ⟨d,.binOp .rem T x y T',ty,ps,af,g⟩ w (.int k m) w:=by
 unfold zF at h; split at h
 ·rename_i h0; cases h; exact DI hx hy h0
 ·cases h
theorem vD {T T':TypeId} {x y:Operand} {k k':IntKind} {a b m:Int} (hx:ev E x=.int k a) (hy:ev E y=.int k' b) (h:ym k a b=some m):bo P E ⟨d,.binOp .shl T x y T',ty,ps,af,g⟩ w (.int k m) w:=by
 unfold ym at h; split at h
 ·rename_i h0; cases h; exact FG hx hy h0
 ·cases h
theorem se {T T':TypeId} {x y:Operand} {k k':IntKind} {a b m:Int} (hx:ev E x=.int k a) (hy:ev E y=.int k' b) (h:vt k a b=some m):bo P E ⟨d,.binOp .shr T x y T',ty,ps,af,g⟩ w (.int k m) w:=by
 unfold vt at h; split at h
 ·rename_i h0; cases h; exact FF hx hy h0
 ·cases h
theorem da {T:TypeId} {x y:Operand} {s:Str} {i c:Int} {k:IntKind} (j:P.underlying T=some .string) (hx:ev E x=ao s) (hy:ev E y=.int k i) (h:kM s i=some c) :
 bo P E ⟨d,.index T x y,ty,ps,af,g⟩ w (.int .u8 c) w:=.inl (by
 obtain ⟨n,o,u,b,rfl⟩:=yG h;have f:(ByteArray.mk s.toArray)[i.toNat]?=some u:=by
  have e:=(Jo.1 b).1;have a:i.toNat<(ByteArray.mk s.toArray).size:=by simpa [ByteArray.size] using e
  have m:(ByteArray.mk s.toArray)[i.toNat]?=some ((ByteArray.mk s.toArray)[i.toNat]'a):=getElem?_pos (ByteArray.mk s.toArray) i.toNat a;have l:(ByteArray.mk s.toArray)[i.toNat]'a=s[i.toNat]:=rfl;rw [m,l,←(Jo.1 b).2]
 simp only [execOp,Instr.index,hx,hy,ao,asIntOf,Sem.run_bind,Sem.run_pure,Jz,run_underlying j,if_pos n,f])
theorem dl {T:TypeId} {x:Operand} {s:Str} (hT:P.underlying T=some .string) (hx:ev E x=ao s) :
 bo P E ⟨d,.call { callee:=.builtin .len,args:=#[x],argTypes:=#[T] },ty,ps,af,g⟩ w (.int .i64 s.length) w:=.inl (by
 simp [execOp,resolve,invoke,builtin,hx,ao,Builtin.len_,run_underlying hT,goInt,ByteArray.size_mk'])
theorem dm {T el:TypeId} {x y:Operand} {b o len:Nat} {q:Int} {k:IntKind} {agg:Bool} {size h:Nat} {z:Value} (c:P.underlying T=some (.array len el)) (a:dF P el agg size h z)
 (hx:ev E x=.pointer (some ⟨b,o,none⟩)) (hy:ev E y=.int k q) (f:0≤q) (e:q<len) :
 bo P E ⟨d,.indexAddr T x y,ty,ps,af,g⟩ w (.pointer (some ⟨b,o+q.toNat*size,none⟩)) w:=.inl (by
 simp [execOp,Instr.indexAt,hx,hy,asIntOf,run_underlying c,Instr.sureAddr,f,e,bX a,Addr.add_lit])
end
section
variable {g0 g:Hp} {w0 w:World} {L:List Res} (h:Sep g0 w0 g w L)
include h
theorem Sep.cell {i b:Nat} {T:TypeId} {cs:List Value} (hi:L[i]?=some (oG b T cs)) {o:Nat} {v:Value} (hv:cs[o]?=some v):w.cell? ⟨b,o,none⟩=some v:=by
 have:=(h.at hi).out;simp only [Res.okB] at this;simp [World.cell?,this,hv]
theorem Sep.cells {i b:Nat} {T:TypeId} {cs:List Value} (hi:L[i]?=some (oG b T cs)):∀j u,cs[j]?=some u→w.cell? ((⟨b,0,none⟩:Addr).add j)=some u:=fun j u hj=>by
 rw [Addr.add_lit,Nat.zero_add]; exact h.cell hi hj
theorem Sep.cellsAt {i b:Nat} {T:TypeId} {cs vs:List Value} (hi:L[i]?=some (oG b T cs)) {o:Nat} (hv:∀j u,vs[j]?=some u→cs[o+j]?=some u):∀j u,vs[j]?=some u→w.cell? ((⟨b,o,none⟩:Addr).add j)=some u:=fun j u hj=>by
 rw [Addr.add_lit]; exact h.cell hi (hv j u hj)
theorem Sep.put {i b:Nat} {T:TypeId} {cs vs:List Value} (c:L[i]?=some (oG b T cs)) {o:Nat} (d:o+vs.length≤cs.length) (l:∀v∈vs,v.oneCell'=true) :
 ∃w',(∀P:Program,(storeCells ⟨b,o,none⟩ vs).run P w=.ok () w')∧Sep g0 w0 g w' (L.set i (oG b T (cs.take o++vs++cs.drop (o+vs.length)))):=by
 have a:=(h.at c).out;simp only [Res.okB] at a;refine ⟨w.setRow b ((cs.toArray.toList.take (o+0))++vs++cs.toArray.toList.drop (o+0+vs.length)).toArray,fun P=>run_storeCells_at P b o T vs 0 cs.toArray w a (by simpa using d) l,?_⟩;refine h.upd c (w':=w.setRow b _) ⟨rfl,rfl,rfl,by simp [World.setRow],fun k _ f=>setRow_other w b k _ (fun e=>f (by simp [Res.blk,e]))⟩ ⟨?_⟩ (fun m j=>.inl (by simpa [Res.blk] using j));simp only [Res.okB];rw [setRow_heap w b _ _ T (0,0) a];simp
end
section
variable {P:Program} {E:Env} {w w':World} {d:Option Tmp} {ty:TypeId} {ps:String} {af:Array Edge} {g:Option (Nat×Bool)}
theorem cF {T:TypeId} {x y:Operand} {a:Addr} {v:Value} {agg:Bool} {size f:Nat} {z:Value} (b:dF P T agg size f z) (hx:ev E x=.pointer (some a)) (hy:ev E y=v) (e:v.cells.size=size)
    (c:∀P:Program,(storeCells a v.cells.toList).run P w=.ok () w'):vh P E ⟨d,.store T x y,ty,ps,af,g⟩ w w':=.inl (by
  subst e;simp [execOp,Instr.storeAt,Instr.sureAddr,hx,hy,storeVar,bX b,c P])
end
def cL {n:Nat} (k:IntKind) (v:bM n):Value:=.agg (v.1.map (Value.int k)).toArray
section
variable {P:Program} {n:Fr} {Q:EPost} {E:Env} {w:World} {ops:Array Oper} {rest:List Oper} {d:Option Tmp} {ty:TypeId} {ps:String} {af:Array Edge} {g0 g:Hp} {w0:World} {L:List Res}
theorem aG {d:Tmp} {T:TypeId} {agg:Bool} {size h:Nat} {z:Value} (c:dF P T agg size h z) (e:Sep g0 w0 g w L) (zs:List Value) (a:z.cells=zs.toArray) (f:Nat.blt d n.sz=true)
 (k:∀b w',Sep g0 w0 g w' (oG b T zs::L)→OW P n ops Q rest (bR E d (.pointer (some ⟨b,0,none⟩))) w'):OW P n ops Q (⟨some d,.alloc T,ty,ps,af,none⟩::rest) E w:=
 gK (xg c) f rfl (k _ _ (by rw [a]; exact e.alloc _))
theorem lW {d:Tmp} {T:TypeId} {x:Operand} {v:Value} (hx:ev E x=v) (hs:Sep g0 w0 g w L) (zs:List Value) (hz:v.cells=zs.toArray) (hd:Nat.blt d n.sz=true)
 (k:∀b w',Sep g0 w0 g w' (oG b T zs::L)→OW P n ops Q rest (bR E d (.pointer (some ⟨b,0,none⟩))) w'):OW P n ops Q (⟨some d,.box T x,ty,ps,af,none⟩::rest) E w:=
 gK (DJ hx) hd rfl (k _ _ (by rw [hz]; exact hs.alloc _))
theorem bn {T T':TypeId} {x y:Operand} {b o i:Nat} {v:Value} {cs:List Value} {p:Nat} {z:Value} (d:dF P T false 1 p z) (j:Sep g0 w0 g w L) (m:L[i]?=some (oG b T' cs))
 (hx:ev E x=.pointer (some ⟨b,o,none⟩)) (hy:ev E y=v) (c:v.oneCell'=true) (l:o<cs.length)
 (k:∀w',Sep g0 w0 g w' (L.set i (oG b T' (cs.set o v)))→OW P n ops Q rest E w'):OW P n ops Q (⟨none,.store T x y,ty,ps,af,none⟩::rest) E w:=by
 have a:v.cells=#[v]:=by cases v <;> first|rfl|simp [Value.oneCell'] at c
 obtain ⟨w',f,h⟩:=j.put m (vs:=[v]) (o:=o) (by simp; omega) (by simpa using c);refine tg (cF d hx hy (by rw [a]; rfl) (by rw [a]; exact f)) rfl rfl (k w' ?_);have e:cs.set o v=List.take o cs++[v]++List.drop (o+[v].length) cs:=by
  rw [List.set_eq_take_append_cons_drop,if_pos l]; simp
 rw [e]; exact h
theorem cB {T T':TypeId} {x y:Operand} {b i:Nat} {v:Value} {cs vs:List Value} {size m:Nat} {z:Value} (c:dF P T true size m z) (f:Sep g0 w0 g w L) (j:L[i]?=some (oG b T' cs))
 (hx:ev E x=.pointer (some ⟨b,0,none⟩)) (hy:ev E y=v) (a:v=.agg vs.toArray) (l:∀v∈vs,v.oneCell'=true) (h:vs.length=size) (p:cs.length=vs.length)
 (k:∀w',Sep g0 w0 g w' (L.set i (oG b T' vs))→OW P n ops Q rest E w'):OW P n ops Q (⟨none,.store T x y,ty,ps,af,none⟩::rest) E w:=by
 subst a;obtain ⟨w',d,e⟩:=f.put j (vs:=vs) (o:=0) (by omega) l;refine tg (cF c hx hy (by simpa [Value.cells] using h) (by simpa [Value.cells] using d)) rfl rfl (k w' ?_);have:cs.drop vs.length=[]:=List.drop_eq_nil_iff.2 (by omega);simpa [this] using e
end
theorem bz {k:IntKind} {l:List Int}:∀v∈l.map (Value.int k),v.oneCell'=true:=by
 intro v hv;obtain ⟨n,_,rfl⟩:=JJ.1 hv;rfl
theorem fX {n:Nat} {v:bM n} {q c:Int} {k:IntKind} (h:rP v q=some c):(v.1.map (Value.int k))[0+q.toNat*1]?=some (.int k c):=by
 obtain ⟨_,_,h⟩:=cX h;simp [h]
theorem iU {n:Nat} {v v':bM n} {q x:Int} {k:IntKind} (h:tu v q x=some v'):(v.1.map (Value.int k)).set (0+q.toNat*1) (.int k x)=v'.1.map (Value.int k):=by
 obtain ⟨_,_,h⟩:=dQ h;rw [h]; simp [List.map_set]
theorem ou {n:Nat} {v v':bM n} {q x:Int} {k:IntKind} (h:tu v q x=some v'):0+q.toNat*1<(v.1.map (Value.int k)).length:=by
 have h:=dQ h;simp [v.2]; omega
def pc (a:Act):ResultVar→Sem Value
 | .tmp t=>pure (a.tmps.getD t undef)
 | .cell c t=>do loadVar t (←asAddr (a.tmps.getD c undef))
def RV (P:Program) (n:Fr) (E:Env) (w:World) (r:ResultVar) (v:Value):Prop:=∀a,cV n E a→(pc a r).run P w=.ok v w
section
variable {P:Program} {fn:Func} {n:Fr} {E:Env} {w:World}
theorem aU {t:Tmp} {v:Value} (hv:ev E (.tmp t)=v):RV P n E w (.tmp t) v:=fun a ha=>by
 subst hv; simp only [pc,ha.get]; rfl
theorem fU {c:Tmp} {T:TypeId} {size bytes:Nat} {z:Value} {a:Addr} {v:Value} (ht:dF P T false size bytes z) (hv:ev E (.tmp c)=.pointer (some a)) (hc:w.cell? a=some v):RV P n E w (.cell c T) v:=fun ac ha=>by
 have hp:ac.tmps.getD c undef=.pointer (some a):=(ha.get c).trans hv;simp [pc,hp,asAddr,loadVar,dV ht,load,Sem.run,hc]
theorem ba {c:Tmp} {T:TypeId} {size k:Nat} {z:Value} {a:Addr} {vs:List Value} (b:dF P T true size k z) (d:ev E (.tmp c)=.pointer (some a)) (f:vs.length=size)
 (h:∀j u,vs[j]?=some u→w.cell? (a.add j)=some u):RV P n E w (.cell c T) (.agg vs.toArray):=fun l i=>by
 have e:l.tmps.getD c undef=.pointer (some a):=(i.get c).trans d;have hr:=eR (P:=P) (w:=w) a vs 0 #[] (fun j u g=>by simpa using h j u g);simp only [Array.empty_append] at hr;subst f;simp [pc,e,asAddr,loadVar,dV b,bX b,loadCells,hr]
theorem iY {rs:Array ResultVar} (a:Act) (h:fn.results=rs):results fn a.tmps=(do let vs←rs.mapM (pc a); pure (if h:vs.size=1 then vs[0] else .tuple vs)):=by
 subst h;unfold results;congr 2
theorem bJ {r:ResultVar} {v:Value} (h:fn.results=#[r]) (h1:RV P n E w r v):iT P fn n E w v:=fun a ha=>by
 rw [iY a h]; simp [h1 a ha]
theorem og {r s:ResultVar} {v u:Value} (h:fn.results=#[r,s]) (h1:RV P n E w r v) (h2:RV P n E w s u):iT P fn n E w (.tuple #[v,u]):=fun a ha=>by
 rw [iY a h]; simp [h1 a ha,h2 a ha]
theorem pg {r s t:ResultVar} {v u x:Value} (h:fn.results=#[r,s,t]) (h1:RV P n E w r v) (h2:RV P n E w s u) (h3:RV P n E w t x):iT P fn n E w (.tuple #[v,u,x]):=fun a ha=>by
 rw [iY a h]; simp [h1 a ha,h2 a ha,h3 a ha]
end
section
variable {P:Program} {n:Fr} {Q:EPost} {E:Env} {w:World} {ops:Array Oper} {rest:List Oper} {op:Op} {ty:TypeId} {ps:String} {af:Array Edge}
theorem O {d:Tmp} {v:Value} {w':World} (hr:bo P E ⟨some d,op,ty,ps,af,none⟩ w v w') (hd:Nat.blt d n.sz=true) (k:OW P n ops Q rest (bR E d v) w'):OW P n ops Q (⟨some d,op,ty,ps,af,none⟩::rest) E w:=gK hr hd rfl k
theorem O0 {w':World} (hr:vh P E ⟨none,op,ty,ps,af,none⟩ w w') (k:OW P n ops Q rest E w'):OW P n ops Q (⟨none,op,ty,ps,af,none⟩::rest) E w:=tg hr rfl rfl k
theorem S {Q:Env→Prop} {d:Tmp} {v:Value} (hr:bo P E ⟨some d,op,ty,ps,af,none⟩ w v w) (hd:Nat.blt d n.sz=true) (k:SW P n ops w Q rest (bR E d v)):SW P n ops w Q (⟨some d,op,ty,ps,af,none⟩::rest) E:=Hn hr hd rfl k
end
structure Ty (α:Type) where
  sz:Nat
  rel:Hp→List Value→α→Prop
  mono:∀ {g g':Hp} {cs:List Value} {x:α},be g g'→rel g cs x→rel g' cs x
  len:∀ {g:Hp} {cs:List Value} {x:α},rel g cs x→cs.length=sz
  one:∀ {g:Hp} {cs:List Value} {x:α},rel g cs x→∀v∈cs,v.oneCell'=true
def ai (k:IntKind):Ty Int:=⟨1,fun _ cs n=>cs=[.int k n],fun _ h=>h,fun h=>by rw [h]; rfl,fun h v hv=>by rw [h] at hv; simp at hv; subst hv; rfl⟩
def aX:Ty Bool:=⟨1,fun _ cs n=>cs=[.bool n],fun _ h=>h,fun h=>by rw [h]; rfl,fun h v hv=>by rw [h] at hv; simp at hv; subst hv; rfl⟩
def eE:Ty Str:=⟨1,fun _ cs n=>cs=[ao n],fun _ h=>h,fun h=>by rw [h]; rfl,fun h v hv=>by rw [h] at hv; simp at hv; subst hv; rfl⟩
def bD (n:Nat) (k:IntKind):Ty (bM n):=⟨n,fun _ cs v=>cs=v.1.map (Value.int k),fun _ h=>h,fun {_ _ x} h=>by rw [h]; simp [x.2],fun h=>by rw [h]; exact bz⟩
def ag {α:Type} (τ:Ty α) (g:Hp) (xs:List Value) (l:List α):Prop:=
 xs.length=l.length*τ.sz∧∀i x,l[i]?=some x→τ.rel g ((xs.drop (i*τ.sz)).take τ.sz) x
section
variable {α:Type} {τ:Ty α} {g g':Hp} {xs:List Value} {l:List α}
theorem ag.nil:ag τ g [] []:=⟨by simp,by simp⟩
theorem ag.mono (h:ag τ g xs l) (hg:be g g'):ag τ g' xs l:=⟨h.1,fun i x hx=>τ.mono hg (h.2 i x hx)⟩
theorem ag.append {ys:List Value} {m:List α} (h:ag τ g xs l) (a:ag τ g ys m):ag τ g (xs++ys) (l++m):=by
 refine ⟨by simp [h.1,a.1,Nat.add_mul],fun i x hx=>?_⟩
 by_cases hi:i<l.length
 ·rw [Jw hi] at hx;have:=h.2 i x hx;have c:i*τ.sz+τ.sz≤xs.length:=by rw [h.1]; rw [←Nat.succ_mul]; exact JD _ hi
  rw [List.drop_append_of_le_length (by omega),List.take_append_of_le_length (by simp; omega)];exact this
 ·rw [JK (by omega)] at hx;have:=a.2 _ x hx;have e:i*τ.sz=xs.length+(i - l.length)*τ.sz:=by rw [h.1,←Nat.add_mul]; congr 1; omega
  rw [e,List.drop_append];have b:List.drop (xs.length+(i - l.length)*τ.sz) xs=[]:=List.drop_eq_nil_iff.2 (by omega);rw [b,Jx,Nat.add_sub_cancel_left];exact this
theorem ag.one {cs:List Value} {x:α} (h:τ.rel g cs x):ag τ g cs [x]:=by
 refine ⟨by simp [τ.len h],fun i y hy=>?_⟩;cases i with
 | zero=>simp at hy; subst hy; simp; rw [JO (by rw [τ.len h]; exact Nat.le_refl _)]; exact h
 | succ i=>simp at hy
theorem ag.ones {g:Hp}:ag τ g xs l→∀v∈xs,v.oneCell'=true:=by
 intro h v b;obtain ⟨j,d,rfl⟩:=JC.1 b;have a:=h.1;have c:0<τ.sz:=by
  rcases Nat.eq_zero_or_pos τ.sz with e|e
  ·rw [e] at a; simp at a; subst a; simp at d
  ·exact e
 have f:j / τ.sz<l.length:=Nat.div_lt_of_lt_mul (by rw [Nat.mul_comm]; omega);have:=h.2 (j / τ.sz) l[j / τ.sz] (Jn f);refine τ.one this _ ?_;have e:xs[j]=((xs.drop (j / τ.sz*τ.sz)).take τ.sz)[j % τ.sz]'(by
  have:=Nat.mod_lt j c;have:=Nat.div_add_mod j τ.sz;rw [Nat.mul_comm] at this;simp; omega):=by
  simp only [List.getElem_take,List.getElem_drop];congr 1;have:=Nat.div_add_mod j τ.sz;rw [Nat.mul_comm] at this; omega
 rw [e]; exact List.getElem_mem _
theorem ag.set {cs:List Value} {x:α} {i:Nat} (h:ag τ g xs l) (a:τ.rel g cs x) (d:i<l.length) :
 ag τ g (xs.take (i*τ.sz)++cs++xs.drop (i*τ.sz+cs.length)) (l.set i x):=by
 have b:=τ.len a;have m:i*τ.sz+τ.sz≤xs.length:=by rw [h.1]; rw [←Nat.succ_mul]; exact JD _ d
 refine ⟨by rw [Jr,Jr,JG,JQ,List.length_set,b]; have:=h.1; omega,fun j y hy=>?_⟩;rw [JM] at hy;split at hy
 ·rename_i e;subst e;simp at hy;obtain ⟨_,rfl⟩:=hy;have f:(List.take (i*τ.sz) xs).length=i*τ.sz:=by simp; omega
  rw [Jv,List.drop_append];rw [List.drop_eq_nil_iff.2 (by omega),Jx,f,Nat.sub_self,List.drop_zero,List.take_append_of_le_length (by omega),JO (by omega)];exact a
 ·rename_i hne;have:=h.2 j y hy;have c:=(Jo.1 hy).1;have k:j*τ.sz+τ.sz≤xs.length:=by rw [h.1]; rw [←Nat.succ_mul]; exact JD _ c
  have e:(List.drop (j*τ.sz) (List.take (i*τ.sz) xs++cs++List.drop (i*τ.sz+cs.length) xs)).take τ.sz=(List.drop (j*τ.sz) xs).take τ.sz:=by
   apply List.ext_getElem?;intro q;simp only [List.getElem?_take,List.getElem?_drop];split
   ·rename_i hq;rcases Nat.lt_or_gt_of_ne hne with hlt|hlt
    ·have:(i+1)*τ.sz≤j*τ.sz:=JD _ hlt;rw [Nat.succ_mul] at this;rw [JK (by simp; omega),List.getElem?_drop];congr 1;simp;omega
    ·have:(j+1)*τ.sz≤i*τ.sz:=JD _ hlt;rw [Nat.succ_mul] at this;rw [Jv,Jw (by simp; omega),List.getElem?_take];rw [if_pos (by omega)]
   ·rfl
  rw [e]; exact this
end
def qK (g:Hp) (v:Value) (n:Nat) (xs:List Value):Prop:=
 (n=0∧xs=[]∧∃a cap,v=.slice a 0 cap∧(a=none→cap=0))∨
 ∃b off cap arr e fz,v=.slice (some ⟨b,off,none⟩) n cap∧n≤cap∧g b=some (.cells arr e fz)∧∀j u,xs[j]?=some u→arr[off+j]?=some u
def cv {α:Type} (τ:Ty α) (g:Hp) (v:Value) (l:List α):Prop:=∃xs,ag τ g xs l∧qK g v l.length xs
theorem qK.mono {g g':Hp} {v:Value} {n:Nat} {xs:List Value} (h:qK g v n xs) (hg:be g g'):qK g' v n xs:=by
 rcases h with h|⟨b,off,cap,arr,e,fz,h1,h2,h3,h4⟩
 ·exact .inl h
 ·exact .inr ⟨b,off,cap,arr,e,fz,h1,h2,hg _ _ h3,h4⟩
theorem cv.mono {α:Type} {τ:Ty α} {g g':Hp} {v:Value} {l:List α} (h:cv τ g v l) (hg:be g g'):cv τ g' v l:=by
 obtain ⟨xs,h1,h2⟩:=h;exact ⟨xs,h1.mono hg,h2.mono hg⟩
theorem qK.shape {g:Hp} {v:Value} {n:Nat} {xs:List Value} (h:qK g v n xs):∃a cap,v=.slice a n cap:=by
 rcases h with ⟨rfl,_,a,cap,rfl,_⟩|⟨b,off,cap,arr,e,fz,rfl,_⟩
 ·exact ⟨_,_,rfl⟩
 ·exact ⟨_,_,rfl⟩
theorem cv.shape {α:Type} {τ:Ty α} {g:Hp} {v:Value} {l:List α} (h:cv τ g v l):∃a cap,v=.slice a l.length cap:=h.elim fun _ h=>h.2.shape
theorem cv.nil {α:Type} {τ:Ty α} {g:Hp}:cv τ g (.slice none 0 0) []:=⟨[],ag.nil,.inl ⟨rfl,rfl,none,0,rfl,fun _=>rfl⟩⟩
def cj {α:Type} (τ:Ty α):Ty (List α):=
 ⟨1,fun g cs l=>∃v,cs=[v]∧cv τ g v l,fun hg ⟨v,h1,h2⟩=>⟨v,h1,h2.mono hg⟩,fun ⟨v,h1,_⟩=>by rw [h1]; rfl,fun ⟨v,h1,h2⟩ u hu=>by
  rw [h1] at hu; simp at hu; subst hu
  obtain ⟨a,cap,rfl⟩:=h2.shape
  rfl⟩
theorem cv.at {α:Type} {τ:Ty α} {g:Hp} {v:Value} {l:List α} (h:cv τ g v l) {i:Int} {x:α} (hx:bK l i=some x) :
 ∃b off cap,v=.slice (some ⟨b,off,none⟩) l.length cap∧∃cs,τ.rel g cs x∧∀w,dE g w→∀j u,cs[j]?=some u→w.cell? ⟨b,off+i.toNat*τ.sz+j,none⟩=some u:=by
 obtain ⟨q,p,m⟩:=ah hx;obtain ⟨xs,hr,f⟩:=h;rcases f with ⟨k,_⟩|⟨b,off,cap,s,e,r,d,_,n,o⟩
 ·rw [k] at p; omega
 ·refine ⟨b,off,cap,d,_,hr.2 _ _ m,fun w c j u a=>?_⟩;rw [List.getElem?_take] at a;split at a
  ·rw [List.getElem?_drop] at a;have:=o _ _ a;simp [World.cell?,c b _ n,Nat.add_assoc] at this ⊢;exact this
  ·cases a
def qM (agg:Bool) (cs:List Value):Value:=if agg then .agg cs.toArray else cs.headD undef
section
variable {P:Program} {E:Env} {w:World} {d:Option Tmp} {ty:TypeId} {ps:String} {af:Array Edge} {gd:Option (Nat×Bool)}
theorem aN {T e:TypeId} {x:Operand} {v:Value} {a:Option Addr} {len cap:Nat} (hT:P.underlying T=some (.slice e)) (hx:ev E x=v) (hv:v=.slice a len cap) :
 bo P E ⟨d,.call { callee:=.builtin .len,args:=#[x],argTypes:=#[T] },ty,ps,af,gd⟩ w (.int .i64 len) w:=.inl (by
 subst hv;simp [execOp,resolve,invoke,builtin,hx,Builtin.len_,run_underlying hT,goInt])
theorem aF {T el:TypeId} {x y:Operand} {v:Value} {b o len cap:Nat} {q:Int} {k:IntKind} {agg:Bool} {size h:Nat} {z:Value} (e:P.underlying T=some (.slice el)) (c:dF P el agg size h z)
 (hx:ev E x=v) (a:v=.slice (some ⟨b,o,none⟩) len cap) (hy:ev E y=.int k q) (g:0≤q) (f:q<len) :
 bo P E ⟨d,.indexAddr T x y,ty,ps,af,gd⟩ w (.pointer (some ⟨b,o+q.toNat*size,none⟩)) w:=.inl (by
 subst a;simp [execOp,Instr.indexAt,hx,hy,asIntOf,run_underlying e,g,f,bX c,Addr.add_lit])
theorem bF {T:TypeId} {agg:Bool} {size k:Nat} {z:Value} {x:Operand} {b o:Nat} {cs:List Value} (e:dF P T agg size k z) (hx:ev E x=.pointer (some ⟨b,o,none⟩)) (f:cs.length=size) (a:agg=true∨size=1)
 (g:∀j u,cs[j]?=some u→w.cell? ⟨b,o+j,none⟩=some u) {v:Value} (h:qM agg cs=v):bo P E ⟨d,.load T x,ty,ps,af,gd⟩ w v w:=by
 subst h;cases agg with
 | true=>exact cP e hx f (fun j u i=>by rw [Addr.add_lit]; exact g j u i)
 | false=>
  have a:size=1:=by simpa using a
  subst a
  match cs,f with
  | [c],_=>exact bh (v:=c) e hx (by have:=g 0 c rfl; simpa using this)
end
section
variable {g0 g:Hp} {w0 w:World} {L:List Res} (h:Sep g0 w0 g w L)
include h
theorem Sep.rowShape {i:Nat} {v:Value} {e:TypeId} {sz n:Nat} {xs:List Value} (hi:L[i]?=some (.row v e sz n xs)):∃a cap,v=.slice a n cap:=by
 have:=(h.at hi).out;rcases this.2 with ⟨rfl,rfl⟩|⟨b,cap,cur,rfl,_⟩
 ·exact ⟨_,_,rfl⟩
 ·exact ⟨_,_,rfl⟩
theorem Sep.rowAt {i:Nat} {v:Value} {e:TypeId} {sz n:Nat} {xs:List Value} (f:L[i]?=some (.row v e sz n xs)) (l:0<n) :
 ∃b cap,v=.slice (some ⟨b,0,none⟩) n cap∧∀j u,xs[j]?=some u→w.cell? ⟨b,0+j,none⟩=some u:=by
 have:=(h.at f).out;rcases this.2 with ⟨_,rfl⟩|⟨b,cap,o,c,_,g,k,_,m,d⟩
 ·omega
 ·refine ⟨b,cap,c,fun j u a=>?_⟩;simp only [World.cell?,g,Nat.zero_add];rw [←d,List.getElem?_take] at a;split at a
  ·simpa using a
  ·cases a
theorem Sep.rowEl {α:Type} {τ:Ty α} {l:List α} {i:Nat} {v:Value} {e:TypeId} {xs:List Value} (o:L[i]?=some (.row v e τ.sz l.length xs)) (hr:ag τ g xs l) {q:Int} {x:α} (hx:bK l q=some x) :
 ∃b cap,v=.slice (some ⟨b,0,none⟩) l.length cap∧∃cs,τ.rel g cs x∧∀w',(Res.row v e τ.sz l.length xs).ok w'→∀j u,cs[j]?=some u→w'.cell? ⟨b,0+q.toNat*τ.sz+j,none⟩=some u:=by
 obtain ⟨w,t,n⟩:=ah hx;obtain ⟨b,cap,c,_⟩:=h.rowAt o (by omega);refine ⟨b,cap,c,_,hr.2 _ _ n,fun w' d j u a=>?_⟩;have f:=d.out;subst c;rcases f.2 with ⟨m,_⟩|⟨A,z,y,c,_,p,r,_,s,k⟩
 ·cases m
 ·cases c
  rw [List.getElem?_take] at a;split at a
  ·rw [List.getElem?_drop,←k,List.getElem?_take] at a;split at a
   ·simp only [World.cell?,p,Nat.zero_add];simpa [Nat.add_assoc] using a
   ·cases a
  ·cases a
theorem Sep.rowPut {α:Type} {τ:Ty α} {l l':List α} {i:Nat} {v:Value} {e:TypeId} {xs cs:List Value} (j:L[i]?=some (.row v e τ.sz l.length xs)) (hr:ag τ g xs l) {q:Int} {x:α} (hx:gn l q x=some l') (c:τ.rel g cs x) :
 ∃b cap,v=.slice (some ⟨b,0,none⟩) l.length cap∧∃w' xs',(∀P:Program,(storeCells ⟨b,0+q.toNat*τ.sz,none⟩ cs).run P w=.ok () w')∧ag τ g xs' l'∧Sep g0 w0 g w' (L.set i (.row v e τ.sz l'.length xs')):=by
 obtain ⟨N,K,rfl⟩:=bq hx;have d:q.toNat<l.length:=by omega
 have H:=τ.len c;have p:=(h.at j).out;rcases p.2 with ⟨_,G⟩|⟨b,cap,a,n,_,m,f,u,t,o⟩
 ·omega
 ·subst n;have I:q.toNat*τ.sz+τ.sz≤l.length*τ.sz:=by rw [←Nat.succ_mul]; exact JD _ d
  have J:l.length*τ.sz≤cap*τ.sz:=JD _ f;refine ⟨b,cap,rfl,w.setRow b (a.toList.take (0+q.toNat*τ.sz+0)++cs++a.toList.drop (0+q.toNat*τ.sz+0+cs.length)).toArray,xs.take (q.toNat*τ.sz)++cs++xs.drop (q.toNat*τ.sz+cs.length),
   fun P=>run_storeCells_at P b (0+q.toNat*τ.sz) e cs 0 a w m (by omega) (τ.one c),hr.set c d,?_⟩
  refine h.upd j (w':=w.setRow b _) ⟨rfl,rfl,rfl,by simp [World.setRow],fun k _ r=>setRow_other w b k _ (fun e=>r (by simp [Res.blk,Value.ownBlock,e]))⟩ ⟨?_⟩ (fun Q y=>.inl (by simpa [Res.blk] using y));simp only [Res.okB,List.length_set];have F:xs.length=l.length*τ.sz:=hr.1;refine ⟨by have:=(hr.set c d).1; simpa using this,.inr ⟨b,cap,_,rfl,Nat.zero_le _,setRow_heap w b a _ e _ m,f,u,by rw [List.size_toArray,Jr,Jr,JG,JQ,Array.length_toList,t]; omega,?_⟩⟩;simp only [Nat.zero_add,Nat.add_zero];rw [←o];have s:l.length*τ.sz≤a.toList.length:=by have:=Array.length_toList (xs:=a); omega
  generalize a.toList=cu at s;generalize hA:q.toNat*τ.sz=A at *;generalize hB:l.length*τ.sz=B at *;have D:(List.take A cu).length=A:=by rw [JG]; omega
  have z:List.take A (List.take B cu)=List.take A cu:=by rw [List.take_take]; congr 1; omega
  rw [z,Jv,Jv,List.take_append,JO (l:=List.take A cu) (by omega),D,List.take_append,JO (l:=cs) (by omega)];congr 2;rw [List.take_drop];congr 2;omega
end
def dz {α:Type} (B:Nat) (l m:List α):Option (List α):=if (l.length+m.length)*B≤140737488355328 then some (l++m) else none
def vS {α:Type} (B:Nat) (n:Int) (z:α):Option (List α):=if 0≤n∧n*B≤140737488355328 then some (List.replicate n.toNat z) else none
theorem nF {α:Type} {B:Nat} {l m r:List α} (h:dz B l m=some r):r=l++m∧(l.length+m.length)*B≤140737488355328:=by
 unfold dz at h; split at h
 ·rename_i h0; cases h; exact ⟨rfl,h0⟩
 ·cases h
theorem zZ {α:Type} {B:Nat} {n:Int} {z:α} {r:List α} (h:vS B n z=some r):r=List.replicate n.toNat z∧0≤n∧n*B≤140737488355328:=by
 unfold vS at h; split at h
 ·rename_i h0; cases h; exact ⟨rfl,h0⟩
 ·cases h
def Dt (w:World) (u:Value) (m:Nat) (ys:List Value):Prop:=
 (u=.slice none 0 0∧m=0∧ys=[])∨∃a c,u=.slice (some a) m c∧∀j y,ys[j]?=some y→w.cell? (a.add j)=some y
theorem qK.src {g:Hp} {w:World} {v:Value} {n:Nat} {xs:List Value} (h:qK g v n xs) (d:dE g w):Dt w v n xs:=by
 rcases h with ⟨rfl,rfl,a,cap,rfl,k⟩|⟨b,off,cap,m,e,l,c,_,f,i⟩
 ·cases a with
  | none=>rw [k rfl]; exact .inl ⟨rfl,rfl,rfl⟩
  | some a=>exact .inr ⟨a,cap,rfl,by simp⟩
 ·exact .inr ⟨⟨b,off,none⟩,cap,c,fun j y hy=>by have:=i j y hy; rw [Addr.add_lit]; simp [World.cell?,d b _ f]; simpa using this⟩
theorem Sep.rowSrc {g0 g:Hp} {w0 w:World} {L:List Res} (h:Sep g0 w0 g w L) {i:Nat} {v:Value} {e:TypeId} {sz n:Nat} {xs:List Value} (f:L[i]?=some (.row v e sz n xs)):Dt w v n xs:=by
 have:=(h.at f).out;rcases this.2 with ⟨rfl,rfl⟩|⟨b,cap,o,c,_,k,l,_,m,d⟩
 ·have:=this.1; simp at this; exact .inl ⟨rfl,rfl,this⟩
 ·refine .inr ⟨⟨b,0,none⟩,cap,c,fun j u a=>?_⟩;rw [Addr.add_lit];simp only [World.cell?,k,Nat.zero_add];rw [←d,List.getElem?_take] at a;split at a
  ·simpa using a
  ·cases a
section
variable {P:Program} {w:World}
theorem ey (t ty e:TypeId) {agg:Bool} {size g:Nat} {z:Value} (c:P.underlying t=some (.slice e)) (f:dF P e agg size g z) (b:Option Addr) (n cap:Nat) (d:n≤cap) (h:b=none→n=0) :
 (Builtin.append_ #[t,t] ty #[.slice b n cap,.slice none 0 0]).run P w=.ok (.slice b n cap) w:=by
 cases b with
 | none=>simp [Builtin.append_,run_underlying c,bX f,Builtin.lenOf,Builtin.firstCells,d]
 | some a=>simp [Builtin.append_,run_underlying c,bX f,Builtin.lenOf,Builtin.firstCells,d,storeCells]
theorem fB (t ty e:TypeId) {agg:Bool} {size Q:Nat} {z:Value} (f:P.underlying t=some (.slice e)) (G:dF P e agg size Q z) (R:z.cells.size=size) (hsz:0<size)
 {v u:Value} {n m:Nat} {xs ys:List Value} (a:w.ownsRow 0 e size v n xs) (S:Dt w u m ys) (d:ys.length=m*size) (h1:∀y∈ys,y.oneCell'=true) (N:n+m≤maxLen) (L:(n+m)*Q≤140737488355328) :
 ∃v' w',(Builtin.append_ #[t,t] ty #[v,u]).run P w=.ok v' w'∧w'.ownsRow 0 e size v' (n+m) (xs++ys)∧w.grownBy w' v.ownBlock∧(∀b,v'.ownBlock=some b→v.ownBlock=some b∨w.heap.size≤b)∧w'.ownsRow 0 e size v n xs:=by
 have K:∀row,w.grownBy w row:=fun _=>⟨rfl,rfl,rfl,Nat.le_refl _,fun _ _ _=>rfl⟩
 rcases S with ⟨rfl,rfl,rfl⟩|⟨x,s,rfl,A⟩
 ·refine ⟨v,w,?_,by simpa using a,K _,fun b c=>.inl c,a⟩;rcases a.2 with ⟨rfl,rfl⟩|⟨g,cap,o,rfl,_,_,B,_⟩
  ·exact ey t ty e f G none 0 0 (Nat.le_refl _) (fun _=>rfl)
  ·exact ey t ty e f G _ n cap B (fun h=>by cases h)
 obtain ⟨i,q,I,T,Z⟩:=G.info;subst T Z;have a1:n+m≤9223372036854775807:=by simp only [maxLen] at N; omega
 have p:(xs++ys).length=(n+m)*i.size:=by rw [Jr,a.1,d,Nat.add_mul]
 have H:∀(old:Nat),old<n+m→∀(row:Option Nat),
  (w.drew.alloc (.cells (xs.toArray++ys.toArray++Builtin.zeroCells z.cells (grownCap w (n+m) old e - (n+m))) e)).ownsRow 0 e i.size
   (.slice (some ⟨w.heap.size,0,none⟩) (n+m) (grownCap w (n+m) old e)) (n+m) (xs++ys)∧
  w.grownBy (w.drew.alloc (.cells (xs.toArray++ys.toArray++Builtin.zeroCells z.cells (grownCap w (n+m) old e - (n+m))) e)) row:=by
  intro old ho row;have V:=grownCap_ge w (n+m) old e;have r:grownCap w (n+m) old e≤maxLen:=grownCap_le_maxLen w (n+m) old e N;refine ⟨⟨p,.inr ⟨w.heap.size,_,_,rfl,Nat.zero_le _,heap_alloc_new w.drew _,V,r,?_,?_⟩⟩,⟨rfl,rfl,rfl,by simp,fun k D _=>Below.heap_alloc w.drew _ k D⟩⟩
  ·simp only [Array.size_append,List.size_toArray,size_zeroCells,R,a.1,d,←Nat.add_mul];congr 1;omega
  ·simp only [Array.toList_append,Jv];rw [←Jv,←p];exact List.take_left
 rcases a.2 with ⟨rfl,rfl⟩|⟨g,cap,o,rfl,a3,F,B,r,X,J⟩
 ·have hx:xs=[]:=JP (by simpa using a.1);subst hx
  by_cases hm:m=0
  ·subst hm;have U:ys=[]:=JP (by simpa using d);subst U;refine ⟨.slice none 0 0,w,?_,World.ownsRow_nil w 0 e i.size,K _,fun b c=>by simp [Value.ownBlock] at c,World.ownsRow_nil w 0 e i.size⟩;simp [Builtin.append_,run_underlying f,sizeOf,typeInfo,q,Builtin.lenOf,Builtin.firstCells,loadCells,loadCellsFrom]
  ·have hr:=run_append_nil (P:=P) w t ty e i z f q I x m s ys d A (by omega) (by omega) (by have c:=L; simp only [Nat.zero_add] at c; omega);have l:=H 0 (by omega) (Value.ownBlock (.slice none 0 0));simp only [Nat.zero_add,Jx,Array.empty_append] at l ⊢;exact ⟨_,_,hr,l.1,l.2,fun b c=>.inr (by simp [Value.ownBlock] at c; omega),World.ownsRow_nil _ 0 e i.size⟩
 ·by_cases hroom:n+m≤cap
  ·have W:n*i.size+ys.length≤o.size:=by rw [d,X,←Nat.add_mul]; exact JD _ hroom
   have hr:=run_append_room (P:=P) w t ty e i f q g n cap o F x m s ys d A h1 hroom W;refine ⟨_,_,hr,⟨p,.inr ⟨g,cap,_,rfl,Nat.zero_le _,setRow_heap w g o _ e _ F,hroom,r,?_,?_⟩⟩,⟨rfl,rfl,rfl,by simp,fun k _ D=>setRow_other w g k _ (fun e=>D (by simp [Value.ownBlock,e]))⟩,fun b c=>.inl (by simpa [Value.ownBlock] using c),⟨a.1,.inr ⟨g,cap,_,rfl,Nat.zero_le _,setRow_heap w g o _ e _ F,B,r,?_,?_⟩⟩⟩
   ·simp only [List.size_toArray,Jr,JG,JQ,Array.length_toList];omega
   ·rw [J,←p];exact List.take_left
   ·simp only [List.size_toArray,Jr,JG,JQ,Array.length_toList];omega
   ·rw [J,Jv,←a.1];exact List.take_left
  ·have holds:∀j u,xs[j]?=some u→w.cell? ((⟨g,0,none⟩:Addr).add j)=some u:=a.cells (g:=g) rfl;have hr:=run_append_grow (P:=P) w t ty e i z f q I ⟨g,0,none⟩ n cap xs a.1 holds x m s ys d A (by omega) (by omega) (growslice_fits (by omega) L);have l:=H cap (by omega) (Value.ownBlock (.slice (some ⟨g,0,none⟩) n cap));exact ⟨_,_,hr,l.1,l.2,fun b c=>.inr (by simp [Value.ownBlock] at c; omega),World.ownsRow.kept a (H cap (by omega) none).2 (.inr (by simp [Value.ownBlock]))⟩
end
section
variable {P:Program} {n:Fr} {Q:EPost} {E:Env} {w:World} {ops:Array Oper} {rest:List Oper} {d:Tmp} {ty:TypeId} {ps:String} {af:Array Edge} {g0 g:Hp} {w0:World} {L:List Res}
theorem jO {a b:Nat} (h:a*b≤140737488355328) (hb:0<b):a≤maxLen:=by
 have:=Nat.le_mul_of_pos_right a hb;simp only [maxLen]; omega
theorem bL {α:Type} {τ:Ty α} {T el:TypeId} {agg:Bool} {c:Nat} {z:Value} {x y:Operand} {v u:Value} {l m r:List α} {xs ys:List Value} {i:Nat}
 (F:P.underlying T=some (.slice el)) (t:dF P el agg τ.sz c z) (j:z.cells.size=τ.sz) (hsz:0<τ.sz) (B:0<c) (e:Sep g0 w0 g w L) (f:L[i]?=some (.row v el τ.sz l.length xs)) (hr:ag τ g xs l)
 (hx:ev E x=v) (hy:ev E y=u) (o:Dt w u m.length ys) (b:ag τ g ys m) (G:dz c l m=some r) (A:Nat.blt d n.sz=true)
 (k:∀a w' xs',ag τ g xs' r→Sep g0 w0 g w' (L.set i (.row a el τ.sz r.length xs'))→OW P n ops Q rest (bR E d a) w') :
 OW P n ops Q (⟨some d,.call { callee:=.builtin .append,args:=#[x,y],argTypes:=#[T,T] },ty,ps,af,none⟩::rest) E w:=by
 obtain ⟨rfl,h⟩:=nF G;obtain ⟨a,w',p,q,s,D,_⟩:=fB (P:=P) (w:=w) T ty el F t j hsz (e.at f).out o b.1 b.ones (jO h B) h;refine O (.inl ?_) A (k a w' (xs++ys) (hr.append b) (e.upd f s ⟨?_⟩ D))
 ·simp only [execOp,resolve,invoke,builtin,Sem.run_bind,Sem.run_pure,Jz,List.map_toArray,List.map_cons,List.map_nil,hx,hy,p]
 ·simp only [Res.okB,Jr]; exact q
theorem gL {α:Type} {τ:Ty α} {T el:TypeId} {agg:Bool} {p:Nat} {z:Value} {x y:Operand} {v u:Value} {l m r:List α} {xs ys:List Value} {i:Nat}
 (K:P.underlying T=some (.slice el)) (G:dF P el agg τ.sz p z) (t:z.cells.size=τ.sz) (hsz:0<τ.sz) (I:0<p) (h:Sep g0 w0 g w L) (a:L[i]?=some (.row v el τ.sz l.length xs)) (hr:ag τ g xs l)
 (hx:ev E x=v) (hy:ev E y=u) (A:Dt w u m.length ys) (o:ag τ g ys m) (N:dz p l m=some r) (H:Nat.blt d n.sz=true)
 (k:∀c w' xs',ag τ g xs' r→Sep g0 w0 g w' L→Sep g0 w0 g w' (L.set i (.row c el τ.sz r.length xs'))→OW P n ops Q rest (bR E d c) w') :
 OW P n ops Q (⟨some d,.call { callee:=.builtin .append,args:=#[x,y],argTypes:=#[T,T] },ty,ps,af,none⟩::rest) E w:=by
 obtain ⟨rfl,f⟩:=nF N;obtain ⟨c,w',B,D,s,J,F⟩:=fB (P:=P) (w:=w) T ty el K G t hsz (h.at a).out A o.1 o.ones (jO f I) f;have q:=h.upd (r':=.row v el τ.sz l.length xs) a s ⟨F⟩ (fun b f=>.inl f);have R:L.set i (.row v el τ.sz l.length xs)=L:=by
  apply List.ext_getElem?;intro j;rw [JM];split
  ·rename_i e; subst e;rw [a];have:=(Jo.1 a).1;simp [this]
  ·rfl
 rw [R] at q;refine O (.inl ?_) H (k c w' (xs++ys) (hr.append o) q (h.upd a s ⟨?_⟩ J))
 ·simp only [execOp,resolve,invoke,builtin,Sem.run_bind,Sem.run_pure,Jz,List.map_toArray,List.map_cons,List.map_nil,hx,hy,B]
 ·simp only [Res.okB,Jr]; exact D
theorem lK (z:Array Value) (m j:Nat) (hj:j<m):(madeCells z m)[j]?=some (z[j % z.size]!):=by simp [madeCells,hj]
theorem tO {α:Type} {τ:Ty α} {zc:List Value} {x:α} {m:Nat} (a:τ.rel g zc x):ag τ g (madeCells zc.toArray (m*τ.sz)).toList (List.replicate m x):=by
 have k:=τ.len a;refine ⟨by simp [size_madeCells],fun i y hy=>?_⟩;have c:i<m:=by have:=(Jo.1 hy).1; simpa using this
 have d:y=x:=by rw [List.getElem?_replicate] at hy; simp [c] at hy; exact hy.symm
 subst d;have e:((madeCells zc.toArray (m*τ.sz)).toList.drop (i*τ.sz)).take τ.sz=zc:=by
  apply List.ext_getElem?;intro j;rw [List.getElem?_take];split
  ·rename_i hj;have h:i*τ.sz+j<m*τ.sz:=by
    have:(i+1)*τ.sz≤m*τ.sz:=JD _ c;rw [Nat.succ_mul] at this; omega
   rw [List.getElem?_drop,Array.getElem?_toList,lK _ _ _ h];have f:(i*τ.sz+j) % τ.sz=j:=by rw [Nat.mul_comm,Nat.mul_add_mod]; exact Nat.mod_eq_of_lt hj
   have b:j<zc.length:=by omega
   simp only [List.size_toArray,k,f];rw [Jn b];simp [b]
  ·rename_i hj;rw [JH (by omega)]
 rw [e]; exact a
theorem eb {α:Type} {τ:Ty α} {T el:TypeId} {agg:Bool} {a:Nat} {z:Value} {zc:List Value} {zx:α} {x y:Operand} {k1 k2:IntKind} {q:Int} {r:List α}
 (B:P.underlying T=some (.slice el)) (u:dF P el agg τ.sz a z) (j:z.cells=zc.toArray) (h:τ.rel g zc zx) (G:0<a) (s:Sep g0 w0 g w L)
 (hx:ev E x=.int k1 q) (hy:ev E y=.int k2 q) (D:vS a q zx=some r) (v:Nat.blt d n.sz=true)
 (k:∀v' w' xs',ag τ g xs' r→Sep g0 w0 g w' (.row v' el τ.sz r.length xs'::L)→OW P n ops Q rest (bR E d v') w') :
 OW P n ops Q (⟨some d,.makeSlice T x y,ty,ps,af,none⟩::rest) E w:=by
 obtain ⟨rfl,f,e⟩:=zZ D;obtain ⟨i,t,l,m,A⟩:=u.info;have F:q≤140737488355328:=by
  have:q*1≤q*a:=Int.mul_le_mul_of_nonneg_left (by omega) f;omega
 have c:=run_make (P:=P) w T el i z B t l k1 k2 q q f (Int.le_refl _) (by rw [A,Int.mul_comm]; omega) (by omega);rw [m,j] at c;have p:=s.alloc (.cells (madeCells zc.toArray (q.toNat*τ.sz)) el);have o:=p.upd (i:=0) (r:=.obj w.heap.size (.cells (madeCells zc.toArray (q.toNat*τ.sz)) el)) (r':=.row (.slice (some ⟨w.heap.size,0,none⟩) q.toNat q.toNat) el τ.sz (List.replicate q.toNat zx).length (madeCells zc.toArray (q.toNat*τ.sz)).toList) rfl
  ⟨rfl,rfl,rfl,Nat.le_refl _,fun _ _ _=>rfl⟩ ⟨by
   simp only [Res.okB,List.length_replicate];refine ⟨by simp [size_madeCells],.inr ⟨w.heap.size,q.toNat,_,rfl,Nat.zero_le _,heap_alloc_new w _,Nat.le_refl _,by simp only [maxLen]; omega,size_madeCells _ _,?_⟩⟩;rw [JO (by simp [size_madeCells])]⟩ (fun b e=>.inl (by simpa [Res.blk,Value.ownBlock] using e))
 refine O (.inl ?_) v (k _ _ _ (tO h) o);simp [execOp,hx,hy,c]
theorem AF (size:Nat):∀(vs:List Value) (k:Nat) (pre old:List Value),(∀v∈vs,v.cells.size=size)→pre.length=k*size→old.length=vs.length*size→
 Instr.fill (fun i=>some (i*size,size)) (pre++old).toArray ((vs.zipIdx k).map fun p=>(p.2,p.1))=some (pre++vs.flatMap fun v=>v.cells.toList).toArray:=by
 intro vs;induction vs with
 | nil=>intro k pre old _ _ f; simp at f; subst f; simp [Instr.fill]
 | cons v vs ih=>
  intro k pre old j g f;have d:=j v (by simp);simp only [List.zipIdx_cons,List.map_cons,Instr.fill];have n:size≤old.length:=by rw [f]; simp [Nat.succ_mul]
  have s:k*size+v.cells.size≤(pre++old).toArray.size:=by simp [g,d]; omega
  rw [if_neg (by simp [d,g] at *; omega)];have e:v.cells.zipIdx.foldl (fun cs (x:Value×Nat)=>cs.setIfInBounds (k*size+x.2) x.1) (pre++old).toArray=((pre++v.cells.toList)++old.drop size).toArray:=by
   have key:∀(cs:List Value) (q:Nat) (b old:List Value),b.length=k*size+q→cs.length≤old.length→
    (cs.zipIdx q).foldl (fun a (x:Value×Nat)=>a.setIfInBounds (k*size+x.2) x.1) (b++old).toArray=(b++cs++old.drop cs.length).toArray:=by
    intro cs;induction cs with
    | nil=>intro q b old _ _; simp
    | cons c cs ihc=>
     intro q b old l h
     match old,h with
     | o::old,h=>
      simp only [List.zipIdx_cons,List.foldl_cons];have r:(b++o::old).toArray.setIfInBounds (k*size+q) c=((b++[c])++old).toArray:=by
       rw [←l];simp [List.setIfInBounds_toArray]
      rw [r,ihc (q+1) (b++[c]) old (by simp [l]; omega) (by simpa using h)];simp
   have:=key v.cells.toList 0 pre old (by simpa using g) (by simpa [d] using n);rw [←Array.foldl_toList,Array.toList_zipIdx];rw [this];simp [d]
  rw [e];have:=ih (k+1) (pre++v.cells.toList) (old.drop size) (fun u m=>j u (by simp [m])) (by simp [g,d,Nat.succ_mul]) (by simp [f,Nat.succ_mul]);rw [this];simp
def Dz {α:Type} (τ:Ty α) (g:Hp):List Value→List α→Prop
 | [],[]=>True
 | v::vs,x::l=>τ.rel g v.cells.toList x∧Dz τ g vs l
 | _,_=>False
theorem pd {α:Type} {τ:Ty α}:∀ {vs:List Value} {l:List α},Dz τ g vs l→ag τ g (vs.flatMap fun v=>v.cells.toList) l∧vs.length=l.length∧∀v∈vs,v.cells.size=τ.sz
 | [],[],_=>⟨ag.nil,rfl,by simp⟩
 | v::vs,x::l,h=>by
  obtain ⟨d,c,b⟩:=pd h.2;refine ⟨(ag.one h.1).append d,by simp [c],fun u a=>?_⟩;rcases JI.1 a with rfl|a
  ·have:=τ.len h.1; simpa using this
  ·exact b u a
 | [],_::_,h=>h.elim
 | _::_,[],h=>h.elim
theorem Dx {α:Type} {τ:Ty α} {T el:TypeId} {agg:Bool} {S:Nat} {z:Value} {a:Array (Nat×Operand)} {len:Nat} (vs:List Value) (l:List α)
 (N:P.underlying T=some (.slice el)) (m:dF P el agg τ.sz S z) (hsz:0<τ.sz) (y:Sep g0 w0 g w L) (G:len=l.length) (s:Nat.ble (len*τ.sz) 16777216=true)
 (D:(a.toList.map fun p=>(p.1,ev E p.2))=(vs.zipIdx 0).map fun p=>(p.2,p.1)) (H:Dz τ g vs l) (I:Nat.blt d n.sz=true)
 (k:∀v' w' xs',ag τ g xs' l→(∀j,Sep g0 w0 g w j→Sep g0 w0 g w' j)→Sep g0 w0 g w' (.row v' el τ.sz l.length xs'::L)→OW P n ops Q rest (bR E d v') w') :
 OW P n ops Q (⟨some d,.buildSlice T len a,ty,ps,af,none⟩::rest) E w:=by
 obtain ⟨c,q,o⟩:=pd H;have U:len*τ.sz≤16777216:=Nat.le_of_ble_eq_true s;subst G;have e:=AF τ.sz vs 0 [] (madeCells z.cells (l.length*τ.sz)).toList o (by simp) (by simp [size_madeCells,q]);simp only [Jx,Array.toArray_toList] at e;have u:=y.alloc (.cells (vs.flatMap fun v=>v.cells.toList).toArray el);have t:=u.upd (i:=0) (r:=.obj w.heap.size (.cells (vs.flatMap fun v=>v.cells.toList).toArray el)) (r':=.row (.slice (some ⟨w.heap.size,0,none⟩) l.length l.length) el τ.sz l.length (vs.flatMap fun v=>v.cells.toList)) rfl
  ⟨rfl,rfl,rfl,Nat.le_refl _,fun _ _ _=>rfl⟩ ⟨by
   simp only [Res.okB];refine ⟨c.1,.inr ⟨w.heap.size,l.length,_,rfl,Nat.zero_le _,heap_alloc_new w _,Nat.le_refl _,jO (b:=τ.sz) (by omega) hsz,by simpa using c.1,?_⟩⟩;rw [JO (Nat.le_of_eq c.1)]⟩ (fun b K=>.inl (by simpa [Res.blk,Value.ownBlock] using K))
 refine O (.inl ?_) I (k _ _ _ c (fun j R=>(R.alloc _).sub (.cons _ (List.Sublist.refl _))) t);have F:¬ (l.length*τ.sz > 2 ^ 24):=by omega
 have B:(a.map fun x=>(x.1,ev E x.2))=((vs.zipIdx 0).map fun p=>(p.2,p.1)).toArray:=by apply Array.ext'; rw [Array.toList_map,←D]
 have J:(Instr.buildSlice T l.length (((vs.zipIdx 0).map fun p=>(p.2,p.1)).toArray)).run P w=.ok (.slice (some ⟨w.heap.size,0,none⟩) l.length l.length) (w.alloc (.cells (vs.flatMap fun v=>v.cells.toList).toArray el)):=by
  unfold Instr.buildSlice;simp only [Sem.run_bind,run_underlying N,Jz,bX m,if_neg F]
  by_cases f:l.length*τ.sz=0
  ·rw [f] at e;simp only [f,if_true,Sem.run_bind,Sem.run_pure,Jz];have h:(Array.range 0).map (fun x=>(#[]:Array Value)[x % (#[]:Array Value).size]!)=madeCells z.cells 0:=by simp [madeCells]
   rw [h,e];simp [newRow]
  ·simp only [f,if_false,Sem.run_bind,dv m,Sem.run_pure,Jz];have h:(Array.range (l.length*τ.sz)).map (fun x=>z.cells[x % z.cells.size]!)=madeCells z.cells (l.length*τ.sz):=rfl;rw [h,e];simp [newRow]
 have A:(a.map fun (i,x)=>(i,ev E x))=((vs.zipIdx 0).map fun p=>(p.2,p.1)).toArray:=B;simp only [execOp,Sem.run_bind,A,J,Jz,Sem.run_pure]
theorem bA {α:Type} {τ:Ty α} {T el:TypeId} {agg:Bool} {t:Nat} {z:Value} {c:Array (Nat×Operand)} {len:Nat} (vs:List Value) (l:List α)
 (q:P.underlying T=some (.slice el)) (m:dF P el agg τ.sz t z) (hsz:0<τ.sz) (f:Sep g0 w0 g w L) (i:len=l.length) (e:Nat.ble (len*τ.sz) 16777216=true)
 (h:(c.toList.map fun p=>(p.1,ev E p.2))=(vs.zipIdx 0).map fun p=>(p.2,p.1)) (j:Dz τ g vs l) (o:Nat.blt d n.sz=true)
 (k:∀b w' a,ag τ g a l→Sep g0 w0 g w' (.row b el τ.sz l.length a::L)→OW P n ops Q rest (bR E d b) w') :
 OW P n ops Q (⟨some d,.buildSlice T len c,ty,ps,af,none⟩::rest) E w:=
 Dx vs l q m hsz f i e h j o fun b w' a s _ r=>k b w' a s r
theorem Sep.relRow {α:Type} {τ:Ty α} {l:List α} {i:Nat} {v:Value} {e:TypeId} {xs:List Value} (h:Sep g0 w0 g w L) (d:L[i]?=some (.row v e τ.sz l.length xs)) (hr:ag τ g xs l) :
 ∃g',be g g'∧cv τ g' v l∧Sep g0 w0 g' w (L.eraseIdx i):=by
 have m:=(h.at d).out;rcases m.2 with ⟨rfl,o⟩|⟨b,cap,q,rfl,_,p,n,_,r,f⟩
 ·have:l=[]:=JP o;subst this;exact ⟨g,be.refl g,cv.nil,h.sub (List.eraseIdx_sublist L i)⟩
 ·obtain ⟨k,c⟩:=h.release d (b:=b) rfl p;refine ⟨_,c,⟨xs,hr.mono c,.inr ⟨b,0,cap,q,e,(0,0),rfl,n,by simp [uE],fun j u a=>?_⟩⟩,k⟩;rw [←f,List.getElem?_take] at a;split at a
  ·simpa using a
  ·cases a
end
end Go.Lx
