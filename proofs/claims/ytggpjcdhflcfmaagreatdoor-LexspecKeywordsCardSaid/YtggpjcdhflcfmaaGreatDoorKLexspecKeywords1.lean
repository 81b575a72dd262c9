/- Part 1. -/
import Derived.WalkKit
import Derived.StillTailTactics
import Derived.Laws.AppendOwn
import Derived.Below
import Derived.TacticsIn
import Derived.OrdersIn
import Derived.LoopNIn
import Derived.RangeFuncRecord
import Derived.Laws.MakeOwn
import Derived.Laws.BytesString
import Derived.MapKept
import Derived.Laws.IdiomStrings
import Derived.OrdersHeld
import Derived.ProofKit
import Derived.OpenShut
import Derived.ShutString
import Derived.ChangeOld
import Derived.Deep.Slices
import Derived.WalkSpells
import Derived.Laws.Cover1
import Derived.Laws.Small
import Derived.Laws.CopyRow
import Derived.Laws.IdiomCopy
import Derived.Laws.Runes
import Derived.Laws.Strings2
import Derived.Laws.Slices
import Derived.Lib.LaidTab
import Derived.Lib.LaidU8
import Derived.RecoverIn
import Derived.RangeFuncLeaves
import Derived.Lib.ConvBytes
import Derived.WideShapes
import Derived.Shelf.SlIterI.Sorted
import Derived.Shelf.Spec.SlicesGrow
import Derived.Shelf.SortM.Plain
import Derived.Shelf.SortM.SortNone
import Derived.Shelf.Small.Bits
import Derived.Shelf.Small.Strs
import Derived.Shelf.Strconv.Itoa0
import Derived.Shelf.Strings.Search1
import Derived.Shelf.Sort.Plain
import Derived.Shelf.Slices.Clone
import Derived.Shelf.Slices.SearchI
import Derived.Shelf.Slices.In.SortNone
import Derived.Shelf.SlicesE.Clone
import Derived.Test.YtggpjcdhflcfmaaGreatDoorProg
import Derived.Test.YtggpjcdhflcfmaaGreatDoorRows
import Derived.Test.YtggpjcdhflcfmaaGreatDoorCards
import Derived.Test.YtggpjcdhflcfmaaGreatDoorTie
import Derived.SevenTiedAt
import Derived.ChangeVars
import Derived.LaidHandle
import Derived.Handed
import Derived.JoinedOf
set_option linter.unusedVariables false
set_option linter.unusedSimpArgs false
namespace Go
abbrev IP:=@List.getD_eq_getElem?_getD
abbrev IQ:=@List.getElem?_eq_getElem
abbrev IR:=@List.getElem?_eq_some_iff
abbrev IS:=@Option.bind_some
abbrev IT:=@List.length_singleton
abbrev IU:=@List.getElem_mem
abbrev IV:=@List.take_length
abbrev IW:=@List.length_append
abbrev IX:=@List.perm_append_comm_assoc
abbrev IY:=@List.mem_singleton
abbrev IZ:=@List.mem_append
abbrev Ja:=@List.append_assoc
abbrev Jb:=@List.take_succ_eq_append_getElem
abbrev Jc:=@List.getElem?_append_left
abbrev Jd:=@List.nil_append
abbrev Je:=@List.cons_append
abbrev Jf:=@Result.andThen_ok
abbrev Jg:=@List.length_map
abbrev Jh:=@List.map_append
abbrev Ji:=@List.mem_iff_getElem
abbrev Jj:=@Nat.mul_le_mul_right
abbrev Jk:=@Nat.mul_le_mul_left
abbrev Jl:=@Int.toNat_natCast
abbrev Jn:=@Int.eq_ofNat_of_zero_le
abbrev Jo:=@List.length_take
abbrev Jp:=@List.length_cons
abbrev Jq:=@List.length_replicate
abbrev Jr:=@List.getElem?_eq_none
abbrev Js:=@List.mem_cons
abbrev Jt:=@List.mem_map
abbrev Ju:=@List.mem_range
abbrev Jv:=@List.getElem?_append_right
abbrev Jw:=@List.length_range
abbrev Jx:=@List.getElem?_map
abbrev Jy:=@List.getElem?_set
abbrev Jz:=@List.length_set
abbrev JA:=@List.filter_congr
abbrev JB:=@List.mem_filter
abbrev JC:=@List.getElem_map
abbrev JD:=@List.range_succ
abbrev JE:=@List.drop_append
abbrev JF:=@List.map_map
abbrev JG:=@List.take_of_length_le
abbrev JH:=@List.drop_eq_nil_of_le
abbrev JI:=@Nat.mod_eq_of_lt
abbrev JJ:=@List.eq_nil_of_length_eq_zero
abbrev JK:=@List.length_drop
end Go
namespace Go.Lx
theorem Z.{u} {α : Sort u} {a : α} : a = a := rfl
open Go.RowKit
structure Env where
  s:Nat→Value
  ds:List Deferred
instance:CoeFun Env (fun _=>Nat→Value):=⟨Env.s⟩
def cz (E:Env) (k:Nat) (v:Value):Env:=⟨fun t=>bif Nat.beq t k then v else E.s t,E.ds⟩
def oX (E:Env):Option Tmp→Value→Env
 | some d,v=>cz E d v
 | none,_=>E
def ev (E:Env):Operand→Value
 | .tmp t=>E.s t
 | .const v=>v
 | .global g=>.pointer (some ⟨g,0,none⟩)
 | .func f=>.func (.func f) #[] #[]
theorem yU {E:Env} {k:Nat} {v:Value} (h:E k=v):cz E k v=E:=by
 cases E with
 | mk s ds=>
  simp only [cz,Env.mk.injEq,and_true]
  funext t
  cases hb:Nat.beq t k
  ·rfl
  ·have:=Nat.eq_of_beq_eq_true hb; subst this; exact h.symm
structure Fr where
  sz:Nat
  ro:Option Nat
abbrev Fz (n:Fr):Fence:={ fn:=fun _=>True,depth:=none,alive:=false,round:=n.ro }
structure fB (n:Fr) (E:Env) (a:Act):Prop where
  defers:a.defers=E.ds
  size:a.tmps.size=n.sz
  get:∀t,a.tmps.getD t undef=E t
theorem fB.eval {n:Fr} {E:Env} {a:Act} (h:fB n E a):a.eval=ev E:=by
 funext x
 cases x with
 | tmp t=>exact h.get t
 | _=>rfl
def lb (n:Fr):Option Tmp→Bool
 | some d=>Nat.blt d n.sz
 | none=>true
theorem fB.put {n:Fr} {E:Env} {a:Act} (h:fB n E a) {d:Option Tmp} (hd:lb n d=true) (v:Value):fB n (oX E d v) (a.put d v):=by
 cases d with
 | none=>exact h
 | some d=>
  have c:d<n.sz:=Nat.le_of_ble_eq_true hd;refine ⟨h.defers,by simp [Act.put,h.size],fun t=>?_⟩;simp only [Act.put,oX,cz];cases hb:Nat.beq t d
  ·have b:¬ d=t:=fun e=>by subst e; simp at hb
   have:=h.get t;simp only [cond_false,←this,Array.getD_eq_getD_getElem?,Array.getElem?_setIfInBounds_ne b]
  ·have:=Nat.eq_of_beq_eq_true hb;subst this;have hs:=h.size;simp [Array.getD_eq_getD_getElem?,hs,c]
theorem fB.same {n:Fr} {E:Env} {a:Act} {d:Option Tmp} {v:Value} (h:fB n E (a.put d v)):∃E',fB n E' a∧E.ds=E'.ds:=by
 refine ⟨⟨fun t=>a.tmps.getD t undef,a.defers⟩,⟨rfl,?_,fun t=>rfl⟩,?_⟩
 ·have:=h.size;cases d <;> simpa [Act.put] using this
 ·rw [←h.defers]; cases d <;> rfl
def mU (args:List Value):Env:=⟨fun t=>args.getD t undef,[]⟩
theorem lK (args:List Value) (n:Fr) (h:args.length≤n.sz):fB n (mU args) ⟨args.toArray++Array.replicate (n.sz - args.toArray.size) undef,[]⟩:=by
 refine ⟨rfl,by simp; omega,fun t=>?_⟩;simp only [mU,Array.getD_eq_getD_getElem?,IP]
 by_cases ht:t<args.length
 ·simp [Array.getElem?_append,ht]
 ·by_cases a:t - args.length<n.sz - args.length
  ·simp [Array.getElem?_append,ht,a]
  ·simp [Array.getElem?_append,ht,a]
abbrev EPost:=Exit→Env→World→Prop
def nC (n:Fr) (Q:EPost):Exit→Act→World→Prop:=fun e a w=>∃E,fB n E a∧Q e E w
def WP (P:Program) (n:Fr) (c:Code) (Q:EPost) (E:Env) (w:World):Prop:=
 ∀a,fB n E a→c.wpIn (Fz n) 0 P (nC n Q) a w
theorem mn {n:Fr} {m:Nat} {P:Program} {f:FuncId} {args:Array Value} {w:World} {R:Ending→World→Prop}:CallsIn (Fz n) m P f args w R↔Calls P f args w R:=
 callsIn_wide (n:=m)
class fJ (Q:EPost):Prop where
  ok:∀c E E' w,E.ds=E'.ds→Q (.panic c) E w→Q (.panic c) E' w
def sV (R:Env→World→Prop) (Q:EPost):EPost:=fun e E w=>match e with
 | .normal=>R E w
 | e=>Q e E w
def wK (id:Nat) (Q:EPost):EPost:=fun e E w=>match e with
 | .exit i=>if i=id then Q .normal E w else Q (.exit i) E w
 | e=>Q e E w
def DV (Q:EPost):EPost:=fun e E w=>match e with
 | .goto _=>False
 | e=>Q e E w
instance {Q:EPost} [h:fJ Q]:fJ (DV Q):=⟨h.ok⟩
instance {R:Env→World→Prop} {Q:EPost} [h:fJ Q]:fJ (sV R Q):=⟨h.ok⟩
instance {id:Nat} {Q:EPost} [h:fJ Q]:fJ (wK id Q):=⟨h.ok⟩
section
variable {P:Program} {n:Fr} {Q:EPost} {E:Env} {w:World}
theorem WP.mono {c:Code} {Q':EPost} (h:WP P n c Q E w) (hq:∀e E w,Q e E w→Q' e E w):WP P n c Q' E w:=
 fun a ha=>wpIn_mono (h a ha) fun e _ w ⟨E,f,q⟩=>⟨E,f,hq e E w q⟩
theorem ao (h:Q .normal E w):WP P n .skip Q E w:=fun _ ha=>wpIn_skip ⟨E,ha,h⟩
theorem aN {id:Nat} (h:Q (.exit id) E w):WP P n (.exit id) Q E w:=fun _ ha=>wpIn_exit ⟨E,ha,h⟩
theorem aD (h:Q .ret E w):WP P n .ret Q E w:=fun _ ha=>wpIn_ret ⟨E,ha,h⟩
theorem aw {x y:Code} (h:WP P n x (sV (WP P n y Q) Q) E w):WP P n (.seq x y) Q E w:=
 fun a ha=>wpIn_seq (wpIn_mono (h a ha) fun e a' w' hq=>by
  obtain ⟨E',f,q⟩:=hq;cases e with
  | normal=>exact q a' f
  | _=>exact ⟨E',f,q⟩)
theorem aA {x y:Code} (R:Env→World→Prop) (h:WP P n x (sV R Q) E w) (h2:∀E w,R E w→WP P n y Q E w):WP P n (.seq x y) Q E w:=
 aw (h.mono fun e E w q=>by
  cases e with
  | normal=>exact h2 E w q
  | _=>exact q)
theorem al {id:Nat} {c:Code} (h:WP P n c (wK id Q) E w):WP P n (.block id c) Q E w:=
 fun a ha=>wpIn_block (wpIn_mono (h a ha) fun e a' w' hq=>by
  obtain ⟨E',f,q⟩:=hq;cases e with
  | exit i=>
   simp only [wK] at q;simp only [Exit.inBlock];split
   ·rename_i hi; rw [if_pos hi] at q; exact ⟨E',f,q⟩
   ·rename_i hi; rw [if_neg hi] at q; exact ⟨E',f,q⟩
  | _=>exact ⟨E',f,q⟩)
theorem am {c:Operand} {x y:Code} {b:Bool} (hc:ev E c=.bool b) (hb:b=true) (h:WP P n x Q E w):WP P n (.cond c x y) Q E w:=
 fun a ha=>wpIn_cond (t:=true) (by rw [ha.eval,hc,hb]) (h a ha)
theorem ai {c:Operand} {x y:Code} {b:Bool} (hc:ev E c=.bool b) (hb:b=false) (h:WP P n y Q E w):WP P n (.cond c x y) Q E w:=
 fun a ha=>wpIn_cond (t:=false) (by rw [ha.eval,hc,hb]) (h a ha)
inductive cQ (σ ρ:Type) where
  | next (s:σ)
  | stop (r:ρ)
def ba {σ ρ:Type} (body:σ→Option (cQ σ ρ)):Nat→σ→Option ρ
 | 0,_=>none
 | k+1,s=>match body s with
  | some (.next s')=>ba body k s'
  | some (.stop r)=>some r
  | none=>none
def LQ {σ ρ:Type} (I:σ→Env→World→Prop) (r:ρ) (Q:EPost) (o:cQ σ ρ):EPost:=fun e E w=>match e with
 | .outgrown=>False
 | .normal=>(match o with
  | .next s=>I s E w
  | .stop _=>False)
 | e=>(match o with
  | .next _=>False
  | .stop r'=>r'=r→Q e E w)
instance {σ ρ:Type} {I:σ→Env→World→Prop} {r:ρ} {Q:EPost} {o:cQ σ ρ} [h:fJ Q]:fJ (LQ I r Q o):=⟨fun c E E' w hd q=>by
 cases o with
 | next s=>exact q
 | stop r'=>exact fun hr=>h.ok c E E' w hd (q hr)⟩
theorem aQ {σ ρ:Type} {c:Code} {b:σ→Option (cQ σ ρ)} (I:σ→Env→World→Prop) {k:Nat} {s:σ} {r:ρ} (hM:ba b k s=some r) (g:I s E w)
 (round:∀s o E w,b s=some o→I s E w→WP P n c (LQ I r Q o) E w):WP P n (.loop c) Q E w:=by
 intro a ha;refine wpIn_loop_rounds k ?_;induction k generalizing s E w a with
 | zero=>simp [ba] at hM
 | succ k ih=>
  rw [roundsIn_succ];simp only [ba] at hM;cases hb:b s with
  | none=>rw [hb] at hM; simp at hM
  | some o=>
   rw [hb] at hM;refine wpIn_mono (round s o E w hb g a ha) ?_;rintro e h w' ⟨E',d,q⟩;cases o with
   | next s'=>cases e <;> first|exact ih hM q h d|exact q.elim
   | stop r'=>
    have f:r'=r:=by simpa using hM
    cases e <;> first|exact q.elim|exact ⟨E',d,q f⟩
def OW (P:Program) (n:Fr) (ops:Array Oper) (Q:EPost) (l:List Oper) (E:Env) (w:World):Prop:=
 ∀a,fB n E a→wpListIn (Fz n) 0 P ops (nC n Q) l a w
structure cy (P:Program) (E:Env) (o:Oper) (w:World) (v:Value) (w':World):Prop where
  inl::
  out:(execOp (ev E) o).run P w=.ok (.value v) w'
structure Ay (P:Program) (E:Env) (o:Oper) (w:World) (w':World):Prop where
  inl::
  out:(execOp (ev E) o).run P w=.ok .skip w'
theorem zw {ρ:Operand→Value} {o:Oper} {r:Next} {w':World} (h:(execOp ρ o).run P w=.ok r w') (b:∀d,r≠.defer d):∀c,o.op≠.defer c:=by
 intro c e;unfold execOp at h;rw [e] at h;simp only [Sem.run_bind] at h;cases hx:(resolve ρ c o.type).run P w with
 | ok d a=>rw [hx] at h; simp only [Jf,Sem.run_pure,Result.ok.injEq] at h; exact b d h.1.symm
 | halt x a=>rw [hx] at h; cases h
theorem fS {ro:Option Nat} {ρ:Operand→Value} {o:Oper} {r:Next} {w':World} (h:(execOp ρ o).run P w=.ok r w') (hr:∀d,r≠.defer d):(o.semAt ro ρ).run P w=.ok r w':=by
 rw [Oper.semAt_eq _ _ _ (zw h hr)]; exact h
theorem ag {id:Nat} {l:List Oper} (h:OW P n l.toArray Q l E w):WP P n (.region id l.toArray false) Q E w:=
 fun a ha=>wpIn_region_lit (h a ha)
theorem aa {ops:Array Oper} (h:Q .normal E w):OW P n ops Q [] E w:=fun _ ha=>⟨E,ha,h⟩
theorem gX {o:Oper} {y:Nat→Option Bool} (hg:o.guard=none):Region.wanted o y=true:=by simp [Region.wanted,hg]
theorem qK {o:Oper} {v:Value} {w':World} {a:Act} {K:Act→World→Prop} {Q:Exit→Act→World→Prop} (ha:fB n E a) (hr:(execOp (ev E) o).run P w=.ok (.value v) w') (hk:K (a.put o.dst v) w'):o.wpIn (Fz n) 0 P a w K Q:=by
 refine ⟨fun _ _=>trivial,?_⟩;rw [ha.eval,fS hr (by simp)];exact hk
theorem mB {o:Oper} {f:FuncId} {args:Array Value} {w':World} {a:Act} {K:Act→World→Prop} {Q:Exit→Act→World→Prop} (ha:fB n E a) (d:(execOp (ev E) o).run P w=.ok (.enter f args) w')
 (g:Calls P f args w' (fun e b=>match e with|.returned v=>K (a.put o.dst v) b|.panicked c=>Q (.panic c) a b|.outgrown=>False)):o.wpIn (Fz n) 0 P a w K Q:=by
 refine ⟨fun _ _=>trivial,?_⟩;rw [ha.eval,fS d (by simp)];refine ⟨fun h=>(by cases h),mn.2 (g.mono fun e b h=>?_)⟩;cases e with
 | outgrown=>exact h.elim
 | _=>exact h
theorem vo {ops:Array Oper} {o:Oper} {rest:List Oper} {v:Value} {w':World} (hr:cy P E o w v w') (hd:lb n o.dst=true) (hg:o.guard=none)
 (k:OW P n ops Q rest (oX E o.dst v) w'):OW P n ops Q (o::rest) E w:=by
 intro a ha;exact wpListIn_plain hg fun K hK=>qK ha hr.out (hK _ _ (k _ (ha.put hd v)))
theorem wE {ops:Array Oper} {o:Oper} {rest:List Oper} {w':World} (hr:Ay P E o w w') (hd:o.dst=none) (hg:o.guard=none)
 (k:OW P n ops Q rest E w'):OW P n ops Q (o::rest) E w:=by
 intro a ha;refine wpListIn_plain hg fun K hK=>⟨fun _ _=>trivial,?_⟩
 have hk:=hK _ _ (k _ ha);rw [ha.eval,fS hr.out (by simp)];show K (a.put o.dst undef) w';rw [hd];exact hk
theorem fO {ops:Array Oper} {a:Act} (ha:fB n E a) {j:Nat} {c:Oper} {d:Tmp} {b:Bool} (e:ops[j]?=some c) (hd:c.dst=some d) (hb:E d=.bool b):yielded ops a.tmps j=some b:=by
 have:=ha.get d;rw [hb,Array.getD_eq_getD_getElem?] at this;unfold yielded;simp only [e,IS,hd];cases hx:a.tmps[d]? with
 | none=>rw [hx] at this; simp [undef] at this
 | some x=>rw [hx] at this; simp at this; subst this; rfl
theorem Cw {ops:Array Oper} {o:Oper} {rest:List Oper} {j:Nat} {c:Bool} {e:Oper} {d:Tmp} {b:Bool} (i:o.guard=some (j,c)) (g:ops[j]?=some e) (l:e.dst=some d)
 (hb:ev E (.tmp d)=.bool b) (f:(b == c)=false) (hd:lb n o.dst=true) (k:OW P n ops Q rest (oX E o.dst undef) w):OW P n ops Q (o::rest) E w:=by
 intro a ha;refine wpListIn_step fun K m=>?_
 have hy:=fO ha g l hb;rw [if_neg (by simp only [Region.wanted,i,hy]; intro h; simp at h; simp [h] at f)];exact ⟨fun _ _=>trivial,m _ _ (k _ (ha.put hd undef))⟩
theorem Cv {ops:Array Oper} {o:Oper} {rest:List Oper} {j:Nat} {c:Bool} {e:Oper} {d:Tmp} {b:Bool} {v:Value} {w':World} (i:o.guard=some (j,c)) (h:ops[j]?=some e) (l:e.dst=some d)
 (hb:ev E (.tmp d)=.bool b) (g:(b == c)=true) (f:cy P E o w v w') (hd:lb n o.dst=true) (k:OW P n ops Q rest (oX E o.dst v) w'):OW P n ops Q (o::rest) E w:=by
 intro a ha;refine wpListIn_step fun K m=>?_
 have hy:=fO ha h l hb;rw [if_pos (by simp only [Region.wanted,i,hy]; simpa using g)];exact qK ha f.out (m _ _ (k _ (ha.put hd v)))
def aU (P:Program) (f:FuncId) (args:Array Value) (w:World) (R:Value→World→Prop):Prop:=
 Calls P f args w fun e w'=>∃v,e=.returned v∧R v w'
theorem xN {ops:Array Oper} {o:Oper} {rest:List Oper} {f:FuncId} {args:Array Value} {R:Value→World→Prop}
 (b:(execOp (ev E) o).run P w=.ok (.enter f args) w) (hd:lb n o.dst=true) (c:o.guard=none) (g:aU P f args w R)
 (k:∀v w',R v w'→OW P n ops Q rest (oX E o.dst v) w'):OW P n ops Q (o::rest) E w:=by
 intro a ha;refine wpListIn_plain c fun K h=>mB ha b (g.mono fun e w' ⟨v,d,hR⟩=>?_)
 subst d;exact h _ _ (k v w' hR _ (ha.put hd v))
theorem vq {ops:Array Oper} {o:Oper} {rest:List Oper} {f:FuncId} {args:Array Value} {R:Value→World→Prop} {j:Nat} {c:Bool} {g:Oper} {d:Tmp} {b:Bool}
 (m:o.guard=some (j,c)) (l:ops[j]?=some g) (q:g.dst=some d) (hb:ev E (.tmp d)=.bool b) (i:(b == c)=true)
 (h:(execOp (ev E) o).run P w=.ok (.enter f args) w) (hd:lb n o.dst=true) (r:aU P f args w R)
 (k:∀v w',R v w'→OW P n ops Q rest (oX E o.dst v) w'):OW P n ops Q (o::rest) E w:=by
 intro a ha;refine wpListIn_step fun K s=>?_
 have hy:=fO ha l q hb;rw [if_pos (by simp only [Region.wanted,m,hy]; simpa using i)];refine mB ha h (r.mono fun e w' ⟨v,p,hR⟩=>?_);subst p;exact s _ _ (k v w' hR _ (ha.put hd v))
def SW (P:Program) (n:Fr) (ops:Array Oper) (w:World) (Q:Env→Prop) (l:List Oper) (E:Env):Prop:=
 ∀a,fB n E a→wpStill P ops w (fun a'=>∃E',fB n E' a'∧Q E') l a
theorem cO {ops:Array Oper} {Q:Env→Prop} (h:Q E):SW P n ops w Q [] E:=fun _ ha=>⟨E,ha,h⟩
theorem FD {ops:Array Oper} {Q:Env→Prop} {o:Oper} {rest:List Oper} {v:Value} (hr:cy P E o w v w) (hd:lb n o.dst=true) (hg:o.guard=none)
 (k:SW P n ops w Q rest (oX E o.dst v)):SW P n ops w Q (o::rest) E:=by
 intro a ha;unfold wpStill;rw [if_pos (gX hg)];have hk:=k _ (ha.put hd v);unfold Oper.still;rw [ha.eval];rw [hr.out,Oper.stillUpon_value]; exact hk
theorem Ct {ops:Array Oper} {Q:Env→Prop} {o:Oper} {rest:List Oper} {j:Nat} {c:Bool} {e:Oper} {d:Tmp} {b:Bool} (i:o.guard=some (j,c)) (g:ops[j]?=some e) (l:e.dst=some d)
 (hb:ev E (.tmp d)=.bool b) (f:(b == c)=false) (hd:lb n o.dst=true) (k:SW P n ops w Q rest (oX E o.dst undef)):SW P n ops w Q (o::rest) E:=by
 intro a ha;have hy:=fO ha g l hb;unfold wpStill;rw [if_neg (by simp only [Region.wanted,i,hy]; intro h; simp at h; simp [h] at f)];exact k _ (ha.put hd undef)
theorem Cs {ops:Array Oper} {Q:Env→Prop} {o:Oper} {rest:List Oper} {j:Nat} {c:Bool} {e:Oper} {d:Tmp} {b:Bool} {v:Value} (l:o.guard=some (j,c)) (i:ops[j]?=some e) (m:e.dst=some d)
 (hb:ev E (.tmp d)=.bool b) (g:(b == c)=true) (f:cy P E o w v w) (hd:lb n o.dst=true) (k:SW P n ops w Q rest (oX E o.dst v)):SW P n ops w Q (o::rest) E:=by
 intro a ha;have hy:=fO ha i m hb;unfold wpStill;rw [if_pos (by simp only [Region.wanted,l,hy]; simpa using g)];have h:=k _ (ha.put hd v);unfold Oper.still;rw [ha.eval];rw [f.out,Oper.stillUpon_value]; exact h
theorem mx {ops:Array Oper} {Q Q':Act→Prop} (hq:∀a,Q a→Q' a):∀(l:List Oper) (a:Act),wpStill P ops w Q l a→wpStill P ops w Q' l a
 | [],a,h=>hq a h
 | o::l,a,h=>by
  unfold wpStill at *;split
  ·rename_i hw; rw [if_pos hw] at h; exact Oper.still_mono (fun a' h'=>mx hq l a' h') h
  ·rename_i hw; rw [if_neg hw] at h; exact mx hq l _ h
theorem nv {ops:Array Oper} {i:Nat} {a:Act} {K:Act→Prop} {K':Act→World→Prop} {Q':Exit→Act→World→Prop} (h:∀a,K a→K' a w) (hh:stOp P ops w i K a):wpOpIn (Fz n) 0 P ops Q' i K' a w:=by
 unfold stOp at hh;unfold wpOpIn;split
 ·rename_i ho; simp only [ho] at hh; exact h _ hh
 ·rename_i o ho;simp only [ho] at hh;split
  ·rename_i hw;simp only [hw,if_true] at hh;unfold Oper.still at hh;refine ⟨fun _ _=>trivial,?_⟩;cases hr:(execOp a.eval o).run P w with
   | halt x b=>rw [hr] at hh; exact hh.elim
   | ok r b=>
    rw [hr] at hh;cases r with
    | value v=>rw [fS hr (by simp)]; obtain ⟨rfl,hh⟩:=hh; exact h _ hh
    | skip=>rw [fS hr (by simp)]; obtain ⟨rfl,hh⟩:=hh; exact h _ hh
    | enter f args=>
     rw [fS hr (by simp)];obtain ⟨rfl,v,d,hh⟩:=hh;refine ⟨fun h=>(by cases h),mn.2 (d.mono fun e g c=>?_)⟩;obtain ⟨rfl,rfl⟩:=c;exact h _ hh
    | _=>exact hh.elim
  ·rename_i hw; simp only [hw] at hh; exact ⟨fun _ _=>trivial,h _ hh⟩
theorem lh {ops:Array Oper} {Q:Act→Prop} {Q':Exit→Act→World→Prop} (hQ:∀a,Q a→Q' .normal a w):∀(aZ:Nat) (listed:Array Bool) (a:Act),
 wpAnyS P .any ops w Q aZ listed a→wpAnyIn (Fz n) 0 P .any ops Q' aZ listed a w
 | 0,_,_,h=>⟨h.1,hQ _ h.2⟩
 | aZ+1,_,_,h=>⟨fun h0=>hQ _ (h.1 h0),fun i hi=>nv (fun a'=>lh hQ aZ _ a') (h.2 i hi)⟩
theorem mq {ops:Array Oper} {m g:Nat} {L:Array Bool→Act→Prop} {Q':Exit→Act→World→Prop} (c:∀b a,L b a→wpAnyIn (Fz n) 0 P .any ops Q' g b a w) :
 ∀(f:Nat) (b:Array Bool) (a:Act),wpAnyL P .any ops w m L f b a→wpAnyIn (Fz n) 0 P .any ops Q' (f+g) b a w
 | 0,b,a,h=>by rw [Nat.zero_add]; exact c _ _ h
 | f+1,b,a,h=>by
  rw [show f+1+g=(f+g)+1 by omega];exact ⟨fun e=>absurd e h.1,fun i d=>nv (fun k j=>mq c f _ k j) (h.2 i d).2⟩
theorem nN {ops:Array Oper} {Q':Exit→Act→World→Prop}:∀(l:List Oper) (k:Nat) (b:Array Bool) (a:Act) (w:World),(∀j,l[j]?=ops[k+j]?)→
 Region.seqB .any ops l.length k b=true→wpListIn (Fz n) 0 P ops Q' l a w→wpAnyIn (Fz n) 0 P .any ops Q' l.length b a w
 | [],_,_,_,_,_,hB,h=>⟨by simpa [Region.seqB] using hB,h⟩
 | o::l,k,b,a,w,hl,hB,h=>by
  have g:ops[k]?=some o:=by simpa using (hl 0).symm
  simp only [Jp,Region.seqB,Bool.and_eq_true,decide_eq_true_eq] at hB;refine ⟨fun d=>(by rw [hB.1] at d; cases d),fun i c=>?_⟩;rw [hB.1] at c;have f:i=k:=by simpa using c
  subst f;have e:wpOpIn (Fz n) 0 P ops Q' i (wpListIn (Fz n) 0 P ops Q' l) a w:=by unfold wpOpIn; simp only [g]; exact h
  exact wpOpIn_mono (fun p w' m=>nN l (i+1) _ p w' (fun j=>by have:=hl (j+1); simpa [Nat.add_assoc,Nat.add_comm 1 j] using this) hB.2 m) e
theorem dN {b:Nat} {l:List Oper} (c:P.follows .mixedOrders=true) (hB:Region.lexB .any l.toArray=true)
 (h:SW P n l.toArray w.drew (fun E'=>Q .normal E' w.drew) l E):WP P n (.region b l.toArray true) Q E w:=by
 intro a ha;simp only [Region.lexB,Bool.and_eq_true] at hB;refine wpIn_region_any c (lh (w:=w.drew) (Q:=fun d=>nC n Q .normal d w.drew) (fun _ h=>h) _ _ _ ?_);have:=wpAnyS_lex (md:=.any) hB.1 l.toArray.toList 0 (Array.replicate l.toArray.size false) a (by simp) (by simpa using hB.2) (by simpa using h a ha);simpa [nC] using this
theorem dH {p:Nat} {l:List Oper} (m:Nat) (u:P.follows .mixedOrders=true) (hB:Region.lexTailB .any l.toArray m=true)
 (h:SW P n l.toArray w.drew (fun E'=>OW P n l.toArray Q (l.drop m) E' w.drew) (l.take m) E):WP P n (.region p l.toArray true) Q E w:=by
 intro a ha;have h:=mx (fun c ⟨_,f,q⟩=>q c f) _ _ (h a ha);simp only [Region.lexTailB,Bool.and_eq_true,decide_eq_true_eq] at hB;obtain ⟨⟨⟨⟨s,hn⟩,hs⟩,y⟩,v⟩:=hB;have A:m<l.length:=by simpa using hn
 have b:(l.take m).length=m:=by simp; omega
 have e:(l.drop m).length=l.toArray.size - m:=by simp
 have o:HeadInv .any l.toArray m (Array.replicate l.toArray.size false):=
  ⟨by simp,fun j z _ hl=>(by rw [getD_replicate_false] at hl; cases hl),fun t _ r=>getD_in (by simpa using r) (getD_replicate_false _ _)⟩
 have H:=wpAnyL_lex (md:=.any) (g:=l.toArray.size - m) s hs y hn (l.take m) 0 _ a (fun j d=>by
  have x:j<m:=by rw [b] at d; exact d
  simp [x]) (by simpa using b) o (by rw [b]; exact v) h
 refine wpIn_region_any u ?_;have:=mq (n:=n) (Q':=nC n Q) (g:=l.toArray.size - m) (fun k c i=>by
  have:=nN (n:=n) (Q':=nC n Q) (l.drop m) m k c w.drew (fun j=>by simp [List.getElem?_drop]) (by rw [e]; exact i.1) i.2
  rwa [e] at this) _ _ _ H
 rw [b,show m+(l.toArray.size - m)=l.toArray.size by omega] at this;exact this
def nQ (P:Program) (fn:Func) (n:Fr) (E:Env) (w:World) (v:Value):Prop:=∀a,fB n E a→(results fn a.tmps).run P w=.ok v w
def FL (P:Program) (fn:Func) (n:Fr) (E:Env) (R:Value→World→Prop):List Deferred→World→Prop
 | [],w=>∃v,nQ P fn n E w v∧R v w
 | d::ds,w=>∃D w',d={ target:=.collected D,args:=#[] }∧(Instr.takeDeferred D).run P w=.ok [] w'∧FL P fn n E R ds w'
def FQ (P:Program) (fn:Func) (n:Fr) (R:Value→World→Prop):EPost:=fun e E w=>match e with
 | .normal|.ret=>FL P fn n E R E.ds w
 | _=>False
instance {P:Program} {fn:Func} {n:Fr} {R:Value→World→Prop}:fJ (FQ P fn n R):=⟨fun _ _ _ _ _ q=>q⟩
theorem aC {fn:Func} {R:Value→World→Prop} {ds:List Deferred} (hd:ds=[]) (h:∃v,nQ P fn n E w v∧R v w):FL P fn n E R ds w:=by subst hd; exact h
theorem oC {fn:Func} {R:Value→World→Prop} {a:Act} (ha:fB n E a):∀(ds:List Deferred) (w:World),FL P fn n E R ds w→LeavesInM (Fz n) 0 P fn a.tmps (fun e w'=>∃v,e=.returned v∧R v w') ds .returning w
 | [],_,⟨v,hr,hR⟩=>⟨v,hr a ha,v,rfl,hR⟩
 | _::ds,_,⟨D,w',hd,ht,h⟩=>⟨by simp,.inl ⟨D,w',by rw [hd],ht,oC ha ds w' h⟩⟩
theorem ax {f:FuncId} {fn:Func} {c:Code} {m:Nat} {args:List Value} {R:Value→World→Prop} (hf:P.funcs[f]?=some fn) (hb:fn.body=some c) (hn:fn.ntmps=m) (hl:Nat.ble args.length m=true)
 (h:WP P ⟨m,none⟩ c (FQ P fn ⟨m,none⟩ R) (mU args) w):aU P f args.toArray w R:=by
 subst hn;refine callsIn_wide (n:=0) |>.1 (callsIn_of_wp_marks (F:=Fz ⟨fn.ntmps,none⟩) hf hb trivial ?_);refine wpIn_mono (h _ (lK args _ (Nat.le_of_ble_eq_true hl))) ?_;rintro e a w ⟨E,b,q⟩;cases e <;> first
  | exact q.elim
  | (show LeavesInM _ _ _ _ _ _ a.defers _ _; rw [b.defers]; exact oC b E.ds w q)
end
theorem gK {P:Program} {fn:Func} {n:Fr} {E:Env} {w:World} (h:fn.results=#[]):nQ P fn n E w (.tuple #[]):=fun a _=>results_none h a.tmps P w
theorem ab {α β:Type} {o:Option α} {f:α→Option β} {r:β} (h:o.bind f=some r):∃a,o=some a∧f a=some r:=Option.bind_eq_some_iff.1 h
theorem aq {α:Type} {c:Bool} {x y:Option α} {r:α} (h:(bif c then x else y)=some r):(c=true∧x=some r)∨(c=false∧y=some r):=by cases c <;> simp_all
abbrev Hp:=Nat→Option Obj
def cY (g:Hp) (w:World):Prop:=∀b o,g b=some o→w.heap[b]?=some o
def bc (g g':Hp):Prop:=∀b o,g b=some o→g' b=some o
theorem bc.refl (g:Hp):bc g g:=fun _ _ h=>h
theorem bc.trans {g g' g'':Hp} (h:bc g g') (h':bc g' g''):bc g g'':=fun b o x=>h' b o (h b o x)
theorem cY.lt {g:Hp} {w:World} (h:cY g w) {b:Nat} {o:Obj} (hb:g b=some o):b<w.heap.size:=(Array.getElem?_eq_some_iff.1 (h b o hb)).1
structure dx (g:Hp) (w:World) (g':Hp) (w':World):Prop where
  below:Below w.heap.size w w'
  old:∀b,b<w.heap.size→g' b=g b
  imm:cY g' w'
theorem dx.le {g g':Hp} {w w':World} (h:dx g w g' w') (hi:cY g w):bc g g':=fun b o hb=>by rw [h.old b (hi.lt hb)]; exact hb
theorem dx.refl {g:Hp} {w:World} (h:cY g w):dx g w g w:=⟨Below.refl _ _,fun _ _=>rfl,h⟩
theorem dx.drew {g g':Hp} {w w':World} (h:dx g w g' w'):dx g w g' w'.drew:=⟨h.below.drew,h.old,h.imm⟩
inductive Res where
  | obj (b:Nat) (o:Obj)
  | row (v:Value) (e:TypeId) (sz n:Nat) (xs:List Value)
abbrev tH (b:Nat) (T:TypeId) (cs:List Value):Res:=.obj b (.cells cs.toArray T (0,0))
def Res.blk:Res→Option Nat
 | .obj b _=>some b
 | .row v _ _ _ _=>v.ownBlock
def Res.okB (w:World):Res→Prop
 | .obj b o=>w.heap[b]?=some o
 | .row v e sz n xs=>w.ownsRow 0 e sz v n xs
structure Res.ok (w:World) (r:Res):Prop where
  out:r.okB w
theorem Res.lt {w:World} {r:Res} (h:r.ok w) {b:Nat} (hb:r.blk=some b):b<w.heap.size:=by
 have h:=h.out;cases r with
 | obj b' o=>simp [Res.blk] at hb; subst hb; exact (Array.getElem?_eq_some_iff.1 h).1
 | row v e sz n xs=>exact (World.ownsRow.lt h b hb).2
theorem Res.ok.kept {w w':World} {r:Res} (h:r.ok w) {row:Option Nat} (hg:w.grownBy w' row) (hne:r.blk=none∨r.blk≠row):r.ok w':=by
 have h:=h.out;refine ⟨?_⟩;cases r with
 | obj b o=>
  simp only [Res.okB] at *;rw [hg.block b (Array.getElem?_eq_some_iff.1 h).1 (by simpa [Res.blk] using hne)];exact h
 | row v e sz n xs=>exact World.ownsRow.kept h hg hne
structure Sep (g0:Hp) (w0:World) (g:Hp) (w:World) (L:List Res):Prop where
  ext:dx g0 w0 g w
  ok:∀r∈L,r.ok w
  fresh:∀r∈L,∀b,r.blk=some b→w0.heap.size≤b∧g b=none
  apart:L.Pairwise fun r s=>∀b,r.blk=some b→s.blk≠some b
section
variable {g0 g:Hp} {w0 w:World} {L:List Res}
theorem Sep.start (h:cY g0 w0):Sep g0 w0 g0 w0 []:=⟨dx.refl h,by simp,by simp,List.Pairwise.nil⟩
theorem Sep.imm (h:Sep g0 w0 g w L):cY g w:=h.ext.imm
theorem Sep.none_at (h:Sep g0 w0 g w L) {b:Nat} (hb:w.heap.size≤b):g b=none:=by
 cases hg:g b with
 | none=>rfl
 | some o=>have:=h.imm.lt hg; omega
theorem Sep.drew (h:Sep g0 w0 g w L):Sep g0 w0 g w.drew L:=
 ⟨h.ext.drew,fun r hr=>(h.ok r hr).kept (row:=none) ⟨rfl,rfl,rfl,Nat.le_refl _,fun _ _ _=>rfl⟩ (by cases r.blk <;> simp),h.fresh,h.apart⟩
theorem Sep.alloc (h:Sep g0 w0 g w L) (o:Obj):Sep g0 w0 g (w.alloc o) (.obj w.heap.size o::L):=by
 have hs:=h.ext.below.size;refine ⟨⟨h.ext.below.alloc hs o,h.ext.old,fun b c hb=>?_⟩,?_,?_,?_⟩
 ·rw [Below.heap_alloc _ _ _ (h.imm.lt hb)]; exact h.imm b c hb
 ·intro r a;rcases Js.1 a with rfl|a
  ·exact ⟨heap_alloc_new w o⟩
  ·exact (h.ok r a).kept (World.grownBy_alloc w o none) (by cases r.blk <;> simp)
 ·intro r a b hb;rcases Js.1 a with rfl|a
  ·simp [Res.blk] at hb; subst hb; exact ⟨hs,h.none_at (Nat.le_refl _)⟩
  ·exact h.fresh r a b hb
 ·refine List.Pairwise.cons ?_ h.apart;intro s e b hb d;simp [Res.blk] at hb;subst hb;have:=Res.lt (h.ok s e) d;omega
theorem Sep.nilRow (h:Sep g0 w0 g w L) (e:TypeId) (sz:Nat):Sep g0 w0 g w (.row (.slice none 0 0) e sz 0 []::L):=by
 refine ⟨h.ext,?_,?_,?_⟩
 ·intro r a;rcases Js.1 a with rfl|a
  ·exact ⟨⟨by simp,.inl ⟨rfl,rfl⟩⟩⟩
  ·exact h.ok r a
 ·intro r a b hb;rcases Js.1 a with rfl|a
  ·simp [Res.blk,Value.ownBlock] at hb
  ·exact h.fresh r a b hb
 ·exact List.Pairwise.cons (by intro s _ b hb; simp [Res.blk,Value.ownBlock] at hb) h.apart
theorem Sep.at (h:Sep g0 w0 g w L) {i:Nat} {r:Res} (hi:L[i]?=some r):r.ok w:=h.ok r (List.mem_of_getElem? hi)
theorem Sep.upd (h:Sep g0 w0 g w L) {i:Nat} {r r':Res} (t:L[i]?=some r) {w':World} (n:w.grownBy w' r.blk) (G:r'.ok w')
 (hb:∀b,r'.blk=some b→r.blk=some b∨w.heap.size≤b):Sep g0 w0 g w' (L.set i r'):=by
 have y:=List.mem_of_getElem? t;have u:=h.fresh r y;have J:∀b,r.blk=some b→b<w.heap.size:=fun b hb=>Res.lt (h.ok r y) hb
 have hs:=h.ext.below.size;have q:i<L.length:=(IR.1 t).1;have v:∀(j:Nat) (s:Res),j≠i→L[j]?=some s→∀b,s.blk=some b→r.blk≠some b:=by
  intro j s I a b hb x;obtain ⟨d,a⟩:=IR.1 a;obtain ⟨q,D⟩:=IR.1 t;have hp:=(List.pairwise_iff_getElem.1 h.apart);rcases Nat.lt_or_gt_of_ne I with hlt'|hlt'
  ·exact hp j i d q hlt' b (by rw [a]; exact hb) (by rw [D]; exact x)
  ·exact hp i j q d hlt' b (by rw [D]; exact x) (by rw [a]; exact hb)
 refine ⟨⟨h.ext.below.trans ⟨n.os,n.tape,n.output,n.size,fun k B=>n.block k (by omega) (fun e=>?_)⟩,h.ext.old,fun b o hb=>?_⟩,?_,?_,?_⟩
 ·have:=(u k e.symm).1; omega
 ·rw [n.block b (h.imm.lt hb) (fun e=>by rw [(u b e.symm).2] at hb; cases hb)]; exact h.imm b o hb
 ·intro s p;obtain ⟨j,a,c⟩:=Ji.1 p;rw [List.getElem_set] at c;split at c
  ·subst c; exact G
  ·rename_i hne;have d:j<L.length:=by simpa using a
   have m:L[j]?=some s:=by rw [IQ d,c]
   refine (h.ok s (List.mem_of_getElem? m)).kept n ?_;cases hsb:s.blk with
   | none=>exact .inl rfl
   | some b=>exact .inr (fun e=>v j s (Ne.symm hne) m b hsb e.symm)
 ·intro s p b F;obtain ⟨j,a,c⟩:=Ji.1 p;rw [List.getElem_set] at c;split at c
  ·subst c;rcases hb b F with hb|hb
   ·exact u b hb
   ·exact ⟨by omega,h.none_at hb⟩
  ·have d:j<L.length:=by simpa using a
   have m:L[j]?=some s:=by rw [IQ d,c]
   exact h.fresh s (List.mem_of_getElem? m) b F
 ·rw [List.pairwise_iff_getElem];intro j k a B H b l f;have d:j<L.length:=by simpa using a
  have z:k<L.length:=by simpa using B
  have hp:=(List.pairwise_iff_getElem.1 h.apart) j k d z H;rw [List.getElem_set] at l f
  by_cases hij:i=j
  ·subst hij;rw [if_pos rfl] at l;rw [if_neg (by omega)] at f;have A:L[k]?=some L[k]:=IQ z;rcases hb b l with hb|hb
   ·exact v k _ (by omega) A b f hb
   ·have:=Res.lt (h.ok _ (List.mem_of_getElem? A)) f; omega
  ·rw [if_neg hij] at l
   by_cases hik:i=k
   ·subst hik;rw [if_pos rfl] at f;have m:L[j]?=some L[j]:=IQ d;rcases hb b f with hb|hb
    ·exact v j _ (by omega) m b l hb
    ·have:=Res.lt (h.ok _ (List.mem_of_getElem? m)) l; omega
   ·rw [if_neg hik] at f;exact hp b l f
theorem Sep.call (h:Sep g0 w0 g w L) {g':Hp} {w':World} (a:dx g w g' w'):Sep g0 w0 g' w' L:=by
 have hs:=h.ext.below.size;have f:w.grownBy w' none:=⟨a.below.os,a.below.tape,a.below.output,a.below.size,fun k e _=>a.below.block k e⟩;refine ⟨⟨h.ext.below.trans (a.below.mono hs),fun b hb=>(a.old b (by omega)).trans (h.ext.old b hb),a.imm⟩,fun r c=>(h.ok r c).kept f (by cases r.blk <;> simp),fun r c b hb=>?_,h.apart⟩;have d:=h.fresh r c b hb;exact ⟨d.1,by rw [a.old b (Res.lt (h.ok r c) hb)]; exact d.2⟩
theorem Sep.sub (h:Sep g0 w0 g w L) {L':List Res} (hl:List.Sublist L' L):Sep g0 w0 g w L':=
 ⟨h.ext,fun r hr=>h.ok r (hl.subset hr),fun r hr=>h.fresh r (hl.subset hr),h.apart.sublist hl⟩
def uQ (g:Hp) (b:Nat) (o:Obj):Hp:=fun k=>if k=b then some o else g k
theorem Sep.release (h:Sep g0 w0 g w L) {i:Nat} {r:Res} (m:L[i]?=some r) {b:Nat} {o:Obj} (hb:r.blk=some b) (q:w.heap[b]?=some o) :
 Sep g0 w0 (uQ g b o) w (L.eraseIdx i)∧bc g (uQ g b o):=by
 have p:=List.mem_of_getElem? m;have hf:=h.fresh r p b hb;refine ⟨⟨⟨h.ext.below,fun k a=>?_,fun k d a=>?_⟩,fun s hs=>h.ok s ((List.eraseIdx_sublist L i).subset hs),fun s hs k a=>?_,h.apart.sublist (List.eraseIdx_sublist L i)⟩,fun k d a=>?_⟩
 ·simp only [uQ]; rw [if_neg (by omega)]; exact h.ext.old k a
 ·simp only [uQ] at a;split at a
  ·rename_i e; subst e; rw [q]; exact a
  ·exact h.imm k d a
 ·obtain ⟨j,c,t,rfl⟩:=List.mem_eraseIdx_iff_getElem.1 hs;have n:=h.fresh _ (IU c) k a;refine ⟨n.1,?_⟩;simp only [uQ];rw [if_neg]
  ·exact n.2
  ·intro e;subst e;obtain ⟨f,l⟩:=IR.1 m;have hp:=List.pairwise_iff_getElem.1 h.apart;rcases Nat.lt_or_gt_of_ne t with hlt|hlt
   ·exact hp j i c f hlt _ a (by rw [l]; exact hb)
   ·exact hp i j f c hlt _ (by rw [l]; exact hb) a
 ·simp only [uQ];rw [if_neg (fun e=>by subst e; rw [hf.2] at a; cases a)];exact a
end
structure en (P:Program) (T:TypeId) (agg:Bool) (size bytes:Nat) (z:Value):Prop where
  info:∃i,P.info? T=some i∧i.zero=some z∧i.size=size∧i.bytes=bytes
  und:∃d,P.underlying T=some d∧(match d with|.struct _=>true|.array _ _=>true|_=>false)=agg
section
variable {P:Program} {E:Env} {w:World} {d:Option Tmp} {ty:TypeId} {ps:String} {af:Array Edge} {g:Option (Nat×Bool)}
theorem dJ {x:Operand} {v:Value} (h:ev E x=v):cy P E ⟨d,.move x,ty,ps,af,g⟩ w v w:=.inl (by subst h; rfl)
theorem qF {x:Operand} {v:Value} (h:ev E x=v):cy P E ⟨d,.assign x,ty,ps,af,g⟩ w v w:=.inl (by subst h; rfl)
theorem zh {c x y:Operand} {b:Bool} {v:Value} (hc:ev E c=.bool b) (h:(bif b then ev E x else ev E y)=v):cy P E ⟨d,.pick c x y,ty,ps,af,g⟩ w v w:=.inl (by
 subst h;cases b <;> simp [execOp,hc,asBool])
theorem iq {T:TypeId} {agg:Bool} {size bytes:Nat} {z:Value} (ht:en P T agg size bytes z):(zeroValue T).run P w=.ok z w:=by
 obtain ⟨i,hi,hz,_⟩:=ht.info;simp [zeroValue,typeInfo,hi,hz]
theorem dw {T:TypeId} {agg:Bool} {size bytes:Nat} {z:Value} (ht:en P T agg size bytes z):(sizeOf T).run P w=.ok size w:=by
 obtain ⟨i,hi,_,hs,_⟩:=ht.info;simp [sizeOf,typeInfo,hi,hs]
theorem gD {T:TypeId} {agg:Bool} {size bytes:Nat} {z:Value} (ht:en P T agg size bytes z):(isAgg T).run P w=.ok agg w:=by
 obtain ⟨dd,hd,ha⟩:=ht.und;subst ha;simp only [isAgg,Sem.run_bind,run_underlying hd,Jf];cases dd <;> rfl
theorem Bt {T:TypeId} {agg:Bool} {size bytes:Nat} {z:Value} (ht:en P T agg size bytes z) :
 cy P E ⟨d,.alloc T,ty,ps,af,g⟩ w (.pointer (some ⟨w.heap.size,0,none⟩)) (w.alloc (.cells z.cells T)):=.inl (by
 simp [execOp,Instr.alloc,iq ht,newVar,newRow])
theorem Er {T:TypeId} {x:Operand} {v:Value} (h:ev E x=v) :
 cy P E ⟨d,.box T x,ty,ps,af,g⟩ w (.pointer (some ⟨w.heap.size,0,none⟩)) (w.alloc (.cells v.cells T)):=.inl (by
 simp [execOp,Instr.box,h,newVar,newRow])
theorem aW {T:TypeId} {size bytes:Nat} {z:Value} {x:Operand} {a:Addr} {v:Value} (ht:en P T false size bytes z) (hx:ev E x=.pointer (some a)) (hc:w.cell? a=some v) :
 cy P E ⟨d,.load T x,ty,ps,af,g⟩ w v w:=.inl (by
 simp [execOp,Instr.loadAt,Instr.sureAddr,hx,loadVar,gD ht,load,Sem.run,hc])
theorem fE (a:Addr) (cs:List Value):∀(i:Nat) (acc:Array Value),(∀j u,cs[j]?=some u→w.cell? (a.add (i+j))=some u)→
 (loadCellsFrom a i cs.length acc).run P w=.ok (acc++cs.toArray) w:=by
 induction cs with
 | nil=>intro i acc _; simp [loadCellsFrom]
 | cons c cs ih=>
  intro i acc h;have b:=h 0 c rfl;have:=ih (i+1) (acc.push c) (fun j u d=>by have:=h (j+1) u (by simpa using d); simpa [Nat.add_assoc,Nat.add_comm 1 j] using this);simp only [Jp,loadCellsFrom,Sem.run_bind,load,Sem.run];simp only [Nat.add_zero] at b;rw [b];simp only [Jf,this];simp
theorem cp {T:TypeId} {size bytes:Nat} {z:Value} {x:Operand} {a:Addr} {cs:List Value} (b:en P T true size bytes z) (hx:ev E x=.pointer (some a)) (hl:cs.length=size)
    (e:∀j u,cs[j]?=some u→w.cell? (a.add j)=some u):cy P E ⟨d,.load T x,ty,ps,af,g⟩ w (.agg cs.toArray) w:=.inl (by
  have h:=fE (P:=P) (w:=w) a cs 0 #[] (fun j u c=>by simpa using e j u c);simp only [Array.empty_append] at h;subst hl;simp [execOp,Instr.loadAt,Instr.sureAddr,hx,loadVar,gD b,dw b,loadCells,h])
theorem bS {op:BinOp} {T T':TypeId} {x y:Operand} {v:Value} (h1:(eqGuard op T x y (ev E x) (ev E y)).run P w=.ok () w) (h2:(binOp op T (ev E x) (ev E y)).run P w=.ok v w) :
 cy P E ⟨d,.binOp op T x y T',ty,ps,af,g⟩ w v w:=.inl (by
 simp [execOp,h1,h2])
theorem cm {op:BinOp} {T:TypeId} {x y:Operand} {k:IntKind} {n:Int} {v:Value}:(eqGuard op T x y (.int k n) v).run P w=.ok () w:=by rw [eqGuard_at_int]; rfl
section
variable {T T':TypeId} {x y:Operand} {k:IntKind} {a b:Int} (hx:ev E x=.int k a) (hy:ev E y=.int k b)
include hx hy
theorem Es (hf:k.wrap (a+b)=a+b):cy P E ⟨d,.binOp .add T x y T',ty,ps,af,g⟩ w (.int k (a+b)) w:=bS (by rw [hx]; exact cm) (by rw [hx,hy]; simp [binOp,Op.intArith,hf])
theorem Dm:cy P E ⟨d,.binOp .add T x y T',ty,ps,af,g⟩ w (.int k (k.wrap (a+b))) w:=bS (by rw [hx]; exact cm) (by rw [hx,hy]; simp [binOp,Op.intArith])
theorem Ek (hf:k.wrap (a - b)=a - b):cy P E ⟨d,.binOp .sub T x y T',ty,ps,af,g⟩ w (.int k (a - b)) w:=bS (by rw [hx]; exact cm) (by rw [hx,hy]; simp [binOp,Op.intArith,hf])
theorem Ep (hf:k.wrap (a*b)=a*b):cy P E ⟨d,.binOp .mul T x y T',ty,ps,af,g⟩ w (.int k (a*b)) w:=bS (by rw [hx]; exact cm) (by rw [hx,hy]; simp [binOp,Op.intArith,hf])
theorem Eo (hb:b≠0) (hf:k.wrap (a.tdiv b)=a.tdiv b):cy P E ⟨d,.binOp .quo T x y T',ty,ps,af,g⟩ w (.int k (a.tdiv b)) w:=bS (by rw [hx]; exact cm) (by rw [hx,hy]; simp [binOp,Op.intDiv,hf,hb])
theorem En (hb:b≠0):cy P E ⟨d,.binOp .rem T x y T',ty,ps,af,g⟩ w (.int k (a.tmod b)) w:=bS (by rw [hx]; exact cm) (by rw [hx,hy]; simp [binOp,Op.intDiv,hb])
theorem zk:cy P E ⟨d,.binOp .and T x y T',ty,ps,af,g⟩ w (.int k (bits .and k a b)) w:=bS (by rw [hx]; exact cm) (by rw [hx,hy]; simp [binOp,intBits_and])
theorem Br:cy P E ⟨d,.binOp .or T x y T',ty,ps,af,g⟩ w (.int k (bits .or k a b)) w:=bS (by rw [hx]; exact cm) (by rw [hx,hy]; simp [binOp,intBits_or])
theorem bR:cy P E ⟨d,.binOp .eql T x y T',ty,ps,af,g⟩ w (.bool (a == b)) w:=bS (by rw [hx]; exact cm) (by rw [hx,hy]; simp [binOp,Op.intCmp])
theorem dy:cy P E ⟨d,.binOp .neq T x y T',ty,ps,af,g⟩ w (.bool (a != b)) w:=bS (by rw [hx]; exact cm) (by rw [hx,hy]; simp [binOp,Op.intCmp])
theorem bo:cy P E ⟨d,.binOp .lss T x y T',ty,ps,af,g⟩ w (.bool (decide (a<b))) w:=bS (by rw [hx]; exact cm) (by rw [hx,hy]; simp [binOp,Op.intCmp])
theorem fa:cy P E ⟨d,.binOp .leq T x y T',ty,ps,af,g⟩ w (.bool (decide (a≤b))) w:=bS (by rw [hx]; exact cm) (by rw [hx,hy]; simp [binOp,Op.intCmp])
theorem eo:cy P E ⟨d,.binOp .gtr T x y T',ty,ps,af,g⟩ w (.bool (decide (b<a))) w:=bS (by rw [hx]; exact cm) (by rw [hx,hy]; simp [binOp,Op.intCmp])
theorem de:cy P E ⟨d,.binOp .geq T x y T',ty,ps,af,g⟩ w (.bool (decide (b≤a))) w:=bS (by rw [hx]; exact cm) (by rw [hx,hy]; simp [binOp,Op.intCmp])
end
theorem Em {T T':TypeId} {x y:Operand} {k k':IntKind} {a b:Int} (hx:ev E x=.int k a) (hy:ev E y=.int k' b) (hb:0≤b) :
 cy P E ⟨d,.binOp .shl T x y T',ty,ps,af,g⟩ w (.int k (k.wrap (a*2 ^ min b.toNat k.bits))) w:=bS (by rw [hx]; exact cm) (by rw [hx,hy,binOp_shl,shift_shl_any k k' a b hb]; rfl)
theorem El {T T':TypeId} {x y:Operand} {k k':IntKind} {a b:Int} (hx:ev E x=.int k a) (hy:ev E y=.int k' b) (hb:0≤b) :
 cy P E ⟨d,.binOp .shr T x y T',ty,ps,af,g⟩ w (.int k (a / 2 ^ min b.toNat k.bits)) w:=bS (by rw [hx]; exact cm) (by rw [hx,hy,binOp_shr,shift_shr_any k k' a b hb]; rfl)
theorem cN {T:TypeId} {x:Operand} {b:Bool} (hx:ev E x=.bool b):cy P E ⟨d,.unOp .not T x,ty,ps,af,g⟩ w (.bool (!b)) w:=.inl (by simp [execOp,hx,Op.unary])
theorem ew {S T:TypeId} {x:Operand} {k j:IntKind} {a:Int} {D:TypeDesc} (hS:P.underlying S=some D) (hT:P.underlying T=some (.int k)) (hx:ev E x=.int j a) :
 cy P E ⟨d,.convert S T x,ty,ps,af,g⟩ w (.int k (k.wrap a)) w:=.inl (by simp [execOp,hx,convert,run_underlying hS,run_underlying hT,Conv.intToInt])
end
theorem dI {P:Program} {T:TypeId} {c:Bool} {size bytes:Nat} {z:Value} (b:(P.info? T).map (fun i=>(i.zero,i.size,i.bytes))=some (some z,size,bytes))
 (a:(P.underlying T).map (fun d=>match d with|.struct _=>true|.array _ _=>true|_=>false)=some c):en P T c size bytes z:=by
 constructor
 ·cases h:P.info? T with
  | none=>simp [h] at b
  | some i=>simp [h] at b; exact ⟨i,rfl,b.1,b.2.1,b.2.2⟩
 ·cases h:P.underlying T with
  | none=>rw [h] at a; simp at a
  | some d=>rw [h] at a; simp at a; exact ⟨d,rfl,a⟩
abbrev Str:=List UInt8
def an (s:Str):Value:=.string ⟨s.toArray⟩
abbrev aV (n:Nat):={ l:List Int // l.length=n }
def aV.zero (n:Nat):aV n:=⟨List.replicate n 0,by simp⟩
def gV {n:Nat} (v:aV n) (q:Int):Option Int:=if 0≤q then v.1[q.toNat]? else none
def oV {n:Nat} (v:aV n) (q x:Int):Option (aV n):=if 0≤q∧q.toNat<n then some ⟨v.1.set q.toNat x,by simp [v.2]⟩ else none
def jt (s:Str) (i:Int):Option Int:=if 0≤i then (s[i.toNat]?).map (fun c=>(c.toNat:Int)) else none
def bZ (k:IntKind) (n:Int):Option Int:=if k.wrap n=n then some n else none
def bC {α:Type} (l:List α) (i:Int):Option α:=if 0≤i then l[i.toNat]? else none
def dk {α:Type} (l:List α) (i:Int) (x:α):Option (List α):=if 0≤i∧i.toNat<l.length then some (l.set i.toNat x) else none
def vy (k:IntKind) (a b:Int):Option Int:=if 0≤b then some (k.wrap (a*2 ^ min b.toNat k.bits)) else none
def rJ (k:IntKind) (a b:Int):Option Int:=if 0≤b then some (a / 2 ^ min b.toNat k.bits) else none
def pn (k:IntKind) (a b:Int):Option Int:=if b≠0∧k.wrap (a.tdiv b)=a.tdiv b then some (a.tdiv b) else none
def lO (a b:Int):Option Int:=if b≠0 then some (a.tmod b) else none
theorem rc {k:IntKind} {n m:Int} (h:bZ k n=some m):m=n∧k.wrap n=n:=by
 unfold bZ at h; split at h <;> simp_all
theorem cr {n:Nat} {v:aV n} {q c:Int} (h:gV v q=some c):0≤q∧q<n∧v.1[q.toNat]?=some c:=by
 unfold gV at h;split at h
 ·rename_i h0;have hl:=(IR.1 h).1;rw [v.2] at hl;exact ⟨h0,by omega,h⟩
 ·cases h
theorem du {n:Nat} {v v':aV n} {q x:Int} (h:oV v q x=some v'):0≤q∧q<n∧v'.1=v.1.set q.toNat x:=by
 unfold oV at h;split at h
 ·rename_i h0; cases h; exact ⟨h0.1,by omega,rfl⟩
 ·cases h
theorem yx {s:Str} {i c:Int} (h:jt s i=some c):0≤i∧i<s.length∧∃u:UInt8,s[i.toNat]?=some u∧c=u.toNat:=by
 unfold jt at h;split at h
 ·rename_i h0;cases hs:s[i.toNat]? with
  | none=>rw [hs] at h; simp at h
  | some u=>
   rw [hs] at h;simp at h;have:=(IR.1 hs).1;exact ⟨h0,by omega,u,rfl,h.symm⟩
 ·cases h
theorem ad {α:Type} {l:List α} {i:Int} {c:α} (h:bC l i=some c):0≤i∧i<l.length∧l[i.toNat]?=some c:=by
 unfold bC at h;split at h
 ·rename_i h0;have:=(IR.1 h).1;exact ⟨h0,by omega,h⟩
 ·cases h
theorem bl {α:Type} {l l':List α} {i:Int} {x:α} (h:dk l i x=some l'):0≤i∧i<l.length∧l'=l.set i.toNat x:=by
 unfold dk at h;split at h
 ·rename_i h0; cases h; exact ⟨h0.1,by omega,rfl⟩
 ·cases h
section
variable {P:Program} {E:Env} {w:World} {d:Option Tmp} {ty:TypeId} {ps:String} {af:Array Edge} {g:Option (Nat×Bool)}
theorem aP {T T':TypeId} {x y:Operand} {k:IntKind} {a b m:Int} (hx:ev E x=.int k a) (hy:ev E y=.int k b) (h:bZ k (a+b)=some m):cy P E ⟨d,.binOp .add T x y T',ty,ps,af,g⟩ w (.int k m) w:=by
 obtain ⟨rfl,hf⟩:=rc h; exact Es hx hy hf
theorem qD {T T':TypeId} {x y:Operand} {k:IntKind} {a b m:Int} (hx:ev E x=.int k a) (hy:ev E y=.int k b) (h:bZ k (a - b)=some m):cy P E ⟨d,.binOp .sub T x y T',ty,ps,af,g⟩ w (.int k m) w:=by
 obtain ⟨rfl,hf⟩:=rc h; exact Ek hx hy hf
theorem vM {T T':TypeId} {x y:Operand} {k:IntKind} {a b m:Int} (hx:ev E x=.int k a) (hy:ev E y=.int k b) (h:bZ k (a*b)=some m):cy P E ⟨d,.binOp .mul T x y T',ty,ps,af,g⟩ w (.int k m) w:=by
 obtain ⟨rfl,hf⟩:=rc h; exact Ep hx hy hf
theorem kF {T T':TypeId} {x y:Operand} {k:IntKind} {a b m:Int} (hx:ev E x=.int k a) (hy:ev E y=.int k b) (h:pn k a b=some m):cy P E ⟨d,.binOp .quo T x y T',ty,ps,af,g⟩ w (.int k m) w:=by
 unfold pn at h; split at h
 ·rename_i h0; cases h; exact Eo hx hy h0.1 h0.2
 ·cases h
theorem kE {T T':TypeId} {x y:Operand} {k:IntKind} {a b m:Int} (hx:ev E x=.int k a) (hy:ev E y=.int k b) (h:lO a b=some m):cy P E ⟨d,.binOp .rem T x y T',ty,ps,af,g⟩ w (.int k m) w:=by
 unfold lO at h; split at h
 ·rename_i h0; cases h; exact En hx hy h0
 ·cases h
theorem vL {T T':TypeId} {x y:Operand} {k k':IntKind} {a b m:Int} (hx:ev E x=.int k a) (hy:ev E y=.int k' b) (h:vy k a b=some m):cy P E ⟨d,.binOp .shl T x y T',ty,ps,af,g⟩ w (.int k m) w:=by
 unfold vy at h; split at h
 ·rename_i h0; cases h; exact Em hx hy h0
 ·cases h
theorem qE {T T':TypeId} {x y:Operand} {k k':IntKind} {a b m:Int} (hx:ev E x=.int k a) (hy:ev E y=.int k' b) (h:rJ k a b=some m):cy P E ⟨d,.binOp .shr T x y T',ty,ps,af,g⟩ w (.int k m) w:=by
 unfold rJ at h; split at h
 ·rename_i h0; cases h; exact El hx hy h0
 ·cases h
theorem di {T:TypeId} {x y:Operand} {s:Str} {i c:Int} {k:IntKind} (b:P.underlying T=some .string) (hx:ev E x=an s) (hy:ev E y=.int k i) (h:jt s i=some c) :
 cy P E ⟨d,.index T x y,ty,ps,af,g⟩ w (.int .u8 c) w:=.inl (by
 obtain ⟨j,l,u,a,rfl⟩:=yx h;have hb:(ByteArray.mk s.toArray)[i.toNat]?=some u:=by
  have hl:=(IR.1 a).1;have hs:i.toNat<(ByteArray.mk s.toArray).size:=by simpa [ByteArray.size] using hl
  have f:(ByteArray.mk s.toArray)[i.toNat]?=some ((ByteArray.mk s.toArray)[i.toNat]'hs):=getElem?_pos (ByteArray.mk s.toArray) i.toNat hs;have e:(ByteArray.mk s.toArray)[i.toNat]'hs=s[i.toNat]:=rfl;rw [f,e,←(IR.1 a).2]
 simp only [execOp,Instr.index,hx,hy,an,asIntOf,Sem.run_bind,Sem.run_pure,Jf,run_underlying b,if_pos j,hb])
theorem cI {T:TypeId} {x:Operand} {s:Str} (hT:P.underlying T=some .string) (hx:ev E x=an s) :
 cy P E ⟨d,.call { callee:=.builtin .len,args:=#[x],argTypes:=#[T] },ty,ps,af,g⟩ w (.int .i64 s.length) w:=.inl (by
 simp [execOp,resolve,invoke,builtin,hx,an,Builtin.len_,run_underlying hT,goInt,ByteArray.size_mk'])
theorem cR {T el:TypeId} {x y:Operand} {b o len:Nat} {q:Int} {k:IntKind} {h:Bool} {size bytes:Nat} {z:Value} (c:P.underlying T=some (.array len el)) (a:en P el h size bytes z)
 (hx:ev E x=.pointer (some ⟨b,o,none⟩)) (hy:ev E y=.int k q) (f:0≤q) (e:q<len) :
 cy P E ⟨d,.indexAddr T x y,ty,ps,af,g⟩ w (.pointer (some ⟨b,o+q.toNat*size,none⟩)) w:=.inl (by
 simp [execOp,Instr.indexAt,hx,hy,asIntOf,run_underlying c,Instr.sureAddr,f,e,dw a,Addr.add_lit])
end
section
variable {g0 g:Hp} {w0 w:World} {L:List Res} (h:Sep g0 w0 g w L)
include h
theorem Sep.cell {i b:Nat} {T:TypeId} {cs:List Value} (hi:L[i]?=some (tH b T cs)) {o:Nat} {v:Value} (hv:cs[o]?=some v):w.cell? ⟨b,o,none⟩=some v:=by
 have:=(h.at hi).out;simp only [Res.okB] at this;simp [World.cell?,this,hv]
theorem Sep.cells {i b:Nat} {T:TypeId} {cs:List Value} (hi:L[i]?=some (tH b T cs)):∀j u,cs[j]?=some u→w.cell? ((⟨b,0,none⟩:Addr).add j)=some u:=fun j u hj=>by
 rw [Addr.add_lit,Nat.zero_add]; exact h.cell hi hj
theorem Sep.cellsAt {i b:Nat} {T:TypeId} {cs vs:List Value} (hi:L[i]?=some (tH b T cs)) {o:Nat} (hv:∀j u,vs[j]?=some u→cs[o+j]?=some u):∀j u,vs[j]?=some u→w.cell? ((⟨b,o,none⟩:Addr).add j)=some u:=fun j u hj=>by
 rw [Addr.add_lit]; exact h.cell hi (hv j u hj)
theorem Sep.put {i b:Nat} {T:TypeId} {cs vs:List Value} (a:L[i]?=some (tH b T cs)) {o:Nat} (c:o+vs.length≤cs.length) (j:∀v∈vs,v.oneCell'=true) :
 ∃w',(∀P:Program,(storeCells ⟨b,o,none⟩ vs).run P w=.ok () w')∧Sep g0 w0 g w' (L.set i (tH b T (cs.take o++vs++cs.drop (o+vs.length)))):=by
 have hb:=(h.at a).out;simp only [Res.okB] at hb;refine ⟨w.setRow b ((cs.toArray.toList.take (o+0))++vs++cs.toArray.toList.drop (o+0+vs.length)).toArray,fun P=>run_storeCells_at P b o T vs 0 cs.toArray w hb (by simpa using c) j,?_⟩;refine h.upd a (w':=w.setRow b _) ⟨rfl,rfl,rfl,by simp [World.setRow],fun k _ d=>setRow_other w b k _ (fun e=>d (by simp [Res.blk,e]))⟩ ⟨?_⟩ (fun l f=>.inl (by simpa [Res.blk] using f));simp only [Res.okB];rw [setRow_heap w b _ _ T (0,0) hb];simp
end
section
variable {P:Program} {E:Env} {w w':World} {d:Option Tmp} {ty:TypeId} {ps:String} {af:Array Edge} {g:Option (Nat×Bool)}
theorem cw {T:TypeId} {x y:Operand} {a:Addr} {v:Value} {c:Bool} {size bytes:Nat} {z:Value} (b:en P T c size bytes z) (hx:ev E x=.pointer (some a)) (hy:ev E y=v) (hl:v.cells.size=size)
    (hs:∀P:Program,(storeCells a v.cells.toList).run P w=.ok () w'):Ay P E ⟨d,.store T x y,ty,ps,af,g⟩ w w':=.inl (by
  subst hl;simp [execOp,Instr.storeAt,Instr.sureAddr,hx,hy,storeVar,dw b,hs P])
end
def cC {n:Nat} (k:IntKind) (v:aV n):Value:=.agg (v.1.map (Value.int k)).toArray
section
variable {P:Program} {n:Fr} {Q:EPost} {E:Env} {w:World} {ops:Array Oper} {rest:List Oper} {d:Option Tmp} {ty:TypeId} {ps:String} {af:Array Edge} {g0 g:Hp} {w0:World} {L:List Res}
theorem aH {d:Tmp} {T:TypeId} {e:Bool} {size bytes:Nat} {z:Value} (c:en P T e size bytes z) (hs:Sep g0 w0 g w L) (zs:List Value) (a:z.cells=zs.toArray) (hd:Nat.blt d n.sz=true)
 (k:∀b w',Sep g0 w0 g w' (tH b T zs::L)→OW P n ops Q rest (cz E d (.pointer (some ⟨b,0,none⟩))) w'):OW P n ops Q (⟨some d,.alloc T,ty,ps,af,none⟩::rest) E w:=
 vo (Bt c) hd rfl (k _ _ (by rw [a]; exact hs.alloc _))
theorem gT {d:Tmp} {T:TypeId} {x:Operand} {v:Value} (hx:ev E x=v) (hs:Sep g0 w0 g w L) (zs:List Value) (hz:v.cells=zs.toArray) (hd:Nat.blt d n.sz=true)
 (k:∀b w',Sep g0 w0 g w' (tH b T zs::L)→OW P n ops Q rest (cz E d (.pointer (some ⟨b,0,none⟩))) w'):OW P n ops Q (⟨some d,.box T x,ty,ps,af,none⟩::rest) E w:=
 vo (Er hx) hd rfl (k _ _ (by rw [hz]; exact hs.alloc _))
theorem aY {T T':TypeId} {x y:Operand} {b o i:Nat} {v:Value} {cs:List Value} {bytes:Nat} {z:Value} (d:en P T false 1 bytes z) (hs:Sep g0 w0 g w L) (l:L[i]?=some (tH b T' cs))
 (hx:ev E x=.pointer (some ⟨b,o,none⟩)) (hy:ev E y=v) (c:v.oneCell'=true) (j:o<cs.length)
 (k:∀w',Sep g0 w0 g w' (L.set i (tH b T' (cs.set o v)))→OW P n ops Q rest E w'):OW P n ops Q (⟨none,.store T x y,ty,ps,af,none⟩::rest) E w:=by
 have a:v.cells=#[v]:=by cases v <;> first|rfl|simp [Value.oneCell'] at c
 obtain ⟨w',f,h⟩:=hs.put l (vs:=[v]) (o:=o) (by simp; omega) (by simpa using c);refine wE (cw d hx hy (by rw [a]; rfl) (by rw [a]; exact f)) rfl rfl (k w' ?_);have e:cs.set o v=List.take o cs++[v]++List.drop (o+[v].length) cs:=by
  rw [List.set_eq_take_append_cons_drop,if_pos j]; simp
 rw [e]; exact h
theorem cE {T T':TypeId} {x y:Operand} {b i:Nat} {v:Value} {cs vs:List Value} {size bytes:Nat} {z:Value} (c:en P T true size bytes z) (hs:Sep g0 w0 g w L) (f:L[i]?=some (tH b T' cs))
 (hx:ev E x=.pointer (some ⟨b,0,none⟩)) (hy:ev E y=v) (a:v=.agg vs.toArray) (h:∀v∈vs,v.oneCell'=true) (hl:vs.length=size) (j:cs.length=vs.length)
 (k:∀w',Sep g0 w0 g w' (L.set i (tH b T' vs))→OW P n ops Q rest E w'):OW P n ops Q (⟨none,.store T x y,ty,ps,af,none⟩::rest) E w:=by
 subst a;obtain ⟨w',d,e⟩:=hs.put f (vs:=vs) (o:=0) (by omega) h;refine wE (cw c hx hy (by simpa [Value.cells] using hl) (by simpa [Value.cells] using d)) rfl rfl (k w' ?_);have:cs.drop vs.length=[]:=List.drop_eq_nil_iff.2 (by omega);simpa [this] using e
end
theorem bv {k:IntKind} {l:List Int}:∀v∈l.map (Value.int k),v.oneCell'=true:=by
 intro v hv;obtain ⟨n,_,rfl⟩:=Jt.1 hv;rfl
theorem dY {n:Nat} {v:aV n} {q c:Int} {k:IntKind} (h:gV v q=some c):(v.1.map (Value.int k))[0+q.toNat*1]?=some (.int k c):=by
 obtain ⟨_,_,h⟩:=cr h;simp [h]
theorem fQ {n:Nat} {v v':aV n} {q x:Int} {k:IntKind} (h:oV v q x=some v'):(v.1.map (Value.int k)).set (0+q.toNat*1) (.int k x)=v'.1.map (Value.int k):=by
 obtain ⟨_,_,h⟩:=du h;rw [h]; simp [List.map_set]
theorem ls {n:Nat} {v v':aV n} {q x:Int} {k:IntKind} (h:oV v q x=some v'):0+q.toNat*1<(v.1.map (Value.int k)).length:=by
 have h:=du h;simp [v.2]; omega
def us (a:Act):ResultVar→Sem Value
 | .tmp t=>pure (a.tmps.getD t undef)
 | .cell c t=>do loadVar t (←asAddr (a.tmps.getD c undef))
def RV (P:Program) (n:Fr) (E:Env) (w:World) (r:ResultVar) (v:Value):Prop:=∀a,fB n E a→(us a r).run P w=.ok v w
section
variable {P:Program} {fn:Func} {n:Fr} {E:Env} {w:World}
theorem aI {t:Tmp} {v:Value} (hv:ev E (.tmp t)=v):RV P n E w (.tmp t) v:=fun a ha=>by
 subst hv; simp only [us,ha.get]; rfl
theorem hO {c:Tmp} {T:TypeId} {size bytes:Nat} {z:Value} {a:Addr} {v:Value} (ht:en P T false size bytes z) (hv:ev E (.tmp c)=.pointer (some a)) (hc:w.cell? a=some v):RV P n E w (.cell c T) v:=fun ac ha=>by
 have hp:ac.tmps.getD c undef=.pointer (some a):=(ha.get c).trans hv;simp [us,hp,asAddr,loadVar,gD ht,load,Sem.run,hc]
theorem aX {c:Tmp} {T:TypeId} {size bytes:Nat} {z:Value} {a:Addr} {vs:List Value} (b:en P T true size bytes z) (e:ev E (.tmp c)=.pointer (some a)) (hl:vs.length=size)
 (g:∀j u,vs[j]?=some u→w.cell? (a.add j)=some u):RV P n E w (.cell c T) (.agg vs.toArray):=fun ac ha=>by
 have hp:ac.tmps.getD c undef=.pointer (some a):=(ha.get c).trans e;have d:=fE (P:=P) (w:=w) a vs 0 #[] (fun j u f=>by simpa using g j u f);simp only [Array.empty_append] at d;subst hl;simp [us,hp,asAddr,loadVar,gD b,dw b,loadCells,d]
theorem my {rs:Array ResultVar} (a:Act) (h:fn.results=rs):results fn a.tmps=(do let vs←rs.mapM (us a); pure (if h:vs.size=1 then vs[0] else .tuple vs)):=by
 subst h;unfold results;congr 2
theorem bE {r:ResultVar} {v:Value} (h:fn.results=#[r]) (h1:RV P n E w r v):nQ P fn n E w v:=fun a ha=>by
 rw [my a h]; simp [h1 a ha]
theorem iX {r s:ResultVar} {v u:Value} (h:fn.results=#[r,s]) (h1:RV P n E w r v) (h2:RV P n E w s u):nQ P fn n E w (.tuple #[v,u]):=fun a ha=>by
 rw [my a h]; simp [h1 a ha,h2 a ha]
theorem ni {r s t:ResultVar} {v u x:Value} (h:fn.results=#[r,s,t]) (h1:RV P n E w r v) (h2:RV P n E w s u) (h3:RV P n E w t x):nQ P fn n E w (.tuple #[v,u,x]):=fun a ha=>by
 rw [my a h]; simp [h1 a ha,h2 a ha,h3 a ha]
end
section
variable {P:Program} {n:Fr} {Q:EPost} {E:Env} {w:World} {ops:Array Oper} {rest:List Oper} {op:Op} {ty:TypeId} {ps:String} {af:Array Edge}
theorem O {d:Tmp} {v:Value} {w':World} (hr:cy P E ⟨some d,op,ty,ps,af,none⟩ w v w') (hd:Nat.blt d n.sz=true) (k:OW P n ops Q rest (cz E d v) w'):OW P n ops Q (⟨some d,op,ty,ps,af,none⟩::rest) E w:=vo hr hd rfl k
theorem O0 {w':World} (hr:Ay P E ⟨none,op,ty,ps,af,none⟩ w w') (k:OW P n ops Q rest E w'):OW P n ops Q (⟨none,op,ty,ps,af,none⟩::rest) E w:=wE hr rfl rfl k
theorem S {Q:Env→Prop} {d:Tmp} {v:Value} (hr:cy P E ⟨some d,op,ty,ps,af,none⟩ w v w) (hd:Nat.blt d n.sz=true) (k:SW P n ops w Q rest (cz E d v)):SW P n ops w Q (⟨some d,op,ty,ps,af,none⟩::rest) E:=FD hr hd rfl k
end
structure Ty (α:Type) where
  sz:Nat
  rel:Hp→List Value→α→Prop
  mono:∀ {g g':Hp} {cs:List Value} {x:α},bc g g'→rel g cs x→rel g' cs x
  len:∀ {g:Hp} {cs:List Value} {x:α},rel g cs x→cs.length=sz
  one:∀ {g:Hp} {cs:List Value} {x:α},rel g cs x→∀v∈cs,v.oneCell'=true
def ak (k:IntKind):Ty Int:=⟨1,fun _ cs n=>cs=[.int k n],fun _ h=>h,fun h=>by rw [h]; rfl,fun h v hv=>by rw [h] at hv; simp at hv; subst hv; rfl⟩
def aO:Ty Bool:=⟨1,fun _ cs n=>cs=[.bool n],fun _ h=>h,fun h=>by rw [h]; rfl,fun h v hv=>by rw [h] at hv; simp at hv; subst hv; rfl⟩
def dZ:Ty Str:=⟨1,fun _ cs n=>cs=[an n],fun _ h=>h,fun h=>by rw [h]; rfl,fun h v hv=>by rw [h] at hv; simp at hv; subst hv; rfl⟩
def bk (n:Nat) (k:IntKind):Ty (aV n):=⟨n,fun _ cs v=>cs=v.1.map (Value.int k),fun _ h=>h,fun {_ _ x} h=>by rw [h]; simp [x.2],fun h=>by rw [h]; exact bv⟩
def ae {α:Type} (τ:Ty α) (g:Hp) (xs:List Value) (l:List α):Prop:=
 xs.length=l.length*τ.sz∧∀i x,l[i]?=some x→τ.rel g ((xs.drop (i*τ.sz)).take τ.sz) x
section
variable {α:Type} {τ:Ty α} {g g':Hp} {xs:List Value} {l:List α}
theorem ae.nil:ae τ g [] []:=⟨by simp,by simp⟩
theorem ae.mono (h:ae τ g xs l) (hg:bc g g'):ae τ g' xs l:=⟨h.1,fun i x hx=>τ.mono hg (h.2 i x hx)⟩
theorem ae.append {ys:List Value} {m:List α} (h:ae τ g xs l) (a:ae τ g ys m):ae τ g (xs++ys) (l++m):=by
 refine ⟨by simp [h.1,a.1,Nat.add_mul],fun i x hx=>?_⟩
 by_cases hi:i<l.length
 ·rw [Jc hi] at hx;have:=h.2 i x hx;have c:i*τ.sz+τ.sz≤xs.length:=by rw [h.1]; rw [←Nat.succ_mul]; exact Jj _ hi
  rw [List.drop_append_of_le_length (by omega),List.take_append_of_le_length (by simp; omega)];exact this
 ·rw [Jv (by omega)] at hx;have:=a.2 _ x hx;have e:i*τ.sz=xs.length+(i - l.length)*τ.sz:=by rw [h.1,←Nat.add_mul]; congr 1; omega
  rw [e,JE];have b:List.drop (xs.length+(i - l.length)*τ.sz) xs=[]:=List.drop_eq_nil_iff.2 (by omega);rw [b,Jd,Nat.add_sub_cancel_left];exact this
theorem ae.one {cs:List Value} {x:α} (h:τ.rel g cs x):ae τ g cs [x]:=by
 refine ⟨by simp [τ.len h],fun i y hy=>?_⟩;cases i with
 | zero=>simp at hy; subst hy; simp; rw [JG (by rw [τ.len h]; exact Nat.le_refl _)]; exact h
 | succ i=>simp at hy
theorem ae.ones {g:Hp}:ae τ g xs l→∀v∈xs,v.oneCell'=true:=by
 intro h v a;obtain ⟨j,b,rfl⟩:=Ji.1 a;have hl:=h.1;have hs:0<τ.sz:=by
  rcases Nat.eq_zero_or_pos τ.sz with e|e
  ·rw [e] at hl; simp at hl; subst hl; simp at b
  ·exact e
 have c:j / τ.sz<l.length:=Nat.div_lt_of_lt_mul (by rw [Nat.mul_comm]; omega);have:=h.2 (j / τ.sz) l[j / τ.sz] (IQ c);refine τ.one this _ ?_;have e:xs[j]=((xs.drop (j / τ.sz*τ.sz)).take τ.sz)[j % τ.sz]'(by
  have:=Nat.mod_lt j hs;have:=Nat.div_add_mod j τ.sz;rw [Nat.mul_comm] at this;simp; omega):=by
  simp only [List.getElem_take,List.getElem_drop];congr 1;have:=Nat.div_add_mod j τ.sz;rw [Nat.mul_comm] at this; omega
 rw [e]; exact IU _
theorem ae.set {cs:List Value} {x:α} {i:Nat} (h:ae τ g xs l) (a:τ.rel g cs x) (c:i<l.length) :
 ae τ g (xs.take (i*τ.sz)++cs++xs.drop (i*τ.sz+cs.length)) (l.set i x):=by
 have hl:=τ.len a;have k:i*τ.sz+τ.sz≤xs.length:=by rw [h.1]; rw [←Nat.succ_mul]; exact Jj _ c
 refine ⟨by rw [IW,IW,Jo,JK,Jz,hl]; have:=h.1; omega,fun j y hy=>?_⟩;rw [Jy] at hy;split at hy
 ·rename_i e;subst e;simp at hy;obtain ⟨_,rfl⟩:=hy;have d:(List.take (i*τ.sz) xs).length=i*τ.sz:=by simp; omega
  rw [Ja,JE];rw [List.drop_eq_nil_iff.2 (by omega),Jd,d,Nat.sub_self,List.drop_zero,List.take_append_of_le_length (by omega),JG (by omega)];exact a
 ·rename_i hne;have:=h.2 j y hy;have b:=(IR.1 hy).1;have f:j*τ.sz+τ.sz≤xs.length:=by rw [h.1]; rw [←Nat.succ_mul]; exact Jj _ b
  have e:(List.drop (j*τ.sz) (List.take (i*τ.sz) xs++cs++List.drop (i*τ.sz+cs.length) xs)).take τ.sz=(List.drop (j*τ.sz) xs).take τ.sz:=by
   apply List.ext_getElem?;intro q;simp only [List.getElem?_take,List.getElem?_drop];split
   ·rename_i hq;rcases Nat.lt_or_gt_of_ne hne with hlt|hlt
    ·have:(i+1)*τ.sz≤j*τ.sz:=Jj _ hlt;rw [Nat.succ_mul] at this;rw [Jv (by simp; omega),List.getElem?_drop];congr 1;simp;omega
    ·have:(j+1)*τ.sz≤i*τ.sz:=Jj _ hlt;rw [Nat.succ_mul] at this;rw [Ja,Jc (by simp; omega),List.getElem?_take];rw [if_pos (by omega)]
   ·rfl
  rw [e]; exact this
end
def vn (g:Hp) (v:Value) (n:Nat) (xs:List Value):Prop:=
 (n=0∧xs=[]∧∃a cap,v=.slice a 0 cap∧(a=none→cap=0))∨
 ∃b off cap arr e fz,v=.slice (some ⟨b,off,none⟩) n cap∧n≤cap∧g b=some (.cells arr e fz)∧∀j u,xs[j]?=some u→arr[off+j]?=some u
def cA {α:Type} (τ:Ty α) (g:Hp) (v:Value) (l:List α):Prop:=∃xs,ae τ g xs l∧vn g v l.length xs
theorem vn.mono {g g':Hp} {v:Value} {n:Nat} {xs:List Value} (h:vn g v n xs) (hg:bc g g'):vn g' v n xs:=by
 rcases h with h|⟨b,off,cap,arr,e,fz,h1,h2,h3,h4⟩
 ·exact .inl h
 ·exact .inr ⟨b,off,cap,arr,e,fz,h1,h2,hg _ _ h3,h4⟩
theorem cA.mono {α:Type} {τ:Ty α} {g g':Hp} {v:Value} {l:List α} (h:cA τ g v l) (hg:bc g g'):cA τ g' v l:=by
 obtain ⟨xs,h1,h2⟩:=h;exact ⟨xs,h1.mono hg,h2.mono hg⟩
theorem vn.shape {g:Hp} {v:Value} {n:Nat} {xs:List Value} (h:vn g v n xs):∃a cap,v=.slice a n cap:=by
 rcases h with ⟨rfl,_,a,cap,rfl,_⟩|⟨b,off,cap,arr,e,fz,rfl,_⟩
 ·exact ⟨_,_,rfl⟩
 ·exact ⟨_,_,rfl⟩
theorem cA.shape {α:Type} {τ:Ty α} {g:Hp} {v:Value} {l:List α} (h:cA τ g v l):∃a cap,v=.slice a l.length cap:=h.elim fun _ h=>h.2.shape
theorem cA.nil {α:Type} {τ:Ty α} {g:Hp}:cA τ g (.slice none 0 0) []:=⟨[],ae.nil,.inl ⟨rfl,rfl,none,0,rfl,fun _=>rfl⟩⟩
def cv {α:Type} (τ:Ty α):Ty (List α):=
 ⟨1,fun g cs l=>∃v,cs=[v]∧cA τ g v l,fun hg ⟨v,h1,h2⟩=>⟨v,h1,h2.mono hg⟩,fun ⟨v,h1,_⟩=>by rw [h1]; rfl,fun ⟨v,h1,h2⟩ u hu=>by
  rw [h1] at hu; simp at hu; subst hu
  obtain ⟨a,cap,rfl⟩:=h2.shape
  rfl⟩
theorem cA.at {α:Type} {τ:Ty α} {g:Hp} {v:Value} {l:List α} (h:cA τ g v l) {i:Int} {x:α} (hx:bC l i=some x) :
 ∃b c d,v=.slice (some ⟨b,c,none⟩) l.length d∧∃cs,τ.rel g cs x∧∀w,cY g w→∀j u,cs[j]?=some u→w.cell? ⟨b,c+i.toNat*τ.sz+j,none⟩=some u:=by
 obtain ⟨q,p,hl⟩:=ad hx;obtain ⟨xs,m,hs⟩:=h;rcases hs with ⟨hn,_⟩|⟨b,c,d,s,e,r,k,_,n,o⟩
 ·rw [hn] at p; omega
 ·refine ⟨b,c,d,k,_,m.2 _ _ hl,fun w f j u a=>?_⟩;rw [List.getElem?_take] at a;split at a
  ·rw [List.getElem?_drop] at a;have:=o _ _ a;simp [World.cell?,f b _ n,Nat.add_assoc] at this ⊢;exact this
  ·cases a
def wS (agg:Bool) (cs:List Value):Value:=if agg then .agg cs.toArray else cs.headD undef
section
variable {P:Program} {E:Env} {w:World} {d:Option Tmp} {ty:TypeId} {ps:String} {af:Array Edge} {gd:Option (Nat×Bool)}
theorem aL {T e:TypeId} {x:Operand} {v:Value} {a:Option Addr} {len cap:Nat} (hT:P.underlying T=some (.slice e)) (hx:ev E x=v) (hv:v=.slice a len cap) :
 cy P E ⟨d,.call { callee:=.builtin .len,args:=#[x],argTypes:=#[T] },ty,ps,af,gd⟩ w (.int .i64 len) w:=.inl (by
 subst hv;simp [execOp,resolve,invoke,builtin,hx,Builtin.len_,run_underlying hT,goInt])
theorem az {T el:TypeId} {x y:Operand} {v:Value} {b o len h:Nat} {q:Int} {k:IntKind} {i:Bool} {size bytes:Nat} {z:Value} (e:P.underlying T=some (.slice el)) (c:en P el i size bytes z)
 (hx:ev E x=v) (a:v=.slice (some ⟨b,o,none⟩) len h) (hy:ev E y=.int k q) (g:0≤q) (f:q<len) :
 cy P E ⟨d,.indexAddr T x y,ty,ps,af,gd⟩ w (.pointer (some ⟨b,o+q.toNat*size,none⟩)) w:=.inl (by
 subst a;simp [execOp,Instr.indexAt,hx,hy,asIntOf,run_underlying e,g,f,dw c,Addr.add_lit])
theorem bu {T:TypeId} {a:Bool} {size bytes:Nat} {z:Value} {x:Operand} {b o:Nat} {cs:List Value} (f:en P T a size bytes z) (hx:ev E x=.pointer (some ⟨b,o,none⟩)) (hl:cs.length=size) (e:a=true∨size=1)
 (g:∀j u,cs[j]?=some u→w.cell? ⟨b,o+j,none⟩=some u) {v:Value} (h:wS a cs=v):cy P E ⟨d,.load T x,ty,ps,af,gd⟩ w v w:=by
 subst h;cases a with
 | true=>exact cp f hx hl (fun j u i=>by rw [Addr.add_lit]; exact g j u i)
 | false=>
  have e:size=1:=by simpa using e
  subst e
  match cs,hl with
  | [c],_=>exact aW (v:=c) f hx (by have:=g 0 c rfl; simpa using this)
end
section
variable {g0 g:Hp} {w0 w:World} {L:List Res} (h:Sep g0 w0 g w L)
include h
theorem Sep.rowShape {i:Nat} {v:Value} {e:TypeId} {sz n:Nat} {xs:List Value} (hi:L[i]?=some (.row v e sz n xs)):∃a cap,v=.slice a n cap:=by
 have:=(h.at hi).out;rcases this.2 with ⟨rfl,rfl⟩|⟨b,cap,cur,rfl,_⟩
 ·exact ⟨_,_,rfl⟩
 ·exact ⟨_,_,rfl⟩
theorem Sep.rowAt {i:Nat} {v:Value} {e:TypeId} {sz n:Nat} {xs:List Value} (g:L[i]?=some (.row v e sz n xs)) (hn:0<n) :
 ∃b c,v=.slice (some ⟨b,0,none⟩) n c∧∀j u,xs[j]?=some u→w.cell? ⟨b,0+j,none⟩=some u:=by
 have:=(h.at g).out;rcases this.2 with ⟨_,rfl⟩|⟨b,c,m,d,_,hb,k,_,l,f⟩
 ·omega
 ·refine ⟨b,c,d,fun j u a=>?_⟩;simp only [World.cell?,hb,Nat.zero_add];rw [←f,List.getElem?_take] at a;split at a
  ·simpa using a
  ·cases a
theorem Sep.rowEl {α:Type} {τ:Ty α} {l:List α} {i:Nat} {v:Value} {e:TypeId} {xs:List Value} (o:L[i]?=some (.row v e τ.sz l.length xs)) (n:ae τ g xs l) {q:Int} {x:α} (hx:bC l q=some x) :
 ∃b d,v=.slice (some ⟨b,0,none⟩) l.length d∧∃cs,τ.rel g cs x∧∀w',(Res.row v e τ.sz l.length xs).ok w'→∀j u,cs[j]?=some u→w'.cell? ⟨b,0+q.toNat*τ.sz+j,none⟩=some u:=by
 obtain ⟨t,s,hl⟩:=ad hx;obtain ⟨b,d,c,_⟩:=h.rowAt o (by omega);refine ⟨b,d,c,_,n.2 _ _ hl,fun w' f j u a=>?_⟩;have k:=f.out;subst c;rcases k.2 with ⟨hn,_⟩|⟨z,y,w,c,_,hb,p,_,r,m⟩
 ·cases hn
 ·cases c
  rw [List.getElem?_take] at a;split at a
  ·rw [List.getElem?_drop,←m,List.getElem?_take] at a;split at a
   ·simp only [World.cell?,hb,Nat.zero_add];simpa [Nat.add_assoc] using a
   ·cases a
  ·cases a
theorem Sep.rowPut {α:Type} {τ:Ty α} {l l':List α} {i:Nat} {v:Value} {e:TypeId} {xs cs:List Value} (m:L[i]?=some (.row v e τ.sz l.length xs)) (f:ae τ g xs l) {q:Int} {x:α} (hx:dk l q x=some l') (d:τ.rel g cs x) :
 ∃b c,v=.slice (some ⟨b,0,none⟩) l.length c∧∃w' xs',(∀P:Program,(storeCells ⟨b,0+q.toNat*τ.sz,none⟩ cs).run P w=.ok () w')∧ae τ g xs' l'∧Sep g0 w0 g w' (L.set i (.row v e τ.sz l'.length xs')):=by
 obtain ⟨J,I,rfl⟩:=bl hx;have hq:q.toNat<l.length:=by omega
 have hl:=τ.len d;have p:=(h.at m).out;rcases p.2 with ⟨_,hn⟩|⟨b,c,a,n,_,hb,j,u,t,o⟩
 ·omega
 ·subst n;have G:q.toNat*τ.sz+τ.sz≤l.length*τ.sz:=by rw [←Nat.succ_mul]; exact Jj _ hq
  have H:l.length*τ.sz≤c*τ.sz:=Jj _ j;refine ⟨b,c,rfl,w.setRow b (a.toList.take (0+q.toNat*τ.sz+0)++cs++a.toList.drop (0+q.toNat*τ.sz+0+cs.length)).toArray,xs.take (q.toNat*τ.sz)++cs++xs.drop (q.toNat*τ.sz+cs.length),
   fun P=>run_storeCells_at P b (0+q.toNat*τ.sz) e cs 0 a w hb (by omega) (τ.one d),f.set d hq,?_⟩
  refine h.upd m (w':=w.setRow b _) ⟨rfl,rfl,rfl,by simp [World.setRow],fun k _ r=>setRow_other w b k _ (fun e=>r (by simp [Res.blk,Value.ownBlock,e]))⟩ ⟨?_⟩ (fun K y=>.inl (by simpa [Res.blk] using y));simp only [Res.okB,Jz];have F:xs.length=l.length*τ.sz:=f.1;refine ⟨by have:=(f.set d hq).1; simpa using this,.inr ⟨b,c,_,rfl,Nat.zero_le _,setRow_heap w b a _ e _ hb,j,u,by rw [List.size_toArray,IW,IW,Jo,JK,Array.length_toList,t]; omega,?_⟩⟩;simp only [Nat.zero_add,Nat.add_zero];rw [←o];have s:l.length*τ.sz≤a.toList.length:=by have:=Array.length_toList (xs:=a); omega
  generalize a.toList=cu at s;generalize hA:q.toNat*τ.sz=A at *;generalize hB:l.length*τ.sz=B at *;have D:(List.take A cu).length=A:=by rw [Jo]; omega
  have z:List.take A (List.take B cu)=List.take A cu:=by rw [List.take_take]; congr 1; omega
  rw [z,Ja,Ja,List.take_append,JG (l:=List.take A cu) (by omega),D,List.take_append,JG (l:=cs) (by omega)];congr 2;rw [List.take_drop];congr 2;omega
end
def cD {α:Type} (B:Nat) (l m:List α):Option (List α):=if (l.length+m.length)*B≤140737488355328 then some (l++m) else none
def oO {α:Type} (B:Nat) (n:Int) (z:α):Option (List α):=if 0≤n∧n*B≤140737488355328 then some (List.replicate n.toNat z) else none
theorem lL {α:Type} {B:Nat} {l m r:List α} (h:cD B l m=some r):r=l++m∧(l.length+m.length)*B≤140737488355328:=by
 unfold cD at h; split at h
 ·rename_i h0; cases h; exact ⟨rfl,h0⟩
 ·cases h
theorem zz {α:Type} {B:Nat} {n:Int} {z:α} {r:List α} (h:oO B n z=some r):r=List.replicate n.toNat z∧0≤n∧n*B≤140737488355328:=by
 unfold oO at h; split at h
 ·rename_i h0; cases h; exact ⟨rfl,h0⟩
 ·cases h
def Da (w:World) (u:Value) (m:Nat) (ys:List Value):Prop:=
 (u=.slice none 0 0∧m=0∧ys=[])∨∃a c,u=.slice (some a) m c∧∀j y,ys[j]?=some y→w.cell? (a.add j)=some y
theorem vn.src {g:Hp} {w:World} {v:Value} {n:Nat} {xs:List Value} (h:vn g v n xs) (i:cY g w):Da w v n xs:=by
 rcases h with ⟨rfl,rfl,a,c,rfl,ha⟩|⟨b,d,c,o,e,m,f,_,k,l⟩
 ·cases a with
  | none=>rw [ha rfl]; exact .inl ⟨rfl,rfl,rfl⟩
  | some a=>exact .inr ⟨a,c,rfl,by simp⟩
 ·exact .inr ⟨⟨b,d,none⟩,c,f,fun j y hy=>by have:=l j y hy; rw [Addr.add_lit]; simp [World.cell?,i b _ k]; simpa using this⟩
theorem Sep.rowSrc {g0 g:Hp} {w0 w:World} {L:List Res} (h:Sep g0 w0 g w L) {i:Nat} {v:Value} {e:TypeId} {sz n:Nat} {xs:List Value} (f:L[i]?=some (.row v e sz n xs)):Da w v n xs:=by
 have:=(h.at f).out;rcases this.2 with ⟨rfl,rfl⟩|⟨b,k,o,c,_,hb,l,_,m,d⟩
 ·have:=this.1; simp at this; exact .inl ⟨rfl,rfl,this⟩
 ·refine .inr ⟨⟨b,0,none⟩,k,c,fun j u a=>?_⟩;rw [Addr.add_lit];simp only [World.cell?,hb,Nat.zero_add];rw [←d,List.getElem?_take] at a;split at a
  ·simpa using a
  ·cases a
section
variable {P:Program} {w:World}
theorem jY (t ty e:TypeId) {g:Bool} {size bytes:Nat} {z:Value} (d:P.underlying t=some (.slice e)) (f:en P e g size bytes z) (b:Option Addr) (n c:Nat) (hn:n≤c) (hb:b=none→n=0) :
 (Builtin.append_ #[t,t] ty #[.slice b n c,.slice none 0 0]).run P w=.ok (.slice b n c) w:=by
 cases b with
 | none=>simp [Builtin.append_,run_underlying d,dw f,Builtin.lenOf,Builtin.firstCells,hn]
 | some a=>simp [Builtin.append_,run_underlying d,dw f,Builtin.lenOf,Builtin.firstCells,hn,storeCells]
theorem ir (t ty e:TypeId) {W:Bool} {size bytes:Nat} {z:Value} (d:P.underlying t=some (.slice e)) (D:en P e W size bytes z) (L:z.cells.size=size) (hsz:0<size)
 {v u:Value} {n m:Nat} {xs ys:List Value} (a:w.ownsRow 0 e size v n xs) (N:Da w u m ys) (hl:ys.length=m*size) (V:∀y∈ys,y.oneCell'=true) (K:n+m≤maxLen) (J:(n+m)*bytes≤140737488355328) :
 ∃v' w',(Builtin.append_ #[t,t] ty #[v,u]).run P w=.ok v' w'∧w'.ownsRow 0 e size v' (n+m) (xs++ys)∧w.grownBy w' v.ownBlock∧(∀b,v'.ownBlock=some b→v.ownBlock=some b∨w.heap.size≤b)∧w'.ownsRow 0 e size v n xs:=by
 have I:∀row,w.grownBy w row:=fun _=>⟨rfl,rfl,rfl,Nat.le_refl _,fun _ _ _=>rfl⟩
 rcases N with ⟨rfl,rfl,rfl⟩|⟨ua,r,rfl,s⟩
 ·refine ⟨v,w,?_,by simpa using a,I _,fun b hb=>.inl hb,a⟩;rcases a.2 with ⟨rfl,rfl⟩|⟨g,c,o,rfl,_,_,x,_⟩
  ·exact jY t ty e d D none 0 0 (Nat.le_refl _) (fun _=>rfl)
  ·exact jY t ty e d D _ n c x (fun h=>by cases h)
 obtain ⟨i,p,G,Q,U⟩:=D.info;subst Q U;have X:n+m≤9223372036854775807:=by simp only [maxLen] at K; omega
 have hlen:(xs++ys).length=(n+m)*i.size:=by rw [IW,a.1,hl,Nat.add_mul]
 have F:∀(old:Nat),old<n+m→∀(row:Option Nat),
  (w.drew.alloc (.cells (xs.toArray++ys.toArray++Builtin.zeroCells z.cells (grownCap w (n+m) old e - (n+m))) e)).ownsRow 0 e i.size
   (.slice (some ⟨w.heap.size,0,none⟩) (n+m) (grownCap w (n+m) old e)) (n+m) (xs++ys)∧
  w.grownBy (w.drew.alloc (.cells (xs.toArray++ys.toArray++Builtin.zeroCells z.cells (grownCap w (n+m) old e - (n+m))) e)) row:=by
  intro old Y row;have R:=grownCap_ge w (n+m) old e;have q:grownCap w (n+m) old e≤maxLen:=grownCap_le_maxLen w (n+m) old e K;refine ⟨⟨hlen,.inr ⟨w.heap.size,_,_,rfl,Nat.zero_le _,heap_alloc_new w.drew _,R,q,?_,?_⟩⟩,⟨rfl,rfl,rfl,by simp,fun k A _=>Below.heap_alloc w.drew _ k A⟩⟩
  ·simp only [Array.size_append,List.size_toArray,size_zeroCells,L,a.1,hl,←Nat.add_mul];congr 1;omega
  ·simp only [Array.toList_append,Ja];rw [←Ja,←hlen];exact List.take_left
 rcases a.2 with ⟨rfl,rfl⟩|⟨g,c,o,rfl,a0,B,x,q,T,H⟩
 ·have hx:xs=[]:=JJ (by simpa using a.1);subst hx
  by_cases hm:m=0
  ·subst hm;have hn:ys=[]:=JJ (by simpa using hl);subst hn;refine ⟨.slice none 0 0,w,?_,World.ownsRow_nil w 0 e i.size,I _,fun b hb=>by simp [Value.ownBlock] at hb,World.ownsRow_nil w 0 e i.size⟩;simp [Builtin.append_,run_underlying d,sizeOf,typeInfo,p,Builtin.lenOf,Builtin.firstCells,loadCells,loadCellsFrom]
  ·have l:=run_append_nil (P:=P) w t ty e i z d p G ua m r ys hl s (by omega) (by omega) (by have hb:=J; simp only [Nat.zero_add] at hb; omega);have f:=F 0 (by omega) (Value.ownBlock (.slice none 0 0));simp only [Nat.zero_add,Jd,Array.empty_append] at f ⊢;exact ⟨_,_,l,f.1,f.2,fun b hb=>.inr (by simp [Value.ownBlock] at hb; omega),World.ownsRow_nil _ 0 e i.size⟩
 ·by_cases hroom:n+m≤c
  ·have S:n*i.size+ys.length≤o.size:=by rw [hl,T,←Nat.add_mul]; exact Jj _ hroom
   have l:=run_append_room (P:=P) w t ty e i d p g n c o B ua m r ys hl s V hroom S;refine ⟨_,_,l,⟨hlen,.inr ⟨g,c,_,rfl,Nat.zero_le _,setRow_heap w g o _ e _ B,hroom,q,?_,?_⟩⟩,⟨rfl,rfl,rfl,by simp,fun k _ A=>setRow_other w g k _ (fun e=>A (by simp [Value.ownBlock,e]))⟩,fun b hb=>.inl (by simpa [Value.ownBlock] using hb),⟨a.1,.inr ⟨g,c,_,rfl,Nat.zero_le _,setRow_heap w g o _ e _ B,x,q,?_,?_⟩⟩⟩
   ·simp only [List.size_toArray,IW,Jo,JK,Array.length_toList];omega
   ·rw [H,←hlen];exact List.take_left
   ·simp only [List.size_toArray,IW,Jo,JK,Array.length_toList];omega
   ·rw [H,Ja,←a.1];exact List.take_left
  ·have holds:∀j u,xs[j]?=some u→w.cell? ((⟨g,0,none⟩:Addr).add j)=some u:=a.cells (g:=g) rfl;have l:=run_append_grow (P:=P) w t ty e i z d p G ⟨g,0,none⟩ n c xs a.1 holds ua m r ys hl s (by omega) (by omega) (growslice_fits (by omega) J);have f:=F c (by omega) (Value.ownBlock (.slice (some ⟨g,0,none⟩) n c));exact ⟨_,_,l,f.1,f.2,fun b hb=>.inr (by simp [Value.ownBlock] at hb; omega),World.ownsRow.kept a (F c (by omega) none).2 (.inr (by simp [Value.ownBlock]))⟩
end
section
variable {P:Program} {n:Fr} {Q:EPost} {E:Env} {w:World} {ops:Array Oper} {rest:List Oper} {d:Tmp} {ty:TypeId} {ps:String} {af:Array Edge} {g0 g:Hp} {w0:World} {L:List Res}
theorem ib {a b:Nat} (h:a*b≤140737488355328) (hb:0<b):a≤maxLen:=by
 have:=Nat.le_mul_of_pos_right a hb;simp only [maxLen]; omega
theorem bH {α:Type} {τ:Ty α} {T el:TypeId} {B:Bool} {bytes:Nat} {z:Value} {x y:Operand} {v u:Value} {l m r:List α} {xs ys:List Value} {i:Nat}
 (A:P.underlying T=some (.slice el)) (q:en P el B τ.sz bytes z) (e:z.cells.size=τ.sz) (hsz:0<τ.sz) (s:0<bytes) (hs:Sep g0 w0 g w L) (c:L[i]?=some (.row v el τ.sz l.length xs)) (j:ae τ g xs l)
 (hx:ev E x=v) (hy:ev E y=u) (f:Da w u m.length ys) (b:ae τ g ys m) (hM:cD bytes l m=some r) (hd:Nat.blt d n.sz=true)
 (k:∀a w' xs',ae τ g xs' r→Sep g0 w0 g w' (L.set i (.row a el τ.sz r.length xs'))→OW P n ops Q rest (cz E d a) w') :
 OW P n ops Q (⟨some d,.call { callee:=.builtin .append,args:=#[x,y],argTypes:=#[T,T] },ty,ps,af,none⟩::rest) E w:=by
 obtain ⟨rfl,hb⟩:=lL hM;obtain ⟨a,w',h,o,p,t,_⟩:=ir (P:=P) (w:=w) T ty el A q e hsz (hs.at c).out f b.1 b.ones (ib hb s) hb;refine O (.inl ?_) hd (k a w' (xs++ys) (j.append b) (hs.upd c p ⟨?_⟩ t))
 ·simp only [execOp,resolve,invoke,builtin,Sem.run_bind,Sem.run_pure,Jf,List.map_toArray,List.map_cons,List.map_nil,hx,hy,h]
 ·simp only [Res.okB,IW]; exact o
theorem eB {α:Type} {τ:Ty α} {T el:TypeId} {J:Bool} {bytes:Nat} {z:Value} {x y:Operand} {v u:Value} {l m r:List α} {xs ys:List Value} {i:Nat}
 (H:P.underlying T=some (.slice el)) (D:en P el J τ.sz bytes z) (p:z.cells.size=τ.sz) (hsz:0<τ.sz) (F:0<bytes) (hs:Sep g0 w0 g w L) (a:L[i]?=some (.row v el τ.sz l.length xs)) (t:ae τ g xs l)
 (hx:ev E x=v) (hy:ev E y=u) (q:Da w u m.length ys) (f:ae τ g ys m) (hM:cD bytes l m=some r) (hd:Nat.blt d n.sz=true)
 (k:∀c w' xs',ae τ g xs' r→Sep g0 w0 g w' L→Sep g0 w0 g w' (L.set i (.row c el τ.sz r.length xs'))→OW P n ops Q rest (cz E d c) w') :
 OW P n ops Q (⟨some d,.call { callee:=.builtin .append,args:=#[x,y],argTypes:=#[T,T] },ty,ps,af,none⟩::rest) E w:=by
 obtain ⟨rfl,hb⟩:=lL hM;obtain ⟨c,w',s,A,o,G,B⟩:=ir (P:=P) (w:=w) T ty el H D p hsz (hs.at a).out q f.1 f.ones (ib hb F) hb;have h:=hs.upd (r':=.row v el τ.sz l.length xs) a o ⟨B⟩ (fun b hb=>.inl hb);have I:L.set i (.row v el τ.sz l.length xs)=L:=by
  apply List.ext_getElem?;intro j;rw [Jy];split
  ·rename_i e; subst e;rw [a];have:=(IR.1 a).1;simp [this]
  ·rfl
 rw [I] at h;refine O (.inl ?_) hd (k c w' (xs++ys) (t.append f) h (hs.upd a o ⟨?_⟩ G))
 ·simp only [execOp,resolve,invoke,builtin,Sem.run_bind,Sem.run_pure,Jf,List.map_toArray,List.map_cons,List.map_nil,hx,hy,s]
 ·simp only [Res.okB,IW]; exact A
theorem wG {α:Type} {τ:Ty α} {T el:TypeId} {U:Bool} {bytes:Nat} {z:Value} {x y:Operand} {v u:Value} {l m r:List α} {xs ys:List Value} {i:Nat}
 (K:P.underlying T=some (.slice el)) (H:en P el U τ.sz bytes z) (t:z.cells.size=τ.sz) (hsz:0<τ.sz) (I:0<bytes) (hs:Sep g0 w0 g w L) (p:L[i]?=some (.row v el τ.sz l.length xs)) (D:ae τ g xs l)
 (hx:ev E x=v) (hy:ev E y=u) (A:Da w u m.length ys) (f:ae τ g ys m) (hM:cD bytes l m=some r) (hd:Nat.blt d n.sz=true)
 (k:∀c w' xs',ae τ g xs' r→(∀ {a:List Res} {j:Nat},a[j]?=some (.row v el τ.sz l.length xs)→Sep g0 w0 g w a→Sep g0 w0 g w' a)→Sep g0 w0 g w' (L.set i (.row c el τ.sz r.length xs'))→OW P n ops Q rest (cz E d c) w') :
 OW P n ops Q (⟨some d,.call { callee:=.builtin .append,args:=#[x,y],argTypes:=#[T,T] },ty,ps,af,none⟩::rest) E w:=by
 obtain ⟨rfl,hb⟩:=lL hM;obtain ⟨c,w',B,F,s,J,G⟩:=ir (P:=P) (w:=w) T ty el K H t hsz (hs.at p).out A f.1 f.ones (ib hb I) hb;have R:∀ {a:List Res} {j:Nat},a[j]?=some (.row v el τ.sz l.length xs)→Sep g0 w0 g w a→Sep g0 w0 g w' a:=by
  intro a j h S;have o:=S.upd (r':=.row v el τ.sz l.length xs) h s ⟨G⟩ (fun b hb=>.inl hb);have N:a.set j (.row v el τ.sz l.length xs)=a:=by
   apply List.ext_getElem?;intro q;rw [Jy];split
   ·rename_i e; subst e;rw [h];have:=(IR.1 h).1;simp [this]
   ·rfl
  rw [N] at o;exact o
 refine O (.inl ?_) hd (k c w' (xs++ys) (D.append f) R (hs.upd p s ⟨?_⟩ J))
 ·simp only [execOp,resolve,invoke,builtin,Sem.run_bind,Sem.run_pure,Jf,List.map_toArray,List.map_cons,List.map_nil,hx,hy,B]
 ·simp only [Res.okB,IW]; exact F
theorem mM (z:Array Value) (m j:Nat) (hj:j<m):(madeCells z m)[j]?=some (z[j % z.size]!):=by simp [madeCells,hj]
theorem uu {α:Type} {τ:Ty α} {zc:List Value} {x:α} {m:Nat} (a:τ.rel g zc x):ae τ g (madeCells zc.toArray (m*τ.sz)).toList (List.replicate m x):=by
 have hl:=τ.len a;refine ⟨by simp [size_madeCells],fun i y hy=>?_⟩;have c:i<m:=by have:=(IR.1 hy).1; simpa using this
 have d:y=x:=by rw [List.getElem?_replicate] at hy; simp [c] at hy; exact hy.symm
 subst d;have e:((madeCells zc.toArray (m*τ.sz)).toList.drop (i*τ.sz)).take τ.sz=zc:=by
  apply List.ext_getElem?;intro j;rw [List.getElem?_take];split
  ·rename_i hj;have h:i*τ.sz+j<m*τ.sz:=by
    have:(i+1)*τ.sz≤m*τ.sz:=Jj _ c;rw [Nat.succ_mul] at this; omega
   rw [List.getElem?_drop,Array.getElem?_toList,mM _ _ _ h];have f:(i*τ.sz+j) % τ.sz=j:=by rw [Nat.mul_comm,Nat.mul_add_mod]; exact JI hj
   have b:j<zc.length:=by omega
   simp only [List.size_toArray,hl,f];rw [IQ b];simp [b]
  ·rename_i hj;rw [Jr (by omega)]
 rw [e]; exact a
theorem dF {α:Type} {τ:Ty α} {T el:TypeId} {A:Bool} {bytes:Nat} {z:Value} {zc:List Value} {zx:α} {x y:Operand} {c a:IntKind} {q:Int} {r:List α}
 (v:P.underlying T=some (.slice el)) (t:en P el A τ.sz bytes z) (j:z.cells=zc.toArray) (h:τ.rel g zc zx) (B:0<bytes) (hs:Sep g0 w0 g w L)
 (hx:ev E x=.int c q) (hy:ev E y=.int a q) (hM:oO bytes q zx=some r) (hd:Nat.blt d n.sz=true)
 (k:∀v' w' xs',ae τ g xs' r→Sep g0 w0 g w' (.row v' el τ.sz r.length xs'::L)→OW P n ops Q rest (cz E d v') w') :
 OW P n ops Q (⟨some d,.makeSlice T x y,ty,ps,af,none⟩::rest) E w:=by
 obtain ⟨rfl,f,hb⟩:=zz hM;obtain ⟨i,s,l,m,u⟩:=t.info;have hq:q≤140737488355328:=by
  have:q*1≤q*bytes:=Int.mul_le_mul_of_nonneg_left (by omega) f;omega
 have e:=run_make (P:=P) w T el i z v s l c a q q f (Int.le_refl _) (by rw [u,Int.mul_comm]; omega) (by omega);rw [m,j] at e;have p:=hs.alloc (.cells (madeCells zc.toArray (q.toNat*τ.sz)) el);have o:=p.upd (i:=0) (r:=.obj w.heap.size (.cells (madeCells zc.toArray (q.toNat*τ.sz)) el)) (r':=.row (.slice (some ⟨w.heap.size,0,none⟩) q.toNat q.toNat) el τ.sz (List.replicate q.toNat zx).length (madeCells zc.toArray (q.toNat*τ.sz)).toList) rfl
  ⟨rfl,rfl,rfl,Nat.le_refl _,fun _ _ _=>rfl⟩ ⟨by
   simp only [Res.okB,Jq];refine ⟨by simp [size_madeCells],.inr ⟨w.heap.size,q.toNat,_,rfl,Nat.zero_le _,heap_alloc_new w _,Nat.le_refl _,by simp only [maxLen]; omega,size_madeCells _ _,?_⟩⟩;rw [JG (by simp [size_madeCells])]⟩ (fun b hb=>.inl (by simpa [Res.blk,Value.ownBlock] using hb))
 refine O (.inl ?_) hd (k _ _ _ (uu h) o);simp [execOp,hx,hy,e]
theorem zU (size:Nat):∀(vs:List Value) (k:Nat) (pre old:List Value),(∀v∈vs,v.cells.size=size)→pre.length=k*size→old.length=vs.length*size→
 Instr.fill (fun i=>some (i*size,size)) (pre++old).toArray ((vs.zipIdx k).map fun p=>(p.2,p.1))=some (pre++vs.flatMap fun v=>v.cells.toList).toArray:=by
 intro vs;induction vs with
 | nil=>intro k pre old _ _ d; simp at d; subst d; simp [Instr.fill]
 | cons v vs ih=>
  intro k pre old g hp d;have b:=g v (by simp);simp only [List.zipIdx_cons,List.map_cons,Instr.fill];have j:size≤old.length:=by rw [d]; simp [Nat.succ_mul]
  have hlen:k*size+v.cells.size≤(pre++old).toArray.size:=by simp [hp,b]; omega
  rw [if_neg (by simp [b,hp] at *; omega)];have e:v.cells.zipIdx.foldl (fun cs (x:Value×Nat)=>cs.setIfInBounds (k*size+x.2) x.1) (pre++old).toArray=((pre++v.cells.toList)++old.drop size).toArray:=by
   have key:∀(cs:List Value) (q:Nat) (acc old:List Value),acc.length=k*size+q→cs.length≤old.length→
    (cs.zipIdx q).foldl (fun a (x:Value×Nat)=>a.setIfInBounds (k*size+x.2) x.1) (acc++old).toArray=(acc++cs++old.drop cs.length).toArray:=by
    intro cs;induction cs with
    | nil=>intro q acc old _ _; simp
    | cons c cs ihc=>
     intro q acc old ha f
     match old,f with
     | o::old,f=>
      simp only [List.zipIdx_cons,List.foldl_cons];have l:(acc++o::old).toArray.setIfInBounds (k*size+q) c=((acc++[c])++old).toArray:=by
       rw [←ha];simp [List.setIfInBounds_toArray]
      rw [l,ihc (q+1) (acc++[c]) old (by simp [ha]; omega) (by simpa using f)];simp
   have:=key v.cells.toList 0 pre old (by simpa using hp) (by simpa [b] using j);rw [←Array.foldl_toList,Array.toList_zipIdx];rw [this];simp [b]
  rw [e];have:=ih (k+1) (pre++v.cells.toList) (old.drop size) (fun u h=>g u (by simp [h])) (by simp [hp,b,Nat.succ_mul]) (by simp [d,Nat.succ_mul]);rw [this];simp
def Cy {α:Type} (τ:Ty α) (g:Hp):List Value→List α→Prop
 | [],[]=>True
 | v::vs,x::l=>τ.rel g v.cells.toList x∧Cy τ g vs l
 | _,_=>False
theorem qk {α:Type} {τ:Ty α}:∀ {vs:List Value} {l:List α},Cy τ g vs l→ae τ g (vs.flatMap fun v=>v.cells.toList) l∧vs.length=l.length∧∀v∈vs,v.cells.size=τ.sz
 | [],[],_=>⟨ae.nil,rfl,by simp⟩
 | v::vs,x::l,h=>by
  obtain ⟨d,c,b⟩:=qk h.2;refine ⟨(ae.one h.1).append d,by simp [c],fun u a=>?_⟩;rcases Js.1 a with rfl|a
  ·have:=τ.len h.1; simpa using this
  ·exact b u a
 | [],_::_,h=>h.elim
 | _::_,[],h=>h.elim
theorem xL {α:Type} {τ:Ty α} {T el:TypeId} {F:Bool} {bytes:Nat} {z:Value} {parts:Array (Nat×Operand)} {len:Nat} (vs:List Value) (l:List α)
 (B:P.underlying T=some (.slice el)) (j:en P el F τ.sz bytes z) (hsz:0<τ.sz) (hs:Sep g0 w0 g w L) (hlen:len=l.length) (q:Nat.ble (len*τ.sz) 16777216=true)
 (hp:(parts.toList.map fun p=>(p.1,ev E p.2))=(vs.zipIdx 0).map fun p=>(p.2,p.1)) (hl:Cy τ g vs l) (hd:Nat.blt d n.sz=true)
 (k:∀v' w' xs',ae τ g xs' l→(∀h,Sep g0 w0 g w h→Sep g0 w0 g w' h)→Sep g0 w0 g w' (.row v' el τ.sz l.length xs'::L)→OW P n ops Q rest (cz E d v') w') :
 OW P n ops Q (⟨some d,.buildSlice T len parts,ty,ps,af,none⟩::rest) E w:=by
 obtain ⟨a,o,m⟩:=qk hl;have G:len*τ.sz≤16777216:=Nat.le_of_ble_eq_true q;subst hlen;have c:=zU τ.sz vs 0 [] (madeCells z.cells (l.length*τ.sz)).toList m (by simp) (by simp [size_madeCells,o]);simp only [Jd,Array.toArray_toList] at c;have t:=hs.alloc (.cells (vs.flatMap fun v=>v.cells.toList).toArray el);have s:=t.upd (i:=0) (r:=.obj w.heap.size (.cells (vs.flatMap fun v=>v.cells.toList).toArray el)) (r':=.row (.slice (some ⟨w.heap.size,0,none⟩) l.length l.length) el τ.sz l.length (vs.flatMap fun v=>v.cells.toList)) rfl
  ⟨rfl,rfl,rfl,Nat.le_refl _,fun _ _ _=>rfl⟩ ⟨by
   simp only [Res.okB];refine ⟨a.1,.inr ⟨w.heap.size,l.length,_,rfl,Nat.zero_le _,heap_alloc_new w _,Nat.le_refl _,ib (b:=τ.sz) (by omega) hsz,by simpa using a.1,?_⟩⟩;rw [JG (Nat.le_of_eq a.1)]⟩ (fun b hb=>.inl (by simpa [Res.blk,Value.ownBlock] using hb))
 refine O (.inl ?_) hd (k _ _ _ a (fun h D=>(D.alloc _).sub (.cons _ (List.Sublist.refl _))) s);have hn:¬ (l.length*τ.sz > 2 ^ 24):=by omega
 have y:(parts.map fun x=>(x.1,ev E x.2))=((vs.zipIdx 0).map fun p=>(p.2,p.1)).toArray:=by apply Array.ext'; rw [Array.toList_map,←hp]
 have A:(Instr.buildSlice T l.length (((vs.zipIdx 0).map fun p=>(p.2,p.1)).toArray)).run P w=.ok (.slice (some ⟨w.heap.size,0,none⟩) l.length l.length) (w.alloc (.cells (vs.flatMap fun v=>v.cells.toList).toArray el)):=by
  unfold Instr.buildSlice;simp only [Sem.run_bind,run_underlying B,Jf,dw j,if_neg hn]
  by_cases e:l.length*τ.sz=0
  ·rw [e] at c;simp only [e,if_true,Sem.run_bind,Sem.run_pure,Jf];have f:(Array.range 0).map (fun x=>(#[]:Array Value)[x % (#[]:Array Value).size]!)=madeCells z.cells 0:=by simp [madeCells]
   rw [f,c];simp [newRow]
  ·simp only [e,if_false,Sem.run_bind,iq j,Sem.run_pure,Jf];have f:(Array.range (l.length*τ.sz)).map (fun x=>z.cells[x % z.cells.size]!)=madeCells z.cells (l.length*τ.sz):=rfl;rw [f,c];simp [newRow]
 have u:(parts.map fun (i,x)=>(i,ev E x))=((vs.zipIdx 0).map fun p=>(p.2,p.1)).toArray:=y;simp only [execOp,Sem.run_bind,u,A,Jf,Sem.run_pure]
theorem bG {α:Type} {τ:Ty α} {T el:TypeId} {j:Bool} {bytes:Nat} {z:Value} {parts:Array (Nat×Operand)} {len:Nat} (vs:List Value) (l:List α)
 (f:P.underlying T=some (.slice el)) (e:en P el j τ.sz bytes z) (hsz:0<τ.sz) (hs:Sep g0 w0 g w L) (hlen:len=l.length) (c:Nat.ble (len*τ.sz) 16777216=true)
 (hp:(parts.toList.map fun p=>(p.1,ev E p.2))=(vs.zipIdx 0).map fun p=>(p.2,p.1)) (hl:Cy τ g vs l) (hd:Nat.blt d n.sz=true)
 (k:∀b w' a,ae τ g a l→Sep g0 w0 g w' (.row b el τ.sz l.length a::L)→OW P n ops Q rest (cz E d b) w') :
 OW P n ops Q (⟨some d,.buildSlice T len parts,ty,ps,af,none⟩::rest) E w:=
 xL vs l f e hsz hs hlen c hp hl hd fun b w' a i _ h=>k b w' a i h
theorem Sep.relRow {α:Type} {τ:Ty α} {l:List α} {i:Nat} {v:Value} {e:TypeId} {xs:List Value} (h:Sep g0 w0 g w L) (d:L[i]?=some (.row v e τ.sz l.length xs)) (m:ae τ g xs l) :
 ∃g',bc g g'∧cA τ g' v l∧Sep g0 w0 g' w (L.eraseIdx i):=by
 have k:=(h.at d).out;rcases k.2 with ⟨rfl,hn⟩|⟨b,p,o,rfl,_,hb,n,_,q,f⟩
 ·have:l=[]:=JJ hn;subst this;exact ⟨g,bc.refl g,cA.nil,h.sub (List.eraseIdx_sublist L i)⟩
 ·obtain ⟨hs,c⟩:=h.release d (b:=b) rfl hb;refine ⟨_,c,⟨xs,m.mono c,.inr ⟨b,0,p,o,e,(0,0),rfl,n,by simp [uQ],fun j u a=>?_⟩⟩,hs⟩;rw [←f,List.getElem?_take] at a;split at a
  ·simpa using a
  ·cases a
end
def cb {K V:Type} [BEq K] (m:List (K×V)) (k:K):Option V:=(m.find? fun p=>p.1 == k).map (·.2)
def dQ {K V:Type} [BEq K]:List (K×V)→K→V→List (K×V)
 | [],k,v=>[(k,v)]
 | p::m,k,v=>bif p.1 == k then (k,v)::m else p::dQ m k v
structure ln (P:Program) (T:TypeId) {K:Type} [BEq K] (ek:K→Value):Prop where
  check:∀(b:Bool) (k:K) (w:World),(Instr.checkKey b 10000 T (ek k)).run P w=.ok () w
  find:∀(k:K) (es:List MapEntry) (c:List K) (w:World),es.map (·.key)=c.map ek→(Instr.findKey T (ek k) es).run P w=.ok ((c.findIdx? (· == k)).bind fun i=>(es[i]?).map fun e=>(i,e.val)) w
  stays:∀k:K,Instr.sameBits 10000 (ek k) (ek k)=true
  lawful:LawfulBEq K
  inj:∀a b:K,ek a=ek b→a=b
theorem mN {K:Type} [BEq K] {ek:K→Value} {D:TypeDesc} (h:∀a b,Instr.sameNow D (ek a) (ek b)=some (a == b)) (d:∀a b:K,(a == b)=(b == a)) (k:K) :
 ∀(es:List MapEntry) (c:List K) (i:Nat),es.map (·.key)=c.map ek→Instr.findNow D (ek k) es i=some ((c.findIdx? (· == k)).bind fun j=>(es[j]?).map fun e=>(i+j,e.val))
 | [],[],i,_=>rfl
 | [],_::_,_,h=>by simp at h
 | _::_,[],_,h=>by simp at h
 | e::es,x::c,i,he=>by
  simp only [List.map_cons,List.cons.injEq] at he;simp only [Instr.findNow,he.1,h];rw [d k x,List.findIdx?_cons];cases hx:x == k
  ·have:=mN h d k es c (i+1) he.2;simp only [this];cases hj:c.findIdx? (· == k) with
   | none=>simp
   | some j=>simp [Nat.add_assoc,Nat.add_comm 1 j]
  ·simp
theorem cJ {P:Program} {T:TypeId} {k:IntKind} (c:P.underlying T=some (.int k)):ln P T (K:=Int) (Value.int k) where
 check b n w:=MapKept.run_checkKey c (k:=.int k n) rfl b 9999
 find n es ks w h:=by
  have:=mN (ek:=Value.int k) (D:=.int k) (fun a b=>by simp [Instr.sameNow]) (fun a b=>BEq.comm) n es ks 0 h;simp only [Instr.findKey,Sem.run_bind,run_underlying c,Jf,this];simp
 stays n:=MapKept.sameBits_self (d:=.int k) (k:=.int k n) rfl 10000
 lawful:=inferInstance
 inj a b h:=by cases h; rfl
theorem zX (a b:Str):((ByteArray.mk a.toArray) == (ByteArray.mk b.toArray))=(a == b):=by
 rw [Bool.eq_iff_iff,MapKept.bytes_beq];simp
theorem eA {P:Program} {T:TypeId} (c:P.underlying T=some .string):ln P T (K:=Str) an where
 check b n w:=MapKept.run_checkKey c (k:=an n) trivial b 9999
 find n es ks w h:=by
  have:=mN (ek:=an) (D:=.string) (fun a b=>by simp only [Instr.sameNow,an]; rw [zX]) (fun a b=>BEq.comm) n es ks 0 h;simp only [Instr.findKey,Sem.run_bind,run_underlying c,Jf,this];simp
 stays n:=MapKept.sameBits_self (d:=.string) (k:=an n) trivial 10000
 lawful:=inferInstance
 inj a b h:=by simpa [an] using h
structure dc {K V:Type} (ek:K→Value) (vf:V→Value) (es:Array MapEntry) (ck:Nat) (m:List (K×V)):Prop where
  ents:es.toList.map (fun e=>(e.key,e.val))=m.map fun p=>(ek p.1,vf p.2)
  stamp:MapKept.Stamped es ck
theorem dc.keys {K V:Type} {ek:K→Value} {vf:V→Value} {es:Array MapEntry} {ck:Nat} {m:List (K×V)} (h:dc ek vf es ck m):es.toList.map (·.key)=(m.map (·.1)).map ek:=by
 have:=congrArg (List.map Prod.fst) h.ents;simpa [JF,Function.comp_def] using this
theorem dc.val {K V:Type} {ek:K→Value} {vf:V→Value} {es:Array MapEntry} {ck:Nat} {m:List (K×V)} (h:dc ek vf es ck m) (i:Nat):(es.toList[i]?).map (·.val)=(m[i]?).map fun p=>vf p.2:=by
 have:=congrArg (fun l=>(l[i]?).map Prod.snd) h.ents;simpa [Jx,Function.comp_def] using this
theorem dc.size {K V:Type} {ek:K→Value} {vf:V→Value} {es:Array MapEntry} {ck:Nat} {m:List (K×V)} (h:dc ek vf es ck m):es.size=m.length:=by
 have:=congrArg List.length h.ents;simpa using this
theorem kZ {K V:Type} [BEq K] (m:List (K×V)) (k:K):cb m k=(((m.map (·.1)).findIdx? (· == k)).bind fun i=>(m[i]?)).map (·.2):=by
 unfold cb;congr 1;induction m with
 | nil=>rfl
 | cons p m ih=>
  simp only [List.find?_cons,List.map_cons,List.findIdx?_cons];cases hp:p.1 == k
  ·simp only [ih,Bool.false_eq_true,if_false];cases (m.map (·.1)).findIdx? (· == k) <;> simp
  ·simp
theorem tu {K V:Type} [BEq K] {m:List (K×V)} {k:K} {v:V} (h:(m.map (·.1)).findIdx? (· == k)=none):dQ m k v=m++[(k,v)]:=by
 induction m with
 | nil=>rfl
 | cons p m ih=>
  simp only [List.map_cons,List.findIdx?_cons] at h;cases hp:p.1 == k
  ·rw [hp] at h;simp only [Bool.false_eq_true,if_false,Option.map_eq_none_iff] at h;simp [dQ,hp,ih h]
  ·rw [hp] at h; simp at h
theorem jL {K V:Type} [BEq K] {m:List (K×V)} {k:K} {v:V} {i:Nat} (h:(m.map (·.1)).findIdx? (· == k)=some i):dQ m k v=m.set i (k,v)∧i<m.length∧((m[i]?).map fun p=>p.1 == k)=some true:=by
 induction m generalizing i with
 | nil=>simp at h
 | cons p m ih=>
  simp only [List.map_cons,List.findIdx?_cons] at h;cases hp:p.1 == k
  ·rw [hp] at h;simp only [Bool.false_eq_true,if_false,Option.map_eq_some_iff] at h;obtain ⟨j,a,rfl⟩:=h;obtain ⟨c,d,b⟩:=ih a;exact ⟨by simp [dQ,hp,c],by simp; omega,by simpa using b⟩
  ·rw [hp] at h;simp at h;subst h;exact ⟨by simp [dQ,hp],by simp,by simp [hp]⟩
theorem dc.push {P:Program} {Tk:TypeId} {K V:Type} [BEq K] {ek:K→Value} {vf:V→Value} {es:Array MapEntry} {c:Nat} {m:List (K×V)} {kk:K} {vv:V} (h:dc ek vf es c m) (f:ln P Tk ek) (g:(m.map (·.1)).findIdx? (· == kk)=none) :
 dc ek vf (es.push ⟨ek kk,vf vv,c⟩) (c+1) (dQ m kk vv):=by
 have n:=h.keys;obtain ⟨d,k,j⟩:=h.stamp;refine ⟨by rw [tu g]; simp [h.ents],fun x hx=>?_,?_,?_⟩
 ·simp only [Array.toList_push,IZ,IY] at hx;rcases hx with hx|rfl
  ·have:=d x hx; omega
  ·simp
 ·simp only [Array.toList_push,Jh,List.map_cons,List.map_nil];refine List.nodup_append.2 ⟨k,by simp,fun a ha b hb e=>?_⟩;obtain ⟨x,hx,rfl⟩:=Jt.1 ha;have:=d x hx;simp only [IY] at hb;omega
 ·simp only [Array.toList_push,Jh,List.map_cons,List.map_nil];refine List.nodup_append.2 ⟨j,by simp,fun a ha b hb e=>?_⟩;simp only [IY] at hb;rw [n] at ha;obtain ⟨k',l,rfl⟩:=Jt.1 ha;have o:k'=kk:=f.inj _ _ (e.trans hb);have:=f.lawful;have i:=List.findIdx?_eq_none_iff.1 g k' l;rw [o] at i;simp at i
theorem kt {es:Array MapEntry} {a j:Nat} {k v:Value} (h:MapKept.Stamped es a) (hlen:j<es.size) (b:es[j].key=k):MapKept.Stamped (es.modify j fun e=>{ e with key:=k,val:=v }) a:=by
 have hb:(es.modify j fun e=>{ e with key:=k,val:=v }).toList.map (·.born)=es.toList.map (·.born):=by
  apply List.ext_getElem?;intro q;simp only [Array.toList_modify,Jx,List.getElem?_modify,Array.getElem?_toList]
  by_cases hq:j=q
  ·subst hq; simp [hlen]
  ·simp [hq]
 have c:(es.modify j fun e=>{ e with key:=k,val:=v }).toList.map (·.key)=es.toList.map (·.key):=by
  apply List.ext_getElem?;intro q;simp only [Array.toList_modify,Jx,List.getElem?_modify,Array.getElem?_toList]
  by_cases hq:j=q
  ·subst hq; simp [hlen,b]
  ·simp [hq]
 refine ⟨fun x hx=>?_,by rw [hb]; exact h.2.1,by rw [c]; exact h.2.2⟩;have:x.born∈es.toList.map (·.born):=by rw [←hb]; exact Jt.2 ⟨x,hx,rfl⟩
 obtain ⟨y,hy,e⟩:=Jt.1 this;rw [←e]; exact h.1 y hy
section
variable {P:Program} {n:Fr} {Q:EPost} {E:Env} {w:World} {ops:Array Oper} {rest:List Oper} {d:Tmp} {d':Option Tmp} {ty:TypeId} {ps:String} {af:Array Edge} {gd:Option (Nat×Bool)} {g0 g:Hp} {w0:World} {L:List Res}
variable {K V:Type} [BEq K] {ek:K→Value} {vf:V→Value} {T Tk Te:TypeId}
theorem dV (hs:Sep g0 w0 g w L) (hd:Nat.blt d n.sz=true) (k:∀b w',Sep g0 w0 g w' (.obj b (.map #[] 0)::L)→OW P n ops Q rest (cz E d (.map (some b))) w') :
 OW P n ops Q (⟨some d,.makeMap T none,ty,ps,af,none⟩::rest) E w:=
 O (.inl (by simp [execOp,Instr.makeMap])) hd (k _ _ (hs.alloc (.map #[] 0)))
omit [BEq K] in
theorem fo:dc ek vf #[] 0 []:=⟨rfl,by simp [MapKept.Stamped]⟩
theorem gL {es:Array MapEntry} {d b i:Nat} {m:List (K×V)} {x y:Operand} {kk:K} {n:Bool} {size bytes:Nat} {z:V} (l:P.underlying T=some (.map Tk Te)) (k:en P Te n size bytes (vf z)) (a:ln P Tk ek)
 (hs:Sep g0 w0 g w L) (h:L[i]?=some (.obj b (.map es d))) (c:dc ek vf es d m) (hx:ev E x=.map (some b)) (hy:ev E y=ek kk) :
 cy P E ⟨d',.lookup T x y true,ty,ps,af,gd⟩ w (.tuple #[vf ((cb m kk).getD z),.bool (cb m kk).isSome]) w:=.inl (by
 have hb:=(hs.at h).out;simp only [Res.okB] at hb;have hf:=a.find kk es.toList (m.map (·.1)) w c.keys;have f:=c.val;rw [kZ];simp only [execOp,Instr.lookup,hx,hy,Sem.run_bind,run_underlying l,Jf,getObj,Sem.run,hb,Sem.run_pure,a.check,hf];cases hj:(m.map (·.1)).findIdx? (· == kk) with
 | none=>simp [iq k]
 | some j=>
  have:=f j;obtain ⟨_,o,_⟩:=jL (v:=z) hj;cases hm':m[j]? with
  | none=>rw [List.getElem?_eq_none_iff] at hm'; omega
  | some p=>
   rw [hm'] at this;cases he':es.toList[j]? with
   | none=>rw [he'] at this; simp at this
   | some e=>
    rw [he'] at this;simp only [Option.map_some,Option.some.injEq] at this;simp only [IS,he',Option.map_some,hm',Option.getD_some,Option.isSome_some,if_true];rw [this];rfl)
omit [BEq K] in
theorem kG {es:Array MapEntry} {a b i:Nat} {m:List (K×V)} {x:Operand} (e:P.underlying T=some (.map Tk Te)) (hs:Sep g0 w0 g w L) (d:L[i]?=some (.obj b (.map es a))) (c:dc ek vf es a m) (hx:ev E x=.map (some b)) :
 cy P E ⟨d',.call { callee:=.builtin .len,args:=#[x],argTypes:=#[T] },ty,ps,af,gd⟩ w (.int .i64 m.length) w:=.inl (by
 have hb:=(hs.at d).out;simp only [Res.okB] at hb;rw [←c.size];simp [execOp,resolve,invoke,builtin,hx,Builtin.len_,run_underlying e,getObj,Sem.run,hb,goInt])
theorem fA {es:Array MapEntry} {h b i:Nat} {m:List (K×V)} {x y u:Operand} {kk:K} {vv:V} (A:P.underlying T=some (.map Tk Te)) (c:ln P Tk ek)
 (hs:Sep g0 w0 g w L) (z:L[i]?=some (.obj b (.map es h))) (d:dc ek vf es h m) (hx:ev E x=.map (some b)) (hy:ev E y=ek kk) (s:ev E u=vf vv)
 (k:∀f clock' w',dc ek vf f clock' (dQ m kk vv)→Sep g0 w0 g w' (L.set i (.obj b (.map f clock')))→OW P n ops Q rest E w') :
 OW P n ops Q (⟨none,.mapUpdate T x y u,ty,ps,af,none⟩::rest) E w:=by
 have hb:=(hs.at z).out;simp only [Res.okB] at hb;have hf:=c.find kk es.toList (m.map (·.1)) w d.keys;have D:=(Array.getElem?_eq_some_iff.1 hb).1;have cz:∀(f:Array MapEntry) (r:Nat),Sep g0 w0 g { w with heap:=w.heap.setIfInBounds b (.map f r) } (L.set i (.obj b (.map f r))):=fun f r=>
  hs.upd z ⟨rfl,rfl,rfl,by simp,fun k _ a=>by
   simp only [Res.blk] at a;simp only [Array.getElem?_setIfInBounds];rw [if_neg (fun e=>a (by rw [e]))]⟩ ⟨by simp [Res.okB,D]⟩ (fun I F=>.inl (by simpa [Res.blk] using F))
 have B:=d.keys;cases hj:(m.map (·.1)).findIdx? (· == kk) with
 | none=>
  rw [hj] at hf;refine O0 (.inl ?_) (k (es.push ⟨ek kk,vf vv,h⟩) (h+1) _ ?_ (cz _ _))
  ·simp only [execOp,Instr.mapUpdate,hx,hy,s,Sem.run_bind,run_underlying A,Jf,getObj,Sem.run,hb,Sem.run_pure,c.check,hf];simp [setObj,Sem.run,hb]
  ·exact d.push c hj
 | some j=>
  obtain ⟨H,G,o⟩:=jL (v:=vv) hj;have hlen:j<es.size:=by rw [d.size]; exact G
  have t:es[j].key=ek kk:=by
   have a:=congrArg (fun l=>l[j]?) B;simp only [Jx,Array.getElem?_toList,JF] at a;rw [Array.getElem?_eq_getElem hlen] at a;cases hmj:m[j]? with
   | none=>rw [List.getElem?_eq_none_iff] at hmj; omega
   | some p=>
    rw [hmj] at a o;simp only [Option.map_some,Option.some.injEq] at o a;have:=c.lawful;rw [a,←eq_of_beq o]; rfl
  rw [hj] at hf;simp only [IS,Array.getElem?_toList,Array.getElem?_eq_getElem hlen,Option.map_some] at hf;refine O0 (.inl ?_) (k (es.modify j fun e=>{ e with key:=ek kk,val:=vf vv }) h _ ?_ (cz _ _))
  ·simp only [execOp,Instr.mapUpdate,hx,hy,s,Sem.run_bind,run_underlying A,Jf,getObj,Sem.run,hb,Sem.run_pure,c.check,hf];simp [Instr.keyThatStays,hlen,t,c.stays,setObj,Sem.run,hb]
  ·refine ⟨?_,kt d.stamp hlen t⟩;rw [H,List.map_set,←d.ents];apply List.ext_getElem?;intro q;simp only [Array.toList_modify,Jx,List.getElem?_modify,Jy,Jg,Array.length_toList,Array.getElem?_toList]
   by_cases hq:j=q
   ·subst hq; simp [hlen]
   ·simp [hq]
theorem eZ {es:Array MapEntry} {h b i:Nat} {m:List (K×V)} {x y u:Operand} {kk:K} {vv:V} (A:P.underlying T=some (.map Tk Te)) (c:ln P Tk ek)
 (hs:Sep g0 w0 g w L) (z:L[i]?=some (.obj b (.map es h))) (d:dc ek vf es h m) (hx:ev E x=.map (some b)) (hy:ev E y=ek kk) (s:ev E u=vf vv)
 (k:∀f clock' w',dc ek vf f clock' (dQ m kk vv)→Sep g0 w0 g w' (L.set i (.obj b (.map f clock')))→OW P n ops Q rest E w') :
 OW P n ops Q (⟨none,.insert T x y u,ty,ps,af,none⟩::rest) E w:=by
 have hb:=(hs.at z).out;simp only [Res.okB] at hb;have hf:=c.find kk es.toList (m.map (·.1)) w d.keys;have D:=(Array.getElem?_eq_some_iff.1 hb).1;have cz:∀(f:Array MapEntry) (r:Nat),Sep g0 w0 g { w with heap:=w.heap.setIfInBounds b (.map f r) } (L.set i (.obj b (.map f r))):=fun f r=>
  hs.upd z ⟨rfl,rfl,rfl,by simp,fun k _ a=>by
   simp only [Res.blk] at a;simp only [Array.getElem?_setIfInBounds];rw [if_neg (fun e=>a (by rw [e]))]⟩ ⟨by simp [Res.okB,D]⟩ (fun I F=>.inl (by simpa [Res.blk] using F))
 have B:=d.keys;cases hj:(m.map (·.1)).findIdx? (· == kk) with
 | none=>
  rw [hj] at hf;refine O0 (.inl ?_) (k (es.push ⟨ek kk,vf vv,h⟩) (h+1) _ ?_ (cz _ _))
  ·simp only [execOp,Instr.mapUpdate,hx,hy,s,Sem.run_bind,run_underlying A,Jf,getObj,Sem.run,hb,Sem.run_pure,c.check,hf];simp [setObj,Sem.run,hb]
  ·exact d.push c hj
 | some j=>
  obtain ⟨H,G,o⟩:=jL (v:=vv) hj;have hlen:j<es.size:=by rw [d.size]; exact G
  have t:es[j].key=ek kk:=by
   have a:=congrArg (fun l=>l[j]?) B;simp only [Jx,Array.getElem?_toList,JF] at a;rw [Array.getElem?_eq_getElem hlen] at a;cases hmj:m[j]? with
   | none=>rw [List.getElem?_eq_none_iff] at hmj; omega
   | some p=>
    rw [hmj] at a o;simp only [Option.map_some,Option.some.injEq] at o a;have:=c.lawful;rw [a,←eq_of_beq o]; rfl
  rw [hj] at hf;simp only [IS,Array.getElem?_toList,Array.getElem?_eq_getElem hlen,Option.map_some] at hf;refine O0 (.inl ?_) (k (es.modify j fun e=>{ e with key:=ek kk,val:=vf vv }) h _ ?_ (cz _ _))
  ·simp only [execOp,Instr.mapUpdate,hx,hy,s,Sem.run_bind,run_underlying A,Jf,getObj,Sem.run,hb,Sem.run_pure,c.check,hf];simp [Instr.keyThatStays,hlen,t,c.stays,setObj,Sem.run,hb]
  ·refine ⟨?_,kt d.stamp hlen t⟩;rw [H,List.map_set,←d.ents];apply List.ext_getElem?;intro q;simp only [Array.toList_modify,Jx,List.getElem?_modify,Jy,Jg,Array.length_toList,Array.getElem?_toList]
   by_cases hq:j=q
   ·subst hq; simp [hlen]
   ·simp [hq]
end
section
variable {P:Program} {E:Env} {w:World} {d:Option Tmp} {ty:TypeId} {ps:String} {af:Array Edge} {gd:Option (Nat×Bool)}
theorem yg {x:Operand} {vs:List Value} {i:Nat} {v:Value} (hx:ev E x=.tuple vs.toArray) (hi:vs[i]?=some v):cy P E ⟨d,.extract x i,ty,ps,af,gd⟩ w v w:=.inl (by simp [execOp,Instr.extract,hx,hi])
theorem Dk {T T':TypeId} {x y:Operand} {a b:Bool} (hT:P.underlying T=some .bool) (hx:ev E x=.bool a) (hy:ev E y=.bool b):cy P E ⟨d,.binOp .eql T x y T',ty,ps,af,gd⟩ w (.bool (a == b)) w:=
 bS (by rw [hx,eqGuard_at_bool]; rfl) (by rw [hx,hy,run_eql_bool w T a b hT])
theorem zi {T T':TypeId} {x y:Operand} {a b:Bool} (hT:P.underlying T=some .bool) (hx:ev E x=.bool a) (hy:ev E y=.bool b):cy P E ⟨d,.binOp .neq T x y T',ty,ps,af,gd⟩ w (.bool (!(a == b))) w:=
 bS (by rw [hx,eqGuard_at_bool]; rfl) (by rw [hx,hy,run_neq_bool w T a b hT])
theorem kH {T T':TypeId} {x y:Operand} {a b:Str} (hx:ev E x=an a) (hy:ev E y=an b):cy P E ⟨d,.binOp .eql T x y T',ty,ps,af,gd⟩ w (.bool (a == b)) w:=
 bS (by rw [hx,hy]; rfl) (by rw [hx,hy]; simp [binOp,Op.stringOp,an])
def Aj (a b:Str):Option Str:=if a.length+b.length≤9223372036854775807 then some (a++b) else none
theorem Dl {T T':TypeId} {x y:Operand} {a b c:Str} (hx:ev E x=an a) (hy:ev E y=an b) (h:Aj a b=some c):cy P E ⟨d,.binOp .add T x y T',ty,ps,af,gd⟩ w (an c) w:=
 bS (by rw [hx,hy]; rfl) (by
  unfold Aj at h;split at h
  ·rename_i e;cases h
   have:=run_string_add_sum (P:=P) (w:=w) ⟨a.toArray⟩ ⟨b.toArray⟩ (by simpa [ByteArray.size_mk'] using e);rw [hx,hy];simp only [binOp,an];rw [this];congr 2
  ·cases h)
theorem vN {f:FuncId} {fn:Func} {xs:Array Operand} {c:Array TypeId} {args:List Value} (hf:P.funcs[f]?=some fn) (hb:fn.body.isSome=true) (hn:(fn.name == "runtime.NumGoroutine")=false) (ha:xs.toList.map (ev E)=args) :
 (execOp (ev E) ⟨d,.call { callee:=.value (.func f),args:=xs,argTypes:=c },ty,ps,af,gd⟩).run P w=.ok (.enter f args.toArray) w:=by
 have ha:xs.map (ev E)=args.toArray:=by apply Array.ext'; rw [Array.toList_map,ha]
 have e:fn.body.isNone=false:=by cases hfb:fn.body <;> simp [hfb] at hb ⊢
 have a:¬ fn.name = "runtime.NumGoroutine":=by simpa using hn
 have b:¬ fn.body=none:=by intro h; rw [h] at hb; cases hb
 simp [execOp,resolve,Deferred.ofValue,invoke,callFunc,ev,ha,hf,b,a]
end
def cX (l:List Int):Str:=l.map fun n=>UInt8.ofNat n.toNat
theorem qZ:∀(ns:List Int) (s:ByteArray),ns.foldl (fun r n=>r.push (UInt8.ofNat n.toNat)) s=⟨(s.data.toList++cX ns).toArray⟩
 | [],s=>by simp [cX]
 | n::ns,s=>by
  simp only [List.foldl_cons,qZ ns];simp [cX,ByteArray.push]
section
variable {P:Program} {E:Env} {w:World} {d:Option Tmp} {ty:TypeId} {ps:String} {af:Array Edge} {gd:Option (Nat×Bool)}
theorem np {S T e:TypeId} {x:Operand} {v:Value} {l:List Int} {xs:List Value} {g:Hp} (m:P.underlying S=some (.slice e)) (h:P.underlying e=some (.int .u8)) (k:P.underlying T=some .string)
    (hx:ev E x=v) (q:Da w v l.length xs) (f:ae (ak .u8) g xs l):cy P E ⟨d,.convert S T x,ty,ps,af,gd⟩ w (an (cX l)) w:=.inl (by
  have p:xs=l.map (Value.int .u8):=by
    apply List.ext_getElem?;intro i;have hl:xs.length=l.length:=by simpa [ak] using f.1
    by_cases hi:i<l.length
    · have:=f.2 i l[i] (IQ hi)
      simp only [ak,Nat.mul_one] at this;have b:=congrArg (fun c=>c[0]?) this;simp only [List.getElem?_take,List.getElem?_drop] at b;simp at b;rw [b]; simp [hi]
    · rw [Jr (by omega),Jr (by simp; omega)]
  rcases q with ⟨rfl,hn,_⟩|⟨a,c,rfl,s⟩
  · have:l=[]:=JJ hn
    subst this;have:=run_convert_bytes_string (P:=P) w S T e none 0 0 m h k;simp only [execOp,Sem.run_bind,hx,this];rfl
  · have t:=run_convert_bytes_string (P:=P) w S T e (some a) l.length c m h k
    have o:=fE (P:=P) (w:=w) a xs 0 #[] (fun j u r=>by rw [Nat.zero_add]; exact s j u r);have n:=run_bytesToString (P:=P) w a l.length c l (by
      rw [p] at o;simpa [loadCells] using o)
    rw [qZ] at n;simp only [execOp,Sem.run_bind,hx,t,n,Jf,Sem.run_pure,an];simp)
end
def CF (P:Program) (f:FuncId):Prop:=∃fn,P.funcs[f]?=some fn∧fn.body.isSome=true∧(fn.name == "runtime.NumGoroutine")=false
theorem bD {P:Program} {f:FuncId} {fn:Func} (h:P.funcs[f]?=some fn) (hb:fn.body.isSome=true) (hn:(fn.name == "runtime.NumGoroutine")=false):CF P f:=⟨fn,h,hb,hn⟩
section
variable {P:Program} {n:Fr} {Q:EPost} {E:Env} {w:World} {ops:Array Oper} {rest:List Oper} {d:Tmp} {ty:TypeId} {ps:String} {af:Array Edge} {gd:Option (Nat×Bool)}
theorem C {f:FuncId} {xs:Array Operand} {g:Array TypeId} (args:List Value) {R:Value→World→Prop} (hf:CF P f) (ha:xs.toList.map (ev E)=args) (a:aU P f args.toArray w R) (hd:Nat.blt d n.sz=true)
 (k:∀v w',R v w'→OW P n ops Q rest (cz E d v) w'):OW P n ops Q (⟨some d,.call { callee:=.value (.func f),args:=xs,argTypes:=g },ty,ps,af,none⟩::rest) E w:=by
 obtain ⟨fn,e,c,b⟩:=hf;exact xN (vN e c b ha) hd rfl a k
theorem OG {d0:Tmp} {op:Op} {v:Value} {w':World} {j:Nat} {want:Bool} {b:Bool} {oj:Oper} (hj:ops[j]?=some oj) (hdj:oj.dst=some d0) (hb:ev E (.tmp d0)=.bool b) (hne:(b == want)=true)
 (hr:cy P E ⟨some d,op,ty,ps,af,some (j,want)⟩ w v w') (hd:Nat.blt d n.sz=true) (k:OW P n ops Q rest (cz E d v) w'):OW P n ops Q (⟨some d,op,ty,ps,af,some (j,want)⟩::rest) E w:=
 Cv rfl hj hdj hb hne hr hd k
theorem OK {d0:Tmp} {op:Op} {j:Nat} {want:Bool} {b:Bool} {oj:Oper} (hj:ops[j]?=some oj) (hdj:oj.dst=some d0) (hb:ev E (.tmp d0)=.bool b) (hne:(b == want)=false)
 (hd:Nat.blt d n.sz=true) (k:OW P n ops Q rest (cz E d undef) w):OW P n ops Q (⟨some d,op,ty,ps,af,some (j,want)⟩::rest) E w:=
 Cw rfl hj hdj hb hne hd k
theorem CG {f:FuncId} {xs:Array Operand} {q:Array TypeId} {e:Tmp} {j:Nat} {a:Bool} {b:Bool} {c:Oper} (h:ops[j]?=some c) (i:c.dst=some e) (hb:ev E (.tmp e)=.bool b) (g:(b == a)=true)
 (args:List Value) {R:Value→World→Prop} (hf:CF P f) (ha:xs.toList.map (ev E)=args) (l:aU P f args.toArray w R) (hd:Nat.blt d n.sz=true)
 (k:∀v w',R v w'→OW P n ops Q rest (cz E d v) w'):OW P n ops Q (⟨some d,.call { callee:=.value (.func f),args:=xs,argTypes:=q },ty,ps,af,some (j,a)⟩::rest) E w:=by
 obtain ⟨fn,p,o,m⟩:=hf;exact vq rfl h i hb g (vN p o m ha) hd l k
theorem SG {Q:Env→Prop} {d0:Tmp} {op:Op} {v:Value} {j:Nat} {want:Bool} {b:Bool} {oj:Oper} (hj:ops[j]?=some oj) (hdj:oj.dst=some d0) (hb:ev E (.tmp d0)=.bool b) (hne:(b == want)=true)
 (hr:cy P E ⟨some d,op,ty,ps,af,some (j,want)⟩ w v w) (hd:Nat.blt d n.sz=true) (k:SW P n ops w Q rest (cz E d v)):SW P n ops w Q (⟨some d,op,ty,ps,af,some (j,want)⟩::rest) E:=
 Cs rfl hj hdj hb hne hr hd k
theorem SK {Q:Env→Prop} {d0:Tmp} {op:Op} {j:Nat} {want:Bool} {b:Bool} {oj:Oper} (hj:ops[j]?=some oj) (hdj:oj.dst=some d0) (hb:ev E (.tmp d0)=.bool b) (hne:(b == want)=false)
 (hd:Nat.blt d n.sz=true) (k:SW P n ops w Q rest (cz E d undef)):SW P n ops w Q (⟨some d,op,ty,ps,af,some (j,want)⟩::rest) E:=
 Ct rfl hj hdj hb hne hd k
theorem aF {d:Option Tmp} {c x y:Operand} {b:Bool} {v:Value} (hc:ev E c=.bool b) (hb:b=true) (h:ev E x=v):cy P E ⟨d,.pick c x y,ty,ps,af,gd⟩ w v w:=zh hc (by subst hb; exact h)
theorem av {d:Option Tmp} {c x y:Operand} {b:Bool} {v:Value} (hc:ev E c=.bool b) (hb:b=false) (h:ev E y=v):cy P E ⟨d,.pick c x y,ty,ps,af,gd⟩ w v w:=zh hc (by subst hb; exact h)
end
def cL {α:Type} (τ:Ty α) (agg:Bool) (g:Hp) (v:Value) (x:α):Prop:=∃cs,wS agg cs=v∧τ.rel g cs x
def aZ:Nat:=18446744073709551616
def bp {σ ρ:Type} (o:Option (cQ σ ρ)) (k:σ→Option ρ):Option ρ:=match o with
 | none=>none
 | some (.next s)=>k s
 | some (.stop r)=>some r
def zp {σ ρ:Type} (o:cQ σ ρ) (k:σ→Option ρ):Option ρ:=match o with
 | .next s=>k s
 | .stop r=>some r
theorem cG {σ ρ:Type} {o:Option (cQ σ ρ)} {k:σ→Option ρ} {r:ρ} (h:bp o k=some r):∃s,o=some s∧zp s k=some r:=by
 cases o with
 | none=>cases h
 | some s=>cases s <;> exact ⟨_,rfl,h⟩
section
variable {P:Program} {E:Env} {w:World} {d:Option Tmp} {ty:TypeId} {ps:String} {af:Array Edge} {gd:Option (Nat×Bool)}
theorem mc (f:Nat→Option Bool×Unit→Sem (ForInStep (Option Bool×Unit))) (p:Nat→Bool) :
 ∀(l:List Nat),(∀i∈l,(f i (none,())).run P w=.ok (if p i then .yield (none,()) else .done (some false,())) w)→
 (forIn l (none,()) f).run P w=.ok (if l.all p then (none,()) else (some false,())) w
 | [],_=>by simp [Sem.run_pure]
 | i::l,h=>by
  rw [List.forIn_cons,Sem.run_bind,h i (by simp)];cases hp:p i
  ·simp [Sem.run_pure,hp]
  ·simp only [if_true,Jf,List.all_cons,hp,Bool.true_and];exact mc f p l (fun j a=>h j (by simp [a]))
theorem gr (D:Nat) {T:TypeId} {k:IntKind} (hT:P.underlying T=some (.int k)) (a b:Int):(Op.equalIn (D+1) T (.int k a) (.int k b)).run P w=.ok (a == b) w:=by
 simp [Op.equalIn,run_underlying hT]
theorem jX (D:Nat) {T el:TypeId} {n:Nat} {k:IntKind} {bytes:Nat} {z:Value} (j:P.underlying T=some (.array n el)) (l:P.underlying el=some (.int k)) (f:en P el false 1 bytes z) (a b:aV n) :
 (Op.equalIn (D+2) T (cC k a) (cC k b)).run P w=.ok (a == b) w:=by
 have g:∀(c:aV n) (i:Nat) (e:i<n),(part el (c.1.map (Value.int k)).toArray (i*1)).run P w=.ok (.int k (c.1[i]'(by rw [c.2]; exact e))) w:=by
  intro c i e;have d:i<c.1.length:=by rw [c.2]; exact e
  simp [part,gD f,d]
 unfold cC;rw [Op.equalIn];simp only [Sem.run_bind,run_underlying j,Jf,dw f];rw [Std.Legacy.Range.forIn_eq_forIn_range'];rw [mc (P:=P) (w:=w) _ (fun i=>a.1[i]? == b.1[i]?)]
 ·simp only [Jf];have:((List.range' 0 n 1).all fun i=>a.1[i]? == b.1[i]?)=(a == b):=by
   rw [Bool.eq_iff_iff];simp only [List.all_eq_true,beq_iff_eq];constructor
   ·intro h;apply Subtype.ext;apply List.ext_getElem?;intro i
    by_cases e:i<n
    ·exact h i (by simp [List.mem_range']; omega)
    ·rw [Jr (by rw [a.2]; omega),Jr (by rw [b.2]; omega)]
   ·rintro rfl i _; rfl
  simp only [Std.Legacy.Range.size,Nat.sub_zero,Nat.add_sub_cancel,Nat.div_one];rw [this];cases (a == b) <;> rfl
 ·intro i e;have d:i<n:=by simp [List.mem_range',Std.Legacy.Range.size] at e; omega
  have ha:i<a.1.length:=by rw [a.2]; exact d
  have hb:i<b.1.length:=by rw [b.2]; exact d
  simp only [Sem.run_bind,g a i d,g b i d,Jf,gr D l,IQ ha,IQ hb];cases h:(a.1[i] == b.1[i]) <;> simp_all
theorem Dj {T T' el:TypeId} {x y:Operand} {n:Nat} {k:IntKind} {bytes:Nat} {z:Value} {a b:aV n} (e:P.underlying T=some (.array n el)) (f:P.underlying el=some (.int k)) (c:en P el false 1 bytes z)
 (hx:ev E x=cC k a) (hy:ev E y=cC k b) (hq:P.eqGuardType P.depth T=false):cy P E ⟨d,.binOp .eql T x y T',ty,ps,af,gd⟩ w (.bool (a == b)) w:=
 bS (by rw [hx,hy]; simp only [eqGuard,cC]; simp [program,Sem.run,hq]) (by
  rw [hx,hy];have:=jX (P:=P) (w:=w) 9998 e f c a b;unfold cC at *;simp only [binOp,Sem.run_bind,Op.equal,Op.maxDepth,this,Jf,Sem.run_pure])
theorem tj {T T' el:TypeId} {x y:Operand} {n:Nat} {k:IntKind} {bytes:Nat} {z:Value} {a b:aV n} (e:P.underlying T=some (.array n el)) (f:P.underlying el=some (.int k)) (c:en P el false 1 bytes z)
 (hx:ev E x=cC k a) (hy:ev E y=cC k b) (hq:P.eqGuardType P.depth T=false):cy P E ⟨d,.binOp .neq T x y T',ty,ps,af,gd⟩ w (.bool (a != b)) w:=
 bS (by rw [hx,hy]; simp only [eqGuard,cC]; simp [program,Sem.run,hq]) (by
  rw [hx,hy];have:=jX (P:=P) (w:=w) 9998 e f c a b;unfold cC at *;simp only [binOp,Sem.run_bind,Op.equal,Op.maxDepth,this,Jf,Sem.run_pure,bne])
def mQ (k:IntKind) (n:Int):Int:=bits .xor k (if k.signed then -1 else k.max) n
theorem xh {T:TypeId} {x:Operand} {k:IntKind} {a:Int} (hx:ev E x=.int k a):cy P E ⟨d,.unOp .xor T x,ty,ps,af,gd⟩ w (.int k (mQ k a)) w:=.inl (by simp [execOp,hx,Op.unary,intBits_xor,mQ])
end
theorem cy.cast {P:Program} {E:Env} {o:Oper} {w w':World} {v v':Value} (h:cy P E o w v w') (e:v=v'):cy P E o w v' w':=e ▸ h
section
variable {P:Program} {n:Fr} {Q:EPost} {E:Env} {w:World} {ops:Array Oper} {rest:List Oper} {d:Tmp} {ty:TypeId} {ps:String} {af:Array Edge}
theorem ma {a:Act} (ha:fB n E a) {j:Nat} {oj:Oper} {d:Tmp} (hj:ops[j]?=some oj) (hd:oj.dst=some d) (hb:E d=undef):yielded ops a.tmps j=none:=by
 have:=ha.get d;rw [hb,Array.getD_eq_getD_getElem?] at this;unfold yielded;simp only [hj,IS,hd];cases hx:a.tmps[d]? with
 | none=>rfl
 | some x=>rw [hx] at this; simp at this; subst this; rfl
theorem eC {c:Tmp} {op:Op} {j:Nat} {e:Bool} {b:Oper} (f:ops[j]?=some b) (g:b.dst=some c) (hb:ev E (.tmp c)=undef)
 (hd:Nat.blt d n.sz=true) (k:OW P n ops Q rest (cz E d undef) w):OW P n ops Q (⟨some d,op,ty,ps,af,some (j,e)⟩::rest) E w:=by
 intro a ha;refine wpListIn_step fun K h=>?_
 have hy:=ma ha f g hb;rw [if_neg (by simp [Region.wanted,hy])];exact ⟨fun _ _=>trivial,h _ _ (k _ (ha.put (d:=some d) hd undef))⟩
end
def Cp (acc:List Nat):List Edge→List Nat
 | []=>acc
 | e::l=>Cp (if Region.binds .any e && !acc.contains e.on then e.on::acc else acc) l
def vg (ops:Array Oper) (acc:List Nat) (j:Nat):List Nat:=match ops[j]? with
 | some o=>Cp acc o.after.toList
 | none=>acc
def yK (ops:Array Oper) (j:Nat):Nat→List Nat
 | 0=>vg ops [] j
 | k+1=>(yK ops j k).foldl (vg ops) (yK ops j k)
def mh (ops:Array Oper) (qs:List Nat) (j:Nat):Bool:=!(qs.all fun i=>(yK ops j 8).contains i)
def Cl (ops:Array Oper) (listed:Array Bool):Prop:=∀(k:Nat) (o:Oper),ops[k]?=some o→listed.getD k false=true→∀e∈o.after,Region.binds .any e=true→listed.getD e.on false=true
theorem lj {a:Array Bool}:∀(l:List Edge) (acc:List Nat),(∀x∈acc,a.getD x false=true)→(∀e∈l,Region.binds .any e=true→a.getD e.on false=true)→∀x∈Cp acc l,a.getD x false=true
 | [],_,h,_=>h
 | e::l,acc,h,b=>by
  unfold Cp;refine lj l _ ?_ (fun d c=>b d (List.mem_cons_of_mem _ c));split
  ·rename_i hc;simp only [Bool.and_eq_true] at hc;intro x hx;rcases Js.1 hx with rfl|hx
   ·exact b e (List.mem_cons_self ..) hc.1
   ·exact h x hx
  ·exact h
theorem ve {ops:Array Oper} {a:Array Bool} {j:Nat} (f:Cl ops a) (d:∀o,ops[j]?=some o→∀e∈o.after,Region.binds .any e=true→a.getD e.on false=true):∀k,∀x∈yK ops j k,a.getD x false=true:=by
 intro k;induction k with
 | zero=>
  unfold yK vg;split
  ·rename_i o ho; exact lj _ _ (by simp) (fun e b=>d o ho e (by simpa using b))
  ·simp
 | succ k ih=>
  unfold yK;have:∀(l acc:List Nat),(∀x∈l,a.getD x false=true)→(∀x∈acc,a.getD x false=true)→∀x∈l.foldl (vg ops) acc,a.getD x false=true:=by
   intro l;induction l with
   | nil=>exact fun _ _ h=>h
   | cons y l c=>
    intro acc hl hacc;refine c _ (fun x hx=>hl x (List.mem_cons_of_mem _ hx)) ?_;unfold vg;split
    ·rename_i o ho; exact lj _ _ hacc (fun e b=>f y o ho (hl y (List.mem_cons_self ..)) e (by simpa using b))
    ·exact hacc
  exact this _ _ ih ih
def lD (ops:Array Oper):Bool:=ops.all fun o=>match o.op with|.defer _=>false|_=>true
theorem tp {ops:Array Oper} (h:lD ops=true) (j:Nat) (o:Oper) (c:Call) (hj:ops[j]?=some o):o.op≠.defer c:=by
 intro hc;unfold lD at h;rw [Array.all_eq_true] at h;obtain ⟨hlt,hj⟩:=Array.getElem?_eq_some_iff.1 hj;have:=h j hlt;rw [hj,hc] at this;cases this
def fP (n:Fr) (P:Program) (ops:Array Oper) (Q:Exit→Act→World→Prop) (S:World→Prop) (qs:List Nat):Nat→Array Bool→Act→World→Prop
 | 0,listed,a,w=>Region.ready .any ops listed=[]∧Q .normal a w
 | aZ+1,listed,a,w=>
  (Region.ready .any ops listed=[]→Q .normal a w)∧
  ∀i∈Region.ready .any ops listed,wpOpIn (Fz n) 0 P ops Q i (fun b w'=>(mh ops qs i=true→S w')∧fP n P ops Q S qs aZ (listed.setIfInBounds i true) b w') a w
section
variable {n:Fr} {P:Program} {ops:Array Oper} {Q:Exit→Act→World→Prop} {S:World→Prop} {qs:List Nat}
theorem pX:∀(aZ:Nat) (listed:Array Bool) (a:Act) (w:World),fP n P ops Q S qs aZ listed a w→wpAnyIn (Fz n) 0 P .any ops Q aZ listed a w
 | 0,_,_,_,h=>h
 | aZ+1,_,_,_,h=>⟨h.1,fun i hi=>wpOpIn_mono (fun a' w' h'=>pX aZ _ a' w' h'.2) (h.2 i hi)⟩
theorem lZ {i:Nat} {o:Oper} {v:Value} {a:Act} (d:ops[i]?=some o) (hy:YieldsIf P ops S o v a)
 {K:Act→World→Prop} {w:World} (e:S w) (h:K (a.put o.dst v) w):wpOpIn (Fz n) 0 P ops Q i K a w:=by
 unfold Go.wpOpIn;simp only [d];rcases hy with ⟨b,c⟩|⟨b,rfl⟩
 ·rw [if_pos b];refine ⟨fun _ _=>trivial,?_⟩;rw [fS (c w e) (by simp)];exact h
 ·rw [if_neg (by simp [b])]; exact ⟨fun _ _=>trivial,h⟩
theorem sW {j:Nat} {g i:Oper} {v:Value} (F:ops[j]?=some i) (G:g.apart ops i=true)
 (D:∀cs b,g.op≠.select cs b) (B:∀cs b,i.op≠.select cs b) (s:∀c,i.op≠.defer c)
 (p:∀c a w,Q (.panic c) (a.put g.dst v) w→Q (.panic c) a w) {K:Act→World→Prop} {a:Act} {w:World}
 (hy:YieldsIf P ops S g v a) (h:wpOpIn (Fz n) 0 P ops Q j K (a.put g.dst v) w) :
 wpOpIn (Fz n) 0 P ops Q j (fun z w'=>YieldsIf P ops S g v z∧K (z.put g.dst v) w') a w:=by
 obtain ⟨y,o,t⟩:=Oper.apart_spec G;have m:∀(a:Act),YieldsIf P ops S g v a→∀u,YieldsIf P ops S g v (a.put i.dst u):=fun a hy u=>
  hy.of_same (execOp_put g D a i.dst u t) (wanted_put g a i.dst u t)
 have A:∀d,YieldsIf P ops S g v { a with defers:=d::a.defers }:=fun d=>hy.of_same rfl rfl
 unfold wpOpIn at *;simp only [F] at *;rw [wanted_put i a g.dst v y] at h;split
 ·rename_i hw;simp only [hw,if_true] at h;unfold Oper.wpIn at *;refine ⟨fun _ _=>trivial,?_⟩;have h:=h.2;rw [Oper.semAt_eq _ _ _ s,execOp_put i B a g.dst v y] at h;rw [Oper.semAt_eq _ _ _ s];generalize (execOp a.eval i).run P w=r at *;cases r with
  | ok x w'=>
   cases x <;> simp only [Oper.uponIn] at h ⊢
   case value u=>exact ⟨m a hy u,by rw [←Act.put_comm a v u o]; exact h⟩
   case skip=>exact ⟨m a hy _,by rw [←Act.put_comm a v undef o]; exact h⟩
   case defer d=>
    refine ⟨m _ (A d) _,?_⟩;rw [←Act.put_comm _ v undef o,←Act.put_defers];exact h
   case enter f args=>
    refine ⟨h.1,CallsIn.mono h.2 fun e q k=>?_⟩;cases e with
    | returned u=>exact ⟨m a hy u,by rw [←Act.put_comm a v u o]; exact k⟩
    | panicked c=>exact p _ _ _ k
    | outgrown=>exact k
   case row row args=>exact ⟨h.1,RowsIn.mono h.2 fun u q k=>⟨m a hy u,by rw [←Act.put_comm a v u o]; exact k⟩⟩
   case round l f tmps assign body=>
    refine ⟨h.1,RoundIn.mono h.2 fun e q k=>?_⟩;cases e with
    | returned u=>exact ⟨m a hy u,by rw [←Act.put_comm a v u o]; exact k⟩
    | panicked c=>exact p _ _ _ k
    | outgrown=>exact k
  | halt x w'=>
   cases x <;> simp only [Oper.uponIn] at h ⊢
   case panic u=>exact p _ _ _ h
 ·rename_i hw;simp only [hw] at h;exact ⟨fun _ _=>trivial,m a hy _,by rw [←Act.put_comm a v undef o]; exact h.2⟩
theorem Cl.start (m:Nat):Cl ops (Array.replicate m false):=fun k o _ hk=>by
 simp only [Array.getD_eq_getD_getElem?,Array.getElem?_replicate] at hk;split at hk <;> simp at hk
theorem Cl.set {listed:Array Bool} (h:Cl ops listed) {i:Nat} (hi:i∈Region.ready .any ops listed):Cl ops (listed.setIfInBounds i true):=by
 intro k o hk hl e he hb
 by_cases hik:i=k
 ·subst hik;obtain ⟨_,o',ho',hall⟩:=mem_ready.1 hi;rw [hk] at ho';obtain rfl:=Option.some.inj ho';exact getD_set_true (hall e he hb)
 ·rw [getD_set_ne false hik] at hl;exact getD_set_true (h k o hk hl e he hb)
theorem sX {i:Nat} {m:Oper} {v:Value} (hq:i∈qs) (u:ops[i]?=some m) (A:∀(j:Nat) (o:Oper) cs b,ops[j]?=some o→o.op≠.select cs b) (U:lD ops=true)
 (W:∀c a w,Q (.panic c) (a.put m.dst v) w→Q (.panic c) a w) :
 ∀(aZ:Nat) (f:Array Bool) (a:Act) (w:World),
  (∀j g,ops[j]?=some g→j≠i→f.getD j true=false→(∀e∈g.after,Region.binds .any e=true→e.on≠i)→m.apart ops g=true)→
  Cl ops f→i∈Region.ready .any ops f→YieldsIf P ops S m v a→S w→
  fP n P ops Q S qs aZ (f.setIfInBounds i true) (a.put m.dst v) w→fP n P ops Q S qs (aZ+1) f a w:=by
 intro aZ;induction aZ with
 | zero=>
  intro f a w _ y l hy r H;refine ⟨fun h=>(by rw [h] at l; cases l),fun j q=>?_⟩
  by_cases hji:j=i
  ·subst hji; exact lZ u hy r ⟨fun _=>r,H⟩
  ·have:=ready_mono q hji;rw [H.1] at this;cases this
 | succ aZ ih=>
  intro f a w G y l hy r H;refine ⟨fun h=>(by rw [h] at l; cases l),fun j q=>?_⟩
  by_cases hji:j=i
  ·subst hji; exact lZ u hy r ⟨fun _=>r,H⟩
  ·have d:=H.2 j (ready_mono q hji);obtain ⟨F,g,p,I⟩:=mem_ready.1 q;have J:∀e∈g.after,Region.binds .any e=true→e.on≠i:=fun e x hb T=>by
    have d:=I e x hb;have s:=(mem_ready.1 l).1;rw [T] at d;rcases Nat.lt_or_ge i f.size with h'|h'
    ·simp [h'] at s d; rw [s] at d; cases d
    ·simp [Array.getElem?_eq_none h'] at d
   have D:mh ops qs j=true:=by
    unfold mh;rw [Bool.not_eq_true',List.all_eq_false];refine ⟨i,hq,fun V=>?_⟩;have d:=ve (j:=j) y (fun o B e x hb=>by rw [p] at B; obtain rfl:=Option.some.inj B; exact I e x hb) 8 i (by simpa using V);have s:=(mem_ready.1 l).1;rcases Nat.lt_or_ge i f.size with h'|h'
    ·simp [h'] at s d; rw [s] at d; cases d
    ·simp [Array.getElem?_eq_none h'] at d
   have X:=sW p (G j g p hji F J) (fun cs b=>A i m cs b u) (fun cs b=>A j g cs b p) (fun c=>tp U j g c p) W hy d;have R:∀k ok,ops[k]?=some ok→k≠i→(f.setIfInBounds j true).getD k true=false→
    (∀e∈ok.after,Region.binds .any e=true→e.on≠i)→m.apart ops ok=true:=fun k ok N L z K=>by
    refine G k ok N L ?_ K
    by_cases hjk:j=k
    ·subst hjk; exact F
    ·rw [getD_set_ne true hjk] at z; exact z
   refine wpOpIn_mono (fun Y w' t=>⟨fun _=>t.2.1 D,ih (f.setIfInBounds j true) Y w' R (y.set q) (ready_mono l (Ne.symm hji)) t.1 (t.2.1 D) ?_⟩) X;rw [Array.setIfInBounds_comm _ _ hji];exact t.2.2
theorem ud {i:Nat} {d:Oper} {v:Value} {aZ:Nat} {b:Array Bool} {a:Act} {w:World} (hq:i∈qs) (e:ops[i]?=some d)
 (hs:Region.noSelect ops=true) (g:lD ops=true) (hf:Region.free .any ops b i=true) (f:(Region.ready .any ops b).contains i=true)
 (j:Cl ops b) (l:∀c a w,Q (.panic c) (a.put d.dst v) w→Q (.panic c) a w) (hy:YieldsIf P ops S d v a) (k:S w)
 (h:fP n P ops Q S qs aZ (b.setIfInBounds i true) (a.put d.dst v) w):fP n P ops Q S qs (aZ+1) b a w:=
 sX hq e (Region.noSelect_spec hs) g l aZ b a w (Region.free_spec e hf) j (by simpa using f) hy k h
theorem pY {rs:List Nat} {aZ:Nat} {listed:Array Bool} {a:Act} {w:World} (hr:Region.ready .any ops listed=rs) (hne:rs≠[])
 (h:∀i∈rs,wpOpIn (Fz n) 0 P ops Q i (fun a' w'=>(mh ops qs i=true→S w')∧fP n P ops Q S qs aZ (listed.setIfInBounds i true) a' w') a w):fP n P ops Q S qs (aZ+1) listed a w:=
 ⟨fun h0=>absurd (hr ▸ h0) hne,hr ▸ h⟩
theorem ue {listed:Array Bool} {a:Act} {w:World} (hr:Region.ready .any ops listed=[]) (h:Q .normal a w) :
 ∀aZ,fP n P ops Q S qs aZ listed a w
 | 0=>⟨hr,h⟩
 | _+1=>⟨fun _=>h,by rw [hr]; simp⟩
theorem ub {id:Nat} {a:Act} {w:World} (hm:P.follows .mixedOrders=true)
 (h:fP n P ops Q S qs ops.size (Array.replicate ops.size false) a { w with drawn:=w.drawn+1 }):(Code.region id ops true).wpIn (Fz n) 0 P Q a w:=
 wpIn_region_any hm (pX _ _ _ _ h)
end
inductive OT where
  | leaf
  | q (k:Nat) (t:OT)
  | s (k:Nat) (t:OT)
  | c (k:Nat) (t u:OT)
  | n
def OT.depth:OT→Nat
 | .leaf=>0
 | .q _ t=>t.depth+1
 | .s _ t=>t.depth+1
 | .c _ t u=>max (t.depth+1) u.depth
 | .n=>0
def OT.alts:OT→List Nat
 | .c k _ u=>k::u.alts
 | _=>[]
def OT.qs:OT→List Nat
 | .leaf=>[]
 | .q k t=>k::t.qs
 | .s _ t=>t.qs
 | .c _ t u=>t.qs++u.qs
 | .n=>[]
def tW (ops:Array Oper):OT→Bool→Array Bool→Bool
 | .leaf,f,l=>f && (Region.ready .any ops l).isEmpty
 | .q k t,f,l=>f && (Region.ready .any ops l).contains k && Region.free .any ops l k && tW ops t true (l.setIfInBounds k true)
 | .s k t,f,l=>f && Region.ready .any ops l == [k] && tW ops t true (l.setIfInBounds k true)
 | .c k t u,f,l=>(!f || Region.ready .any ops l == (OT.c k t u).alts) && tW ops t true (l.setIfInBounds k true) && tW ops u false l
 | .n,f,_=>!f
def vR (ops:Array Oper) (t:OT):Bool:=(Region.noSelect ops && lD ops) && decide (t.depth≤ops.size) && tW ops t true (Array.replicate ops.size false)
section
variable {P:Program} {n:Fr} {ops:Array Oper} {Q:EPost} {S:World→Prop} {qs:List Nat}
def QS (b:Bool) (S:World→Prop) (K:Env→World→Prop) (Q:EPost):EPost:=fun e E w=>match e with
 | .normal=>(b=true→S w)∧K E w
 | e=>Q e E w
def YE (P:Program) (ops:Array Oper) (S:World→Prop) (o:Oper) (v:Value) (E:Env):Prop:=
 (o.guard=none∧∀w,S w→(execOp (ev E) o).run P w=.ok (.value v) w)∨
 (∃j want oj d b,o.guard=some (j,want)∧ops[j]?=some oj∧oj.dst=some d∧ev E (.tmp d)=.bool b∧(((b == want)=true∧∀w,S w→(execOp (ev E) o).run P w=.ok (.value v) w)∨((b == want)=false∧v=undef)))∨
 (∃j want oj d,o.guard=some (j,want)∧ops[j]?=some oj∧oj.dst=some d∧ev E (.tmp d)=undef∧v=undef)
def AT (P:Program) (n:Fr) (ops:Array Oper) (Q:EPost) (S:World→Prop) (qs:List Nat):OT→Env→World→Prop
 | .leaf,E,w=>Q .normal E w
 | .q k t,E,w=>∃o v,ops[k]?=some o∧lb n o.dst=true∧S w∧YE P ops S o v E∧AT P n ops Q S qs t (oX E o.dst v) w
 | .s k t,E,w=>∃o,ops[k]?=some o∧OW P n ops (QS (mh ops qs k) S (AT P n ops Q S qs t) Q) [o] E w
 | .c k t u,E,w=>(∃o,ops[k]?=some o∧OW P n ops (QS (mh ops qs k) S (AT P n ops Q S qs t) Q) [o] E w)∧AT P n ops Q S qs u E w
 | .n,_,_=>True
theorem pW {k:Nat} {o:Oper} {K:Env→World→Prop} {E:Env} {w:World} {a:Act} {b:Bool} (i:ops[k]?=some o) (h:OW P n ops (QS b S K Q) [o] E w) (ha:fB n E a) :
    wpOpIn (Fz n) 0 P ops (nC n Q) k (fun d w'=>(b=true→S w')∧∃E',fB n E' d∧K E' w') a w:=by
  have h:=h a ha;unfold wpOpIn;simp only [i];unfold wpListIn at h;have conv:∀d w',nC n (QS b S K Q) .normal d w'→(b=true→S w')∧∃E',fB n E' d∧K E' w':=fun d w' ⟨E',f,j,l⟩=>⟨j,E',f,l⟩
  split at h
  · rename_i hw
    rw [if_pos hw];unfold Oper.wpIn at *;refine ⟨fun _ _=>trivial,?_⟩;have h:=h.2;generalize (o.semAt (Fz n).round a.eval).run P w=r at *;cases r with
    | ok nx w'=>
      cases nx <;> simp only [Oper.uponIn] at h ⊢ <;> first
        | exact conv _ _ h
        | exact h.elim
        | (refine ⟨h.1,CallsIn.mono h.2 ?_⟩
           rintro e g c;cases e <;> first
             | exact conv _ _ c
             | exact c)
        | (exact ⟨h.1,RowsIn.mono h.2 fun v g c=>conv _ _ c⟩)
        | (refine ⟨h.1,RoundIn.mono h.2 ?_⟩
           rintro e g c;cases e <;> first
             | exact conv _ _ c
             | exact c)
    | halt x w'=>cases x <;> first|exact h|exact h.elim
  · rename_i hw
    rw [if_neg hw];exact ⟨fun _ _=>trivial,conv _ _ h.2⟩
theorem YE.yields {o:Oper} {v:Value} {E:Env} {a:Act} (h:YE P ops S o v E) (ha:fB n E a):YieldsIf P ops S o v a:=by
 unfold YieldsIf;rw [ha.eval];rcases h with ⟨c,h⟩|⟨j,f,i,d,b,c,e,hd,hb,h⟩|⟨j,f,i,d,c,e,hd,hb,h⟩
 ·exact .inl ⟨gX c,h⟩
 ·have hy:=fO ha e hd hb;rcases h with ⟨g,h⟩|⟨g,h⟩
  ·exact .inl ⟨by simp only [Region.wanted,c,hy]; simpa using g,h⟩
  ·exact .inr ⟨by simp only [Region.wanted,c,hy]; cases b <;> cases f <;> simp_all,h⟩
 ·have hy:=ma ha e hd hb;exact .inr ⟨by simp [Region.wanted,c,hy],h⟩
theorem Ap (hs:Region.noSelect ops=true∧lD ops=true) [hP:fJ Q]:∀(t:OT),(∀k∈t.qs,k∈qs)→
    (∀(aZ:Nat) (b:Array Bool) (E:Env) (w:World) (a:Act),t.depth≤aZ→tW ops t true b=true→Cl ops b→AT P n ops Q S qs t E w→fB n E a→fP n P ops (nC n Q) S qs aZ b a w)∧
    (∀(aZ:Nat) (b:Array Bool) (E:Env) (w:World) (a:Act),t.depth≤aZ+1→tW ops t false b=true→Cl ops b→(∀i∈t.alts,i∈Region.ready .any ops b)→AT P n ops Q S qs t E w→fB n E a→
      ∀i∈t.alts,wpOpIn (Fz n) 0 P ops (nC n Q) i (fun r w'=>(mh ops qs i=true→S w')∧fP n P ops (nC n Q) S qs aZ (b.setIfInBounds i true) r w') a w):=by
  intro t;induction t with
  | leaf=>
    intro hq;refine ⟨fun aZ b E w a _ hB _ h ha=>ue (by simpa [tW] using hB) ⟨E,ha,h⟩ aZ,fun _ _ _ _ _ _ hB=>by simp [tW] at hB⟩
  | n=>exact fun hq=>⟨fun _ _ _ _ _ _ hB=>by simp [tW] at hB,fun _ _ _ _ _ _ _ _ _ _ _ i e=>by simp [OT.alts] at e⟩
  | q k t ih=>
    intro hq;have ih:=ih (fun j g=>hq j (by simp [OT.qs,g]));refine ⟨fun aZ b E w a hd hB d h ha=>?_,fun _ _ _ _ _ _ hB=>by simp [tW] at hB⟩;obtain ⟨o,v,l,B,p,hy,m⟩:=h;simp only [tW,Bool.and_eq_true,Bool.true_and] at hB
    match aZ,hd with
    | aZ+1,hd=>
      refine ud (hq k (by simp [OT.qs])) l hs.1 hs.2 hB.1.2 hB.1.1 d (fun c a w ⟨E,f,q⟩=>(let ⟨E',f',hd⟩:=f.same; ⟨E',f',hP.ok c E E' w hd q⟩)) (hy.yields ha) p ?_;exact ih.1 aZ _ _ _ _ (by simpa [OT.depth] using hd) hB.2 (d.set (by simpa using hB.1.1)) m (ha.put B v)
  | s k t ih=>
    intro hq;have ih:=ih (fun j g=>hq j (by simpa [OT.qs] using g));refine ⟨fun aZ b E w a hd hB d h ha=>?_,fun _ _ _ _ _ _ hB=>by simp [tW] at hB⟩;obtain ⟨o,l,h⟩:=h;simp only [tW,Bool.and_eq_true,beq_iff_eq,Bool.true_and] at hB
    match aZ,hd with
    | aZ+1,hd=>
      refine pY hB.1 (by simp) fun i e=>?_
      have A:i=k:=by simpa using e
      subst A;exact wpOpIn_mono (fun r w' ⟨p,E',f,m⟩=>⟨p,ih.1 aZ _ _ _ _ (by simpa [OT.depth] using hd) hB.2 (d.set (by rw [hB.1]; simp)) m f⟩) (pW l h ha)
  | c k t u y x=>
    intro hq;have y:=y (fun j g=>hq j (by simp [OT.qs,g]));have x:=x (fun j g=>hq j (by simp [OT.qs,g]));have z:∀(aZ:Nat) (b:Array Bool) (E:Env) (w:World) (a:Act),(OT.c k t u).depth≤aZ+1→tW ops t true (b.setIfInBounds k true)=true→tW ops u false b=true→Cl ops b→(∀i∈(OT.c k t u).alts,i∈Region.ready .any ops b)→AT P n ops Q S qs (.c k t u) E w→fB n E a→
        ∀i∈(OT.c k t u).alts,wpOpIn (Fz n) 0 P ops (nC n Q) i (fun r w'=>(mh ops qs i=true→S w')∧fP n P ops (nC n Q) S qs aZ (b.setIfInBounds i true) r w') a w:=by
      intro aZ b E w a hd F D d hal h ha i e;obtain ⟨⟨o,l,h⟩,G⟩:=h;have H:max (t.depth+1) u.depth≤aZ+1:=by simpa [OT.depth] using hd
      rcases Js.1 e with rfl|e
      · exact wpOpIn_mono (fun r w' ⟨p,E',f,m⟩=>⟨p,y.1 aZ _ _ _ _ (by omega) F (d.set (hal _ (by simp [OT.alts]))) m f⟩) (pW l h ha)
      · exact x.2 aZ b E w a (by omega) D d (fun q hq=>hal q (by simp [OT.alts,hq])) G ha i e
    refine ⟨fun aZ b E w a hd hB d h ha=>?_,fun aZ b E w a hd hB d hal h ha=>?_⟩
    · simp only [tW,Bool.and_eq_true,Bool.not_true,Bool.false_or,beq_iff_eq] at hB
      match aZ,hd with
      | 0,hd=>simp [OT.depth] at hd
      | aZ+1,hd=>exact pY hB.1.1 (by simp [OT.alts]) (z aZ b E w a hd hB.1.2 hB.2 d (fun i e=>by rw [hB.1.1]; exact e) h ha)
    · simp only [tW,Bool.and_eq_true,Bool.not_false,Bool.true_or,true_and] at hB
      exact z aZ b E w a hd hB.1 hB.2 d hal h ha
theorem ru {b:Nat} {l:List Oper} {E:Env} {w:World} (t:OT) (S:World→Prop) (c:P.follows .mixedOrders=true) (hB:vR l.toArray t=true) [hP:fJ Q]
 (h:AT P n l.toArray Q S t.qs t E w.drew):WP P n (.region b l.toArray true) Q E w:=by
 simp only [vR,Bool.and_eq_true,decide_eq_true_eq] at hB;exact fun a ha=>ub (qs:=t.qs) c ((Ap hB.1.1 t (fun _ h=>h)).1 _ _ _ _ _ hB.1.2 hB.2 (Cl.start _) h ha)
section
variable {E:Env} {w:World} {k d:Nat} {op:Op} {ty:TypeId} {ps:String} {af:Array Edge} {v:Value} {t:OT}
theorem A (ho:ops[k]?=some ⟨some d,op,ty,ps,af,none⟩) (hS:S w) (hr:∀w,S w→cy P E ⟨some d,op,ty,ps,af,none⟩ w v w) (hd:Nat.blt d n.sz=true) (h:AT P n ops Q S qs t (cz E d v) w):AT P n ops Q S qs (.q k t) E w:=
 ⟨_,v,ho,hd,hS,.inl ⟨rfl,fun w hw=>(hr w hw).out⟩,h⟩
theorem AG {j e:Nat} {a b:Bool} {c:Oper} (i:ops[k]?=some ⟨some d,op,ty,ps,af,some (j,a)⟩) (m:ops[j]?=some c) (o:c.dst=some e) (hb:ev E (.tmp e)=.bool b) (l:(b == a)=true)
 (p:S w) (g:∀w,S w→cy P E ⟨some d,op,ty,ps,af,some (j,a)⟩ w v w) (hd:Nat.blt d n.sz=true) (h:AT P n ops Q S qs t (cz E d v) w):AT P n ops Q S qs (.q k t) E w:=
 ⟨_,v,i,hd,p,.inr (.inl ⟨j,a,c,e,b,rfl,m,o,hb,.inl ⟨l,fun w f=>(g w f).out⟩⟩),h⟩
theorem AK {j d0:Nat} {want b:Bool} {oj:Oper} (ho:ops[k]?=some ⟨some d,op,ty,ps,af,some (j,want)⟩) (hj:ops[j]?=some oj) (hdj:oj.dst=some d0) (hb:ev E (.tmp d0)=.bool b) (hne:(b == want)=false)
 (hS:S w) (hd:Nat.blt d n.sz=true) (h:AT P n ops Q S qs t (cz E d undef) w):AT P n ops Q S qs (.q k t) E w:=
 ⟨_,undef,ho,hd,hS,.inr (.inl ⟨j,want,oj,d0,b,rfl,hj,hdj,hb,.inr ⟨hne,rfl⟩⟩),h⟩
theorem A1 {o:Oper} (ho:ops[k]?=some o) (h:OW P n ops (QS (mh ops qs k) S (AT P n ops Q S qs t) Q) [o] E w):AT P n ops Q S qs (.s k t) E w:=⟨o,ho,h⟩
theorem A2 {o:Oper} {u:OT} (ho:ops[k]?=some o) (h:OW P n ops (QS (mh ops qs k) S (AT P n ops Q S qs t) Q) [o] E w) (h':AT P n ops Q S qs u E w):AT P n ops Q S qs (.c k t u) E w:=⟨⟨o,ho,h⟩,h'⟩
theorem AN (h:Q .normal E w):AT P n ops Q S qs .leaf E w:=h
end
end
def SS (g0:Hp) (w0:World) (g:Hp) (L:List Res):World→Prop:=fun w=>∃g',bc g g'∧Sep g0 w0 g' w L
theorem SS.to {g0 g g':Hp} {w0 w w':World} {L:List Res} (_:SS g0 w0 g L w) (h:bc g g') (hs:Sep g0 w0 g' w' L):SS g0 w0 g L w':=⟨g',h,hs⟩
theorem cY.of_le {g g':Hp} {w:World} (h:cY g' w) (hl:bc g g'):cY g w:=fun b o hb=>h b o (hl b o hb)
end Go.Lx
namespace Go.Lx
open Go.RowKit Go.ChangeShapes Go.WideShapes Go.ChangeAt
def li (w:World):Hp:=fun b=>w.heap[b]?
theorem BI (w:World):cY (li w) w:=fun _ _ h=>h
def AD (k:IntKind) (n:Int):Prop:=k.min≤n∧n≤k.max
def im (P:Program) (T:TypeId) {α:Type} (τ:Ty α) (ok:α→Prop):Prop:=
 ∀(H:Type) (enc:TypeId×Value→H) (w:World) (f:Nat) (cs:List Value) (x:DataW H×List MemPlace),
  DataW.trod enc P w 0 (fun _=>true) true f T cs=some x→∃y,τ.rel (li w) cs y∧ok y
def pU (P:Program) (T:TypeId) {α:Type} (τ:Ty α) (ok:α→Prop) (f:Nat):Prop:=
 ∀(H:Type) (enc:TypeId×Value→H) (w:World) (cs:List Value) (x:DataW H×List MemPlace),
  DataW.trod enc P w 0 (fun _=>true) true f T cs=some x→∃y,τ.rel (li w) cs y∧ok y
theorem im.at {P:Program} {T:TypeId} {α:Type} {τ:Ty α} {ok:α→Prop} (h:im P T τ ok) (f:Nat):pU P T τ ok f:=fun H enc w cs x hx=>h H enc w f cs x hx
theorem im.of {P:Program} {T:TypeId} {α:Type} {τ:Ty α} {ok:α→Prop} (h:∀f,pU P T τ ok f):im P T τ ok:=fun H enc w f cs x hx=>h f H enc w cs x hx
section
variable {P:Program} {T:TypeId}
theorem oq {k:IntKind} (hT:P.underlying T=some (.int k)):im P T (ak k) (AD k):=by
 intro H enc w f cs x h;obtain ⟨n,rfl,_,hw⟩:=DataW.trod_int hT h;exact ⟨n,rfl,by unfold AD; simpa [Lit.wf] using hw⟩
theorem vH (hT:P.underlying T=some .bool):im P T aO (fun _=>True):=by
 intro H enc w f cs x h;obtain ⟨n,rfl,_⟩:=DataW.trod_bool hT h;exact ⟨n,rfl,trivial⟩
theorem jf (hT:P.underlying T=some .string):im P T dZ (fun s=>s.length≤maxLen):=by
 intro H enc w f cs x h;obtain ⟨s,rfl,_,hw⟩:=DataW.trod_string hT h;exact ⟨s.data.toList,rfl,(show s.data.toList.length≤maxLen from hw)⟩
theorem vX {w:World} {a:Addr}:∀ {n:Nat} {cs:List Value},(List.range n).mapM (fun i=>w.cell? (a.add i))=some cs→cs.length=n∧∀j u,cs[j]?=some u→w.cell? (a.add j)=some u:=by
 intro n cs h;have hl:cs.length=n:=by simpa using mapM_some_length h
 refine ⟨hl,fun j u b=>?_⟩;have c:j<n:=by have:=(IR.1 b).1; omega
 have:=mapM_some_get h j j (by simp [c]);rw [this]; exact b
theorem rR {α:Type} {el:TypeId} {τ:Ty α} {ok:α→Prop} {f:Nat} (S:P.underlying T=some (.slice el)) (R:P.cellsOf el=τ.sz) (hsz:0<τ.sz) (K:∀m,m<f→pU P el τ ok m) :
 pU P T (cv τ) (fun l=>(∀x∈l,ok x)∧l.length≤maxLen) f:=by
 intro H enc w cs x h;rcases DataW.trod_slice S h with ⟨rfl,_⟩|⟨a,len,G,a1,rest,m,X,rfl,_,_,V,Y,hlen,Q,_⟩
 ·exact ⟨[],⟨_,rfl,cA.nil⟩,by simp,by simp⟩
 ·have F:∀i,i<len→∃c y,(∀j u,c[j]?=some u→w.cell? ((a.add (i*τ.sz)).add j)=some u)∧c.length=τ.sz∧τ.rel (li w) c y∧ok y:=by
   intro i N;have p:=Q i N;rw [IQ (by omega),R] at p;cases t:w.cells? 0 (a.add (i*τ.sz)) τ.sz with
   | none=>rw [t] at p; simp at p
   | some c=>
    rw [t] at p;simp only [IS] at p;obtain ⟨y,hy,r⟩:=K m (by omega) H enc w c _ p;simp only [World.cells?,Nat.zero_le,if_true] at t;obtain ⟨hl,d⟩:=vX t;exact ⟨c,y,d,hl,hy,r⟩
  rcases Nat.eq_zero_or_pos len with v|v
  ·subst v;exact ⟨[],⟨_,rfl,[],ae.nil,.inl ⟨rfl,rfl,some a,G,rfl,fun h=>by cases h⟩⟩,by simp,by simp⟩
  ·have B:a.spot=none:=by
    obtain ⟨c,_,d,hl,_⟩:=F 0 v;have A:c[0]?=some (c[0]'(by omega)):=IQ (by omega);have:=d 0 _ A;have:=World.cell?_spot this;simpa [Addr.add] using this
   obtain ⟨b,s,U⟩:=a;simp only at B;subst B
   -- I the list and its cells
   have I:∀k,k≤len→∃(xs:List Value) (l:List α),l.length=k∧ae τ (li w) xs l∧(∀y∈l,ok y)∧∀j u,xs[j]?=some u→w.cell? ⟨b,s+j,none⟩=some u:=by
    intro k;induction k with
    | zero=>intro _; exact ⟨[],[],rfl,ae.nil,by simp,by simp⟩
    | succ k ih=>
     intro W;obtain ⟨xs,l,hl,q,r,d⟩:=ih (by omega);obtain ⟨c,y,A,a0,hy,L⟩:=F k (by omega);refine ⟨xs++c,l++[y],by simp [hl],q.append (ae.one hy),?_,?_⟩
     ·intro z g;rcases IZ.1 g with g|g
      ·exact r z g
      ·simp at g; subst g; exact L
     ·intro j u n;rw [List.getElem?_append] at n;split at n
      ·exact d j u n
      ·rename_i hj;have:=A _ _ n;rw [Addr.add_lit,Addr.add_lit] at this;have hx:=q.1;rw [hl] at hx;rw [show s+j=s+k*τ.sz+(j - xs.length) by omega];exact this
   obtain ⟨xs,l,hl,q,r,d⟩:=I len (Nat.le_refl _);have J:0<xs.length:=by rw [q.1,hl]; exact Nat.mul_pos v hsz
   have D:=d 0 xs[0] (IQ J);cases hblk:w.heap[b]? with
   | none=>simp [World.cell?,hblk] at D
   | some o=>
    cases o with
    | cells arr e fz=>
     refine ⟨l,⟨_,rfl,xs,q,.inr ⟨b,s,G,arr,e,fz,by rw [hl],by omega,hblk,fun j u n=>?_⟩⟩,r,by omega⟩;have:=d j u n;simpa [World.cell?,hblk] using this
    | _=>simp [World.cell?,hblk] at D
theorem uy {α:Type} {el:TypeId} {τ:Ty α} {ok:α→Prop} (hT:P.underlying T=some (.slice el)) (hc:P.cellsOf el=τ.sz) (hsz:0<τ.sz) (hr:im P el τ ok) :
 im P T (cv τ) (fun l=>(∀x∈l,ok x)∧l.length≤maxLen):=.of fun _=>rR hT hc hsz fun m _=>hr.at m
theorem dS {P:Program} {α:Type} {H:Type} {enc:TypeId×Value→H} {w:World} {n:Nat} {a:Array Field} {cs:List Value} {xs:List (DataW H×List MemPlace)} {f:Field} {τ:Ty α} {ok:α→Prop}
 (c:im P f.type τ ok) (hf:∀(i:Nat) (f:Field),a[i]?=some f→DataW.trod enc P w 0 (fun _=>true) true n f.type ((cs.drop f.offset).take (P.cellsOf f.type))=xs[i]?) (hlen:xs.length=a.size)
 (i:Nat) (b:a[i]?=some f) {o s:Nat} (d:f.offset=o) (hs:P.cellsOf f.type=s):∃y,τ.rel (li w) ((cs.drop o).take s) y∧ok y:=by
 have h:=hf i f b;have hl:i<xs.length:=by rw [hlen]; exact (Array.getElem?_eq_some_iff.1 b).1
 rw [IQ hl,d,hs] at h;exact c H enc w n _ _ h
theorem wu (cs:List Value) (o s:Nat):cs.drop o=(cs.drop o).take s++cs.drop (o+s):=by
 rw [←List.drop_drop,List.take_append_drop]
theorem EH {cs:List Value} {o s:Nat} (h:cs.length=o+s):cs.drop o=(cs.drop o).take s:=by
 rw [JG (by simp; omega)]
def Aw (P:Program) (T:TypeId):Prop:=∀w r base cs,¬ Value.okWide P w r base T (.agg cs)
theorem vx (hT:P.underlying T=some .string):Aw P T:=fun _ _ _ _ h=>by obtain ⟨_,h⟩:=okWide_string hT h; cases h
theorem AV {α:Type} {τ:Ty α} {ok:α→Prop} {size bytes:Nat} {z:Value} (b:en P T true size bytes z) (c:im P T τ ok) {H:Type} {enc:TypeId×Value→H} {w:World} {v:Value} {d:DataW H} {p:List MemPlace} {r:Reach} {j:Nat}
 (a:Value.okWide P w r j T v) (h:DataW.Trod enc P w 0 (fun _=>true) true T v d p):∃y,cL τ true (li w) v y∧ok y:=by
 obtain ⟨f,hf⟩:=h;obtain ⟨y,hy,e⟩:=c H enc w f _ _ hf;refine ⟨y,⟨v.cells.toList,?_,hy⟩,e⟩;obtain ⟨D,i,g⟩:=b.und;unfold Value.okWide at a;rw [i] at a;have:∃cs,v=.agg cs:=by
  cases D <;> simp at g
  ·obtain ⟨cs,h,_⟩:=a; exact ⟨cs,h⟩
  ·obtain ⟨cs,h,_⟩:=a; exact ⟨cs,h⟩
 obtain ⟨cs,rfl⟩:=this;simp [wS,Value.cells]
theorem AU {α:Type} {τ:Ty α} {ok:α→Prop} (hs:Aw P T) (c:im P T τ ok) {H:Type} {enc:TypeId×Value→H} {w:World} {v:Value} {d:DataW H} {p:List MemPlace} {r:Reach} {a:Nat}
 (b:Value.okWide P w r a T v) (h:DataW.Trod enc P w 0 (fun _=>true) true T v d p):∃y,cL τ false (li w) v y∧ok y:=by
 obtain ⟨f,hf⟩:=h;obtain ⟨y,hy,e⟩:=c H enc w f _ _ hf;refine ⟨y,⟨v.cells.toList,?_,hy⟩,e⟩;cases v with
 | agg cs=>exact (hs w r a cs b).elim
 | _=>simp [wS,Value.cells]
end
theorem yt {P:Program} {f:FuncId} {args:Array Value} {W:World} (h:aU P f args W (fun v w'=>∃g',(cL aO false g' v true)∧dx (li W) W g' w')) :
 Calls P f args W fun e W'=>e=.returned (.bool true)∧Below W.heap.size W W':=
 h.mono fun e W' ⟨v,he,g',⟨cs,hv,hb⟩,hx⟩=>by
  have hb:cs=_:=hb;subst hb hv he;exact ⟨rfl,hx.below⟩
end Go.Lx
