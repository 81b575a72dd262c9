/- Part 2. -/
import Derived.WalkSpells
import Derived.Laws.Cover1
import Derived.Laws.Small
import Derived.Laws.CopyRow
import Derived.Laws.IdiomCopy
import Derived.Laws.Runes
import Derived.Laws.Strings2
import Derived.Laws.Slices
import Derived.Lib.LaidTab
import Derived.Lib.LaidU8
import Derived.RangeFuncRecord
import Derived.RecoverIn
import Derived.RangeFuncLeaves
import Derived.Lib.ConvBytes
import Derived.WideShapes
import Derived.Shelf.SlIterI.Sorted
import Derived.Shelf.Spec.SlicesGrow
import Derived.Shelf.SortM.Plain
import Derived.Shelf.SortM.SortNone
import Derived.Shelf.Small.Bits
import Derived.Shelf.Small.Strs
import Derived.Shelf.Strconv.Itoa0
import Derived.Shelf.Strings.Search1
import Derived.Shelf.Sort.Plain
import Derived.Shelf.Slices.Clone
import Derived.Shelf.Slices.SearchI
import Derived.Shelf.Slices.In.SortNone
import Derived.Shelf.SlicesE.Clone
import Derived.Test.YtggpjcdhflcfmaaGreatDoorProg
import Derived.Test.YtggpjcdhflcfmaaGreatDoorKLexspecKeywords1
set_option linter.unusedVariables false
set_option linter.unusedSimpArgs false
namespace Go.Proofs
abbrev HU:=@Tryz.underlying34
abbrev HV:=@Tryz.underlying51
abbrev HW:=@Tryz.underlying9
abbrev HX:=@Tryz.underlying35
abbrev HY:=@Tryz.underlying65
abbrev HZ:=@Tryz.underlying3
abbrev Ia:=@Tryz.underlying80
abbrev Ib:=@Tryz.underlying110
abbrev Ic:=@Tryz.underlying37
abbrev Ie:=@Tryz.underlying71
abbrev If:=@Tryz.underlying53
abbrev Ig:=@Tryz.underlying90
abbrev Ih:=@Tryz.underlying130
abbrev Ii:=@Tryz.underlying22
abbrev Ij:=@Tryz.underlying95
abbrev Ik:=@Tryz.underlying98
abbrev Il:=@Tryz.underlying24
abbrev Ip:=@Tryz.underlying5
abbrev Iq:=@Tryz.underlying46
abbrev Ir:=@Tryz.underlying50
abbrev It:=@Tryz.underlying69
abbrev Iu:=@Tryz.underlying85
abbrev Iv:=@Tryz.underlying137
abbrev Iw:=@Tryz.underlying153
abbrev Ix:=@Tryz.underlying88
abbrev Iy:=@Tryz.underlying128
abbrev Iz:=@Tryz.underlying4
abbrev IA:=@Tryz.underlying145
abbrev IB:=@Tryz.underlying48
abbrev IC:=@Tryz.underlying126
abbrev ID:=@Tryz.underlying147
abbrev IE:=@Tryz.underlying59
abbrev IF:=@Tryz.underlying142
abbrev IG:=@Tryz.underlying148
abbrev IH:=@Tryz.underlying86
abbrev II:=@Tryz.underlying0
abbrev IJ:=@Tryz.underlying27
abbrev IK:=@Tryz.underlying20
abbrev IL:=@Tryz.underlying114
abbrev IM:=@Tryz.underlying106
abbrev IN:=@Tryz.underlying150
end Go.Proofs
namespace Go.Lx
open Go.RowKit
section
variable {P:Program} {n:Fr} {Q:EPost} {E:Env} {w:World} {ops:Array Oper} {rest:List Oper} {d:Option Tmp} {ty:TypeId} {ps:String} {af:Array Edge} {gd:Option (Nat×Bool)}
theorem ap {T g:TypeId} {x:Operand} {f b o e:Nat} {h:Array Field} {c:Field} {m:Bool} {size bytes:Nat} {z:Value} (l:P.underlying T=some (.struct h)) (i:en P g m size bytes z) (hf:h[f]?=some c) (k:c.type=g) (a:Nat.blt 0 size=true) (hx:ev E x=.pointer (some ⟨b,o,none⟩)) (j:e=o+c.offset) :
 cy P E ⟨d,.fieldAddr T x f,ty,ps,af,gd⟩ w (.pointer (some ⟨b,e,none⟩)) w:=.inl (by
 subst k; subst j;have a:¬ size=0:=by have:0<size:=Nat.le_of_ble_eq_true a; omega
 simp [execOp,Instr.fieldAt,run_underlying l,hf,hx,Instr.sureAddr,fieldPlace,dw i,a,Addr.add])
theorem wl (b:Nat):∀(cs:List Value) (q:Nat) (acc old:List Value),acc.length=b+q→cs.length≤old.length→
 (cs.zipIdx q).foldl (fun a (x:Value×Nat)=>a.setIfInBounds (b+x.2) x.1) (acc++old).toArray=(acc++cs++old.drop cs.length).toArray:=by
 intro cs;induction cs with
 | nil=>intro q acc old _ _; simp
 | cons c cs ihc=>
  intro q acc old ha d
  match old,d with
  | o::old,d=>
   simp only [List.zipIdx_cons,List.foldl_cons];have e:(acc++o::old).toArray.setIfInBounds (b+q) c=((acc++[c])++old).toArray:=by
    rw [←ha];simp [List.setIfInBounds_toArray]
   rw [e,ihc (q+1) (acc++[c]) old (by simp [ha]; omega) (by simpa using d)];simp
theorem aM {a:Nat→Option (Nat×Nat)} {e:List Value} {i c size:Nat} {v:Value} {rest:List (Nat×Value)} {r:Option (Array Value)} (pre old post cs:List Value) (g:a i=some (c,size)) (h:e=pre++(old++post)) (f:v.cells.toList=cs) (l:pre.length=c) (j:old.length=size) (b:cs.length=size)
 (k:Instr.fill a (pre++(cs++post)).toArray rest=r):Instr.fill a e.toArray ((i,v)::rest)=r:=by
 subst h; subst l; subst j;subst f;have d:v.cells.size=old.length:=by simpa using b
 simp only [Instr.fill,g];rw [if_neg (by simp [d])];rw [←Array.foldl_toList,Array.toList_zipIdx,wl pre.length v.cells.toList 0 pre (old++post) (by simp) (by simp [d]),←k];congr 2;rw [Ja,List.drop_append_of_le_length (by rw [b]; exact Nat.le_refl _),b,List.drop_length,Jd]
theorem bm {place:Nat→Option (Nat×Nat)} {cells:Array Value}:Instr.fill place cells []=some cells:=rfl
theorem sK {place:Nat→Option (Nat×Nat)} {cells cs:List Value} (h:cells=cs):Instr.fill place cells.toArray []=some cs.toArray:=by rw [h]; rfl
theorem aT {T:TypeId} (places:List (Nat×Nat)) (zs:List Value) {vs:List (Nat×Value)} {r:Option (Array Value)} (h:∀vs,P.built T vs=Instr.fill (places.toArray[·]?) zs.toArray vs) (k:Instr.fill (places.toArray[·]?) zs.toArray vs=r):P.built T vs=r:=(h vs).trans k
theorem ay:∀v∈([]:List Value),v.oneCell'=true:=by simp
theorem ah {a:Value} {l:List Value} (h:a.oneCell'=true) (t:∀v∈l,v.oneCell'=true):∀v∈a::l,v.oneCell'=true:=List.forall_mem_cons.2 ⟨h,t⟩
theorem au {l m:List Value} (h:∀v∈l,v.oneCell'=true) (t:∀v∈m,v.oneCell'=true):∀v∈l++m,v.oneCell'=true:=List.forall_mem_append.2 ⟨h,t⟩
theorem bL {v:Value} {n:Nat} (h:∃a cap,v=.slice a n cap):v.oneCell'=true:=by obtain ⟨a,c,h⟩:=h; rw [h]; rfl
theorem aS {v:Value} (h:v.oneCell'=true):v.cells.toList=[v]:=by cases v <;> first|rfl|simp [Value.oneCell'] at h
theorem bj {T:TypeId} {parts:Array (Nat×Operand)} {vs:List (Nat×Value)} {cs:List Value} (hp:parts.toList.map (fun p=>(p.1,ev E p.2))=vs) (hb:P.built T vs=some cs.toArray) :
 cy P E ⟨d,.build T parts,ty,ps,af,gd⟩ w (.agg cs.toArray) w:=.inl (by
 have b:(parts.map fun (x:Nat×Operand)=>(x.1,ev E x.2))=vs.toArray:=by apply Array.ext'; rw [Array.toList_map,←hp]
 have a:(parts.map fun ((i,x):Nat×Operand)=>(i,ev E x))=vs.toArray:=b;have:=run_build (P:=P) w T vs.toArray cs.toArray (by simpa using hb);simp only [execOp,Sem.run_bind,a,this,Jf,Sem.run_pure])
theorem eF {b o a:Nat} {cs:List Value} (f:∀j u,cs[j]?=some u→w.cell? ⟨b,o+j,none⟩=some u) (pre ds post:List Value) (e:cs=pre++(ds++post)) (hl:pre.length=a) :
 ∀j u,ds[j]?=some u→w.cell? ⟨b,o+a+j,none⟩=some u:=by
 intro j u c;subst e; subst hl;rw [Nat.add_assoc];refine f _ u ?_;have d:j<ds.length:=(IR.1 c).1;rw [Jv (by omega),Nat.add_sub_cancel_left,Jc d];exact c
end
def lp (T:TypeId) (b:Nat) (cs:List Value) (g:Hp):Prop:=g b=some (.cells cs.toArray T (0,0))
theorem lp.mono {T:TypeId} {b:Nat} {cs:List Value} {g g':Hp} (h:lp T b cs g) (hg:bc g g'):lp T b cs g':=hg _ _ h
theorem lp.cells {T:TypeId} {b:Nat} {cs:List Value} {g:Hp} {w:World} (h:lp T b cs g) (hi:cY g w):∀j u,cs[j]?=some u→w.cell? ⟨b,0+j,none⟩=some u:=fun j u hj=>by
 have:=hi b _ h;simp [World.cell?,this,hj]
section
variable {g0 g:Hp} {w0 w:World} {L:List Res}
theorem Sep.relBox (h:Sep g0 w0 g w L) {i b:Nat} {T:TypeId} {cs:List Value} (hi:L[i]?=some (tH b T cs)):∃g',bc g g'∧lp T b cs g'∧Sep g0 w0 g' w (L.eraseIdx i):=by
 have ho:=(h.at hi).out;obtain ⟨hs,hle⟩:=h.release hi (b:=b) rfl ho;exact ⟨_,hle,by simp [lp,uQ],hs⟩
theorem Sep.lent (h:Sep g0 w0 g w L) {g1 g1':Hp} {w':World} (he:dx g1 w g1' w'):∃g',bc g g'∧Sep g0 w0 g' w' L:=by
 have hx:dx g w (fun k=>if k<w.heap.size then g k else g1' k) w':=by
  refine ⟨he.below,fun b hb=>if_pos hb,fun b o hb=>?_⟩;split at hb
  ·rename_i hlt;have:=h.imm b o hb;rw [he.below.block b hlt]; exact this
  ·exact he.imm b o hb
 exact ⟨_,hx.le h.imm,h.call hx⟩
end
theorem Sep.callOwn {g0 g:Hp} {w0 w:World} {L L':List Res} (h:Sep g0 w0 g w L) {g':Hp} {w':World} (c:Sep g w g' w' L'):Sep g0 w0 g' w' (L'++L):=by
 have d:=h.call c.ext;refine ⟨d.ext,fun r a=>?_,fun r a b hb=>?_,?_⟩
 ·rcases IZ.1 a with a|a
  ·exact c.ok r a
  ·exact d.ok r a
 ·rcases IZ.1 a with a|a
  ·have:=c.fresh r a b hb;have hs:=h.ext.below.size;exact ⟨by omega,this.2⟩
  ·exact d.fresh r a b hb
 ·refine List.pairwise_append.2 ⟨c.apart,h.apart,fun r a s hs b hb e=>?_⟩;have i:=c.fresh r a b hb;have f:=Res.lt (h.ok s hs) e;omega
theorem Sep.sel {g0 g:Hp} {w0 w:World} {L L':List Res} (h:Sep g0 w0 g w L) (a:List Nat) (hn:a.Nodup) (hl:L'.map some=a.map (L[·]?)):Sep g0 w0 g w L':=by
 have o:∀r∈L',r∈L:=by
  intro r d;have:some r∈L'.map some:=List.mem_map_of_mem d;rw [hl] at this;obtain ⟨i,_,c⟩:=Jt.1 this;exact List.mem_of_getElem? c
 refine ⟨h.ext,fun r d=>h.ok r (o r d),fun r d=>h.fresh r (o r d),?_⟩;have hlen:L'.length=a.length:=by have:=congrArg List.length hl; simpa using this
 have q:∀(i:Nat) (c:i<L'.length),L[a[i]'(by omega)]?=some L'[i]:=by
  intro i c;have:=congrArg (fun l=>l[i]?) hl;have v:i<a.length:=by omega
  simp [c,v] at this;exact this.symm
 rw [List.pairwise_iff_getElem];intro i j c t u b hb p;have k:=q i c;have f:=q j t;obtain ⟨n,k⟩:=IR.1 k;obtain ⟨m,f⟩:=IR.1 f;have s:a[i]'(by omega)≠a[j]'(by omega):=fun e=>by
  exact List.pairwise_iff_getElem.1 hn i j (by omega) (by omega) u e
 have hp:=List.pairwise_iff_getElem.1 h.apart;rcases Nat.lt_or_gt_of_ne s with hlt|hlt
 ·exact hp _ _ n m hlt b (by rw [k]; exact hb) (by rw [f]; exact p)
 ·exact hp _ _ m n hlt b (by rw [f]; exact p) (by rw [k]; exact hb)
section
variable {P:Program} {n:Fr} {Q:EPost} {E:Env} {w:World} {ops:Array Oper} {rest:List Oper} {d:Tmp} {ty:TypeId} {ps:String} {af:Array Edge} {gd:Option (Nat×Bool)}
theorem dU {d:Option Tmp} {f:FuncId} {cap:Array Operand} {vs:List Value} (hc:cap.toList.map (ev E)=vs):cy P E ⟨d,.makeFunc (.func f) #[] cap,ty,ps,af,gd⟩ w (.func (.func f) #[] vs.toArray) w:=.inl (by
 have:cap.map (ev E)=vs.toArray:=by apply Array.ext'; rw [Array.toList_map,hc]
 simp [execOp,Instr.makeFunc,this])
theorem sr {d:Option Tmp} {f:FuncId} {x:Operand} {xs:Array Operand} {j:Array TypeId} {args b:List Value} (hf:CF P f) (hx:ev E x=.func (.func f) #[] b.toArray) (ha:xs.toList.map (ev E)=args) :
 (execOp (ev E) ⟨d,.call { callee:=.value x,args:=xs,argTypes:=j },ty,ps,af,gd⟩).run P w=.ok (.enter f (args++b).toArray) w:=by
 obtain ⟨fn,i,a,g⟩:=hf;have ha:xs.map (ev E)=args.toArray:=by apply Array.ext'; rw [Array.toList_map,ha]
 have c:¬ fn.name = "runtime.NumGoroutine":=by simpa using g
 have e:¬ fn.body=none:=by intro h; rw [h] at a; cases a
 simp [execOp,resolve,Deferred.ofValue,invoke,callFunc,hx,ha,i,e,c]
theorem CV {f:FuncId} {x:Operand} {xs:Array Operand} {c:Array TypeId} (args a:List Value) {R:Value→World→Prop} (hf:CF P f) (hx:ev E x=.func (.func f) #[] a.toArray) (ha:xs.toList.map (ev E)=args) (b:aU P f (args++a).toArray w R) (hd:Nat.blt d n.sz=true)
 (k:∀v w',R v w'→OW P n ops Q rest (cz E d v) w'):OW P n ops Q (⟨some d,.call { callee:=.value x,args:=xs,argTypes:=c },ty,ps,af,none⟩::rest) E w:=
 xN (sr hf hx ha) hd rfl b k
theorem HE {f:FuncId} {x:Operand} {xs:Array Operand} {o:Array TypeId} {e:Tmp} {j:Nat} {a:Bool} {b:Bool} {c:Oper} (i:ops[j]?=some c) (l:c.dst=some e) (hb:ev E (.tmp e)=.bool b) (h:(b == a)=true)
 (args g:List Value) {R:Value→World→Prop} (hf:CF P f) (hx:ev E x=.func (.func f) #[] g.toArray) (ha:xs.toList.map (ev E)=args) (m:aU P f (args++g).toArray w R) (hd:Nat.blt d n.sz=true)
 (k:∀v w',R v w'→OW P n ops Q rest (cz E d v) w'):OW P n ops Q (⟨some d,.call { callee:=.value x,args:=xs,argTypes:=o },ty,ps,af,some (j,a)⟩::rest) E w:=
 vq rfl i l hb h (sr hf hx ha) hd m k
end
def rz {α β:Type} (P:Program) (A:Hp→Value→α→Prop) (B:Hp→Value→β→Prop) (v:Value) (F:α→Option β) (g:Hp):Prop:=
 ∃f cap,v=.func (.func f) #[] (List.toArray cap)∧CF P f∧∀g' w' a x r,bc g g'→cY g' w'→A g' a x→F x=some r→
  aU P f ([a]++cap).toArray w' (fun v w''=>∃g'',B g'' v r∧dx g' w' g'' w'')
theorem rz.mono {α β:Type} {P:Program} {A:Hp→Value→α→Prop} {B:Hp→Value→β→Prop} {v:Value} {F:α→Option β} {g g':Hp} (h:rz P A B v F g) (hg:bc g g'):rz P A B v F g':=by
 obtain ⟨f,cap,h1,h2,h3⟩:=h;exact ⟨f,cap,h1,h2,fun g2 w' a x r hle=>h3 g2 w' a x r (hg.trans hle)⟩
def jZ {β:Type} (P:Program) (B:Hp→Value→β→Prop) (v:Value) (F:Option β) (g:Hp):Prop:=
 ∃f cap,v=.func (.func f) #[] (List.toArray cap)∧CF P f∧∀g' w' r,bc g g'→cY g' w'→F=some r→
  aU P f (([]:List Value)++cap).toArray w' (fun v w''=>∃g'',B g'' v r∧dx g' w' g'' w'')
theorem jZ.mono {β:Type} {P:Program} {B:Hp→Value→β→Prop} {v:Value} {F:Option β} {g g':Hp} (h:jZ P B v F g) (hg:bc g g'):jZ P B v F g':=by
 obtain ⟨f,cap,h1,h2,h3⟩:=h;exact ⟨f,cap,h1,h2,fun g2 w' r hle=>h3 g2 w' r (hg.trans hle)⟩
theorem jZ.one {β:Type} {P:Program} {B:Hp→Value→β→Prop} {v:Value} {F:Option β} {g:Hp} (h:jZ P B v F g):v.oneCell'=true:=by
 obtain ⟨f,cap,rfl,_⟩:=h; rfl
def yZ {β:Type} (P:Program) (B:Hp→Value→β→Prop):Ty (Option β):=
 ⟨1,fun g cs F=>∃v,cs=[v]∧jZ P B v F g,fun hg ⟨v,h1,h2⟩=>⟨v,h1,h2.mono hg⟩,fun ⟨v,h,_⟩=>by rw [h]; rfl,fun ⟨v,h,hf⟩ u hu=>by rw [h] at hu; simp at hu; subst hu; exact hf.one⟩
section
variable {P:Program} {E:Env} {w:World} {d:Option Tmp} {ty:TypeId} {ps:String} {af:Array Edge} {gd:Option (Nat×Bool)}
theorem zj {T T' e:TypeId} {x y:Operand} {a:Option Addr} {n c b g:Nat} {v:Value} (h:P.underlying T=some (.slice e)) (hx:ev E x=v) (f:v=.slice a n c) (hy:ev E y=.slice none b g) :
 cy P E ⟨d,.binOp .eql T x y T',ty,ps,af,gd⟩ w (.bool a.isNone) w:=bS (by rw [hx,f,hy]; rfl) (by
 rw [hx,f,hy];simp only [binOp];simp [Op.equal,Op.maxDepth,Lib.run_equalIn_slice_nil w 9999 T e a n c b g h])
theorem cA.none_nil {α:Type} {τ:Ty α} {g:Hp} {v:Value} {l:List α} (h:cA τ g v l) {n c:Nat} (hv:v=.slice none n c):l=[]:=by
 obtain ⟨xs,hr,hs⟩:=h;rcases hs with ⟨hn,_⟩|⟨b,off,cap,arr,e,fz,h1,_⟩
 ·exact JJ hn
 ·rw [h1] at hv; cases hv
theorem uj (b:Bool):b=true∨b=false:=by cases b <;> simp
end
section
variable {P:Program} {E:Env} {w:World} {d:Option Tmp} {ty:TypeId} {ps:String} {af:Array Edge} {gd:Option (Nat×Bool)} {T T':TypeId} {x y:Operand} {a b:Str}
end
theorem nt {P:Program} {w:World} {T:TypeId} {size bytes:Nat} {z:Value} (ht:en P T false size bytes z) {cs:Array Value} {o:Nat} {v:Value} (hv:cs[o]?=some v):(part T cs o).run P w=.ok v w:=by
 simp [part,gD ht,hv]
theorem kU {P:Program} {T:TypeId} {l g:Field} {k:IntKind} {bytes:Nat} {z:Value} {K:Type} [BEq K] [LawfulBEq K] {ek:K→Value} (d c:K→Int) (r:P.underlying T=some (.struct #[l,g])) (F:P.underlying l.type=some (.int k)) (D:P.underlying g.type=some (.int k))
 (t0:en P l.type false 1 bytes z) (t:en P g.type false 1 bytes z) (v:l.offset=0) (u:g.offset=1) (B:l.name≠ "_") (A:g.name≠ "_") (G:P.stoodInHeld T=false)
 (m:∀x,ek x=.agg #[.int k (d x),.int k (c x)]) (hb:∀x y,(x == y)=(d x == d y && c x == c y)):ln P T ek where
 check b x w:=by
  rw [m];have L:∀n (a:Int) w,(Instr.checkKey b (n+1) l.type (.int k a)).run P w=.ok () w:=fun n a w=>MapKept.run_checkKey F (k:=.int k a) rfl b n
  have c1:∀n (a:Int) w,(Instr.checkKey b (n+1) g.type (.int k a)).run P w=.ok () w:=fun n a w=>MapKept.run_checkKey D (k:=.int k a) rfl b n
  have p:∀w,(part l.type #[.int k (d x),.int k (c x)] 0).run P w=.ok (.int k (d x)) w:=fun w=>nt t0 rfl
  have o:∀w,(part g.type #[.int k (d x),.int k (c x)] 1).run P w=.ok (.int k (c x)) w:=fun w=>nt t rfl
  have key:∀n,(Instr.checkKey b (n+1+1) T (.agg #[.int k (d x),.int k (c x)])).run P w=.ok () w:=fun n=>by
   rw [Instr.checkKey];simp only [Sem.run_bind,run_underlying r,Jf];simp [v,u,B,A,p,o,L n,c1 n]
  exact key 9998
 find x es f w h:=by
  have hq:∀y w,(Op.equal T (ek x) (ek y)).run P w=.ok (x == y) w:=fun y w=>by
   have p:∀x w,(part l.type #[.int k (d x),.int k (c x)] 0).run P w=.ok (.int k (d x)) w:=fun x w=>nt t0 rfl
   have o:∀x w,(part g.type #[.int k (d x),.int k (c x)] 1).run P w=.ok (.int k (c x)) w:=fun x w=>nt t rfl
   have hp:∀w,(program).run P w=.ok P w:=fun w=>rfl
   rw [m,m,hb];have key:∀n,(Op.equalIn (n+1+1) T (.agg #[.int k (d x),.int k (c x)]) (.agg #[.int k (d y),.int k (c y)])).run P w=.ok (d x == d y && c x == c y) w:=fun n=>by
    rw [Op.equalIn];simp only [Sem.run_bind,run_underlying r,Jf,hp,G];have J:=fun a b w=>gr (P:=P) (w:=w) n F a b
    have I:=fun a b w=>gr (P:=P) (w:=w) n D a b
    cases hA:d x == d y <;> cases hB:c x == c y <;> simp [v,u,B,A,p,o,J,I,hA,hB] <;> simp_all
   exact key 9998
  have q:Instr.findNow (.struct #[l,g]) (ek x) es 0=none∨es=[]:=by
   match es,f,h with
   | [],_,_=>exact .inr rfl
   | e::es,[],h=>simp at h
   | e::es,y::f,h=>
    simp only [List.map_cons,List.cons.injEq] at h;refine .inl ?_;rw [m];simp [Instr.findNow,Instr.sameNow]
  have H:∀(es:List MapEntry) (f:List K) (i:Nat),es.map (·.key)=f.map ek→(Instr.findAsking T (ek x) es i).run P w=.ok ((f.findIdx? (· == x)).bind fun j=>(es[j]?).map fun e=>(i+j,e.val)) w:=by
   intro es;induction es with
   | nil=>intro f i h; cases f with
    | nil=>rfl
    | cons _ _=>simp at h
   | cons e es ih=>
    intro f i h
    match f,h with
    | y::f,h=>
     simp only [List.map_cons,List.cons.injEq] at h;rw [Instr.findAsking,h.1];simp only [Sem.run_bind,hq,Jf];rw [List.findIdx?_cons,BEq.comm (a:=y)];cases hx:x == y
     ·have:=ih f (i+1) h.2;simp only [Bool.false_eq_true,if_false,this];cases hj:f.findIdx? (· == x) with
      | none=>simp
      | some j=>simp [Nat.add_assoc,Nat.add_comm 1 j]
     ·simp
  have hf:=H es f 0 h;simp only [Nat.zero_add] at hf;simp only [Instr.findKey,Sem.run_bind,run_underlying r,Jf];rcases q with q|rfl
  ·rw [q]; exact hf
  ·cases f with
   | nil=>rfl
   | cons _ _=>simp at h
 stays x:=by
  rw [m];simp [Instr.sameBits]
 lawful:=inferInstance
 inj x y h:=by
  rw [m,m] at h;have s:=(Array.mk.inj (Value.agg.inj h));simp only [List.cons.injEq,Value.int.injEq,true_and,and_true] at s;exact eq_of_beq (by rw [hb,s.1,s.2]; simp)
inductive Rt (α:Type) where
  | ret (a:α)
  | pan (x:Int)
def Rt.on {α β:Type} (x:Rt α) (k:α→β) (p:Int→β):β:=match x with
 | .ret a=>k a
 | .pan x=>p x
def uC (v:Value):List PanicEntry:=[{ v:=v,recovered:=false }]
def wM (P:Program) (f:FuncId) (args:Array Value) (w:World) (v:Value) (R:World→Prop):Prop:=
 Calls P f args w fun e w'=>e=.panicked (uC v)∧R w'
def FX (P:Program) (fn:Func) (n:Fr) {α:Type} (T:TypeId) (o:Rt α) (R:α→Value→World→Prop) (R':World→Prop):EPost:=fun e E w=>match e,o with
 | .normal,.ret a=>FL P fn n E (R a) E.ds w
 | .ret,.ret a=>FL P fn n E (R a) E.ds w
 | .panic ch,.pan x=>ch=uC (.iface T (.int .i64 x))∧E.ds=[]∧R' w
 | _,_=>False
def gU (P:Program) (f:FuncId) (args:Array Value) (w:World) {α:Type} (T:TypeId) (o:Rt α) (R:α→Value→World→Prop) (R':World→Prop):Prop:=match o with
 | .ret a=>aU P f args w (R a)
 | .pan x=>wM P f args w (.iface T (.int .i64 x)) R'
instance {P:Program} {fn:Func} {n:Fr} {α:Type} {T:TypeId} {o:Rt α} {R:α→Value→World→Prop} {R':World→Prop}:fJ (FX P fn n T o R R'):=⟨fun c E E' w hd q=>by
 cases o with
 | ret a=>exact q
 | pan x=>exact ⟨q.1,hd ▸ q.2.1,q.2.2⟩⟩
section
variable {P:Program} {n:Fr} {Q:EPost} {E:Env} {w:World} {α:Type}
theorem dm {f:FuncId} {fn:Func} {c:Code} {m:Nat} {args:List Value} {T:TypeId} {o:Rt α} {R:α→Value→World→Prop} {R':World→Prop} (hf:P.funcs[f]?=some fn) (hb:fn.body=some c) (hn:fn.ntmps=m) (hl:Nat.ble args.length m=true)
 (h:WP P ⟨m,none⟩ c (FX P fn ⟨m,none⟩ T o R R') (mU args) w):gU P f args.toArray w T o R R':=by
 subst hn;have key:=h _ (lK args _ (Nat.le_of_ble_eq_true hl));cases o with
 | ret a=>
  refine callsIn_wide (n:=0) |>.1 (callsIn_of_wp_marks (F:=Fz ⟨fn.ntmps,none⟩) hf hb trivial ?_);refine wpIn_mono key ?_;rintro e d w ⟨E,b,q⟩;cases e <;> first
   | exact q.elim
   | (show LeavesInM _ _ _ _ _ _ d.defers _ _; rw [b.defers]; exact oC b E.ds w q)
 | pan x=>
  refine callsIn_wide (n:=0) |>.1 (callsIn_of_wp_marks (F:=Fz ⟨fn.ntmps,none⟩) hf hb trivial ?_);refine wpIn_mono key ?_;rintro e d w ⟨E,b,q⟩;cases e <;> first
   | exact q.elim
   | (show LeavesInM _ _ _ _ _ _ d.defers _ _; rw [b.defers,q.2.1,q.1]; exact ⟨rfl,q.2.2⟩)
section
variable {ops:Array Oper} {rest:List Oper} {ty:TypeId} {ps:String} {af:Array Edge}
theorem Az {x:Operand} {T:TypeId} {v:Value} {dd:Option Tmp} (hx:ev E x=.iface T v) (h:Q (.panic (uC (.iface T v))) E w):OW P n ops Q (⟨dd,.panic x,ty,ps,af,none⟩::rest) E w:=by
 intro a ha;refine wpListIn_plain rfl fun K hK=>⟨fun _ _=>trivial,?_⟩
 rw [Oper.semAt_eq _ _ _ (by simp),ha.eval];simp only [execOp,hx];exact ⟨E,ha,h⟩
theorem vP {o:Oper} {f:FuncId} {args:Array Value} {v:Value} {R:World→Prop} {a:Act} {K:Act→World→Prop} (ha:fB n E a)
 (hr:(execOp (ev E) o).run P w=.ok (.enter f args) w) (hc:wM P f args w v R) (k:∀w',R w'→Q (.panic (uC v)) E w'):o.wpIn (Fz n) 0 P a w K (nC n Q):=by
 refine mB ha hr (hc.mono fun e w' ⟨he,hR⟩=>?_);subst he;exact ⟨E,ha,k w' hR⟩
theorem CN {f:FuncId} {xs:Array Operand} {i:Array TypeId} {h:Option Tmp} (args:List Value) {v:Value} {R:World→Prop} (hf:CF P f) (ha:xs.toList.map (ev E)=args) (c:wM P f args.toArray w v R)
 (k:∀w',R w'→Q (.panic (uC v)) E w'):OW P n ops Q (⟨h,.call { callee:=.value (.func f),args:=xs,argTypes:=i },ty,ps,af,none⟩::rest) E w:=by
 obtain ⟨fn,g,e,d⟩:=hf;exact fun a b=>wpListIn_plain rfl fun K j=>vP b (vN g e d ha) c k
end
end
theorem rE {α β:Type} {o:Option (Rt α)} {k:α→Option β} {kp:Int→Option β} {r:β} (h:(o.bind fun x=>x.on k kp)=some r) :
 (∃a,o=some (.ret a)∧k a=some r)∨(∃x,o=some (.pan x)∧kp x=some r):=by
 obtain ⟨x,h1,h2⟩:=ab h;cases x with
 | ret a=>exact .inl ⟨a,h1,h2⟩
 | pan x=>exact .inr ⟨x,h1,h2⟩
theorem tE {g:Hp} {w w':World} (hi:cY g w) (hb:Below w.heap.size w w'):dx g w g w':=
 ⟨hb,fun _ _=>rfl,fun b o h=>by rw [hb.block b (hi.lt h)]; exact hi b o h⟩
theorem Sep.selT {g0 g:Hp} {w0 w:World} {A A' L:List Res} (h:Sep g0 w0 g w (A++L)) (e:List Nat) (hn:e.Nodup) (hl:A'.map some=e.map (A[·]?)):Sep g0 w0 g w (A'++L):=by
 have f:∀i∈e,i<A.length:=by
  intro i d;have:A[i]?∈A'.map some:=by rw [hl]; exact List.mem_map_of_mem d
  obtain ⟨r,_,j⟩:=Jt.1 this;exact (IR.1 j.symm).1
 refine h.sel (e++(List.range L.length).map (A.length+·)) ?_ ?_
 ·rw [List.nodup_append];refine ⟨hn,?_,fun a ha b hb=>?_⟩
  ·exact List.pairwise_map.2 (List.nodup_range.imp fun {a b} k l=>k (by omega))
  ·obtain ⟨c,_,rfl⟩:=Jt.1 hb;have:=f a ha; omega
 ·rw [Jh,Jh];congr 1
  ·rw [hl];refine List.map_congr_left fun i d=>?_
   rw [Jc (f i d)]
  ·rw [JF];apply List.ext_getElem?;intro i
   by_cases d:i<L.length
   ·simp [d]
   ·simp [d]
section
variable {P:Program} {E:Env} {w:World} {d:Option Tmp} {ty:TypeId} {ps:String} {af:Array Edge} {gd:Option (Nat×Bool)}
theorem aB {x:Operand} {b o:Nat} (hx:ev E x=.pointer (some ⟨b,o,none⟩)):cy P E ⟨d,.nilCheck x,ty,ps,af,gd⟩ w (.pointer (some ⟨b,o,none⟩)) w:=.inl (by simp [execOp,hx])
theorem oN {T:TypeId} {x:Operand} {v:Value} (hT:P.concrete T=true) (hx:ev E x=v):cy P E ⟨d,.makeInterface T x,ty,ps,af,gd⟩ w (.iface T v) w:=.inl (by
 subst hx; simp [execOp,run_makeInterface w T _ hT])
def qd {α:Type} (l:List α) (i j:Int):Option (List α):=if 0≤i∧i≤j∧j≤l.length then some ((l.take j.toNat).drop i.toNat) else none
theorem nX {α:Type} {l m:List α} {i j:Int} (h:qd l i j=some m):0≤i∧i≤j∧j≤l.length∧m=(l.take j.toNat).drop i.toNat:=by
 unfold qd at h;split at h
 ·rename_i hc; simp only [Option.some.injEq] at h; exact ⟨hc.1,hc.2.1,hc.2.2,h.symm⟩
 ·cases h
theorem ga {T:TypeId} {agg:Bool} {size bytes:Nat} {z:Value} (h:en P T agg size bytes z):(sizeOf T).run P w=.ok size w:=dw h
theorem sp {T el:TypeId} {l:Bool} {size bytes:Nat} {z:Value} (f:P.underlying T=some (.slice el)) (p:en P el l size bytes z) {a:Option Addr} {n b:Nat} {lo e:Option Value} {i j:Int}
 (m:(lo=none∧i=0)∨∃k,lo=some (.int k i)) (o:(e=none∧j=n)∨∃k,e=some (.int k j)) (h:0≤i) (q:i≤j) (s:j≤n) (r:n≤b) :
 (Instr.sliceAt T (.slice a n b) lo e none).run P w=.ok (sliced a i.toNat j.toNat b size) w:=by
 have g:P.elem T=el:=by simp [Program.elem,f]
 have c:P.underlying T=some (.slice (P.elem T)):=by rw [g]; exact f
 have d:en P (P.elem T) l size bytes z:=by rw [g]; exact p
 rw [run_sliceAt_slice _ _ _ _ _ _ c];rcases m with ⟨rfl,rfl⟩|⟨k,rfl⟩ <;> rcases o with ⟨rfl,rfl⟩|⟨k',rfl⟩
 ·rw [run_slice_all w T a n b c,ga d]; simp [Result.andThen]
 ·rw [run_slice_h w T a n b c k' j (by omega) (by omega),ga d]; simp [Result.andThen]
 ·rw [run_slice_l w T a n b c k i h (by omega),ga d]; simp [Result.andThen]
 ·rw [run_slice_lh w T a n b c k k' i j h q (by omega),ga d]; simp [Result.andThen]
end
def tZ (E:Env) (lo:Option Operand) (i dflt:Int):Prop:=(lo=none∧i=dflt)∨∃k y,lo=some y∧ev E y=.int k i
theorem tZ.none {E:Env} {i:Int}:tZ E none i i:=.inl ⟨rfl,rfl⟩
theorem tZ.some {E:Env} {y:Operand} {i dflt:Int} {k:IntKind} (h:ev E y=.int k i):tZ E (some y) i dflt:=.inr ⟨k,y,rfl,h⟩
theorem tZ.val {E:Env} {lo:Option Operand} {i dflt:Int} (h:tZ E lo i dflt):(lo.map (ev E)=.none∧i=dflt)∨∃k,lo.map (ev E)=.some (.int k i):=by
 rcases h with ⟨rfl,rfl⟩|⟨k,y,rfl,h⟩
 ·exact .inl ⟨rfl,rfl⟩
 ·exact .inr ⟨k,by rw [Option.map_some,h]⟩
theorem ae.sub {α:Type} {τ:Ty α} {g:Hp} {xs:List Value} {l:List α} (h:ae τ g xs l) (i j:Nat) (a:j≤l.length):ae τ g ((xs.take (j*τ.sz)).drop (i*τ.sz)) ((l.take j).drop i):=by
 refine ⟨?_,fun q x hx=>?_⟩
 ·have c:j*τ.sz≤xs.length:=by rw [h.1]; exact Jj _ a
  rw [JK,JK,Jo,Jo,Nat.min_eq_left c,Nat.min_eq_left a,Nat.sub_mul]
 ·rw [List.getElem?_drop,List.getElem?_take] at hx;split at hx
  ·rename_i hlt;have:=h.2 _ _ hx;have e:((((xs.take (j*τ.sz)).drop (i*τ.sz)).drop (q*τ.sz)).take τ.sz)=(xs.drop ((i+q)*τ.sz)).take τ.sz:=by
    apply List.ext_getElem?;intro p;simp only [List.getElem?_take,List.getElem?_drop];split
    ·rename_i hp;have b:(i+q+1)*τ.sz≤j*τ.sz:=Jj _ hlt;rw [Nat.succ_mul] at b;have d:(i+q)*τ.sz=i*τ.sz+q*τ.sz:=Nat.add_mul _ _ _;rw [if_pos (by omega)];congr 1;omega
    ·rfl
   rw [e]; exact this
  ·cases hx
theorem wX {α:Type} {l m:List α} {i j:Int} (h:qd l i j=some m):m.length=j.toNat - i.toNat:=by
 obtain ⟨h0,h1,h2,rfl⟩:=nX h;rw [JK,Jo];omega
section
variable {P:Program} {E:Env} {w:World} {d:Option Tmp} {ty:TypeId} {ps:String} {af:Array Edge} {gd:Option (Nat×Bool)}
theorem cA.slice {α:Type} {τ:Ty α} {g:Hp} {v:Value} {l m:List α} (h:cA τ g v l) {i j:Int} (hs:qd l i j=some m) :
 ∃v',cA τ g v' m∧∀ {P:Program} {E:Env} {w:World} {d:Option Tmp} {ty:TypeId} {ps:String} {af:Array Edge} {gd:Option (Nat×Bool)} {T el:TypeId} {o:Bool} {bytes:Nat} {z:Value} {x:Operand} {lo k:Option Operand},
  P.underlying T=some (.slice el)→en P el o τ.sz bytes z→ev E x=v→tZ E lo i 0→tZ E k j l.length→cy P E ⟨d,.slice T x lo k none,ty,ps,af,gd⟩ w v' w:=by
 obtain ⟨Q,N,L,s⟩:=nX hs;have B:=wX hs;obtain ⟨xs,r,A⟩:=h;have run:∀(a:Option Addr) (c:Nat),v=.slice a l.length c→l.length≤c→∀ {P:Program} {E:Env} {w:World} {d:Option Tmp} {ty:TypeId} {ps:String} {af:Array Edge} {gd:Option (Nat×Bool)} {T el:TypeId} {o:Bool} {bytes:Nat} {z:Value} {x:Operand} {lo k:Option Operand},
  P.underlying T=some (.slice el)→en P el o τ.sz bytes z→ev E x=v→tZ E lo i 0→tZ E k j l.length→cy P E ⟨d,.slice T x lo k none,ty,ps,af,gd⟩ w (sliced a i.toNat j.toNat c τ.sz) w:=by
  intro a c f J P E w d ty ps af gd T el o bytes z x lo k K H hx D F;exact ⟨by simp only [execOp,Option.map_none,hx,f,Sem.run_bind,sp K H D.val F.val Q N L J,Jf,Sem.run_pure]⟩
 rcases A with ⟨hn,y,a,c,f,ha⟩|⟨b,p,c,S,e,R,f,t,G,I⟩
 ·refine ⟨_,⟨(xs.take (j.toNat*τ.sz)).drop (i.toNat*τ.sz),s ▸ r.sub _ _ (by omega),.inl ⟨by omega,by rw [y]; simp,(if c=i.toNat then a else a.map (·.add (i.toNat*τ.sz))),c - i.toNat,?_,?_⟩⟩,run a c (by rw [f,hn]) (by omega)⟩
  ·simp only [sliced]; congr 1; omega
  ·intro h;have:a=none:=by
    split at h
    ·exact h
    ·simpa using h
   have:=ha this; omega
 ·by_cases hij:j.toNat - i.toNat=0
  ·refine ⟨_,⟨(xs.take (j.toNat*τ.sz)).drop (i.toNat*τ.sz),s ▸ r.sub _ _ (by omega),.inl ⟨by omega,?_,(if c=i.toNat then some ⟨b,p,none⟩ else (some (⟨b,p,none⟩:Addr)).map (·.add (i.toNat*τ.sz))),c - i.toNat,?_,?_⟩⟩,run _ c f t⟩
   ·apply JJ;rw [JK,Jo];have:j.toNat=i.toNat:=by omega
    rw [this]; omega
   ·simp only [sliced]; congr 1
   ·intro h; split at h <;> simp at h
  ·refine ⟨_,⟨(xs.take (j.toNat*τ.sz)).drop (i.toNat*τ.sz),s ▸ r.sub _ _ (by omega),.inr ⟨b,p+i.toNat*τ.sz,c - i.toNat,S,e,R,?_,by omega,G,fun q u n=>?_⟩⟩,run _ c f t⟩
   ·simp only [sliced]; rw [if_neg (by omega),B]; simp [Addr.add]
   ·rw [List.getElem?_drop,List.getElem?_take] at n;split at n
    ·have:=I _ _ n;rw [Nat.add_assoc]; exact this
    ·cases n
theorem Sep.rowCut {α:Type} {τ:Ty α} {g0 g:Hp} {w0 w:World} {L:List Res} (h:Sep g0 w0 g w L) {i:Nat} {v:Value} {e:TypeId} {xs:List Value} {l m:List α} (c:L[i]?=some (.row v e τ.sz l.length xs)) (p:ae τ g xs l) {j:Int} (hs:qd l 0 j=some m) :
 ∃v' xs',ae τ g xs' m∧Sep g0 w0 g w (L.set i (.row v' e τ.sz m.length xs'))∧∀ {P:Program} {E:Env} {d:Option Tmp} {ty:TypeId} {ps:String} {af:Array Edge} {gd:Option (Nat×Bool)} {T el:TypeId} {o:Bool} {bytes:Nat} {z:Value} {x:Operand} {lo c:Option Operand},
  P.underlying T=some (.slice el)→en P el o τ.sz bytes z→ev E x=v→tZ E lo 0 0→tZ E c j l.length→cy P E ⟨d,.slice T x lo c none,ty,ps,af,gd⟩ w v' w:=by
 obtain ⟨_,N,K,u⟩:=nX hs;have q:=wX hs;have s:=(h.at c).out;have R:xs.length=l.length*τ.sz:=p.1;have key:∀(a:Option Addr) (f:Nat),v=.slice a l.length f→l.length≤f→∀ {P:Program} {E:Env} {d:Option Tmp} {ty:TypeId} {ps:String} {af:Array Edge} {gd:Option (Nat×Bool)} {T el:TypeId} {o:Bool} {bytes:Nat} {z:Value} {x:Operand} {lo c:Option Operand},
  P.underlying T=some (.slice el)→en P el o τ.sz bytes z→ev E x=v→tZ E lo 0 0→tZ E c j l.length→cy P E ⟨d,.slice T x lo c none,ty,ps,af,gd⟩ w (.slice a m.length f) w:=by
  intro a f k G P E d ty ps af gd T el o bytes z x lo c J B hx y A;have e:sliced a (0:Int).toNat j.toNat f τ.sz=.slice a m.length f:=by
   simp only [sliced,q];congr 1;split
   ·rfl
   ·cases a <;> simp [Addr.add]
  exact ⟨by simp only [execOp,Option.map_none,hx,k,Sem.run_bind,sp J B y.val A.val (Int.le_refl 0) N K G,Jf,Sem.run_pure,e]⟩
 have n:ae τ g (xs.take (m.length*τ.sz)) m:=by
  have:=p.sub 0 j.toNat (by omega);rw [q];subst u;simpa using this
 rcases s.2 with ⟨k,hn⟩|⟨b,f,Q,k,H,hb,t,F,D,r⟩
 ·refine ⟨.slice none m.length 0,_,n,h.upd c (w':=w) ⟨rfl,rfl,rfl,Nat.le_refl _,fun _ _ _=>rfl⟩ ⟨⟨n.1,.inl ⟨?_,?_⟩⟩⟩ (fun b hb=>by simp [Res.blk,Value.ownBlock] at hb),key none 0 (by rw [k,hn]) (by omega)⟩
  ·congr 1; omega
  ·omega
 ·refine ⟨.slice (some ⟨b,0,none⟩) m.length f,_,n,h.upd c (w':=w) ⟨rfl,rfl,rfl,Nat.le_refl _,fun _ _ _=>rfl⟩ ⟨⟨n.1,.inr ⟨b,f,Q,rfl,H,hb,by omega,F,D,?_⟩⟩⟩ (fun S I=>.inl (by rw [k]; exact I)),key _ f k t⟩;rw [←r,List.take_take];congr 1;exact (Nat.min_eq_left (Jj _ (by omega))).symm
end
theorem vA {l:List Str} {q:Int} {x:Str} {w:World} {b:Nat} (c:∀j u,(l.map an)[j]?=some u→w.cell? ⟨b,0+j,none⟩=some u) (h:bC l q=some x) :
 ∀j u,[an x][j]?=some u→w.cell? ⟨b,0+q.toNat*1+j,none⟩=some u:=by
 intro j u a;cases j with
 | zero=>
  simp at a; subst a;obtain ⟨f,e,d⟩:=ad h;have:=c q.toNat (an x) (by rw [Jx,d]; rfl);simpa using this
 | succ j=>simp at a
theorem vK {P:Program} {E:Env} {w:World} {d:Option Tmp} {ty:TypeId} {ps:String} {af:Array Edge} {gd:Option (Nat×Bool)} {T el:TypeId} {x:Operand} {b len:Nat} {e:Bool} {size bytes:Nat} {z:Value} (c:P.underlying T=some (.array len el)) (a:en P el e size bytes z) (hx:ev E x=.pointer (some ⟨b,0,none⟩)) :
 cy P E ⟨d,.slice T x none none none,ty,ps,af,gd⟩ w (.slice (some ⟨b,0,none⟩) len len) w:=.inl (by
 simp [execOp,Instr.sliceAt,hx,run_underlying c,Instr.sliceBounds,Instr.sureAddr,dw a,Addr.add])
def ie {α:Type} (l m:List α):List α:=m.take l.length++l.drop m.length
theorem gy {α:Type} (l m:List α):(ie l m).length=l.length:=by unfold ie; rw [IW,Jo,JK]; omega
theorem ae.copy {α:Type} {τ:Ty α} (a:τ.sz=1) {g:Hp} {xs ys:List Value} {l m:List α} (h:ae τ g xs l) (b:ae τ g ys m):ae τ g (ys.take xs.length++xs.drop ys.length) (ie l m):=by
 have hx:=h.1;have hy:=b.1;rw [a,Nat.mul_one] at hx hy;unfold ie;rw [hx,hy];refine ae.append ?_ ?_
 ·have:=b.sub 0 (min l.length m.length) (by omega);simp only [a,Nat.mul_one,List.drop_zero] at this;have d:ys.take (min l.length m.length)=ys.take l.length:=by rw [List.take_eq_take_iff]; omega
  have c:m.take (min l.length m.length)=m.take l.length:=by rw [List.take_eq_take_iff]; omega
  rw [d,c] at this; exact this
 ·have:=h.sub m.length l.length (Nat.le_refl _);simp only [a,Nat.mul_one] at this;rw [JG (by omega),JG (Nat.le_refl _)] at this;exact this
section
variable {P:Program} {n:Fr} {Q:EPost} {E:Env} {w:World} {ops:Array Oper} {rest:List Oper} {d:Option Tmp} {ty:TypeId} {ps:String} {af:Array Edge} {g0 g:Hp} {w0:World} {L:List Res}
theorem tO {α:Type} {τ:Ty α} {T el e:TypeId} {b7:Bool} {bytes:Nat} {z:Value} {x y:Operand} {v u:Value} {l m:List α} {xs ys:List Value} {i:Nat} (H:P.underlying T=some (.slice el)) (he:en P el b7 1 bytes z) (c:τ.sz=1)
    (hs:Sep g0 w0 g w L) (D:L[i]?=some (.row v e τ.sz l.length xs)) (A:ae τ g xs l) (hx:ev E x=v) (hy:ev E y=u) (R:Da w u m.length ys) (s:ae τ g ys m) (hd:lb n d=true)
    (k:∀w' xs',ae τ g xs' (ie l m)→Sep g0 w0 g w' (L.set i (.row v e τ.sz (ie l m).length xs'))→OW P n ops Q rest (oX E d (.int .i64 (min l.length m.length:Nat))) w') :
    OW P n ops Q (⟨d,.call { callee:=.builtin .copy,args:=#[x,y],argTypes:=#[T,T] },ty,ps,af,none⟩::rest) E w:=by
  have a5:=(hs.at D).out;have a0:xs.length=l.length:=by have:=A.1; rw [c,Nat.mul_one] at this; exact this
  have p:ys.length=m.length:=by have:=s.1; rw [c,Nat.mul_one] at this; exact this
  have hsz:(P.info? el).map (·.size)=some 1:=by obtain ⟨ii,c,_,h3,_⟩:=he.info; rw [c]; simp [h3]
  have X:∀ {r:Value} {w':World},(Builtin.copy_ #[T,T] ty #[v,u]).run P w=.ok r w'→cy P E ⟨d,.call { callee:=.builtin .copy,args:=#[x,y],argTypes:=#[T,T] },ty,ps,af,none⟩ w r w':=by
    intro r w' h;exact ⟨by simp [execOp,resolve,invoke,builtin,hx,hy,h,Result.andThen]⟩
  by_cases hz:min l.length m.length=0
  · have G:ae τ g xs (ie l m):=by
      have:=A.copy c s;have e:ys.take xs.length++xs.drop ys.length=xs:=by
        rcases Nat.eq_zero_or_pos l.length with I|I
        · have a1:xs=[]:=JJ (by omega)
          rw [a1]; simp
        · have Y:ys=[]:=JJ (by omega)
          rw [Y]; simp
      rw [e] at this; exact this
    have t:(Builtin.copy_ #[T,T] ty #[v,u]).run P w=.ok (goInt 0) w:=by
      obtain ⟨a,o,rfl⟩:=hs.rowShape D;have a7:Nat.min m.length l.length=0:=by rw [←hz]; exact Nat.min_comm _ _
      rcases R with ⟨rfl,I,_⟩|⟨N,K,rfl,_⟩
      · exact run_copy_none w T T ty el a none l.length o 0 0 H hsz (Nat.zero_min _)
      · exact run_copy_none w T T ty el a (some N) l.length o m.length K H hsz a7
    refine vo (X t) hd rfl ?_;have a4:Sep g0 w0 g w (L.set i (.row v e τ.sz (ie l m).length xs)):=by
      have e:L.set i (.row v e τ.sz (ie l m).length xs)=L:=by
        rw [gy];obtain ⟨a8,a9⟩:=IR.1 D;rw [←a9]; exact List.set_getElem_self a8
      rw [e]; exact hs
    have:=k w xs G a4;rw [hz] at this;exact this
  · rcases a5.2 with ⟨_,hn⟩|⟨b,o,f,F,b3,hb,a6,b2,V,S⟩
    · omega
    · rcases R with ⟨_,I,_⟩|⟨N,K,a2,a3⟩
      · omega
      · rw [c,Nat.mul_one] at V S
        have W:f.toList.length=o:=by rw [Array.length_toList]; exact V
        have b1:(ys.take l.length).length=Nat.min m.length l.length:=by rw [Jo,p]; exact Nat.min_comm _ _
        have t:=run_copy_row (P:=P) w T T ty el b 0 l.length o N m.length K f e (ys.take l.length) H hsz hb b1
          (fun j y B=>by
            rw [List.getElem?_take] at B;split at B
            · exact a3 j y B
            · cases B) (by rw [Jo,Array.size_eq_length_toList,W]; omega) (fun x hx=>s.ones x (List.mem_of_mem_take hx))
        rw [←F,←a2] at t;refine vo (X t) hd rfl ?_;have U:(ys.take l.length).length=min l.length m.length:=by rw [Jo,p]
        have:=k (w.setRow b (f.toList.take 0++ys.take l.length++f.toList.drop (0+(ys.take l.length).length)).toArray) _ (A.copy c s) ?_
        · rw [U] at this ⊢
          exact this
        · have G:=A.copy c s
          refine hs.upd D (w':=w.setRow b _) ⟨rfl,rfl,rfl,by simp [World.setRow],fun q _ hq=>setRow_other w b q _ (fun e=>hq (by simp [Res.blk,F,Value.ownBlock,e]))⟩ ⟨?_⟩ (fun b' b4=>.inl (by simpa [Res.blk] using b4));have hlen:(f.toList.take 0++ys.take l.length++f.toList.drop (0+(ys.take l.length).length)).length=o:=by
            simp only [IW,Jo,JK,W,p]; omega
          refine ⟨G.1,.inr ⟨b,o,_,by rw [gy]; exact F,b3,setRow_heap w b f _ e _ hb,by rw [gy]; exact a6,b2,by rw [List.size_toArray,hlen,c,Nat.mul_one],?_⟩⟩;rw [gy,c,Nat.mul_one];simp only [List.take_zero,Jd,Nat.zero_add];rw [a0,p,U,←S,List.take_append,Jo,p,JG (l:=ys.take l.length) (by rw [Jo]; omega)];congr 1;rw [List.drop_take]
          by_cases hlm:m.length≤l.length
          · have J:min l.length m.length=m.length:=by omega
            rw [J]
          · have J:l.length - min l.length m.length=0:=by omega
            have e3:l.length - m.length=0:=by omega
            rw [J,e3]; simp
end
def zF (x y:Int):Int:=if y > x then y else x
section
variable {P:Program} {E:Env} {w:World} {d:Option Tmp} {ty:TypeId} {ps:String} {af:Array Edge} {gd:Option (Nat×Bool)} {ts:Array TypeId} {x y z:Operand} {k k' k'':IntKind} {a b c:Int}
theorem Di (hx:ev E x=.int k a) (hy:ev E y=.int k' b):cy P E ⟨d,.call { callee:=.builtin .max,args:=#[x,y],argTypes:=ts },ty,ps,af,gd⟩ w (.int k (zF a b)) w:=.inl (by
 simp [execOp,resolve,invoke,builtin,hx,hy,run_max_int2,zF,Result.andThen])
end
theorem gJ {cs pre ds post:List Value} {o j:Nat} {u:Value} (hl:pre.length=o) (e:cs=pre++(ds++post)) (hj:ds[j]?=some u):cs[o+j]?=some u:=by
 subst e; subst hl;have hjl:j<ds.length:=(IR.1 hj).1;rw [Jv (by omega),Nat.add_sub_cancel_left,Jc hjl];exact hj
theorem Sep.lentOwn {g0 g:Hp} {w0 w:World} {L L':List Res} (h:Sep g0 w0 g w L) {e c:Hp} {w':World} (a:Sep e w c w' L'):∃g',bc g g'∧Sep g0 w0 g' w' (L'++L):=by
 have hx:dx g w (fun k=>if k<w.heap.size then g k else c k) w':=by
  refine ⟨a.ext.below,fun b hb=>if_pos hb,fun b o hb=>?_⟩;split at hb
  ·rename_i hlt;have:=h.imm b o hb;rw [a.ext.below.block b hlt]; exact this
  ·exact a.imm b o hb
 refine ⟨_,hx.le h.imm,h.callOwn (L':=L') ⟨hx,a.ok,fun r d b hb=>?_,a.apart⟩⟩;have:=a.fresh r d b hb;refine ⟨this.1,?_⟩;show (if b<w.heap.size then g b else c b)=none;rw [if_neg (by omega)]; exact this.2
theorem ae.flat {α:Type} {τ:Ty α} (hτ:∀g g' cs x,τ.rel g cs x→τ.rel g' cs x) {g g':Hp} {xs:List Value} {l:List α} (h:ae τ g xs l):ae τ g' xs l:=⟨h.1,fun i x hx=>hτ _ _ _ _ (h.2 i x hx)⟩
def kj (b:Nat) (cs:List Value) (g:Hp):Prop:=∃(arr:Array Value) (T:TypeId) (fz:Nat×Nat),g b=some (.cells arr T fz)∧∀(j:Nat) (u:Value),cs[j]?=some u→arr[j]?=some u
theorem kj.mono {b:Nat} {cs:List Value} {g g':Hp} (h:kj b cs g) (hg:bc g g'):kj b cs g':=let ⟨arr,T,fz,h1,h2⟩:=h; ⟨arr,T,fz,hg _ _ h1,h2⟩
theorem kj.cells {b:Nat} {cs:List Value} {g:Hp} {w:World} (h:kj b cs g) (hi:cY g w):∀j u,cs[j]?=some u→w.cell? ⟨b,0+j,none⟩=some u:=fun j u hj=>by
 obtain ⟨arr,T,fz,h1,h2⟩:=h;have:=hi b _ h1;simp [World.cell?,this,h2 j u hj]
theorem kj.strs {b:Nat} {l:List Str} {g:Hp} (h:kj b (l.map an) g):cA dZ g (.slice (some ⟨b,0,none⟩) l.length l.length) l:=by
 obtain ⟨f,T,e,d,c⟩:=h;refine ⟨l.map an,⟨by simp [dZ],fun i x hx=>?_⟩,.inr ⟨b,0,l.length,f,T,e,rfl,Nat.le_refl _,d,fun j u a=>by rw [Nat.zero_add]; exact c j u a⟩⟩;show (List.drop (i*1) _).take 1=[an x];obtain ⟨hl,rfl⟩:=IR.1 hx;rw [Nat.mul_one,List.drop_eq_getElem_cons (by simpa using hl)];simp
end Go.Lx
namespace Go.Lx
open Go.RowKit Go.Lib
theorem tC {P:Program} {W:World} {n:String} {d:DataW Unit} (h:VarReads P W n d) {b t e:Nat} {l:List Str} {m:Nat} (hb:P.globalNamed n=some b) (D:(P.globals[b]?).map (·.type)=some t)
 (K:P.underlying t=some (.array m e)) (L:P.underlying e=some .string) (J:P.cellsOf e=1) (q:P.cellsOf t=m) (hl:l.length=m) (hd:d=.agg (l.map fun s=>.lit (.string s))) (U:0<m:=by decide):kj b (l.map an) (li W):=by
 obtain ⟨k,A,cs,aZ,p,S,R,Q,N⟩:=h;obtain rfl:k=b:=Option.some.inj (S.symm.trans hb);obtain rfl:A=t:=Option.some.inj (R.symm.trans D);subst hd;obtain ⟨xs,mm,_,hx,r,hlen,H⟩:=DataW.trod_array K N;have I:cs.toList=l.map an:=by
  refine List.ext_getElem (by rw [r,q,Jg]; exact hl.symm) fun i g _=>?_
  have G:i<m:=by rw [r,q] at g; exact g
  have y:=H i G;rw [IQ (by omega),J] at y;obtain ⟨s,hs,F,_⟩:=DataW.trod_string L y;have B:(DataW.agg (xs.map (·.1)):DataW Unit)=.agg (l.map fun s=>.lit (.string s)):=(congrArg Prod.fst hx).symm;have f:=congrArg (fun d=>match d with|DataW.agg ps=>ps[i]?|_=>none) B;simp only [Jx,IQ (show i<xs.length by omega),IQ (show i<l.length by omega),Option.map_some,Option.some.injEq] at f;rw [F] at f;have h6:=congrArg (fun c=>c[0]?) hs;simp only [Nat.mul_one,List.getElem?_take,List.getElem?_drop] at h6;simp at h6;have w:cs.toList[i]?=some (Value.string s):=by rw [Array.getElem?_toList]; exact h6
  rw [IQ g] at w;rw [Option.some.inj w,JC];unfold an;congr 1;have:s.data.toList=l[i]:=by simpa using f
  rw [←this]
 have v:∀(j:Nat) (u:Value),(l.map an)[j]?=some u→W.cell? ⟨k,j,none⟩=some u:=by
  intro j u a;have:=World.var?_cell hb Q j;rw [this];rw [←I] at a;simpa using a
 obtain ⟨x,hx⟩:∃x,(l.map an)[0]?=some x:=⟨_,IQ (by rw [Jg]; omega)⟩;have z:=v 0 x hx;cases ho:W.heap[k]? with
 | none=>simp [World.cell?,ho] at z
 | some o=>
  cases o with
  | cells arr T fz=>
   refine ⟨arr,T,fz,ho,fun j u a=>?_⟩;have:=v j u a;simpa [World.cell?,ho] using this
  | _=>simp [World.cell?,ho] at z
end Go.Lx
namespace Go.Lx
open Go.RowKit
section
variable {P:Program} {n:Fr} {Q:EPost} {E:Env} {w:World} {ops:Array Oper} {rest:List Oper} {ty:TypeId} {ps:String} {af:Array Edge}
end
def RQ (l:Nat) (R:Value→World→Prop):EPost:=fun e _ w=>match e with
 | .normal=>∃r,w.heap[l]?=some (.loop r)∧R (.bool true) (w.putObj l (.loop { r with state:=.ready,pending:=none }))
 | .ret=>∃r,w.heap[l]?=some (.loop r)∧R (.bool false) (w.putObj l (.loop { r with state:=.done,pending:=some .ret }))
 | .exit i=>∃r,w.heap[l]?=some (.loop r)∧R (.bool false) (w.putObj l (.loop { r with state:=.done,pending:=some (.exit i) }))
 | _=>False
instance {l:Nat} {R:Value→World→Prop}:fJ (RQ l R):=⟨fun _ _ _ _ _ q=>q⟩
section
variable {α σ:Type}
end
section
variable {P:Program} {n:Fr} {Q:EPost} {E:Env} {w:World} {α σ:Type}
def BQ (g0:Hp) (w0:World) (Inv:Hp→List Res→Prop) (g:Hp) (L:List Res):EPost:=fun e _ w=>match e with
 | .normal=>∃g' Ls,Inv g' Ls∧bc g g'∧Sep g0 w0 g' w (Ls++L)
 | _=>False
instance {g0:Hp} {w0:World} {Inv:Hp→List Res→Prop} {g:Hp} {L:List Res}:fJ (BQ g0 w0 Inv g L):=⟨fun _ _ _ _ _ q=>q⟩
def AQ (P:Program) (n:Fr) (g0:Hp) (w0:World) (Inv:Hp→List Res→Prop) (body:Code) (g:Hp) (L:List Res):EPost:=fun e E w=>match e with
 | .normal=>∃g' Ls,Sep g0 w0 g' w (Ls++L)∧bc g g'∧∀w' L',Sep g0 w0 g' w' (Ls++L')→WP P n body (BQ g0 w0 Inv g' L') E w'
 | _=>False
instance {P:Program} {n:Fr} {g0:Hp} {w0:World} {Inv:Hp→List Res→Prop} {body:Code} {g:Hp} {L:List Res}:fJ (AQ P n g0 w0 Inv body g L):=⟨fun _ _ _ _ _ q=>q⟩
theorem Sep.tail {g0 g:Hp} {w0 w:World} {A L:List Res} (h:Sep g0 w0 g w (A++L)):Sep g0 w0 g w L:=h.sub (List.sublist_append_right A L)
end
end Go.Lx
namespace Go.Lx
section
variable {α:Type}
theorem ae.imp {τ τ':Ty α} (hsz:τ.sz=τ'.sz) {g:Hp} (h:∀cs x,τ.rel g cs x→τ'.rel g cs x) {xs:List Value} {l:List α} (hr:ae τ g xs l):ae τ' g xs l:=
 ⟨by rw [←hsz]; exact hr.1,fun i x hx=>by rw [←hsz]; exact h _ _ (hr.2 i x hx)⟩
theorem cA.imp {τ τ':Ty α} (hsz:τ.sz=τ'.sz) {g:Hp} (h:∀cs x,τ.rel g cs x→τ'.rel g cs x) {v:Value} {l:List α} (hr:cA τ g v l):cA τ' g v l:=
 let ⟨xs,h1,h2⟩:=hr; ⟨xs,h1.imp hsz h,h2⟩
theorem wW {τ τ':Ty α} (hsz:τ.sz=τ'.sz) {g:Hp} (h:∀cs x,τ.rel g cs x→τ'.rel g cs x) {cs:List Value} {l:List α} (hr:(cv τ).rel g cs l):(cv τ').rel g cs l:=
 let ⟨v,h1,h2⟩:=hr; ⟨v,h1,h2.imp hsz h⟩
structure fc (α:Type) where
  sz:Nat
  F:Ty α→Ty α
  hsz:∀τ,(F τ).sz=sz
  mono:∀ {τ τ':Ty α} {g:Hp},τ.sz=sz→τ'.sz=sz→(∀cs x,τ.rel g cs x→τ'.rel g cs x)→∀cs x,(F τ).rel g cs x→(F τ').rel g cs x
def fc.iter (T:fc α):Nat→Ty α
 | 0=>⟨T.sz,fun _ _ _=>False,fun _ h=>h.elim,fun h=>h.elim,fun h=>h.elim⟩
 | n+1=>T.F (T.iter n)
theorem fc.iter_sz (T:fc α):∀n,(T.iter n).sz=T.sz
 | 0=>rfl
 | n+1=>T.hsz _
theorem fc.up (T:fc α) {g:Hp}:∀(n:Nat) (cs:List Value) (x:α),(T.iter n).rel g cs x→(T.iter (n+1)).rel g cs x
 | 0,_,_,h=>h.elim
 | n+1,cs,x,h=>T.mono (T.iter_sz n) (T.iter_sz (n+1)) (fc.up T n) cs x h
theorem fc.le (T:fc α) {g:Hp} {n m:Nat} (hnm:n≤m):∀(cs:List Value) (x:α),(T.iter n).rel g cs x→(T.iter m).rel g cs x:=by
 induction hnm with
 | refl=>exact fun _ _ h=>h
 | step _ ih=>exact fun cs x h=>T.up _ cs x (ih cs x h)
theorem fc.fix_len (T:fc α) {g:Hp} {cs:List Value} {x:α} (h:∃n,(T.iter n).rel g cs x):cs.length=T.sz:=let ⟨n,h⟩:=h; ((T.iter n).len h).trans (T.iter_sz n)
theorem fc.fix_one (T:fc α) {g:Hp} {cs:List Value} {x:α} (h:∃n,(T.iter n).rel g cs x):∀v∈cs,v.oneCell'=true:=let ⟨n,h⟩:=h; (T.iter n).one h
theorem fc.fix_mono (T:fc α) {g g':Hp} {cs:List Value} {x:α} (hg:bc g g') (h:∃n,(T.iter n).rel g cs x):∃n,(T.iter n).rel g' cs x:=let ⟨n,h⟩:=h; ⟨n,(T.iter n).mono hg h⟩
theorem fc.supRow (T:fc α) {fix:Ty α} (hf:∀g cs x,fix.rel g cs x→∃n,(T.iter n).rel g cs x) (hs:fix.sz=T.sz) {g:Hp} {xs:List Value} {l:List α} (h:ae fix g xs l):∃n,ae (T.iter n) g xs l:=by
 have key:∀k,∃n,∀i,i<k→∀x,l[i]?=some x→(T.iter n).rel g ((xs.drop (i*T.sz)).take T.sz) x:=by
  intro k;induction k with
  | zero=>exact ⟨0,fun i a=>absurd a (Nat.not_lt_zero _)⟩
  | succ k ih=>
   obtain ⟨n,hn⟩:=ih;cases hk:l[k]? with
   | none=>
    refine ⟨n,fun i a x hx=>?_⟩
    by_cases hik:i=k
    ·subst hik; rw [hk] at hx; cases hx
    ·exact hn i (by omega) x hx
   | some y=>
    have:=h.2 k y hk;rw [hs] at this;obtain ⟨m,b⟩:=hf _ _ _ this;refine ⟨max n m,fun i a x hx=>?_⟩
    by_cases hik:i=k
    ·subst hik; rw [hk] at hx; cases hx; exact T.le (Nat.le_max_right _ _) _ _ b
    ·exact T.le (Nat.le_max_left _ _) _ _ (hn i (by omega) x hx)
 obtain ⟨n,hn⟩:=key l.length;refine ⟨n,⟨by rw [T.iter_sz]; rw [←hs]; exact h.1,fun i x hx=>?_⟩⟩;rw [T.iter_sz];exact hn i (IR.1 hx).1 x hx
theorem fc.sup (T:fc α) {fix:Ty α} (hf:∀g cs x,fix.rel g cs x→∃n,(T.iter n).rel g cs x) (hs:fix.sz=T.sz) {g:Hp} {cs:List Value} {l:List α} (h:(cv fix).rel g cs l):∃n,(cv (T.iter n)).rel g cs l:=by
 obtain ⟨v,h1,xs,h2,h3⟩:=h;obtain ⟨n,hn⟩:=T.supRow hf hs h2;exact ⟨n,v,h1,xs,hn,h3⟩
theorem fc.leSl (T:fc α) {g:Hp} {n m:Nat} (hnm:n≤m) {cs:List Value} {l:List α} (h:(cv (T.iter n)).rel g cs l):(cv (T.iter m)).rel g cs l:=
 wW ((T.iter_sz n).trans (T.iter_sz m).symm) (T.le hnm) h
end
end Go.Lx
namespace Go.Lx
open Go.RowKit
def rC (P:Program) (f:FuncId) (args:Array Value) (u u':FrameMode) (w:World) (R:World→Prop):Prop:=
 CallsDIn (Fz ⟨0,none⟩) 0 P f args u w fun e u2 w'=>u2=u'∧∃v,e=.returned v∧R w'
def HD (P:Program) (fn:Func) (n:Fr) (R:World→Prop):EPost:=fun e E w=>match e with
 | .normal|.ret=>E.ds=[]∧∃v,nQ P fn n E w v∧R w
 | _=>False
instance {P:Program} {fn:Func} {n:Fr} {R:World→Prop}:fJ (HD P fn n R):=⟨fun _ _ _ _ _ q=>q⟩
def Bn (v:Value):FrameMode:=.panicking [{ v:=v,recovered:=true }]
section
variable {P:Program} {w:World}
theorem sN {f:FuncId} {fn:Func} {rest:Code} {m F a b:Nat} {args:List Value} {R:World→Prop} {p:Array TypeId} {k s:TypeId} {l y:String} {r B:Array Edge} {u c:FrameMode} {val:Value}
 (I:(u=.returning∧val=.nilIface∧c=.returning)∨(u=.panicking (uC val)∧c=Bn val)) (hf:P.funcs[f]?=some fn)
 (hb:fn.body=some (.seq (.region F #[⟨some a,.call { callee:=.builtin .recover,args:=#[],argTypes:=p },k,l,r,none⟩,⟨some b,.assign (.tmp a),s,y,B,none⟩] false) rest))
 (hn:fn.ntmps=m) (hl:Nat.ble args.length m=true) (ha:Nat.blt a m=true) (S:Nat.blt b m=true)
 (h:WP P ⟨m,none⟩ rest (HD P fn ⟨m,none⟩ R) (cz (cz (mU args) a val) b val) w):rC P f args.toArray u c w R:=by
 subst hn;refine callsDIn_of_wpSIn hf hb trivial fun g cs o=>?_
 refine wpSIn_seq (wpSIn_region ?_);have L:=lK args ⟨fn.ntmps,none⟩ (Nat.le_of_ble_eq_true hl);have z:=L.put (d:=some a) ha val;have K:=z.put (d:=some b) S val;have T:∀(t:Tmp),(Act.put ⟨args.toArray++Array.replicate (fn.ntmps - args.toArray.size) undef,[]⟩ (some a) val).eval (.tmp t)=(cz (mU args) a val) t:=fun t=>by
  have:=congrFun z.eval (.tmp t);exact this
 have G:(Act.put ⟨args.toArray++Array.replicate (fn.ntmps - args.toArray.size) undef,[]⟩ (some a) val).eval (.tmp a)=val:=by
  rw [T]; simp [cz]
 have D:∀i,(i=g::cs∧g.mode=c∨i={ g with mode:=c }::cs)→
  rest.wpSIn (Fz ⟨0,none⟩) 0 P (bodyPostS P fn g cs fun e j w'=>j=c∧∃v,e=.returned v∧R w') ((Act.put ⟨args.toArray++Array.replicate (fn.ntmps - args.toArray.size) undef,[]⟩ (some a) val).put (some b) val) i w:=by
  intro i n;refine wpSIn_of_wpIn rfl ?_;refine wpIn_mono (h _ K) ?_;rintro e U w' ⟨E,A,q⟩;have Q:∃j,i={ g with mode:=j }::cs∧j=c:=by
   rcases n with ⟨rfl,hm⟩|rfl
   ·exact ⟨c,by rw [←hm],rfl⟩
   ·exact ⟨c,rfl,rfl⟩
  cases e <;> first
   | exact q.elim
   | (obtain ⟨j,N,H⟩:=Q; exact ⟨by rw [A.defers]; exact q.1,j,N,q.2.choose,q.2.choose_spec.1 _ A,H,_,rfl,q.2.choose_spec.2⟩)
 show wpOpsSIn _ _ _ _ _ [0,1] _ _ _;simp only [wpOpsSIn,List.getElem?_toArray,List.getElem?_cons_zero,List.getElem?_cons_succ];refine ⟨fun _ _=>trivial,?_⟩;rw [if_pos (gX rfl)];have J:∀ρ:Operand→Value,(execOp ρ ⟨some a,.call { callee:=.builtin .recover,args:=#[],argTypes:=p },k,l,r,none⟩).run P w=.ok .recover w:=fun ρ=>by
  simp [execOp,resolve,invoke,builtin]
 rw [J];have x:∀i,(i=g::cs∧g.mode=c∨i={ g with mode:=c }::cs)→wpOpsSIn (Fz ⟨0,none⟩) 0 P #[⟨some a,.call { callee:=.builtin .recover,args:=#[],argTypes:=p },k,l,r,none⟩,⟨some b,.assign (.tmp a),s,y,B,none⟩]
  (Exit.thenS (rest.wpSIn (Fz ⟨0,none⟩) 0 P (bodyPostS P fn g cs fun e j w'=>j=c∧∃v,e=.returned v∧R w')) (bodyPostS P fn g cs fun e j w'=>j=c∧∃v,e=.returned v∧R w')) [1] (Act.put ⟨args.toArray++Array.replicate (fn.ntmps - args.toArray.size) undef,[]⟩ (some a) val) i w:=by
  intro i n;simp only [wpOpsSIn,List.getElem?_toArray,List.getElem?_cons_zero,List.getElem?_cons_succ];refine ⟨fun _ _=>trivial,?_⟩;rw [if_pos (gX rfl)];simp only [execOp,Sem.run_pure,G];exact D i n
 rcases I with ⟨rfl,rfl,rfl⟩|⟨rfl,rfl⟩
 ·have:recoverD (g::cs)=none:=by simp [recoverD,o]
  simp only [this];exact x _ (.inl ⟨rfl,o⟩)
 ·have:recoverD (g::cs)=some (val,{ g with mode:=Bn val }::cs):=by simp [recoverD,o,uC,Bn]
  simp only [this];exact x _ (.inr rfl)
end
def jR (f:FuncId) (cap:List Value):Deferred:={ target:=.fn (.func f) (List.toArray cap),args:=#[] }
def LV (P:Program) (fn:Func) (n:Fr) (E:Env) (R:Value→World→Prop):List Deferred→FrameMode→World→Prop
 | [],u,w=>u=.returning∧∃v,nQ P fn n E w v∧R v w
 | d::ds,u,w=>u≠.run∧∃f cap u' S,d=jR f cap∧CF P f∧rC P f (List.toArray cap) u u' w S∧∀w',S w'→LV P fn n E R ds (settle u') w'
def FV (P:Program) (fn:Func) (n:Fr) (R:Value→World→Prop):EPost:=fun e E w=>match e with
 | .normal|.ret=>LV P fn n E R E.ds .returning w
 | .panic ch=>LV P fn n E R E.ds (.panicking ch) w
 | _=>False
section
variable {P:Program} {n:Fr} {Q:EPost} {E:Env} {w:World} {fn:Func} {R:Value→World→Prop}
theorem sx {a:Act} (ha:fB n E a):∀(ds:List Deferred) (u:FrameMode) (w:World),LV P fn n E R ds u w→LeavesInM (Fz n) 0 P fn a.tmps (fun e w'=>∃v,e=.returned v∧R v w') ds u w
 | [],_,_,⟨hu,v,hr,hR⟩=>by subst hu; exact ⟨v,hr a ha,v,rfl,hR⟩
 | _::ds,u,w,⟨hne,f,cap,u',S,hd,hcf,hc,hk⟩=>by
  subst hd;obtain ⟨c,k,b,j⟩:=hcf;have d:¬ c.name = "runtime.NumGoroutine":=by simpa using j
  have g:¬ c.body=none:=by intro h; rw [h] at b; cases b
  refine ⟨hne,.inr ⟨fun h=>(by cases h),.func f,List.toArray cap,f,List.toArray cap,rfl,?_,fun _ _=>trivial,?_⟩⟩
  ·simp [jR,invoke,callFunc,k,g,d]
  ·refine CallsDIn.mono (F:=Fz ⟨0,none⟩) hc ?_;rintro e l w' ⟨rfl,v,rfl,i⟩;exact sx ha ds _ w' (hk w' i)
theorem tG {f:FuncId} {c:Code} {m:Nat} {args:List Value} (hf:P.funcs[f]?=some fn) (hb:fn.body=some c) (hn:fn.ntmps=m) (hl:Nat.ble args.length m=true)
 (h:WP P ⟨m,none⟩ c (FV P fn ⟨m,none⟩ R) (mU args) w):aU P f args.toArray w R:=by
 subst hn;refine callsIn_wide (n:=0) |>.1 (callsIn_of_wp_marks (F:=Fz ⟨fn.ntmps,none⟩) hf hb trivial ?_);refine wpIn_mono (h _ (lK args _ (Nat.le_of_ble_eq_true hl))) ?_;rintro e a w ⟨E,b,q⟩;cases e <;> first
  | exact q.elim
  | (show LeavesInM _ _ _ _ _ _ a.defers _ _; rw [b.defers]; exact sx b E.ds _ w q)
theorem tQ {ds:List Deferred} {u:FrameMode} (hd:ds=[]) (hu:u=.returning) (h:∃v,nQ P fn n E w v∧R v w):LV P fn n E R ds u w:=by subst hd; exact ⟨hu,h⟩
theorem pV {ds ds':List Deferred} {f:FuncId} {cap:List Value} {u u':FrameMode} {S:World→Prop} (hd:ds=jR f cap::ds') (hne:u≠.run) (hcf:CF P f) (hc:rC P f (List.toArray cap) u u' w S) (k:∀w',S w'→LV P fn n E R ds' (settle u') w'):LV P fn n E R ds u w:=by
 subst hd; exact ⟨hne,f,cap,u',S,rfl,hcf,hc,k⟩
theorem AA {ops:Array Oper} {rest:List Oper} {ty:TypeId} {ps:String} {af:Array Edge} {x:Operand} {c:Array TypeId} {f:FuncId} (b:List Value) (d:n.ro=none) (hx:ev E x=.func (.func f) #[] b.toArray)
 (k:OW P n ops Q rest ⟨E.s,jR f b::E.ds⟩ w):OW P n ops Q (⟨none,.defer { callee:=.value x,args:=#[],argTypes:=c },ty,ps,af,none⟩::rest) E w:=by
 intro a ha;refine wpListIn_plain rfl fun K g=>⟨fun _ _=>trivial,?_⟩
 rw [show (Fz n).round=none from d,Oper.semAt_none,ha.eval];have e:(execOp (ev E) ⟨none,.defer { callee:=.value x,args:=#[],argTypes:=c },ty,ps,af,none⟩).run P w=.ok (.defer (jR f b)) w:=by
  simp [execOp,resolve,Deferred.ofValue,hx,jR]
 rw [e];exact g _ _ (k { a with defers:=jR f b::a.defers } ⟨by simp [ha.defers],ha.size,ha.get⟩)
end
section
variable {P:Program} {E:Env} {w:World} {d:Option Tmp} {ty:TypeId} {ps:String} {af:Array Edge} {gd:Option (Nat×Bool)}
def HA:TypeDesc→Bool
 | .interface _=>true
 | _=>false
theorem ti {xt T:TypeId} {x:Operand} {v:Value} {td:TypeDesc} (hT:P.underlying T=some td) (hni:HA td=false) (hx:ev E x=.iface T v) :
 cy P E ⟨d,.typeAssert x xt T false,ty,ps,af,gd⟩ w v w:=.inl (by
 simp only [execOp,Instr.typeAssert,hx,Sem.run_bind,run_underlying hT];cases td with
 | interface ms=>simp [HA] at hni
 | _=>simp)
theorem yE {T:TypeId} {ms:Array (String×TypeId)} (hT:P.underlying T=some (.interface ms)) (V:TypeId) (v:Value) (n:Nat):(Op.equalIn (n+1) T (.iface V v) .nilIface).run P w=.ok false w:=by
 rw [Op.equalIn];simp [run_underlying hT]
theorem yD {T:TypeId} {ms:Array (String×TypeId)} (hT:P.underlying T=some (.interface ms)) (n:Nat):(Op.equalIn (n+1) T .nilIface .nilIface).run P w=.ok true w:=by
 rw [Op.equalIn];simp [run_underlying hT]
theorem yf {T T':TypeId} {a:Array (String×TypeId)} {x y:Operand} {V:TypeId} {v:Value} (b:P.underlying T=some (.interface a)) (hx:ev E x=.iface V v) (hy:ev E y=.nilIface):cy P E ⟨d,.binOp .neq T x y T',ty,ps,af,gd⟩ w (.bool true) w:=
 bS (by rw [hx,hy]; rfl) (by
  rw [hx,hy];have h:(Op.equal T (.iface V v) .nilIface).run P w=.ok false w:=yE b V v 9999;simp only [binOp,Sem.run_bind,h,Jf,Sem.run_pure,Bool.not_false])
theorem ye {T T':TypeId} {a:Array (String×TypeId)} {x y:Operand} (c:P.underlying T=some (.interface a)) (hx:ev E x=.nilIface) (b:y=.const .nilIface):cy P E ⟨d,.binOp .neq T x y T',ty,ps,af,gd⟩ w (.bool false) w:=by
 subst b;exact bS (by rw [hx]; cases x <;> rfl) (by
  rw [hx];have h:(Op.equal T .nilIface .nilIface).run P w=.ok true w:=yD c 9999;simp only [binOp,ev,Sem.run_bind,h,Jf,Sem.run_pure,Bool.not_true])
end
section
variable {P:Program} {n:Fr} {Q:EPost} {E:Env} {w:World} {α σ ρ:Type}
def BX (g0:Hp) (w0:World) (Inv:σ→Hp→List Res→Prop) (InvX:ρ→Hp→List Res→Prop) (a:ρ→Code) (r:cQ σ ρ) (g:Hp) (L:List Res):EPost:=fun e _ w=>match e with
 | .normal=>∃s,r=.next s∧∃g' Ls,Inv s g' Ls∧bc g g'∧Sep g0 w0 g' w (Ls++L)
 | .ret=>∃q,r=.stop q∧a q=.ret∧∃g' Ls,InvX q g' Ls∧bc g g'∧Sep g0 w0 g' w (Ls++L)
 | .exit i=>∃q,r=.stop q∧a q=.exit i∧∃g' Ls,InvX q g' Ls∧bc g g'∧Sep g0 w0 g' w (Ls++L)
 | _=>False
instance {g0:Hp} {w0:World} {Inv:σ→Hp→List Res→Prop} {InvX:ρ→Hp→List Res→Prop} {ex:ρ→Code} {r:cQ σ ρ} {g:Hp} {L:List Res}:fJ (BX g0 w0 Inv InvX ex r g L):=⟨fun _ _ _ _ _ q=>q⟩
def AX (P:Program) (n:Fr) (g0:Hp) (w0:World) (Inv:σ→Hp→List Res→Prop) (InvX:ρ→Hp→List Res→Prop) (ex:ρ→Code) (r:cQ σ ρ) (body:Code) (g:Hp) (L:List Res):EPost:=fun e E w=>match e with
 | .normal=>∃g' Ls,Sep g0 w0 g' w (Ls++L)∧bc g g'∧∀w' L',Sep g0 w0 g' w' (Ls++L')→WP P n body (BX g0 w0 Inv InvX ex r g' L') E w'
 | _=>False
instance {P:Program} {n:Fr} {g0:Hp} {w0:World} {Inv:σ→Hp→List Res→Prop} {InvX:ρ→Hp→List Res→Prop} {ex:ρ→Code} {r:cQ σ ρ} {body:Code} {g:Hp} {L:List Res}:fJ (AX P n g0 w0 Inv InvX ex r body g L):=⟨fun _ _ _ _ _ q=>q⟩
end
section
variable {P:Program} {E:Env} {w:World} {d:Option Tmp} {ty:TypeId} {ps:String} {af:Array Edge} {gd:Option (Nat×Bool)} {T T':TypeId} {qs rs:Array TypeId} {vd:Bool} {x y:Operand} {fn:Fn} {bs cs:Array Value}
end
structure InT (β:Type) where
  rel:Hp→Value→β→Res→Prop
  mono:∀ {g g':Hp} {v:Value} {l:β} {r:Res},bc g g'→rel g v l r→rel g' v l r
  one:∀ {g:Hp} {v:Value} {l:β} {r:Res},rel g v l r→v.oneCell'=true
def eY {K V:Type} (ek:K→Value) (ev:V→Value):InT (List (K×V)):=
 ⟨fun _ v m r=>∃b es ck,v=.map (some b)∧r=.obj b (.map es ck)∧dc ek ev es ck m,fun _ h=>h,fun ⟨b,_,_,h,_⟩=>by rw [h]; rfl⟩
structure dl {β:Type} (I:InT β) (g:Hp) (xs:List Value) (ll:List β) (G:List Res):Prop where
  lx:xs.length=ll.length
  lG:G.length=ll.length
  el:∀(i:Nat) (l:β),ll[i]?=some l→∃v r,xs[i]?=some v∧G[i]?=some r∧I.rel g v l r
section
variable {β:Type} {I:InT β} {g g':Hp} {xs ys:List Value} {ll mm:List β} {G H:List Res}
theorem dl.mono (h:dl I g xs ll G) (hg:bc g g'):dl I g' xs ll G:=⟨h.lx,h.lG,fun i l hl=>by
 obtain ⟨v,r,h1,h2,h3⟩:=h.el i l hl;exact ⟨v,r,h1,h2,I.mono hg h3⟩⟩
theorem dl.nil:dl I g [] [] []:=⟨rfl,rfl,fun i l h=>by simp at h⟩
theorem dl.append (h:dl I g xs ll G) (a:dl I g ys mm H):dl I g (xs++ys) (ll++mm) (G++H):=by
 refine ⟨by simp [h.lx,a.lx],by simp [h.lG,a.lG],fun i l hl=>?_⟩;have f:=h.lx;have e:=h.lG
 by_cases hi:i<ll.length
 ·rw [Jc hi] at hl;obtain ⟨v,r,d,c,b⟩:=h.el i l hl;exact ⟨v,r,by rw [Jc (by omega)]; exact d,by rw [Jc (by omega)]; exact c,b⟩
 ·rw [Jv (by omega)] at hl;obtain ⟨v,r,d,c,b⟩:=a.el _ l hl;exact ⟨v,r,by rw [Jv (by omega),f]; exact d,by rw [Jv (by omega),e]; exact c,b⟩
theorem dl.cons {v:Value} {l:β} {r:Res} (h:I.rel g v l r) (h':dl I g ys mm H):dl I g (v::ys) (l::mm) (r::H):=by
 refine ⟨by simp [h'.lx],by simp [h'.lG],fun i x hx=>?_⟩;cases i with
 | zero=>simp at hx; subst hx; exact ⟨v,r,rfl,rfl,h⟩
 | succ i=>exact h'.el i x (by simpa using hx)
theorem dl.put (h:dl I g xs ll G) {k:Nat} {v:Value} {l':β} {r':Res} (hx:xs[k]?=some v) (a:I.rel g v l' r'):dl I g xs (ll.set k l') (G.set k r'):=by
 refine ⟨by simp [h.lx],by simp [h.lG],fun i l hl=>?_⟩;have f:=(IR.1 hx).1;have m:=h.lx;have j:=h.lG;rw [Jy] at hl;split at hl
 ·rename_i e;subst e;rw [if_pos (by omega)] at hl;obtain rfl:=Option.some.inj hl;exact ⟨v,r',hx,by rw [List.getElem?_set_self (by omega)],a⟩
 ·rename_i e;obtain ⟨u,r,d,c,b⟩:=h.el i l hl;exact ⟨u,r,d,by rw [List.getElem?_set_ne e]; exact c,b⟩
theorem dl.ones (h:dl I g xs ll G):∀v∈xs,v.oneCell'=true:=by
 intro v hv;obtain ⟨i,hi,rfl⟩:=Ji.1 hv;have hl:i<ll.length:=by rw [←h.lx]; exact hi
 obtain ⟨u,r,e1,_,e3⟩:=h.el i _ (IQ hl);rw [IQ hi] at e1;rw [Option.some.inj e1];exact I.one e3
end
def rI:Ty Value:=⟨1,fun _ cs v=>cs=[v]∧v.oneCell'=true,fun _ h=>h,fun h=>by rw [h.1]; rfl,fun h v hv=>by rw [h.1] at hv; simp at hv; subst hv; exact h.2⟩
theorem vC {g:Hp} {xs:List Value} (h:∀v∈xs,v.oneCell'=true):ae rI g xs xs:=by
 refine ⟨by simp [rI],fun i x hx=>⟨?_,h x (List.mem_of_getElem? hx)⟩⟩;show (xs.drop (i*1)).take 1=[x];obtain ⟨hi,rfl⟩:=IR.1 hx;rw [Nat.mul_one,List.drop_eq_getElem_cons hi];rfl
theorem su {g:Hp} {xs ys:List Value} (h:ae rI g xs ys):xs=ys:=by
 have hl:xs.length=ys.length:=by have:=h.1; simpa [rI] using this
 refine List.ext_getElem hl fun i b a=>?_
 have:(xs.drop (i*1)).take 1=[ys[i]]:=(h.2 i _ (IQ a)).1;rw [Nat.mul_one,List.drop_eq_getElem_cons b] at this;simp only [List.take_succ_cons,List.take_zero,List.cons.injEq,and_true] at this;exact this
theorem Aq {α β:Type} {B:Nat} {l m:List α} {r:List α} {l' m':List β} (h:cD B l m=some r) (h1:l'.length=l.length) (h2:m'.length=m.length):cD B l' m'=some (l'++m')∧r=l++m:=by
 obtain ⟨e,hb⟩:=lL h;refine ⟨?_,e⟩;unfold cD;rw [if_pos (by rw [h1,h2]; exact hb)]
theorem ra {α:Type}:∀ {l:List α} {i:Nat} (h:i<l.length),l.Perm (l[i]::l.eraseIdx i)
 | x::l,0,_=>List.Perm.refl _
 | x::l,i+1,h=>((ra (l:=l) (i:=i) (by simpa using h)).cons x).trans (List.Perm.swap _ _ _)
theorem Sep.perm {g0 g:Hp} {w0 w:World} {L L':List Res} (h:Sep g0 w0 g w L) (hp:L.Perm L'):Sep g0 w0 g w L':=
 ⟨h.ext,fun r hr=>h.ok r (hp.mem_iff.2 hr),fun r hr=>h.fresh r (hp.mem_iff.2 hr),(hp.pairwise_iff fun hxy b hb hc=>hxy b hc hb).1 h.apart⟩
theorem ED {A G B:List Res} {k:Nat} {r:Res} (h:G[k]?=some r):(A++(G++B))[A.length+k]?=some r:=by
 have hk:=(IR.1 h).1;rw [Jv (by omega),Nat.add_sub_cancel_left,Jc hk];exact h
theorem Gf {A G B:List Res} {k:Nat} {r:Res} (hk:k<G.length):(A++(G++B)).set (A.length+k) r=A++(G.set k r++B):=by
 rw [List.set_append_right _ _ (by omega),Nat.add_sub_cancel_left,List.set_append_left _ _ hk]
section
variable {g0 g:Hp} {w0 w:World} {A G B:List Res}
theorem Sep.gridAt {L:List Res} {β:Type} {I:InT β} {ll:List β} {i:Nat} {v:Value} {e:TypeId} {xs:List Value} (h:Sep g0 w0 g w L) (s:L[i]?=some (.row v e 1 ll.length xs)) (a:dl I g xs ll G) {q:Int} {l:β} (hq:bC ll q=some l) :
 ∃b d,v=.slice (some ⟨b,0,none⟩) ll.length d∧∃u r,xs[q.toNat]?=some u∧G[q.toNat]?=some r∧I.rel g u l r∧
  ∀w',(Res.row v e 1 ll.length xs).ok w'→∀j y,[u][j]?=some y→w'.cell? ⟨b,0+q.toNat*1+j,none⟩=some y:=by
 obtain ⟨x,D,hl⟩:=ad hq;obtain ⟨u,r,c,A,z⟩:=a.el _ _ hl;have p:L[i]?=some (.row v e rI.sz xs.length xs):=by rw [a.lx]; exact s
 have m:bC xs q=some u:=by
  obtain ⟨k,rfl⟩:=Jn x;rw [Jl] at c;have B:=(IR.1 c).1;unfold bC;rw [if_pos (by omega),Jl];exact c
 obtain ⟨b,d,f,cs,t,o⟩:=h.rowEl p (vC a.ones) m;obtain ⟨rfl,_⟩:=t;rw [a.lx] at f;refine ⟨b,d,f,u,r,c,A,z,fun w' n j y hy=>o w' ?_ j y hy⟩;rw [a.lx]; exact n
theorem Sep.gridMap {K V:Type} {ek:K→Value} {ev:V→Value} {ll a:List (List (K×V))} {m':List (K×V)} {xs:List Value} {b k d:Nat} {es c:Array MapEntry} {p:Int} (j:dl (eY ek ev) g xs ll G) (hx:xs[p.toNat]?=some (Value.map (some b)))
 (e:G[p.toNat]?=some (.obj b (.map es k))) (i:dc ek ev c d m') (f:dk ll p m'=some a) (h:Sep g0 w0 g w ((A++(G++B)).set (A.length+p.toNat) (.obj b (.map c d)))) :
 ∃G',dl (eY ek ev) g xs a G'∧a.length=ll.length∧Sep g0 w0 g w (A++(G'++B)):=by
 obtain ⟨m,l,rfl⟩:=bl f;rw [Gf (IR.1 e).1] at h;exact ⟨_,j.put hx ⟨b,c,d,rfl,rfl,i⟩,Jz,h⟩
end
section
variable {P:Program} {n:Fr} {Q:EPost} {E:Env} {w:World} {ops:Array Oper} {rest:List Oper} {d:Tmp} {ty:TypeId} {ps:String} {af:Array Edge} {g0 g:Hp} {w0:World} {A B G H:List Res}
theorem xM {β:Type} {I:InT β} {T el:TypeId} {bytes:Nat} {z:Value} {parts:Array (Nat×Operand)} {i:Nat} {r:Res} {u:Value} {l:β}
 (x:P.underlying T=some (.slice el)) (t:en P el false 1 bytes z) (hs:Sep g0 w0 g w (A++B)) (j:A[i]?=some r) (f:I.rel g u l r)
 (hp:(parts.toList.map fun p=>(p.1,ev E p.2))=[(0,u)]) (hd:Nat.blt d n.sz=true)
 (k:∀a w' b G',dl I g b [l] G'→Sep g0 w0 g w' ((.row a el 1 [l].length b::A.eraseIdx i)++(G'++B))→OW P n ops Q rest (cz E d a) w') :
 OW P n ops Q (⟨some d,.buildSlice T 1 parts,ty,ps,af,none⟩::rest) E w:=by
 have e:=I.one f;have v:u.cells.toList=[u]:=aS e;refine bG (τ:=rI) [u] [u] x t (by decide) hs rfl (by decide) hp ⟨⟨v,e⟩,trivial⟩ hd fun a w' b s o=>?_
 obtain rfl:=su s;refine k a w' _ _ ((dl.nil (g:=g)).cons f) ?_;have h:=(IR.1 j).1;have q:A[i]'h=r:=(IR.1 j).2;refine o.perm ?_;have c:=ra h;rw [q] at c;have m:(A++B).Perm (A.eraseIdx i++([r]++B)):=(List.Perm.append_right B c).trans List.perm_middle.symm;exact List.Perm.cons _ m
theorem wF {β:Type} {I:InT β} {T el:TypeId} {bytes:Nat} {z:Value} {x y:Operand} {v u:Value} {ll mm r:List β} {xs ys:List Value} {i j:Nat}
 (J:P.underlying T=some (.slice el)) (D:en P el false 1 bytes z) (o:z.cells.size=1) (F:0<bytes) (hs:Sep g0 w0 g w (A++(H++(G++B))))
 (l:A[i]?=some (.row v el 1 ll.length xs)) (f:A[j]?=some (.row u el 1 mm.length ys)) (_:i≠j) (b:dl I g xs ll G) (hH:dl I g ys mm H)
 (hx:ev E x=v) (hy:ev E y=u) (hM:cD bytes ll mm=some r) (hd:Nat.blt d n.sz=true)
 (k:∀a w' c G',dl I g c r G'→Sep g0 w0 g w' ((A.set i (.row a el 1 r.length c)).eraseIdx j++(G'++B))→OW P n ops Q rest (cz E d a) w') :
 OW P n ops Q (⟨some d,.call { callee:=.builtin .append,args:=#[x,y],argTypes:=#[T,T] },ty,ps,af,none⟩::rest) E w:=by
 obtain ⟨K,rfl⟩:=Aq (l':=xs) (m':=ys) hM b.lx hH.lx;have h:=(IR.1 l).1;have q:=(IR.1 f).1;have t:(A++(H++(G++B)))[i]?=some (.row v el rI.sz xs.length xs):=by rw [Jc h,b.lx]; exact l
 have s:(A++(H++(G++B)))[j]?=some (.row u el rI.sz ys.length ys):=by rw [Jc q,hH.lx]; exact f
 refine bH (τ:=rI) J D o (by decide) F hs t (vC b.ones) hx hy (hs.rowSrc s) (vC hH.ones) K hd fun a w' c p e=>?_
 obtain rfl:=su p;refine k a w' _ _ (b.append hH) ?_;have hlen:(xs++ys).length=(ll++mm).length:=by simp [b.lx,hH.lx]
 rw [List.set_append_left _ _ h,hlen] at e;generalize N:A.set i (.row a el rI.sz (ll++mm).length (xs++ys))=A2 at e;have L:A.set i (.row a el 1 (ll++mm).length (xs++ys))=A2:=N;rw [L];have m:Sep g0 w0 g w' (A2.eraseIdx j++(H++(G++B))):=e.sub ((List.eraseIdx_sublist A2 j).append_right _);refine m.perm (List.Perm.append_left _ ?_);rw [Ja];exact IX _ _ _
end
end Go.Lx
namespace Go.Lx
open Go.RowKit Go.Maps
section
variable {P:Program} {n:Fr} {Q:EPost} {E:Env} {w:World} {ops:Array Oper} {rest:List Oper} {d:Tmp} {ty:TypeId} {ps:String} {af:Array Edge} {g0 g:Hp} {w0:World} {L:List Res}
theorem gE {d':Option Tmp} {gd:Option (Nat×Bool)} {K V:Type} [BEq K] {ek:K→Value} {vf:V→Value} {T Tk Te:TypeId} {es:Array MapEntry} {f b i:Nat} {m:List (K×V)} {x y:Operand} {kk:K} {vv:V} (l:P.underlying T=some (.map Tk Te)) (c:ln P Tk ek)
 (hs:Sep g0 w0 g w L) (k:L[i]?=some (.obj b (.map es f))) (d:dc ek vf es f m) (hx:ev E x=.map (some b)) (hy:ev E y=ek kk) (a:cb m kk=some vv) :
 cy P E ⟨d',.lookup T x y false,ty,ps,af,gd⟩ w (vf vv) w:=.inl (by
 have hb:=(hs.at k).out;simp only [Res.okB] at hb;have hf:=c.find kk es.toList (m.map (·.1)) w d.keys;have h:=d.val;rw [kZ] at a;simp only [execOp,Instr.lookup,hx,hy,Sem.run_bind,run_underlying l,Jf,getObj,Sem.run,hb,Sem.run_pure,c.check,hf];cases hj:(m.map (·.1)).findIdx? (· == kk) with
 | none=>rw [hj] at a; cases a
 | some j=>
  have:=h j;rw [hj] at a;simp only [IS] at a;cases hm':m[j]? with
  | none=>rw [hm'] at a; cases a
  | some p=>
   rw [hm'] at this a;cases he':es.toList[j]? with
   | none=>rw [he'] at this; simp at this
   | some e=>
    rw [he'] at this;simp only [Option.map_some,Option.some.injEq] at this a;simp only [IS,he',Option.map_some,this,a];rfl)
end
theorem wR {n:Nat} {v:aV n} {q c:Int} {k:IntKind} {w:World} {b o:Nat} (hc:∀j u,(v.1.map (Value.int k))[j]?=some u→w.cell? ⟨b,o+j,none⟩=some u) (h:gV v q=some c) :
 ∀j u,[Value.int k c][j]?=some u→w.cell? ⟨b,o+q.toNat*1+j,none⟩=some u:=by
 intro j u hj;cases j with
 | zero=>
  simp at hj; subst hj;have:=hc _ _ (dY (k:=k) h);simpa using this
 | succ j=>simp at hj
end Go.Lx
namespace Go.Lx
open Go.RowKit Go.Maps Go.Proofs Go.Shelf
open Go.WideElems (Fit rd rg pl)
def wg (x:Int):List Int→List Int
 | []=>[x]
 | y::l=>if x≤y then x::y::l else y::wg x l
def mi:List Int→List Int
 | []=>[]
 | x::l=>wg x (mi l)
theorem oA (x:Int):∀l,(wg x l).Perm (x::l)
 | []=>List.Perm.refl _
 | y::l=>by
  unfold wg;split
  ·exact List.Perm.refl _
  ·exact ((oA x l).cons y).trans (List.Perm.swap _ _ _)
theorem mH:∀l,(mi l).Perm l
 | []=>List.Perm.refl _
 | x::l=>(oA x _).trans ((mH l).cons x)
theorem oP (x:Int):∀l:List Int,l.Pairwise (·≤·)→(wg x l).Pairwise (·≤·)
 | [],_=>by simp [wg]
 | y::l,h=>by
  unfold wg;obtain ⟨b,c⟩:=List.pairwise_cons.1 h;split
  ·rename_i hxy;refine List.pairwise_cons.2 ⟨fun z a=>?_,h⟩;rcases Js.1 a with rfl|a
   ·exact hxy
   ·exact Int.le_trans hxy (b z a)
  ·rename_i hxy;refine List.pairwise_cons.2 ⟨fun z a=>?_,oP x l c⟩;rcases Js.1 ((oA x l).mem_iff.1 a) with rfl|a
   ·omega
   ·exact b z a
theorem jO:∀l:List Int,(mi l).Pairwise (·≤·)
 | []=>List.Pairwise.nil
 | x::l=>oP x _ (jO l)
theorem po {d l:List Int} (h:d.Perm l):d.mergeSort leI=mi l:=by
 have g:∀a b c:Int,leI a b=true→leI b c=true→leI a c=true:=fun a b c f e=>by simp only [leI,decide_eq_true_eq] at *; exact Int.le_trans f e
 have to:∀a b:Int,(leI a b || leI b a)=true:=fun a b=>by simp only [leI,Bool.or_eq_true,decide_eq_true_eq]; exact Int.le_total a b
 refine List.Perm.eq_of_pairwise (le:=fun a b:Int=>a≤b) (fun a b _ _ f e=>Int.le_antisymm f e) ((List.pairwise_mergeSort g to d).imp fun h=>by simpa [leI] using h) (jO l) (((List.mergeSort_perm d leI).trans h).trans (mH l).symm)
def sB {V:Type} (m:List (Int×V)):Option (List Int):=if m.length≤17592186044416∧∀p∈m,-9223372036854775808≤p.1∧p.1≤9223372036854775807 then some (mi (m.map (·.1))) else none
theorem wc {V:Type} {m:List (Int×V)} {l:List Int} (h:sB m=some l):m.length≤17592186044416∧(∀p∈m,-9223372036854775808≤p.1∧p.1≤9223372036854775807)∧l=mi (m.map (·.1)):=by
 unfold sB at h;split at h
 ·rename_i hc; exact ⟨hc.1,hc.2,(Option.some.inj h).symm⟩
 ·cases h
def yL:Value→Option (DataW Unit×List MemPlace):=fun _=>some (.nil,[])
theorem yo {P:Program} {Tk:TypeId} {V:Type} {vf:V→Value} {es:Array MapEntry} {j b:Nat} {m:List (Int×V)} {w:World} (t:P.underlying Tk=some (.int .i64)) (hb:w.heap[b]?=some (.map es j)) (c:dc (Value.int .i64) vf es j m)
 (hl:m.length≤17592186044416) (r:∀p∈m,-9223372036854775808≤p.1∧p.1≤9223372036854775807) :
 ∃k:DataW Unit,w.ownsMap P Tk yL b m.length k∧Maps.size k=m.length∧(intKeys k).Perm (m.map (·.1)):=by
 have l:∀x∈es.toList,∃a:Int,x.key=.int .i64 a∧rd P Tk yL x=some (.int .i64 a,.nil):=by
  intro x hx;have n:x.key∈es.toList.map (·.key):=Jt.2 ⟨x,hx,rfl⟩;rw [c.keys] at n;obtain ⟨a,ha,o⟩:=Jt.1 n;obtain ⟨p,hp,rfl⟩:=Jt.1 ha;refine ⟨p.1,o.symm,?_⟩;have d:=r p hp;have q:(Lit.int .i64 p.1).wf=true:=by
   simp only [Lit.wf,Bool.and_eq_true,decide_eq_true_eq];exact ⟨d.1,d.2⟩
  have:keyOf P Tk x.key=some (.int .i64 p.1):=by
   rw [←o];simp [keyOf,t,mapKey,q]
  simp [rd,this,yL]
 refine ⟨_,⟨es,j,hb,⟨?_,c.stamp,fun x hx=>?_⟩,by rw [c.size]; exact Nat.le_refl _,rfl⟩,?_,?_⟩
 ·rw [c.size]; unfold maxLen; omega
 ·obtain ⟨a,_,h⟩:=l x hx; exact ⟨_,h⟩
 ·show (List.foldr DataW.insert [] _).length=_;rw [length_sorted,Jg,Array.length_toList,c.size]
 ·show ((List.foldr DataW.insert [] (es.toList.map (rg P Tk yL))).map fun p=>intOf p.1).Perm _;refine ((Go.WideShapes.sorted_perm _).map _).trans ?_;rw [JF];have e:es.toList.map ((fun p:Lit×DataW Unit=>intOf p.1)∘rg P Tk yL)=m.map (·.1):=by
   have s:∀i g:List Int,i.map (Value.int .i64)=g.map (Value.int .i64)→i=g:=by
    intro i g h;refine List.map_inj_right (f:=Value.int .i64) (fun x y h=>?_) |>.1 h;cases h; rfl
   refine s _ _ ?_;rw [←c.keys,JF];refine List.map_congr_left fun x hx=>?_
   obtain ⟨a,d,u⟩:=l x hx;simp [rg,u,d,intOf]
  rw [e]
def AC (P:Program) (f g1:FuncId) (T:TypeId):Prop:=∀(mb:Option Nat) (W:World),aU P f #[.map mb] W fun v w'=>v=.func (.func g1) #[] #[.pointer (some ⟨W.heap.size,0,none⟩)]∧w'=W.alloc (.cells #[.map mb] T)
theorem zM {P:Program} {ρ:Ren} (L:SlLaysZI.n7 P ρ):AC P (ρ.f 7) (ρ.f 10) (ρ.t 23):=fun mb W=>(callsIn_wide.1 (AnyZI.keys_in L Fence.wide 5 trivial rfl mb W)).mono fun _ _ ⟨h1,h2⟩=>⟨_,h1,rfl,h2⟩
def tM (P:Program) (f d:FuncId) (Tk:TypeId):Prop:=∀(Bm mb c:Nat) (b:DataW Unit) (w:World),Bm<w.heap.size→w.cell? ⟨Bm,0,none⟩=some (.map (some mb))→w.ownsMap P Tk yL mb c b→Maps.size b*8≤140737488355328→
 aU P f #[.func (.func d) #[] #[.pointer (some ⟨Bm,0,none⟩)]] w fun v w'=>∃a:List Int,a.Perm (intKeys b)∧w'.ownsRow w.heap.size Tk 1 v a.length ((a.mergeSort leI).map encZ)∧Below w.heap.size w w'
theorem vw {P:Program} {ρ ρ':Ren} (L:SlLaysZI.n7 P ρ) (L':SlLaysZI.n6 P ρ') (i:ρ'.t 26=ρ.t 26) (hs:AnyZI.SortsIn P ρ' Fence.wide 4) (m:∀args w,(callFunc (ρ'.f 9) args).run P w=.ok (.enter (ρ'.f 9) args) w) (n:∀args w,(callFunc (ρ.f 10) args).run P w=.ok (.enter (ρ.f 10) args) w) :
 tM P (ρ'.f 6) (ρ.f 10) (ρ.t 26):=by
 intro Bm mb d b w hB j h hsz;have g:SeqGives Fence.wide 2 P (ρ.f 10) #[.pointer (some ⟨Bm,0,none⟩)] encZ (fun a=>a.Perm (intKeys b)) (Maps.size b) w:=AnyZI.keys_gives { L with } Fence.wide 2 trivial rfl (by omega) Bm mb d b w hB j h;refine (callsIn_wide.1 (AnyZI.sorted_in L' Fence.wide 5 trivial trivial trivial trivial rfl (by omega) hs m (ρ.f 10) _ trivial n _ _ (by unfold maxLen; omega) hsz w g)).mono ?_;rintro e w' ⟨v,a,rfl,l,c,o,k⟩;rw [i] at c;exact ⟨v,rfl,a,l,c,k⟩
section
variable {P:Program} {n:Fr} {Q:EPost} {E:Env} {w:World} {ops:Array Oper} {rest:List Oper} {d:Tmp} {ty:TypeId} {ps:String} {af:Array Edge} {g0 g:Hp} {w0:World} {L:List Res}
theorem Cx {f a:FuncId} {T:TypeId} {e:Array TypeId} {x:Operand} {mb:Option Nat} (c:AC P f a T) (hf:CF P f) (hs:Sep g0 w0 g w L) (hx:ev E x=.map mb) (hd:Nat.blt d n.sz=true)
 (k:∀b w',Sep g0 w0 g w' (tH b T [.map mb]::L)→OW P n ops Q rest (cz E d (.func (.func a) #[] #[.pointer (some ⟨b,0,none⟩)])) w') :
 OW P n ops Q (⟨some d,.call { callee:=.value (.func f),args:=#[x],argTypes:=e },ty,ps,af,none⟩::rest) E w:=by
 refine C [.map mb] hf (by simp [hx]) (c mb w) hd ?_;rintro v w' ⟨rfl,rfl⟩;exact k _ _ (hs.alloc _)
theorem yN {f p:FuncId} {Tk T:TypeId} {U:Array TypeId} {x:Operand} {b mb i j t:Nat} {es:Array MapEntry} {V:Type} {vf:V→Value} {m:List (Int×V)} {l:List Int} (J:tM P f p Tk) (hf:CF P f) (N:P.underlying Tk=some (.int .i64)) (hs:Sep g0 w0 g w L)
 (I:L[i]?=some (tH b T [.map (some mb)])) (H:L[j]?=some (.obj mb (.map es t))) (F:dc (Value.int .i64) vf es t m) (G:sB m=some l) (hx:ev E x=.func (.func p) #[] #[.pointer (some ⟨b,0,none⟩)]) (hd:Nat.blt d n.sz=true)
 (k:∀v w' xs,ae (ak .i64) g xs l→Sep g0 w0 g w' (.row v Tk (ak .i64).sz l.length xs::L)→OW P n ops Q rest (cz E d v) w') :
 OW P n ops Q (⟨some d,.call { callee:=.value (.func f),args:=#[x],argTypes:=U },ty,ps,af,none⟩::rest) E w:=by
 obtain ⟨S,R,rfl⟩:=wc G;have hb:=(hs.at I).out;have o:=(hs.at H).out;simp only [Res.okB] at hb o;obtain ⟨X,D,hz,hp⟩:=yo N o F S R;refine C [_] hf (by simp [hx]) (J b mb _ X w (Array.getElem?_eq_some_iff.1 hb).1 (by simp [World.cell?,hb]) D (by omega)) hd ?_;rintro v w' ⟨z,A,a,K⟩;have e:=po (A.trans hp);have hlen:z.length=(mi (m.map (·.1))).length:=by rw [←e,List.length_mergeSort]
 rw [e,hlen] at a;refine k v w' ((mi (m.map (·.1))).map encZ) ?_ ?_
 ·refine ⟨by simp [ak],fun i x hx=>?_⟩;show (List.drop (i*1) _).take 1=[Value.int .i64 x];obtain ⟨hl,rfl⟩:=IR.1 hx;rw [Nat.mul_one,List.drop_eq_getElem_cons (by simpa using hl)];simp
 ·have hx:=tE hs.imm K;have B:(Res.row v Tk (ak .i64).sz (mi (m.map (·.1))).length ((mi (m.map (·.1))).map encZ)).ok w':=⟨⟨a.1,by
   rcases a.2 with h|⟨q,u,s,W,_,a3⟩
   ·exact .inl h
   ·exact .inr ⟨q,u,s,W,Nat.zero_le _,a3⟩⟩⟩
  refine hs.callOwn (L':=[_]) ⟨hx,by simpa using B,?_,by simp⟩;intro r c q hq;simp only [IY] at c;subst c;rcases a.2 with ⟨rfl,_⟩|⟨Y,u,s,rfl,y,_⟩
  ·simp [Res.blk,Value.ownBlock] at hq
  ·simp only [Res.blk,Value.ownBlock,Option.some.injEq] at hq;subst hq;exact ⟨y,hs.none_at y⟩
end
def xw (l:List Int) (n:Int):Option (List Int):=if l=[]∧0≤n∧n≤17592186044416 then some [] else none
theorem BL {P:Program} {ρ:Ren} (L:Lays8.n4 P ρ) (c:(P.info? (ρ.t 25)).map (fun i=>(i.zero,i.size,i.bytes))=some (some (.int .i64 0),1,8)) {l:List Int} {k:Int} {r:List Int} (hM:xw l k=some r) {g0:Hp} {w0:World} (g:cY g0 w0) :
 aU P (ρ.f 4) #[.slice none 0 0,.int .i64 k] w0 (fun v w'=>∃g' xs,ae (ak .i64) g' xs r∧Sep g0 w0 g' w' [.row v (ρ.t 25) (ak .i64).sz r.length xs]):=by
 unfold xw at hM;split at hM
 ·rename_i hc;obtain ⟨_,p,u⟩:=hc;obtain rfl:=Option.some.inj hM;obtain ⟨q,rfl⟩:=Jn p;cases d:P.info? (ρ.t 25) with
  | none=>rw [d] at c; cases c
  | some m=>
   rw [d] at c;simp only [Option.map_some,Option.some.injEq,Prod.mk.injEq] at c;obtain ⟨j,s,z3⟩:=c;rcases Nat.eq_zero_or_pos q with rfl|hq
   ·refine (Any8.slices_Grow_room L none 0 0 0 w0 (by omega) (by omega) (by omega) (by omega)).mono ?_;rintro e w' ⟨rfl,rfl⟩;exact ⟨_,rfl,g0,[],ae.nil,(Sep.start g).nilRow _ _⟩
   ·refine (Any8.slices_Grow_grow L m (.int .i64 0) d j (by omega) none 0 0 q [] w0 (by omega) (by omega) (by rw [z3]; omega) (by omega) (by simp) (fun _=>rfl) (fun a h=>by cases h)).mono ?_;rintro e w' ⟨rfl,rfl⟩;refine ⟨_,rfl,g0,[],ae.nil,?_⟩;have hs:=(Sep.start g).drew.alloc (.cells (#[]++Builtin.zeroCells (Value.int .i64 0).cells (0+q - 0)++Builtin.zeroCells (Value.int .i64 0).cells (grownCap w0 (0+q) 0 (ρ.t 25) - (0+q))) (ρ.t 25));have hb:=(hs.at (i:=0) rfl).out;simp only [Res.okB] at hb;have o:0+q≤grownCap w0 (0+q) 0 (ρ.t 25):=grownCap_ge w0 _ _ _;have n:grownCap w0 (0+q) 0 (ρ.t 25)≤maxLen:=grownCap_le_maxLen w0 _ _ _ (by unfold maxLen; omega);refine hs.upd (i:=0) rfl (w':=_) ⟨rfl,rfl,rfl,Nat.le_refl _,fun _ _ _=>rfl⟩ (r':=.row _ (ρ.t 25) (ak .i64).sz 0 []) ⟨⟨by simp,.inr ⟨_,_,_,rfl,Nat.zero_le _,hb,Nat.zero_le _,n,?_,by simp⟩⟩⟩ (fun b hb=>.inl hb);simp only [Nat.zero_add] at o ⊢;simp [Builtin.zeroCells,ak,Value.cells];omega
 ·cases hM
end Go.Lx
namespace Go.Proofs
open Go.Shelf
def Tryz.lays137_ren:Go.Shelf.Ren:=⟨fun|137=>160|217=>168|266=>170|n=>n,fun|9=>9|5=>5|3=>3|n=>n,fun|n=>n⟩
theorem Tryz.lays137:Go.Proofs.Lays.n137 Tryz.prog Tryz.lays137_ren:={
 mixed:=by kernel_rfl
 f137:=Tryz.func160.trans (congrArg some (by kernel_rfl))
 f217:=Tryz.func168.trans (congrArg some (by kernel_rfl))
 f266:=Tryz.func170.trans (congrArg some (by kernel_rfl))
 t3:=HZ
 a3:=Tryz.isAgg3
 z3:=Tryz.sizeOf3
 v3:=Tryz.zeroValue3
 t5:=Ip
 a5:=Tryz.isAgg5
 z5:=Tryz.sizeOf5
 v5:=Tryz.zeroValue5
 t9:=HW
 a9:=Tryz.isAgg9
 z9:=Tryz.sizeOf9
 v9:=Tryz.zeroValue9 }
open Go.RowKit in
theorem Tryz.strings_IndexByte (s:ByteArray) (c:Int) (w:World) :
 Calls Tryz.prog 160 #[.string s,.int .u8 c] w fun e w'=>e=.returned (.int .i64 (Lib.indexByte s.data.toList c.toNat.toUInt8))∧w'=w:=Any.strings_IndexByte Tryz.lays137 s c w
def Tryz.grow139_ren:Go.Shelf.Ren:=⟨fun|4=>139|n=>n,fun|22=>34|25=>3|3=>3|4=>4|9=>9|20=>20|0=>0|n=>n,fun|n=>n⟩
theorem Tryz.grow139:Go.Proofs.Lays8.n4 Tryz.prog Tryz.grow139_ren:={
 mixed:=by kernel_rfl
 f4:=⟨Tryz.f139.name,by decide,Tryz.func139.trans (congrArg some (by kernel_rfl))⟩
 t0:=II
 a0:=Tryz.isAgg0
 z0:=Tryz.sizeOf0
 v0:=Tryz.zeroValue0
 t3:=HZ
 a3:=Tryz.isAgg3
 z3:=Tryz.sizeOf3
 v3:=Tryz.zeroValue3
 t4:=Iz
 a4:=Tryz.isAgg4
 z4:=Tryz.sizeOf4
 v4:=Tryz.zeroValue4
 t9:=HW
 a9:=Tryz.isAgg9
 z9:=Tryz.sizeOf9
 v9:=Tryz.zeroValue9
 t20:=IK
 a20:=Tryz.isAgg20
 z20:=Tryz.sizeOf20
 v20:=Tryz.zeroValue20
 t22:=HU
 a22:=Tryz.isAgg34
 z22:=Tryz.sizeOf34
 v22:=Tryz.zeroValue34 }
def Tryz.keys88_ren:Go.Shelf.Ren:=⟨fun|7=>88|10=>112|n=>n,fun|23=>125|26=>3|3=>4|28=>134|0=>0|27=>133|33=>155|4=>4|n=>n,fun|n=>n⟩
theorem Tryz.keys88:Go.Proofs.SlLaysZI.n7 Tryz.prog Tryz.keys88_ren:={
 mixed:=by kernel_rfl
 f7:=⟨Tryz.f88.name,by decide,Tryz.func88.trans (congrArg some (by kernel_rfl))⟩
 f10:=⟨Tryz.f112.name,by decide,Tryz.func112.trans (congrArg some (by kernel_rfl))⟩
 t0:=II
 a0:=Tryz.isAgg0
 z0:=Tryz.sizeOf0
 v0:=Tryz.zeroValue0
 t4:=Iz
 a4:=Tryz.isAgg4
 z4:=Tryz.sizeOf4
 v4:=Tryz.zeroValue4
 t23:=Tryz.underlying125
 a23:=Tryz.isAgg125
 z23:=Tryz.sizeOf125
 v23:=Tryz.zeroValue125
 t26:=HZ
 a26:=Tryz.isAgg3
 z26:=Tryz.sizeOf3
 v26:=Tryz.zeroValue3
 t27:=Tryz.underlying133
 a27:=Tryz.isAgg133
 z27:=Tryz.sizeOf133
 v27:=Tryz.zeroValue133
 t28:=Tryz.underlying134
 a28:=Tryz.isAgg134
 z28:=Tryz.sizeOf134
 v28:=Tryz.zeroValue134
 t33:=Tryz.underlying155
 a33:=Tryz.isAgg155
 z33:=Tryz.sizeOf155
 v33:=Tryz.zeroValue155 }
def Tryz.sorted87_ren:Go.Shelf.Ren:=⟨fun|6=>87|8=>110|9=>111|11=>126|13=>128|12=>127|23=>149|24=>150|14=>140|15=>141|16=>142|17=>143|18=>144|19=>145|20=>146|21=>147|22=>148|25=>161|26=>162|27=>163|28=>164|29=>165|30=>166|31=>169|n=>n,fun|26=>3|28=>134|24=>34|0=>0|3=>3|37=>114|48=>181|50=>48|4=>4|40=>174|39=>173|45=>138|5=>5|9=>9|51=>189|55=>193|57=>196|58=>197|33=>155|n=>n,fun|n=>n⟩
theorem Tryz.sorted87:Go.Proofs.SlLaysZI.n6 Tryz.prog Tryz.sorted87_ren:={
 mixed:=by kernel_rfl
 f6:=⟨Tryz.f87.name,by decide,Tryz.func87.trans (congrArg some (by kernel_rfl))⟩
 f8:=⟨Tryz.f110.name,by decide,Tryz.func110.trans (congrArg some (by kernel_rfl))⟩
 f11:=⟨Tryz.f126.name,by decide,Tryz.func126.trans (congrArg some (by kernel_rfl))⟩
 t0:=II
 a0:=Tryz.isAgg0
 z0:=Tryz.sizeOf0
 v0:=Tryz.zeroValue0
 t24:=HU
 a24:=Tryz.isAgg34
 z24:=Tryz.sizeOf34
 v24:=Tryz.zeroValue34
 t26:=HZ
 a26:=Tryz.isAgg3
 z26:=Tryz.sizeOf3
 v26:=Tryz.zeroValue3
 t28:=Tryz.underlying134
 a28:=Tryz.isAgg134
 z28:=Tryz.sizeOf134
 v28:=Tryz.zeroValue134
 i26:=by kernel_rfl }
def Tryz.sort111_ren:Go.Shelf.Ren:=⟨fun|5=>111|8=>128|7=>127|19=>149|20=>150|10=>140|11=>141|12=>142|13=>143|14=>144|15=>145|16=>146|17=>147|18=>148|30=>161|31=>162|32=>163|33=>164|34=>165|35=>166|40=>169|n=>n,fun|23=>34|25=>3|3=>3|32=>114|22=>34|0=>0|44=>181|46=>48|4=>4|36=>174|35=>173|41=>138|5=>5|9=>9|53=>189|57=>193|63=>196|64=>197|n=>n,fun|n=>n⟩
theorem Tryz.sort111:Go.Proofs.SlLaysM.n5 Tryz.prog Tryz.sort111_ren:={
 mixed:=by kernel_rfl
 f5:=⟨Tryz.f111.name,by decide,Tryz.func111.trans (congrArg some (by kernel_rfl))⟩
 f7:=⟨Tryz.f127.name,by decide,Tryz.func127.trans (congrArg some (by kernel_rfl))⟩
 f8:=Tryz.func128.trans (congrArg some (by kernel_rfl))
 f10:=⟨Tryz.f140.name,by decide,Tryz.func140.trans (congrArg some (by kernel_rfl))⟩
 f11:=⟨Tryz.f141.name,by decide,Tryz.func141.trans (congrArg some (by kernel_rfl))⟩
 f12:=⟨Tryz.f142.name,by decide,Tryz.func142.trans (congrArg some (by kernel_rfl))⟩
 f13:=⟨Tryz.f143.name,by decide,Tryz.func143.trans (congrArg some (by kernel_rfl))⟩
 f14:=⟨Tryz.f144.name,by decide,Tryz.func144.trans (congrArg some (by kernel_rfl))⟩
 f15:=⟨Tryz.f145.name,by decide,Tryz.func145.trans (congrArg some (by kernel_rfl))⟩
 f16:=⟨Tryz.f146.name,by decide,Tryz.func146.trans (congrArg some (by kernel_rfl))⟩
 f17:=⟨Tryz.f147.name,by decide,Tryz.func147.trans (congrArg some (by kernel_rfl))⟩
 f18:=⟨Tryz.f148.name,by decide,Tryz.func148.trans (congrArg some (by kernel_rfl))⟩
 f19:=Tryz.func149.trans (congrArg some (by kernel_rfl))
 f20:=Tryz.func150.trans (congrArg some (by kernel_rfl))
 f30:=⟨Tryz.f161.name,by decide,Tryz.func161.trans (congrArg some (by kernel_rfl))⟩
 f31:=Tryz.func162.trans (congrArg some (by kernel_rfl))
 f32:=Tryz.func163.trans (congrArg some (by kernel_rfl))
 f33:=⟨Tryz.f164.name,by decide,Tryz.func164.trans (congrArg some (by kernel_rfl))⟩
 f34:=⟨Tryz.f165.name,by decide,Tryz.func165.trans (congrArg some (by kernel_rfl))⟩
 f35:=⟨Tryz.f166.name,by decide,Tryz.func166.trans (congrArg some (by kernel_rfl))⟩
 f40:=⟨Tryz.f169.name,by decide,Tryz.func169.trans (congrArg some (by kernel_rfl))⟩
 t0:=II
 a0:=Tryz.isAgg0
 z0:=Tryz.sizeOf0
 v0:=Tryz.zeroValue0
 t3:=HZ
 a3:=Tryz.isAgg3
 z3:=Tryz.sizeOf3
 v3:=Tryz.zeroValue3
 t4:=Iz
 a4:=Tryz.isAgg4
 z4:=Tryz.sizeOf4
 v4:=Tryz.zeroValue4
 t5:=Ip
 a5:=Tryz.isAgg5
 z5:=Tryz.sizeOf5
 v5:=Tryz.zeroValue5
 t9:=HW
 a9:=Tryz.isAgg9
 z9:=Tryz.sizeOf9
 v9:=Tryz.zeroValue9
 t22:=HU
 a22:=Tryz.isAgg34
 z22:=Tryz.sizeOf34
 v22:=Tryz.zeroValue34
 t23:=HU
 a23:=Tryz.isAgg34
 z23:=Tryz.sizeOf34
 v23:=Tryz.zeroValue34
 t25:=HZ
 a25:=Tryz.isAgg3
 z25:=Tryz.sizeOf3
 v25:=Tryz.zeroValue3
 t32:=IL
 a32:=Tryz.isAgg114
 z32:=Tryz.sizeOf114
 v32:=Tryz.zeroValue114
 t35:=Tryz.underlying173
 a35:=Tryz.isAgg173
 z35:=Tryz.sizeOf173
 v35:=Tryz.zeroValue173
 t36:=Tryz.underlying174
 a36:=Tryz.isAgg174
 z36:=Tryz.sizeOf174
 v36:=Tryz.zeroValue174
 t41:=Tryz.underlying138
 a41:=Tryz.isAgg138
 z41:=Tryz.sizeOf138
 v41:=Tryz.zeroValue138
 t44:=Tryz.underlying181
 a44:=Tryz.isAgg181
 z44:=Tryz.sizeOf181
 v44:=Tryz.zeroValue181
 t46:=IB
 a46:=Tryz.isAgg48
 z46:=Tryz.sizeOf48
 v46:=Tryz.zeroValue48
 t53:=Tryz.underlying189
 a53:=Tryz.isAgg189
 z53:=Tryz.sizeOf189
 v53:=Tryz.zeroValue189
 t57:=Tryz.underlying193
 a57:=Tryz.isAgg193
 z57:=Tryz.sizeOf193
 v57:=Tryz.zeroValue193
 t63:=Tryz.underlying196
 a63:=Tryz.isAgg196
 z63:=Tryz.sizeOf196
 v63:=Tryz.zeroValue196
 t64:=Tryz.underlying197
 a64:=Tryz.isAgg197
 z64:=Tryz.sizeOf197
 v64:=Tryz.zeroValue197 }
end Go.Proofs
