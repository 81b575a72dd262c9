/- Part 2 of what the law leans on: my own layer, printed walks, plain facts. -/
import Derived.WalkSpells
import Derived.Laws.Cover1
import Derived.Laws.Small
import Derived.Laws.CopyRow
import Derived.Laws.IdiomCopy
import Derived.Laws.Runes
import Derived.Laws.Strings2
import Derived.Laws.Slices
import Derived.Lib.LaidTab
import Derived.Lib.LaidU8
import Derived.RangeFuncRecord
import Derived.RecoverIn
import Derived.RangeFuncLeaves
import Derived.Lib.ConvBytes
import Derived.WideShapes
import Derived.Shelf.SlIterI.Sorted
import Derived.Shelf.Spec.SlicesGrow
import Derived.Shelf.SortM.Plain
import Derived.Shelf.SortM.SortNone
import Derived.Shelf.Small.Strs
import Derived.Shelf.Strings.Search1
import Derived.Shelf.Sort.Plain
import Derived.Shelf.Slices.In.SortNone
import Derived.Test.YtggpjcdhflcfmaaGreatDoorProg
import Derived.Test.YtggpjcdhflcfmaaGreatDoorKLexspecTerms1
namespace Go.Lx
open Go.RowKit
section
variable {P:Program} {n:Fr} {Q:EPost} {E:Env} {w:World} {ops:Array Oper} {rest:List Oper} {d:Option Tmp} {ty:TypeId} {ps:String} {af:Array Edge} {gd:Option (Nat×Bool)}
theorem r_fieldAddr {T ft:TypeId} {x:Operand} {f b o o':Nat} {fs:Array Field} {fd:Field} {agg:Bool} {size bytes:Nat} {z:Value} (hT:P.underlying T=some (.struct fs)) (ht:TyI P ft agg size bytes z) (hf:fs[f]?=some fd) (he:fd.type=ft) (h0:Nat.blt 0 size=true) (hx:ev E x=.pointer (some ⟨b,o,none⟩)) (ho:o'=o+fd.offset) :
    Runs P E ⟨d,.fieldAddr T x f,ty,ps,af,gd⟩ w (.pointer (some ⟨b,o',none⟩)) w:=.inl (by
  subst he; subst ho
  have h0:¬ size=0:=by have:0<size:=Nat.le_of_ble_eq_true h0; omega
  simp [execOp,Instr.fieldAt,run_underlying hT,hf,hx,Instr.sureAddr,fieldPlace,run_sizeOf ht,h0,Addr.add])
theorem fill_cells (off:Nat):∀(cs:List Value) (q:Nat) (acc old:List Value),acc.length=off+q→cs.length≤old.length→
    (cs.zipIdx q).foldl (fun a (x:Value×Nat)=>a.setIfInBounds (off+x.2) x.1) (acc++old).toArray=(acc++cs++old.drop cs.length).toArray:=by
  intro cs
  induction cs with
  | nil=>intro q acc old _ _; simp
  | cons c cs ihc=>
    intro q acc old ha hlo
    match old,hlo with
    | o::old,hlo=>
      simp only [List.zipIdx_cons,List.foldl_cons]
      have e1:(acc++o::old).toArray.setIfInBounds (off+q) c=((acc++[c])++old).toArray:=by
        rw [←ha]
        simp [List.setIfInBounds_toArray]
      rw [e1,ihc (q+1) (acc++[c]) old (by simp [ha]; omega) (by simpa using hlo)]
      simp
theorem fill_step {place:Nat→Option (Nat×Nat)} {cells:List Value} {i off size:Nat} {v:Value} {rest:List (Nat×Value)} {r:Option (Array Value)} (pre old post cs:List Value) (hpl:place i=some (off,size)) (hc:cells=pre++(old++post)) (hv:v.cells.toList=cs) (h1:pre.length=off) (h2:old.length=size) (h3:cs.length=size)
    (k:Instr.fill place (pre++(cs++post)).toArray rest=r):Instr.fill place cells.toArray ((i,v)::rest)=r:=by
  subst hc; subst h1; subst h2
  subst hv
  have hvs:v.cells.size=old.length:=by simpa using h3
  simp only [Instr.fill,hpl]
  rw [if_neg (by simp [hvs])]
  rw [←Array.foldl_toList,Array.toList_zipIdx,fill_cells pre.length v.cells.toList 0 pre (old++post) (by simp) (by simp [hvs]),←k]
  congr 2
  rw [List.append_assoc,List.drop_append_of_le_length (by rw [h3]; exact Nat.le_refl _),h3,List.drop_length,List.nil_append]
theorem fill_done {place:Nat→Option (Nat×Nat)} {cells:Array Value}:Instr.fill place cells []=some cells:=rfl
theorem fill_last {place:Nat→Option (Nat×Nat)} {cells cs:List Value} (h:cells=cs):Instr.fill place cells.toArray []=some cs.toArray:=by rw [h]; rfl
theorem built_fill {T:TypeId} (places:List (Nat×Nat)) (zs:List Value) {vs:List (Nat×Value)} {r:Option (Array Value)} (h:∀vs,P.built T vs=Instr.fill (places.toArray[·]?) zs.toArray vs) (k:Instr.fill (places.toArray[·]?) zs.toArray vs=r):P.built T vs=r:=(h vs).trans k
theorem one_nil:∀v∈([]:List Value),v.oneCell'=true:=by simp
theorem one_cons {a:Value} {l:List Value} (h:a.oneCell'=true) (t:∀v∈l,v.oneCell'=true):∀v∈a::l,v.oneCell'=true:=List.forall_mem_cons.2 ⟨h,t⟩
theorem one_append {l m:List Value} (h:∀v∈l,v.oneCell'=true) (t:∀v∈m,v.oneCell'=true):∀v∈l++m,v.oneCell'=true:=List.forall_mem_append.2 ⟨h,t⟩
theorem one_of_shape {v:Value} {n:Nat} (h:∃a cap,v=.slice a n cap):v.oneCell'=true:=by obtain ⟨a,c,h⟩:=h; rw [h]; rfl
theorem cells_one {v:Value} (h:v.oneCell'=true):v.cells.toList=[v]:=by cases v <;> first|rfl|simp [Value.oneCell'] at h
theorem r_build {T:TypeId} {parts:Array (Nat×Operand)} {vs:List (Nat×Value)} {cs:List Value} (hp:parts.toList.map (fun p=>(p.1,ev E p.2))=vs) (hb:P.built T vs=some cs.toArray) :
    Runs P E ⟨d,.build T parts,ty,ps,af,gd⟩ w (.agg cs.toArray) w:=.inl (by
  have hpa:(parts.map fun (x:Nat×Operand)=>(x.1,ev E x.2))=vs.toArray:=by apply Array.ext'; rw [Array.toList_map,←hp]
  have hpa':(parts.map fun ((i,x):Nat×Operand)=>(i,ev E x))=vs.toArray:=hpa
  have:=run_build (P:=P) w T vs.toArray cs.toArray (by simpa using hb)
  simp only [execOp,Sem.run_bind,hpa',this,Result.andThen_ok,Sem.run_pure])
theorem elemField {b o off:Nat} {cs:List Value} (hc:∀j u,cs[j]?=some u→w.cell? ⟨b,o+j,none⟩=some u) (pre ds post:List Value) (he:cs=pre++(ds++post)) (hl:pre.length=off) :
    ∀j u,ds[j]?=some u→w.cell? ⟨b,o+off+j,none⟩=some u:=by
  intro j u hj
  subst he; subst hl
  rw [Nat.add_assoc]
  refine hc _ u ?_
  have hjl:j<ds.length:=(List.getElem?_eq_some_iff.1 hj).1
  rw [List.getElem?_append_right (by omega),Nat.add_sub_cancel_left,List.getElem?_append_left hjl]
  exact hj
end
def IBox (T:TypeId) (b:Nat) (cs:List Value) (g:Hp):Prop:=g b=some (.cells cs.toArray T (0,0))
theorem IBox.mono {T:TypeId} {b:Nat} {cs:List Value} {g g':Hp} (h:IBox T b cs g) (hg:Hle g g'):IBox T b cs g':=hg _ _ h
theorem IBox.cells {T:TypeId} {b:Nat} {cs:List Value} {g:Hp} {w:World} (h:IBox T b cs g) (hi:Imm g w):∀j u,cs[j]?=some u→w.cell? ⟨b,0+j,none⟩=some u:=fun j u hj=>by
  have:=hi b _ h
  simp [World.cell?,this,hj]
section
variable {g0 g:Hp} {w0 w:World} {L:List Res}
theorem Sep.relBox (h:Sep g0 w0 g w L) {i b:Nat} {T:TypeId} {cs:List Value} (hi:L[i]?=some (box b T cs)):∃g',Hle g g'∧IBox T b cs g'∧Sep g0 w0 g' w (L.eraseIdx i):=by
  have ho:=(h.at hi).out
  obtain ⟨hs,hle⟩:=h.release hi (b:=b) rfl ho
  exact ⟨_,hle,by simp [IBox,gadd],hs⟩
theorem Sep.lent (h:Sep g0 w0 g w L) {g1 g1':Hp} {w':World} (he:Ext g1 w g1' w'):∃g',Hle g g'∧Sep g0 w0 g' w' L:=by
  have hx:Ext g w (fun k=>if k<w.heap.size then g k else g1' k) w':=by
    refine ⟨he.below,fun b hb=>if_pos hb,fun b o hb=>?_⟩
    split at hb
    · rename_i hlt
      have:=h.imm b o hb
      rw [he.below.block b hlt]; exact this
    · exact he.imm b o hb
  exact ⟨_,hx.le h.imm,h.call hx⟩
end
theorem Sep.callOwn {g0 g:Hp} {w0 w:World} {L L':List Res} (h:Sep g0 w0 g w L) {g':Hp} {w':World} (he:Sep g w g' w' L'):Sep g0 w0 g' w' (L'++L):=by
  have hc:=h.call he.ext
  refine ⟨hc.ext,fun r hr=>?_,fun r hr b hb=>?_,?_⟩
  · rcases List.mem_append.1 hr with hr|hr
    · exact he.ok r hr
    · exact hc.ok r hr
  · rcases List.mem_append.1 hr with hr|hr
    · have:=he.fresh r hr b hb
      have hs:=h.ext.below.size
      exact ⟨by omega,this.2⟩
    · exact hc.fresh r hr b hb
  · refine List.pairwise_append.2 ⟨he.apart,h.apart,fun r hr s hs b hb hb'=>?_⟩
    have h1:=he.fresh r hr b hb
    have h2:=Res.lt (h.ok s hs) hb'
    omega
theorem Sep.sel {g0 g:Hp} {w0 w:World} {L L':List Res} (h:Sep g0 w0 g w L) (is:List Nat) (hn:is.Nodup) (hl:L'.map some=is.map (L[·]?)):Sep g0 w0 g w L':=by
  have hm:∀r∈L',r∈L:=by
    intro r hr
    have:some r∈L'.map some:=List.mem_map_of_mem hr
    rw [hl] at this
    obtain ⟨i,_,hi⟩:=List.mem_map.1 this
    exact List.mem_of_getElem? hi
  refine ⟨h.ext,fun r hr=>h.ok r (hm r hr),fun r hr=>h.fresh r (hm r hr),?_⟩
  have hlen:L'.length=is.length:=by have:=congrArg List.length hl; simpa using this
  have hat:∀(i:Nat) (hi:i<L'.length),L[is[i]'(by omega)]?=some L'[i]:=by
    intro i hi
    have:=congrArg (fun l=>l[i]?) hl
    have h2:i<is.length:=by omega
    simp [hi,h2] at this
    exact this.symm
  rw [List.pairwise_iff_getElem]
  intro i j hi hj hij b hb hb'
  have e1:=hat i hi
  have e2:=hat j hj
  obtain ⟨l1,e1⟩:=List.getElem?_eq_some_iff.1 e1
  obtain ⟨l2,e2⟩:=List.getElem?_eq_some_iff.1 e2
  have hne:is[i]'(by omega)≠is[j]'(by omega):=fun e=>by
    exact List.pairwise_iff_getElem.1 hn i j (by omega) (by omega) hij e
  have hp:=List.pairwise_iff_getElem.1 h.apart
  rcases Nat.lt_or_gt_of_ne hne with hlt|hlt
  · exact hp _ _ l1 l2 hlt b (by rw [e1]; exact hb) (by rw [e2]; exact hb')
  · exact hp _ _ l2 l1 hlt b (by rw [e2]; exact hb') (by rw [e1]; exact hb)
section
variable {P:Program} {n:Fr} {Q:EPost} {E:Env} {w:World} {ops:Array Oper} {rest:List Oper} {d:Tmp} {ty:TypeId} {ps:String} {af:Array Edge} {gd:Option (Nat×Bool)}
theorem r_makeFunc {d:Option Tmp} {f:FuncId} {cap:Array Operand} {vs:List Value} (hc:cap.toList.map (ev E)=vs):Runs P E ⟨d,.makeFunc (.func f) #[] cap,ty,ps,af,gd⟩ w (.func (.func f) #[] vs.toArray) w:=.inl (by
  have:cap.map (ev E)=vs.toArray:=by apply Array.ext'; rw [Array.toList_map,hc]
  simp [execOp,Instr.makeFunc,this])
theorem run_callV {d:Option Tmp} {f:FuncId} {x:Operand} {xs:Array Operand} {ats:Array TypeId} {args cap:List Value} (hf:CF P f) (hx:ev E x=.func (.func f) #[] cap.toArray) (ha:xs.toList.map (ev E)=args) :
    (execOp (ev E) ⟨d,.call { callee:=.value x,args:=xs,argTypes:=ats },ty,ps,af,gd⟩).run P w=.ok (.enter f (args++cap).toArray) w:=by
  obtain ⟨fn,h1,h2,h3⟩:=hf
  have ha:xs.map (ev E)=args.toArray:=by apply Array.ext'; rw [Array.toList_map,ha]
  have hn':¬ fn.name = "runtime.NumGoroutine":=by simpa using h3
  have hb2:¬ fn.body=none:=by intro h; rw [h] at h2; cases h2
  simp [execOp,resolve,Deferred.ofValue,invoke,callFunc,hx,ha,h1,hb2,hn']
theorem CV {f:FuncId} {x:Operand} {xs:Array Operand} {ats:Array TypeId} (args cap:List Value) {R:Value→World→Prop} (hf:CF P f) (hx:ev E x=.func (.func f) #[] cap.toArray) (ha:xs.toList.map (ev E)=args) (hc:CallsV P f (args++cap).toArray w R) (hd:Nat.blt d n.sz=true)
    (k:∀v w',R v w'→OW P n ops Q rest (upd E d v) w'):OW P n ops Q (⟨some d,.call { callee:=.value x,args:=xs,argTypes:=ats },ty,ps,af,none⟩::rest) E w:=
  OW_call (run_callV hf hx ha) hd rfl hc k
theorem CVG {f:FuncId} {x:Operand} {xs:Array Operand} {ats:Array TypeId} {d0:Tmp} {j:Nat} {want:Bool} {b:Bool} {oj:Oper} (hj:ops[j]?=some oj) (hdj:oj.dst=some d0) (hb:ev E (.tmp d0)=.bool b) (hne:(b == want)=true)
    (args cap:List Value) {R:Value→World→Prop} (hf:CF P f) (hx:ev E x=.func (.func f) #[] cap.toArray) (ha:xs.toList.map (ev E)=args) (hc:CallsV P f (args++cap).toArray w R) (hd:Nat.blt d n.sz=true)
    (k:∀v w',R v w'→OW P n ops Q rest (upd E d v) w'):OW P n ops Q (⟨some d,.call { callee:=.value x,args:=xs,argTypes:=ats },ty,ps,af,some (j,want)⟩::rest) E w:=
  OW_callG rfl hj hdj hb hne (run_callV hf hx ha) hd hc k
end
def FnRd1 {α β:Type} (P:Program) (A:Hp→Value→α→Prop) (B:Hp→Value→β→Prop) (v:Value) (F:α→Option β) (g:Hp):Prop:=
  ∃f cap,v=.func (.func f) #[] (List.toArray cap)∧CF P f∧∀g' w' a x r,Hle g g'→Imm g' w'→A g' a x→F x=some r→
    CallsV P f ([a]++cap).toArray w' (fun v w''=>∃g'',B g'' v r∧Ext g' w' g'' w'')
theorem FnRd1.mono {α β:Type} {P:Program} {A:Hp→Value→α→Prop} {B:Hp→Value→β→Prop} {v:Value} {F:α→Option β} {g g':Hp} (h:FnRd1 P A B v F g) (hg:Hle g g'):FnRd1 P A B v F g':=by
  obtain ⟨f,cap,h1,h2,h3⟩:=h
  exact ⟨f,cap,h1,h2,fun g2 w' a x r hle=>h3 g2 w' a x r (hg.trans hle)⟩
def FnRd2 {α β γ:Type} (P:Program) (A:Hp→Value→α→Prop) (A2:Hp→Value→β→Prop) (B:Hp→Value→γ→Prop) (v:Value) (F:α→β→Option γ) (g:Hp):Prop:=
  ∃f cap,v=.func (.func f) #[] (List.toArray cap)∧CF P f∧∀g' w' a x a2 x2 r,Hle g g'→Imm g' w'→A g' a x→A2 g' a2 x2→F x x2=some r→
    CallsV P f ([a,a2]++cap).toArray w' (fun v w''=>∃g'',B g'' v r∧Ext g' w' g'' w'')
theorem FnRd2.mono {α β γ:Type} {P:Program} {A:Hp→Value→α→Prop} {A2:Hp→Value→β→Prop} {B:Hp→Value→γ→Prop} {v:Value} {F:α→β→Option γ} {g g':Hp} (h:FnRd2 P A A2 B v F g) (hg:Hle g g'):FnRd2 P A A2 B v F g':=by
  obtain ⟨f,cap,h1,h2,h3⟩:=h
  exact ⟨f,cap,h1,h2,fun g2 w' a x a2 x2 r hle=>h3 g2 w' a x a2 x2 r (hg.trans hle)⟩
def FnRd0 {β:Type} (P:Program) (B:Hp→Value→β→Prop) (v:Value) (F:Option β) (g:Hp):Prop:=
  ∃f cap,v=.func (.func f) #[] (List.toArray cap)∧CF P f∧∀g' w' r,Hle g g'→Imm g' w'→F=some r→
    CallsV P f (([]:List Value)++cap).toArray w' (fun v w''=>∃g'',B g'' v r∧Ext g' w' g'' w'')
theorem FnRd0.mono {β:Type} {P:Program} {B:Hp→Value→β→Prop} {v:Value} {F:Option β} {g g':Hp} (h:FnRd0 P B v F g) (hg:Hle g g'):FnRd0 P B v F g':=by
  obtain ⟨f,cap,h1,h2,h3⟩:=h
  exact ⟨f,cap,h1,h2,fun g2 w' r hle=>h3 g2 w' r (hg.trans hle)⟩
theorem FnRd0.one {β:Type} {P:Program} {B:Hp→Value→β→Prop} {v:Value} {F:Option β} {g:Hp} (h:FnRd0 P B v F g):v.oneCell'=true:=by
  obtain ⟨f,cap,rfl,_⟩:=h; rfl
def tFn0 {β:Type} (P:Program) (B:Hp→Value→β→Prop):Ty (Option β):=
  ⟨1,fun g cs F=>∃v,cs=[v]∧FnRd0 P B v F g,fun hg ⟨v,h1,h2⟩=>⟨v,h1,h2.mono hg⟩,fun ⟨v,h,_⟩=>by rw [h]; rfl,fun ⟨v,h,hf⟩ u hu=>by rw [h] at hu; simp at hu; subst hu; exact hf.one⟩
section
variable {P:Program} {E:Env} {w:World} {d:Option Tmp} {ty:TypeId} {ps:String} {af:Array Edge} {gd:Option (Nat×Bool)}
theorem r_eqlNil {T T' e:TypeId} {x y:Operand} {a:Option Addr} {n c n' c':Nat} {v:Value} (hT:P.underlying T=some (.slice e)) (hx:ev E x=v) (hv:v=.slice a n c) (hy:ev E y=.slice none n' c') :
    Runs P E ⟨d,.binOp .eql T x y T',ty,ps,af,gd⟩ w (.bool a.isNone) w:=run_binOp_of (by rw [hx,hv,hy]; rfl) (by
  rw [hx,hv,hy]
  simp only [binOp]
  simp [Op.equal,Op.maxDepth,Lib.run_equalIn_slice_nil w 9999 T e a n c n' c' hT])
theorem RdS.none_nil {α:Type} {τ:Ty α} {g:Hp} {v:Value} {l:List α} (h:RdS τ g v l) {n c:Nat} (hv:v=.slice none n c):l=[]:=by
  obtain ⟨xs,hr,hs⟩:=h
  rcases hs with ⟨hn,_⟩|⟨b,off,cap,arr,e,fz,h1,_⟩
  · exact List.eq_nil_of_length_eq_zero hn
  · rw [h1] at hv; cases hv
theorem truth_cases (b:Bool):b=true∨b=false:=by cases b <;> simp
end
section
variable {P:Program} {E:Env} {w:World} {d:Option Tmp} {ty:TypeId} {ps:String} {af:Array Edge} {gd:Option (Nat×Bool)} {T T':TypeId} {x y:Operand} {a b:Str}
end
theorem part_one {P:Program} {w:World} {T:TypeId} {size bytes:Nat} {z:Value} (ht:TyI P T false size bytes z) {cs:Array Value} {o:Nat} {v:Value} (hv:cs[o]?=some v):(part T cs o).run P w=.ok v w:=by
  simp [part,run_isAgg ht,hv]
theorem keyLaw_pair {P:Program} {T:TypeId} {f0 f1:Field} {k:IntKind} {bytes:Nat} {z:Value} {K:Type} [BEq K] [LawfulBEq K] {ek:K→Value} (pa pb:K→Int) (hT:P.underlying T=some (.struct #[f0,f1])) (h0:P.underlying f0.type=some (.int k)) (h1:P.underlying f1.type=some (.int k))
    (t0:TyI P f0.type false 1 bytes z) (t1:TyI P f1.type false 1 bytes z) (o0:f0.offset=0) (o1:f1.offset=1) (hn0:f0.name≠ "_") (hn1:f1.name≠ "_") (hst:P.stoodInHeld T=false)
    (he:∀x,ek x=.agg #[.int k (pa x),.int k (pb x)]) (hb:∀x y,(x == y)=(pa x == pa y && pb x == pb y)):KeyLaw P T ek where
  check b x w:=by
    rw [he]
    have c0:∀n (a:Int) w,(Instr.checkKey b (n+1) f0.type (.int k a)).run P w=.ok () w:=fun n a w=>MapKept.run_checkKey h0 (k:=.int k a) rfl b n
    have c1:∀n (a:Int) w,(Instr.checkKey b (n+1) f1.type (.int k a)).run P w=.ok () w:=fun n a w=>MapKept.run_checkKey h1 (k:=.int k a) rfl b n
    have p0:∀w,(part f0.type #[.int k (pa x),.int k (pb x)] 0).run P w=.ok (.int k (pa x)) w:=fun w=>part_one t0 rfl
    have p1:∀w,(part f1.type #[.int k (pa x),.int k (pb x)] 1).run P w=.ok (.int k (pb x)) w:=fun w=>part_one t1 rfl
    have key:∀n,(Instr.checkKey b (n+1+1) T (.agg #[.int k (pa x),.int k (pb x)])).run P w=.ok () w:=fun n=>by
      rw [Instr.checkKey]
      simp only [Sem.run_bind,run_underlying hT,Result.andThen_ok]
      simp [o0,o1,hn0,hn1,p0,p1,c0 n,c1 n]
    exact key 9998
  find x es ks w h:=by
    have hq:∀y w,(Op.equal T (ek x) (ek y)).run P w=.ok (x == y) w:=fun y w=>by
      have p0:∀x w,(part f0.type #[.int k (pa x),.int k (pb x)] 0).run P w=.ok (.int k (pa x)) w:=fun x w=>part_one t0 rfl
      have p1:∀x w,(part f1.type #[.int k (pa x),.int k (pb x)] 1).run P w=.ok (.int k (pb x)) w:=fun x w=>part_one t1 rfl
      have hp:∀w,(program).run P w=.ok P w:=fun w=>rfl
      rw [he,he,hb]
      have key:∀n,(Op.equalIn (n+1+1) T (.agg #[.int k (pa x),.int k (pb x)]) (.agg #[.int k (pa y),.int k (pb y)])).run P w=.ok (pa x == pa y && pb x == pb y) w:=fun n=>by
        rw [Op.equalIn]
        simp only [Sem.run_bind,run_underlying hT,Result.andThen_ok,hp,hst]
        have e0:=fun a b w=>run_equalIn_int (P:=P) (w:=w) n h0 a b
        have e1:=fun a b w=>run_equalIn_int (P:=P) (w:=w) n h1 a b
        cases hA:pa x == pa y <;> cases hB:pb x == pb y <;> simp [o0,o1,hn0,hn1,p0,p1,e0,e1,hA,hB] <;> simp_all
      exact key 9998
    have hnow:Instr.findNow (.struct #[f0,f1]) (ek x) es 0=none∨es=[]:=by
      match es,ks,h with
      | [],_,_=>exact .inr rfl
      | e::es,[],h=>simp at h
      | e::es,y::ks,h=>
        simp only [List.map_cons,List.cons.injEq] at h
        refine .inl ?_
        rw [he]
        simp [Instr.findNow,Instr.sameNow]
    have hask:∀(es:List MapEntry) (ks:List K) (i:Nat),es.map (·.key)=ks.map ek→(Instr.findAsking T (ek x) es i).run P w=.ok ((ks.findIdx? (· == x)).bind fun j=>(es[j]?).map fun e=>(i+j,e.val)) w:=by
      intro es
      induction es with
      | nil=>intro ks i h; cases ks with
        | nil=>rfl
        | cons _ _=>simp at h
      | cons e es ih=>
        intro ks i h
        match ks,h with
        | y::ks,h=>
          simp only [List.map_cons,List.cons.injEq] at h
          rw [Instr.findAsking,h.1]
          simp only [Sem.run_bind,hq,Result.andThen_ok]
          rw [List.findIdx?_cons,BEq.comm (a:=y)]
          cases hx:x == y
          · have:=ih ks (i+1) h.2
            simp only [Bool.false_eq_true,if_false,this]
            cases hj:ks.findIdx? (· == x) with
            | none=>simp
            | some j=>simp [Nat.add_assoc,Nat.add_comm 1 j]
          · simp
    have hf:=hask es ks 0 h
    simp only [Nat.zero_add] at hf
    simp only [Instr.findKey,Sem.run_bind,run_underlying hT,Result.andThen_ok]
    rcases hnow with hnow|rfl
    · rw [hnow]; exact hf
    · cases ks with
      | nil=>rfl
      | cons _ _=>simp at h
  stays x:=by
    rw [he]
    simp [Instr.sameBits]
  lawful:=inferInstance
  inj x y h:=by
    rw [he,he] at h
    have h2:=(Array.mk.inj (Value.agg.inj h))
    simp only [List.cons.injEq,Value.int.injEq,true_and,and_true] at h2
    exact eq_of_beq (by rw [hb,h2.1,h2.2]; simp)
end Go.Lx
namespace Go.Lx
open Go.RowKit
inductive Rt (α:Type) where
  | ret (a:α)
  | pan (x:Int)
def Rt.on {α β:Type} (x:Rt α) (k:α→β) (p:Int→β):β:=match x with
  | .ret a=>k a
  | .pan x=>p x
def pent (v:Value):List PanicEntry:=[{ v:=v,recovered:=false }]
def CallsN (P:Program) (f:FuncId) (args:Array Value) (w:World) (v:Value) (R:World→Prop):Prop:=
  Calls P f args w fun e w'=>e=.panicked (pent v)∧R w'
def FX (P:Program) (fn:Func) (n:Fr) {α:Type} (T:TypeId) (o:Rt α) (R:α→Value→World→Prop) (R':World→Prop):EPost:=fun e E w=>match e,o with
  | .normal,.ret a=>FL P fn n E (R a) E.ds w
  | .ret,.ret a=>FL P fn n E (R a) E.ds w
  | .panic ch,.pan x=>ch=pent (.iface T (.int .i64 x))∧E.ds=[]∧R' w
  | _,_=>False
def CallsX (P:Program) (f:FuncId) (args:Array Value) (w:World) {α:Type} (T:TypeId) (o:Rt α) (R:α→Value→World→Prop) (R':World→Prop):Prop:=match o with
  | .ret a=>CallsV P f args w (R a)
  | .pan x=>CallsN P f args w (.iface T (.int .i64 x)) R'
instance {P:Program} {fn:Func} {n:Fr} {α:Type} {T:TypeId} {o:Rt α} {R:α→Value→World→Prop} {R':World→Prop}:PanOk (FX P fn n T o R R'):=⟨fun c E E' w hd q=>by
  cases o with
  | ret a=>exact q
  | pan x=>exact ⟨q.1,hd ▸ q.2.1,q.2.2⟩⟩
section
variable {P:Program} {n:Fr} {Q:EPost} {E:Env} {w:World} {α:Type}
theorem calls_of_WPX {f:FuncId} {fn:Func} {c:Code} {m:Nat} {args:List Value} {T:TypeId} {o:Rt α} {R:α→Value→World→Prop} {R':World→Prop} (hf:P.funcs[f]?=some fn) (hb:fn.body=some c) (hn:fn.ntmps=m) (hl:Nat.ble args.length m=true)
    (h:WP P ⟨m,none⟩ c (FX P fn ⟨m,none⟩ T o R R') (argEnv args) w):CallsX P f args.toArray w T o R R':=by
  subst hn
  have key:=h _ (fits_args args _ (Nat.le_of_ble_eq_true hl))
  cases o with
  | ret a=>
    refine callsIn_wide (n:=0) |>.1 (callsIn_of_wp_marks (F:=Fz ⟨fn.ntmps,none⟩) hf hb trivial ?_)
    refine wpIn_mono key ?_
    rintro e a' w ⟨E,hfit,q⟩
    cases e <;> first
      | exact q.elim
      | (show LeavesInM _ _ _ _ _ _ a'.defers _ _; rw [hfit.defers]; exact fl_leaves hfit E.ds w q)
  | pan x=>
    refine callsIn_wide (n:=0) |>.1 (callsIn_of_wp_marks (F:=Fz ⟨fn.ntmps,none⟩) hf hb trivial ?_)
    refine wpIn_mono key ?_
    rintro e a' w ⟨E,hfit,q⟩
    cases e <;> first
      | exact q.elim
      | (show LeavesInM _ _ _ _ _ _ a'.defers _ _; rw [hfit.defers,q.2.1,q.1]; exact ⟨rfl,q.2.2⟩)
section
variable {ops:Array Oper} {rest:List Oper} {ty:TypeId} {ps:String} {af:Array Edge}
theorem OW_panic {x:Operand} {T:TypeId} {v:Value} {dd:Option Tmp} (hx:ev E x=.iface T v) (h:Q (.panic (pent (.iface T v))) E w):OW P n ops Q (⟨dd,.panic x,ty,ps,af,none⟩::rest) E w:=by
  intro a ha
  refine wpListIn_plain rfl fun K hK=>⟨fun _ _=>trivial,?_⟩
  rw [Oper.semAt_eq _ _ _ (by simp),ha.eval]
  simp only [execOp,hx]
  exact ⟨E,ha,h⟩
theorem opIn_panic {o:Oper} {f:FuncId} {args:Array Value} {v:Value} {R:World→Prop} {a:Act} {K:Act→World→Prop} (ha:Fits n E a)
    (hr:(execOp (ev E) o).run P w=.ok (.enter f args) w) (hc:CallsN P f args w v R) (k:∀w',R w'→Q (.panic (pent v)) E w'):o.wpIn (Fz n) 0 P a w K (lift n Q):=by
  refine opIn_enter ha hr (hc.mono fun e w' ⟨he,hR⟩=>?_)
  subst he
  exact ⟨E,ha,k w' hR⟩
theorem CN {f:FuncId} {xs:Array Operand} {ats:Array TypeId} {dd:Option Tmp} (args:List Value) {v:Value} {R:World→Prop} (hf:CF P f) (ha:xs.toList.map (ev E)=args) (hc:CallsN P f args.toArray w v R)
    (k:∀w',R w'→Q (.panic (pent v)) E w'):OW P n ops Q (⟨dd,.call { callee:=.value (.func f),args:=xs,argTypes:=ats },ty,ps,af,none⟩::rest) E w:=by
  obtain ⟨fn,h1,h2,h3⟩:=hf
  exact fun a hfit=>wpListIn_plain rfl fun K hK=>opIn_panic hfit (r_call h1 h2 h3 ha) hc k
end
end
theorem rtS {α β:Type} {o:Option (Rt α)} {k:α→Option β} {kp:Int→Option β} {r:β} (h:(o.bind fun x=>x.on k kp)=some r) :
    (∃a,o=some (.ret a)∧k a=some r)∨(∃x,o=some (.pan x)∧kp x=some r):=by
  obtain ⟨x,h1,h2⟩:=bindS h
  cases x with
  | ret a=>exact .inl ⟨a,h1,h2⟩
  | pan x=>exact .inr ⟨x,h1,h2⟩
theorem ext_of_below {g:Hp} {w w':World} (hi:Imm g w) (hb:Below w.heap.size w w'):Ext g w g w':=
  ⟨hb,fun _ _=>rfl,fun b o h=>by rw [hb.block b (hi.lt h)]; exact hi b o h⟩
theorem Sep.selT {g0 g:Hp} {w0 w:World} {A A' L:List Res} (h:Sep g0 w0 g w (A++L)) (is:List Nat) (hn:is.Nodup) (hl:A'.map some=is.map (A[·]?)):Sep g0 w0 g w (A'++L):=by
  have hlt:∀i∈is,i<A.length:=by
    intro i hi
    have:A[i]?∈A'.map some:=by rw [hl]; exact List.mem_map_of_mem hi
    obtain ⟨r,_,hr⟩:=List.mem_map.1 this
    exact (List.getElem?_eq_some_iff.1 hr.symm).1
  refine h.sel (is++(List.range L.length).map (A.length+·)) ?_ ?_
  · rw [List.nodup_append]
    refine ⟨hn,?_,fun a ha b hb=>?_⟩
    · exact List.pairwise_map.2 (List.nodup_range.imp fun {a b} hab he=>hab (by omega))
    · obtain ⟨c,_,rfl⟩:=List.mem_map.1 hb
      have:=hlt a ha; omega
  · rw [List.map_append,List.map_append]
    congr 1
    · rw [hl]
      refine List.map_congr_left fun i hi=>?_
      rw [List.getElem?_append_left (hlt i hi)]
    · rw [List.map_map]
      apply List.ext_getElem?
      intro i
      by_cases hi:i<L.length
      · simp [hi]
      · simp [hi]
section
variable {P:Program} {E:Env} {w:World} {d:Option Tmp} {ty:TypeId} {ps:String} {af:Array Edge} {gd:Option (Nat×Bool)}
theorem r_nilCheck {x:Operand} {b o:Nat} (hx:ev E x=.pointer (some ⟨b,o,none⟩)):Runs P E ⟨d,.nilCheck x,ty,ps,af,gd⟩ w (.pointer (some ⟨b,o,none⟩)) w:=.inl (by simp [execOp,hx])
theorem r_makeIface {T:TypeId} {x:Operand} {v:Value} (hT:P.concrete T=true) (hx:ev E x=v):Runs P E ⟨d,.makeInterface T x,ty,ps,af,gd⟩ w (.iface T v) w:=.inl (by
  subst hx; simp [execOp,run_makeInterface w T _ hT])
def subL {α:Type} (l:List α) (i j:Int):Option (List α):=if 0≤i∧i≤j∧j≤l.length then some ((l.take j.toNat).drop i.toNat) else none
theorem subL_some {α:Type} {l m:List α} {i j:Int} (h:subL l i j=some m):0≤i∧i≤j∧j≤l.length∧m=(l.take j.toNat).drop i.toNat:=by
  unfold subL at h
  split at h
  · rename_i hc; simp only [Option.some.injEq] at h; exact ⟨hc.1,hc.2.1,hc.2.2,h.symm⟩
  · cases h
theorem size_toArray (a:Str):(ByteArray.mk a.toArray).size=a.length:=by simp [ByteArray.size]
theorem run_sizeOf_eq {T:TypeId} {agg:Bool} {size bytes:Nat} {z:Value} (h:TyI P T agg size bytes z):(sizeOf T).run P w=.ok size w:=run_sizeOf h
theorem slice_run {T el:TypeId} {agg:Bool} {size bytes:Nat} {z:Value} (hT:P.underlying T=some (.slice el)) (he:TyI P el agg size bytes z) {a:Option Addr} {n cap:Nat} {lo hi:Option Value} {i j:Int}
    (hlo:(lo=none∧i=0)∨∃k,lo=some (.int k i)) (hhi:(hi=none∧j=n)∨∃k,hi=some (.int k j)) (h0:0≤i) (h1:i≤j) (h2:j≤n) (hc:n≤cap) :
    (Instr.sliceAt T (.slice a n cap) lo hi none).run P w=.ok (sliced a i.toNat j.toNat cap size) w:=by
  have hE:P.elem T=el:=by simp [Program.elem,hT]
  have hT':P.underlying T=some (.slice (P.elem T)):=by rw [hE]; exact hT
  have he':TyI P (P.elem T) agg size bytes z:=by rw [hE]; exact he
  rw [run_sliceAt_slice _ _ _ _ _ _ hT']
  rcases hlo with ⟨rfl,rfl⟩|⟨k,rfl⟩ <;> rcases hhi with ⟨rfl,rfl⟩|⟨k',rfl⟩
  · rw [run_slice_all w T a n cap hT',run_sizeOf_eq he']; simp [Result.andThen]
  · rw [run_slice_h w T a n cap hT' k' j (by omega) (by omega),run_sizeOf_eq he']; simp [Result.andThen]
  · rw [run_slice_l w T a n cap hT' k i h0 (by omega),run_sizeOf_eq he']; simp [Result.andThen]
  · rw [run_slice_lh w T a n cap hT' k k' i j h0 h1 (by omega),run_sizeOf_eq he']; simp [Result.andThen]
end
def Bnd (E:Env) (lo:Option Operand) (i dflt:Int):Prop:=(lo=none∧i=dflt)∨∃k y,lo=some y∧ev E y=.int k i
theorem Bnd.none {E:Env} {i:Int}:Bnd E none i i:=.inl ⟨rfl,rfl⟩
theorem Bnd.some {E:Env} {y:Operand} {i dflt:Int} {k:IntKind} (h:ev E y=.int k i):Bnd E (some y) i dflt:=.inr ⟨k,y,rfl,h⟩
theorem Bnd.val {E:Env} {lo:Option Operand} {i dflt:Int} (h:Bnd E lo i dflt):(lo.map (ev E)=.none∧i=dflt)∨∃k,lo.map (ev E)=.some (.int k i):=by
  rcases h with ⟨rfl,rfl⟩|⟨k,y,rfl,h⟩
  · exact .inl ⟨rfl,rfl⟩
  · exact .inr ⟨k,by rw [Option.map_some,h]⟩
theorem RowRel.sub {α:Type} {τ:Ty α} {g:Hp} {xs:List Value} {l:List α} (h:RowRel τ g xs l) (i j:Nat) (hj:j≤l.length):RowRel τ g ((xs.take (j*τ.sz)).drop (i*τ.sz)) ((l.take j).drop i):=by
  refine ⟨?_,fun q x hx=>?_⟩
  · have h1:j*τ.sz≤xs.length:=by rw [h.1]; exact Nat.mul_le_mul_right _ hj
    rw [List.length_drop,List.length_drop,List.length_take,List.length_take,Nat.min_eq_left h1,Nat.min_eq_left hj,Nat.sub_mul]
  · rw [List.getElem?_drop,List.getElem?_take] at hx
    split at hx
    · rename_i hlt
      have:=h.2 _ _ hx
      have e:((((xs.take (j*τ.sz)).drop (i*τ.sz)).drop (q*τ.sz)).take τ.sz)=(xs.drop ((i+q)*τ.sz)).take τ.sz:=by
        apply List.ext_getElem?
        intro p
        simp only [List.getElem?_take,List.getElem?_drop]
        split
        · rename_i hp
          have h2:(i+q+1)*τ.sz≤j*τ.sz:=Nat.mul_le_mul_right _ hlt
          rw [Nat.succ_mul] at h2
          have h3:(i+q)*τ.sz=i*τ.sz+q*τ.sz:=Nat.add_mul _ _ _
          rw [if_pos (by omega)]
          congr 1
          omega
        · rfl
      rw [e]; exact this
    · cases hx
theorem sub_len {α:Type} {l m:List α} {i j:Int} (h:subL l i j=some m):m.length=j.toNat - i.toNat:=by
  obtain ⟨h0,h1,h2,rfl⟩:=subL_some h
  rw [List.length_drop,List.length_take]
  omega
section
variable {P:Program} {E:Env} {w:World} {d:Option Tmp} {ty:TypeId} {ps:String} {af:Array Edge} {gd:Option (Nat×Bool)}
theorem RdS.slice {α:Type} {τ:Ty α} {g:Hp} {v:Value} {l m:List α} (h:RdS τ g v l) {i j:Int} (hs:subL l i j=some m) :
    ∃v',RdS τ g v' m∧∀ {P:Program} {E:Env} {w:World} {d:Option Tmp} {ty:TypeId} {ps:String} {af:Array Edge} {gd:Option (Nat×Bool)} {T el:TypeId} {agg:Bool} {bytes:Nat} {z:Value} {x:Operand} {lo hi:Option Operand},
      P.underlying T=some (.slice el)→TyI P el agg τ.sz bytes z→ev E x=v→Bnd E lo i 0→Bnd E hi j l.length→Runs P E ⟨d,.slice T x lo hi none,ty,ps,af,gd⟩ w v' w:=by
  obtain ⟨h0,h1,h2,hm⟩:=subL_some hs
  have hml:=sub_len hs
  obtain ⟨xs,hr,hsl⟩:=h
  have run:∀(a:Option Addr) (cap:Nat),v=.slice a l.length cap→l.length≤cap→∀ {P:Program} {E:Env} {w:World} {d:Option Tmp} {ty:TypeId} {ps:String} {af:Array Edge} {gd:Option (Nat×Bool)} {T el:TypeId} {agg:Bool} {bytes:Nat} {z:Value} {x:Operand} {lo hi:Option Operand},
      P.underlying T=some (.slice el)→TyI P el agg τ.sz bytes z→ev E x=v→Bnd E lo i 0→Bnd E hi j l.length→Runs P E ⟨d,.slice T x lo hi none,ty,ps,af,gd⟩ w (sliced a i.toNat j.toNat cap τ.sz) w:=by
    intro a cap hv hc P E w d ty ps af gd T el agg bytes z x lo hi hT he hx hlo hhi
    exact ⟨by simp only [execOp,Option.map_none,hx,hv,Sem.run_bind,slice_run hT he hlo.val hhi.val h0 h1 h2 hc,Result.andThen_ok,Sem.run_pure]⟩
  rcases hsl with ⟨hn,hxs,a,cap,hv,ha⟩|⟨b,off,cap,arr,e,fz,hv,hnc,hg,hcells⟩
  · refine ⟨_,⟨(xs.take (j.toNat*τ.sz)).drop (i.toNat*τ.sz),hm ▸ hr.sub _ _ (by omega),.inl ⟨by omega,by rw [hxs]; simp,(if cap=i.toNat then a else a.map (·.add (i.toNat*τ.sz))),cap - i.toNat,?_,?_⟩⟩,run a cap (by rw [hv,hn]) (by omega)⟩
    · simp only [sliced]; congr 1; omega
    · intro h
      have:a=none:=by
        split at h
        · exact h
        · simpa using h
      have:=ha this; omega
  · by_cases hij:j.toNat - i.toNat=0
    · refine ⟨_,⟨(xs.take (j.toNat*τ.sz)).drop (i.toNat*τ.sz),hm ▸ hr.sub _ _ (by omega),.inl ⟨by omega,?_,(if cap=i.toNat then some ⟨b,off,none⟩ else (some (⟨b,off,none⟩:Addr)).map (·.add (i.toNat*τ.sz))),cap - i.toNat,?_,?_⟩⟩,run _ cap hv hnc⟩
      · apply List.eq_nil_of_length_eq_zero
        rw [List.length_drop,List.length_take]
        have:j.toNat=i.toNat:=by omega
        rw [this]; omega
      · simp only [sliced]; congr 1
      · intro h; split at h <;> simp at h
    · refine ⟨_,⟨(xs.take (j.toNat*τ.sz)).drop (i.toNat*τ.sz),hm ▸ hr.sub _ _ (by omega),.inr ⟨b,off+i.toNat*τ.sz,cap - i.toNat,arr,e,fz,?_,by omega,hg,fun q u hu=>?_⟩⟩,run _ cap hv hnc⟩
      · simp only [sliced]; rw [if_neg (by omega),hml]; simp [Addr.add]
      · rw [List.getElem?_drop,List.getElem?_take] at hu
        split at hu
        · have:=hcells _ _ hu
          rw [Nat.add_assoc]; exact this
        · cases hu
theorem Sep.rowCut {α:Type} {τ:Ty α} {g0 g:Hp} {w0 w:World} {L:List Res} (h:Sep g0 w0 g w L) {i:Nat} {v:Value} {e:TypeId} {xs:List Value} {l m:List α} (hi:L[i]?=some (.row v e τ.sz l.length xs)) (hr:RowRel τ g xs l) {j:Int} (hs:subL l 0 j=some m) :
    ∃v' xs',RowRel τ g xs' m∧Sep g0 w0 g w (L.set i (.row v' e τ.sz m.length xs'))∧∀ {P:Program} {E:Env} {d:Option Tmp} {ty:TypeId} {ps:String} {af:Array Edge} {gd:Option (Nat×Bool)} {T el:TypeId} {agg:Bool} {bytes:Nat} {z:Value} {x:Operand} {lo hi:Option Operand},
      P.underlying T=some (.slice el)→TyI P el agg τ.sz bytes z→ev E x=v→Bnd E lo 0 0→Bnd E hi j l.length→Runs P E ⟨d,.slice T x lo hi none,ty,ps,af,gd⟩ w v' w:=by
  obtain ⟨_,h1,h2,hm⟩:=subL_some hs
  have hml:=sub_len hs
  have hrow:=(h.at hi).out
  have hxl:xs.length=l.length*τ.sz:=hr.1
  have key:∀(a:Option Addr) (cap:Nat),v=.slice a l.length cap→l.length≤cap→∀ {P:Program} {E:Env} {d:Option Tmp} {ty:TypeId} {ps:String} {af:Array Edge} {gd:Option (Nat×Bool)} {T el:TypeId} {agg:Bool} {bytes:Nat} {z:Value} {x:Operand} {lo hi:Option Operand},
      P.underlying T=some (.slice el)→TyI P el agg τ.sz bytes z→ev E x=v→Bnd E lo 0 0→Bnd E hi j l.length→Runs P E ⟨d,.slice T x lo hi none,ty,ps,af,gd⟩ w (.slice a m.length cap) w:=by
    intro a cap hv hc P E d ty ps af gd T el agg bytes z x lo hi hT he hx hlo hhi
    have e:sliced a (0:Int).toNat j.toNat cap τ.sz=.slice a m.length cap:=by
      simp only [sliced,hml]
      congr 1
      split
      · rfl
      · cases a <;> simp [Addr.add]
    exact ⟨by simp only [execOp,Option.map_none,hx,hv,Sem.run_bind,slice_run hT he hlo.val hhi.val (Int.le_refl 0) h1 h2 hc,Result.andThen_ok,Sem.run_pure,e]⟩
  have hrel:RowRel τ g (xs.take (m.length*τ.sz)) m:=by
    have:=hr.sub 0 j.toNat (by omega)
    rw [hml]
    subst hm
    simpa using this
  rcases hrow.2 with ⟨hv,hn⟩|⟨b,cap,cur,hv,hb0,hb,hnc,hcm,hcs,ht⟩
  · refine ⟨.slice none m.length 0,_,hrel,h.upd hi (w':=w) ⟨rfl,rfl,rfl,Nat.le_refl _,fun _ _ _=>rfl⟩ ⟨⟨hrel.1,.inl ⟨?_,?_⟩⟩⟩ (fun b hb=>by simp [Res.blk,Value.ownBlock] at hb),key none 0 (by rw [hv,hn]) (by omega)⟩
    · congr 1; omega
    · omega
  · refine ⟨.slice (some ⟨b,0,none⟩) m.length cap,_,hrel,h.upd hi (w':=w) ⟨rfl,rfl,rfl,Nat.le_refl _,fun _ _ _=>rfl⟩ ⟨⟨hrel.1,.inr ⟨b,cap,cur,rfl,hb0,hb,by omega,hcm,hcs,?_⟩⟩⟩ (fun b' hb'=>.inl (by rw [hv]; exact hb')),key _ cap hv hnc⟩
    rw [←ht,List.take_take]
    congr 1
    exact (Nat.min_eq_left (Nat.mul_le_mul_right _ (by omega))).symm
end
theorem sarrEl {l:List Str} {q:Int} {x:Str} {w:World} {b:Nat} (hc:∀j u,(l.map encS)[j]?=some u→w.cell? ⟨b,0+j,none⟩=some u) (h:idxL l q=some x) :
    ∀j u,[encS x][j]?=some u→w.cell? ⟨b,0+q.toNat*1+j,none⟩=some u:=by
  intro j u hj
  cases j with
  | zero=>
    simp at hj; subst hj
    obtain ⟨h0,h1,h2⟩:=idxL_some h
    have:=hc q.toNat (encS x) (by rw [List.getElem?_map,h2]; rfl)
    simpa using this
  | succ j=>simp at hj
theorem r_sliceArr {P:Program} {E:Env} {w:World} {d:Option Tmp} {ty:TypeId} {ps:String} {af:Array Edge} {gd:Option (Nat×Bool)} {T el:TypeId} {x:Operand} {b len:Nat} {agg:Bool} {size bytes:Nat} {z:Value} (hT:P.underlying T=some (.array len el)) (he:TyI P el agg size bytes z) (hx:ev E x=.pointer (some ⟨b,0,none⟩)) :
    Runs P E ⟨d,.slice T x none none none,ty,ps,af,gd⟩ w (.slice (some ⟨b,0,none⟩) len len) w:=.inl (by
  simp [execOp,Instr.sliceAt,hx,run_underlying hT,Instr.sliceBounds,Instr.sureAddr,run_sizeOf he,Addr.add])
section
variable {P:Program} {n:Fr} {Q:EPost} {E:Env} {w:World} {ops:Array Oper} {rest:List Oper} {d:Option Tmp} {ty:TypeId} {ps:String} {af:Array Edge} {g0 g:Hp} {w0:World} {L:List Res}
end
section
variable {P:Program} {E:Env} {w:World} {d:Option Tmp} {ty:TypeId} {ps:String} {af:Array Edge} {gd:Option (Nat×Bool)} {ts:Array TypeId} {x y z:Operand} {k k' k'':IntKind} {a b c:Int}
end
theorem sub_at {cs pre ds post:List Value} {o j:Nat} {u:Value} (hl:pre.length=o) (e:cs=pre++(ds++post)) (hj:ds[j]?=some u):cs[o+j]?=some u:=by
  subst e; subst hl
  have hjl:j<ds.length:=(List.getElem?_eq_some_iff.1 hj).1
  rw [List.getElem?_append_right (by omega),Nat.add_sub_cancel_left,List.getElem?_append_left hjl]
  exact hj
theorem Sep.lentOwn {g0 g:Hp} {w0 w:World} {L L':List Res} (h:Sep g0 w0 g w L) {g1 g1':Hp} {w':World} (he:Sep g1 w g1' w' L'):∃g',Hle g g'∧Sep g0 w0 g' w' (L'++L):=by
  have hx:Ext g w (fun k=>if k<w.heap.size then g k else g1' k) w':=by
    refine ⟨he.ext.below,fun b hb=>if_pos hb,fun b o hb=>?_⟩
    split at hb
    · rename_i hlt
      have:=h.imm b o hb
      rw [he.ext.below.block b hlt]; exact this
    · exact he.imm b o hb
  refine ⟨_,hx.le h.imm,h.callOwn (L':=L') ⟨hx,he.ok,fun r hr b hb=>?_,he.apart⟩⟩
  have:=he.fresh r hr b hb
  refine ⟨this.1,?_⟩
  show (if b<w.heap.size then g b else g1' b)=none
  rw [if_neg (by omega)]; exact this.2
theorem RowRel.flat {α:Type} {τ:Ty α} (hτ:∀g g' cs x,τ.rel g cs x→τ.rel g' cs x) {g g':Hp} {xs:List Value} {l:List α} (h:RowRel τ g xs l):RowRel τ g' xs l:=⟨h.1,fun i x hx=>hτ _ _ _ _ (h.2 i x hx)⟩
def GBox (b:Nat) (cs:List Value) (g:Hp):Prop:=∃(arr:Array Value) (T:TypeId) (fz:Nat×Nat),g b=some (.cells arr T fz)∧∀(j:Nat) (u:Value),cs[j]?=some u→arr[j]?=some u
theorem GBox.mono {b:Nat} {cs:List Value} {g g':Hp} (h:GBox b cs g) (hg:Hle g g'):GBox b cs g':=let ⟨arr,T,fz,h1,h2⟩:=h; ⟨arr,T,fz,hg _ _ h1,h2⟩
theorem GBox.cells {b:Nat} {cs:List Value} {g:Hp} {w:World} (h:GBox b cs g) (hi:Imm g w):∀j u,cs[j]?=some u→w.cell? ⟨b,0+j,none⟩=some u:=fun j u hj=>by
  obtain ⟨arr,T,fz,h1,h2⟩:=h
  have:=hi b _ h1
  simp [World.cell?,this,h2 j u hj]
theorem GBox.strs {b:Nat} {l:List Str} {g:Hp} (h:GBox b (l.map encS) g):RdS tStr g (.slice (some ⟨b,0,none⟩) l.length l.length) l:=by
  obtain ⟨arr,T,fz,h1,h2⟩:=h
  refine ⟨l.map encS,⟨by simp [tStr],fun i x hx=>?_⟩,.inr ⟨b,0,l.length,arr,T,fz,rfl,Nat.le_refl _,h1,fun j u hj=>by rw [Nat.zero_add]; exact h2 j u hj⟩⟩
  show (List.drop (i*1) _).take 1=[encS x]
  obtain ⟨hl,rfl⟩:=List.getElem?_eq_some_iff.1 hx
  rw [Nat.mul_one,List.drop_eq_getElem_cons (by simpa using hl)]
  simp
end Go.Lx
namespace Go.Lx
open Go.RowKit Go.Lib
theorem gbox_of_strs {P:Program} {W:World} {n:String} {d:DataW Unit} (h:VarReads P W n d) {b t e:Nat} {l:List Str} {m:Nat} (hb:P.globalNamed n=some b) (ht:(P.globals[b]?).map (·.type)=some t)
    (hT:P.underlying t=some (.array m e)) (hE:P.underlying e=some .string) (hce:P.cellsOf e=1) (hct:P.cellsOf t=m) (hl:l.length=m) (hd:d=.agg (l.map fun s=>.lit (.string s))) (hm:0<m:=by decide):GBox b (l.map encS) (allHp W):=by
  obtain ⟨b',t',cs,fuel,p,h1,h2,h3,h4⟩:=h
  obtain rfl:b'=b:=Option.some.inj (h1.symm.trans hb)
  obtain rfl:t'=t:=Option.some.inj (h2.symm.trans ht)
  subst hd
  obtain ⟨xs,mm,_,hx,hcl,hlen,hel⟩:=DataW.trod_array hT h4
  have hcs:cs.toList=l.map encS:=by
    refine List.ext_getElem (by rw [hcl,hct,List.length_map]; exact hl.symm) fun i hi _=>?_
    have him:i<m:=by rw [hcl,hct] at hi; exact hi
    have h5:=hel i him
    rw [List.getElem?_eq_getElem (by omega),hce] at h5
    obtain ⟨s,hs,hs2,_⟩:=DataW.trod_string hE h5
    have hx2:(DataW.agg (xs.map (·.1)):DataW Unit)=.agg (l.map fun s=>.lit (.string s)):=(congrArg Prod.fst hx).symm
    have hx3:=congrArg (fun d=>match d with|DataW.agg ps=>ps[i]?|_=>none) hx2
    simp only [List.getElem?_map,List.getElem?_eq_getElem (show i<xs.length by omega),List.getElem?_eq_getElem (show i<l.length by omega),Option.map_some,Option.some.injEq] at hx3
    rw [hs2] at hx3
    have h6:=congrArg (fun c=>c[0]?) hs
    simp only [Nat.mul_one,List.getElem?_take,List.getElem?_drop] at h6
    simp at h6
    have h7:cs.toList[i]?=some (Value.string s):=by rw [Array.getElem?_toList]; exact h6
    rw [List.getElem?_eq_getElem hi] at h7
    rw [Option.some.inj h7,List.getElem_map]
    unfold encS
    congr 1
    have:s.data.toList=l[i]:=by simpa using hx3
    rw [←this]
  have hcell:∀(j:Nat) (u:Value),(l.map encS)[j]?=some u→W.cell? ⟨b',j,none⟩=some u:=by
    intro j u hj
    have:=World.var?_cell hb h3 j
    rw [this]
    rw [←hcs] at hj
    simpa using hj
  obtain ⟨x,hx⟩:∃x,(l.map encS)[0]?=some x:=⟨_,List.getElem?_eq_getElem (by rw [List.length_map]; omega)⟩
  have h0:=hcell 0 x hx
  cases ho:W.heap[b']? with
  | none=>simp [World.cell?,ho] at h0
  | some o=>
    cases o with
    | cells arr T fz=>
      refine ⟨arr,T,fz,ho,fun j u hj=>?_⟩
      have:=hcell j u hj
      simpa [World.cell?,ho] using this
    | _=>simp [World.cell?,ho] at h0
end Go.Lx
namespace Go.Lx
open Go.RowKit
def ValCalls (P:Program) (v:Value) (args:List Value) (w:World) (R:Value→World→Prop):Prop:=
  (∃f cap,v=.func (.func f) #[] (List.toArray cap)∧CF P f∧CallsV P f (args++cap).toArray w R)∨
  (∃l fn tmps assign body,v=.func (.yield l) #[] #[]∧(Instr.yield l args.toArray).run P w=.ok (.round l fn tmps assign body) w∧
    RoundIn (Fz ⟨0,none⟩) 0 P l fn tmps assign body w fun e w'=>∃v,e=.returned v∧R v w')
theorem ValCalls.mono {P:Program} {v:Value} {args:List Value} {w:World} {R R':Value→World→Prop} (h:ValCalls P v args w R) (k:∀v w',R v w'→R' v w'):ValCalls P v args w R':=by
  rcases h with ⟨f,cap,h1,h2,h3⟩|⟨l,fn,tmps,assign,body,h1,h2,h3⟩
  · exact .inl ⟨f,cap,h1,h2,h3.mono fun e w' ⟨v,he,hR⟩=>⟨v,he,k v w' hR⟩⟩
  · exact .inr ⟨l,fn,tmps,assign,body,h1,h2,h3.mono fun e w' ⟨v,he,hR⟩=>⟨v,he,k v w' hR⟩⟩
section
variable {P:Program} {n:Fr} {Q:EPost} {E:Env} {w:World} {ops:Array Oper} {rest:List Oper} {ty:TypeId} {ps:String} {af:Array Edge}
end
def RQ (l:Nat) (R:Value→World→Prop):EPost:=fun e _ w=>match e with
  | .normal=>∃r,w.heap[l]?=some (.loop r)∧R (.bool true) (w.putObj l (.loop { r with state:=.ready,pending:=none }))
  | .ret=>∃r,w.heap[l]?=some (.loop r)∧R (.bool false) (w.putObj l (.loop { r with state:=.done,pending:=some .ret }))
  | .exit i=>∃r,w.heap[l]?=some (.loop r)∧R (.bool false) (w.putObj l (.loop { r with state:=.done,pending:=some (.exit i) }))
  | _=>False
instance {l:Nat} {R:Value→World→Prop}:PanOk (RQ l R):=⟨fun _ _ _ _ _ q=>q⟩
section
variable {α σ:Type}
def YieldsTo (P:Program) (g0:Hp) (w0:World) (yv:Value) (A:Hp→Value→α→Prop) (Y:σ→Hp→List Res→Prop) (F:α→σ→Option (Bool×σ)):Prop:=
  ∀ {g w Ls L a x s b s'},Sep g0 w0 g w (Ls++L)→Y s g Ls→A g a x→F x s=some (b,s')→
    ValCalls P yv [a] w fun v w'=>∃g' Ls',v=.bool b∧Hle g g'∧Y s' g' Ls'∧Sep g0 w0 g' w' (Ls'++L)
def IterOk (P:Program) (f:FuncId) (cap:List Value) (A:Hp→Value→α→Prop) (It:∀ {σ:Type},(α→σ→Option (Bool×σ))→σ→Option σ) (gb:Hp):Prop:=
  CF P f∧∀ {σ:Type} {yv:Value} {Y:σ→Hp→List Res→Prop} {F:α→σ→Option (Bool×σ)} {g0 w0 g w Ls L s s'},YieldsTo P g0 w0 yv A Y F→(∀s g g' Ls,Hle g g'→Y s g Ls→Y s g' Ls)→
    Hle gb g→Sep g0 w0 g w (Ls++L)→Y s g Ls→It F s=some s'→CallsV P f (([yv]++cap).toArray) w fun _ w'=>∃g' Ls',Hle g g'∧Y s' g' Ls'∧Sep g0 w0 g' w' (Ls'++L)
theorem IterOk.mono {P:Program} {f:FuncId} {cap:List Value} {A:Hp→Value→α→Prop} {It:∀ {σ:Type},(α→σ→Option (Bool×σ))→σ→Option σ} {gb gb':Hp} (h:IterOk P f cap A It gb) (hg:Hle gb gb'):IterOk P f cap A It gb':=
  ⟨h.1,fun hY hm hb=>h.2 hY hm (hg.trans hb)⟩
end
theorem Sep.swap {g0 g:Hp} {w0 w:World} {A B L:List Res} (h:Sep g0 w0 g w (A++(B++L))):Sep g0 w0 g w (B++(A++L)):=by
  have e:A++(B++L)=(A++B)++L:=by simp
  rw [e] at h
  have:=h.selT (A':=B++A) ((List.range B.length).map (A.length+·)++List.range A.length) ?_ ?_
  · simpa using this
  · rw [List.nodup_append]
    refine ⟨List.pairwise_map.2 (List.nodup_range.imp fun {a b} hab he=>hab (by omega)),List.nodup_range,fun a ha b hb=>?_⟩
    obtain ⟨c,hc,rfl⟩:=List.mem_map.1 ha
    have:=List.mem_range.1 hb; omega
  · rw [List.map_append,List.map_append,List.map_map]
    congr 1
    · apply List.ext_getElem?
      intro i
      by_cases hi:i<B.length
      · simp [hi]
      · simp [hi]
    · apply List.ext_getElem?
      intro i
      by_cases hi:i<A.length
      · simp [hi,List.getElem?_append_left]
      · simp [hi]
section
variable {P:Program} {n:Fr} {Q:EPost} {E:Env} {w:World} {α σ:Type}
def BQ (g0:Hp) (w0:World) (Inv:Hp→List Res→Prop) (g:Hp) (L:List Res):EPost:=fun e _ w=>match e with
  | .normal=>∃g' Ls,Inv g' Ls∧Hle g g'∧Sep g0 w0 g' w (Ls++L)
  | _=>False
instance {g0:Hp} {w0:World} {Inv:Hp→List Res→Prop} {g:Hp} {L:List Res}:PanOk (BQ g0 w0 Inv g L):=⟨fun _ _ _ _ _ q=>q⟩
def AQ (P:Program) (n:Fr) (g0:Hp) (w0:World) (Inv:Hp→List Res→Prop) (body:Code) (g:Hp) (L:List Res):EPost:=fun e E w=>match e with
  | .normal=>∃g' Ls,Sep g0 w0 g' w (Ls++L)∧Hle g g'∧∀w' L',Sep g0 w0 g' w' (Ls++L')→WP P n body (BQ g0 w0 Inv g' L') E w'
  | _=>False
instance {P:Program} {n:Fr} {g0:Hp} {w0:World} {Inv:Hp→List Res→Prop} {body:Code} {g:Hp} {L:List Res}:PanOk (AQ P n g0 w0 Inv body g L):=⟨fun _ _ _ _ _ q=>q⟩
theorem Sep.tail {g0 g:Hp} {w0 w:World} {A L:List Res} (h:Sep g0 w0 g w (A++L)):Sep g0 w0 g w L:=h.sub (List.sublist_append_right A L)
end
end Go.Lx
namespace Go.Lx
section
variable {α:Type}
theorem RowRel.imp {τ τ':Ty α} (hsz:τ.sz=τ'.sz) {g:Hp} (h:∀cs x,τ.rel g cs x→τ'.rel g cs x) {xs:List Value} {l:List α} (hr:RowRel τ g xs l):RowRel τ' g xs l:=
  ⟨by rw [←hsz]; exact hr.1,fun i x hx=>by rw [←hsz]; exact h _ _ (hr.2 i x hx)⟩
theorem RdS.imp {τ τ':Ty α} (hsz:τ.sz=τ'.sz) {g:Hp} (h:∀cs x,τ.rel g cs x→τ'.rel g cs x) {v:Value} {l:List α} (hr:RdS τ g v l):RdS τ' g v l:=
  let ⟨xs,h1,h2⟩:=hr; ⟨xs,h1.imp hsz h,h2⟩
theorem tSl_imp {τ τ':Ty α} (hsz:τ.sz=τ'.sz) {g:Hp} (h:∀cs x,τ.rel g cs x→τ'.rel g cs x) {cs:List Value} {l:List α} (hr:(tSl τ).rel g cs l):(tSl τ').rel g cs l:=
  let ⟨v,h1,h2⟩:=hr; ⟨v,h1,h2.imp hsz h⟩
structure TyFun (α:Type) where
  sz:Nat
  F:Ty α→Ty α
  hsz:∀τ,(F τ).sz=sz
  mono:∀ {τ τ':Ty α} {g:Hp},τ.sz=sz→τ'.sz=sz→(∀cs x,τ.rel g cs x→τ'.rel g cs x)→∀cs x,(F τ).rel g cs x→(F τ').rel g cs x
def TyFun.iter (T:TyFun α):Nat→Ty α
  | 0=>⟨T.sz,fun _ _ _=>False,fun _ h=>h.elim,fun h=>h.elim,fun h=>h.elim⟩
  | n+1=>T.F (T.iter n)
theorem TyFun.iter_sz (T:TyFun α):∀n,(T.iter n).sz=T.sz
  | 0=>rfl
  | n+1=>T.hsz _
theorem TyFun.up (T:TyFun α) {g:Hp}:∀(n:Nat) (cs:List Value) (x:α),(T.iter n).rel g cs x→(T.iter (n+1)).rel g cs x
  | 0,_,_,h=>h.elim
  | n+1,cs,x,h=>T.mono (T.iter_sz n) (T.iter_sz (n+1)) (TyFun.up T n) cs x h
theorem TyFun.le (T:TyFun α) {g:Hp} {n m:Nat} (hnm:n≤m):∀(cs:List Value) (x:α),(T.iter n).rel g cs x→(T.iter m).rel g cs x:=by
  induction hnm with
  | refl=>exact fun _ _ h=>h
  | step _ ih=>exact fun cs x h=>T.up _ cs x (ih cs x h)
theorem TyFun.fix_len (T:TyFun α) {g:Hp} {cs:List Value} {x:α} (h:∃n,(T.iter n).rel g cs x):cs.length=T.sz:=let ⟨n,h⟩:=h; ((T.iter n).len h).trans (T.iter_sz n)
theorem TyFun.fix_one (T:TyFun α) {g:Hp} {cs:List Value} {x:α} (h:∃n,(T.iter n).rel g cs x):∀v∈cs,v.oneCell'=true:=let ⟨n,h⟩:=h; (T.iter n).one h
theorem TyFun.fix_mono (T:TyFun α) {g g':Hp} {cs:List Value} {x:α} (hg:Hle g g') (h:∃n,(T.iter n).rel g cs x):∃n,(T.iter n).rel g' cs x:=let ⟨n,h⟩:=h; ⟨n,(T.iter n).mono hg h⟩
theorem TyFun.supRow (T:TyFun α) {fix:Ty α} (hf:∀g cs x,fix.rel g cs x→∃n,(T.iter n).rel g cs x) (hs:fix.sz=T.sz) {g:Hp} {xs:List Value} {l:List α} (h:RowRel fix g xs l):∃n,RowRel (T.iter n) g xs l:=by
  have key:∀k,∃n,∀i,i<k→∀x,l[i]?=some x→(T.iter n).rel g ((xs.drop (i*T.sz)).take T.sz) x:=by
    intro k
    induction k with
    | zero=>exact ⟨0,fun i hi=>absurd hi (Nat.not_lt_zero _)⟩
    | succ k ih=>
      obtain ⟨n,hn⟩:=ih
      cases hk:l[k]? with
      | none=>
        refine ⟨n,fun i hi x hx=>?_⟩
        by_cases hik:i=k
        · subst hik; rw [hk] at hx; cases hx
        · exact hn i (by omega) x hx
      | some y=>
        have:=h.2 k y hk
        rw [hs] at this
        obtain ⟨m,hm⟩:=hf _ _ _ this
        refine ⟨max n m,fun i hi x hx=>?_⟩
        by_cases hik:i=k
        · subst hik; rw [hk] at hx; cases hx; exact T.le (Nat.le_max_right _ _) _ _ hm
        · exact T.le (Nat.le_max_left _ _) _ _ (hn i (by omega) x hx)
  obtain ⟨n,hn⟩:=key l.length
  refine ⟨n,⟨by rw [T.iter_sz]; rw [←hs]; exact h.1,fun i x hx=>?_⟩⟩
  rw [T.iter_sz]
  exact hn i (List.getElem?_eq_some_iff.1 hx).1 x hx
theorem TyFun.sup (T:TyFun α) {fix:Ty α} (hf:∀g cs x,fix.rel g cs x→∃n,(T.iter n).rel g cs x) (hs:fix.sz=T.sz) {g:Hp} {cs:List Value} {l:List α} (h:(tSl fix).rel g cs l):∃n,(tSl (T.iter n)).rel g cs l:=by
  obtain ⟨v,h1,xs,h2,h3⟩:=h
  obtain ⟨n,hn⟩:=T.supRow hf hs h2
  exact ⟨n,v,h1,xs,hn,h3⟩
theorem TyFun.leSl (T:TyFun α) {g:Hp} {n m:Nat} (hnm:n≤m) {cs:List Value} {l:List α} (h:(tSl (T.iter n)).rel g cs l):(tSl (T.iter m)).rel g cs l:=
  tSl_imp ((T.iter_sz n).trans (T.iter_sz m).symm) (T.le hnm) h
end
end Go.Lx
namespace Go.Lx
open Go.RowKit
def CallsR (P:Program) (f:FuncId) (args:Array Value) (u u':FrameMode) (w:World) (R:World→Prop):Prop:=
  CallsDIn (Fz ⟨0,none⟩) 0 P f args u w fun e u2 w'=>u2=u'∧∃v,e=.returned v∧R w'
def FQ0 (P:Program) (fn:Func) (n:Fr) (R:World→Prop):EPost:=fun e E w=>match e with
  | .normal|.ret=>E.ds=[]∧∃v,ResIs P fn n E w v∧R w
  | _=>False
instance {P:Program} {fn:Func} {n:Fr} {R:World→Prop}:PanOk (FQ0 P fn n R):=⟨fun _ _ _ _ _ q=>q⟩
def recd (v:Value):FrameMode:=.panicking [{ v:=v,recovered:=true }]
section
variable {P:Program} {w:World}
theorem calls_rec {f:FuncId} {fn:Func} {rest:Code} {m id a b:Nat} {args:List Value} {R:World→Prop} {ats:Array TypeId} {ty1 ty2:TypeId} {p1 p2:String} {af1 af2:Array Edge} {u u':FrameMode} {val:Value}
    (hu:(u=.returning∧val=.nilIface∧u'=.returning)∨(u=.panicking (pent val)∧u'=recd val)) (hf:P.funcs[f]?=some fn)
    (hb:fn.body=some (.seq (.region id #[⟨some a,.call { callee:=.builtin .recover,args:=#[],argTypes:=ats },ty1,p1,af1,none⟩,⟨some b,.assign (.tmp a),ty2,p2,af2,none⟩] false) rest))
    (hn:fn.ntmps=m) (hl:Nat.ble args.length m=true) (ha:Nat.blt a m=true) (hbm:Nat.blt b m=true)
    (h:WP P ⟨m,none⟩ rest (FQ0 P fn ⟨m,none⟩ R) (upd (upd (argEnv args) a val) b val) w):CallsR P f args.toArray u u' w R:=by
  subst hn
  refine callsDIn_of_wpSIn hf hb trivial fun c0 cs hc=>?_
  refine wpSIn_seq (wpSIn_region ?_)
  have hfit:=fits_args args ⟨fn.ntmps,none⟩ (Nat.le_of_ble_eq_true hl)
  have hfit1:=hfit.put (d:=some a) ha val
  have hfit2:=hfit1.put (d:=some b) hbm val
  have hasg:∀(t:Tmp),(Act.put ⟨args.toArray++Array.replicate (fn.ntmps - args.toArray.size) undef,[]⟩ (some a) val).eval (.tmp t)=(upd (argEnv args) a val) t:=fun t=>by
    have:=congrFun hfit1.eval (.tmp t)
    exact this
  have hva:(Act.put ⟨args.toArray++Array.replicate (fn.ntmps - args.toArray.size) undef,[]⟩ (some a) val).eval (.tmp a)=val:=by
    rw [hasg]; simp [upd]
  have main:∀cs',(cs'=c0::cs∧c0.mode=u'∨cs'={ c0 with mode:=u' }::cs)→
      rest.wpSIn (Fz ⟨0,none⟩) 0 P (bodyPostS P fn c0 cs fun e u2 w'=>u2=u'∧∃v,e=.returned v∧R w') ((Act.put ⟨args.toArray++Array.replicate (fn.ntmps - args.toArray.size) undef,[]⟩ (some a) val).put (some b) val) cs' w:=by
    intro cs' hcs
    refine wpSIn_of_wpIn rfl ?_
    refine wpIn_mono (h _ hfit2) ?_
    rintro e a' w' ⟨E,f',q⟩
    have hc':∃u2,cs'={ c0 with mode:=u2 }::cs∧u2=u':=by
      rcases hcs with ⟨rfl,hm⟩|rfl
      · exact ⟨u',by rw [←hm],rfl⟩
      · exact ⟨u',rfl,rfl⟩
    cases e <;> first
      | exact q.elim
      | (obtain ⟨u2,hcs',hu2⟩:=hc'; exact ⟨by rw [f'.defers]; exact q.1,u2,hcs',q.2.choose,q.2.choose_spec.1 _ f',hu2,_,rfl,q.2.choose_spec.2⟩)
  show wpOpsSIn _ _ _ _ _ [0,1] _ _ _
  simp only [wpOpsSIn,List.getElem?_toArray,List.getElem?_cons_zero,List.getElem?_cons_succ]
  refine ⟨fun _ _=>trivial,?_⟩
  rw [if_pos (wanted_none rfl)]
  have hrec:∀ρ:Operand→Value,(execOp ρ ⟨some a,.call { callee:=.builtin .recover,args:=#[],argTypes:=ats },ty1,p1,af1,none⟩).run P w=.ok .recover w:=fun ρ=>by
    simp [execOp,resolve,invoke,builtin]
  rw [hrec]
  have step2:∀cs',(cs'=c0::cs∧c0.mode=u'∨cs'={ c0 with mode:=u' }::cs)→wpOpsSIn (Fz ⟨0,none⟩) 0 P #[⟨some a,.call { callee:=.builtin .recover,args:=#[],argTypes:=ats },ty1,p1,af1,none⟩,⟨some b,.assign (.tmp a),ty2,p2,af2,none⟩]
      (Exit.thenS (rest.wpSIn (Fz ⟨0,none⟩) 0 P (bodyPostS P fn c0 cs fun e u2 w'=>u2=u'∧∃v,e=.returned v∧R w')) (bodyPostS P fn c0 cs fun e u2 w'=>u2=u'∧∃v,e=.returned v∧R w')) [1] (Act.put ⟨args.toArray++Array.replicate (fn.ntmps - args.toArray.size) undef,[]⟩ (some a) val) cs' w:=by
    intro cs' hcs
    simp only [wpOpsSIn,List.getElem?_toArray,List.getElem?_cons_zero,List.getElem?_cons_succ]
    refine ⟨fun _ _=>trivial,?_⟩
    rw [if_pos (wanted_none rfl)]
    simp only [execOp,Sem.run_pure,hva]
    exact main cs' hcs
  rcases hu with ⟨rfl,rfl,rfl⟩|⟨rfl,rfl⟩
  · have:recoverD (c0::cs)=none:=by simp [recoverD,hc]
    simp only [this]
    exact step2 _ (.inl ⟨rfl,hc⟩)
  · have:recoverD (c0::cs)=some (val,{ c0 with mode:=recd val }::cs):=by simp [recoverD,hc,pent,recd]
    simp only [this]
    exact step2 _ (.inr rfl)
end
def deferD (f:FuncId) (cap:List Value):Deferred:={ target:=.fn (.func f) (List.toArray cap),args:=#[] }
def LV (P:Program) (fn:Func) (n:Fr) (E:Env) (R:Value→World→Prop):List Deferred→FrameMode→World→Prop
  | [],u,w=>u=.returning∧∃v,ResIs P fn n E w v∧R v w
  | d::ds,u,w=>u≠.run∧∃f cap u' S,d=deferD f cap∧CF P f∧CallsR P f (List.toArray cap) u u' w S∧∀w',S w'→LV P fn n E R ds (settle u') w'
def FV (P:Program) (fn:Func) (n:Fr) (R:Value→World→Prop):EPost:=fun e E w=>match e with
  | .normal|.ret=>LV P fn n E R E.ds .returning w
  | .panic ch=>LV P fn n E R E.ds (.panicking ch) w
  | _=>False
section
variable {P:Program} {n:Fr} {Q:EPost} {E:Env} {w:World} {fn:Func} {R:Value→World→Prop}
theorem lv_leaves {a:Act} (ha:Fits n E a):∀(ds:List Deferred) (u:FrameMode) (w:World),LV P fn n E R ds u w→LeavesInM (Fz n) 0 P fn a.tmps (fun e w'=>∃v,e=.returned v∧R v w') ds u w
  | [],_,_,⟨hu,v,hr,hR⟩=>by subst hu; exact ⟨v,hr a ha,v,rfl,hR⟩
  | _::ds,u,w,⟨hne,f,cap,u',S,hd,hcf,hc,hk⟩=>by
    subst hd
    obtain ⟨fd,h1,h2,h3⟩:=hcf
    have hn':¬ fd.name = "runtime.NumGoroutine":=by simpa using h3
    have hb2:¬ fd.body=none:=by intro h; rw [h] at h2; cases h2
    refine ⟨hne,.inr ⟨fun h=>(by cases h),.func f,List.toArray cap,f,List.toArray cap,rfl,?_,fun _ _=>trivial,?_⟩⟩
    · simp [deferD,invoke,callFunc,h1,hb2,hn']
    · refine CallsDIn.mono (F:=Fz ⟨0,none⟩) hc ?_
      rintro e u2 w' ⟨rfl,v,rfl,hS⟩
      exact lv_leaves ha ds _ w' (hk w' hS)
theorem calls_of_WPV {f:FuncId} {c:Code} {m:Nat} {args:List Value} (hf:P.funcs[f]?=some fn) (hb:fn.body=some c) (hn:fn.ntmps=m) (hl:Nat.ble args.length m=true)
    (h:WP P ⟨m,none⟩ c (FV P fn ⟨m,none⟩ R) (argEnv args) w):CallsV P f args.toArray w R:=by
  subst hn
  refine callsIn_wide (n:=0) |>.1 (callsIn_of_wp_marks (F:=Fz ⟨fn.ntmps,none⟩) hf hb trivial ?_)
  refine wpIn_mono (h _ (fits_args args _ (Nat.le_of_ble_eq_true hl))) ?_
  rintro e a w ⟨E,hfit,q⟩
  cases e <;> first
    | exact q.elim
    | (show LeavesInM _ _ _ _ _ _ a.defers _ _; rw [hfit.defers]; exact lv_leaves hfit E.ds _ w q)
theorem LV_nil {ds:List Deferred} {u:FrameMode} (hd:ds=[]) (hu:u=.returning) (h:∃v,ResIs P fn n E w v∧R v w):LV P fn n E R ds u w:=by subst hd; exact ⟨hu,h⟩
theorem LV_cons {ds ds':List Deferred} {f:FuncId} {cap:List Value} {u u':FrameMode} {S:World→Prop} (hd:ds=deferD f cap::ds') (hne:u≠.run) (hcf:CF P f) (hc:CallsR P f (List.toArray cap) u u' w S) (k:∀w',S w'→LV P fn n E R ds' (settle u') w'):LV P fn n E R ds u w:=by
  subst hd; exact ⟨hne,f,cap,u',S,rfl,hcf,hc,k⟩
theorem OW_defer {ops:Array Oper} {rest:List Oper} {ty:TypeId} {ps:String} {af:Array Edge} {x:Operand} {ats:Array TypeId} {f:FuncId} (cap:List Value) (hro:n.ro=none) (hx:ev E x=.func (.func f) #[] cap.toArray)
    (k:OW P n ops Q rest ⟨E.s,deferD f cap::E.ds⟩ w):OW P n ops Q (⟨none,.defer { callee:=.value x,args:=#[],argTypes:=ats },ty,ps,af,none⟩::rest) E w:=by
  intro a ha
  refine wpListIn_plain rfl fun K hK=>⟨fun _ _=>trivial,?_⟩
  rw [show (Fz n).round=none from hro,Oper.semAt_none,ha.eval]
  have hr:(execOp (ev E) ⟨none,.defer { callee:=.value x,args:=#[],argTypes:=ats },ty,ps,af,none⟩).run P w=.ok (.defer (deferD f cap)) w:=by
    simp [execOp,resolve,Deferred.ofValue,hx,deferD]
  rw [hr]
  exact hK _ _ (k { a with defers:=deferD f cap::a.defers } ⟨by simp [ha.defers],ha.size,ha.get⟩)
end
section
variable {P:Program} {E:Env} {w:World} {d:Option Tmp} {ty:TypeId} {ps:String} {af:Array Edge} {gd:Option (Nat×Bool)}
def isI:TypeDesc→Bool
  | .interface _=>true
  | _=>false
theorem r_typeAssert {xt T:TypeId} {x:Operand} {v:Value} {td:TypeDesc} (hT:P.underlying T=some td) (hni:isI td=false) (hx:ev E x=.iface T v) :
    Runs P E ⟨d,.typeAssert x xt T false,ty,ps,af,gd⟩ w v w:=.inl (by
  simp only [execOp,Instr.typeAssert,hx,Sem.run_bind,run_underlying hT]
  cases td with
  | interface ms=>simp [isI] at hni
  | _=>simp)
theorem eqIn_nilI {T:TypeId} {ms:Array (String×TypeId)} (hT:P.underlying T=some (.interface ms)) (V:TypeId) (v:Value) (n:Nat):(Op.equalIn (n+1) T (.iface V v) .nilIface).run P w=.ok false w:=by
  rw [Op.equalIn]
  simp [run_underlying hT]
theorem eqIn_nilN {T:TypeId} {ms:Array (String×TypeId)} (hT:P.underlying T=some (.interface ms)) (n:Nat):(Op.equalIn (n+1) T .nilIface .nilIface).run P w=.ok true w:=by
  rw [Op.equalIn]
  simp [run_underlying hT]
theorem r_neqNilI {T T':TypeId} {ms:Array (String×TypeId)} {x y:Operand} {V:TypeId} {v:Value} (hT:P.underlying T=some (.interface ms)) (hx:ev E x=.iface V v) (hy:ev E y=.nilIface):Runs P E ⟨d,.binOp .neq T x y T',ty,ps,af,gd⟩ w (.bool true) w:=
  run_binOp_of (by rw [hx,hy]; rfl) (by
    rw [hx,hy]
    have h:(Op.equal T (.iface V v) .nilIface).run P w=.ok false w:=eqIn_nilI hT V v 9999
    simp only [binOp,Sem.run_bind,h,Result.andThen_ok,Sem.run_pure,Bool.not_false])
theorem r_neqNilN {T T':TypeId} {ms:Array (String×TypeId)} {x y:Operand} (hT:P.underlying T=some (.interface ms)) (hx:ev E x=.nilIface) (hyc:y=.const .nilIface):Runs P E ⟨d,.binOp .neq T x y T',ty,ps,af,gd⟩ w (.bool false) w:=by
  subst hyc
  exact run_binOp_of (by rw [hx]; cases x <;> rfl) (by
    rw [hx]
    have h:(Op.equal T .nilIface .nilIface).run P w=.ok true w:=eqIn_nilN hT 9999
    simp only [binOp,ev,Sem.run_bind,h,Result.andThen_ok,Sem.run_pure,Bool.not_true])
end
end Go.Lx
namespace Go.Lx
open Go.RowKit
def EqV (P:Program) (D:Nat) (t:TypeId) (x y:Value) (b:Bool):Prop:=∀w,(Op.equalIn D t x y).run P w=.ok b w
inductive EqFs (P:Program) (D:Nat) (xs ys:List Value):List Field→Bool→Prop where
  | nil:EqFs P D xs ys [] true
  | cons {f:Field} {fs:List Field} {x y:Value} {b c:Bool}:f.name≠ "_"→(∀w,(part f.type xs.toArray f.offset).run P w=.ok x w)→(∀w,(part f.type ys.toArray f.offset).run P w=.ok y w)→
      EqV P D f.type x y b→EqFs P D xs ys fs c→EqFs P D xs ys (f::fs) (b && c)
section
variable {P:Program} {D:Nat} {t:TypeId}
variable {E:Env} {w:World} {d:Option Tmp} {ty:TypeId} {ps:String} {af:Array Edge} {gd:Option (Nat×Bool)} {T T':TypeId} {x y:Operand} {xs ys:List Value} {b:Bool}
end
end Go.Lx
namespace Go.Lx
open Go.RowKit
section
variable {P:Program} {n:Fr} {Q:EPost} {E:Env} {w:World} {α σ ρ:Type}
def BX (g0:Hp) (w0:World) (Inv:σ→Hp→List Res→Prop) (InvX:ρ→Hp→List Res→Prop) (ex:ρ→Code) (r:Step σ ρ) (g:Hp) (L:List Res):EPost:=fun e _ w=>match e with
  | .normal=>∃s,r=.next s∧∃g' Ls,Inv s g' Ls∧Hle g g'∧Sep g0 w0 g' w (Ls++L)
  | .ret=>∃q,r=.stop q∧ex q=.ret∧∃g' Ls,InvX q g' Ls∧Hle g g'∧Sep g0 w0 g' w (Ls++L)
  | .exit i=>∃q,r=.stop q∧ex q=.exit i∧∃g' Ls,InvX q g' Ls∧Hle g g'∧Sep g0 w0 g' w (Ls++L)
  | _=>False
instance {g0:Hp} {w0:World} {Inv:σ→Hp→List Res→Prop} {InvX:ρ→Hp→List Res→Prop} {ex:ρ→Code} {r:Step σ ρ} {g:Hp} {L:List Res}:PanOk (BX g0 w0 Inv InvX ex r g L):=⟨fun _ _ _ _ _ q=>q⟩
def AX (P:Program) (n:Fr) (g0:Hp) (w0:World) (Inv:σ→Hp→List Res→Prop) (InvX:ρ→Hp→List Res→Prop) (ex:ρ→Code) (r:Step σ ρ) (body:Code) (g:Hp) (L:List Res):EPost:=fun e E w=>match e with
  | .normal=>∃g' Ls,Sep g0 w0 g' w (Ls++L)∧Hle g g'∧∀w' L',Sep g0 w0 g' w' (Ls++L')→WP P n body (BX g0 w0 Inv InvX ex r g' L') E w'
  | _=>False
instance {P:Program} {n:Fr} {g0:Hp} {w0:World} {Inv:σ→Hp→List Res→Prop} {InvX:ρ→Hp→List Res→Prop} {ex:ρ→Code} {r:Step σ ρ} {body:Code} {g:Hp} {L:List Res}:PanOk (AX P n g0 w0 Inv InvX ex r body g L):=⟨fun _ _ _ _ _ q=>q⟩
end
section
variable {P:Program} {E:Env} {w:World} {d:Option Tmp} {ty:TypeId} {ps:String} {af:Array Edge} {gd:Option (Nat×Bool)} {T T':TypeId} {qs rs:Array TypeId} {vd:Bool} {x y:Operand} {fn:Fn} {bs cs:Array Value}
end
end Go.Lx
namespace Go.Lx
open Go.RowKit
structure InT (β:Type) where
  rel:Hp→Value→β→Res→Prop
  mono:∀ {g g':Hp} {v:Value} {l:β} {r:Res},Hle g g'→rel g v l r→rel g' v l r
  one:∀ {g:Hp} {v:Value} {l:β} {r:Res},rel g v l r→v.oneCell'=true
def iMap {K V:Type} (ek:K→Value) (ev:V→Value):InT (List (K×V)):=
  ⟨fun _ v m r=>∃b es ck,v=.map (some b)∧r=.obj b (.map es ck)∧MRel ek ev es ck m,fun _ h=>h,fun ⟨b,_,_,h,_⟩=>by rw [h]; rfl⟩
structure GRel {β:Type} (I:InT β) (g:Hp) (xs:List Value) (ll:List β) (G:List Res):Prop where
  lx:xs.length=ll.length
  lG:G.length=ll.length
  el:∀(i:Nat) (l:β),ll[i]?=some l→∃v r,xs[i]?=some v∧G[i]?=some r∧I.rel g v l r
section
variable {β:Type} {I:InT β} {g g':Hp} {xs ys:List Value} {ll mm:List β} {G H:List Res}
theorem GRel.mono (h:GRel I g xs ll G) (hg:Hle g g'):GRel I g' xs ll G:=⟨h.lx,h.lG,fun i l hl=>by
  obtain ⟨v,r,h1,h2,h3⟩:=h.el i l hl
  exact ⟨v,r,h1,h2,I.mono hg h3⟩⟩
theorem GRel.nil:GRel I g [] [] []:=⟨rfl,rfl,fun i l h=>by simp at h⟩
theorem GRel.append (h:GRel I g xs ll G) (h':GRel I g ys mm H):GRel I g (xs++ys) (ll++mm) (G++H):=by
  refine ⟨by simp [h.lx,h'.lx],by simp [h.lG,h'.lG],fun i l hl=>?_⟩
  have h1:=h.lx
  have h2:=h.lG
  by_cases hi:i<ll.length
  · rw [List.getElem?_append_left hi] at hl
    obtain ⟨v,r,e1,e2,e3⟩:=h.el i l hl
    exact ⟨v,r,by rw [List.getElem?_append_left (by omega)]; exact e1,by rw [List.getElem?_append_left (by omega)]; exact e2,e3⟩
  · rw [List.getElem?_append_right (by omega)] at hl
    obtain ⟨v,r,e1,e2,e3⟩:=h'.el _ l hl
    exact ⟨v,r,by rw [List.getElem?_append_right (by omega),h1]; exact e1,by rw [List.getElem?_append_right (by omega),h2]; exact e2,e3⟩
theorem GRel.cons {v:Value} {l:β} {r:Res} (h:I.rel g v l r) (h':GRel I g ys mm H):GRel I g (v::ys) (l::mm) (r::H):=by
  refine ⟨by simp [h'.lx],by simp [h'.lG],fun i x hx=>?_⟩
  cases i with
  | zero=>simp at hx; subst hx; exact ⟨v,r,rfl,rfl,h⟩
  | succ i=>exact h'.el i x (by simpa using hx)
theorem GRel.put (h:GRel I g xs ll G) {k:Nat} {v:Value} {l':β} {r':Res} (hx:xs[k]?=some v) (hi:I.rel g v l' r'):GRel I g xs (ll.set k l') (G.set k r'):=by
  refine ⟨by simp [h.lx],by simp [h.lG],fun i l hl=>?_⟩
  have hk:=(List.getElem?_eq_some_iff.1 hx).1
  have h1:=h.lx
  have h2:=h.lG
  rw [List.getElem?_set] at hl
  split at hl
  · rename_i e
    subst e
    rw [if_pos (by omega)] at hl
    obtain rfl:=Option.some.inj hl
    exact ⟨v,r',hx,by rw [List.getElem?_set_self (by omega)],hi⟩
  · rename_i e
    obtain ⟨u,r,e1,e2,e3⟩:=h.el i l hl
    exact ⟨u,r,e1,by rw [List.getElem?_set_ne e]; exact e2,e3⟩
theorem GRel.set (h:GRel I g xs ll G) {k:Nat} {v:Value} {l':β} {r':Res} (hk:k<ll.length) (hi:I.rel g v l' r'):GRel I g (xs.set k v) (ll.set k l') (G.set k r'):=by
  refine ⟨by simp [h.lx],by simp [h.lG],fun i l hl=>?_⟩
  have h1:=h.lx
  have h2:=h.lG
  rw [List.getElem?_set] at hl
  split at hl
  · rename_i e
    subst e
    obtain rfl:=Option.some.inj hl
    exact ⟨v,r',by rw [List.getElem?_set_self (by omega)],by rw [List.getElem?_set_self (by omega)],hi⟩
  · rename_i e
    obtain ⟨u,r,e1,e2,e3⟩:=h.el i l hl
    exact ⟨u,r,by rw [List.getElem?_set_ne e]; exact e1,by rw [List.getElem?_set_ne e]; exact e2,e3⟩
theorem GRel.ones (h:GRel I g xs ll G):∀v∈xs,v.oneCell'=true:=by
  intro v hv
  obtain ⟨i,hi,rfl⟩:=List.mem_iff_getElem.1 hv
  have hl:i<ll.length:=by rw [←h.lx]; exact hi
  obtain ⟨u,r,e1,_,e3⟩:=h.el i _ (List.getElem?_eq_getElem hl)
  rw [List.getElem?_eq_getElem hi] at e1
  rw [Option.some.inj e1]
  exact I.one e3
end
def tVal:Ty Value:=⟨1,fun _ cs v=>cs=[v]∧v.oneCell'=true,fun _ h=>h,fun h=>by rw [h.1]; rfl,fun h v hv=>by rw [h.1] at hv; simp at hv; subst hv; exact h.2⟩
theorem rowVal {g:Hp} {xs:List Value} (h:∀v∈xs,v.oneCell'=true):RowRel tVal g xs xs:=by
  refine ⟨by simp [tVal],fun i x hx=>⟨?_,h x (List.mem_of_getElem? hx)⟩⟩
  show (xs.drop (i*1)).take 1=[x]
  obtain ⟨hi,rfl⟩:=List.getElem?_eq_some_iff.1 hx
  rw [Nat.mul_one,List.drop_eq_getElem_cons hi]
  rfl
theorem rowVal_eq {g:Hp} {xs ys:List Value} (h:RowRel tVal g xs ys):xs=ys:=by
  have hl:xs.length=ys.length:=by have:=h.1; simpa [tVal] using this
  refine List.ext_getElem hl fun i h1 h2=>?_
  have:(xs.drop (i*1)).take 1=[ys[i]]:=(h.2 i _ (List.getElem?_eq_getElem h2)).1
  rw [Nat.mul_one,List.drop_eq_getElem_cons h1] at this
  simp only [List.take_succ_cons,List.take_zero,List.cons.injEq,and_true] at this
  exact this
theorem appM_len {α β:Type} {B:Nat} {l m:List α} {r:List α} {l' m':List β} (h:appM B l m=some r) (h1:l'.length=l.length) (h2:m'.length=m.length):appM B l' m'=some (l'++m')∧r=l++m:=by
  obtain ⟨e,hb⟩:=appM_some h
  refine ⟨?_,e⟩
  unfold appM
  rw [if_pos (by rw [h1,h2]; exact hb)]
theorem erase_perm {α:Type}:∀ {l:List α} {i:Nat} (h:i<l.length),l.Perm (l[i]::l.eraseIdx i)
  | x::l,0,_=>List.Perm.refl _
  | x::l,i+1,h=>((erase_perm (l:=l) (i:=i) (by simpa using h)).cons x).trans (List.Perm.swap _ _ _)
theorem Sep.perm {g0 g:Hp} {w0 w:World} {L L':List Res} (h:Sep g0 w0 g w L) (hp:L.Perm L'):Sep g0 w0 g w L':=
  ⟨h.ext,fun r hr=>h.ok r (hp.mem_iff.2 hr),fun r hr=>h.fresh r (hp.mem_iff.2 hr),(hp.pairwise_iff fun hxy b hb hc=>hxy b hc hb).1 h.apart⟩
theorem gget {A G B:List Res} {k:Nat} {r:Res} (h:G[k]?=some r):(A++(G++B))[A.length+k]?=some r:=by
  have hk:=(List.getElem?_eq_some_iff.1 h).1
  rw [List.getElem?_append_right (by omega),Nat.add_sub_cancel_left,List.getElem?_append_left hk]
  exact h
theorem gset {A G B:List Res} {k:Nat} {r:Res} (hk:k<G.length):(A++(G++B)).set (A.length+k) r=A++(G.set k r++B):=by
  rw [List.set_append_right _ _ (by omega),Nat.add_sub_cancel_left,List.set_append_left _ _ hk]
section
variable {g0 g:Hp} {w0 w:World} {A G B:List Res}
theorem Sep.gridAt {L:List Res} {β:Type} {I:InT β} {ll:List β} {i:Nat} {v:Value} {e:TypeId} {xs:List Value} (h:Sep g0 w0 g w L) (hi:L[i]?=some (.row v e 1 ll.length xs)) (hG:GRel I g xs ll G) {q:Int} {l:β} (hq:idxL ll q=some l) :
    ∃b cap,v=.slice (some ⟨b,0,none⟩) ll.length cap∧∃u r,xs[q.toNat]?=some u∧G[q.toNat]?=some r∧I.rel g u l r∧
      ∀w',(Res.row v e 1 ll.length xs).ok w'→∀j y,[u][j]?=some y→w'.cell? ⟨b,0+q.toNat*1+j,none⟩=some y:=by
  obtain ⟨h0,h1,hl⟩:=idxL_some hq
  obtain ⟨u,r,e1,e2,e3⟩:=hG.el _ _ hl
  have hi':L[i]?=some (.row v e tVal.sz xs.length xs):=by rw [hG.lx]; exact hi
  have hxq:idxL xs q=some u:=by
    obtain ⟨k,rfl⟩:=Int.eq_ofNat_of_zero_le h0
    rw [Int.toNat_natCast] at e1
    have hk:=(List.getElem?_eq_some_iff.1 e1).1
    unfold idxL
    rw [if_pos (by omega),Int.toNat_natCast]
    exact e1
  obtain ⟨b,cap,hv,cs,hc,hld⟩:=h.rowEl hi' (rowVal hG.ones) hxq
  obtain ⟨rfl,_⟩:=hc
  rw [hG.lx] at hv
  refine ⟨b,cap,hv,u,r,e1,e2,e3,fun w' hw' j y hy=>hld w' ?_ j y hy⟩
  rw [hG.lx]; exact hw'
theorem Sep.gridMap {K V:Type} {ek:K→Value} {ev:V→Value} {ll ll2:List (List (K×V))} {m':List (K×V)} {xs:List Value} {b ck ck':Nat} {es es':Array MapEntry} {p:Int} (hG:GRel (iMap ek ev) g xs ll G) (hx:xs[p.toNat]?=some (Value.map (some b)))
    (hu:G[p.toNat]?=some (.obj b (.map es ck))) (hm:MRel ek ev es' ck' m') (hset2:setL ll p m'=some ll2) (h:Sep g0 w0 g w ((A++(G++B)).set (A.length+p.toNat) (.obj b (.map es' ck')))) :
    ∃G',GRel (iMap ek ev) g xs ll2 G'∧ll2.length=ll.length∧Sep g0 w0 g w (A++(G'++B)):=by
  obtain ⟨h0,h1,rfl⟩:=setL_some hset2
  rw [gset (List.getElem?_eq_some_iff.1 hu).1] at h
  exact ⟨_,hG.put hx ⟨b,es',ck',rfl,rfl,hm⟩,List.length_set,h⟩
end
end Go.Lx
namespace Go.Lx
open Go.RowKit
section
variable {P:Program} {n:Fr} {Q:EPost} {E:Env} {w:World} {ops:Array Oper} {rest:List Oper} {d:Tmp} {ty:TypeId} {ps:String} {af:Array Edge} {g0 g:Hp} {w0:World} {A B G H:List Res}
theorem OW_litG {β:Type} {I:InT β} {T el:TypeId} {bytes:Nat} {z:Value} {parts:Array (Nat×Operand)} {i:Nat} {r:Res} {u:Value} {l:β}
    (hT:P.underlying T=some (.slice el)) (he:TyI P el false 1 bytes z) (hs:Sep g0 w0 g w (A++B)) (hi:A[i]?=some r) (hin:I.rel g u l r)
    (hp:(parts.toList.map fun p=>(p.1,ev E p.2))=[(0,u)]) (hd:Nat.blt d n.sz=true)
    (k:∀v' w' xs' G',GRel I g xs' [l] G'→Sep g0 w0 g w' ((.row v' el 1 [l].length xs'::A.eraseIdx i)++(G'++B))→OW P n ops Q rest (upd E d v') w') :
    OW P n ops Q (⟨some d,.buildSlice T 1 parts,ty,ps,af,none⟩::rest) E w:=by
  have hone:=I.one hin
  have hcells:u.cells.toList=[u]:=cells_one hone
  refine OW_lit (τ:=tVal) [u] [u] hT he (by decide) hs rfl (by decide) hp ⟨⟨hcells,hone⟩,trivial⟩ hd fun v' w' xs' hr hs'=>?_
  obtain rfl:=rowVal_eq hr
  refine k v' w' _ _ ((GRel.nil (g:=g)).cons hin) ?_
  have hil:=(List.getElem?_eq_some_iff.1 hi).1
  have hr2:A[i]'hil=r:=(List.getElem?_eq_some_iff.1 hi).2
  refine hs'.perm ?_
  have p1:=erase_perm hil
  rw [hr2] at p1
  have p2:(A++B).Perm (A.eraseIdx i++([r]++B)):=(List.Perm.append_right B p1).trans List.perm_middle.symm
  exact List.Perm.cons _ p2
theorem OW_appendG {β:Type} {I:InT β} {T el:TypeId} {bytes:Nat} {z:Value} {x y:Operand} {v u:Value} {ll mm r:List β} {xs ys:List Value} {i j:Nat}
    (hT:P.underlying T=some (.slice el)) (he:TyI P el false 1 bytes z) (hzs:z.cells.size=1) (hbp:0<bytes) (hs:Sep g0 w0 g w (A++(H++(G++B))))
    (hi:A[i]?=some (.row v el 1 ll.length xs)) (hj:A[j]?=some (.row u el 1 mm.length ys)) (_:i≠j) (hG:GRel I g xs ll G) (hH:GRel I g ys mm H)
    (hx:ev E x=v) (hy:ev E y=u) (hM:appM bytes ll mm=some r) (hd:Nat.blt d n.sz=true)
    (k:∀v' w' xs' G',GRel I g xs' r G'→Sep g0 w0 g w' ((A.set i (.row v' el 1 r.length xs')).eraseIdx j++(G'++B))→OW P n ops Q rest (upd E d v') w') :
    OW P n ops Q (⟨some d,.call { callee:=.builtin .append,args:=#[x,y],argTypes:=#[T,T] },ty,ps,af,none⟩::rest) E w:=by
  obtain ⟨hM2,rfl⟩:=appM_len (l':=xs) (m':=ys) hM hG.lx hH.lx
  have hil:=(List.getElem?_eq_some_iff.1 hi).1
  have hjl:=(List.getElem?_eq_some_iff.1 hj).1
  have hi':(A++(H++(G++B)))[i]?=some (.row v el tVal.sz xs.length xs):=by rw [List.getElem?_append_left hil,hG.lx]; exact hi
  have hj':(A++(H++(G++B)))[j]?=some (.row u el tVal.sz ys.length ys):=by rw [List.getElem?_append_left hjl,hH.lx]; exact hj
  refine OW_append (τ:=tVal) hT he hzs (by decide) hbp hs hi' (rowVal hG.ones) hx hy (hs.rowSrc hj') (rowVal hH.ones) hM2 hd fun v' w' xs' hr hs'=>?_
  obtain rfl:=rowVal_eq hr
  refine k v' w' _ _ (hG.append hH) ?_
  have hlen:(xs++ys).length=(ll++mm).length:=by simp [hG.lx,hH.lx]
  rw [List.set_append_left _ _ hil,hlen] at hs'
  generalize hA2:A.set i (.row v' el tVal.sz (ll++mm).length (xs++ys))=A2 at hs'
  have hA2':A.set i (.row v' el 1 (ll++mm).length (xs++ys))=A2:=hA2
  rw [hA2']
  have s1:Sep g0 w0 g w' (A2.eraseIdx j++(H++(G++B))):=hs'.sub ((List.eraseIdx_sublist A2 j).append_right _)
  refine s1.perm (List.Perm.append_left _ ?_)
  rw [List.append_assoc]
  exact List.perm_append_comm_assoc _ _ _
end
end Go.Lx
namespace Go.Lx
open Go.RowKit Go.Maps
section
variable {P:Program} {n:Fr} {Q:EPost} {E:Env} {w:World} {ops:Array Oper} {rest:List Oper} {d:Tmp} {ty:TypeId} {ps:String} {af:Array Edge} {g0 g:Hp} {w0:World} {L:List Res}
theorem r_lookupF {d':Option Tmp} {gd:Option (Nat×Bool)} {K V:Type} [BEq K] {ek:K→Value} {vf:V→Value} {T Tk Te:TypeId} {es:Array MapEntry} {clock b i:Nat} {m:List (K×V)} {x y:Operand} {kk:K} {vv:V} (hT:P.underlying T=some (.map Tk Te)) (law:KeyLaw P Tk ek)
    (hs:Sep g0 w0 g w L) (hi:L[i]?=some (.obj b (.map es clock))) (hm:MRel ek vf es clock m) (hx:ev E x=.map (some b)) (hy:ev E y=ek kk) (hg:mget m kk=some vv) :
    Runs P E ⟨d',.lookup T x y false,ty,ps,af,gd⟩ w (vf vv) w:=.inl (by
  have hb:=(hs.at hi).out
  simp only [Res.okB] at hb
  have hf:=law.find kk es.toList (m.map (·.1)) w hm.keys
  have hv:=hm.val
  rw [find?_findIdx?] at hg
  simp only [execOp,Instr.lookup,hx,hy,Sem.run_bind,run_underlying hT,Result.andThen_ok,getObj,Sem.run,hb,Sem.run_pure,law.check,hf]
  cases hj:(m.map (·.1)).findIdx? (· == kk) with
  | none=>rw [hj] at hg; cases hg
  | some j=>
    have:=hv j
    rw [hj] at hg
    simp only [Option.bind_some] at hg
    cases hm':m[j]? with
    | none=>rw [hm'] at hg; cases hg
    | some p=>
      rw [hm'] at this hg
      cases he':es.toList[j]? with
      | none=>rw [he'] at this; simp at this
      | some e=>
        rw [he'] at this
        simp only [Option.map_some,Option.some.injEq] at this hg
        simp only [Option.bind_some,he',Option.map_some,this,hg]
        rfl)
end
end Go.Lx
namespace Go.Lx
open Go.RowKit Go.Maps Go.Proofs Go.Shelf
open Go.WideElems (Fit rd rg pl)
def insI (x:Int):List Int→List Int
  | []=>[x]
  | y::l=>if x≤y then x::y::l else y::insI x l
def isort:List Int→List Int
  | []=>[]
  | x::l=>insI x (isort l)
theorem insI_perm (x:Int):∀l,(insI x l).Perm (x::l)
  | []=>List.Perm.refl _
  | y::l=>by
    unfold insI
    split
    · exact List.Perm.refl _
    · exact ((insI_perm x l).cons y).trans (List.Perm.swap _ _ _)
theorem isort_perm:∀l,(isort l).Perm l
  | []=>List.Perm.refl _
  | x::l=>(insI_perm x _).trans ((isort_perm l).cons x)
theorem insI_sorted (x:Int):∀l:List Int,l.Pairwise (·≤·)→(insI x l).Pairwise (·≤·)
  | [],_=>by simp [insI]
  | y::l,h=>by
    unfold insI
    obtain ⟨h1,h2⟩:=List.pairwise_cons.1 h
    split
    · rename_i hxy
      refine List.pairwise_cons.2 ⟨fun z hz=>?_,h⟩
      rcases List.mem_cons.1 hz with rfl|hz
      · exact hxy
      · exact Int.le_trans hxy (h1 z hz)
    · rename_i hxy
      refine List.pairwise_cons.2 ⟨fun z hz=>?_,insI_sorted x l h2⟩
      rcases List.mem_cons.1 ((insI_perm x l).mem_iff.1 hz) with rfl|hz
      · omega
      · exact h1 z hz
theorem isort_sorted:∀l:List Int,(isort l).Pairwise (·≤·)
  | []=>List.Pairwise.nil
  | x::l=>insI_sorted x _ (isort_sorted l)
theorem mergeSort_isort {ss l:List Int} (h:ss.Perm l):ss.mergeSort leI=isort l:=by
  have tr:∀a b c:Int,leI a b=true→leI b c=true→leI a c=true:=fun a b c h1 h2=>by simp only [leI,decide_eq_true_eq] at *; exact Int.le_trans h1 h2
  have to:∀a b:Int,(leI a b || leI b a)=true:=fun a b=>by simp only [leI,Bool.or_eq_true,decide_eq_true_eq]; exact Int.le_total a b
  refine List.Perm.eq_of_pairwise (le:=fun a b:Int=>a≤b) (fun a b _ _ h1 h2=>Int.le_antisymm h1 h2) ((List.pairwise_mergeSort tr to ss).imp fun h=>by simpa [leI] using h) (isort_sorted l) (((List.mergeSort_perm ss leI).trans h).trans (isort_perm l).symm)
def keysM {V:Type} (m:List (Int×V)):Option (List Int):=if m.length≤17592186044416∧∀p∈m,-9223372036854775808≤p.1∧p.1≤9223372036854775807 then some (isort (m.map (·.1))) else none
theorem keysM_some {V:Type} {m:List (Int×V)} {l:List Int} (h:keysM m=some l):m.length≤17592186044416∧(∀p∈m,-9223372036854775808≤p.1∧p.1≤9223372036854775807)∧l=isort (m.map (·.1)):=by
  unfold keysM at h
  split at h
  · rename_i hc; exact ⟨hc.1,hc.2,(Option.some.inj h).symm⟩
  · cases h
def anyV:Value→Option (DataW Unit×List MemPlace):=fun _=>some (.nil,[])
theorem mrel_owns {P:Program} {Tk:TypeId} {V:Type} {vf:V→Value} {es:Array MapEntry} {ck b:Nat} {m:List (Int×V)} {w:World} (hT:P.underlying Tk=some (.int .i64)) (hb:w.heap[b]?=some (.map es ck)) (hm:MRel (Value.int .i64) vf es ck m)
    (hl:m.length≤17592186044416) (hr:∀p∈m,-9223372036854775808≤p.1∧p.1≤9223372036854775807) :
    ∃D0:DataW Unit,w.ownsMap P Tk anyV b m.length D0∧Maps.size D0=m.length∧(intKeys D0).Perm (m.map (·.1)):=by
  have hrd:∀x∈es.toList,∃a:Int,x.key=.int .i64 a∧rd P Tk anyV x=some (.int .i64 a,.nil):=by
    intro x hx
    have hk:x.key∈es.toList.map (·.key):=List.mem_map.2 ⟨x,hx,rfl⟩
    rw [hm.keys] at hk
    obtain ⟨a,ha,he⟩:=List.mem_map.1 hk
    obtain ⟨p,hp,rfl⟩:=List.mem_map.1 ha
    refine ⟨p.1,he.symm,?_⟩
    have h1:=hr p hp
    have hw:(Lit.int .i64 p.1).wf=true:=by
      simp only [Lit.wf,Bool.and_eq_true,decide_eq_true_eq]
      exact ⟨h1.1,h1.2⟩
    have:keyOf P Tk x.key=some (.int .i64 p.1):=by
      rw [←he]
      simp [keyOf,hT,mapKey,hw]
    simp [rd,this,anyV]
  refine ⟨_,⟨es,ck,hb,⟨?_,hm.stamp,fun x hx=>?_⟩,by rw [hm.size]; exact Nat.le_refl _,rfl⟩,?_,?_⟩
  · rw [hm.size]; unfold maxLen; omega
  · obtain ⟨a,_,h⟩:=hrd x hx; exact ⟨_,h⟩
  · show (List.foldr DataW.insert [] _).length=_
    rw [length_sorted,List.length_map,Array.length_toList,hm.size]
  · show ((List.foldr DataW.insert [] (es.toList.map (rg P Tk anyV))).map fun p=>intOf p.1).Perm _
    refine ((Go.WideShapes.sorted_perm _).map _).trans ?_
    rw [List.map_map]
    have e:es.toList.map ((fun p:Lit×DataW Unit=>intOf p.1)∘rg P Tk anyV)=m.map (·.1):=by
      have hinj:∀l1 l2:List Int,l1.map (Value.int .i64)=l2.map (Value.int .i64)→l1=l2:=by
        intro l1 l2 h
        refine List.map_inj_right (f:=Value.int .i64) (fun x y h=>?_) |>.1 h
        cases h; rfl
      refine hinj _ _ ?_
      rw [←hm.keys,List.map_map]
      refine List.map_congr_left fun x hx=>?_
      obtain ⟨a,h1,h2⟩:=hrd x hx
      simp [rg,h2,h1,intOf]
    rw [e]
def KeysC (P:Program) (f g1:FuncId) (T:TypeId):Prop:=∀(mb:Option Nat) (W:World),CallsV P f #[.map mb] W fun v w'=>v=.func (.func g1) #[] #[.pointer (some ⟨W.heap.size,0,none⟩)]∧w'=W.alloc (.cells #[.map mb] T)
theorem keysC_of {P:Program} {ρ:Ren} (L:SlLaysZI.n7 P ρ):KeysC P (ρ.f 7) (ρ.f 10) (ρ.t 23):=fun mb W=>(callsIn_wide.1 (AnyZI.keys_in L Fence.wide 5 trivial rfl mb W)).mono fun _ _ ⟨h1,h2⟩=>⟨_,h1,rfl,h2⟩
def SortedC (P:Program) (f g1:FuncId) (Tk:TypeId):Prop:=∀(Bm mb nn:Nat) (D0:DataW Unit) (w:World),Bm<w.heap.size→w.cell? ⟨Bm,0,none⟩=some (.map (some mb))→w.ownsMap P Tk anyV mb nn D0→Maps.size D0*8≤140737488355328→
  CallsV P f #[.func (.func g1) #[] #[.pointer (some ⟨Bm,0,none⟩)]] w fun v w'=>∃ss:List Int,ss.Perm (intKeys D0)∧w'.ownsRow w.heap.size Tk 1 v ss.length ((ss.mergeSort leI).map encZ)∧Below w.heap.size w w'
theorem sortedC_of {P:Program} {ρ ρ':Ren} (L:SlLaysZI.n7 P ρ) (L':SlLaysZI.n6 P ρ') (hk:ρ'.t 26=ρ.t 26) (hs:AnyZI.SortsIn P ρ' Fence.wide 4) (e9:∀args w,(callFunc (ρ'.f 9) args).run P w=.ok (.enter (ρ'.f 9) args) w) (e10:∀args w,(callFunc (ρ.f 10) args).run P w=.ok (.enter (ρ.f 10) args) w) :
    SortedC P (ρ'.f 6) (ρ.f 10) (ρ.t 26):=by
  intro Bm mb nn D0 w hB hc hown hsz
  have hseq:SeqGives Fence.wide 2 P (ρ.f 10) #[.pointer (some ⟨Bm,0,none⟩)] encZ (fun ss=>ss.Perm (intKeys D0)) (Maps.size D0) w:=AnyZI.keys_gives { L with } Fence.wide 2 trivial rfl (by omega) Bm mb nn D0 w hB hc hown
  refine (callsIn_wide.1 (AnyZI.sorted_in L' Fence.wide 5 trivial trivial trivial trivial rfl (by omega) hs e9 (ρ.f 10) _ trivial e10 _ _ (by unfold maxLen; omega) hsz w hseq)).mono ?_
  rintro e w' ⟨v,ss,rfl,h1,h2,h3,h4⟩
  rw [hk] at h2
  exact ⟨v,rfl,ss,h1,h2,h4⟩
section
variable {P:Program} {n:Fr} {Q:EPost} {E:Env} {w:World} {ops:Array Oper} {rest:List Oper} {d:Tmp} {ty:TypeId} {ps:String} {af:Array Edge} {g0 g:Hp} {w0:World} {L:List Res}
theorem OW_keys {f g1:FuncId} {T:TypeId} {ats:Array TypeId} {x:Operand} {mb:Option Nat} (hc:KeysC P f g1 T) (hf:CF P f) (hs:Sep g0 w0 g w L) (hx:ev E x=.map mb) (hd:Nat.blt d n.sz=true)
    (k:∀b w',Sep g0 w0 g w' (box b T [.map mb]::L)→OW P n ops Q rest (upd E d (.func (.func g1) #[] #[.pointer (some ⟨b,0,none⟩)])) w') :
    OW P n ops Q (⟨some d,.call { callee:=.value (.func f),args:=#[x],argTypes:=ats },ty,ps,af,none⟩::rest) E w:=by
  refine C [.map mb] hf (by simp [hx]) (hc mb w) hd ?_
  rintro v w' ⟨rfl,rfl⟩
  exact k _ _ (hs.alloc _)
theorem OW_sorted {f g1:FuncId} {Tk T:TypeId} {ats:Array TypeId} {x:Operand} {b mb i j ck:Nat} {es:Array MapEntry} {V:Type} {vf:V→Value} {m:List (Int×V)} {l:List Int} (hc:SortedC P f g1 Tk) (hf:CF P f) (hT:P.underlying Tk=some (.int .i64)) (hs:Sep g0 w0 g w L)
    (hi:L[i]?=some (box b T [.map (some mb)])) (hj:L[j]?=some (.obj mb (.map es ck))) (hm:MRel (Value.int .i64) vf es ck m) (hk:keysM m=some l) (hx:ev E x=.func (.func g1) #[] #[.pointer (some ⟨b,0,none⟩)]) (hd:Nat.blt d n.sz=true)
    (k:∀v w' xs,RowRel (tInt .i64) g xs l→Sep g0 w0 g w' (.row v Tk (tInt .i64).sz l.length xs::L)→OW P n ops Q rest (upd E d v) w') :
    OW P n ops Q (⟨some d,.call { callee:=.value (.func f),args:=#[x],argTypes:=ats },ty,ps,af,none⟩::rest) E w:=by
  obtain ⟨h1,h2,rfl⟩:=keysM_some hk
  have hb:=(hs.at hi).out
  have hmb:=(hs.at hj).out
  simp only [Res.okB] at hb hmb
  obtain ⟨D0,ho,hz,hp⟩:=mrel_owns hT hmb hm h1 h2
  refine C [_] hf (by simp [hx]) (hc b mb _ D0 w (Array.getElem?_eq_some_iff.1 hb).1 (by simp [World.cell?,hb]) ho (by omega)) hd ?_
  rintro v w' ⟨ss,hss,hrow,hbel⟩
  have e:=mergeSort_isort (hss.trans hp)
  have hlen:ss.length=(isort (m.map (·.1))).length:=by rw [←e,List.length_mergeSort]
  rw [e,hlen] at hrow
  refine k v w' ((isort (m.map (·.1))).map encZ) ?_ ?_
  · refine ⟨by simp [tInt],fun i x hx=>?_⟩
    show (List.drop (i*1) _).take 1=[Value.int .i64 x]
    obtain ⟨hl,rfl⟩:=List.getElem?_eq_some_iff.1 hx
    rw [Nat.mul_one,List.drop_eq_getElem_cons (by simpa using hl)]
    simp
  · have hx:=ext_of_below hs.imm hbel
    have hok:(Res.row v Tk (tInt .i64).sz (isort (m.map (·.1))).length ((isort (m.map (·.1))).map encZ)).ok w':=⟨⟨hrow.1,by
      rcases hrow.2 with h|⟨q,cap,cur,a1,_,a3⟩
      · exact .inl h
      · exact .inr ⟨q,cap,cur,a1,Nat.zero_le _,a3⟩⟩⟩
    refine hs.callOwn (L':=[_]) ⟨hx,by simpa using hok,?_,by simp⟩
    intro r hr q hq
    simp only [List.mem_singleton] at hr
    subst hr
    rcases hrow.2 with ⟨rfl,_⟩|⟨q',cap,cur,rfl,a2,_⟩
    · simp [Res.blk,Value.ownBlock] at hq
    · simp only [Res.blk,Value.ownBlock,Option.some.injEq] at hq
      subst hq
      exact ⟨a2,hs.none_at a2⟩
end
def growM (l:List Int) (n:Int):Option (List Int):=if l=[]∧0≤n∧n≤17592186044416 then some [] else none
theorem grow_ok {P:Program} {ρ:Ren} (L:Lays8.n4 P ρ) (hI:(P.info? (ρ.t 25)).map (fun i=>(i.zero,i.size,i.bytes))=some (some (.int .i64 0),1,8)) {l:List Int} {k:Int} {r:List Int} (hM:growM l k=some r) {g0:Hp} {w0:World} (hi:Imm g0 w0) :
    CallsV P (ρ.f 4) #[.slice none 0 0,.int .i64 k] w0 (fun v w'=>∃g' xs,RowRel (tInt .i64) g' xs r∧Sep g0 w0 g' w' [.row v (ρ.t 25) (tInt .i64).sz r.length xs]):=by
  unfold growM at hM
  split at hM
  · rename_i hc
    obtain ⟨_,h0,h1⟩:=hc
    obtain rfl:=Option.some.inj hM
    obtain ⟨q,rfl⟩:=Int.eq_ofNat_of_zero_le h0
    cases hi0:P.info? (ρ.t 25) with
    | none=>rw [hi0] at hI; cases hI
    | some i0=>
      rw [hi0] at hI
      simp only [Option.map_some,Option.some.injEq,Prod.mk.injEq] at hI
      obtain ⟨z1,z2,z3⟩:=hI
      rcases Nat.eq_zero_or_pos q with rfl|hq
      · refine (Any8.slices_Grow_room L none 0 0 0 w0 (by omega) (by omega) (by omega) (by omega)).mono ?_
        rintro e w' ⟨rfl,rfl⟩
        exact ⟨_,rfl,g0,[],RowRel.nil,(Sep.start hi).nilRow _ _⟩
      · refine (Any8.slices_Grow_grow L i0 (.int .i64 0) hi0 z1 (by omega) none 0 0 q [] w0 (by omega) (by omega) (by rw [z3]; omega) (by omega) (by simp) (fun _=>rfl) (fun a h=>by cases h)).mono ?_
        rintro e w' ⟨rfl,rfl⟩
        refine ⟨_,rfl,g0,[],RowRel.nil,?_⟩
        have hs:=(Sep.start hi).drew.alloc (.cells (#[]++Builtin.zeroCells (Value.int .i64 0).cells (0+q - 0)++Builtin.zeroCells (Value.int .i64 0).cells (grownCap w0 (0+q) 0 (ρ.t 25) - (0+q))) (ρ.t 25))
        have hb:=(hs.at (i:=0) rfl).out
        simp only [Res.okB] at hb
        have hge:0+q≤grownCap w0 (0+q) 0 (ρ.t 25):=grownCap_ge w0 _ _ _
        have hle:grownCap w0 (0+q) 0 (ρ.t 25)≤maxLen:=grownCap_le_maxLen w0 _ _ _ (by unfold maxLen; omega)
        refine hs.upd (i:=0) rfl (w':=_) ⟨rfl,rfl,rfl,Nat.le_refl _,fun _ _ _=>rfl⟩ (r':=.row _ (ρ.t 25) (tInt .i64).sz 0 []) ⟨⟨by simp,.inr ⟨_,_,_,rfl,Nat.zero_le _,hb,Nat.zero_le _,hle,?_,by simp⟩⟩⟩ (fun b hb=>.inl hb)
        simp only [Nat.zero_add] at hge ⊢
        simp [Builtin.zeroCells,tInt,Value.cells]
        omega
  · cases hM
end Go.Lx
namespace Go.Proofs
open Go.Shelf
def Tryz.lays137_ren:Go.Shelf.Ren:=⟨fun|137=>160|217=>168|266=>170|n=>n,fun|9=>9|5=>5|3=>3|n=>n,fun|n=>n⟩
theorem Tryz.lays137:Go.Proofs.Lays.n137 Tryz.prog Tryz.lays137_ren:={
  mixed:=by kernel_rfl
  f137:=Tryz.func160.trans (congrArg some (by kernel_rfl))
  f217:=Tryz.func168.trans (congrArg some (by kernel_rfl))
  f266:=Tryz.func170.trans (congrArg some (by kernel_rfl))
  t3:=Tryz.underlying3
  a3:=Tryz.isAgg3
  z3:=Tryz.sizeOf3
  v3:=Tryz.zeroValue3
  t5:=Tryz.underlying5
  a5:=Tryz.isAgg5
  z5:=Tryz.sizeOf5
  v5:=Tryz.zeroValue5
  t9:=Tryz.underlying9
  a9:=Tryz.isAgg9
  z9:=Tryz.sizeOf9
  v9:=Tryz.zeroValue9 }
open Go.RowKit in
theorem Tryz.strings_IndexByte (s:ByteArray) (c:Int) (w:World) :
    Calls Tryz.prog 160 #[.string s,.int .u8 c] w fun e w'=>e=.returned (.int .i64 (Lib.indexByte s.data.toList c.toNat.toUInt8))∧w'=w:=Any.strings_IndexByte Tryz.lays137 s c w
def Tryz.grow139_ren:Go.Shelf.Ren:=⟨fun|4=>139|n=>n,fun|22=>34|25=>3|3=>3|4=>4|9=>9|20=>20|0=>0|n=>n,fun|n=>n⟩
theorem Tryz.grow139:Go.Proofs.Lays8.n4 Tryz.prog Tryz.grow139_ren:={
  mixed:=by kernel_rfl
  f4:=⟨Tryz.f139.name,by decide,Tryz.func139.trans (congrArg some (by kernel_rfl))⟩
  t0:=Tryz.underlying0
  a0:=Tryz.isAgg0
  z0:=Tryz.sizeOf0
  v0:=Tryz.zeroValue0
  t3:=Tryz.underlying3
  a3:=Tryz.isAgg3
  z3:=Tryz.sizeOf3
  v3:=Tryz.zeroValue3
  t4:=Tryz.underlying4
  a4:=Tryz.isAgg4
  z4:=Tryz.sizeOf4
  v4:=Tryz.zeroValue4
  t9:=Tryz.underlying9
  a9:=Tryz.isAgg9
  z9:=Tryz.sizeOf9
  v9:=Tryz.zeroValue9
  t20:=Tryz.underlying20
  a20:=Tryz.isAgg20
  z20:=Tryz.sizeOf20
  v20:=Tryz.zeroValue20
  t22:=Tryz.underlying34
  a22:=Tryz.isAgg34
  z22:=Tryz.sizeOf34
  v22:=Tryz.zeroValue34 }
def Tryz.keys88_ren:Go.Shelf.Ren:=⟨fun|7=>88|10=>112|n=>n,fun|23=>125|26=>3|3=>4|28=>134|0=>0|27=>133|33=>155|4=>4|n=>n,fun|n=>n⟩
theorem Tryz.keys88:Go.Proofs.SlLaysZI.n7 Tryz.prog Tryz.keys88_ren:={
  mixed:=by kernel_rfl
  f7:=⟨Tryz.f88.name,by decide,Tryz.func88.trans (congrArg some (by kernel_rfl))⟩
  f10:=⟨Tryz.f112.name,by decide,Tryz.func112.trans (congrArg some (by kernel_rfl))⟩
  t0:=Tryz.underlying0
  a0:=Tryz.isAgg0
  z0:=Tryz.sizeOf0
  v0:=Tryz.zeroValue0
  t4:=Tryz.underlying4
  a4:=Tryz.isAgg4
  z4:=Tryz.sizeOf4
  v4:=Tryz.zeroValue4
  t23:=Tryz.underlying125
  a23:=Tryz.isAgg125
  z23:=Tryz.sizeOf125
  v23:=Tryz.zeroValue125
  t26:=Tryz.underlying3
  a26:=Tryz.isAgg3
  z26:=Tryz.sizeOf3
  v26:=Tryz.zeroValue3
  t27:=Tryz.underlying133
  a27:=Tryz.isAgg133
  z27:=Tryz.sizeOf133
  v27:=Tryz.zeroValue133
  t28:=Tryz.underlying134
  a28:=Tryz.isAgg134
  z28:=Tryz.sizeOf134
  v28:=Tryz.zeroValue134
  t33:=Tryz.underlying155
  a33:=Tryz.isAgg155
  z33:=Tryz.sizeOf155
  v33:=Tryz.zeroValue155 }
def Tryz.sorted87_ren:Go.Shelf.Ren:=⟨fun|6=>87|8=>110|9=>111|11=>126|13=>128|12=>127|23=>149|24=>150|14=>140|15=>141|16=>142|17=>143|18=>144|19=>145|20=>146|21=>147|22=>148|25=>161|26=>162|27=>163|28=>164|29=>165|30=>166|31=>169|n=>n,fun|26=>3|28=>134|24=>34|0=>0|3=>3|37=>114|48=>181|50=>48|4=>4|40=>174|39=>173|45=>138|5=>5|9=>9|51=>189|55=>193|57=>196|58=>197|33=>155|n=>n,fun|n=>n⟩
theorem Tryz.sorted87:Go.Proofs.SlLaysZI.n6 Tryz.prog Tryz.sorted87_ren:={
  mixed:=by kernel_rfl
  f6:=⟨Tryz.f87.name,by decide,Tryz.func87.trans (congrArg some (by kernel_rfl))⟩
  f8:=⟨Tryz.f110.name,by decide,Tryz.func110.trans (congrArg some (by kernel_rfl))⟩
  f11:=⟨Tryz.f126.name,by decide,Tryz.func126.trans (congrArg some (by kernel_rfl))⟩
  t0:=Tryz.underlying0
  a0:=Tryz.isAgg0
  z0:=Tryz.sizeOf0
  v0:=Tryz.zeroValue0
  t24:=Tryz.underlying34
  a24:=Tryz.isAgg34
  z24:=Tryz.sizeOf34
  v24:=Tryz.zeroValue34
  t26:=Tryz.underlying3
  a26:=Tryz.isAgg3
  z26:=Tryz.sizeOf3
  v26:=Tryz.zeroValue3
  t28:=Tryz.underlying134
  a28:=Tryz.isAgg134
  z28:=Tryz.sizeOf134
  v28:=Tryz.zeroValue134
  i26:=by kernel_rfl }
def Tryz.sort111_ren:Go.Shelf.Ren:=⟨fun|5=>111|8=>128|7=>127|19=>149|20=>150|10=>140|11=>141|12=>142|13=>143|14=>144|15=>145|16=>146|17=>147|18=>148|30=>161|31=>162|32=>163|33=>164|34=>165|35=>166|40=>169|n=>n,fun|23=>34|25=>3|3=>3|32=>114|22=>34|0=>0|44=>181|46=>48|4=>4|36=>174|35=>173|41=>138|5=>5|9=>9|53=>189|57=>193|63=>196|64=>197|n=>n,fun|n=>n⟩
theorem Tryz.sort111:Go.Proofs.SlLaysM.n5 Tryz.prog Tryz.sort111_ren:={
  mixed:=by kernel_rfl
  f5:=⟨Tryz.f111.name,by decide,Tryz.func111.trans (congrArg some (by kernel_rfl))⟩
  f7:=⟨Tryz.f127.name,by decide,Tryz.func127.trans (congrArg some (by kernel_rfl))⟩
  f8:=Tryz.func128.trans (congrArg some (by kernel_rfl))
  f10:=⟨Tryz.f140.name,by decide,Tryz.func140.trans (congrArg some (by kernel_rfl))⟩
  f11:=⟨Tryz.f141.name,by decide,Tryz.func141.trans (congrArg some (by kernel_rfl))⟩
  f12:=⟨Tryz.f142.name,by decide,Tryz.func142.trans (congrArg some (by kernel_rfl))⟩
  f13:=⟨Tryz.f143.name,by decide,Tryz.func143.trans (congrArg some (by kernel_rfl))⟩
  f14:=⟨Tryz.f144.name,by decide,Tryz.func144.trans (congrArg some (by kernel_rfl))⟩
  f15:=⟨Tryz.f145.name,by decide,Tryz.func145.trans (congrArg some (by kernel_rfl))⟩
  f16:=⟨Tryz.f146.name,by decide,Tryz.func146.trans (congrArg some (by kernel_rfl))⟩
  f17:=⟨Tryz.f147.name,by decide,Tryz.func147.trans (congrArg some (by kernel_rfl))⟩
  f18:=⟨Tryz.f148.name,by decide,Tryz.func148.trans (congrArg some (by kernel_rfl))⟩
  f19:=Tryz.func149.trans (congrArg some (by kernel_rfl))
  f20:=Tryz.func150.trans (congrArg some (by kernel_rfl))
  f30:=⟨Tryz.f161.name,by decide,Tryz.func161.trans (congrArg some (by kernel_rfl))⟩
  f31:=Tryz.func162.trans (congrArg some (by kernel_rfl))
  f32:=Tryz.func163.trans (congrArg some (by kernel_rfl))
  f33:=⟨Tryz.f164.name,by decide,Tryz.func164.trans (congrArg some (by kernel_rfl))⟩
  f34:=⟨Tryz.f165.name,by decide,Tryz.func165.trans (congrArg some (by kernel_rfl))⟩
  f35:=⟨Tryz.f166.name,by decide,Tryz.func166.trans (congrArg some (by kernel_rfl))⟩
  f40:=⟨Tryz.f169.name,by decide,Tryz.func169.trans (congrArg some (by kernel_rfl))⟩
  t0:=Tryz.underlying0
  a0:=Tryz.isAgg0
  z0:=Tryz.sizeOf0
  v0:=Tryz.zeroValue0
  t3:=Tryz.underlying3
  a3:=Tryz.isAgg3
  z3:=Tryz.sizeOf3
  v3:=Tryz.zeroValue3
  t4:=Tryz.underlying4
  a4:=Tryz.isAgg4
  z4:=Tryz.sizeOf4
  v4:=Tryz.zeroValue4
  t5:=Tryz.underlying5
  a5:=Tryz.isAgg5
  z5:=Tryz.sizeOf5
  v5:=Tryz.zeroValue5
  t9:=Tryz.underlying9
  a9:=Tryz.isAgg9
  z9:=Tryz.sizeOf9
  v9:=Tryz.zeroValue9
  t22:=Tryz.underlying34
  a22:=Tryz.isAgg34
  z22:=Tryz.sizeOf34
  v22:=Tryz.zeroValue34
  t23:=Tryz.underlying34
  a23:=Tryz.isAgg34
  z23:=Tryz.sizeOf34
  v23:=Tryz.zeroValue34
  t25:=Tryz.underlying3
  a25:=Tryz.isAgg3
  z25:=Tryz.sizeOf3
  v25:=Tryz.zeroValue3
  t32:=Tryz.underlying114
  a32:=Tryz.isAgg114
  z32:=Tryz.sizeOf114
  v32:=Tryz.zeroValue114
  t35:=Tryz.underlying173
  a35:=Tryz.isAgg173
  z35:=Tryz.sizeOf173
  v35:=Tryz.zeroValue173
  t36:=Tryz.underlying174
  a36:=Tryz.isAgg174
  z36:=Tryz.sizeOf174
  v36:=Tryz.zeroValue174
  t41:=Tryz.underlying138
  a41:=Tryz.isAgg138
  z41:=Tryz.sizeOf138
  v41:=Tryz.zeroValue138
  t44:=Tryz.underlying181
  a44:=Tryz.isAgg181
  z44:=Tryz.sizeOf181
  v44:=Tryz.zeroValue181
  t46:=Tryz.underlying48
  a46:=Tryz.isAgg48
  z46:=Tryz.sizeOf48
  v46:=Tryz.zeroValue48
  t53:=Tryz.underlying189
  a53:=Tryz.isAgg189
  z53:=Tryz.sizeOf189
  v53:=Tryz.zeroValue189
  t57:=Tryz.underlying193
  a57:=Tryz.isAgg193
  z57:=Tryz.sizeOf193
  v57:=Tryz.zeroValue193
  t63:=Tryz.underlying196
  a63:=Tryz.isAgg196
  z63:=Tryz.sizeOf196
  v63:=Tryz.zeroValue196
  t64:=Tryz.underlying197
  a64:=Tryz.isAgg197
  z64:=Tryz.sizeOf197
  v64:=Tryz.zeroValue197 }
end Go.Proofs
