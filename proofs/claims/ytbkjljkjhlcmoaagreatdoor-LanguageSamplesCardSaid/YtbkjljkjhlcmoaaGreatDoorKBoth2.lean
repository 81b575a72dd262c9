/- Part 2. -/
import Derived.MapKept
import Derived.Laws.IdiomStrings
import Derived.WalkSpells
import Derived.OrdersHeld
import Derived.OrdersIn
import Derived.Laws.Cover1
import Derived.Laws.Small
import Derived.Laws.CopyRow
import Derived.Laws.IdiomCopy
import Derived.Laws.Runes
import Derived.Laws.Strings2
import Derived.Laws.Slices
import Derived.RangeFuncRecord
import Derived.Test.YtbkjljkjhlcmoaaGreatDoorKBoth1
set_option linter.unusedVariables false
set_option linter.unusedSimpArgs false
namespace Go.Lx
open Go.RowKit
def cn {K V:Type} [BEq K] (m:List (K×V)) (k:K):Option V:=(m.find? fun p=>p.1 == k).map (·.2)
def hY {K V:Type} [BEq K]:List (K×V)→K→V→List (K×V)
 | [],k,v=>[(k,v)]
 | p::m,k,v=>bif p.1 == k then (k,v)::m else p::hY m k v
structure kj (P:Program) (T:TypeId) {K:Type} [BEq K] (ek:K→Value):Prop where
  check:∀(b:Bool) (k:K) (w:World),(Instr.checkKey b 10000 T (ek k)).run P w=.ok () w
  find:∀(k:K) (es:List MapEntry) (ks:List K) (w:World),es.map (·.key)=ks.map ek→(Instr.findKey T (ek k) es).run P w=.ok ((ks.findIdx? (· == k)).bind fun i=>(es[i]?).map fun e=>(i,e.val)) w
  stays:∀k:K,Instr.sameBits 10000 (ek k) (ek k)=true
  lawful:LawfulBEq K
  inj:∀a b:K,ek a=ek b→a=b
theorem lL {K:Type} [BEq K] {ek:K→Value} {D:TypeDesc} (h:∀a b,Instr.sameNow D (ek a) (ek b)=some (a == b)) (c:∀a b:K,(a == b)=(b == a)) (k:K) :
 ∀(es:List MapEntry) (ks:List K) (i:Nat),es.map (·.key)=ks.map ek→Instr.findNow D (ek k) es i=some ((ks.findIdx? (· == k)).bind fun j=>(es[j]?).map fun e=>(i+j,e.val))
 | [],[],i,_=>rfl
 | [],_::_,_,h=>by simp at h
 | _::_,[],_,h=>by simp at h
 | e::es,x::ks,i,he=>by
  simp only [List.map_cons,List.cons.injEq] at he;simp only [Instr.findNow,he.1,h];rw [c k x,List.findIdx?_cons];cases hx:x == k
  ·have:=lL h c k es ks (i+1) he.2;simp only [this];cases hj:ks.findIdx? (· == k) with
   | none=>simp
   | some j=>simp [Nat.add_assoc,Nat.add_comm 1 j]
  ·simp
theorem cd {P:Program} {T:TypeId} {k:IntKind} (c:P.underlying T=some (.int k)):kj P T (K:=Int) (Value.int k) where
 check b n w:=MapKept.run_checkKey c (k:=.int k n) rfl b 9999
 find n es ks w h:=by
  have:=lL (ek:=Value.int k) (D:=.int k) (fun a b=>by simp [Instr.sameNow]) (fun a b=>BEq.comm) n es ks 0 h;simp only [Instr.findKey,Sem.run_bind,run_underlying c,Jz,this];simp
 stays n:=MapKept.sameBits_self (d:=.int k) (k:=.int k n) rfl 10000
 lawful:=inferInstance
 inj a b h:=by cases h; rfl
theorem pY (a b:Str):((ByteArray.mk a.toArray) == (ByteArray.mk b.toArray))=(a == b):=by
 rw [Bool.eq_iff_iff,MapKept.bytes_beq];simp
theorem dJ {P:Program} {T:TypeId} (c:P.underlying T=some .string):kj P T (K:=Str) ao where
 check b n w:=MapKept.run_checkKey c (k:=ao n) trivial b 9999
 find n es ks w h:=by
  have:=lL (ek:=ao) (D:=.string) (fun a b=>by simp only [Instr.sameNow,ao]; rw [pY]) (fun a b=>BEq.comm) n es ks 0 h;simp only [Instr.findKey,Sem.run_bind,run_underlying c,Jz,this];simp
 stays n:=MapKept.sameBits_self (d:=.string) (k:=ao n) trivial 10000
 lawful:=inferInstance
 inj a b h:=by simpa [ao] using h
structure cz {K V:Type} (ek:K→Value) (vf:V→Value) (es:Array MapEntry) (ck:Nat) (m:List (K×V)):Prop where
  ents:es.toList.map (fun e=>(e.key,e.val))=m.map fun p=>(ek p.1,vf p.2)
  stamp:MapKept.Stamped es ck
theorem cz.keys {K V:Type} {ek:K→Value} {vf:V→Value} {es:Array MapEntry} {ck:Nat} {m:List (K×V)} (h:cz ek vf es ck m):es.toList.map (·.key)=(m.map (·.1)).map ek:=by
 have:=congrArg (List.map Prod.fst) h.ents;simpa [JN,Function.comp_def] using this
theorem cz.val {K V:Type} {ek:K→Value} {vf:V→Value} {es:Array MapEntry} {ck:Nat} {m:List (K×V)} (h:cz ek vf es ck m) (i:Nat):(es.toList[i]?).map (·.val)=(m[i]?).map fun p=>vf p.2:=by
 have:=congrArg (fun l=>(l[i]?).map Prod.snd) h.ents;simpa [JL,Function.comp_def] using this
theorem cz.size {K V:Type} {ek:K→Value} {vf:V→Value} {es:Array MapEntry} {ck:Nat} {m:List (K×V)} (h:cz ek vf es ck m):es.size=m.length:=by
 have:=congrArg List.length h.ents;simpa using this
theorem jT {K V:Type} [BEq K] (m:List (K×V)) (k:K):cn m k=(((m.map (·.1)).findIdx? (· == k)).bind fun i=>(m[i]?)).map (·.2):=by
 unfold cn;congr 1;induction m with
 | nil=>rfl
 | cons p m ih=>
  simp only [List.find?_cons,List.map_cons,List.findIdx?_cons];cases hp:p.1 == k
  ·simp only [ih,Bool.false_eq_true,if_false];cases (m.map (·.1)).findIdx? (· == k) <;> simp
  ·simp
theorem sv {K V:Type} [BEq K] {m:List (K×V)} {k:K} {v:V} (h:(m.map (·.1)).findIdx? (· == k)=none):hY m k v=m++[(k,v)]:=by
 induction m with
 | nil=>rfl
 | cons p m ih=>
  simp only [List.map_cons,List.findIdx?_cons] at h;cases hp:p.1 == k
  ·rw [hp] at h;simp only [Bool.false_eq_true,if_false,Option.map_eq_none_iff] at h;simp [hY,hp,ih h]
  ·rw [hp] at h; simp at h
theorem jg {K V:Type} [BEq K] {m:List (K×V)} {k:K} {v:V} {i:Nat} (h:(m.map (·.1)).findIdx? (· == k)=some i):hY m k v=m.set i (k,v)∧i<m.length∧((m[i]?).map fun p=>p.1 == k)=some true:=by
 induction m generalizing i with
 | nil=>simp at h
 | cons p m ih=>
  simp only [List.map_cons,List.findIdx?_cons] at h;cases hp:p.1 == k
  ·rw [hp] at h;simp only [Bool.false_eq_true,if_false,Option.map_eq_some_iff] at h;obtain ⟨j,a,rfl⟩:=h;obtain ⟨c,d,b⟩:=ih a;exact ⟨by simp [hY,hp,c],by simp; omega,by simpa using b⟩
  ·rw [hp] at h;simp at h;subst h;exact ⟨by simp [hY,hp],by simp,by simp [hp]⟩
theorem cz.push {P:Program} {Tk:TypeId} {K V:Type} [BEq K] {ek:K→Value} {vf:V→Value} {es:Array MapEntry} {f:Nat} {m:List (K×V)} {kk:K} {vv:V} (h:cz ek vf es f m) (i:kj P Tk ek) (j:(m.map (·.1)).findIdx? (· == kk)=none) :
 cz ek vf (es.push ⟨ek kk,vf vv,f⟩) (f+1) (hY m kk vv):=by
 have p:=h.keys;obtain ⟨g,n,l⟩:=h.stamp;refine ⟨by rw [sv j]; simp [h.ents],fun x hx=>?_,?_,?_⟩
 ·simp only [Array.toList_push,Ju,Jt] at hx;rcases hx with hx|rfl
  ·have:=g x hx; omega
  ·simp
 ·simp only [Array.toList_push,JB,List.map_cons,List.map_nil];refine List.nodup_append.2 ⟨n,by simp,fun a d b c e=>?_⟩;obtain ⟨x,hx,rfl⟩:=JJ.1 d;have:=g x hx;simp only [Jt] at c;omega
 ·simp only [Array.toList_push,JB,List.map_cons,List.map_nil];refine List.nodup_append.2 ⟨l,by simp,fun a d b c e=>?_⟩;simp only [Jt] at c;rw [p] at d;obtain ⟨k',o,rfl⟩:=JJ.1 d;have q:k'=kk:=i.inj _ _ (e.trans c);have:=i.lawful;have k:=List.findIdx?_eq_none_iff.1 j k' o;rw [q] at k;simp at k
theorem jE {es:Array MapEntry} {c j:Nat} {k v:Value} (h:MapKept.Stamped es c) (a:j<es.size) (d:es[j].key=k):MapKept.Stamped (es.modify j fun e=>{ e with key:=k,val:=v }) c:=by
 have b:(es.modify j fun e=>{ e with key:=k,val:=v }).toList.map (·.born)=es.toList.map (·.born):=by
  apply List.ext_getElem?;intro q;simp only [Array.toList_modify,JL,List.getElem?_modify,Array.getElem?_toList]
  by_cases hq:j=q
  ·subst hq; simp [a]
  ·simp [hq]
 have f:(es.modify j fun e=>{ e with key:=k,val:=v }).toList.map (·.key)=es.toList.map (·.key):=by
  apply List.ext_getElem?;intro q;simp only [Array.toList_modify,JL,List.getElem?_modify,Array.getElem?_toList]
  by_cases hq:j=q
  ·subst hq; simp [a,d]
  ·simp [hq]
 refine ⟨fun x hx=>?_,by rw [b]; exact h.2.1,by rw [f]; exact h.2.2⟩;have:x.born∈es.toList.map (·.born):=by rw [←b]; exact JJ.2 ⟨x,hx,rfl⟩
 obtain ⟨y,hy,e⟩:=JJ.1 this;rw [←e]; exact h.1 y hy
section
variable {P:Program} {n:Fr} {Q:EPost} {E:Env} {w:World} {ops:Array Oper} {rest:List Oper} {d:Tmp} {d':Option Tmp} {ty:TypeId} {ps:String} {af:Array Edge} {gd:Option (Nat×Bool)} {g0 g:Hp} {w0:World} {L:List Res}
variable {K V:Type} [BEq K] {ek:K→Value} {vf:V→Value} {T Tk Te:TypeId}
theorem dx (hs:Sep g0 w0 g w L) (hd:Nat.blt d n.sz=true) (k:∀b w',Sep g0 w0 g w' (.obj b (.map #[] 0)::L)→OW P n ops Q rest (bR E d (.map (some b))) w') :
 OW P n ops Q (⟨some d,.makeMap T none,ty,ps,af,none⟩::rest) E w:=
 O (.inl (by simp [execOp,Instr.makeMap])) hd (k _ _ (hs.alloc (.map #[] 0)))
omit [BEq K] in
theorem eo:cz ek vf #[] 0 []:=⟨rfl,by simp [MapKept.Stamped]⟩
theorem gp {es:Array MapEntry} {f b i:Nat} {m:List (K×V)} {x y:Operand} {kk:K} {agg:Bool} {size r:Nat} {z:V} (q:P.underlying T=some (.map Tk Te)) (o:dF P Te agg size r (vf z)) (a:kj P Tk ek)
 (k:Sep g0 w0 g w L) (l:L[i]?=some (.obj b (.map es f))) (c:cz ek vf es f m) (hx:ev E x=.map (some b)) (hy:ev E y=ek kk) :
 bo P E ⟨d',.lookup T x y true,ty,ps,af,gd⟩ w (.tuple #[vf ((cn m kk).getD z),.bool (cn m kk).isSome]) w:=.inl (by
 have d:=(k.at l).out;simp only [Res.okB] at d;have n:=a.find kk es.toList (m.map (·.1)) w c.keys;have h:=c.val;rw [jT];simp only [execOp,Instr.lookup,hx,hy,Sem.run_bind,run_underlying q,Jz,getObj,Sem.run,d,Sem.run_pure,a.check,n];cases hj:(m.map (·.1)).findIdx? (· == kk) with
 | none=>simp [dv o]
 | some j=>
  have:=h j;obtain ⟨_,s,_⟩:=jg (v:=z) hj;cases hm':m[j]? with
  | none=>rw [List.getElem?_eq_none_iff] at hm'; omega
  | some p=>
   rw [hm'] at this;cases he':es.toList[j]? with
   | none=>rw [he'] at this; simp at this
   | some e=>
    rw [he'] at this;simp only [Option.map_some,Option.some.injEq] at this;simp only [Jp,he',Option.map_some,hm',Option.getD_some,Option.isSome_some,if_true];rw [this];rfl)
omit [BEq K] in
theorem jJ {es:Array MapEntry} {c b i:Nat} {m:List (K×V)} {x:Operand} (h:P.underlying T=some (.map Tk Te)) (d:Sep g0 w0 g w L) (f:L[i]?=some (.obj b (.map es c))) (e:cz ek vf es c m) (hx:ev E x=.map (some b)) :
 bo P E ⟨d',.call { callee:=.builtin .len,args:=#[x],argTypes:=#[T] },ty,ps,af,gd⟩ w (.int .i64 m.length) w:=.inl (by
 have a:=(d.at f).out;simp only [Res.okB] at a;rw [←e.size];simp [execOp,resolve,invoke,builtin,hx,Builtin.len_,run_underlying h,getObj,Sem.run,a,goInt])
theorem eN {es:Array MapEntry} {s b i:Nat} {m:List (K×V)} {x y u:Operand} {kk:K} {vv:V} (G:P.underlying T=some (.map Tk Te)) (c:kj P Tk ek)
 (B:Sep g0 w0 g w L) (F:L[i]?=some (.obj b (.map es s))) (d:cz ek vf es s m) (hx:ev E x=.map (some b)) (hy:ev E y=ek kk) (A:ev E u=vf vv)
 (k:∀h clock' w',cz ek vf h clock' (hY m kk vv)→Sep g0 w0 g w' (L.set i (.obj b (.map h clock')))→OW P n ops Q rest E w') :
 OW P n ops Q (⟨none,.mapUpdate T x y u,ty,ps,af,none⟩::rest) E w:=by
 have f:=(B.at F).out;simp only [Res.okB] at f;have r:=c.find kk es.toList (m.map (·.1)) w d.keys;have I:=(Array.getElem?_eq_some_iff.1 f).1;have bR:∀(h:Array MapEntry) (z:Nat),Sep g0 w0 g { w with heap:=w.heap.setIfInBounds b (.map h z) } (L.set i (.obj b (.map h z))):=fun h z=>
  B.upd F ⟨rfl,rfl,rfl,by simp,fun k _ a=>by
   simp only [Res.blk] at a;simp only [Array.getElem?_setIfInBounds];rw [if_neg (fun e=>a (by rw [e]))]⟩ ⟨by simp [Res.okB,I]⟩ (fun S J=>.inl (by simpa [Res.blk] using J))
 have H:=d.keys;cases hj:(m.map (·.1)).findIdx? (· == kk) with
 | none=>
  rw [hj] at r;refine O0 (.inl ?_) (k (es.push ⟨ek kk,vf vv,s⟩) (s+1) _ ?_ (bR _ _))
  ·simp only [execOp,Instr.mapUpdate,hx,hy,A,Sem.run_bind,run_underlying G,Jz,getObj,Sem.run,f,Sem.run_pure,c.check,r];simp [setObj,Sem.run,f]
  ·exact d.push c hj
 | some j=>
  obtain ⟨R,N,t⟩:=jg (v:=vv) hj;have o:j<es.size:=by rw [d.size]; exact N
  have D:es[j].key=ek kk:=by
   have a:=congrArg (fun l=>l[j]?) H;simp only [JL,Array.getElem?_toList,JN] at a;rw [Array.getElem?_eq_getElem o] at a;cases hmj:m[j]? with
   | none=>rw [List.getElem?_eq_none_iff] at hmj; omega
   | some p=>
    rw [hmj] at a t;simp only [Option.map_some,Option.some.injEq] at t a;have:=c.lawful;rw [a,←eq_of_beq t]; rfl
  rw [hj] at r;simp only [Jp,Array.getElem?_toList,Array.getElem?_eq_getElem o,Option.map_some] at r;refine O0 (.inl ?_) (k (es.modify j fun e=>{ e with key:=ek kk,val:=vf vv }) s _ ?_ (bR _ _))
  ·simp only [execOp,Instr.mapUpdate,hx,hy,A,Sem.run_bind,run_underlying G,Jz,getObj,Sem.run,f,Sem.run_pure,c.check,r];simp [Instr.keyThatStays,o,D,c.stays,setObj,Sem.run,f]
  ·refine ⟨?_,jE d.stamp o D⟩;rw [R,List.map_set,←d.ents];apply List.ext_getElem?;intro q;simp only [Array.toList_modify,JL,List.getElem?_modify,JM,JA,Array.length_toList,Array.getElem?_toList]
   by_cases hq:j=q
   ·subst hq; simp [o]
   ·simp [hq]
theorem ea {es:Array MapEntry} {s b i:Nat} {m:List (K×V)} {x y u:Operand} {kk:K} {vv:V} (G:P.underlying T=some (.map Tk Te)) (c:kj P Tk ek)
 (B:Sep g0 w0 g w L) (F:L[i]?=some (.obj b (.map es s))) (d:cz ek vf es s m) (hx:ev E x=.map (some b)) (hy:ev E y=ek kk) (A:ev E u=vf vv)
 (k:∀h clock' w',cz ek vf h clock' (hY m kk vv)→Sep g0 w0 g w' (L.set i (.obj b (.map h clock')))→OW P n ops Q rest E w') :
 OW P n ops Q (⟨none,.insert T x y u,ty,ps,af,none⟩::rest) E w:=by
 have f:=(B.at F).out;simp only [Res.okB] at f;have r:=c.find kk es.toList (m.map (·.1)) w d.keys;have I:=(Array.getElem?_eq_some_iff.1 f).1;have bR:∀(h:Array MapEntry) (z:Nat),Sep g0 w0 g { w with heap:=w.heap.setIfInBounds b (.map h z) } (L.set i (.obj b (.map h z))):=fun h z=>
  B.upd F ⟨rfl,rfl,rfl,by simp,fun k _ a=>by
   simp only [Res.blk] at a;simp only [Array.getElem?_setIfInBounds];rw [if_neg (fun e=>a (by rw [e]))]⟩ ⟨by simp [Res.okB,I]⟩ (fun S J=>.inl (by simpa [Res.blk] using J))
 have H:=d.keys;cases hj:(m.map (·.1)).findIdx? (· == kk) with
 | none=>
  rw [hj] at r;refine O0 (.inl ?_) (k (es.push ⟨ek kk,vf vv,s⟩) (s+1) _ ?_ (bR _ _))
  ·simp only [execOp,Instr.mapUpdate,hx,hy,A,Sem.run_bind,run_underlying G,Jz,getObj,Sem.run,f,Sem.run_pure,c.check,r];simp [setObj,Sem.run,f]
  ·exact d.push c hj
 | some j=>
  obtain ⟨R,N,t⟩:=jg (v:=vv) hj;have o:j<es.size:=by rw [d.size]; exact N
  have D:es[j].key=ek kk:=by
   have a:=congrArg (fun l=>l[j]?) H;simp only [JL,Array.getElem?_toList,JN] at a;rw [Array.getElem?_eq_getElem o] at a;cases hmj:m[j]? with
   | none=>rw [List.getElem?_eq_none_iff] at hmj; omega
   | some p=>
    rw [hmj] at a t;simp only [Option.map_some,Option.some.injEq] at t a;have:=c.lawful;rw [a,←eq_of_beq t]; rfl
  rw [hj] at r;simp only [Jp,Array.getElem?_toList,Array.getElem?_eq_getElem o,Option.map_some] at r;refine O0 (.inl ?_) (k (es.modify j fun e=>{ e with key:=ek kk,val:=vf vv }) s _ ?_ (bR _ _))
  ·simp only [execOp,Instr.mapUpdate,hx,hy,A,Sem.run_bind,run_underlying G,Jz,getObj,Sem.run,f,Sem.run_pure,c.check,r];simp [Instr.keyThatStays,o,D,c.stays,setObj,Sem.run,f]
  ·refine ⟨?_,jE d.stamp o D⟩;rw [R,List.map_set,←d.ents];apply List.ext_getElem?;intro q;simp only [Array.toList_modify,JL,List.getElem?_modify,JM,JA,Array.length_toList,Array.getElem?_toList]
   by_cases hq:j=q
   ·subst hq; simp [o]
   ·simp [hq]
end
section
variable {P:Program} {E:Env} {w:World} {d:Option Tmp} {ty:TypeId} {ps:String} {af:Array Edge} {gd:Option (Nat×Bool)}
theorem ra {x:Operand} {vs:List Value} {i:Nat} {v:Value} (hx:ev E x=.tuple vs.toArray) (hi:vs[i]?=some v):bo P E ⟨d,.extract x i,ty,ps,af,gd⟩ w v w:=.inl (by simp [execOp,Instr.extract,hx,hi])
theorem EM {T T':TypeId} {x y:Operand} {a b:Bool} (hT:P.underlying T=some .bool) (hx:ev E x=.bool a) (hy:ev E y=.bool b):bo P E ⟨d,.binOp .eql T x y T',ty,ps,af,gd⟩ w (.bool (a == b)) w:=
 aR (by rw [hx,eqGuard_at_bool]; rfl) (by rw [hx,hy,run_eql_bool w T a b hT])
theorem ni {T T':TypeId} {x y:Operand} {a b:Str} (hx:ev E x=ao a) (hy:ev E y=ao b):bo P E ⟨d,.binOp .eql T x y T',ty,ps,af,gd⟩ w (.bool (a == b)) w:=
 aR (by rw [hx,hy]; rfl) (by rw [hx,hy]; simp [binOp,Op.stringOp,ao])
theorem EA {T T':TypeId} {x y:Operand} {a b:Str} (hx:ev E x=ao a) (hy:ev E y=ao b):bo P E ⟨d,.binOp .neq T x y T',ty,ps,af,gd⟩ w (.bool (a != b)) w:=
 aR (by rw [hx,hy]; rfl) (by rw [hx,hy]; simp [binOp,Op.stringOp,ao,bne])
def Bp (a b:Str):Option Str:=if a.length+b.length≤9223372036854775807 then some (a++b) else none
theorem zH {T T':TypeId} {x y:Operand} {a b c:Str} (hx:ev E x=ao a) (hy:ev E y=ao b) (h:Bp a b=some c):bo P E ⟨d,.binOp .add T x y T',ty,ps,af,gd⟩ w (ao c) w:=
 aR (by rw [hx,hy]; rfl) (by
  unfold Bp at h;split at h
  ·rename_i e;cases h
   have:=run_string_add_sum (P:=P) (w:=w) ⟨a.toArray⟩ ⟨b.toArray⟩ (by simpa [ByteArray.size_mk'] using e);rw [hx,hy];simp only [binOp,ao];rw [this];congr 2
  ·cases h)
theorem sg {f:FuncId} {fn:Func} {xs:Array Operand} {j:Array TypeId} {args:List Value} (g:P.funcs[f]?=some fn) (a:fn.body.isSome=true) (e:(fn.name == "runtime.NumGoroutine")=false) (b:xs.toList.map (ev E)=args) :
 (execOp (ev E) ⟨d,.call { callee:=.value (.func f),args:=xs,argTypes:=j },ty,ps,af,gd⟩).run P w=.ok (.enter f args.toArray) w:=by
 have b:xs.map (ev E)=args.toArray:=by apply Array.ext'; rw [Array.toList_map,b]
 have k:fn.body.isNone=false:=by cases hfb:fn.body <;> simp [hfb] at a ⊢
 have c:¬ fn.name = "runtime.NumGoroutine":=by simpa using e
 have i:¬ fn.body=none:=by intro h; rw [h] at a; cases a
 simp [execOp,resolve,Deferred.ofValue,invoke,callFunc,ev,b,g,i,c]
end
def dL (l:List Int):Str:=l.map fun n=>UInt8.ofNat n.toNat
theorem pS:∀(ns:List Int) (s:ByteArray),ns.foldl (fun r n=>r.push (UInt8.ofNat n.toNat)) s=⟨(s.data.toList++dL ns).toArray⟩
 | [],s=>by simp [dL]
 | n::ns,s=>by
  simp only [List.foldl_cons,pS ns];simp [dL,ByteArray.push]
section
variable {P:Program} {E:Env} {w:World} {d:Option Tmp} {ty:TypeId} {ps:String} {af:Array Edge} {gd:Option (Nat×Bool)}
theorem mz {S T e:TypeId} {x:Operand} {v:Value} {l:List Int} {xs:List Value} {g:Hp} (k:P.underlying S=some (.slice e)) (f:P.underlying e=some (.int .u8)) (h:P.underlying T=some .string)
    (hx:ev E x=v) (p:Dt w v l.length xs) (hr:ag (ai .u8) g xs l):bo P E ⟨d,.convert S T x,ty,ps,af,gd⟩ w (ao (dL l)) w:=.inl (by
  have o:xs=l.map (Value.int .u8):=by
    apply List.ext_getElem?;intro i;have y:xs.length=l.length:=by simpa [ai] using hr.1
    by_cases hi:i<l.length
    · have:=hr.2 i l[i] (Jn hi)
      simp only [ai,Nat.mul_one] at this;have b:=congrArg (fun c=>c[0]?) this;simp only [List.getElem?_take,List.getElem?_drop] at b;simp at b;rw [b]; simp [hi]
    · rw [JH (by omega),JH (by simp; omega)]
  rcases p with ⟨rfl,q,_⟩|⟨a,c,rfl,s⟩
  · have:l=[]:=JP q
    subst this;have:=run_convert_bytes_string (P:=P) w S T e none 0 0 k f h;simp only [execOp,Sem.run_bind,hx,this];rfl
  · have t:=run_convert_bytes_string (P:=P) w S T e (some a) l.length c k f h
    have n:=eR (P:=P) (w:=w) a xs 0 #[] (fun j u r=>by rw [Nat.zero_add]; exact s j u r);have m:=run_bytesToString (P:=P) w a l.length c l (by
      rw [o] at n;simpa [loadCells] using n)
    rw [pS] at m;simp only [execOp,Sem.run_bind,hx,t,m,Jz,Sem.run_pure,ao];simp)
end
def CF (P:Program) (f:FuncId):Prop:=∃fn,P.funcs[f]?=some fn∧fn.body.isSome=true∧(fn.name == "runtime.NumGoroutine")=false
theorem bw {P:Program} {f:FuncId} {fn:Func} (h:P.funcs[f]?=some fn) (hb:fn.body.isSome=true) (hn:(fn.name == "runtime.NumGoroutine")=false):CF P f:=⟨fn,h,hb,hn⟩
section
variable {P:Program} {n:Fr} {Q:EPost} {E:Env} {w:World} {ops:Array Oper} {rest:List Oper} {d:Tmp} {ty:TypeId} {ps:String} {af:Array Edge} {gd:Option (Nat×Bool)}
theorem C {f:FuncId} {xs:Array Operand} {j:Array TypeId} (args:List Value) {R:Value→World→Prop} (a:CF P f) (e:xs.toList.map (ev E)=args) (c:aT P f args.toArray w R) (b:Nat.blt d n.sz=true)
 (k:∀v w',R v w'→OW P n ops Q rest (bR E d v) w'):OW P n ops Q (⟨some d,.call { callee:=.value (.func f),args:=xs,argTypes:=j },ty,ps,af,none⟩::rest) E w:=by
 obtain ⟨fn,i,h,g⟩:=a;exact oL (sg i h g e) b rfl c k
theorem OG {d0:Tmp} {op:Op} {v:Value} {w':World} {j:Nat} {want:Bool} {b:Bool} {oj:Oper} (hj:ops[j]?=some oj) (hdj:oj.dst=some d0) (hb:ev E (.tmp d0)=.bool b) (hne:(b == want)=true)
 (hr:bo P E ⟨some d,op,ty,ps,af,some (j,want)⟩ w v w') (hd:Nat.blt d n.sz=true) (k:OW P n ops Q rest (bR E d v) w'):OW P n ops Q (⟨some d,op,ty,ps,af,some (j,want)⟩::rest) E w:=
 oK rfl hj hdj hb hne hr hd k
theorem OK {d0:Tmp} {op:Op} {j:Nat} {want:Bool} {b:Bool} {oj:Oper} (hj:ops[j]?=some oj) (hdj:oj.dst=some d0) (hb:ev E (.tmp d0)=.bool b) (hne:(b == want)=false)
 (hd:Nat.blt d n.sz=true) (k:OW P n ops Q rest (bR E d undef) w):OW P n ops Q (⟨some d,op,ty,ps,af,some (j,want)⟩::rest) E w:=
 na rfl hj hdj hb hne hd k
theorem CG {f:FuncId} {xs:Array Operand} {t:Array TypeId} {c:Tmp} {j:Nat} {a:Bool} {b:Bool} {oj:Oper} (g:ops[j]?=some oj) (i:oj.dst=some c) (o:ev E (.tmp c)=.bool b) (e:(b == a)=true)
 (args:List Value) {R:Value→World→Prop} (h:CF P f) (p:xs.toList.map (ev E)=args) (m:aT P f args.toArray w R) (l:Nat.blt d n.sz=true)
 (k:∀v w',R v w'→OW P n ops Q rest (bR E d v) w'):OW P n ops Q (⟨some d,.call { callee:=.value (.func f),args:=xs,argTypes:=t },ty,ps,af,some (j,a)⟩::rest) E w:=by
 obtain ⟨fn,s,r,q⟩:=h;exact vj rfl g i o e (sg s r q p) l m k
theorem SG {Q:Env→Prop} {d0:Tmp} {op:Op} {v:Value} {j:Nat} {want:Bool} {b:Bool} {oj:Oper} (hj:ops[j]?=some oj) (hdj:oj.dst=some d0) (hb:ev E (.tmp d0)=.bool b) (hne:(b == want)=true)
 (hr:bo P E ⟨some d,op,ty,ps,af,some (j,want)⟩ w v w) (hd:Nat.blt d n.sz=true) (k:SW P n ops w Q rest (bR E d v)):SW P n ops w Q (⟨some d,op,ty,ps,af,some (j,want)⟩::rest) E:=
 Du rfl hj hdj hb hne hr hd k
theorem SK {Q:Env→Prop} {d0:Tmp} {op:Op} {j:Nat} {want:Bool} {b:Bool} {oj:Oper} (hj:ops[j]?=some oj) (hdj:oj.dst=some d0) (hb:ev E (.tmp d0)=.bool b) (hne:(b == want)=false)
 (hd:Nat.blt d n.sz=true) (k:SW P n ops w Q rest (bR E d undef)):SW P n ops w Q (⟨some d,op,ty,ps,af,some (j,want)⟩::rest) E:=
 Dv rfl hj hdj hb hne hd k
theorem aP {d:Option Tmp} {c x y:Operand} {b:Bool} {v:Value} (hc:ev E c=.bool b) (hb:b=true) (h:ev E x=v):bo P E ⟨d,.pick c x y,ty,ps,af,gd⟩ w v w:=sf hc (by subst hb; exact h)
theorem aS {d:Option Tmp} {c x y:Operand} {b:Bool} {v:Value} (hc:ev E c=.bool b) (hb:b=false) (h:ev E y=v):bo P E ⟨d,.pick c x y,ty,ps,af,gd⟩ w v w:=sf hc (by subst hb; exact h)
end
def dj {α:Type} (τ:Ty α) (agg:Bool) (g:Hp) (v:Value) (x:α):Prop:=∃cs,qM agg cs=v∧τ.rel g cs x
def fuel:Nat:=18446744073709551616
def bH {σ ρ:Type} (o:Option (nG σ ρ)) (k:σ→Option ρ):Option ρ:=match o with
 | none=>none
 | some (.next s)=>k s
 | some (.stop r)=>some r
def zQ {σ ρ:Type} (o:nG σ ρ) (k:σ→Option ρ):Option ρ:=match o with
 | .next s=>k s
 | .stop r=>some r
theorem cY {σ ρ:Type} {o:Option (nG σ ρ)} {k:σ→Option ρ} {r:ρ} (h:bH o k=some r):∃s,o=some s∧zQ s k=some r:=by
 cases o with
 | none=>cases h
 | some s=>cases s <;> exact ⟨_,rfl,h⟩
section
variable {P:Program} {E:Env} {w:World} {d:Option Tmp} {ty:TypeId} {ps:String} {af:Array Edge} {gd:Option (Nat×Bool)}
theorem kR (f:Nat→Option Bool×Unit→Sem (ForInStep (Option Bool×Unit))) (p:Nat→Bool) :
 ∀(l:List Nat),(∀i∈l,(f i (none,())).run P w=.ok (if p i then .yield (none,()) else .done (some false,())) w)→
 (forIn l (none,()) f).run P w=.ok (if l.all p then (none,()) else (some false,())) w
 | [],_=>by simp [Sem.run_pure]
 | i::l,h=>by
  rw [List.forIn_cons,Sem.run_bind,h i (by simp)];cases hp:p i
  ·simp [Sem.run_pure,hp]
  ·simp only [if_true,Jz,List.all_cons,hp,Bool.true_and];exact kR f p l (fun j a=>h j (by simp [a]))
theorem ew (D:Nat) {T:TypeId} {k:IntKind} (hT:P.underlying T=some (.int k)) (a b:Int):(Op.equalIn (D+1) T (.int k a) (.int k b)).run P w=.ok (a == b) w:=by
 simp [Op.equalIn,run_underlying hT]
theorem fI (D:Nat) {T el:TypeId} {n:Nat} {k:IntKind} {p:Nat} {z:Value} (m:P.underlying T=some (.array n el)) (o:P.underlying el=some (.int k)) (f:dF P el false 1 p z) (a b:bM n) :
 (Op.equalIn (D+2) T (cL k a) (cL k b)).run P w=.ok (a == b) w:=by
 have g:∀(c:bM n) (i:Nat) (e:i<n),(part el (c.1.map (Value.int k)).toArray (i*1)).run P w=.ok (.int k (c.1[i]'(by rw [c.2]; exact e))) w:=by
  intro c i e;have d:i<c.1.length:=by rw [c.2]; exact e
  simp [part,dV f,d]
 unfold cL;rw [Op.equalIn];simp only [Sem.run_bind,run_underlying m,Jz,bX f];rw [Std.Legacy.Range.forIn_eq_forIn_range'];rw [kR (P:=P) (w:=w) _ (fun i=>a.1[i]? == b.1[i]?)]
 ·simp only [Jz];have:((List.range' 0 n 1).all fun i=>a.1[i]? == b.1[i]?)=(a == b):=by
   rw [Bool.eq_iff_iff];simp only [List.all_eq_true,beq_iff_eq];constructor
   ·intro h;apply Subtype.ext;apply List.ext_getElem?;intro i
    by_cases e:i<n
    ·exact h i (by simp [List.mem_range']; omega)
    ·rw [JH (by rw [a.2]; omega),JH (by rw [b.2]; omega)]
   ·rintro rfl i _; rfl
  simp only [Std.Legacy.Range.size,Nat.sub_zero,Nat.add_sub_cancel,Nat.div_one];rw [this];cases (a == b) <;> rfl
 ·intro i e;have d:i<n:=by simp [List.mem_range',Std.Legacy.Range.size] at e; omega
  have l:i<a.1.length:=by rw [a.2]; exact d
  have j:i<b.1.length:=by rw [b.2]; exact d
  simp only [Sem.run_bind,g a i d,g b i d,Jz,ew D o,Jn l,Jn j];cases h:(a.1[i] == b.1[i]) <;> simp_all
theorem EL {T T' el:TypeId} {x y:Operand} {n:Nat} {k:IntKind} {h:Nat} {z:Value} {a b:bM n} (f:P.underlying T=some (.array n el)) (g:P.underlying el=some (.int k)) (e:dF P el false 1 h z)
 (hx:ev E x=cL k a) (hy:ev E y=cL k b) (c:P.eqGuardType P.depth T=false):bo P E ⟨d,.binOp .eql T x y T',ty,ps,af,gd⟩ w (.bool (a == b)) w:=
 aR (by rw [hx,hy]; simp only [eqGuard,cL]; simp [program,Sem.run,c]) (by
  rw [hx,hy];have:=fI (P:=P) (w:=w) 9998 f g e a b;unfold cL at *;simp only [binOp,Sem.run_bind,Op.equal,Op.maxDepth,this,Jz,Sem.run_pure])
theorem Ez {T T' el:TypeId} {x y:Operand} {n:Nat} {k:IntKind} {h:Nat} {z:Value} {a b:bM n} (f:P.underlying T=some (.array n el)) (g:P.underlying el=some (.int k)) (e:dF P el false 1 h z)
 (hx:ev E x=cL k a) (hy:ev E y=cL k b) (c:P.eqGuardType P.depth T=false):bo P E ⟨d,.binOp .neq T x y T',ty,ps,af,gd⟩ w (.bool (a != b)) w:=
 aR (by rw [hx,hy]; simp only [eqGuard,cL]; simp [program,Sem.run,c]) (by
  rw [hx,hy];have:=fI (P:=P) (w:=w) 9998 f g e a b;unfold cL at *;simp only [binOp,Sem.run_bind,Op.equal,Op.maxDepth,this,Jz,Sem.run_pure,bne])
def qd (k:IntKind) (n:Int):Int:=bits .xor k (if k.signed then -1 else k.max) n
theorem xf {T:TypeId} {x:Operand} {k:IntKind} {a:Int} (hx:ev E x=.int k a):bo P E ⟨d,.unOp .xor T x,ty,ps,af,gd⟩ w (.int k (qd k a)) w:=.inl (by simp [execOp,hx,Op.unary,intBits_xor,qd])
theorem FI {T:TypeId} {x:Operand} {k:IntKind} {a:Int} (hx:ev E x=.int k a):bo P E ⟨d,.unOp .neg T x,ty,ps,af,gd⟩ w (.int k (k.wrap (-a))) w:=.inl (by simp [execOp,hx,Op.unary,Op.intArith])
end
theorem bo.cast {P:Program} {E:Env} {o:Oper} {w w':World} {v v':Value} (h:bo P E o w v w') (e:v=v'):bo P E o w v' w':=e ▸ h
section
variable {P:Program} {n:Fr} {Q:EPost} {E:Env} {w:World} {ops:Array Oper} {rest:List Oper} {d:Tmp} {ty:TypeId} {ps:String} {af:Array Edge}
theorem kP {a:Act} (ha:cV n E a) {j:Nat} {oj:Oper} {d:Tmp} (hj:ops[j]?=some oj) (hd:oj.dst=some d) (hb:E d=undef):yielded ops a.tmps j=none:=by
 have:=ha.get d;rw [hb,Array.getD_eq_getD_getElem?] at this;unfold yielded;simp only [hj,Jp,hd];cases hx:a.tmps[d]? with
 | none=>rfl
 | some x=>rw [hx] at this; simp at this; subst this; rfl
theorem jn {c:Tmp} {op:Op} {j:Nat} {e:Bool} {oj:Oper} (f:ops[j]?=some oj) (g:oj.dst=some c) (i:ev E (.tmp c)=undef)
 (h:Nat.blt d n.sz=true) (k:OW P n ops Q rest (bR E d undef) w):OW P n ops Q (⟨some d,op,ty,ps,af,some (j,e)⟩::rest) E w:=by
 intro a b;refine wpListIn_step fun K l=>?_
 have hy:=kP b f g i;rw [if_neg (by simp [Region.wanted,hy])];exact ⟨fun _ _=>trivial,l _ _ (k _ (b.put (d:=some d) h undef))⟩
end
section
variable {P:Program} {n:Fr} {Q:EPost} {E:Env} {w:World} {ops:Array Oper} {rest:List Oper} {d:Option Tmp} {ty:TypeId} {ps:String} {af:Array Edge} {gd:Option (Nat×Bool)}
theorem au {T e:TypeId} {x:Operand} {f b o o':Nat} {g:Array Field} {c:Field} {agg:Bool} {size m:Nat} {z:Value} (l:P.underlying T=some (.struct g)) (h:dF P e agg size m z) (j:g[f]?=some c) (k:c.type=e) (a:Nat.blt 0 size=true) (hx:ev E x=.pointer (some ⟨b,o,none⟩)) (i:o'=o+c.offset) :
 bo P E ⟨d,.fieldAddr T x f,ty,ps,af,gd⟩ w (.pointer (some ⟨b,o',none⟩)) w:=.inl (by
 subst k; subst i;have a:¬ size=0:=by have:0<size:=Nat.le_of_ble_eq_true a; omega
 simp [execOp,Instr.fieldAt,run_underlying l,j,hx,Instr.sureAddr,fieldPlace,bX h,a,Addr.add])
theorem xe {T j:TypeId} {x:Operand} {f:Nat} {k:Array Field} {e:Field} {agg:Bool} {size p:Nat} {z:Value} {cs ds:List Value} {v:Value} (i:P.underlying T=some (.struct k)) (a:dF P j agg size p z) (h:k[f]?=some e) (o:e.type=j)
 (hx:ev E x=.agg cs.toArray) (pre post:List Value) (m:cs=pre++(ds++post)) (g:pre.length=e.offset) (n:ds.length=size) (l:qM agg ds=v) (b:agg=true∨size=1) :
 bo P E ⟨d,.field T x f,ty,ps,af,gd⟩ w v w:=.inl (by
 subst o; subst m; subst l; subst n;cases agg with
 | true=>
  simp [execOp,Instr.field,run_underlying i,h,hx,asAgg,part,dV a,bX a,←g,qM]
 | false=>
  have b:ds.length=1:=by simpa using b
  match ds,b with
  | [c],_=>simp [execOp,Instr.field,run_underlying i,h,hx,asAgg,part,dV a,←g,qM])
theorem wt (off:Nat):∀(cs:List Value) (q:Nat) (b old:List Value),b.length=off+q→cs.length≤old.length→
 (cs.zipIdx q).foldl (fun a (x:Value×Nat)=>a.setIfInBounds (off+x.2) x.1) (b++old).toArray=(b++cs++old.drop cs.length).toArray:=by
 intro cs;induction cs with
 | nil=>intro q b old _ _; simp
 | cons c cs ihc=>
  intro q b old e d
  match old,d with
  | o::old,d=>
   simp only [List.zipIdx_cons,List.foldl_cons];have f:(b++o::old).toArray.setIfInBounds (off+q) c=((b++[c])++old).toArray:=by
    rw [←e];simp [List.setIfInBounds_toArray]
   rw [f,ihc (q+1) (b++[c]) old (by simp [e]; omega) (by simpa using d)];simp
theorem aO {a:Nat→Option (Nat×Nat)} {cells:List Value} {i off size:Nat} {v:Value} {rest:List (Nat×Value)} {r:Option (Array Value)} (pre old post cs:List Value) (e:a i=some (off,size)) (f:cells=pre++(old++post)) (d:v.cells.toList=cs) (h:pre.length=off) (g:old.length=size) (b:cs.length=size)
 (k:Instr.fill a (pre++(cs++post)).toArray rest=r):Instr.fill a cells.toArray ((i,v)::rest)=r:=by
 subst f; subst h; subst g;subst d;have c:v.cells.size=old.length:=by simpa using b
 simp only [Instr.fill,e];rw [if_neg (by simp [c])];rw [←Array.foldl_toList,Array.toList_zipIdx,wt pre.length v.cells.toList 0 pre (old++post) (by simp) (by simp [c]),←k];congr 2;rw [Jv,List.drop_append_of_le_length (by rw [b]; exact Nat.le_refl _),b,List.drop_length,Jx]
theorem bl {place:Nat→Option (Nat×Nat)} {cells:Array Value}:Instr.fill place cells []=some cells:=rfl
theorem yI {place:Nat→Option (Nat×Nat)} {cells cs:List Value} (h:cells=cs):Instr.fill place cells.toArray []=some cs.toArray:=by rw [h]; rfl
theorem aW {T:TypeId} (places:List (Nat×Nat)) (zs:List Value) {vs:List (Nat×Value)} {r:Option (Array Value)} (h:∀vs,P.built T vs=Instr.fill (places.toArray[·]?) zs.toArray vs) (k:Instr.fill (places.toArray[·]?) zs.toArray vs=r):P.built T vs=r:=(h vs).trans k
theorem aC:∀v∈([]:List Value),v.oneCell'=true:=by simp
theorem aj {a:Value} {l:List Value} (h:a.oneCell'=true) (t:∀v∈l,v.oneCell'=true):∀v∈a::l,v.oneCell'=true:=List.forall_mem_cons.2 ⟨h,t⟩
theorem az {l m:List Value} (h:∀v∈l,v.oneCell'=true) (t:∀v∈m,v.oneCell'=true):∀v∈l++m,v.oneCell'=true:=List.forall_mem_append.2 ⟨h,t⟩
theorem bP {v:Value} {n:Nat} (h:∃a cap,v=.slice a n cap):v.oneCell'=true:=by obtain ⟨a,c,h⟩:=h; rw [h]; rfl
theorem aK {v:Value} (h:v.oneCell'=true):v.cells.toList=[v]:=by cases v <;> first|rfl|simp [Value.oneCell'] at h
theorem bi {T:TypeId} {a:Array (Nat×Operand)} {vs:List (Nat×Value)} {cs:List Value} (e:a.toList.map (fun p=>(p.1,ev E p.2))=vs) (f:P.built T vs=some cs.toArray) :
 bo P E ⟨d,.build T a,ty,ps,af,gd⟩ w (.agg cs.toArray) w:=.inl (by
 have c:(a.map fun (x:Nat×Operand)=>(x.1,ev E x.2))=vs.toArray:=by apply Array.ext'; rw [Array.toList_map,←e]
 have b:(a.map fun ((i,x):Nat×Operand)=>(i,ev E x))=vs.toArray:=c;have:=run_build (P:=P) w T vs.toArray cs.toArray (by simpa using f);simp only [execOp,Sem.run_bind,b,this,Jz,Sem.run_pure])
theorem gk {b o off:Nat} {cs:List Value} (f:∀j u,cs[j]?=some u→w.cell? ⟨b,o+j,none⟩=some u) (pre ds post:List Value) (e:cs=pre++(ds++post)) (c:pre.length=off) :
 ∀j u,ds[j]?=some u→w.cell? ⟨b,o+off+j,none⟩=some u:=by
 intro j u a;subst e; subst c;rw [Nat.add_assoc];refine f _ u ?_;have d:j<ds.length:=(Jo.1 a).1;rw [JK (by omega),Nat.add_sub_cancel_left,Jw d];exact a
end
def kl (T:TypeId) (b:Nat) (cs:List Value) (g:Hp):Prop:=g b=some (.cells cs.toArray T (0,0))
theorem kl.mono {T:TypeId} {b:Nat} {cs:List Value} {g g':Hp} (h:kl T b cs g) (hg:be g g'):kl T b cs g':=hg _ _ h
theorem kl.cells {T:TypeId} {b:Nat} {cs:List Value} {g:Hp} {w:World} (h:kl T b cs g) (hi:dE g w):∀j u,cs[j]?=some u→w.cell? ⟨b,0+j,none⟩=some u:=fun j u hj=>by
 have:=hi b _ h;simp [World.cell?,this,hj]
section
variable {g0 g:Hp} {w0 w:World} {L:List Res}
theorem Sep.relBox (h:Sep g0 w0 g w L) {i b:Nat} {T:TypeId} {cs:List Value} (hi:L[i]?=some (oG b T cs)):∃g',be g g'∧kl T b cs g'∧Sep g0 w0 g' w (L.eraseIdx i):=by
 have ho:=(h.at hi).out;obtain ⟨hs,hle⟩:=h.release hi (b:=b) rfl ho;exact ⟨_,hle,by simp [kl,uE],hs⟩
theorem Sep.lent (h:Sep g0 w0 g w L) {g1 g1':Hp} {w':World} (he:ei g1 w g1' w'):∃g',be g g'∧Sep g0 w0 g' w' L:=by
 have hx:ei g w (fun k=>if k<w.heap.size then g k else g1' k) w':=by
  refine ⟨he.below,fun b hb=>if_pos hb,fun b o hb=>?_⟩;split at hb
  ·rename_i hlt;have:=h.imm b o hb;rw [he.below.block b hlt]; exact this
  ·exact he.imm b o hb
 exact ⟨_,hx.le h.imm,h.call hx⟩
end
theorem Sep.callOwn {g0 g:Hp} {w0 w:World} {L L':List Res} (h:Sep g0 w0 g w L) {g':Hp} {w':World} (a:Sep g w g' w' L'):Sep g0 w0 g' w' (L'++L):=by
 have d:=h.call a.ext;refine ⟨d.ext,fun r hr=>?_,fun r hr b c=>?_,?_⟩
 ·rcases Ju.1 hr with hr|hr
  ·exact a.ok r hr
  ·exact d.ok r hr
 ·rcases Ju.1 hr with hr|hr
  ·have:=a.fresh r hr b c;have e:=h.ext.below.size;exact ⟨by omega,this.2⟩
  ·exact d.fresh r hr b c
 ·refine List.pairwise_append.2 ⟨a.apart,h.apart,fun r hr s e b c f=>?_⟩;have j:=a.fresh r hr b c;have i:=Res.lt (h.ok s e) f;omega
theorem Sep.sel {g0 g:Hp} {w0 w:World} {L L':List Res} (h:Sep g0 w0 g w L) (a:List Nat) (v:a.Nodup) (k:L'.map some=a.map (L[·]?)):Sep g0 w0 g w L':=by
 have p:∀r∈L',r∈L:=by
  intro r hr;have:some r∈L'.map some:=List.mem_map_of_mem hr;rw [k] at this;obtain ⟨i,_,c⟩:=JJ.1 this;exact List.mem_of_getElem? c
 refine ⟨h.ext,fun r hr=>h.ok r (p r hr),fun r hr=>h.fresh r (p r hr),?_⟩;have A:L'.length=a.length:=by have:=congrArg List.length k; simpa using this
 have t:∀(i:Nat) (c:i<L'.length),L[a[i]'(by omega)]?=some L'[i]:=by
  intro i c;have:=congrArg (fun l=>l[i]?) k;have z:i<a.length:=by omega
  simp [c,z] at this;exact this.symm
 rw [List.pairwise_iff_getElem];intro i j c x y b s q;have f:=t i c;have d:=t j x;obtain ⟨n,f⟩:=Jo.1 f;obtain ⟨m,d⟩:=Jo.1 d;have u:a[i]'(by omega)≠a[j]'(by omega):=fun e=>by
  exact List.pairwise_iff_getElem.1 v i j (by omega) (by omega) y e
 have o:=List.pairwise_iff_getElem.1 h.apart;rcases Nat.lt_or_gt_of_ne u with hlt|hlt
 ·exact o _ _ n m hlt b (by rw [f]; exact s) (by rw [d]; exact q)
 ·exact o _ _ m n hlt b (by rw [d]; exact q) (by rw [f]; exact s)
section
variable {P:Program} {n:Fr} {Q:EPost} {E:Env} {w:World} {ops:Array Oper} {rest:List Oper} {d:Tmp} {ty:TypeId} {ps:String} {af:Array Edge} {gd:Option (Nat×Bool)}
theorem dw {d:Option Tmp} {f:FuncId} {cap:Array Operand} {vs:List Value} (hc:cap.toList.map (ev E)=vs):bo P E ⟨d,.makeFunc (.func f) #[] cap,ty,ps,af,gd⟩ w (.func (.func f) #[] vs.toArray) w:=.inl (by
 have:cap.map (ev E)=vs.toArray:=by apply Array.ext'; rw [Array.toList_map,hc]
 simp [execOp,Instr.makeFunc,this])
theorem qU {d:Option Tmp} {f:FuncId} {x:Operand} {xs:Array Operand} {k:Array TypeId} {args cap:List Value} (e:CF P f) (hx:ev E x=.func (.func f) #[] cap.toArray) (a:xs.toList.map (ev E)=args) :
 (execOp (ev E) ⟨d,.call { callee:=.value x,args:=xs,argTypes:=k },ty,ps,af,gd⟩).run P w=.ok (.enter f (args++cap).toArray) w:=by
 obtain ⟨fn,j,b,i⟩:=e;have a:xs.map (ev E)=args.toArray:=by apply Array.ext'; rw [Array.toList_map,a]
 have c:¬ fn.name = "runtime.NumGoroutine":=by simpa using i
 have g:¬ fn.body=none:=by intro h; rw [h] at b; cases b
 simp [execOp,resolve,Deferred.ofValue,invoke,callFunc,hx,a,j,g,c]
theorem CV {f:FuncId} {x:Operand} {xs:Array Operand} {g:Array TypeId} (args cap:List Value) {R:Value→World→Prop} (a:CF P f) (hx:ev E x=.func (.func f) #[] cap.toArray) (e:xs.toList.map (ev E)=args) (c:aT P f (args++cap).toArray w R) (b:Nat.blt d n.sz=true)
 (k:∀v w',R v w'→OW P n ops Q rest (bR E d v) w'):OW P n ops Q (⟨some d,.call { callee:=.value x,args:=xs,argTypes:=g },ty,ps,af,none⟩::rest) E w:=
 oL (qU a hx e) b rfl c k
theorem Ih {f:FuncId} {x:Operand} {xs:Array Operand} {q:Array TypeId} {c:Tmp} {j:Nat} {a:Bool} {b:Bool} {oj:Oper} (g:ops[j]?=some oj) (i:oj.dst=some c) (o:ev E (.tmp c)=.bool b) (e:(b == a)=true)
 (args cap:List Value) {R:Value→World→Prop} (h:CF P f) (hx:ev E x=.func (.func f) #[] cap.toArray) (p:xs.toList.map (ev E)=args) (m:aT P f (args++cap).toArray w R) (l:Nat.blt d n.sz=true)
 (k:∀v w',R v w'→OW P n ops Q rest (bR E d v) w'):OW P n ops Q (⟨some d,.call { callee:=.value x,args:=xs,argTypes:=q },ty,ps,af,some (j,a)⟩::rest) E w:=
 vj rfl g i o e (qU h hx p) l m k
end
def qm {α β:Type} (P:Program) (A:Hp→Value→α→Prop) (B:Hp→Value→β→Prop) (v:Value) (F:α→Option β) (g:Hp):Prop:=
 ∃f cap,v=.func (.func f) #[] (List.toArray cap)∧CF P f∧∀g' w' a x r,be g g'→dE g' w'→A g' a x→F x=some r→
  aT P f ([a]++cap).toArray w' (fun v w''=>∃g'',B g'' v r∧ei g' w' g'' w'')
theorem qm.mono {α β:Type} {P:Program} {A:Hp→Value→α→Prop} {B:Hp→Value→β→Prop} {v:Value} {F:α→Option β} {g g':Hp} (h:qm P A B v F g) (hg:be g g'):qm P A B v F g':=by
 obtain ⟨f,cap,h1,h2,h3⟩:=h;exact ⟨f,cap,h1,h2,fun g2 w' a x r hle=>h3 g2 w' a x r (hg.trans hle)⟩
def jq {β:Type} (P:Program) (B:Hp→Value→β→Prop) (v:Value) (F:Option β) (g:Hp):Prop:=
 ∃f cap,v=.func (.func f) #[] (List.toArray cap)∧CF P f∧∀g' w' r,be g g'→dE g' w'→F=some r→
  aT P f (([]:List Value)++cap).toArray w' (fun v w''=>∃g'',B g'' v r∧ei g' w' g'' w'')
theorem jq.mono {β:Type} {P:Program} {B:Hp→Value→β→Prop} {v:Value} {F:Option β} {g g':Hp} (h:jq P B v F g) (hg:be g g'):jq P B v F g':=by
 obtain ⟨f,cap,h1,h2,h3⟩:=h;exact ⟨f,cap,h1,h2,fun g2 w' r hle=>h3 g2 w' r (hg.trans hle)⟩
theorem jq.one {β:Type} {P:Program} {B:Hp→Value→β→Prop} {v:Value} {F:Option β} {g:Hp} (h:jq P B v F g):v.oneCell'=true:=by
 obtain ⟨f,cap,rfl,_⟩:=h; rfl
def zt {β:Type} (P:Program) (B:Hp→Value→β→Prop):Ty (Option β):=
 ⟨1,fun g cs F=>∃v,cs=[v]∧jq P B v F g,fun hg ⟨v,h1,h2⟩=>⟨v,h1,h2.mono hg⟩,fun ⟨v,h,_⟩=>by rw [h]; rfl,fun ⟨v,h,hf⟩ u hu=>by rw [h] at hu; simp at hu; subst hu; exact hf.one⟩
section
variable {P:Program} {E:Env} {w:World} {d:Option Tmp} {ty:TypeId} {ps:String} {af:Array Edge} {gd:Option (Nat×Bool)}
theorem zG {T T' e:TypeId} {x y:Operand} {a:Option Addr} {n c b g:Nat} {v:Value} (h:P.underlying T=some (.slice e)) (hx:ev E x=v) (f:v=.slice a n c) (hy:ev E y=.slice none b g) :
 bo P E ⟨d,.binOp .eql T x y T',ty,ps,af,gd⟩ w (.bool a.isNone) w:=aR (by rw [hx,f,hy]; rfl) (by
 rw [hx,f,hy];simp only [binOp];simp [Op.equal,Op.maxDepth,Lib.run_equalIn_slice_nil w 9999 T e a n c b g h])
theorem cv.none_nil {α:Type} {τ:Ty α} {g:Hp} {v:Value} {l:List α} (h:cv τ g v l) {n c:Nat} (hv:v=.slice none n c):l=[]:=by
 obtain ⟨xs,hr,hs⟩:=h;rcases hs with ⟨hn,_⟩|⟨b,off,cap,arr,e,fz,h1,_⟩
 ·exact JP hn
 ·rw [h1] at hv; cases hv
theorem tw (b:Bool):b=true∨b=false:=by cases b <;> simp
end
def Ae:Str→Str→Bool
 | _,[]=>false
 | [],_::_=>true
 | a::x,b::y=>decide (a<b) || (a == b && Ae x y)
theorem pH:∀a b:Str,Op.bytesLess a b=Ae a b
 | _,[]=>by cases ‹List UInt8› <;> rfl
 | [],_::_=>rfl
 | a::x,b::y=>by simp only [Op.bytesLess,Ae,pH x y]
section
variable {P:Program} {E:Env} {w:World} {d:Option Tmp} {ty:TypeId} {ps:String} {af:Array Edge} {gd:Option (Nat×Bool)} {T T':TypeId} {x y:Operand} {a b:Str}
theorem EH (hx:ev E x=ao a) (hy:ev E y=ao b):bo P E ⟨d,.binOp .lss T x y T',ty,ps,af,gd⟩ w (.bool (Ae a b)) w:=
 aR (by rw [hx,hy]; rfl) (by rw [hx,hy]; simp [binOp,Op.stringOp,ao,pH])
theorem EI (hx:ev E x=ao a) (hy:ev E y=ao b):bo P E ⟨d,.binOp .leq T x y T',ty,ps,af,gd⟩ w (.bool (Ae a b || a == b)) w:=
 aR (by rw [hx,hy]; rfl) (by rw [hx,hy]; simp [binOp,Op.stringOp,ao,pH])
theorem EJ (hx:ev E x=ao a) (hy:ev E y=ao b):bo P E ⟨d,.binOp .gtr T x y T',ty,ps,af,gd⟩ w (.bool (!(Ae a b || a == b))) w:=
 aR (by rw [hx,hy]; rfl) (by rw [hx,hy]; simp [binOp,Op.stringOp,ao,pH])
theorem EK (hx:ev E x=ao a) (hy:ev E y=ao b):bo P E ⟨d,.binOp .geq T x y T',ty,ps,af,gd⟩ w (.bool (!(Ae a b))) w:=
 aR (by rw [hx,hy]; rfl) (by rw [hx,hy]; simp [binOp,Op.stringOp,ao,pH])
end
theorem jK {P:Program} {w:World} {T:TypeId} {size bytes:Nat} {z:Value} (ht:dF P T false size bytes z) {cs:Array Value} {o:Nat} {v:Value} (hv:cs[o]?=some v):(part T cs o).run P w=.ok v w:=by
 simp [part,dV ht,hv]
theorem jR {P:Program} {T:TypeId} {g f:Field} {k:IntKind} {H:Nat} {z:Value} {K:Type} [BEq K] [LawfulBEq K] {ek:K→Value} (d c:K→Int) (q:P.underlying T=some (.struct #[g,f])) (G:P.underlying g.type=some (.int k)) (F:P.underlying f.type=some (.int k))
 (t0:dF P g.type false 1 H z) (s:dF P f.type false 1 H z) (u:g.offset=0) (t:f.offset=1) (A:g.name≠ "_") (v:f.name≠ "_") (I:P.stoodInHeld T=false)
 (l:∀x,ek x=.agg #[.int k (d x),.int k (c x)]) (D:∀x y,(x == y)=(d x == d y && c x == c y)):kj P T ek where
 check b x w:=by
  rw [l];have c0:∀n (a:Int) w,(Instr.checkKey b (n+1) g.type (.int k a)).run P w=.ok () w:=fun n a w=>MapKept.run_checkKey G (k:=.int k a) rfl b n
  have c1:∀n (a:Int) w,(Instr.checkKey b (n+1) f.type (.int k a)).run P w=.ok () w:=fun n a w=>MapKept.run_checkKey F (k:=.int k a) rfl b n
  have o:∀w,(part g.type #[.int k (d x),.int k (c x)] 0).run P w=.ok (.int k (d x)) w:=fun w=>jK t0 rfl
  have m:∀w,(part f.type #[.int k (d x),.int k (c x)] 1).run P w=.ok (.int k (c x)) w:=fun w=>jK s rfl
  have key:∀n,(Instr.checkKey b (n+1+1) T (.agg #[.int k (d x),.int k (c x)])).run P w=.ok () w:=fun n=>by
   rw [Instr.checkKey];simp only [Sem.run_bind,run_underlying q,Jz];simp [u,t,A,v,o,m,c0 n,c1 n]
  exact key 9998
 find x es ks w h:=by
  have J:∀y w,(Op.equal T (ek x) (ek y)).run P w=.ok (x == y) w:=fun y w=>by
   have o:∀x w,(part g.type #[.int k (d x),.int k (c x)] 0).run P w=.ok (.int k (d x)) w:=fun x w=>jK t0 rfl
   have m:∀x w,(part f.type #[.int k (d x),.int k (c x)] 1).run P w=.ok (.int k (c x)) w:=fun x w=>jK s rfl
   have L:∀w,(program).run P w=.ok P w:=fun w=>rfl
   rw [l,l,D];have key:∀n,(Op.equalIn (n+1+1) T (.agg #[.int k (d x),.int k (c x)]) (.agg #[.int k (d y),.int k (c y)])).run P w=.ok (d x == d y && c x == c y) w:=fun n=>by
    rw [Op.equalIn];simp only [Sem.run_bind,run_underlying q,Jz,L,I];have R:=fun a b w=>ew (P:=P) (w:=w) n G a b
    have Q:=fun a b w=>ew (P:=P) (w:=w) n F a b
    cases hA:d x == d y <;> cases hB:c x == c y <;> simp [u,t,A,v,o,m,R,Q,hA,hB] <;> simp_all
   exact key 9998
  have p:Instr.findNow (.struct #[g,f]) (ek x) es 0=none∨es=[]:=by
   match es,ks,h with
   | [],_,_=>exact .inr rfl
   | e::es,[],h=>simp at h
   | e::es,y::ks,h=>
    simp only [List.map_cons,List.cons.injEq] at h;refine .inl ?_;rw [l];simp [Instr.findNow,Instr.sameNow]
  have N:∀(es:List MapEntry) (ks:List K) (i:Nat),es.map (·.key)=ks.map ek→(Instr.findAsking T (ek x) es i).run P w=.ok ((ks.findIdx? (· == x)).bind fun j=>(es[j]?).map fun e=>(i+j,e.val)) w:=by
   intro es;induction es with
   | nil=>intro ks i h; cases ks with
    | nil=>rfl
    | cons _ _=>simp at h
   | cons e es ih=>
    intro ks i h
    match ks,h with
    | y::ks,h=>
     simp only [List.map_cons,List.cons.injEq] at h;rw [Instr.findAsking,h.1];simp only [Sem.run_bind,J,Jz];rw [List.findIdx?_cons,BEq.comm (a:=y)];cases hx:x == y
     ·have:=ih ks (i+1) h.2;simp only [Bool.false_eq_true,if_false,this];cases hj:ks.findIdx? (· == x) with
      | none=>simp
      | some j=>simp [Nat.add_assoc,Nat.add_comm 1 j]
     ·simp
  have B:=N es ks 0 h;simp only [Nat.zero_add] at B;simp only [Instr.findKey,Sem.run_bind,run_underlying q,Jz];rcases p with p|rfl
  ·rw [p]; exact B
  ·cases ks with
   | nil=>rfl
   | cons _ _=>simp at h
 stays x:=by
  rw [l];simp [Instr.sameBits]
 lawful:=inferInstance
 inj x y h:=by
  rw [l,l] at h;have r:=(Array.mk.inj (Value.agg.inj h));simp only [List.cons.injEq,Value.int.injEq,true_and,and_true] at r;exact eq_of_beq (by rw [D,r.1,r.2]; simp)
def Ds (acc:List Nat):List Edge→List Nat
 | []=>acc
 | e::l=>Ds (if Region.binds .any e && !acc.contains e.on then e.on::acc else acc) l
def va (ops:Array Oper) (acc:List Nat) (j:Nat):List Nat:=match ops[j]? with
 | some o=>Ds acc o.after.toList
 | none=>acc
def yZ (ops:Array Oper) (j:Nat):Nat→List Nat
 | 0=>va ops [] j
 | k+1=>(yZ ops j k).foldl (va ops) (yZ ops j k)
def kS (ops:Array Oper) (qs:List Nat) (j:Nat):Bool:=!(qs.all fun i=>(yZ ops j 8).contains i)
def Cl (ops:Array Oper) (listed:Array Bool):Prop:=∀(k:Nat) (o:Oper),ops[k]?=some o→listed.getD k false=true→∀e∈o.after,Region.binds .any e=true→listed.getD e.on false=true
theorem kh {a:Array Bool}:∀(l:List Edge) (b:List Nat),(∀x∈b,a.getD x false=true)→(∀e∈l,Region.binds .any e=true→a.getD e.on false=true)→∀x∈Ds b l,a.getD x false=true
 | [],_,h,_=>h
 | e::l,b,h,c=>by
  unfold Ds;refine kh l _ ?_ (fun f d=>c f (List.mem_cons_of_mem _ d));split
  ·rename_i hc;simp only [Bool.and_eq_true] at hc;intro x hx;rcases JI.1 hx with rfl|hx
   ·exact c e (List.mem_cons_self ..) hc.1
   ·exact h x hx
  ·exact h
theorem uZ {ops:Array Oper} {a:Array Bool} {j:Nat} (m:Cl ops a) (i:∀o,ops[j]?=some o→∀e∈o.after,Region.binds .any e=true→a.getD e.on false=true):∀k,∀x∈yZ ops j k,a.getD x false=true:=by
 intro k;induction k with
 | zero=>
  unfold yZ va;split
  ·rename_i o ho; exact kh _ _ (by simp) (fun e b=>i o ho e (by simpa using b))
  ·simp
 | succ k ih=>
  unfold yZ;have:∀(l c:List Nat),(∀x∈l,a.getD x false=true)→(∀x∈c,a.getD x false=true)→∀x∈l.foldl (va ops) c,a.getD x false=true:=by
   intro l;induction l with
   | nil=>exact fun _ _ h=>h
   | cons y l g=>
    intro c d f;refine g _ (fun x hx=>d x (List.mem_cons_of_mem _ hx)) ?_;unfold va;split
    ·rename_i o ho; exact kh _ _ f (fun e b=>m y o ho (d y (List.mem_cons_self ..)) e (by simpa using b))
    ·exact f
  exact this _ _ ih ih
def ky (ops:Array Oper):Bool:=ops.all fun o=>match o.op with|.defer _=>false|_=>true
theorem sp {ops:Array Oper} (h:ky ops=true) (j:Nat) (o:Oper) (c:Call) (hj:ops[j]?=some o):o.op≠.defer c:=by
 intro hc;unfold ky at h;rw [Array.all_eq_true] at h;obtain ⟨hlt,hj⟩:=Array.getElem?_eq_some_iff.1 hj;have:=h j hlt;rw [hj,hc] at this;cases this
def fg (n:Fr) (P:Program) (ops:Array Oper) (Q:Exit→Act→World→Prop) (S:World→Prop) (qs:List Nat):Nat→Array Bool→Act→World→Prop
 | 0,listed,a,w=>Region.ready .any ops listed=[]∧Q .normal a w
 | fuel+1,listed,a,w=>
  (Region.ready .any ops listed=[]→Q .normal a w)∧
  ∀i∈Region.ready .any ops listed,wpOpIn (Fz n) 0 P ops Q i (fun b w'=>(kS ops qs i=true→S w')∧fg n P ops Q S qs fuel (listed.setIfInBounds i true) b w') a w
section
variable {n:Fr} {P:Program} {ops:Array Oper} {Q:Exit→Act→World→Prop} {S:World→Prop} {qs:List Nat}
theorem oR:∀(fuel:Nat) (listed:Array Bool) (a:Act) (w:World),fg n P ops Q S qs fuel listed a w→wpAnyIn (Fz n) 0 P .any ops Q fuel listed a w
 | 0,_,_,_,h=>h
 | fuel+1,_,_,_,h=>⟨h.1,fun i hi=>wpOpIn_mono (fun a' w' h'=>oR fuel _ a' w' h'.2) (h.2 i hi)⟩
theorem kO {i:Nat} {o:Oper} {v:Value} {a:Act} (d:ops[i]?=some o) (hy:YieldsIf P ops S o v a)
 {K:Act→World→Prop} {w:World} (e:S w) (h:K (a.put o.dst v) w):wpOpIn (Fz n) 0 P ops Q i K a w:=by
 unfold Go.wpOpIn;simp only [d];rcases hy with ⟨b,c⟩|⟨b,rfl⟩
 ·rw [if_pos b];refine ⟨fun _ _=>trivial,?_⟩;rw [eI (c w e) (by simp)];exact h
 ·rw [if_neg (by simp [b])]; exact ⟨fun _ _=>trivial,h⟩
theorem rN {j:Nat} {g oj:Oper} {v:Value} (D:ops[j]?=some oj) (F:g.apart ops oj=true)
 (B:∀cs b,g.op≠.select cs b) (A:∀cs b,oj.op≠.select cs b) (q:∀c,oj.op≠.defer c)
 (o:∀c a w,Q (.panic c) (a.put g.dst v) w→Q (.panic c) a w) {K:Act→World→Prop} {a:Act} {w:World}
 (hy:YieldsIf P ops S g v a) (h:wpOpIn (Fz n) 0 P ops Q j K (a.put g.dst v) w) :
 wpOpIn (Fz n) 0 P ops Q j (fun y w'=>YieldsIf P ops S g v y∧K (y.put g.dst v) w') a w:=by
 obtain ⟨t,m,s⟩:=Oper.apart_spec F;have k:∀(a:Act),YieldsIf P ops S g v a→∀u,YieldsIf P ops S g v (a.put oj.dst u):=fun a hy u=>
  hy.of_same (execOp_put g B a oj.dst u s) (wanted_put g a oj.dst u s)
 have z:∀d,YieldsIf P ops S g v { a with defers:=d::a.defers }:=fun d=>hy.of_same rfl rfl
 unfold wpOpIn at *;simp only [D] at *;rw [wanted_put oj a g.dst v t] at h;split
 ·rename_i hw;simp only [hw,if_true] at h;unfold Oper.wpIn at *;refine ⟨fun _ _=>trivial,?_⟩;have h:=h.2;rw [Oper.semAt_eq _ _ _ q,execOp_put oj A a g.dst v t] at h;rw [Oper.semAt_eq _ _ _ q];generalize (execOp a.eval oj).run P w=r at *;cases r with
  | ok x w'=>
   cases x <;> simp only [Oper.uponIn] at h ⊢
   case value u=>exact ⟨k a hy u,by rw [←Act.put_comm a v u m]; exact h⟩
   case skip=>exact ⟨k a hy _,by rw [←Act.put_comm a v undef m]; exact h⟩
   case defer d=>
    refine ⟨k _ (z d) _,?_⟩;rw [←Act.put_comm _ v undef m,←Act.put_defers];exact h
   case enter f args=>
    refine ⟨h.1,CallsIn.mono h.2 fun e p i=>?_⟩;cases e with
    | returned u=>exact ⟨k a hy u,by rw [←Act.put_comm a v u m]; exact i⟩
    | panicked c=>exact o _ _ _ i
    | outgrown=>exact i
   case row row args=>exact ⟨h.1,RowsIn.mono h.2 fun u p i=>⟨k a hy u,by rw [←Act.put_comm a v u m]; exact i⟩⟩
   case round l f tmps assign body=>
    refine ⟨h.1,RoundIn.mono h.2 fun e p i=>?_⟩;cases e with
    | returned u=>exact ⟨k a hy u,by rw [←Act.put_comm a v u m]; exact i⟩
    | panicked c=>exact o _ _ _ i
    | outgrown=>exact i
  | halt x w'=>
   cases x <;> simp only [Oper.uponIn] at h ⊢
   case panic u=>exact o _ _ _ h
 ·rename_i hw;simp only [hw] at h;exact ⟨fun _ _=>trivial,k a hy _,by rw [←Act.put_comm a v undef m]; exact h.2⟩
theorem Cl.start (m:Nat):Cl ops (Array.replicate m false):=fun k o _ hk=>by
 simp only [Array.getD_eq_getD_getElem?,Array.getElem?_replicate] at hk;split at hk <;> simp at hk
theorem Cl.set {listed:Array Bool} (h:Cl ops listed) {i:Nat} (hi:i∈Region.ready .any ops listed):Cl ops (listed.setIfInBounds i true):=by
 intro k o hk hl e he hb
 by_cases hik:i=k
 ·subst hik;obtain ⟨_,o',ho',hall⟩:=mem_ready.1 hi;rw [hk] at ho';obtain rfl:=Option.some.inj ho';exact getD_set_true (hall e he hb)
 ·rw [getD_set_ne false hik] at hl;exact getD_set_true (h k o hk hl e he hb)
theorem rO {i:Nat} {g:Oper} {v:Value} (I:i∈qs) (s:ops[i]?=some g) (z:∀(j:Nat) (o:Oper) cs b,ops[j]?=some o→o.op≠.select cs b) (U:ky ops=true)
 (W:∀c a w,Q (.panic c) (a.put g.dst v) w→Q (.panic c) a w) :
 ∀(fuel:Nat) (f:Array Bool) (a:Act) (w:World),
  (∀j oj,ops[j]?=some oj→j≠i→f.getD j true=false→(∀e∈oj.after,Region.binds .any e=true→e.on≠i)→g.apart ops oj=true)→
  Cl ops f→i∈Region.ready .any ops f→YieldsIf P ops S g v a→S w→
  fg n P ops Q S qs fuel (f.setIfInBounds i true) (a.put g.dst v) w→fg n P ops Q S qs (fuel+1) f a w:=by
 intro fuel;induction fuel with
 | zero=>
  intro f a w _ u hr hy p H;refine ⟨fun h=>(by rw [h] at hr; cases hr),fun j m=>?_⟩
  by_cases hji:j=i
  ·subst hji; exact kO s hy p ⟨fun _=>p,H⟩
  ·have:=ready_mono m hji;rw [H.1] at this;cases this
 | succ fuel ih=>
  intro f a w F u hr hy p H;refine ⟨fun h=>(by rw [h] at hr; cases hr),fun j m=>?_⟩
  by_cases hji:j=i
  ·subst hji; exact kO s hy p ⟨fun _=>p,H⟩
  ·have d:=H.2 j (ready_mono m hji);obtain ⟨D,oj,l,G⟩:=mem_ready.1 m;have J:∀e∈oj.after,Region.binds .any e=true→e.on≠i:=fun e t x T=>by
    have d:=G e t x;have q:=(mem_ready.1 hr).1;rw [T] at d;rcases Nat.lt_or_ge i f.size with h'|h'
    ·simp [h'] at q d; rw [q] at d; cases d
    ·simp [Array.getElem?_eq_none h'] at d
   have B:kS ops qs j=true:=by
    unfold kS;rw [Bool.not_eq_true',List.all_eq_false];refine ⟨i,I,fun V=>?_⟩;have d:=uZ (j:=j) u (fun o A e t x=>by rw [l] at A; obtain rfl:=Option.some.inj A; exact G e t x) 8 i (by simpa using V);have q:=(mem_ready.1 hr).1;rcases Nat.lt_or_ge i f.size with h'|h'
    ·simp [h'] at q d; rw [q] at d; cases d
    ·simp [Array.getElem?_eq_none h'] at d
   have X:=rN l (F j oj l hji D J) (fun cs b=>z i g cs b s) (fun cs b=>z j oj cs b l) (fun c=>sp U j oj c l) W hy d;have R:∀k ok,ops[k]?=some ok→k≠i→(f.setIfInBounds j true).getD k true=false→
    (∀e∈ok.after,Region.binds .any e=true→e.on≠i)→g.apart ops ok=true:=fun k ok N L y K=>by
    refine F k ok N L ?_ K
    by_cases hjk:j=k
    ·subst hjk; exact D
    ·rw [getD_set_ne true hjk] at y; exact y
   refine wpOpIn_mono (fun Z w' r=>⟨fun _=>r.2.1 B,ih (f.setIfInBounds j true) Z w' R (u.set m) (ready_mono hr (Ne.symm hji)) r.1 (r.2.1 B) ?_⟩) X;rw [Array.setIfInBounds_comm _ _ hji];exact r.2.2
theorem tq {i:Nat} {d:Oper} {v:Value} {fuel:Nat} {b:Array Bool} {a:Act} {w:World} (g:i∈qs) (e:ops[i]?=some d)
 (f:Region.noSelect ops=true) (k:ky ops=true) (j:Region.free .any ops b i=true) (hr:(Region.ready .any ops b).contains i=true)
 (l:Cl ops b) (o:∀c a w,Q (.panic c) (a.put d.dst v) w→Q (.panic c) a w) (hy:YieldsIf P ops S d v a) (m:S w)
 (h:fg n P ops Q S qs fuel (b.setIfInBounds i true) (a.put d.dst v) w):fg n P ops Q S qs (fuel+1) b a w:=
 rO g e (Region.noSelect_spec f) k o fuel b a w (Region.free_spec e j) l (by simpa using hr) hy m h
theorem oS {rs:List Nat} {fuel:Nat} {listed:Array Bool} {a:Act} {w:World} (hr:Region.ready .any ops listed=rs) (hne:rs≠[])
 (h:∀i∈rs,wpOpIn (Fz n) 0 P ops Q i (fun a' w'=>(kS ops qs i=true→S w')∧fg n P ops Q S qs fuel (listed.setIfInBounds i true) a' w') a w):fg n P ops Q S qs (fuel+1) listed a w:=
 ⟨fun h0=>absurd (hr ▸ h0) hne,hr ▸ h⟩
theorem tt {listed:Array Bool} {a:Act} {w:World} (hr:Region.ready .any ops listed=[]) (h:Q .normal a w) :
 ∀fuel,fg n P ops Q S qs fuel listed a w
 | 0=>⟨hr,h⟩
 | _+1=>⟨fun _=>h,by rw [hr]; simp⟩
theorem tp {id:Nat} {a:Act} {w:World} (hm:P.follows .mixedOrders=true)
 (h:fg n P ops Q S qs ops.size (Array.replicate ops.size false) a { w with drawn:=w.drawn+1 }):(Code.region id ops true).wpIn (Fz n) 0 P Q a w:=
 wpIn_region_any hm (oR _ _ _ _ h)
end
inductive OT where
  | leaf
  | q (k:Nat) (t:OT)
  | s (k:Nat) (t:OT)
  | c (k:Nat) (t u:OT)
  | n
def OT.depth:OT→Nat
 | .leaf=>0
 | .q _ t=>t.depth+1
 | .s _ t=>t.depth+1
 | .c _ t u=>max (t.depth+1) u.depth
 | .n=>0
def OT.alts:OT→List Nat
 | .c k _ u=>k::u.alts
 | _=>[]
def OT.qs:OT→List Nat
 | .leaf=>[]
 | .q k t=>k::t.qs
 | .s _ t=>t.qs
 | .c _ t u=>t.qs++u.qs
 | .n=>[]
def tk (ops:Array Oper):OT→Bool→Array Bool→Bool
 | .leaf,f,l=>f && (Region.ready .any ops l).isEmpty
 | .q k t,f,l=>f && (Region.ready .any ops l).contains k && Region.free .any ops l k && tk ops t true (l.setIfInBounds k true)
 | .s k t,f,l=>f && Region.ready .any ops l == [k] && tk ops t true (l.setIfInBounds k true)
 | .c k t u,f,l=>(!f || Region.ready .any ops l == (OT.c k t u).alts) && tk ops t true (l.setIfInBounds k true) && tk ops u false l
 | .n,f,_=>!f
def vJ (ops:Array Oper) (t:OT):Bool:=(Region.noSelect ops && ky ops) && decide (t.depth≤ops.size) && tk ops t true (Array.replicate ops.size false)
section
variable {P:Program} {n:Fr} {ops:Array Oper} {Q:EPost} {S:World→Prop} {qs:List Nat}
def QS (b:Bool) (S:World→Prop) (K:Env→World→Prop) (Q:EPost):EPost:=fun e E w=>match e with
 | .normal=>(b=true→S w)∧K E w
 | e=>Q e E w
def YE (P:Program) (ops:Array Oper) (S:World→Prop) (o:Oper) (v:Value) (E:Env):Prop:=
 (o.guard=none∧∀w,S w→(execOp (ev E) o).run P w=.ok (.value v) w)∨
 (∃j want oj d b,o.guard=some (j,want)∧ops[j]?=some oj∧oj.dst=some d∧ev E (.tmp d)=.bool b∧(((b == want)=true∧∀w,S w→(execOp (ev E) o).run P w=.ok (.value v) w)∨((b == want)=false∧v=undef)))∨
 (∃j want oj d,o.guard=some (j,want)∧ops[j]?=some oj∧oj.dst=some d∧ev E (.tmp d)=undef∧v=undef)
def AT (P:Program) (n:Fr) (ops:Array Oper) (Q:EPost) (S:World→Prop) (qs:List Nat):OT→Env→World→Prop
 | .leaf,E,w=>Q .normal E w
 | .q k t,E,w=>∃o v,ops[k]?=some o∧gA n o.dst=true∧S w∧YE P ops S o v E∧AT P n ops Q S qs t (iV E o.dst v) w
 | .s k t,E,w=>∃o,ops[k]?=some o∧OW P n ops (QS (kS ops qs k) S (AT P n ops Q S qs t) Q) [o] E w
 | .c k t u,E,w=>(∃o,ops[k]?=some o∧OW P n ops (QS (kS ops qs k) S (AT P n ops Q S qs t) Q) [o] E w)∧AT P n ops Q S qs u E w
 | .n,_,_=>True
theorem lf {k:Nat} {o:Oper} {K:Env→World→Prop} {E:Env} {w:World} {a:Act} {b:Bool} (i:ops[k]?=some o) (h:OW P n ops (QS b S K Q) [o] E w) (j:cV n E a) :
    wpOpIn (Fz n) 0 P ops (lz n Q) k (fun d w'=>(b=true→S w')∧∃E',cV n E' d∧K E' w') a w:=by
  have h:=h a j;unfold wpOpIn;simp only [i];unfold wpListIn at h;have conv:∀d w',lz n (QS b S K Q) .normal d w'→(b=true→S w')∧∃E',cV n E' d∧K E' w':=fun d w' ⟨E',f,l,m⟩=>⟨l,E',f,m⟩
  split at h
  · rename_i hw
    rw [if_pos hw];unfold Oper.wpIn at *;refine ⟨fun _ _=>trivial,?_⟩;have h:=h.2;generalize (o.semAt (Fz n).round a.eval).run P w=r at *;cases r with
    | ok nx w'=>
      cases nx <;> simp only [Oper.uponIn] at h ⊢ <;> first
        | exact conv _ _ h
        | exact h.elim
        | (refine ⟨h.1,CallsIn.mono h.2 ?_⟩
           rintro e g c;cases e <;> first
             | exact conv _ _ c
             | exact c)
        | (exact ⟨h.1,RowsIn.mono h.2 fun v g c=>conv _ _ c⟩)
        | (refine ⟨h.1,RoundIn.mono h.2 ?_⟩
           rintro e g c;cases e <;> first
             | exact conv _ _ c
             | exact c)
    | halt x w'=>cases x <;> first|exact h|exact h.elim
  · rename_i hw
    rw [if_neg hw];exact ⟨fun _ _=>trivial,conv _ _ h.2⟩
theorem YE.yields {o:Oper} {v:Value} {E:Env} {a:Act} (h:YE P ops S o v E) (i:cV n E a):YieldsIf P ops S o v a:=by
 unfold YieldsIf;rw [i.eval];rcases h with ⟨c,h⟩|⟨j,k,oj,d,b,c,e,f,g,h⟩|⟨j,k,oj,d,c,e,f,g,h⟩
 ·exact .inl ⟨fD c,h⟩
 ·have hy:=eD i e f g;rcases h with ⟨l,h⟩|⟨l,h⟩
  ·exact .inl ⟨by simp only [Region.wanted,c,hy]; simpa using l,h⟩
  ·exact .inr ⟨by simp only [Region.wanted,c,hy]; cases b <;> cases k <;> simp_all,h⟩
 ·have hy:=kP i e f g;exact .inr ⟨by simp [Region.wanted,c,hy],h⟩
theorem BA (H:Region.noSelect ops=true∧ky ops=true) [hP:eM Q]:∀(t:OT),(∀k∈t.qs,k∈qs)→
    (∀(fuel:Nat) (d:Array Bool) (E:Env) (w:World) (a:Act),t.depth≤fuel→tk ops t true d=true→Cl ops d→AT P n ops Q S qs t E w→cV n E a→fg n P ops (lz n Q) S qs fuel d a w)∧
    (∀(fuel:Nat) (d:Array Bool) (E:Env) (w:World) (a:Act),t.depth≤fuel+1→tk ops t false d=true→Cl ops d→(∀i∈t.alts,i∈Region.ready .any ops d)→AT P n ops Q S qs t E w→cV n E a→
      ∀i∈t.alts,wpOpIn (Fz n) 0 P ops (lz n Q) i (fun A w'=>(kS ops qs i=true→S w')∧fg n P ops (lz n Q) S qs fuel (d.setIfInBounds i true) A w') a w):=by
  intro t;induction t with
  | leaf=>
    intro l;refine ⟨fun fuel d E w a _ b _ h g=>tt (by simpa [tk] using b) ⟨E,g,h⟩ fuel,fun _ _ _ _ _ _ b=>by simp [tk] at b⟩
  | n=>exact fun l=>⟨fun _ _ _ _ _ _ b=>by simp [tk] at b,fun _ _ _ _ _ _ _ _ _ _ _ i p=>by simp [OT.alts] at p⟩
  | q k t ih=>
    intro l;have ih:=ih (fun j r=>l j (by simp [OT.qs,r]));refine ⟨fun fuel d E w a e b m h g=>?_,fun _ _ _ _ _ _ b=>by simp [tk] at b⟩;obtain ⟨o,v,x,J,z,hy,y⟩:=h;simp only [tk,Bool.and_eq_true,Bool.true_and] at b
    match fuel,e with
    | fuel+1,e=>
      refine tq (l k (by simp [OT.qs])) x H.1 H.2 b.1.2 b.1.1 m (fun c a w ⟨E,f,q⟩=>(let ⟨E',f',e⟩:=f.same; ⟨E',f',hP.ok c E E' w e q⟩)) (hy.yields g) z ?_;exact ih.1 fuel _ _ _ _ (by simpa [OT.depth] using e) b.2 (m.set (by simpa using b.1.1)) y (g.put J v)
  | s k t ih=>
    intro l;have ih:=ih (fun j r=>l j (by simpa [OT.qs] using r));refine ⟨fun fuel d E w a e b m h g=>?_,fun _ _ _ _ _ _ b=>by simp [tk] at b⟩;obtain ⟨o,x,h⟩:=h;simp only [tk,Bool.and_eq_true,beq_iff_eq,Bool.true_and] at b
    match fuel,e with
    | fuel+1,e=>
      refine oS b.1 (by simp) fun i p=>?_
      have I:i=k:=by simpa using p
      subst I;exact wpOpIn_mono (fun A w' ⟨z,E',f,y⟩=>⟨z,ih.1 fuel _ _ _ _ (by simpa [OT.depth] using e) b.2 (m.set (by rw [b.1]; simp)) y f⟩) (lf x h g)
  | c k t u F D=>
    intro l;have F:=F (fun j r=>l j (by simp [OT.qs,r]));have D:=D (fun j r=>l j (by simp [OT.qs,r]));have G:∀(fuel:Nat) (d:Array Bool) (E:Env) (w:World) (a:Act),(OT.c k t u).depth≤fuel+1→tk ops t true (d.setIfInBounds k true)=true→tk ops u false d=true→Cl ops d→(∀i∈(OT.c k t u).alts,i∈Region.ready .any ops d)→AT P n ops Q S qs (.c k t u) E w→cV n E a→
        ∀i∈(OT.c k t u).alts,wpOpIn (Fz n) 0 P ops (lz n Q) i (fun A w'=>(kS ops qs i=true→S w')∧fg n P ops (lz n Q) S qs fuel (d.setIfInBounds i true) A w') a w:=by
      intro fuel d E w a e L K m B h g i p;obtain ⟨⟨o,x,h⟩,N⟩:=h;have R:max (t.depth+1) u.depth≤fuel+1:=by simpa [OT.depth] using e
      rcases JI.1 p with rfl|p
      · exact wpOpIn_mono (fun A w' ⟨z,E',f,y⟩=>⟨z,F.1 fuel _ _ _ _ (by omega) L (m.set (B _ (by simp [OT.alts]))) y f⟩) (lf x h g)
      · exact D.2 fuel d E w a (by omega) K m (fun q l=>B q (by simp [OT.alts,l])) N g i p
    refine ⟨fun fuel d E w a e b m h g=>?_,fun fuel d E w a e b m B h g=>?_⟩
    · simp only [tk,Bool.and_eq_true,Bool.not_true,Bool.false_or,beq_iff_eq] at b
      match fuel,e with
      | 0,e=>simp [OT.depth] at e
      | fuel+1,e=>exact oS b.1.1 (by simp [OT.alts]) (G fuel d E w a e b.1.2 b.2 m (fun i p=>by rw [b.1.1]; exact p) h g)
    · simp only [tk,Bool.and_eq_true,Bool.not_false,Bool.true_or,true_and] at b
      exact G fuel d E w a e b.1 b.2 m B h g
theorem tc {id:Nat} {l:List Oper} {E:Env} {w:World} (t:OT) (S:World→Prop) (c:P.follows .mixedOrders=true) (b:vJ l.toArray t=true) [hP:eM Q]
 (h:AT P n l.toArray Q S t.qs t E w.drew):WP P n (.region id l.toArray true) Q E w:=by
 simp only [vJ,Bool.and_eq_true,decide_eq_true_eq] at b;exact fun a d=>tp (qs:=t.qs) c ((BA b.1.1 t (fun _ h=>h)).1 _ _ _ _ _ b.1.2 b.2 (Cl.start _) h d)
section
variable {E:Env} {w:World} {k d:Nat} {op:Op} {ty:TypeId} {ps:String} {af:Array Edge} {v:Value} {t:OT}
theorem A (ho:ops[k]?=some ⟨some d,op,ty,ps,af,none⟩) (hS:S w) (hr:∀w,S w→bo P E ⟨some d,op,ty,ps,af,none⟩ w v w) (hd:Nat.blt d n.sz=true) (h:AT P n ops Q S qs t (bR E d v) w):AT P n ops Q S qs (.q k t) E w:=
 ⟨_,v,ho,hd,hS,.inl ⟨rfl,fun w hw=>(hr w hw).out⟩,h⟩
theorem AG {j c:Nat} {a b:Bool} {oj:Oper} (f:ops[k]?=some ⟨some d,op,ty,ps,af,some (j,a)⟩) (i:ops[j]?=some oj) (l:oj.dst=some c) (o:ev E (.tmp c)=.bool b) (g:(b == a)=true)
 (p:S w) (hr:∀w,S w→bo P E ⟨some d,op,ty,ps,af,some (j,a)⟩ w v w) (m:Nat.blt d n.sz=true) (h:AT P n ops Q S qs t (bR E d v) w):AT P n ops Q S qs (.q k t) E w:=
 ⟨_,v,f,m,p,.inr (.inl ⟨j,a,oj,c,b,rfl,i,l,o,.inl ⟨g,fun w e=>(hr w e).out⟩⟩),h⟩
theorem AK {j d0:Nat} {want b:Bool} {oj:Oper} (ho:ops[k]?=some ⟨some d,op,ty,ps,af,some (j,want)⟩) (hj:ops[j]?=some oj) (hdj:oj.dst=some d0) (hb:ev E (.tmp d0)=.bool b) (hne:(b == want)=false)
 (hS:S w) (hd:Nat.blt d n.sz=true) (h:AT P n ops Q S qs t (bR E d undef) w):AT P n ops Q S qs (.q k t) E w:=
 ⟨_,undef,ho,hd,hS,.inr (.inl ⟨j,want,oj,d0,b,rfl,hj,hdj,hb,.inr ⟨hne,rfl⟩⟩),h⟩
theorem A1 {o:Oper} (ho:ops[k]?=some o) (h:OW P n ops (QS (kS ops qs k) S (AT P n ops Q S qs t) Q) [o] E w):AT P n ops Q S qs (.s k t) E w:=⟨o,ho,h⟩
theorem A2 {o:Oper} {u:OT} (ho:ops[k]?=some o) (h:OW P n ops (QS (kS ops qs k) S (AT P n ops Q S qs t) Q) [o] E w) (h':AT P n ops Q S qs u E w):AT P n ops Q S qs (.c k t u) E w:=⟨⟨o,ho,h⟩,h'⟩
theorem AN (h:Q .normal E w):AT P n ops Q S qs .leaf E w:=h
end
end
def SS (g0:Hp) (w0:World) (g:Hp) (L:List Res):World→Prop:=fun w=>∃g',be g g'∧Sep g0 w0 g' w L
theorem SS.to {g0 g g':Hp} {w0 w w':World} {L:List Res} (_:SS g0 w0 g L w) (h:be g g') (hs:Sep g0 w0 g' w' L):SS g0 w0 g L w':=⟨g',h,hs⟩
theorem dE.of_le {g g':Hp} {w:World} (h:dE g' w) (hl:be g g'):dE g w:=fun b o hb=>h b o (hl b o hb)
inductive Rt (α:Type) where
  | ret (a:α)
  | pan (x:Int)
def Rt.on {α β:Type} (x:Rt α) (k:α→β) (p:Int→β):β:=match x with
 | .ret a=>k a
 | .pan x=>p x
def tY (v:Value):List PanicEntry:=[{ v:=v,recovered:=false }]
def wM (P:Program) (f:FuncId) (args:Array Value) (w:World) (v:Value) (R:World→Prop):Prop:=
 Calls P f args w fun e w'=>e=.panicked (tY v)∧R w'
def FX (P:Program) (fn:Func) (n:Fr) {α:Type} (T:TypeId) (o:Rt α) (R:α→Value→World→Prop) (R':World→Prop):EPost:=fun e E w=>match e,o with
 | .normal,.ret a=>FL P fn n E (R a) E.ds w
 | .ret,.ret a=>FL P fn n E (R a) E.ds w
 | .panic ch,.pan x=>ch=tY (.iface T (.int .i64 x))∧E.ds=[]∧R' w
 | _,_=>False
def gM (P:Program) (f:FuncId) (args:Array Value) (w:World) {α:Type} (T:TypeId) (o:Rt α) (R:α→Value→World→Prop) (R':World→Prop):Prop:=match o with
 | .ret a=>aT P f args w (R a)
 | .pan x=>wM P f args w (.iface T (.int .i64 x)) R'
instance {P:Program} {fn:Func} {n:Fr} {α:Type} {T:TypeId} {o:Rt α} {R:α→Value→World→Prop} {R':World→Prop}:eM (FX P fn n T o R R'):=⟨fun c E E' w hd q=>by
 cases o with
 | ret a=>exact q
 | pan x=>exact ⟨q.1,hd ▸ q.2.1,q.2.2⟩⟩
section
variable {P:Program} {n:Fr} {Q:EPost} {E:Env} {w:World} {α:Type}
theorem cI {f:FuncId} {fn:Func} {c:Code} {m:Nat} {args:List Value} {T:TypeId} {o:Rt α} {R:α→Value→World→Prop} {R':World→Prop} (g:P.funcs[f]?=some fn) (i:fn.body=some c) (j:fn.ntmps=m) (k:Nat.ble args.length m=true)
 (h:WP P ⟨m,none⟩ c (FX P fn ⟨m,none⟩ T o R R') (fx args) w):gM P f args.toArray w T o R R':=by
 subst j;have key:=h _ (iQ args _ (Nat.le_of_ble_eq_true k));cases o with
 | ret a=>
  refine callsIn_wide (n:=0) |>.1 (callsIn_of_wp_marks (F:=Fz ⟨fn.ntmps,none⟩) g i trivial ?_);refine wpIn_mono key ?_;rintro e d w ⟨E,b,q⟩;cases e <;> first
   | exact q.elim
   | (show LeavesInM _ _ _ _ _ _ d.defers _ _; rw [b.defers]; exact nv b E.ds w q)
 | pan x=>
  refine callsIn_wide (n:=0) |>.1 (callsIn_of_wp_marks (F:=Fz ⟨fn.ntmps,none⟩) g i trivial ?_);refine wpIn_mono key ?_;rintro e d w ⟨E,b,q⟩;cases e <;> first
   | exact q.elim
   | (show LeavesInM _ _ _ _ _ _ d.defers _ _; rw [b.defers,q.2.1,q.1]; exact ⟨rfl,q.2.2⟩)
section
variable {ops:Array Oper} {rest:List Oper} {ty:TypeId} {ps:String} {af:Array Edge}
theorem BL {x:Operand} {T:TypeId} {v:Value} {dd:Option Tmp} (hx:ev E x=.iface T v) (h:Q (.panic (tY (.iface T v))) E w):OW P n ops Q (⟨dd,.panic x,ty,ps,af,none⟩::rest) E w:=by
 intro a ha;refine wpListIn_plain rfl fun K hK=>⟨fun _ _=>trivial,?_⟩
 rw [Oper.semAt_eq _ _ _ (by simp),ha.eval];simp only [execOp,hx];exact ⟨E,ha,h⟩
theorem vH {o:Oper} {f:FuncId} {args:Array Value} {v:Value} {R:World→Prop} {a:Act} {K:Act→World→Prop} (ha:cV n E a)
 (hr:(execOp (ev E) o).run P w=.ok (.enter f args) w) (hc:wM P f args w v R) (k:∀w',R w'→Q (.panic (tY v)) E w'):o.wpIn (Fz n) 0 P a w K (lz n Q):=by
 refine ln ha hr (hc.mono fun e w' ⟨he,hR⟩=>?_);subst he;exact ⟨E,ha,k w' hR⟩
theorem CN {f:FuncId} {xs:Array Operand} {l:Array TypeId} {j:Option Tmp} (args:List Value) {v:Value} {R:World→Prop} (c:CF P f) (e:xs.toList.map (ev E)=args) (d:wM P f args.toArray w v R)
 (k:∀w',R w'→Q (.panic (tY v)) E w'):OW P n ops Q (⟨j,.call { callee:=.value (.func f),args:=xs,argTypes:=l },ty,ps,af,none⟩::rest) E w:=by
 obtain ⟨fn,i,h,g⟩:=c;exact fun a b=>wpListIn_plain rfl fun K m=>vH b (sg i h g e) d k
end
end
theorem qn {α β:Type} {o:Option (Rt α)} {k:α→Option β} {kp:Int→Option β} {r:β} (h:(o.bind fun x=>x.on k kp)=some r) :
 (∃a,o=some (.ret a)∧k a=some r)∨(∃x,o=some (.pan x)∧kp x=some r):=by
 obtain ⟨x,h1,h2⟩:=ae h;cases x with
 | ret a=>exact .inl ⟨a,h1,h2⟩
 | pan x=>exact .inr ⟨x,h1,h2⟩
theorem mO {g:Hp} {w w':World} (hi:dE g w) (hb:Below w.heap.size w w'):ei g w g w':=
 ⟨hb,fun _ _=>rfl,fun b o h=>by rw [hb.block b (hi.lt h)]; exact hi b o h⟩
theorem Sep.selT {g0 g:Hp} {w0 w:World} {A A' L:List Res} (h:Sep g0 w0 g w (A++L)) (e:List Nat) (k:e.Nodup) (j:A'.map some=e.map (A[·]?)):Sep g0 w0 g w (A'++L):=by
 have f:∀i∈e,i<A.length:=by
  intro i d;have:A[i]?∈A'.map some:=by rw [j]; exact List.mem_map_of_mem d
  obtain ⟨r,_,hr⟩:=JJ.1 this;exact (Jo.1 hr.symm).1
 refine h.sel (e++(List.range L.length).map (A.length+·)) ?_ ?_
 ·rw [List.nodup_append];refine ⟨k,?_,fun a n b l=>?_⟩
  ·exact List.pairwise_map.2 (List.nodup_range.imp fun {a b} m o=>m (by omega))
  ·obtain ⟨c,_,rfl⟩:=JJ.1 l;have:=f a n; omega
 ·rw [JB,JB];congr 1
  ·rw [j];refine List.map_congr_left fun i d=>?_
   rw [Jw (f i d)]
  ·rw [JN];apply List.ext_getElem?;intro i
   by_cases d:i<L.length
   ·simp [d]
   ·simp [d]
section
variable {P:Program} {E:Env} {w:World} {d:Option Tmp} {ty:TypeId} {ps:String} {af:Array Edge} {gd:Option (Nat×Bool)}
theorem aJ {x:Operand} {b o:Nat} (hx:ev E x=.pointer (some ⟨b,o,none⟩)):bo P E ⟨d,.nilCheck x,ty,ps,af,gd⟩ w (.pointer (some ⟨b,o,none⟩)) w:=.inl (by simp [execOp,hx])
theorem nS {T:TypeId} {x:Operand} {v:Value} (hT:P.concrete T=true) (hx:ev E x=v):bo P E ⟨d,.makeInterface T x,ty,ps,af,gd⟩ w (.iface T v) w:=.inl (by
 subst hx; simp [execOp,run_makeInterface w T _ hT])
def qt {α:Type} (l:List α) (i j:Int):Option (List α):=if 0≤i∧i≤j∧j≤l.length then some ((l.take j.toNat).drop i.toNat) else none
theorem km {α:Type} {l m:List α} {i j:Int} (h:qt l i j=some m):0≤i∧i≤j∧j≤l.length∧m=(l.take j.toNat).drop i.toNat:=by
 unfold qt at h;split at h
 ·rename_i hc; simp only [Option.some.injEq] at h; exact ⟨hc.1,hc.2.1,hc.2.2,h.symm⟩
 ·cases h
theorem eA (a:Str) (i j:Nat):(ByteArray.extract ⟨a.toArray⟩ i j)=⟨((a.take j).drop i).toArray⟩:=by
 apply ByteArray.ext;rw [ByteArray.data_extract];simp [List.extract_eq_take_drop,List.drop_take]
theorem eQ (a:Str):(ByteArray.mk a.toArray).size=a.length:=by simp [ByteArray.size]
theorem fA {T:TypeId} {agg:Bool} {size bytes:Nat} {z:Value} (h:dF P T agg size bytes z):(sizeOf T).run P w=.ok size w:=bX h
theorem kw {T el:TypeId} {agg:Bool} {size l:Nat} {z:Value} (f:P.underlying T=some (.slice el)) (p:dF P el agg size l z) {a:Option Addr} {n cap:Nat} {d e:Option Value} {i j:Int}
 (m:(d=none∧i=0)∨∃k,d=some (.int k i)) (o:(e=none∧j=n)∨∃k,e=some (.int k j)) (h:0≤i) (q:i≤j) (s:j≤n) (r:n≤cap) :
 (Instr.sliceAt T (.slice a n cap) d e none).run P w=.ok (sliced a i.toNat j.toNat cap size) w:=by
 have g:P.elem T=el:=by simp [Program.elem,f]
 have b:P.underlying T=some (.slice (P.elem T)):=by rw [g]; exact f
 have c:dF P (P.elem T) agg size l z:=by rw [g]; exact p
 rw [run_sliceAt_slice _ _ _ _ _ _ b];rcases m with ⟨rfl,rfl⟩|⟨k,rfl⟩ <;> rcases o with ⟨rfl,rfl⟩|⟨k',rfl⟩
 ·rw [run_slice_all w T a n cap b,fA c]; simp [Result.andThen]
 ·rw [run_slice_h w T a n cap b k' j (by omega) (by omega),fA c]; simp [Result.andThen]
 ·rw [run_slice_l w T a n cap b k i h (by omega),fA c]; simp [Result.andThen]
 ·rw [run_slice_lh w T a n cap b k k' i j h q (by omega),fA c]; simp [Result.andThen]
end
def tn (E:Env) (lo:Option Operand) (i dflt:Int):Prop:=(lo=none∧i=dflt)∨∃k y,lo=some y∧ev E y=.int k i
theorem tn.none {E:Env} {i:Int}:tn E none i i:=.inl ⟨rfl,rfl⟩
theorem tn.some {E:Env} {y:Operand} {i dflt:Int} {k:IntKind} (h:ev E y=.int k i):tn E (some y) i dflt:=.inr ⟨k,y,rfl,h⟩
theorem tn.val {E:Env} {lo:Option Operand} {i dflt:Int} (h:tn E lo i dflt):(lo.map (ev E)=.none∧i=dflt)∨∃k,lo.map (ev E)=.some (.int k i):=by
 rcases h with ⟨rfl,rfl⟩|⟨k,y,rfl,h⟩
 ·exact .inl ⟨rfl,rfl⟩
 ·exact .inr ⟨k,by rw [Option.map_some,h]⟩
theorem ag.sub {α:Type} {τ:Ty α} {g:Hp} {xs:List Value} {l:List α} (h:ag τ g xs l) (i j:Nat) (a:j≤l.length):ag τ g ((xs.take (j*τ.sz)).drop (i*τ.sz)) ((l.take j).drop i):=by
 refine ⟨?_,fun q x hx=>?_⟩
 ·have c:j*τ.sz≤xs.length:=by rw [h.1]; exact JD _ a
  rw [JQ,JQ,JG,JG,Nat.min_eq_left c,Nat.min_eq_left a,Nat.sub_mul]
 ·rw [List.getElem?_drop,List.getElem?_take] at hx;split at hx
  ·rename_i hlt;have:=h.2 _ _ hx;have e:((((xs.take (j*τ.sz)).drop (i*τ.sz)).drop (q*τ.sz)).take τ.sz)=(xs.drop ((i+q)*τ.sz)).take τ.sz:=by
    apply List.ext_getElem?;intro p;simp only [List.getElem?_take,List.getElem?_drop];split
    ·rename_i hp;have b:(i+q+1)*τ.sz≤j*τ.sz:=JD _ hlt;rw [Nat.succ_mul] at b;have d:(i+q)*τ.sz=i*τ.sz+q*τ.sz:=Nat.add_mul _ _ _;rw [if_pos (by omega)];congr 1;omega
    ·rfl
   rw [e]; exact this
  ·cases hx
theorem wS {α:Type} {l m:List α} {i j:Int} (h:qt l i j=some m):m.length=j.toNat - i.toNat:=by
 obtain ⟨h0,h1,h2,rfl⟩:=km h;rw [JQ,JG];omega
section
variable {P:Program} {E:Env} {w:World} {d:Option Tmp} {ty:TypeId} {ps:String} {af:Array Edge} {gd:Option (Nat×Bool)}
theorem cv.slice {α:Type} {τ:Ty α} {g:Hp} {v:Value} {l m:List α} (h:cv τ g v l) {i j:Int} (r:qt l i j=some m) :
 ∃v',cv τ g v' m∧∀ {P:Program} {E:Env} {w:World} {d:Option Tmp} {ty:TypeId} {ps:String} {af:Array Edge} {gd:Option (Nat×Bool)} {T el:TypeId} {agg:Bool} {o:Nat} {z:Value} {x:Operand} {c k:Option Operand},
  P.underlying T=some (.slice el)→dF P el agg τ.sz o z→ev E x=v→tn E c i 0→tn E k j l.length→bo P E ⟨d,.slice T x c k none,ty,ps,af,gd⟩ w v' w:=by
 obtain ⟨R,Q,N,p⟩:=km r;have B:=wS r;obtain ⟨xs,hr,y⟩:=h;have run:∀(a:Option Addr) (cap:Nat),v=.slice a l.length cap→l.length≤cap→∀ {P:Program} {E:Env} {w:World} {d:Option Tmp} {ty:TypeId} {ps:String} {af:Array Edge} {gd:Option (Nat×Bool)} {T el:TypeId} {agg:Bool} {o:Nat} {z:Value} {x:Operand} {c k:Option Operand},
  P.underlying T=some (.slice el)→dF P el agg τ.sz o z→ev E x=v→tn E c i 0→tn E k j l.length→bo P E ⟨d,.slice T x c k none,ty,ps,af,gd⟩ w (sliced a i.toNat j.toNat cap τ.sz) w:=by
  intro a cap f J P E w d ty ps af gd T el agg o z x c k L H hx D F;exact ⟨by simp only [execOp,Option.map_none,hx,f,Sem.run_bind,kw L H D.val F.val R Q N J,Jz,Sem.run_pure]⟩
 rcases y with ⟨A,t,a,cap,f,K⟩|⟨b,off,cap,U,e,S,f,s,G,I⟩
 ·refine ⟨_,⟨(xs.take (j.toNat*τ.sz)).drop (i.toNat*τ.sz),p ▸ hr.sub _ _ (by omega),.inl ⟨by omega,by rw [t]; simp,(if cap=i.toNat then a else a.map (·.add (i.toNat*τ.sz))),cap - i.toNat,?_,?_⟩⟩,run a cap (by rw [f,A]) (by omega)⟩
  ·simp only [sliced]; congr 1; omega
  ·intro h;have:a=none:=by
    split at h
    ·exact h
    ·simpa using h
   have:=K this; omega
 ·by_cases hij:j.toNat - i.toNat=0
  ·refine ⟨_,⟨(xs.take (j.toNat*τ.sz)).drop (i.toNat*τ.sz),p ▸ hr.sub _ _ (by omega),.inl ⟨by omega,?_,(if cap=i.toNat then some ⟨b,off,none⟩ else (some (⟨b,off,none⟩:Addr)).map (·.add (i.toNat*τ.sz))),cap - i.toNat,?_,?_⟩⟩,run _ cap f s⟩
   ·apply JP;rw [JQ,JG];have:j.toNat=i.toNat:=by omega
    rw [this]; omega
   ·simp only [sliced]; congr 1
   ·intro h; split at h <;> simp at h
  ·refine ⟨_,⟨(xs.take (j.toNat*τ.sz)).drop (i.toNat*τ.sz),p ▸ hr.sub _ _ (by omega),.inr ⟨b,off+i.toNat*τ.sz,cap - i.toNat,U,e,S,?_,by omega,G,fun q u n=>?_⟩⟩,run _ cap f s⟩
   ·simp only [sliced]; rw [if_neg (by omega),B]; simp [Addr.add]
   ·rw [List.getElem?_drop,List.getElem?_take] at n;split at n
    ·have:=I _ _ n;rw [Nat.add_assoc]; exact this
    ·cases n
theorem Sep.rowCut {α:Type} {τ:Ty α} {g0 g:Hp} {w0 w:World} {L:List Res} (h:Sep g0 w0 g w L) {i:Nat} {v:Value} {e:TypeId} {xs:List Value} {l m:List α} (c:L[i]?=some (.row v e τ.sz l.length xs)) (hr:ag τ g xs l) {j:Int} (q:qt l 0 j=some m) :
 ∃v' xs',ag τ g xs' m∧Sep g0 w0 g w (L.set i (.row v' e τ.sz m.length xs'))∧∀ {P:Program} {E:Env} {d:Option Tmp} {ty:TypeId} {ps:String} {af:Array Edge} {gd:Option (Nat×Bool)} {T el:TypeId} {agg:Bool} {o:Nat} {z:Value} {x:Operand} {f c:Option Operand},
  P.underlying T=some (.slice el)→dF P el agg τ.sz o z→ev E x=v→tn E f 0 0→tn E c j l.length→bo P E ⟨d,.slice T x f c none,ty,ps,af,gd⟩ w v' w:=by
 obtain ⟨_,R,Q,A⟩:=km q;have r:=wS q;have t:=(h.at c).out;have U:xs.length=l.length*τ.sz:=hr.1;have key:∀(a:Option Addr) (cap:Nat),v=.slice a l.length cap→l.length≤cap→∀ {P:Program} {E:Env} {d:Option Tmp} {ty:TypeId} {ps:String} {af:Array Edge} {gd:Option (Nat×Bool)} {T el:TypeId} {agg:Bool} {o:Nat} {z:Value} {x:Operand} {f c:Option Operand},
  P.underlying T=some (.slice el)→dF P el agg τ.sz o z→ev E x=v→tn E f 0 0→tn E c j l.length→bo P E ⟨d,.slice T x f c none,ty,ps,af,gd⟩ w (.slice a m.length cap) w:=by
  intro a cap k I P E d ty ps af gd T el agg o z x f c N F hx B D;have e:sliced a (0:Int).toNat j.toNat cap τ.sz=.slice a m.length cap:=by
   simp only [sliced,r];congr 1;split
   ·rfl
   ·cases a <;> simp [Addr.add]
  exact ⟨by simp only [execOp,Option.map_none,hx,k,Sem.run_bind,kw N F B.val D.val (Int.le_refl 0) R Q I,Jz,Sem.run_pure,e]⟩
 have n:ag τ g (xs.take (m.length*τ.sz)) m:=by
  have:=hr.sub 0 j.toNat (by omega);rw [r];subst A;simpa using this
 rcases t.2 with ⟨k,y⟩|⟨b,cap,S,k,J,p,u,H,G,s⟩
 ·refine ⟨.slice none m.length 0,_,n,h.upd c (w':=w) ⟨rfl,rfl,rfl,Nat.le_refl _,fun _ _ _=>rfl⟩ ⟨⟨n.1,.inl ⟨?_,?_⟩⟩⟩ (fun b p=>by simp [Res.blk,Value.ownBlock] at p),key none 0 (by rw [k,y]) (by omega)⟩
  ·congr 1; omega
  ·omega
 ·refine ⟨.slice (some ⟨b,0,none⟩) m.length cap,_,n,h.upd c (w':=w) ⟨rfl,rfl,rfl,Nat.le_refl _,fun _ _ _=>rfl⟩ ⟨⟨n.1,.inr ⟨b,cap,S,rfl,J,p,by omega,H,G,?_⟩⟩⟩ (fun V K=>.inl (by rw [k]; exact K)),key _ cap k u⟩;rw [←s,List.take_take];congr 1;exact (Nat.min_eq_left (JD _ (by omega))).symm
end
theorem vw {l:List Str} {q:Int} {x:Str} {w:World} {b:Nat} (c:∀j u,(l.map ao)[j]?=some u→w.cell? ⟨b,0+j,none⟩=some u) (h:bK l q=some x) :
 ∀j u,[ao x][j]?=some u→w.cell? ⟨b,0+q.toNat*1+j,none⟩=some u:=by
 intro j u a;cases j with
 | zero=>
  simp at a; subst a;obtain ⟨f,e,d⟩:=ah h;have:=c q.toNat (ao x) (by rw [JL,d]; rfl);simpa using this
 | succ j=>simp at a
theorem vC {P:Program} {E:Env} {w:World} {d:Option Tmp} {ty:TypeId} {ps:String} {af:Array Edge} {gd:Option (Nat×Bool)} {T el:TypeId} {x:Operand} {b len:Nat} {agg:Bool} {size e:Nat} {z:Value} (c:P.underlying T=some (.array len el)) (a:dF P el agg size e z) (hx:ev E x=.pointer (some ⟨b,0,none⟩)) :
 bo P E ⟨d,.slice T x none none none,ty,ps,af,gd⟩ w (.slice (some ⟨b,0,none⟩) len len) w:=.inl (by
 simp [execOp,Instr.sliceAt,hx,run_underlying c,Instr.sliceBounds,Instr.sureAddr,bX a,Addr.add])
def wZ (n:Int):Str:=(Utf8.encode n).data.toList
theorem Ch {P:Program} {E:Env} {w:World} {d:Option Tmp} {ty:TypeId} {ps:String} {af:Array Edge} {gd:Option (Nat×Bool)} {a dst:TypeId} {x:Operand} {k:IntKind} {n:Int} {b:TypeDesc} (c:P.underlying a=some b) (e:P.underlying dst=some .string) (hx:ev E x=.int k n) :
 bo P E ⟨d,.convert a dst x,ty,ps,af,gd⟩ w (ao (wZ n)) w:=.inl (by
 simp only [execOp,hx,Sem.run_bind,run_convert_int_string w a dst k n (by rw [c]; rfl) e,Jz,Sem.run_pure,ao,wZ])
section
variable {P:Program} {n:Fr} {Q:EPost} {E:Env} {w:World} {ops:Array Oper} {rest:List Oper} {d:Option Tmp} {ty:TypeId} {ps:String} {af:Array Edge} {g0 g:Hp} {w0:World} {L:List Res}
end
def Ac (x y:Int):Int:=if y > x then y else x
def Ab (x y:Int):Int:=if y<x then y else x
section
variable {P:Program} {E:Env} {w:World} {d:Option Tmp} {ty:TypeId} {ps:String} {af:Array Edge} {gd:Option (Nat×Bool)} {ts:Array TypeId} {x y z:Operand} {k k' k'':IntKind} {a b c:Int}
theorem EG (hx:ev E x=.int k a) (hy:ev E y=.int k' b):bo P E ⟨d,.call { callee:=.builtin .max,args:=#[x,y],argTypes:=ts },ty,ps,af,gd⟩ w (.int k (Ac a b)) w:=.inl (by
 simp [execOp,resolve,invoke,builtin,hx,hy,run_max_int2,Ac,Result.andThen])
theorem EF (hx:ev E x=.int k a) (hy:ev E y=.int k' b):bo P E ⟨d,.call { callee:=.builtin .min,args:=#[x,y],argTypes:=ts },ty,ps,af,gd⟩ w (.int k (Ab a b)) w:=.inl (by
 simp [execOp,resolve,invoke,builtin,hx,hy,run_min_int2,Ab,Result.andThen])
end
theorem oV {cs pre ds post:List Value} {o j:Nat} {u:Value} (hl:pre.length=o) (e:cs=pre++(ds++post)) (hj:ds[j]?=some u):cs[o+j]?=some u:=by
 subst e; subst hl;have hjl:j<ds.length:=(Jo.1 hj).1;rw [JK (by omega),Nat.add_sub_cancel_left,Jw hjl];exact hj
theorem Sep.lentOwn {g0 g:Hp} {w0 w:World} {L L':List Res} (h:Sep g0 w0 g w L) {e d:Hp} {w':World} (c:Sep e w d w' L'):∃g',be g g'∧Sep g0 w0 g' w' (L'++L):=by
 have hx:ei g w (fun k=>if k<w.heap.size then g k else d k) w':=by
  refine ⟨c.ext.below,fun b a=>if_pos a,fun b o a=>?_⟩;split at a
  ·rename_i hlt;have:=h.imm b o a;rw [c.ext.below.block b hlt]; exact this
  ·exact c.imm b o a
 refine ⟨_,hx.le h.imm,h.callOwn (L':=L') ⟨hx,c.ok,fun r hr b a=>?_,c.apart⟩⟩;have:=c.fresh r hr b a;refine ⟨this.1,?_⟩;show (if b<w.heap.size then g b else d b)=none;rw [if_neg (by omega)]; exact this.2
theorem ag.flat {α:Type} {τ:Ty α} (hτ:∀g g' cs x,τ.rel g cs x→τ.rel g' cs x) {g g':Hp} {xs:List Value} {l:List α} (h:ag τ g xs l):ag τ g' xs l:=⟨h.1,fun i x hx=>hτ _ _ _ _ (h.2 i x hx)⟩
def kN (b:Nat) (cs:List Value) (g:Hp):Prop:=∃(arr:Array Value) (T:TypeId) (fz:Nat×Nat),g b=some (.cells arr T fz)∧∀(j:Nat) (u:Value),cs[j]?=some u→arr[j]?=some u
theorem kN.mono {b:Nat} {cs:List Value} {g g':Hp} (h:kN b cs g) (hg:be g g'):kN b cs g':=let ⟨arr,T,fz,h1,h2⟩:=h; ⟨arr,T,fz,hg _ _ h1,h2⟩
theorem kN.cells {b:Nat} {cs:List Value} {g:Hp} {w:World} (h:kN b cs g) (hi:dE g w):∀j u,cs[j]?=some u→w.cell? ⟨b,0+j,none⟩=some u:=fun j u hj=>by
 obtain ⟨arr,T,fz,h1,h2⟩:=h;have:=hi b _ h1;simp [World.cell?,this,h2 j u hj]
def mY (P:Program) (v:Value) (args:List Value) (w:World) (R:Value→World→Prop):Prop:=
  (∃f cap,v=.func (.func f) #[] (List.toArray cap)∧CF P f∧aT P f (args++cap).toArray w R)∨
  (∃l fn tmps assign body,v=.func (.yield l) #[] #[]∧(Instr.yield l args.toArray).run P w=.ok (.round l fn tmps assign body) w∧
    RoundIn (Fz ⟨0,none⟩) 0 P l fn tmps assign body w fun e w'=>∃v,e=.returned v∧R v w')
section
variable {P:Program} {n:Fr} {Q:EPost} {E:Env} {w:World} {ops:Array Oper} {rest:List Oper} {ty:TypeId} {ps:String} {af:Array Edge}
theorem vy {d:Option Tmp} {x:Operand} {xs:Array Operand} {b:Array TypeId} {args:List Value} {l:Nat} {r:Next} {gd:Option (Nat×Bool)} (hx:ev E x=.func (.yield l) #[] #[]) (a:xs.toList.map (ev E)=args) (hr:(Instr.yield l args.toArray).run P w=.ok r w) :
 (execOp (ev E) ⟨d,.call { callee:=.value x,args:=xs,argTypes:=b },ty,ps,af,gd⟩).run P w=.ok r w:=by
 have a:xs.map (ev E)=args.toArray:=by apply Array.ext'; rw [Array.toList_map,a]
 simp [execOp,resolve,Deferred.ofValue,invoke,hx,a,hr]
end
def rR (E:Env):List Tmp→List Value→Env
 | t::ts,v::vs=>rR (bR E t v) ts vs
 | _,_=>E
theorem rv {n:Fr}:∀(ts:List Tmp) (vs:List Value) (E:Env) (a:Act),cV n E a→(∀t∈ts,t<n.sz)→cV n (rR E ts vs) { a with tmps:=(ts.zip vs).foldl (fun tmps (x:Tmp×Value)=>tmps.setIfInBounds x.1 x.2) a.tmps }
 | [],_,_,_,h,_=>by simpa [rR] using h
 | _::_,[],_,_,h,_=>by simpa [rR] using h
 | t::ts,v::vs,E,a,h,hl=>by
  have f:=h.put (d:=some t) (by simp [gA]; exact Nat.le_of_lt_succ (Nat.succ_lt_succ (hl t (by simp)))) v;have e:=rv ts vs _ _ f (fun b c=>hl b (List.mem_cons_of_mem _ c));simpa [rR,Act.put,iV] using e
def RQ (l:Nat) (R:Value→World→Prop):EPost:=fun e _ w=>match e with
 | .normal=>∃r,w.heap[l]?=some (.loop r)∧R (.bool true) (w.putObj l (.loop { r with state:=.ready,pending:=none }))
 | .ret=>∃r,w.heap[l]?=some (.loop r)∧R (.bool false) (w.putObj l (.loop { r with state:=.done,pending:=some .ret }))
 | .exit i=>∃r,w.heap[l]?=some (.loop r)∧R (.bool false) (w.putObj l (.loop { r with state:=.done,pending:=some (.exit i) }))
 | _=>False
instance {l:Nat} {R:Value→World→Prop}:eM (RQ l R):=⟨fun _ _ _ _ _ q=>q⟩
theorem tP {P:Program} {sz l:Nat} {r:Loop} {E:Env} {w:World} {args:List Value} {R:Value→World→Prop} {tmps:Array Value} (n:w.heap[l]?=some (.loop r)) 
 (o:r.tmps=tmps) (v:cV ⟨sz,some l⟩ E { tmps:=tmps,defers:=[] }) (u:args.length=r.params.size) (s:∀t∈r.params.toList,t<sz)
 (h:WP P ⟨sz,some l⟩ r.assign (fun e k g=>match e with|.normal=>∃d,g.heap[l]?=some (.loop d)∧d.state=.ready∧WP P ⟨sz,some l⟩ r.body (RQ l R) k (g.putObj l (.loop { d with state:=.busy }))|_=>False) (rR E r.params.toList args) w) :
 mY P (.func (.yield l) #[] #[]) args w R:=by
 refine .inr ⟨l,r.fn,_,r.assign,r.body,rfl,run_yield n (by simpa using u),?_⟩;have x:cV ⟨sz,some l⟩ (rR E r.params.toList args) { tmps:=(r.params.zip args.toArray).foldl (fun tmps (t,a)=>tmps.setIfInBounds t a) r.tmps,defers:=[] }:=by
  have:=rv r.params.toList args E _ v s;rw [←Array.foldl_toList,Array.toList_zip,o];exact this
 have key:=h _ x;refine roundIn_of_wpIn (F:=Fz ⟨0,none⟩) trivial ?_;refine wpIn_mono key ?_;rintro e G g ⟨k,z,q⟩;cases e with
 | normal=>
  obtain ⟨d,m,p,y⟩:=q;refine ⟨_,run_beginRound m p,?_⟩;refine wpIn_mono (y _ z) ?_;rintro e D A ⟨H,B,f⟩;cases e with
  | normal=>obtain ⟨j,b,c⟩:=f; exact ⟨_,_,run_endRound none b,_,rfl,by simpa using c⟩
  | ret=>obtain ⟨j,b,c⟩:=f; exact ⟨_,_,run_endRound (some .ret) b,_,rfl,by simpa using c⟩
  | exit i=>obtain ⟨j,b,c⟩:=f; exact ⟨_,_,run_endRound (some (.exit i)) b,_,rfl,by simpa using c⟩
  | _=>exact f.elim
 | _=>exact q.elim
section
variable {α σ:Type}
end
def xw (D:Nat):Deferred:={ target:=.collected D,args:=#[] }
section
variable {P:Program} {n:Fr} {Q:EPost} {E:Env} {w:World} {α σ:Type}
def BQ (g0:Hp) (w0:World) (Inv:Hp→List Res→Prop) (g:Hp) (L:List Res):EPost:=fun e _ w=>match e with
 | .normal=>∃g' Ls,Inv g' Ls∧be g g'∧Sep g0 w0 g' w (Ls++L)
 | _=>False
instance {g0:Hp} {w0:World} {Inv:Hp→List Res→Prop} {g:Hp} {L:List Res}:eM (BQ g0 w0 Inv g L):=⟨fun _ _ _ _ _ q=>q⟩
def AQ (P:Program) (n:Fr) (g0:Hp) (w0:World) (Inv:Hp→List Res→Prop) (body:Code) (g:Hp) (L:List Res):EPost:=fun e E w=>match e with
 | .normal=>∃g' Ls,Sep g0 w0 g' w (Ls++L)∧be g g'∧∀w' L',Sep g0 w0 g' w' (Ls++L')→WP P n body (BQ g0 w0 Inv g' L') E w'
 | _=>False
instance {P:Program} {n:Fr} {g0:Hp} {w0:World} {Inv:Hp→List Res→Prop} {body:Code} {g:Hp} {L:List Res}:eM (AQ P n g0 w0 Inv body g L):=⟨fun _ _ _ _ _ q=>q⟩
theorem Sep.tail {g0 g:Hp} {w0 w:World} {A L:List Res} (h:Sep g0 w0 g w (A++L)):Sep g0 w0 g w L:=h.sub (List.sublist_append_right A L)
end
end Go.Lx
