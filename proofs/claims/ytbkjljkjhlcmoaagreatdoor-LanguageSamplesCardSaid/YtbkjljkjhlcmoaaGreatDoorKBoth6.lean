/- Part 6. -/
import Derived.ProofKit
import Derived.OpenShut
import Derived.ShutString
import Derived.ChangeOld
import Derived.Deep.Slices
import Derived.Lib.LaidTab
import Derived.Lib.LaidU8
import Derived.Test.YtbkjljkjhlcmoaaGreatDoorRows
import Derived.Test.YtbkjljkjhlcmoaaGreatDoorCards
import Derived.Test.YtbkjljkjhlcmoaaGreatDoorTie
import Derived.SevenTiedAt
import Derived.ChangeVars
import Derived.LaidHandle
import Derived.Handed
import Derived.JoinedOf
import Derived.Test.YtbkjljkjhlcmoaaGreatDoorKBoth4
set_option linter.unusedVariables false
set_option linter.unusedSimpArgs false
namespace Go.Lx
open Go.RowKit Go.ChangeShapes Go.WideShapes Go.ChangeAt
def iS (w:World):Hp:=fun b=>w.heap[b]?
theorem CK (w:World):dE (iS w) w:=fun _ _ h=>h
def Ic (k:IntKind) (n:Int):Prop:=k.min≤n∧n≤k.max
def mZ (P:Program) (T:TypeId) {α:Type} (τ:Ty α) (ok:α→Prop):Prop:=
 ∀(H:Type) (enc:TypeId×Value→H) (w:World) (f:Nat) (cs:List Value) (x:DataW H×List MemPlace),
  DataW.trod enc P w 0 (fun _=>true) true f T cs=some x→∃y,τ.rel (iS w) cs y∧ok y
def oJ (P:Program) (T:TypeId) {α:Type} (τ:Ty α) (ok:α→Prop) (f:Nat):Prop:=
 ∀(H:Type) (enc:TypeId×Value→H) (w:World) (cs:List Value) (x:DataW H×List MemPlace),
  DataW.trod enc P w 0 (fun _=>true) true f T cs=some x→∃y,τ.rel (iS w) cs y∧ok y
theorem mZ.at {P:Program} {T:TypeId} {α:Type} {τ:Ty α} {ok:α→Prop} (h:mZ P T τ ok) (f:Nat):oJ P T τ ok f:=fun H enc w cs x hx=>h H enc w f cs x hx
theorem mZ.of {P:Program} {T:TypeId} {α:Type} {τ:Ty α} {ok:α→Prop} (h:∀f,oJ P T τ ok f):mZ P T τ ok:=fun H enc w f cs x hx=>h f H enc w cs x hx
section
variable {P:Program} {T:TypeId}
theorem nh {k:IntKind} (hT:P.underlying T=some (.int k)):mZ P T (ai k) (Ic k):=by
 intro H enc w f cs x h;obtain ⟨n,rfl,_,hw⟩:=DataW.trod_int hT h;exact ⟨n,rfl,by unfold Ic; simpa [Lit.wf] using hw⟩
theorem yr (hT:P.underlying T=some .string):mZ P T eE (fun s=>s.length≤maxLen):=by
 intro H enc w f cs x h;obtain ⟨s,rfl,_,hw⟩:=DataW.trod_string hT h;exact ⟨s.data.toList,rfl,(show s.data.toList.length≤maxLen from hw)⟩
theorem vU {w:World} {a:Addr}:∀ {n:Nat} {cs:List Value},(List.range n).mapM (fun i=>w.cell? (a.add i))=some cs→cs.length=n∧∀j u,cs[j]?=some u→w.cell? (a.add j)=some u:=by
 intro n cs h;have c:cs.length=n:=by simpa using mapM_some_length h
 refine ⟨c,fun j u b=>?_⟩;have d:j<n:=by have:=(Jo.1 b).1; omega
 have:=mapM_some_get h j j (by simp [d]);rw [this]; exact b
theorem qv {α:Type} {el:TypeId} {τ:Ty α} {ok:α→Prop} {f:Nat} (Q:P.underlying T=some (.slice el)) (N:P.cellsOf el=τ.sz) (hsz:0<τ.sz) (hr:∀m,m<f→oJ P el τ ok m) :
 oJ P T (cj τ) (fun l=>(∀x∈l,ok x)∧l.length≤maxLen) f:=by
 intro H enc w cs x h;rcases DataW.trod_slice Q h with ⟨rfl,_⟩|⟨a,len,cap,a0,rest,m,W,rfl,_,_,U,X,S,L,_⟩
 ·exact ⟨[],⟨_,rfl,cv.nil⟩,by simp,by simp⟩
 ·have F:∀i,i<len→∃c y,(∀j u,c[j]?=some u→w.cell? ((a.add (i*τ.sz)).add j)=some u)∧c.length=τ.sz∧τ.rel (iS w) c y∧ok y:=by
   intro i K;have q:=L i K;rw [Jn (by omega),N] at q;cases t:w.cells? 0 (a.add (i*τ.sz)) τ.sz with
   | none=>rw [t] at q; simp at q
   | some c=>
    rw [t] at q;simp only [Jp] at q;obtain ⟨y,hy,s⟩:=hr m (by omega) H enc w c _ q;simp only [World.cells?,Nat.zero_le,if_true] at t;obtain ⟨d,g⟩:=vU t;exact ⟨c,y,g,d,hy,s⟩
  rcases Nat.eq_zero_or_pos len with v|v
  ·subst v;exact ⟨[],⟨_,rfl,[],ag.nil,.inl ⟨rfl,rfl,some a,cap,rfl,fun h=>by cases h⟩⟩,by simp,by simp⟩
  ·have B:a.spot=none:=by
    obtain ⟨c,_,g,d,_⟩:=F 0 v;have A:c[0]?=some (c[0]'(by omega)):=Jn (by omega);have:=g 0 _ A;have:=World.cell?_spot this;simpa [Addr.add] using this
   obtain ⟨b,off,R⟩:=a;simp only at B;subst B
   -- G the list and its cells
   have G:∀k,k≤len→∃(xs:List Value) (l:List α),l.length=k∧ag τ (iS w) xs l∧(∀y∈l,ok y)∧∀j u,xs[j]?=some u→w.cell? ⟨b,off+j,none⟩=some u:=by
    intro k;induction k with
    | zero=>intro _; exact ⟨[],[],rfl,ag.nil,by simp,by simp⟩
    | succ k ih=>
     intro V;obtain ⟨xs,l,d,r,s,g⟩:=ih (by omega);obtain ⟨c,y,A,Z,hy,J⟩:=F k (by omega);refine ⟨xs++c,l++[y],by simp [d],r.append (ag.one hy),?_,?_⟩
     ·intro z n;rcases Ju.1 n with n|n
      ·exact s z n
      ·simp at n; subst n; exact J
     ·intro j u p;rw [List.getElem?_append] at p;split at p
      ·exact g j u p
      ·rename_i hj;have:=A _ _ p;rw [Addr.add_lit,Addr.add_lit] at this;have hx:=r.1;rw [d] at hx;rw [show off+j=off+k*τ.sz+(j - xs.length) by omega];exact this
   obtain ⟨xs,l,d,r,s,g⟩:=G len (Nat.le_refl _);have I:0<xs.length:=by rw [r.1,d]; exact Nat.mul_pos v hsz
   have D:=g 0 xs[0] (Jn I);cases hblk:w.heap[b]? with
   | none=>simp [World.cell?,hblk] at D
   | some o=>
    cases o with
    | cells arr e fz=>
     refine ⟨l,⟨_,rfl,xs,r,.inr ⟨b,off,cap,arr,e,fz,by rw [d],by omega,hblk,fun j u p=>?_⟩⟩,s,by omega⟩;have:=g j u p;simpa [World.cell?,hblk] using this
    | _=>simp [World.cell?,hblk] at D
theorem tU {α:Type} {el:TypeId} {τ:Ty α} {ok:α→Prop} (hT:P.underlying T=some (.slice el)) (hc:P.cellsOf el=τ.sz) (hsz:0<τ.sz) (hr:mZ P el τ ok) :
 mZ P T (cj τ) (fun l=>(∀x∈l,ok x)∧l.length≤maxLen):=.of fun _=>qv hT hc hsz fun m _=>hr.at m
def tf (P:Program) (T:TypeId):Prop:=∀w r base cs,¬ Value.okWide P w r base T (.agg cs)
theorem oY {k:IntKind} (hT:P.underlying T=some (.int k)):tf P T:=fun _ _ _ _ h=>by obtain ⟨_,h⟩:=okWide_int hT h; cases h
theorem vr (hT:P.underlying T=some .string):tf P T:=fun _ _ _ _ h=>by obtain ⟨_,h⟩:=okWide_string hT h; cases h
theorem rY {e:TypeId} (hT:P.underlying T=some (.slice e)):tf P T:=fun _ _ _ _ h=>by obtain ⟨_,_,_,h⟩:=okWide_slice hT h; cases h
theorem ov {α:Type} {τ:Ty α} {ok:α→Prop} (c:tf P T) (hr:mZ P T τ ok) {H:Type} {enc:TypeId×Value→H} {w:World} {v:Value} {d:DataW H} {p:List MemPlace} {r:Reach} {a:Nat}
 (b:Value.okWide P w r a T v) (h:DataW.Trod enc P w 0 (fun _=>true) true T v d p):∃y,dj τ false (iS w) v y∧ok y:=by
 obtain ⟨f,g⟩:=h;obtain ⟨y,hy,e⟩:=hr H enc w f _ _ g;refine ⟨y,⟨v.cells.toList,?_,hy⟩,e⟩;cases v with
 | agg cs=>exact (c w r a cs b).elim
 | _=>simp [qM,Value.cells]
end
end Go.Lx
namespace Go.Lx
open Go.RowKit Go.Lib
theorem mK {P:Program} {W:World} {n:String} {d:DataW Unit} (h:VarReads P W n d) {b t e:Nat} {l:List Str} {m:Nat} (y:P.globalNamed n=some b) (G:(P.globals[b]?).map (·.type)=some t)
 (S:P.underlying t=some (.array m e)) (U:P.underlying e=some .string) (R:P.cellsOf e=1) (r:P.cellsOf t=m) (J:l.length=m) (N:d=.agg (l.map fun s=>.lit (.string s))) (hm:0<m:=by decide):kN b (l.map ao) (iS W):=by
 obtain ⟨q,D,cs,fuel,p,h1,Z,X,V⟩:=h;obtain rfl:q=b:=Option.some.inj (h1.symm.trans y);obtain rfl:D=t:=Option.some.inj (Z.symm.trans G);subst N;obtain ⟨xs,mm,_,hx,v,a2,L⟩:=DataW.trod_array S V;have Q:cs.toList=l.map ao:=by
  refine List.ext_getElem (by rw [v,r,JA]; exact J.symm) fun i g _=>?_
  have K:i<m:=by rw [v,r] at g; exact g
  have A:=L i K;rw [Jn (by omega),R] at A;obtain ⟨s,I,H,_⟩:=DataW.trod_string U A;have F:(DataW.agg (xs.map (·.1)):DataW Unit)=.agg (l.map fun s=>.lit (.string s)):=(congrArg Prod.fst hx).symm;have f:=congrArg (fun d=>match d with|DataW.agg ps=>ps[i]?|_=>none) F;simp only [JL,Jn (show i<xs.length by omega),Jn (show i<l.length by omega),Option.map_some,Option.some.injEq] at f;rw [H] at f;have k:=congrArg (fun c=>c[0]?) I;simp only [Nat.mul_one,List.getElem?_take,List.getElem?_drop] at k;simp at k;have z:cs.toList[i]?=some (Value.string s):=by rw [Array.getElem?_toList]; exact k
  rw [Jn g] at z;rw [Option.some.inj z,List.getElem_map];unfold ao;congr 1;have:s.data.toList=l[i]:=by simpa using f
  rw [←this]
 have w:∀(j:Nat) (u:Value),(l.map ao)[j]?=some u→W.cell? ⟨q,j,none⟩=some u:=by
  intro j u a;have:=World.var?_cell y X j;rw [this];rw [←Q] at a;simpa using a
 obtain ⟨x,hx⟩:∃x,(l.map ao)[0]?=some x:=⟨_,Jn (by rw [JA]; omega)⟩;have B:=w 0 x hx;cases ho:W.heap[q]? with
 | none=>simp [World.cell?,ho] at B
 | some o=>
  cases o with
  | cells arr T fz=>
   refine ⟨arr,T,fz,ho,fun j u a=>?_⟩;have:=w j u a;simpa [World.cell?,ho] using this
  | _=>simp [World.cell?,ho] at B
end Go.Lx
namespace Go.Lx
open Go.RowKit
abbrev I6 (n:Int):Value:=Value.int .i64 n
abbrev U8 (n:Int):Value:=Value.int .u8 n
abbrev U6 (n:Int):Value:=Value.int .u64 n
abbrev bW:List Value:=(bM.zero 4).1.map U6
abbrev bC (v:bM 4):List Value:=v.1.map U6
abbrev Bo (b:Bool):Value:=Value.bool b
abbrev Z0:Value:=Value.slice none 0 0
abbrev P0 (b:Nat):Value:=Value.pointer (some ⟨b,0,none⟩)
abbrev Ag (l:List Value):Value:=Value.agg l.toArray
abbrev bx (b:Nat) (T:TypeId) (cs:List Value):Res:=.obj b (.cells cs.toArray T (0,0))
abbrev Sp (g0:Hp) (w0:World) (g:Hp) (w:World) (L:List Res):Prop:=Sep g0 w0 g w L
theorem si {α:Type} {a b:α} (h:some a=some b):a=b:=Option.some.inj h
theorem Fm {t0 t1:Type} {a a':t0} {b b':t1} (h:(a,b)=(a',b')):a=a'∧b=b':=by simpa only [Prod.mk.injEq] using h
theorem re {t0 t1:Type} {a a':t0} {b b':t1} (h:some (a,b)=some (a',b')):a=a'∧b=b':=Fm (Option.some.inj h)
theorem HK {t0 t1 t2:Type} {a a':t0} {b b':t1} {c c':t2} (h:(a,b,c)=(a',b',c')):a=a'∧b=b'∧c=c':=by simpa only [Prod.mk.injEq] using h
theorem DN {t0 t1 t2:Type} {a a':t0} {b b':t1} {c c':t2} (h:some (a,b,c)=some (a',b',c')):a=a'∧b=b'∧c=c':=HK (Option.some.inj h)
theorem Ij {t0 t1 t2 t3:Type} {a a':t0} {b b':t1} {c c':t2} {d d':t3} (h:(a,b,c,d)=(a',b',c',d')):a=a'∧b=b'∧c=c'∧d=d':=by simpa only [Prod.mk.injEq] using h
theorem Ik {t0 t1 t2 t3:Type} {a a':t0} {b b':t1} {c c':t2} {d d':t3} (h:some (a,b,c,d)=some (a',b',c',d')):a=a'∧b=b'∧c=c'∧d=d':=Ij (Option.some.inj h)
theorem Ie {t0 t1 t2 t3 t4:Type} {a a':t0} {b b':t1} {c c':t2} {d d':t3} {e e':t4} (h:(a,b,c,d,e)=(a',b',c',d',e')):a=a'∧b=b'∧c=c'∧d=d'∧e=e':=by simpa only [Prod.mk.injEq] using h
theorem cp {σ ρ:Type} {s:σ} {k:σ→Option ρ} {r:ρ} (h:zQ (.next s) k=some r):k s=some r:=h
theorem bY:([]:List Deferred)=[]:=rfl
def FU:List Nat→Bool
 | []=>true
 | i::l=>!(l.elem i) && FU l
theorem rk:∀ {l:List Nat},FU l=true→l.Nodup
 | [],_=>List.nodup_nil
 | i::l,h=>by
  simp only [FU,Bool.and_eq_true,Bool.not_eq_true'] at h;refine List.nodup_cons.2 ⟨fun hm=>?_,rk h.2⟩;have:=List.elem_eq_true_of_mem hm;rw [h.1] at this; cases this
def Cc (A:List Res):List Nat→Option (List Res)
 | []=>some []
 | i::l=>match A[i]?,Cc A l with
  | some r,some m=>some (r::m)
  | _,_=>none
theorem tL {A:List Res}:∀ {is:List Nat} {L:List Res},Cc A is=some L→L.map some=is.map (A[·]?)
 | [],L,h=>by cases h; rfl
 | i::is,L,h=>by
  unfold Cc at h;split at h
  ·rename_i r m h1 h2;cases h
   rw [List.map_cons,List.map_cons,h1,tL h2]
  ·cases h
def FB (n:Nat) (is:List Nat) (L:List Res):Option (List Res):=bif FU is then (match Cc (L.take n) is with|some A=>some (A++L.drop n)|none=>none) else none
theorem Sep.sU {g0 g:Hp} {w0 w:World} {L L':List Res} (h:Sep g0 w0 g w L) (n:Nat) (b:List Nat) (a:FB n b L=some L'):Sep g0 w0 g w L':=by
 unfold FB at a;cases hn:FU b with
 | false=>rw [hn] at a; cases a
 | true=>
  rw [hn,cond_true] at a;split at a
  ·rename_i A d;cases a
   have c:Sep g0 w0 g w (L.take n++L.drop n):=by rw [List.take_append_drop]; exact h
   exact c.selT b (rk hn) (tL d)
  ·cases a
section
variable {P:Program} {n:Fr} {Q:EPost} {E:Env} {w:World} {ops:Array Oper} {rest:List Oper} {op:Op} {ty:TypeId} {ps:String} {af:Array Edge} {g0 g:Hp} {w0:World} {L:List Res}
theorem SR {id:Nat} {l:List Oper} {y:Code} (h:OW P n l.toArray (ld (WP P n y Q) Q) l E w):WP P n (.seq (.region id l.toArray false) y) Q E w:=aA (ak h)
theorem NR {id:Nat} {l:List Oper} {y:Code} {Q':EPost} (h:OW P n l.toArray (ld (WP P n y Q) Q) l E w):OW P n ops (ld (WP P n (.seq (.region id l.toArray false) y) Q) Q') [] E w:=aa (SR h)
theorem Om {d:Tmp} {x:Operand} (v:Value) (h:(ev E x,Nat.blt d n.sz)=(v,true)) (k:OW P n ops Q rest (bR E d v) w):OW P n ops Q (⟨some d,.move x,ty,ps,af,none⟩::rest) E w:=O (dR (congrArg Prod.fst h)) (congrArg Prod.snd h) k
theorem Oa {d:Tmp} {x:Operand} (v:Value) (h:(ev E x,Nat.blt d n.sz)=(v,true)) (k:OW P n ops Q rest (bR E d v) w):OW P n ops Q (⟨some d,.assign x,ty,ps,af,none⟩::rest) E w:=O (iv (congrArg Prod.fst h)) (congrArg Prod.snd h) k
theorem Of {d:Tmp} {T c:TypeId} {x:Operand} {f b o o':Nat} {e:Array Field} {a:Field} {agg:Bool} {size l:Nat} {z:Value} (i:P.underlying T=some (.struct e)) (g:dF P c agg size l z) (h:(e[f]?,a.type,Nat.blt 0 size,ev E x,o',Nat.blt d n.sz)=(some a,c,true,Value.pointer (some ⟨b,o,none⟩),o+a.offset,true))
 (k:OW P n ops Q rest (bR E d (.pointer (some ⟨b,o',none⟩))) w):OW P n ops Q (⟨some d,.fieldAddr T x f,ty,ps,af,none⟩::rest) E w:=by
 obtain ⟨hf,he,j,hx,ho,hd⟩:e[f]?=some a∧a.type=c∧Nat.blt 0 size=true∧ev E x=.pointer (some ⟨b,o,none⟩)∧o'=o+a.offset∧Nat.blt d n.sz=true:=by simpa only [Prod.mk.injEq] using h
 exact O (au i g hf he j hx ho) hd k
theorem Ol {d:Tmp} {T:TypeId} {size j:Nat} {z:Value} {x:Operand} (v:Value) (c:dF P T false size j z) (e:Sep g0 w0 g w L) (i o:Nat) {b:Nat} {T':TypeId} {cs:List Value} (hx:ev E x=.pointer (some ⟨b,o,none⟩)) (f:L[i]?=some (oG b T' cs)) (a:cs[o]?=some v)
 (h:Nat.blt d n.sz=true) (k:OW P n ops Q rest (bR E d v) w):OW P n ops Q (⟨some d,.load T x,ty,ps,af,none⟩::rest) E w:=O (bh c hx (e.cell f a)) h k
theorem On {d:Tmp} {T:TypeId} {size j:Nat} {z:Value} {x:Operand} {b:Nat} {T':TypeId} (cs:List Value) (a:dF P T true size j z) (e:cs.length=size) (c:Sep g0 w0 g w L) (i:Nat) (hx:ev E x=.pointer (some ⟨b,0,none⟩)) (f:L[i]?=some (oG b T' cs))
 (h:Nat.blt d n.sz=true) (k:OW P n ops Q rest (bR E d (.agg cs.toArray)) w):OW P n ops Q (⟨some d,.load T x,ty,ps,af,none⟩::rest) E w:=O (cP a hx e (c.cells f)) h k
theorem Oe {d:Tmp} {T:TypeId} {size g:Nat} {z:Value} {x:Operand} {b o:Nat} (cs:List Value) (a:dF P T true size g z) (c:cs.length=size) (f:∀j u,cs[j]?=some u→w.cell? ⟨b,o+j,none⟩=some u) (hx:ev E x=.pointer (some ⟨b,o,none⟩))
 (e:Nat.blt d n.sz=true) (k:OW P n ops Q rest (bR E d (.agg cs.toArray)) w):OW P n ops Q (⟨some d,.load T x,ty,ps,af,none⟩::rest) E w:=O (bF a hx c (.inl rfl) f rfl) e k
theorem Oc {d:Tmp} {T:TypeId} {bytes:Nat} {z:Value} {x:Operand} {b o:Nat} (v:Value) (ht:dF P T false 1 bytes z) (hc:∀j u,[v][j]?=some u→w.cell? ⟨b,o+j,none⟩=some u) (hx:ev E x=.pointer (some ⟨b,o,none⟩))
 (hd:Nat.blt d n.sz=true) (k:OW P n ops Q rest (bR E d v) w):OW P n ops Q (⟨some d,.load T x,ty,ps,af,none⟩::rest) E w:=O (bF (cs:=[v]) ht hx rfl (.inr rfl) hc rfl) hd k
theorem Ox {d:Tmp} {x:Operand} {vs:List Value} {i:Nat} (v:Value) (hx:ev E x=.tuple vs.toArray) (hi:vs[i]?=some v) (hd:Nat.blt d n.sz=true) (k:OW P n ops Q rest (bR E d v) w):OW P n ops Q (⟨some d,.extract x i,ty,ps,af,none⟩::rest) E w:=O (ra hx hi) hd k
theorem Ob {d:Tmp} {T:TypeId} {x:Operand} (zs:List Value) (hs:Sep g0 w0 g w L) (hx:ev E x=.agg zs.toArray) (hd:Nat.blt d n.sz=true)
 (k:∀b w',Sep g0 w0 g w' (oG b T zs::L)→OW P n ops Q rest (bR E d (.pointer (some ⟨b,0,none⟩))) w'):OW P n ops Q (⟨some d,.box T x,ty,ps,af,none⟩::rest) E w:=lW hx hs zs rfl hd k
theorem cT {T T':TypeId} {x y:Operand} {b:Nat} {cs:List Value} {size j:Nat} {z:Value} (a:dF P T true size j z) (c:Sep g0 w0 g w L) (i:Nat) (vs:List Value) (f:L[i]?=some (oG b T' cs))
 (hx:ev E x=.pointer (some ⟨b,0,none⟩)) (hy:ev E y=.agg vs.toArray) (h:∀v∈vs,v.oneCell'=true) (e:vs.length=size) (d:cs.length=vs.length)
 (k:∀w',Sep g0 w0 g w' (L.set i (oG b T' vs))→OW P n ops Q rest E w'):OW P n ops Q (⟨none,.store T x y,ty,ps,af,none⟩::rest) E w:=cB a c f hx hy rfl h e d k
theorem fm {l:List Value} (h:(l.all fun v=>v.oneCell')=true):∀v∈l,v.oneCell'=true:=fun v hv=>List.all_eq_true.1 h v hv
def lJ (ops:Array Oper) (E:Env) (j:Nat):Option Value:=match ops[j]? with
 | some o=>match o.dst with
  | some d=>some (E d)
  | none=>none
 | none=>none
theorem iP {j:Nat} {v:Value} (h:lJ ops E j=some v):∃oj d0,ops[j]?=some oj∧oj.dst=some d0∧ev E (.tmp d0)=v:=by
 unfold lJ at h;split at h
 ·rename_i o h1;split at h
  ·rename_i d h2;cases h
   exact ⟨o,d,h1,h2,rfl⟩
  ·cases h
 ·cases h
theorem OJ {d:Tmp} {j:Nat} {a b c:Bool} (e:b=c) (h:(lJ ops E j,c == a,Nat.blt d n.sz)=(some (.bool b),false,true)) (k:OW P n ops Q rest (bR E d undef) w):OW P n ops Q (⟨some d,op,ty,ps,af,some (j,a)⟩::rest) E w:=by
 obtain ⟨hj,hne,hd⟩:lJ ops E j=some (.bool b)∧(c == a)=false∧Nat.blt d n.sz=true:=by simpa only [Prod.mk.injEq] using h
 obtain ⟨oj,l,i,g,f⟩:=iP hj;exact OK i g f (by rw [e]; exact hne) hd k
theorem OI {d:Tmp} {v:Value} {w':World} {j:Nat} {a b c:Bool} (e:b=c) (h:(lJ ops E j,c == a,Nat.blt d n.sz)=(some (.bool b),true,true)) (hr:bo P E ⟨some d,op,ty,ps,af,some (j,a)⟩ w v w') (k:OW P n ops Q rest (bR E d v) w'):OW P n ops Q (⟨some d,op,ty,ps,af,some (j,a)⟩::rest) E w:=by
 obtain ⟨hj,hne,hd⟩:lJ ops E j=some (.bool b)∧(c == a)=true∧Nat.blt d n.sz=true:=by simpa only [Prod.mk.injEq] using h
 obtain ⟨oj,l,i,g,f⟩:=iP hj;exact OG i g f (by rw [e]; exact hne) hr hd k
theorem CI {d:Tmp} {f:FuncId} {xs:Array Operand} {s:Array TypeId} {j:Nat} {a b c:Bool} (h:b=c) (g:lJ ops E j=some (.bool b)) (e:(c == a)=true) (args:List Value) {R:Value→World→Prop} (i:CF P f) (o:xs.toList.map (ev E)=args) (m:aT P f args.toArray w R) (l:Nat.blt d n.sz=true)
 (k:∀v w',R v w'→OW P n ops Q rest (bR E d v) w'):OW P n ops Q (⟨some d,.call { callee:=.value (.func f),args:=xs,argTypes:=s },ty,ps,af,some (j,a)⟩::rest) E w:=by
 obtain ⟨oj,t,r,q,p⟩:=iP g;exact CG r q p (by rw [h]; exact e) args i o m l k
theorem SI {Q:Env→Prop} {d:Tmp} {v:Value} {j:Nat} {want b c:Bool} (hg:b=c) (hj:lJ ops E j=some (.bool b)) (hne:(c == want)=true) (hr:bo P E ⟨some d,op,ty,ps,af,some (j,want)⟩ w v w) (hd:Nat.blt d n.sz=true) (k:SW P n ops w Q rest (bR E d v)):SW P n ops w Q (⟨some d,op,ty,ps,af,some (j,want)⟩::rest) E:=by
 obtain ⟨oj,d0,h1,h2,h3⟩:=iP hj;exact SG h1 h2 h3 (by rw [hg]; exact hne) hr hd k
theorem SJ {Q:Env→Prop} {d:Tmp} {j:Nat} {a b c:Bool} (e:b=c) (h:(lJ ops E j,c == a,Nat.blt d n.sz)=(some (.bool b),false,true)) (k:SW P n ops w Q rest (bR E d undef)):SW P n ops w Q (⟨some d,op,ty,ps,af,some (j,a)⟩::rest) E:=by
 obtain ⟨hj,hne,hd⟩:lJ ops E j=some (.bool b)∧(c == a)=false∧Nat.blt d n.sz=true:=by simpa only [Prod.mk.injEq] using h
 obtain ⟨oj,l,i,g,f⟩:=iP hj;exact SK i g f (by rw [e]; exact hne) hd k
theorem Ok {d:Tmp} {j:Nat} {want b:Bool} (h:(lJ ops E j,b == want,Nat.blt d n.sz)=(some (.bool b),false,true)) (k:OW P n ops Q rest (bR E d undef) w):OW P n ops Q (⟨some d,op,ty,ps,af,some (j,want)⟩::rest) E w:=OJ rfl h k
theorem Sk {Q:Env→Prop} {d:Tmp} {j:Nat} {want b:Bool} (h:(lJ ops E j,b == want,Nat.blt d n.sz)=(some (.bool b),false,true)) (k:SW P n ops w Q rest (bR E d undef)):SW P n ops w Q (⟨some d,op,ty,ps,af,some (j,want)⟩::rest) E:=SJ rfl h k
theorem Im {d:Tmp} {x:Operand} {j:Nat} {want b c:Bool} (hg:b=c) (v:Value) (h:(ev E x,lJ ops E j,c == want,Nat.blt d n.sz)=(v,some (.bool b),true,true)) (k:OW P n ops Q rest (bR E d v) w):OW P n ops Q (⟨some d,.move x,ty,ps,af,some (j,want)⟩::rest) E w:=OI hg (congrArg Prod.snd h) (dR (congrArg Prod.fst h)) k
theorem Sm {Q:Env→Prop} {d:Tmp} {x:Operand} (v:Value) (h:(ev E x,Nat.blt d n.sz)=(v,true)) (k:SW P n ops w Q rest (bR E d v)):SW P n ops w Q (⟨some d,.move x,ty,ps,af,none⟩::rest) E:=S (dR (congrArg Prod.fst h)) (congrArg Prod.snd h) k
theorem Sa {Q:Env→Prop} {d:Tmp} {x:Operand} (v:Value) (h:(ev E x,Nat.blt d n.sz)=(v,true)) (k:SW P n ops w Q rest (bR E d v)):SW P n ops w Q (⟨some d,.assign x,ty,ps,af,none⟩::rest) E:=S (iv (congrArg Prod.fst h)) (congrArg Prod.snd h) k
theorem Jm {Q:Env→Prop} {d:Tmp} {x:Operand} {j:Nat} {a b c:Bool} (e:b=c) (v:Value) (h:(ev E x,lJ ops E j,c == a,Nat.blt d n.sz)=(v,some (.bool b),true,true)) (k:SW P n ops w Q rest (bR E d v)):SW P n ops w Q (⟨some d,.move x,ty,ps,af,some (j,a)⟩::rest) E:=by
 obtain ⟨hx,hj,hne,hd⟩:ev E x=v∧lJ ops E j=some (.bool b)∧(c == a)=true∧Nat.blt d n.sz=true:=by simpa only [Prod.mk.injEq] using h
 exact SI e hj hne (dR hx) hd k
theorem WA {id:Nat} {l:List Oper} (hs:Sep g0 w0 g w L) (t:OT) (hm:P.follows .mixedOrders=true) (hB:vJ l.toArray t=true) [hP:eM Q] (h:AT P n l.toArray Q (SS g0 w0 g L) t.qs t E w.drew):WP P n (.region id l.toArray true) Q E w:=tc t _ hm hB h
theorem Sep.ss (hs:Sep g0 w0 g w L):SS g0 w0 g L w:=⟨g,be.refl _,hs⟩
end
def uz:Nat→List Res→List Res
 | _,[]=>[]
 | m,r::l=>bif Nat.beq (Nat.mod m 2) 1 then r::uz (Nat.div m 2) l else uz (Nat.div m 2) l
theorem nq:∀(l:List Res) (m:Nat),List.Sublist (uz m l) l
 | [],_=>.slnil
 | r::l,m=>by
  unfold uz;cases Nat.beq (Nat.mod m 2) 1
  ·exact .cons _ (nq l _)
  ·exact .cons_cons _ (nq l _)
theorem Sep.kp {g0 g:Hp} {w0 w:World} {L L':List Res} (h:Sep g0 w0 g w L) (m:Nat) (e:uz m L=L'):Sep g0 w0 g w L':=h.sub (e ▸ nq L m)
theorem cv.oc {α:Type} {τ:Ty α} {g:Hp} {v:Value} {l:List α} (h:cv τ g v l):v.oneCell'=true:=bP h.shape
theorem Sep.oc {g0 g:Hp} {w0 w:World} {L:List Res} (h:Sep g0 w0 g w L) (i:Nat) {v:Value} {e:TypeId} {sz n:Nat} {xs:List Value} (hi:L[i]?=some (.row v e sz n xs)):v.oneCell'=true:=bP (h.rowShape hi)
section
variable {P:Program} {n:Fr} {Q:EPost} {E:Env} {w:World} {ops:Array Oper} {S:World→Prop} {qs:List Nat} {t:OT} {k:Nat} {d:Tmp} {ty:TypeId} {ps:String} {af:Array Edge}
theorem Am {x:Operand} (v:Value) (hS:S w) (h:(ops[k]?,ev E x,Nat.blt d n.sz)=(some ⟨some d,.move x,ty,ps,af,none⟩,v,true)) (hk:AT P n ops Q S qs t (bR E d v) w):AT P n ops Q S qs (.q k t) E w:=by
 obtain ⟨ho,hx,hd⟩:ops[k]?=some ⟨some d,.move x,ty,ps,af,none⟩∧ev E x=v∧Nat.blt d n.sz=true:=by simpa only [Prod.mk.injEq] using h
 exact A ho hS (fun _ _=>dR hx) hd hk
theorem Aa {x:Operand} (v:Value) (hS:S w) (h:(ops[k]?,ev E x,Nat.blt d n.sz)=(some ⟨some d,.assign x,ty,ps,af,none⟩,v,true)) (hk:AT P n ops Q S qs t (bR E d v) w):AT P n ops Q S qs (.q k t) E w:=by
 obtain ⟨ho,hx,hd⟩:ops[k]?=some ⟨some d,.assign x,ty,ps,af,none⟩∧ev E x=v∧Nat.blt d n.sz=true:=by simpa only [Prod.mk.injEq] using h
 exact A ho hS (fun _ _=>iv hx) hd hk
end
abbrev Ev (E:Env) (ks:List Nat) (vs:List Value):Prop:=ks.map E.s=vs
def Fx (E:Env):List Nat→List Value→Env
 | k::ks,v::vs=>bR (Fx E ks vs) k v
 | _,_=>E
theorem Fw {E:Env}:∀ {ks:List Nat} {vs:List Value},Ev E ks vs→Fx E ks vs=E
 | [],vs,_=>by unfold Fx; rfl
 | k::ks,[],h=>by cases h
 | k::ks,v::vs,h=>by
  have h1:=(List.cons.inj h).1;show bR (Fx E ks vs) k v=E;rw [Fw (List.cons.inj h).2];exact zq h1
theorem xl {E:Env} {ks:List Nat} {vs:List Value} (h:Ev E ks vs):∃E0,E=Fx E0 ks vs:=⟨E,(Fw h).symm⟩
theorem so {E:Env} {k0:Nat} {v0:Value} (h:Ev E [k0] [v0]):∃E0,E=bR E0 k0 v0:=xl h
theorem pt {E:Env} {k0 k1:Nat} {v0 v1:Value} (h:Ev E [k0,k1] [v0,v1]):∃E0,E=bR (bR E0 k1 v1) k0 v0:=xl h
theorem mD {E:Env} {k0 k1 k2:Nat} {v0 v1 v2:Value} (h:Ev E [k0,k1,k2] [v0,v1,v2]):∃E0,E=bR (bR (bR E0 k2 v2) k1 v1) k0 v0:=xl h
theorem nb {E:Env} {k0 k1 k2 k3:Nat} {v0 v1 v2 v3:Value} (h:Ev E [k0,k1,k2,k3] [v0,v1,v2,v3]):∃E0,E=bR (bR (bR (bR E0 k3 v3) k2 v2) k1 v1) k0 v0:=xl h
theorem tm {E:Env} {k0 k1 k2 k3 k4:Nat} {v0 v1 v2 v3 v4:Value} (h:Ev E [k0,k1,k2,k3,k4] [v0,v1,v2,v3,v4]):∃E0,E=bR (bR (bR (bR (bR E0 k4 v4) k3 v3) k2 v2) k1 v1) k0 v0:=xl h
theorem sn {E:Env} {k0 k1 k2 k3 k4 k5:Nat} {v0 v1 v2 v3 v4 v5:Value} (h:Ev E [k0,k1,k2,k3,k4,k5] [v0,v1,v2,v3,v4,v5]):∃E0,E=bR (bR (bR (bR (bR (bR E0 k5 v5) k4 v4) k3 v3) k2 v2) k1 v1) k0 v0:=xl h
theorem ug {E:Env} {k0 k1 k2 k3 k4 k5 k6:Nat} {v0 v1 v2 v3 v4 v5 v6:Value} (h:Ev E [k0,k1,k2,k3,k4,k5,k6] [v0,v1,v2,v3,v4,v5,v6]):∃E0,E=bR (bR (bR (bR (bR (bR (bR E0 k6 v6) k5 v5) k4 v4) k3 v3) k2 v2) k1 v1) k0 v0:=xl h
theorem uf {E:Env} {k0 k1 k2 k3 k4 k5 k6 k7:Nat} {v0 v1 v2 v3 v4 v5 v6 v7:Value} (h:Ev E [k0,k1,k2,k3,k4,k5,k6,k7] [v0,v1,v2,v3,v4,v5,v6,v7]):∃E0,E=bR (bR (bR (bR (bR (bR (bR (bR E0 k7 v7) k6 v6) k5 v5) k4 v4) k3 v3) k2 v2) k1 v1) k0 v0:=xl h
theorem Fo {E:Env} {k0 k1 k2 k3 k4 k5 k6 k7 k8:Nat} {v0 v1 v2 v3 v4 v5 v6 v7 v8:Value} (h:Ev E [k0,k1,k2,k3,k4,k5,k6,k7,k8] [v0,v1,v2,v3,v4,v5,v6,v7,v8]):∃E0,E=bR (bR (bR (bR (bR (bR (bR (bR (bR E0 k8 v8) k7 v7) k6 v6) k5 v5) k4 v4) k3 v3) k2 v2) k1 v1) k0 v0:=xl h
theorem uh {E:Env} {k0 k1 k2 k3 k4 k5 k6 k7 k8 k9:Nat} {v0 v1 v2 v3 v4 v5 v6 v7 v8 v9:Value} (h:Ev E [k0,k1,k2,k3,k4,k5,k6,k7,k8,k9] [v0,v1,v2,v3,v4,v5,v6,v7,v8,v9]):∃E0,E=bR (bR (bR (bR (bR (bR (bR (bR (bR (bR E0 k9 v9) k8 v8) k7 v7) k6 v6) k5 v5) k4 v4) k3 v3) k2 v2) k1 v1) k0 v0:=xl h
theorem yy {E:Env} {k0 k1 k2 k3 k4 k5 k6 k7 k8 k9 k10:Nat} {v0 v1 v2 v3 v4 v5 v6 v7 v8 v9 v10:Value} (h:Ev E [k0,k1,k2,k3,k4,k5,k6,k7,k8,k9,k10] [v0,v1,v2,v3,v4,v5,v6,v7,v8,v9,v10]):∃E0,E=bR (bR (bR (bR (bR (bR (bR (bR (bR (bR (bR E0 k10 v10) k9 v9) k8 v8) k7 v7) k6 v6) k5 v5) k4 v4) k3 v3) k2 v2) k1 v1) k0 v0:=xl h
theorem ER {E:Env} {k0 k1 k2 k3 k4 k5 k6 k7 k8 k9 k10 k11:Nat} {v0 v1 v2 v3 v4 v5 v6 v7 v8 v9 v10 v11:Value} (h:Ev E [k0,k1,k2,k3,k4,k5,k6,k7,k8,k9,k10,k11] [v0,v1,v2,v3,v4,v5,v6,v7,v8,v9,v10,v11]):∃E0,E=bR (bR (bR (bR (bR (bR (bR (bR (bR (bR (bR (bR E0 k11 v11) k10 v10) k9 v9) k8 v8) k7 v7) k6 v6) k5 v5) k4 v4) k3 v3) k2 v2) k1 v1) k0 v0:=xl h
theorem zR {E:Env} {k0 k1 k2 k3 k4 k5 k6 k7 k8 k9 k10 k11 k12:Nat} {v0 v1 v2 v3 v4 v5 v6 v7 v8 v9 v10 v11 v12:Value} (h:Ev E [k0,k1,k2,k3,k4,k5,k6,k7,k8,k9,k10,k11,k12] [v0,v1,v2,v3,v4,v5,v6,v7,v8,v9,v10,v11,v12]):∃E0,E=bR (bR (bR (bR (bR (bR (bR (bR (bR (bR (bR (bR (bR E0 k12 v12) k11 v11) k10 v10) k9 v9) k8 v8) k7 v7) k6 v6) k5 v5) k4 v4) k3 v3) k2 v2) k1 v1) k0 v0:=xl h
theorem HL {E:Env} {t k1 k2 o n m l k j i s r q p:Nat} {v0 v1 v2 v3 v4 v5 c b a v9 g f e d:Value} (h:Ev E [t,k1,k2,o,n,m,l,k,j,i,s,r,q,p] [v0,v1,v2,v3,v4,v5,c,b,a,v9,g,f,e,d]):∃u,E=bR (bR (bR (bR (bR (bR (bR (bR (bR (bR (bR (bR (bR (bR u p d) q e) r f) s g) i v9) j a) k b) l c) m v5) n v4) o v3) k2 v2) k1 v1) t v0:=xl h
end Go.Lx
namespace Go.Proofs.YtbkjljkjhlcmoaaGreatDoor
open Go.Lx Go.RowKit
theorem mo:Tryz.prog.follows .mixedOrders=true:=by kernel_rfl
theorem bm:dF Tryz.prog 3 false 1 8 (Value.int .i64 0):=dy (by kernel_rfl) (by kernel_rfl)
theorem eZ:dF Tryz.prog 4 false 1 1 (Value.bool false):=dy (by kernel_rfl) (by kernel_rfl)
theorem wO:dF Tryz.prog 5 false 1 1 (Value.int .u8 0):=dy (by kernel_rfl) (by kernel_rfl)
theorem fY:dF Tryz.prog 9 false 1 16 (ao []):=dy (by kernel_rfl) (by kernel_rfl)
theorem mc:dF Tryz.prog 23 false 1 8 (Value.int .i64 0):=dy (by kernel_rfl) (by kernel_rfl)
theorem ma:dF Tryz.prog 26 false 1 24 (.slice none 0 0):=dy (by kernel_rfl) (by kernel_rfl)
theorem HD:dF Tryz.prog 28 true 4 48 (Value.agg (List.toArray (α:=Value) [.slice none 0 0,Value.bool false,Value.int .i64 0,Value.int .i64 0])):=dy (by kernel_rfl) (by kernel_rfl)
theorem bp:dF Tryz.prog 35 false 1 24 (.slice none 0 0):=dy (by kernel_rfl) (by kernel_rfl)
theorem jC:dF Tryz.prog 37 true 5 72 (Value.agg (List.toArray (α:=Value) [ao [],Value.int .i64 0,ao [],ao [],ao []])):=dy (by kernel_rfl) (by kernel_rfl)
theorem Fy:dF Tryz.prog 38 false 1 8 (Value.nilFunc):=dy (by kernel_rfl) (by kernel_rfl)
theorem eO:dF Tryz.prog 58 false 1 24 (.slice none 0 0):=dy (by kernel_rfl) (by kernel_rfl)
theorem bT:dF Tryz.prog 60 true 3 72 (Value.agg (List.toArray (α:=Value) [.slice none 0 0,.slice none 0 0,.slice none 0 0])):=dy (by kernel_rfl) (by kernel_rfl)
theorem jp:dF Tryz.prog 113 false 1 24 (.slice none 0 0):=dy (by kernel_rfl) (by kernel_rfl)
theorem ec:dF Tryz.prog 243 false 1 8 (Value.int .u64 0):=dy (by kernel_rfl) (by kernel_rfl)
theorem bU:dF Tryz.prog 245 true 4 32 (cL .u64 (bM.zero 4)):=dy (by kernel_rfl) (by kernel_rfl)
theorem eG:dF Tryz.prog 246 false 1 24 (.slice none 0 0):=dy (by kernel_rfl) (by kernel_rfl)
theorem aQ:dF Tryz.prog 248 true 6 64 (Value.agg (List.toArray (α:=Value) (([Value.int .i64 0])++(((bM.zero 4).1.map (Value.int .u64))++([.slice none 0 0]))))):=dy (by kernel_rfl) (by kernel_rfl)
theorem tz:dF Tryz.prog 320 true 2 16 (Value.agg (List.toArray (α:=Value) [Value.nilFunc,Value.int .i64 0])):=dy (by kernel_rfl) (by kernel_rfl)
theorem jo:dF Tryz.prog 322 false 1 24 (.slice none 0 0):=dy (by kernel_rfl) (by kernel_rfl)
theorem eP:dF Tryz.prog 324 true 4 64 (Value.agg (List.toArray (α:=Value) [Value.int .i64 0,Value.int .i64 0,.slice none 0 0,.slice none 0 0])):=dy (by kernel_rfl) (by kernel_rfl)
theorem zr:dF Tryz.prog 339 true 0 0 (Value.agg (List.toArray (α:=Value) [])):=dy (by kernel_rfl) (by kernel_rfl)
theorem oU:dF Tryz.prog 375 false 1 8 (Value.map none):=dy (by kernel_rfl) (by kernel_rfl)
theorem nN:dF Tryz.prog 376 false 1 24 (.slice none 0 0):=dy (by kernel_rfl) (by kernel_rfl)
theorem kQ:dF Tryz.prog 377 false 1 24 (.slice none 0 0):=dy (by kernel_rfl) (by kernel_rfl)
theorem bZ:dF Tryz.prog 381 true 3 56 (Value.agg (List.toArray (α:=Value) [Value.bool false,.slice none 0 0,.slice none 0 0])):=dy (by kernel_rfl) (by kernel_rfl)
theorem fc:dF Tryz.prog 389 true 7 56 (Value.agg (List.toArray (α:=Value) (([Value.int .i64 0])++(([Value.int .i64 0])++(([Value.bool false])++((bM.zero 4).1.map (Value.int .u64))))))):=dy (by kernel_rfl) (by kernel_rfl)
theorem ii:dF Tryz.prog 402 true 2 16 (Value.agg (List.toArray (α:=Value) [Value.int .i64 0,Value.int .i64 0])):=dy (by kernel_rfl) (by kernel_rfl)
theorem oT:dF Tryz.prog 404 true 3 32 (Value.agg (List.toArray (α:=Value) (([Value.int .i64 0,Value.int .i64 0])++([ao []])))):=dy (by kernel_rfl) (by kernel_rfl)
theorem DV:Tryz.prog.eqGuardType Tryz.prog.depth 245=false:=by kernel_rfl
theorem Gu:Tryz.prog.concrete 9=true:=by kernel_rfl
theorem Dd:Tryz.prog.concrete 308=true:=by kernel_rfl
theorem HW:CF Tryz.prog 76:=bw Tryz.func76 rfl (by decide)
theorem HV:CF Tryz.prog 95:=bw Tryz.func95 rfl (by decide)
theorem Ek:CF Tryz.prog 121:=bw Tryz.func121 rfl (by decide)
theorem Hl:CF Tryz.prog 133:=bw Tryz.func133 rfl (by decide)
theorem Bn:CF Tryz.prog 134:=bw Tryz.func134 rfl (by decide)
theorem Hk:CF Tryz.prog 135:=bw Tryz.func135 rfl (by decide)
theorem Hj:CF Tryz.prog 136:=bw Tryz.func136 rfl (by decide)
theorem gX:CF Tryz.prog 152:=bw Tryz.func152 rfl (by decide)
theorem Ej:CF Tryz.prog 156:=bw Tryz.func156 rfl (by decide)
theorem xV:CF Tryz.prog 185:=bw Tryz.func185 rfl (by decide)
theorem xU:CF Tryz.prog 186:=bw Tryz.func186 rfl (by decide)
theorem gW:CF Tryz.prog 187:=bw Tryz.func187 rfl (by decide)
theorem Ei:CF Tryz.prog 188:=bw Tryz.func188 rfl (by decide)
theorem Bl:CF Tryz.prog 190:=bw Tryz.func190 rfl (by decide)
theorem Hi:CF Tryz.prog 194:=bw Tryz.func194 rfl (by decide)
theorem Hh:CF Tryz.prog 195:=bw Tryz.func195 rfl (by decide)
theorem Hg:CF Tryz.prog 196:=bw Tryz.func196 rfl (by decide)
theorem Hf:CF Tryz.prog 197:=bw Tryz.func197 rfl (by decide)
theorem He:CF Tryz.prog 198:=bw Tryz.func198 rfl (by decide)
theorem Hd:CF Tryz.prog 199:=bw Tryz.func199 rfl (by decide)
theorem Hc:CF Tryz.prog 200:=bw Tryz.func200 rfl (by decide)
theorem Hb:CF Tryz.prog 201:=bw Tryz.func201 rfl (by decide)
theorem Ha:CF Tryz.prog 202:=bw Tryz.func202 rfl (by decide)
theorem GZ:CF Tryz.prog 203:=bw Tryz.func203 rfl (by decide)
theorem GY:CF Tryz.prog 204:=bw Tryz.func204 rfl (by decide)
theorem od:CF Tryz.prog 205:=bw Tryz.func205 rfl (by decide)
theorem Bk:CF Tryz.prog 206:=bw Tryz.func206 rfl (by decide)
theorem GX:CF Tryz.prog 207:=bw Tryz.func207 rfl (by decide)
theorem GW:CF Tryz.prog 208:=bw Tryz.func208 rfl (by decide)
theorem GV:CF Tryz.prog 215:=bw Tryz.func215 rfl (by decide)
theorem GU:CF Tryz.prog 217:=bw Tryz.func217 rfl (by decide)
theorem xT:CF Tryz.prog 237:=bw Tryz.func237 rfl (by decide)
theorem rG:CF Tryz.prog 238:=bw Tryz.func238 rfl (by decide)
theorem Eh:CF Tryz.prog 239:=bw Tryz.func239 rfl (by decide)
theorem Eg:CF Tryz.prog 240:=bw Tryz.func240 rfl (by decide)
theorem Ef:CF Tryz.prog 241:=bw Tryz.func241 rfl (by decide)
theorem Ee:CF Tryz.prog 247:=bw Tryz.func247 rfl (by decide)
theorem xS:CF Tryz.prog 248:=bw Tryz.func248 rfl (by decide)
theorem Bj:CF Tryz.prog 249:=bw Tryz.func249 rfl (by decide)
theorem GT:CF Tryz.prog 250:=bw Tryz.func250 rfl (by decide)
theorem GS:CF Tryz.prog 251:=bw Tryz.func251 rfl (by decide)
theorem GR:CF Tryz.prog 252:=bw Tryz.func252 rfl (by decide)
theorem GQ:CF Tryz.prog 253:=bw Tryz.func253 rfl (by decide)
theorem Ed:CF Tryz.prog 254:=bw Tryz.func254 rfl (by decide)
theorem Bi:CF Tryz.prog 255:=bw Tryz.func255 rfl (by decide)
theorem Bh:CF Tryz.prog 256:=bw Tryz.func256 rfl (by decide)
theorem GP:CF Tryz.prog 257:=bw Tryz.func257 rfl (by decide)
theorem GO:CF Tryz.prog 258:=bw Tryz.func258 rfl (by decide)
theorem GN:CF Tryz.prog 259:=bw Tryz.func259 rfl (by decide)
theorem GM:CF Tryz.prog 260:=bw Tryz.func260 rfl (by decide)
theorem GL:CF Tryz.prog 261:=bw Tryz.func261 rfl (by decide)
theorem Bg:CF Tryz.prog 262:=bw Tryz.func262 rfl (by decide)
theorem Ec:CF Tryz.prog 263:=bw Tryz.func263 rfl (by decide)
theorem Bf:CF Tryz.prog 264:=bw Tryz.func264 rfl (by decide)
theorem Eb:CF Tryz.prog 303:=bw Tryz.func303 rfl (by decide)
theorem GK:CF Tryz.prog 309:=bw Tryz.func309 rfl (by decide)
theorem GJ:CF Tryz.prog 310:=bw Tryz.func310 rfl (by decide)
theorem GH:CF Tryz.prog 311:=bw Tryz.func311 rfl (by decide)
theorem GG:CF Tryz.prog 312:=bw Tryz.func312 rfl (by decide)
theorem GF:CF Tryz.prog 313:=bw Tryz.func313 rfl (by decide)
theorem GE:CF Tryz.prog 314:=bw Tryz.func314 rfl (by decide)
theorem Be:CF Tryz.prog 317:=bw Tryz.func317 rfl (by decide)
theorem GD:CF Tryz.prog 318:=bw Tryz.func318 rfl (by decide)
theorem Ea:CF Tryz.prog 319:=bw Tryz.func319 rfl (by decide)
theorem GC:CF Tryz.prog 320:=bw Tryz.func320 rfl (by decide)
theorem GB:CF Tryz.prog 321:=bw Tryz.func321 rfl (by decide)
theorem xR:CF Tryz.prog 322:=bw Tryz.func322 rfl (by decide)
theorem DZ:CF Tryz.prog 344:=bw Tryz.func344 rfl (by decide)
theorem GA:CF Tryz.prog 348:=bw Tryz.func348 rfl (by decide)
theorem xQ:CF Tryz.prog 357:=bw Tryz.func357 rfl (by decide)
theorem DY:CF Tryz.prog 358:=bw Tryz.func358 rfl (by decide)
theorem Gz:CF Tryz.prog 359:=bw Tryz.func359 rfl (by decide)
theorem rF:CF Tryz.prog 360:=bw Tryz.func360 rfl (by decide)
theorem Gy:CF Tryz.prog 361:=bw Tryz.func361 rfl (by decide)
theorem xP:CF Tryz.prog 365:=bw Tryz.func365 rfl (by decide)
theorem Gx:CF Tryz.prog 366:=bw Tryz.func366 rfl (by decide)
theorem DX:CF Tryz.prog 367:=bw Tryz.func367 rfl (by decide)
theorem Gw:CF Tryz.prog 368:=bw Tryz.func368 rfl (by decide)
theorem DW:CF Tryz.prog 369:=bw Tryz.func369 rfl (by decide)
theorem Gv:CF Tryz.prog 370:=bw Tryz.func370 rfl (by decide)
open Go.ChangeShapes Go.WideShapes Go.ChangeAt
end Go.Proofs.YtbkjljkjhlcmoaaGreatDoor
