/- Part 14. -/
import Derived.Maps.RangeRun
import Derived.Laws.RangeAny
import Derived.Test.YtbkjljkjhlcmoaaGreatDoorKBoth13
set_option linter.unusedVariables false
set_option linter.unusedSimpArgs false
namespace Go.Lx
open Go.RowKit
section
variable {P:Program} {E:Env} {w:World} {w0:Frm} {d:Option Tmp} {ty:TypeId} {ps:String} {af:Array Edge} {gd:Option (Nat×Bool)} {ρ:List Place} {h:List AB} {s:Nat→AV}
theorem HR.newObj (hr:HR w0 ρ h w) (o:Obj) {x:AB} (hx:x.holds (ρ++[⟨w.heap.size,0,0⟩]) (w.alloc o) ⟨w.heap.size,0,0⟩):HR w0 (ρ++[⟨w.heap.size,0,0⟩]) (h++[x]) (w.alloc o)∧aD (ρ++[⟨w.heap.size,0,0⟩]) (.ptr h.length 0)=some (.pointer (some ⟨w.heap.size,0,none⟩)):=by
 refine ⟨hr.alloc o hx,?_⟩;simp only [aD];rw [←hr.len,List.getElem?_concat_length]
theorem yu (hr:HR w0 ρ h w) (q:FR ρ s E) {T:TypeId} {x:Operand} {a c:AV} {k:List AB} (hx:cW s x=some a) (e:pk P h T a=some (c,k)):wL P E w0 ρ ⟨d,.range T x,ty,ps,af,gd⟩ w c k:=by
 have g:=aV q hx;unfold pk at e;split at e
 ·rename_i st;simp only [aD,Option.some.injEq] at g;split at e
  ·rename_i f;cases e
   obtain ⟨j,i⟩:=hr.newObj (.stringIter ⟨st.toArray⟩ 0) (x:=.siter st 0) ⟨rfl,heap_alloc_new w _⟩;refine ⟨_,_,_,bj.app _ _,i,j,.inl ?_⟩;simp [execOp,Instr.range,←g,run_underlying f,ao]
  ·cases e
 ·rename_i m;split at e
  ·rename_i mt es clock hmt hm;cases e
   obtain ⟨p,en,o,n,l,_⟩:=hr.mapBlk g hm;obtain ⟨j,i⟩:=hr.newObj (.mapIter (some p.b) clock #[] clock) (x:=.miter m clock [] clock) ⟨rfl,p,bj.app _ _ _ _ o,heap_alloc_new w _⟩;refine ⟨_,_,_,bj.app _ _,i,j,.inl ?_⟩;obtain ⟨kk,r⟩:=mt;have f:=gu hmt;simp [execOp,Instr.range,n,run_underlying f,getObj,Sem.run,l]
  ·cases e
 ·cases e
theorem HR.putBlk (hr:HR w0 ρ h w) {b:Nat} {p:Place} {x x':AB} {o o':Obj} (hp:ρ[b]?=some p) (hb:h[b]?=some x) (ho:x.own=true) (hw:w.heap[p.b]?=some o) (hx:x'.holds ρ (w.putObj p.b o') p) (hl:x'.own=x'.live):HR w0 ρ (h.set b x') (w.putObj p.b o'):=
 hr.upd hp hb ho (w':=w.putObj p.b _) ⟨rfl,rfl,rfl,by simp,fun k _ hk=>World.putObj_heap_other (fun e=>hk (by simp [e]))⟩ hx hl
theorem nB {b:Nat} {p:Place} {v:Value} (hc:aD ρ (.ptr b 0)=some v) (hp:ρ[b]?=some p) (h0:p.o=0):v=.pointer (some ⟨p.b,0,none⟩):=by
 obtain ⟨q,h1,h2⟩:=eW hc;rw [hp] at h1;cases h1
 rw [h2,h0]
theorem dX {b o:Nat} {v:Value} (hc:aD ρ (.ptr b o)=some v):∃p,ρ[b]?=some p:=by
 obtain ⟨q,h1,_⟩:=eW hc;exact ⟨q,h1⟩
theorem vl (st:Str) (pos:Nat) (c:UInt8) (hc:st[pos]?=some c) (h:c.toNat<128):Utf8.decode ⟨st.toArray⟩ pos=(c.toNat,1):=by
 obtain ⟨hlt,hc⟩:=Jo.1 hc;have hg:(ByteArray.mk st.toArray).get! (pos+0)=c:=by
  simp [ByteArray.get!,hlt,hc]
 unfold Utf8.decode;simp only [hg];rw [if_pos (by omega)]
theorem zV (hr:HR w0 ρ h w) (o:FR ρ s E) {x:Operand} {a c:AV} {m:List AB} (hx:cW s x=some a) (e:xp h a=some (c,m)):wL P E w0 ρ ⟨d,.next x true,ty,ps,af,gd⟩ w c m:=by
 have k:=aV o hx;unfold xp at e;split at e
 ·rename_i b;obtain ⟨p,g⟩:=dX k;split at e
  ·rename_i st pos hb;obtain ⟨l,f⟩:=hr.at_ b p _ g hb;have j:=nB k g l;split at e
   ·rename_i hn;cases e
    refine fF hr ⟨.tuple #[.bool false],rfl,.inl ?_⟩;have hsz:¬ pos<(ByteArray.mk st.toArray).size:=by
     have:st.length≤pos:=by rw [List.getElem?_eq_none_iff] at hn; exact hn
     simp [ByteArray.size]; omega
    rw [show execOp (ev E) ⟨d,.next x true,ty,ps,af,gd⟩=(do pure (.value (←Instr.next (ev E x) true ty))) from rfl,j];simp only [Instr.next,Sem.run_bind,getObj,Sem.run,f,Jz,if_neg hsz,Sem.run_pure]
   ·rename_i c' hc';split at e
    ·rename_i i;have i:c'.toNat<128:=Nat.le_of_ble_eq_true i;cases e
     refine ⟨ρ,.tuple #[.bool true,.int .i64 pos,.int .i32 c'.toNat],_,bj.refl _,rfl,hr.putBlk (x':=.siter st (pos+1)) (o':=.stringIter ⟨st.toArray⟩ (pos+1)) g hb rfl f ⟨l,World.putObj_heap_same (Array.getElem?_eq_some_iff.1 f).1⟩ rfl,.inl ?_⟩;have hsz:pos<(ByteArray.mk st.toArray).size:=by
      have:=(Jo.1 hc').1;simpa [ByteArray.size] using this
     rw [show execOp (ev E) ⟨d,.next x true,ty,ps,af,gd⟩=(do pure (.value (←Instr.next (ev E x) true ty))) from rfl,j];simp only [Instr.next,Sem.run_bind,getObj,Sem.run,f,Jz,if_pos hsz,vl st pos c' hc' i,Sem.run_pure];have n:(setObj p.b (.stringIter ⟨st.toArray⟩ (pos+1))).run P w=.ok () (w.putObj p.b (.stringIter ⟨st.toArray⟩ (pos+1))):=by simp [setObj,Sem.run,f,World.putObj]
     simp only [n,Jz];rfl
    ·cases e
  ·cases e
 ·cases e
theorem zW (hr:HR w0 ρ h w) (S:FR ρ s E) {x:Operand} {a c:AV} {K:List AB} (hx:cW s x=some a) (f:xq h a=some (c,K)):wL P E w0 ρ ⟨d,.next x false,ty,ps,af,gd⟩ w c K:=by
 have I:=aV S hx;unfold xq at f;split at f
 ·rename_i b;obtain ⟨p,y⟩:=dX I;split at f
  ·rename_i m since seen stepped hb;obtain ⟨J,q,u,r⟩:=hr.at_ b p _ y hb;have N:=nB I y J;have A:execOp (ev E) ⟨d,.next x false,ty,ps,af,gd⟩=(do pure (.value (←Instr.next (.pointer (some ⟨p.b,0,none⟩)) false ty))):=by
    rw [show execOp (ev E) ⟨d,.next x false,ty,ps,af,gd⟩=(do pure (.value (←Instr.next (ev E x) false ty))) from rfl,N]
   split at f
   ·rename_i clock hm;cases f
    obtain ⟨en,z,g⟩:=hr.at_ m q _ u hm;have B:en=#[]:=by
     cases en with
     | mk l=>cases l with
      | nil=>rfl
      | cons _ _=>exact g.elim
    subst B;refine fF hr ⟨.tuple #[.bool false],rfl,.inl ?_⟩;rw [A];simp [Instr.next,getObj,Sem.run,r,z,choose,Question.forced]
   ·rename_i k v n clock hm;obtain ⟨en,z,g⟩:=hr.at_ m q _ u hm;obtain ⟨e,B,hk,hvv,hn⟩:∃e,en=#[e]∧aD ρ k=some e.key∧aD ρ v=some e.val∧e.born=n:=by
     cases en with
     | mk l=>cases l with
      | nil=>exact g.elim
      | cons e l=>cases l with
       | nil=>exact ⟨e,rfl,g.1,g.2.1,g.2.2.1⟩
       | cons _ _=>exact g.2.2.2.elim
    subst B;split at f
    ·rename_i i;simp only [Bool.and_eq_true] at i;have c1:n<since:=Nat.le_of_ble_eq_true i.1;have c2:=Nat.le_of_ble_eq_true i.2;have H:((leftOf #[e] seen.toArray).size=0↔seen.contains n=true):=by
      simp only [leftOf];rw [←hn]
      by_cases hs:seen.contains e.born=true
      ·simp [hs,Array.filter]
      ·simp [hs,Array.filter]
     rcases run_next_at (P:=P) w ty p.b q.b since stepped seen.toArray #[e] clock r z (by simp; omega) c2 with ⟨L,t⟩|⟨j,o,D,G,t⟩
     ·rw [if_pos (H.1 L)] at f;cases f
      refine fF hr ⟨.tuple #[.bool false],rfl,.inl ?_⟩;rw [A];simp only [Sem.run_bind,t,Jz,Sem.run_pure]
     ·have R:¬ seen.contains n=true:=fun i=>by
       have:=H.2 i;have U:(leftOf #[e] seen.toArray).toList=[]:=by
        have W:(leftOf #[e] seen.toArray)=#[]:=Array.eq_empty_of_size_eq_zero this;rw [W]
       rw [U] at o;cases o
      have T:j=e:=by
       have:j∈(#[e]:Array MapEntry).toList:=by
        simp only [leftOf] at o;have V:=Array.mem_toList_iff.1 o;exact Array.mem_toList_iff.2 (Array.mem_filter.1 V).1
       simpa using this
      subst T;rw [if_neg R] at f;cases f
      have Q:HR w0 ρ h D:=by
       rcases G with rfl|rfl
       ·exact hr
       ·exact hr.drew
      have F:D.heap[p.b]?=some (.mapIter (some q.b) since seen.toArray stepped):=by
       rcases G with rfl|rfl <;> exact r
      refine ⟨ρ,.tuple #[.bool true,j.key,j.val],_,bj.refl _,by simp only [aD,concL,hk,hvv],Q.putBlk (x':=.miter m since (seen++[n]) clock) (o':=.mapIter (some q.b) since (seen.toArray.push j.born) clock) y hb rfl F ⟨J,q,u,?_⟩ rfl,.inl ?_⟩
      ·rw [World.putObj_heap_same (Array.getElem?_eq_some_iff.1 F).1,hn];simp
      ·rw [A];simp only [Sem.run_bind,t,Jz,Sem.run_pure];rfl
    ·cases f
   ·cases f
  ·cases f
 ·cases f
theorem yN (hr:HR w0 ρ h w) (y:FR ρ s E) {x:Operand} {a c:AV} (hx:cW s x=some a) (f:sS h a=some c):∃v,aD ρ c=some v∧bo P E ⟨d,.entry x,ty,ps,af,gd⟩ w v w:=by
 have j:=aV y hx;unfold sS at f;split at f
 ·rename_i b;obtain ⟨p,i⟩:=dX j;split at f
  ·rename_i m since seen stepped hb;obtain ⟨A,q,t,o⟩:=hr.at_ b p _ i hb;have r:=nB j i A;split at f
   ·rename_i k v n clock hm;obtain ⟨en,u,g⟩:=hr.at_ m q _ t hm;obtain ⟨e,hen,hk,hvv,hn⟩:∃e,en=#[e]∧aD ρ k=some e.key∧aD ρ v=some e.val∧e.born=n:=by
     cases en with
     | mk l=>cases l with
      | nil=>exact g.elim
      | cons e l=>cases l with
       | nil=>exact ⟨e,rfl,g.1,g.2.1,g.2.2.1⟩
       | cons _ _=>exact g.2.2.2.elim
    subst hen;split at f
    ·rename_i hc;simp only [Bool.and_eq_true,beq_iff_eq] at hc;obtain ⟨c1,c2⟩:=hc;have c1:=Nat.eq_of_beq_eq_true c1;cases f
     refine ⟨.tuple #[e.key,e.val],by simp only [aD,concL,hk,hvv],.inl ?_⟩;rw [show execOp (ev E) ⟨d,.entry x,ty,ps,af,gd⟩=(do pure (.value (←Instr.entry (ev E x)))) from rfl,r];have z:seen.toArray.back?=some n:=by rw [List.back?_toArray]; exact c2
     simp only [Instr.entry,Sem.run_bind,getObj,Sem.run,o,u,Jz,z,c1];simp [hn,Sem.run_pure]
    ·cases f
   ·cases f
  ·cases f
 ·cases f
end
section
variable {P:Program} {E:Env} {w:World} {w0:Frm} {d:Option Tmp} {ty:TypeId} {ps:String} {af:Array Edge} {gd:Option (Nat×Bool)} {ρ:List Place} {h:List AB} {s:Nat→AV}
theorem Ba (hr:HR w0 ρ h w) (u:FR ρ s E) {S T:TypeId} {x:Operand} {a c:AV} {n:List AB} (hx:cW s x=some a) (f:rC P h S T a=some (c,n)):wL P E w0 ρ ⟨d,.convert S T x,ty,ps,af,gd⟩ w c n:=by
 have j:=aV u hx;unfold rC at f;split at f
 ·simp only [aD,Option.some.injEq] at j;split at f
  ·rename_i hS hT;cases f
   exact fF hr ⟨_,rfl,fJ hS hT j.symm⟩
  ·rename_i hS hT;cases f
   exact fF hr ⟨_,rfl,Ch hS hT j.symm⟩
  ·cases f
 ·rename_i st;simp only [aD,Option.some.injEq] at j;split at f
  ·rename_i el hS hT;split at f
   ·rename_i he;cases f
    have l:=Lib.run_convert_string_bytes (P:=P) w S T el ⟨st.toArray⟩ hS hT he;have e:(ByteArray.mk st.toArray).size=st.length:=by simp [ByteArray.size]
    rw [e] at l;have p:=hr.keep (nE w el ⟨st.toArray⟩);have t:=grownCap_ge w st.length 0 el;refine ⟨ρ++[⟨w.heap.size,0,grownCap w st.length 0 el⟩],_,_,bj.app _ _,?_,p.add (q:=⟨w.heap.size,0,grownCap w st.length 0 el⟩) ?_ ?_ ?_,.inl (v:=.slice (some ⟨w.heap.size,0,none⟩) st.length (grownCap w st.length 0 el)) ?_⟩
    ·simp only [aD];rw [←hr.len,List.getElem?_concat_length];simp
    ·refine ⟨_,_,_,Lib.bytesWorld_at_new w el ⟨st.toArray⟩,by simp,by simpa using t,fun i a g=>?_⟩;rw [JL] at g;cases hs:st[i]? with
     | none=>rw [hs] at g; cases g
     | some b=>
      rw [hs] at g;cases g
      refine ⟨.int .u8 b.toNat,?_,rfl⟩;have m:=(Jo.1 hs).1;have z:=(Jo.1 hs).2;show (Lib.bytesCells w el ⟨st.toArray⟩)[0+i]?=_;rw [Nat.zero_add];unfold Lib.bytesCells;rw [Array.getElem?_append_left (by simpa using m)];simp [m,z]
    ·exact fun k=>Nat.lt_irrefl _ (hr.below.lt k)
    ·intro A r y k hy o;have B:=(hr.at_ A r y k hy).lt o;show r.b≠w.heap.size;omega
    ·simp only [execOp,Sem.run_bind,←j,ao,l,Jz,Sem.run_pure]
   ·cases f
  ·cases f
 ·cases f
theorem rq (e:FR ρ s E) {T:TypeId} {x y:Operand} {a i c:AV} (hx:cW s x=some a) (hy:cW s y=some i) (b:sM P T a i=some c):∃v,aD ρ c=some v∧bo P E ⟨d,.index T x y,ty,ps,af,gd⟩ w v w:=by
 have p:=aV e hx;have g:=aV e hy;unfold sM at b;split at b
 ·exact rU e hx hy b
 ·rename_i l k q;simp only [aD,Option.some.injEq] at g;obtain ⟨xs,o,m⟩:=gC p;split at b
  ·rename_i n el hT;split at b
   ·rename_i bytes z hty;split at b
    ·rename_i hq;obtain ⟨v,h,j⟩:=di o b;refine ⟨v,j,.inl ?_⟩;have f:=cR hty;simp only [execOp,Instr.index,m,←g,asIntOf,Sem.run_bind,Sem.run_pure,Jz,run_underlying hT,hq.1,hq.2,and_self,if_true,bX f,part,dV f,Nat.mul_one];simp [h]
    ·cases b
   ·cases b
  ·cases b
 ·cases b
theorem kW (f:FR ρ s E) {T:TypeId} {x y:Operand} {a i c:AV} (hx:cW s x=some a) (hy:cW s y=some i) (e:ji P T a i=some c):∃v,aD ρ c=some v∧bo P E ⟨d,.indexAddr T x y,ty,ps,af,gd⟩ w v w:=by
 have l:=aV f hx;have g:=aV f hy;unfold ji at e;split at e
 ·exact qD f hx hy e
 ·rename_i b o k q;obtain ⟨p,j,h⟩:=eW l;simp only [aD,Option.some.injEq] at g;split at e
  ·rename_i n el hT;split at e
   ·rename_i agg size bytes z hty;split at e
    ·rename_i hq;cases e
     refine ⟨_,gV j,?_⟩;rw [←Nat.add_assoc];exact dm hT (cR hty) h g.symm hq.1 hq.2
    ·cases e
   ·cases e
  ·cases e
 ·cases e
theorem sC (hr:HR w0 ρ h w) (f:FR ρ s E) {T:TypeId} {x:Operand} {a c:AV} (hx:cW s x=some a) (e:uw P h T a=some c):∃v,aD ρ c=some v∧bo P E ⟨d,.call { callee:=.builtin .len,args:=#[x],argTypes:=#[T] },ty,ps,af,gd⟩ w v w:=by
 unfold uw at e;split at e
 ·rename_i b;split at e
  ·rename_i es clock mt hb hmt;cases e
   obtain ⟨p,en,l,i,g,j⟩:=hr.mapBlk (aV f hx) hb;obtain ⟨kk,m⟩:=mt;have k:=gu hmt;refine ⟨_,rfl,.inl ?_⟩;rw [←j.len];simp [execOp,resolve,invoke,builtin,i,Builtin.len_,run_underlying k,getObj,Sem.run,g,goInt]
  ·cases e
 ·exact Cx f hx e
theorem Cr (f:FR ρ s E) {x y:Operand} {a b c:AV} {ts:Array TypeId} (hx:cW s x=some a) (hy:cW s y=some b) (e:ul Ab [a,b]=some c):∃v,aD ρ c=some v∧bo P E ⟨d,.call { callee:=.builtin .min,args:=#[x,y],argTypes:=ts },ty,ps,af,gd⟩ w v w:=by
 have h:=aV f hx;have g:=aV f hy;unfold ul at e;split at e
 ·rename_i heq;simp only [List.cons.injEq] at heq;obtain ⟨rfl,rfl,_⟩:=heq;simp only [aD,Option.some.injEq] at h g;cases e
  exact ⟨_,rfl,EF h.symm g.symm⟩
 ·cases e
theorem Cs (f:FR ρ s E) {x y:Operand} {a b c:AV} {ts:Array TypeId} (hx:cW s x=some a) (hy:cW s y=some b) (e:ul Ac [a,b]=some c):∃v,aD ρ c=some v∧bo P E ⟨d,.call { callee:=.builtin .max,args:=#[x,y],argTypes:=ts },ty,ps,af,gd⟩ w v w:=by
 have h:=aV f hx;have g:=aV f hy;unfold ul at e;split at e
 ·rename_i heq;simp only [List.cons.injEq] at heq;obtain ⟨rfl,rfl,_⟩:=heq;simp only [aD,Option.some.injEq] at h g;cases e
  exact ⟨_,rfl,EG h.symm g.symm⟩
 ·cases e
theorem vV (a:FR ρ s E) {f:FuncId} {first cap:Array Operand} {xs ys:List AV} (c:zk s first.toList=some xs) (b:zk s cap.toList=some ys):∃v,aD ρ (.fn f xs ys)=some v∧bo P E ⟨d,.makeFunc (.func f) first cap,ty,ps,af,gd⟩ w v w:=by
 have g:first.map (ev E)=(first.toList.map (ev E)).toArray:=by apply Array.ext'; rw [Array.toList_map]
 have e:cap.map (ev E)=(cap.toList.map (ev E)).toArray:=by apply Array.ext'; rw [Array.toList_map]
 refine ⟨.func (.func f) (first.toList.map (ev E)).toArray (cap.toList.map (ev E)).toArray,by simp only [aD,sR a c,sR a b],.inl ?_⟩;simp [execOp,Instr.makeFunc,g,e]
theorem zu (e:FR ρ s E) {x:Operand} {c T:TypeId} {a:AV} (hx:cW s x=some (.iface T a)) (f:sL P T (fun d=>!(CJ d))=true):∃v,aD ρ a=some v∧bo P E ⟨d,.typeAssert x c T false,ty,ps,af,gd⟩ w v w:=by
 have b:=aV e hx;obtain ⟨D,h,g⟩:=wk f;simp only [aD] at b;split at b
 ·rename_i v hv;simp only [Option.some.injEq] at b;exact ⟨v,hv,my h (by simpa using g) b.symm⟩
 ·cases b
theorem yP (hr:HR w0 ρ h w) {e m:Nat} {a:AV} {v:Value} {ys:List AV} (g:aD ρ a=some v) (d:nw h e m a=some ys):∃us,concL ρ ys=some us∧us.length=m*e∧∃ad l c,v=.slice (some ad) l c∧∀j u,us[j]?=some u→w.cell? (ad.add j)=some u:=by
 cases a with
 | sl b o l e'=>
  simp only [nw] at d;split at d
  ·rename_i cs T' e'' own hb;obtain ⟨p,n,rfl⟩:=dK g;split at d
   ·rename_i hcond;simp only [Bool.and_eq_true] at hcond;have r:=Nat.eq_of_beq_eq_true hcond.1;have t:=Nat.le_of_ble_eq_true hcond.2;subst r;cases d
    obtain ⟨vs,k,q⟩:=gD (ρ:=ρ) (l:=(cs.drop o).take (m*e')) (fun i=>w.cell? ⟨p.b,p.o+o+i,none⟩) (fun i a f=>by
     rw [List.getElem?_take] at f;split at f
     ·rw [List.getElem?_drop] at f;obtain ⟨v,g,s⟩:=hr.cell n hb f;exact ⟨v,by rw [Nat.add_assoc]; exact g,s⟩
     ·cases f)
    refine ⟨vs,k,?_,_,_,_,rfl,fun j y hy=>?_⟩
    ·rw [bI k,JG,JQ]; omega
    ·rw [Addr.add_lit]; exact q j y hy
   ·cases d
  ·cases d
 | _=>simp only [nw] at d; cases d
theorem ux {a:AV} {v:Value} {n:Nat} (hc:aD ρ a=some v) (hl:rm a=some n):∃ad c,v=.slice ad n c:=by
 cases a <;> simp only [rm] at hl <;> first|(cases hl; done)|skip
 ·cases hl; cases hc; exact ⟨_,_,rfl⟩
 ·cases hl
  obtain ⟨p,_,h⟩:=dK hc;exact ⟨_,_,h⟩
 ·cases hl
  simp only [aD] at hc;split at hc
  ·cases hc; exact ⟨_,_,rfl⟩
  ·cases hc
theorem AY (hr:HR w0 ρ h w) (G:FR ρ s E) {T u:TypeId} {x y:Operand} {a b c:AV} {J:List AB} (hx:cW s x=some a) (hy:cW s y=some b) (f:uS P h T a b=some (c,J)) :
 wL P E w0 ρ ⟨d,.call { callee:=.builtin .copy,args:=#[x,y],argTypes:=#[T,u] },ty,ps,af,gd⟩ w c J:=by
 have I:=aV G hx;have H:=aV G hy;unfold uS at f;split at f
 ·rename_i el n k hel hn hk;have t:=gz hel;obtain ⟨L,ca,j⟩:=ux I hn;obtain ⟨K,cb,i⟩:=ux H hk;split at f
  ·cases f
  rename_i agg size bytes z hty;have r:=cR hty;simp only at f;have q:Nat.min k n=min k n:=rfl;split at f
  ·rename_i g;have g:=Nat.eq_of_beq_eq_true g;cases f
   refine fF hr ⟨.int .i64 0,rfl,.inl ?_⟩;simp only [execOp,resolve,invoke,builtin];have m:(Builtin.copy_ #[T,u] ty #[ev E x,ev E y]).run P w=.ok (goInt 0) w:=by
    rw [j,i];cases K with
    | none=>cases L <;> simp [Builtin.copy_,run_underlying t,Builtin.lenOf,Builtin.firstCells,bX r,storeCells,q,g]
    | some K=>cases L <;> simp [Builtin.copy_,run_underlying t,Builtin.lenOf,Builtin.firstCells,bX r,storeCells,q,g,loadCells,loadCellsFrom]
   simp [m,goInt]
  ·split at f
   ·rename_i ys b' o v e hys;split at f
    ·rename_i l T' e' hb;split at f
     ·rename_i hcond;simp only [Bool.and_eq_true] at hcond;obtain ⟨c1,c2,c3⟩:=hcond;cases f
      obtain ⟨N,D,Q,Z,l',c',A,X⟩:=yP hr H hys;obtain ⟨p,U,B⟩:=dK I;obtain ⟨w',R,S⟩:=hr.put U hb (Nat.le_of_ble_eq_true c3) D (oy c2 D);refine ⟨ρ,.int .i64 ((min k n:Nat):Int),w',bj.refl _,rfl,S,.inl ?_⟩;have F:=run_loadCells_list (P:=P) w Z N X;have W:l'=k:=by rw [A] at i; cases i; rfl
      have V:v=n:=by rw [B] at j; cases j; rfl
      subst W V;have m:(Builtin.copy_ #[T,u] ty #[ev E x,ev E y]).run P w=.ok (goInt ((min l' v:Nat):Int)) w':=by
       rw [B,A];rw [Q] at F;simp [Builtin.copy_,run_underlying t,Builtin.lenOf,Builtin.firstCells,bX r,q,F,R P]
      simp only [execOp,resolve,invoke,builtin];simp [m];rfl
     ·cases f
    ·cases f
   ·cases f
 ·cases f
theorem wy (hr:HR w0 ρ h w) (B:FR ρ s E) {T:TypeId} {ts:Array TypeId} {x y:Operand} {m k c:AV} {G:List AB} (hx:cW s x=some m) (hy:cW s y=some k) (z:ts[0]?=some T) (e:kb P h .delete (T::ts.toList.tail) [m,k]=some (c,G)) :
 wL P E w0 ρ ⟨d,.call { callee:=.builtin .delete,args:=#[x,y],argTypes:=ts },ty,ps,af,gd⟩ w c G:=by
 have F:=aV B hx;have g:=aV B hy;simp only [kb] at e;split at e
 ·rename_i b;split at e
  ·rename_i es clock kt el hb hmt;have D:=gu hmt;split at e
   ·rename_i hka;obtain ⟨p,en,K,v,f,t⟩:=hr.mapBlk F hb;split at e
    ·cases e
    ·rename_i hfind;obtain ⟨o,r,u⟩:=dW (w:=w) g hka t hfind;have u:o=none:=u;subst u;cases e
     have A:=(Array.getElem?_eq_some_iff.1 f).1;have J:w.putObj p.b (.map en clock)=w:=by
      unfold World.putObj;have:w.heap.setIfInBounds p.b (.map en clock)=w.heap:=by
       apply Array.ext
       ·simp
       ·intro i F g;rw [Array.getElem_setIfInBounds];split
        ·rename_i hi; subst hi; exact ((Array.getElem?_eq_some_iff.1 f).2).symm
        ·rfl
      rw [this]
     refine ⟨ρ,.tuple #[],w,bj.refl _,rfl,hr,.inl ?_⟩;have l:(Builtin.delete_ ts ty #[ev E x,ev E y]).run P w=.ok (.tuple #[]) w:=by
      rw [v];have I:(setObj p.b (.map en clock)).run P w=.ok () w:=by rw [MapKept.run_setObj_map _ f]; exact congrArg (Result.ok ()) J
      simp [Builtin.delete_,z,run_underlying D,getObj,Sem.run,f,cE g hka,r];rw [I]; rfl
     simp only [execOp,resolve,invoke,builtin];simp [l]
    ·rename_i j a n hfind;obtain ⟨o,r,q,k',m',H,S,L,R,Q,N,rfl⟩:=dW (w:=w) g hka t hfind;cases e
     have H:j=q:=by omega
     subst H;refine ⟨ρ,.tuple #[],_,bj.refl _,rfl,hr.updMap (en':=en.eraseIdxIfInBounds j) (clock':=clock) K hb f ?_,.inl ?_⟩
     ·have:(en.eraseIdxIfInBounds j).toList=en.toList.eraseIdx j:=by
       have A:j<en.size:=by have:=(Jo.1 L).1; simpa using this
       simp [Array.eraseIdxIfInBounds,A]
      rw [this]; exact t.erase
     ·have l:(Builtin.delete_ ts ty #[ev E x,ev E y]).run P w=.ok (.tuple #[]) (w.putObj p.b (.map (en.eraseIdxIfInBounds j) clock)):=by
       rw [v];simp [Builtin.delete_,z,run_underlying D,getObj,Sem.run,f,cE g hka,r];rw [MapKept.run_setObj_map _ f];rfl
      simp only [execOp,resolve,invoke,builtin];simp [l]
   ·cases e
  ·cases e
 ·cases e
end
section
variable {P:Program} {E:Env} {w:World} {F:Frm} {ρ:List Place} {t:HpT} {n:Nat} {s:FrT} {f:Nat→AV}
theorem oF (hr:HR F ρ (co t n) w) {b:Nat} {p:Place} (h:ρ[b]?=some p):b<n:=by
 have:=(Jo.1 h).1;rw [hr.len,cH] at this;exact this
theorem bN {x:Operand} {g:FrT→AV} (h:bc x=some (.mk g)) (s:FrT):cW (s.at bV) x=some (g s):=by
 cases x with
 | tmp k=>
  have h:some (gO k)=some (.mk g):=h;rw [gm k (Option.some.inj h)];rfl
 | const v=>
  have h:(Option.casesOn (fa v) none fun a=>some (.mk fun _=>a):Option (CW (FrT→AV)))=some (.mk g):=h;cases hv:fa v with
  | none=>rw [hv] at h; cases h
  | some a=>rw [hv] at h; cases h; exact hv
 | global k=>
  have h:(bif Nat.blt k gN then some (.mk fun _=>.ptr k 0) else none:Option (CW (FrT→AV)))=some (.mk g):=h;cases hb:Nat.blt k gN with
  | false=>rw [hb] at h; cases h
  | true=>rw [hb] at h; cases h; show (if Nat.blt k gN then some (AV.ptr k 0) else none)=_; rw [hb]; rfl
 | func k=>
  have h:some (CW.mk fun (_:FrT)=>AV.fn k [] [])=some (.mk g):=h;cases h
  rfl
theorem fk:∀ {l:List Operand} {g:FrT→List AV},dk l=some (.mk g)→∀s:FrT,zk (s.at bV) l=some (g s)
 | [],g,h,s=>by
  have h:some (CW.mk fun (_:FrT)=>([]:List AV))=some (.mk g):=h;cases h; rfl
 | x::r,g,h,s=>by
  have h:(Option.casesOn (bc x) none fun f=>Option.casesOn (dk r) none fun g=>CW.casesOn f fun f=>CW.casesOn g fun g=>some (.mk fun s=>f s::g s):Option (CW (FrT→List AV)))=some (.mk g):=h;cases c:bc x with
  | none=>rw [c] at h; cases h
  | some a=>
   cases d:dk r with
   | none=>rw [c,d] at h; cases h
   | some b=>
    cases a with
    | mk a=>
     cases b with
     | mk b=>
      rw [c,d] at h;cases h
      simp only [zk,bN c s,fk d s]
theorem gb:∀ {l:List (Nat×Operand)} {g:FrT→List (Nat×AV)},eT l=some (.mk g)→∀s:FrT,AH (s.at bV) l=some (g s)
 | [],g,h,s=>by
  have h:some (CW.mk fun (_:FrT)=>([]:List (Nat×AV)))=some (.mk g):=h;cases h; rfl
 | (i,x)::r,g,h,s=>by
  have h:(Option.casesOn (bc x) none fun f=>Option.casesOn (eT r) none fun g=>CW.casesOn f fun f=>CW.casesOn g fun g=>some (.mk fun s=>(i,f s)::g s):Option (CW (FrT→List (Nat×AV))))=some (.mk g):=h;cases c:bc x with
  | none=>rw [c] at h; cases h
  | some a=>
   cases d:eT r with
   | none=>rw [c,d] at h; cases h
   | some b=>
    cases a with
    | mk a=>
     cases b with
     | mk b=>
      rw [c,d] at h;cases h
      simp only [AH,bN c s,gb d s]
def oI (P:Program) (op:Op) (g:dZ):Prop:=∀(F:Frm) (ρ:List Place) (s:FrT) (t:HpT) (n:Nat) (E:Env) (w:World) (a:AV),HR F ρ (co t n) w→FR ρ (s.at bV) E→g s t=.val a→
 ∃v,aD ρ a=some v∧∀d ty ps af gd,bo P E ⟨d,op,ty,ps,af,gd⟩ w v w
def BM (P:Program) (op:Op) (g:FrT→HpT→Nat→OR):Prop:=∀(F:Frm) (ρ:List Place) (s:FrT) (t:HpT) (n:Nat) (E:Env) (w:World) (a:AV) (t':HpT) (n':Nat),HR F ρ (co t n) w→FR ρ (s.at bV) E→g s t n=.mem a t' n'→
 ∀d ty ps af gd,wL P E F ρ ⟨d,op,ty,ps,af,gd⟩ w a (co t' n')
def BI (P:Program) (op:Op) (g:FrT→HpT→Nat→OR):Prop:=∀(F:Frm) (ρ:List Place) (s:FrT) (t:HpT) (n:Nat) (E:Env) (w:World) (a:AV) (t':HpT) (n':Nat),HR F ρ (co t n) w→FR ρ (s.at bV) E→g s t n=.mem a t' n'→
 ∀d ty ps af gd,Fs P E F ρ ⟨d,op,ty,ps,af,gd⟩ w (co t' n')
theorem bQ {op:Op} {c:AV} (h:∀d ty ps af gd,∃v,aD ρ c=some v∧bo P E ⟨d,op,ty,ps,af,gd⟩ w v w):∃v,aD ρ c=some v∧∀d ty ps af gd,bo P E ⟨d,op,ty,ps,af,gd⟩ w v w:=by
 obtain ⟨v,hv,_⟩:=h none 0 "" #[] none;refine ⟨v,hv,fun d ty ps af gd=>?_⟩;obtain ⟨v',hv',hR⟩:=h d ty ps af gd;rw [hv] at hv';cases hv'
 exact hR
theorem eh {op:Op} {j i:Bool} {x:Operand} {g:HpT→AV→OR} {g':dZ} (b:qo j x g=some (.v i g'))
 (h:∀(F:Frm) (ρ:List Place) (f:Nat→AV) (t:HpT) (n:Nat) (E:Env) (w:World) (a c:AV),HR F ρ (co t n) w→FR ρ f E→cW f x=some a→g t a=.val c→∃v,aD ρ c=some v∧∀d ty ps af gd,bo P E ⟨d,op,ty,ps,af,gd⟩ w v w):oI P op g':=by
 unfold qo at b;cases e:bc x with
 | none=>rw [e] at b; cases b
 | some a=>
  cases a with
  | mk a=>
   rw [e] at b;cases b
   intro F ρ s t n E w c hr l k;exact h F ρ _ t n E w (a s) c hr l (bN e s) k
theorem jP {op:Op} {l k:Bool} {x y:Operand} {g:HpT→AV→AV→OR} {g':dZ} (e:xC l x y g=some (.v k g'))
 (h:∀(F:Frm) (ρ:List Place) (f:Nat→AV) (t:HpT) (n:Nat) (E:Env) (w:World) (a b c:AV),HR F ρ (co t n) w→FR ρ f E→cW f x=some a→cW f y=some b→g t a b=.val c→∃v,aD ρ c=some v∧∀d ty ps af gd,bo P E ⟨d,op,ty,ps,af,gd⟩ w v w):oI P op g':=by
 unfold xC at e;cases i:bc x with
 | none=>rw [i] at e; cases e
 | some a=>
  cases j:bc y with
  | none=>rw [i,j] at e; cases e
  | some b=>
   cases a with
   | mk a=>
    cases b with
    | mk b=>
     rw [i,j] at e;cases e
     intro F ρ s t n E w c hr o m;exact h F ρ _ t n E w (a s) (b s) c hr o (bN i s) (bN j s) m
theorem cC {b:Nat} {x:XB} (hr:HR F ρ (co t n) w) {p:Place} (hp:ρ[b]?=some p) (hx:t.get b=x):(co t n)[b]?=some x.ab:=AE (by rw [hx]) (oF hr hp)
theorem xB {T:TypeId} {size k:Nat} {z:Value} (f:js P T=some (false,size,k,z)) (hr:HR F ρ (co t n) w) {a c:AV} {v:Value} (j:aD ρ a=some v) (h:CA t a=.val c):nW P (co t n) T a=some c:=by
 unfold CA at h;split at h
 ·rename_i b o;obtain ⟨p,g⟩:=dX j;split at h
  ·rename_i t' m T' e own hb;have i:=cC hr g hb;cases d:Nat.blt o m with
   | false=>rw [d] at h; cases h
   | true=>
    rw [d] at h;cases h
    have d:o<m:=Nat.le_of_ble_eq_true d;simp only [nW,f,i,XB.ab,Bool.false_eq_true,if_false];rw [fy,if_pos d]
  ·cases h
 ·cases h
theorem xA {T:TypeId} {size k:Nat} {z:Value} (f:js P T=some (true,size,k,z)) (hr:HR F ρ (co t n) w) {a c:AV} {v:Value} (j:aD ρ a=some v) (h:Cz size t a=.val c):nW P (co t n) T a=some c:=by
 unfold Cz at h;split at h
 ·rename_i b o;obtain ⟨p,g⟩:=dX j;split at h
  ·rename_i t' m T' e own hb;have i:=cC hr g hb;cases d:Nat.ble (o+size) m with
   | false=>rw [d] at h; cases h
   | true=>
    rw [d] at h;cases h
    have d:=Nat.le_of_ble_eq_true d;simp only [nW,f,i,XB.ab,if_true];rw [eu,if_pos d,←mq _ _ _ _ d]
  ·cases h
 ·cases h
theorem Ah {T:TypeId} {x:Operand} {g:dZ} {e:Bool} (h:pI P T x=some (.v e g)):oI P (.load T x) g:=by
 unfold pI at h;split at h
 ·rename_i size bytes z ht;exact eh h fun F ρ f t n E w a c hr b hx d=>bQ fun _ _ _ _ _=>ut hr b hx (xA ht hr (aV b hx) d)
 ·rename_i size bytes z ht;exact eh h fun F ρ f t n E w a c hr b hx d=>bQ fun _ _ _ _ _=>ut hr b hx (xB ht hr (aV b hx) d)
 ·cases h
theorem zX {x:Operand} {g:dZ} {rd:Bool} (h:xm x=some (.v rd g)):oI P (.move x) g:=
 eh h fun F ρ f t n E w a c hr hf hx hg=>by cases hg; exact bQ fun _ _ _ _ _=>zY hf hx
theorem wE {x:Operand} {g:dZ} {rd:Bool} (h:xm x=some (.v rd g)):oI P (.assign x) g:=
 eh h fun F ρ f t n E w a c hr hf hx hg=>by cases hg; exact bQ fun _ _ _ _ _=>wF hf hx
theorem Co {x:Operand} {g:dZ} {rd:Bool} (h:rh x=some (.v rd g)):oI P (.nilCheck x) g:=
 eh h fun F ρ f t n E w a c hr hf hx hg=>bQ fun _ _ _ _ _=>sq hf hx (by
  cases a <;> simp only [xo] at hg <;> cases hg
  rfl)
theorem dn {o:Option AV} {c:AV} (h:rf o=.val c):o=some c:=by
 cases o <;> simp only [rf] at h <;> cases h
 rfl
theorem Eo {op:UnOp} {T:TypeId} {x:Operand} {g:dZ} {rd:Bool} (h:Hr op T x=some (.v rd g)):oI P (.unOp op T x) g:=
 eh h fun F ρ f t n E w a c hr hf hx hg=>bQ fun _ _ _ _ _=>Ep hf hx (dn hg)
theorem uH {x:Operand} {i:Nat} {g:dZ} {rd:Bool} (h:ui x i=some (.v rd g)):oI P (.extract x i) g:=
 eh h fun F ρ f t n E w a c hr hf hx hg=>bQ fun _ _ _ _ _=>uJ hf hx (by
  cases a <;> simp only [uI] at hg <;> first|(cases hg; done)|skip
  have:=dn hg;rw [fS] at this;exact this)
theorem Do {x:Operand} {e T:TypeId} {ok:Bool} {g:dZ} {i:Bool} (h:vM P x e T ok=some (.v i g)):oI P (.typeAssert x e T ok) g:=by
 unfold vM at h;cases ok with
 | true=>cases h
 | false=>
  cases hd:sL P T (fun d=>!(CJ d)) with
  | false=>rw [hd] at h; cases h
  | true=>
   rw [hd] at h;exact eh h fun F ρ f t n E w a c hr j hx b=>bQ fun _ _ _ _ _=>by
    cases a <;> simp only [DB] at b <;> first|(cases b; done)|skip
    rename_i T' v;cases hb:Nat.beq T T' with
    | false=>rw [hb] at b; cases b
    | true=>
     rw [hb] at b;cases b
     have:=Nat.eq_of_beq_eq_true hb;subst this;exact zu j hx hd
theorem qE {T:TypeId} {x:Operand} {i:Nat} {g:dZ} {e:Bool} (h:lr P T x i=some (.v e g)):oI P (.fieldAddr T x i) g:=by
 unfold lr fq at h;split at h
 ·rename_i fs hT;split at h
  ·rename_i fd hfd;split at h
   ·rename_i agg size bytes z ht;cases b:Nat.blt 0 size with
    | false=>rw [b] at h; cases h
    | true=>
     rw [b] at h;exact eh h fun F ρ f t n E w a c hr j hx d=>bQ fun _ _ _ _ _=>qF j hx (by
      cases a <;> simp only [Gh] at d <;> cases d
      simp only [lM,hT,hfd,ht,b,if_true])
   ·cases h
  ·cases h
 ·cases h
theorem yJ {T:TypeId} {x:Operand} {i:Nat} {g:dZ} {j:Bool} (h:vK P T x i=some (.v j g)):oI P (.field T x i) g:=by
 unfold vK ny at h;split at h
 ·rename_i fs hT;split at h
  ·rename_i fd hfd;split at h
   ·rename_i size bytes z ht;exact eh h fun F ρ f t n E w a c hr d hx b=>bQ fun _ _ _ _ _=>ry d hx (by
     cases a <;> simp only [DT] at b <;> first|(cases b; done)|skip
     rename_i l;rw [cQ,uN,tA] at b;cases hb:Nat.ble (fd.offset+size) l.length with
     | false=>rw [hb] at b; cases b
     | true=>
      rw [hb] at b;cases b
      simp only [sP,hT,hfd,ht,if_true];rw [if_pos (Nat.le_of_ble_eq_true hb)])
   ·rename_i bytes z ht;exact eh h fun F ρ f t n E w a c hr d hx b=>bQ fun _ _ _ _ _=>ry d hx (by
     cases a <;> simp only [DU] at b <;> first|(cases b; done)|skip
     rename_i l;have e:=dn b;rw [fS] at e;have k:=(Jo.1 e).1;simp only [sP,hT,hfd,ht,if_true,Bool.false_eq_true,if_false];rw [if_pos (by omega)];exact e)
   ·cases h
  ·cases h
 ·cases h
theorem zM {c a b:Operand} {g:dZ} {j:Bool} (h:pu c a b=some (.v j g)):oI P (.pick c a b) g:=by
 unfold pu at h;cases e:bc c with
 | none=>rw [e] at h; cases h
 | some x=>
  cases f:bc a with
  | none=>rw [e,f] at h; cases h
  | some y=>
   cases i:bc b with
   | none=>rw [e,f,i] at h; cases h
   | some z=>
    cases x with
    | mk x=>cases y with
     | mk y=>cases z with
      | mk z=>
       rw [e,f,i] at h;cases h
       intro F ρ s t n E w l hr k d;refine bQ fun _ _ _ _ _=>zN k (bN e s) (bN f s) (bN i s) ?_
       have d:DL (x s) (y s) (z s)=.val l:=d
       revert d
       generalize x s=u;intro d;cases u with
       | bool bb=>cases bb <;> (cases d; rfl)
       | _=>cases d
theorem yV {T:TypeId} {ps:Array (Nat×Operand)} {g:dZ} {rd:Bool} (h:ls P T ps=some (.v rd g)):oI P (.build T ps) g:=by
 unfold ls at h;cases h1:eT ps.toList with
 | none=>rw [h1] at h; cases h
 | some x=>
  cases x with
  | mk x=>
   rw [h1] at h;cases h
   intro F ρ s t n E w c hr hf hg;exact bQ fun _ _ _ _ _=>yW hf (gb h1 s) (dn hg)
theorem CP {f:Fn} {a b:Array Operand} {g:dZ} {i:Bool} (h:ET f a b=some (.v i g)):oI P (.makeFunc f a b) g:=by
 unfold ET at h;split at h
 ·rename_i f;cases d:dk a.toList with
  | none=>rw [d] at h; cases h
  | some x=>
   cases e:dk b.toList with
   | none=>rw [d,e] at h; cases h
   | some y=>
    cases x with
    | mk x=>cases y with
     | mk y=>
      rw [d,e] at h;cases h
      intro F ρ s t n E w c hr k j;cases j
      exact bQ fun _ _ _ _ _=>vV k (fk d s) (fk e s)
 ·cases h
end
theorem jB (k:IntKind) (z:Int):nM k z=k.wrap z:=by
 unfold nM;split
 ·rename_i n;cases hb:Nat.blt n (uu k) with
  | false=>rfl
  | true=>
   have a:n<uu k:=Nat.le_of_ble_eq_true hb;rw [cond_true];cases k <;> simp only [uu] at a <;> simp only [IntKind.wrap,IntKind.bits,IntKind.signed,Int.ofNat_eq_natCast] <;> simp <;> omega
 ·rename_i n;cases hb:(k.signed && Nat.blt n (uu k)) with
  | false=>rfl
  | true=>
   simp only [Bool.and_eq_true] at hb;have a:n<uu k:=Nat.le_of_ble_eq_true hb.2;rw [cond_true];cases k <;> simp only [uu] at a <;> first|(exact absurd hb.1 Bool.false_ne_true)|skip
   all_goals
    simp only [IntKind.wrap,IntKind.bits,IntKind.signed,Int.negSucc_eq];simp;omega
theorem nz (a b:Int):AJ a b=(a == b):=by
 rw [Bool.eq_iff_iff,beq_iff_eq];cases a <;> cases b <;> simp [AJ] <;> omega
theorem lD (a b:Int):leI a b=decide (a≤b):=by
 rw [Bool.eq_iff_iff,decide_eq_true_eq];cases a <;> cases b <;> simp [leI] <;> omega
theorem wj (a b:IntKind) (h:DS a b=true):a=b:=by
 cases a <;> cases b <;> first|rfl|(simp [DS] at h)
section
variable {P:Program} {E:Env} {w:World} {F:Frm} {ρ:List Place} {t:HpT} {n:Nat} {s:FrT} {f:Nat→AV}
theorem kF {op:BinOp} {T:TypeId} {g:Int→Int→Bool} {a b c:AV} (hg:∀k x y,oq op k x y=some (.bool (g x y))) (h:uV P op T g a b=.val c):qJ P op T a b=some c:=by
 unfold uV at h;split at h
 ·rename_i k x k' y;cases hk:DS k k' with
  | false=>rw [hk] at h; cases h
  | true=>
   rw [hk] at h;cases h
   have:=wj _ _ hk;subst this;simp only [qJ,yY,if_true,hg]
 ·exact dn h
theorem Dk {op:BinOp} {T:TypeId} {g:AV→AV→OR} {a b c:AV} (d:yX P op T=.mk g) (h:g a b=.val c):qJ P op T a b=some c:=by
 unfold yX at d;split at d
 ·cases d
  unfold Hm at h;split at h
  ·rename_i k x k' y;cases hk:DS k k' with
   | false=>rw [hk] at h; cases h
   | true=>
    rw [hk] at h;cases h
    have:=wj _ _ hk;subst this;simp only [qJ,yY,if_true,oq,jB]
  ·have:=dn h;simp only [qJ,this]
  ·cases h
 ·cases d
  unfold FA at h;split at h
  ·rename_i k x k' y;cases hk:DS k k' with
   | false=>rw [hk] at h; cases h
   | true=>
    rw [hk] at h;cases h
    have:=wj _ _ hk;subst this;simp only [qJ,yY,if_true,oq,jB]
  ·cases h
 ·cases d; exact kF (fun k x y=>by simp only [oq,nz]) h
 ·cases d; exact kF (fun k x y=>by simp only [oq,nz]; rfl) h
 ·cases d; exact kF (fun k x y=>by simp only [oq,lD,Option.some.injEq,AV.bool.injEq]; rw [Bool.eq_iff_iff]; simp) h
 ·cases d; exact kF (fun k x y=>by simp only [oq,lD]) h
 ·cases d; exact kF (fun k x y=>by simp only [oq,lD,Option.some.injEq,AV.bool.injEq]; rw [Bool.eq_iff_iff]; simp) h
 ·cases d; exact kF (fun k x y=>by simp only [oq,lD]) h
 ·cases d; exact dn h
theorem Dj {op:BinOp} {T T':TypeId} {x y:Operand} {g:dZ} {i:Bool} (h:vL P op T x y T'=some (.v i g)):oI P (.binOp op T x y T') g:=by
 unfold vL sZ at h;split at h
 ·exact eh h fun F ρ f t n E w a c hr e hx d=>bQ fun _ _ _ _ _=>Ay e hx (dn d)
 ·cases hb:yX P op T with
  | mk g'=>
   rw [hb] at h;exact jP h fun F ρ f t n E w a b c hr e hx hy d=>bQ fun _ _ _ _ _=>Dl e hx hy (Dk hb d)
theorem qC {T:TypeId} {x y:Operand} {g:dZ} {m:Bool} (h:eF P T x y=some (.v m g)):oI P (.indexAddr T x y) g:=by
 unfold eF at h;split at h
 ·rename_i el hel;split at h
  ·rename_i agg size bytes z ht;exact jP h fun F ρ f t n E w a b c hr j hx hy d=>bQ fun _ _ _ _ _=>kW j hx hy (by
    unfold FZ at d;split at d
    ·rename_i bb o l e k q;cases i:Nat.blt q l with
     | false=>rw [i] at d; cases d
     | true=>
      rw [i] at d;cases d
      have i:q<l:=Nat.le_of_ble_eq_true i;simp only [ji,jk,gz hel,ht];rw [if_pos ⟨Int.natCast_nonneg q,by exact Int.ofNat_lt.2 i⟩];rfl
    ·cases d)
  ·cases h
 ·exact jP h fun F ρ f t n E w a b c hr j hx hy d=>bQ fun _ _ _ _ _=>kW j hx hy (dn d)
theorem yF {T:TypeId} {x y:Operand} {g:dZ} {i:Bool} (h:lH P T x y=some (.v i g)):oI P (.index T x y) g:=by
 unfold lH at h;split at h
 ·rename_i hT;exact jP h fun F ρ f t n E w a b c hr e hx hy d=>bQ fun _ _ _ _ _=>rq e hx hy (by
   unfold wU at d;split at d
   ·rename_i st k q;split at d
    ·rename_i ch hc;cases d
     rw [fS] at hc;simp only [sM,kq,hT];have:kM st (Int.ofNat q)=some ((ch.toNat:Nat):Int):=by
      unfold kM;have j:(0:Int)≤Int.ofNat q:=Int.natCast_nonneg q;rw [if_pos j];show (st[q]?).map _=_;rw [hc]; rfl
     rw [this];rfl
    ·cases d
   ·cases d)
 ·exact jP h fun F ρ f t n E w a b c hr e hx hy d=>bQ fun _ _ _ _ _=>rq e hx hy (dn d)
theorem vX {T:TypeId} {ok:Bool} (hr:HR F ρ (co t n) w) {m k c:AV} {v:Value} (d:aD ρ m=some v) (h:sB P T ok t m k=.val c):kA P (co t n) T m k ok=some c:=by
 unfold sB at h;split at h
 ·rename_i b;have a:∃p,ρ[b]?=some p:=by
   simp only [aD] at d;split at d
   ·rename_i p a; exact ⟨p,a⟩
   ·cases d
  obtain ⟨p,a⟩:=a;split at h
  ·rename_i x hb;have e:=cC hr a hb;have h:=dn h;simp only [kA,e,XB.ab] at h ⊢;exact h
  ·cases h
 ·rename_i hne;have h:=dn h;cases m <;> first|exact h|exact absurd rfl (hne _)
theorem vW {T:TypeId} {x y:Operand} {ok:Bool} {g:dZ} {rd:Bool} (h:xn P T x y ok=some (.v rd g)):oI P (.lookup T x y ok) g:=
 jP h fun F ρ f t n E w a b c hr hf hx hy hg=>bQ fun _ _ _ _ _=>vY hr hf hx hy (vX hr (aV hf hx) hg)
end
section
variable {P:Program} {E:Env} {w:World} {F:Frm} {ρ:List Place} {t:HpT} {n:Nat} {s:FrT} {f:Nat→AV}
theorem gy {T:TypeId} {el size:Nat} {zs:List AV} (h:kY P T=some (el,size,zs)):∃agg bytes z,jV P T=some el∧js P el=some (agg,size,bytes,z)∧absL z.cells.toList=some zs∧Nat.beq z.cells.size size=true∧Nat.blt 0 size=true∧Nat.ble bytes 10000=true:=by
 unfold kY at h;split at h
 ·rename_i el' c;split at h
  ·rename_i agg size' bytes z b;split at h
   ·rename_i zs' a;cases hb:(Nat.beq z.cells.size size' && (Nat.blt 0 size' && Nat.ble bytes 10000)) with
    | false=>rw [hb] at h; cases h
    | true=>
     rw [hb] at h;cases h
     simp only [Bool.and_eq_true] at hb;exact ⟨agg,bytes,z,c,b,a,hb.1,hb.2.1,hb.2.2⟩
   ·cases h
  ·cases h
 ·cases h
theorem fj {lo:Option Operand} {l:FrT→Option AV} (h:ez lo=some (.mk l)) (s:FrT):nj (s.at bV) lo=some (l s):=by
 cases lo with
 | none=>simp only [ez] at h; cases h; rfl
 | some x=>
  simp only [ez] at h;cases h1:bc x with
  | none=>rw [h1] at h; cases h
  | some a=>
   cases a with
   | mk a=>
    rw [h1] at h;cases h
    simp only [nj,bN h1 s,Option.map_some]
theorem oX {T:TypeId} {x:AV} {a d:Option AV} {c:AV} (h:fi P [] T x a d=some c) (l:List AB):fi P l T x a d=some c:=by
 cases x with
 | sl b o k e=>
  simp only [fi] at h;split at h
  ·cases h
  ·simp at h
 | str st=>simp only [fi] at h ⊢; exact h
 | sl0=>simp only [fi] at h ⊢; exact h
 | ptr b o=>simp only [fi] at h ⊢; exact h
 | _=>simp only [fi] at h; cases h
theorem yk {T:TypeId} {el size:Nat} {zs:List AV} (q:kY P T=some (el,size,zs)) (hr:HR F ρ (co t n) w) {x c:AV} {d f:Option AV} {v:Value} (hx:aD ρ x=some v) (h:vq P T size t x d f=.val c):fi P (co t n) T x d f=some c:=by
 obtain ⟨agg,H,z,u,s,G,D,r,B⟩:=gy q;unfold vq at h;split at h
 ·rename_i b o l e;obtain ⟨p,g,_⟩:=dK hx;split at h
  ·rename_i t' m T' e' own i j hb hlo hhi;have k:=cC hr g hb;cases hc:(Nat.beq e size && (leI 0 i && (leI i j && (leI j l && Nat.ble (o+l*e) m)))) with
   | false=>rw [hc] at h; cases h
   | true=>
    rw [hc,cond_true] at h;simp only [Bool.and_eq_true,lD,decide_eq_true_eq] at hc;obtain ⟨c1,c2,c3,A,y⟩:=hc;have c1:=Nat.eq_of_beq_eq_true c1;subst c1;simp only [fi,u,s,k,XB.ab,hlo,hhi];rw [if_pos (by rw [eu]; simp [r]; exact Nat.le_of_ble_eq_true y),if_pos ⟨c2,c3,A⟩];cases a:AJ i 0 with
    | true=>
     rw [a] at h;cases h
     rw [nz,beq_iff_eq] at a;rw [if_pos a]
    | false=>
     rw [a,cond_false] at h;rw [nz,beq_eq_false_iff_ne] at a;rw [if_neg a];cases hli:leI l i with
     | true=>
      rw [hli] at h;cases h
      rw [lD,decide_eq_true_eq] at hli;rw [if_neg (by omega)]
     | false=>
      rw [hli] at h;cases h
      rw [lD,decide_eq_false_iff_not] at hli;rw [if_pos (by omega)]
  ·cases h
 ·exact oX (dn h) _
theorem tH {T:TypeId} {x:Operand} {j k m:Option Operand} {g:dZ} {o:Bool} (h:lq P T x j k m=some (.v o g)):oI P (.slice T x j k m) g:=by
 unfold lq at h;split at h
 ·unfold mf at h;cases d:bc x with
  | none=>rw [d] at h; cases h
  | some a=>
   cases e:ez j with
   | none=>rw [d,e] at h; cases h
   | some b=>
    cases i:ez k with
    | none=>rw [d,e,i] at h; cases h
    | some c=>
     cases a with
     | mk a=>cases b with
      | mk b=>cases c with
       | mk c=>
        rw [d,e,i] at h;simp only at h;split at h
        ·rename_i el size zs he;cases h
         intro F ρ s t n E w p hr f l;exact bQ fun _ _ _ _ _=>qS hr f (bN d s) (fj e s) (fj i s) (yk he hr (aV f (bN d s)) l)
        ·cases h
         intro F ρ s t n E w p hr f l;exact bQ fun _ _ _ _ _=>qS hr f (bN d s) (fj e s) (fj i s) (oX (dn l) _)
 ·cases h
theorem yM (hr:HR F ρ (co t n) w) {a c:AV} {v:Value} (i:aD ρ a=some v) (h:wv t a=.val c):sS (co t n) a=some c:=by
 unfold wv at h;split at h
 ·rename_i b;obtain ⟨p,d⟩:=dX i;split at h
  ·rename_i m since seen stepped hb;have e:=cC hr d hb;obtain ⟨_,q,f,_⟩:=hr.at_ b p _ d e;split at h
   ·rename_i k v n' clock hm;have g:=cC hr f hm;cases hc:(Nat.beq clock stepped && seen.getLast? == some n') with
    | false=>rw [hc] at h; cases h
    | true=>
     rw [hc] at h;cases h
     simp only [sS,e,g,XB.ab,hc,if_true]
   ·cases h
  ·cases h
 ·cases h
theorem yL {x:Operand} {g:dZ} {rd:Bool} (h:zS x=some (.v rd g)):oI P (.entry x) g:=
 eh h fun F ρ f t n E w a c hr hf hx hg=>bQ fun _ _ _ _ _=>yN hr hf hx (yM hr (aV hf hx) hg)
theorem Ak {T:TypeId} (hr:HR F ρ (co t n) w) {a c:AV} {v:Value} (e:aD ρ a=some v) (h:Al P T t a=.val c):uw P (co t n) T a=some c:=by
 unfold Al at h;split at h
 ·rename_i b;have d:∃p,ρ[b]?=some p:=by
   simp only [aD] at e;split at e
   ·rename_i p d; exact ⟨p,d⟩
   ·cases e
  obtain ⟨p,d⟩:=d;split at h
  ·rename_i x hb;have f:=cC hr d hb;have h:=dn h;simp only [uw,f,XB.ab] at h ⊢;exact h
  ·cases h
 ·cases h
theorem sI {x:Operand} {g:HpT→Nat→AV→OR} {rd:Bool} {g':dZ} (h:vk x g=some (.v rd g')):False:=by
 unfold vk at h;cases h1:bc x with
 | none=>rw [h1] at h; cases h
 | some a=>cases a; rw [h1] at h; cases h
theorem oB {x y:Operand} {g:HpT→Nat→AV→AV→OR} {rd:Bool} {g':dZ} (h:zj x y g=some (.v rd g')):False:=by
 unfold zj at h;cases h1:bc x with
 | none=>rw [h1] at h; cases h
 | some a=>
  cases h2:bc y with
  | none=>rw [h1,h2] at h; cases h
  | some b=>cases a; cases b; rw [h1,h2] at h; cases h
theorem CB {x y:Operand} {g:HpT→Nat→AV→AV→OR} {rd:Bool} {g':dZ} (h:CD x y g=some (.v rd g')):False:=by
 unfold CD at h;cases h1:bc x with
 | none=>rw [h1] at h; cases h
 | some a=>
  cases h2:bc y with
  | none=>rw [h1,h2] at h; cases h
  | some b=>cases a; cases b; rw [h1,h2] at h; cases h
theorem sE {x y z:Operand} {g:HpT→Nat→AV→AV→AV→OR} {i:Bool} {g':dZ} (h:BR x y z g=some (.v i g')):False:=by
 unfold BR at h;cases d:bc x with
 | none=>rw [d] at h; cases h
 | some a=>
  cases e:bc y with
  | none=>rw [d,e] at h; cases h
  | some b=>
   cases f:bc z with
   | none=>rw [d,e,f] at h; cases h
   | some c=>cases a; cases b; cases c; rw [d,e,f] at h; cases h
theorem yU {f:FuncId} {xs:List Operand} {rd:Bool} {g:dZ} (h:lS f xs=some (.v rd g)):False:=by
 unfold lS at h;cases h1:dk xs with
 | none=>rw [h1] at h; cases h
 | some a=>cases a; rw [h1] at h; cases h
theorem yT {x:Operand} {xs:List Operand} {rd:Bool} {g:dZ} (h:jZ x xs=some (.v rd g)):False:=by
 unfold jZ at h;cases h1:bc x with
 | none=>rw [h1] at h; cases h
 | some a=>
  cases h2:dk xs with
  | none=>rw [h1,h2] at h; cases h
  | some b=>cases a; cases b; rw [h1,h2] at h; cases h
theorem gH {α:Type} {a:Array α} {l:List α} (h:a.toList=l):a=l.toArray:=by subst h; rfl
theorem uX {b:Builtin} {xs:Array Operand} {ts:Array TypeId} {g:dZ} {j:Bool} (h:gG P b xs.toList ts.toList=some (.v j g)):oI P (.call ⟨.builtin b,xs,ts⟩) g:=by
 unfold gG at h;split at h
 ·rename_i x y T T' hx ht;cases hb:Nat.beq T T' with
  | false=>rw [hb] at h; cases h
  | true=>
   rw [hb,cond_true] at h;split at h
   ·exact (oB h).elim
   ·cases h
 ·rename_i x T hx ht;rw [gH hx,gH ht];split at h
  ·rename_i e hT;exact eh h fun F ρ f t n E w a c hr i hx d=>bQ fun _ _ _ _ _=>sC hr i hx (by
    cases a <;> simp only [DP] at d <;> first|(cases d; done)|skip
    all_goals
     cases d
     simp only [uw,An,hT];rfl)
  ·rename_i hT;exact eh h fun F ρ f t n E w a c hr i hx d=>bQ fun _ _ _ _ _=>sC hr i hx (by
    cases a <;> simp only [DO] at d <;> first|(cases d; done)|skip
    rw [cQ] at d;cases d
    simp only [uw,An,hT];rfl)
  ·rename_i kt et hT;exact eh h fun F ρ f t n E w a c hr i hx d=>bQ fun _ _ _ _ _=>sC hr i hx (Ak hr (aV i hx) d)
  ·cases h
 ·rename_i x y _ hx;rw [gH hx];exact jP h fun F ρ f t n E w a b c hr i hx hy d=>bQ fun _ _ _ _ _=>Cr i hx hy (dn d)
 ·rename_i x y _ hx;rw [gH hx];exact jP h fun F ρ f t n E w a b c hr i hx hy d=>bQ fun _ _ _ _ _=>Cs i hx hy (dn d)
 ·split at h
  ·exact (oB h).elim
  ·cases h
 ·exact (oB h).elim
 ·cases h
theorem Br {c:Call} {g:dZ} {rd:Bool} (h:mU P c=some (.v rd g)):oI P (.call c) g:=by
 cases c with
 | mk callee args ats=>
  unfold mU at h;simp only at h;split at h
  ·split at h
   ·exact (yU h).elim
   ·exact (yT h).elim
  ·cases h
  ·exact uX h
theorem FM {op:Op} {g:dZ} {e:Bool} (h:sk P op=some (.v e g)):oI P op g:=by
 cases op with
 | move x=>exact zX h
 | assign x=>exact wE h
 | pick c a b=>exact zM h
 | build T ps=>exact yV h
 | load T x=>exact Ah h
 | nilCheck x=>exact Co h
 | binOp op T x y T'=>exact Dj h
 | unOp op T x=>exact Eo h
 | makeFunc f a b=>exact CP h
 | slice T x lo hi mx=>exact tH h
 | fieldAddr T x i=>exact qE h
 | field T x i=>exact yJ h
 | indexAddr T x y=>exact qC h
 | index T x y=>exact yF h
 | lookup T x y ok=>exact vW h
 | entry x=>exact yL h
 | typeAssert x xt T ok=>exact Do h
 | extract x i=>exact uH h
 | call c=>exact Br h
 | alloc T=>
  have h:gI P T=some (.v e g):=h;unfold gI at h; split at h <;> cases h
 | box T x=>
  have h:px T x=some (.v e g):=h;unfold px at h;cases d:bc x with
  | none=>rw [d] at h; cases h
  | some a=>cases a; rw [d] at h; cases h
 | buildSlice T k ps=>
  have h:cK P T k ps=some (.v e g):=h;unfold cK at h;split at h
  ·cases d:eT ps.toList with
   | none=>rw [d] at h; cases h
   | some a=>cases a; rw [d] at h; cases h
  ·cases h
 | insert T m k v=>exact (sE h).elim
 | mapUpdate T m k v=>exact (sE h).elim
 | store T x y=>
  have h:iW P T x y=some (.v e g):=h;unfold iW at h;split at h
  ·exact (CB h).elim
  ·cases h
 | convert S T x=>
  have h:(CW.casesOn (jX P S T) fun g=>vk x g)=some (KO.v e g):=h;cases hc:jX P S T with
  | mk g'=>rw [hc] at h; exact (sI h).elim
 | makeMap T r=>
  have h:pv P T r=some (.v e g):=h;unfold pv at h; split at h <;> cases h
 | makeSlice T a b=>
  have h:dc P T a b=some (.v e g):=h;unfold dc at h;split at h
  ·cases d:bc a with
   | none=>rw [d] at h; cases h
   | some x=>
    cases j:bc b with
    | none=>rw [d,j] at h; cases h
    | some y=>cases x; cases y; rw [d,j] at h; cases h
  ·cases h
 | mapEntry T m k=>exact (oB h).elim
 | entryStore T m k v=>exact (sE h).elim
 | range T x=>exact (sI h).elim
 | next x b=>cases b <;> exact (sI h).elim
 | _=>cases h
end
section
variable {P:Program} {E:Env} {w:World} {F:Frm} {ρ:List Place} {t:HpT} {n:Nat} {s:FrT} {f:Nat→AV}
theorem EW {op:Op} {x y:Operand} {g:HpT→Nat→AV→AV→OR} {g':nI} (e:CD x y g=some (.u g'))
 (h:∀(F:Frm) (ρ:List Place) (f:Nat→AV) (t:HpT) (n:Nat) (E:Env) (w:World) (a b c:AV) (i:HpT) (j:Nat),HR F ρ (co t n) w→FR ρ f E→cW f x=some a→cW f y=some b→g t n a b=.mem c i j→∀d ty ps af gd,Fs P E F ρ ⟨d,op,ty,ps,af,gd⟩ w (co i j)):∀call,BI P op (g' call):=by
 unfold CD at e;cases k:bc x with
 | none=>rw [k] at e; cases e
 | some a=>
  cases l:bc y with
  | none=>rw [k,l] at e; cases e
  | some b=>
   cases a with
   | mk a=>cases b with
    | mk b=>
     rw [k,l] at e;cases e
     intro call F ρ s t n E w c i j hr o m;exact h F ρ _ t n E w (a s) (b s) c i j hr o (bN k s) (bN l s) m
theorem wc {op:Op} {x y z:Operand} {g:HpT→Nat→AV→AV→AV→OR} {g':nI} (i:BR x y z g=some (.u g'))
 (h:∀(F:Frm) (ρ:List Place) (f:Nat→AV) (t:HpT) (n:Nat) (E:Env) (w:World) (a b c e:AV) (k:HpT) (l:Nat),HR F ρ (co t n) w→FR ρ f E→cW f x=some a→cW f y=some b→cW f z=some c→g t n a b c=.mem e k l→∀d ty ps af gd,Fs P E F ρ ⟨d,op,ty,ps,af,gd⟩ w (co k l)):∀call,BI P op (g' call):=by
 unfold BR at i;cases j:bc x with
 | none=>rw [j] at i; cases i
 | some a=>
  cases m:bc y with
  | none=>rw [j,m] at i; cases i
  | some b=>
   cases o:bc z with
   | none=>rw [j,m,o] at i; cases i
   | some c=>
    cases a with
    | mk a=>cases b with
     | mk b=>cases c with
      | mk c=>
       rw [j,m,o] at i;cases i
       intro call F ρ s t n E w e k l hr q p;exact h F ρ _ t n E w (a s) (b s) (c s) e k l hr q (bN j s) (bN m s) (bN o s) p
theorem sH {op:Op} {x:Operand} {g:HpT→Nat→AV→OR} {g':nI} (b:vk x g=some (.m g'))
 (h:∀(F:Frm) (ρ:List Place) (f:Nat→AV) (t:HpT) (n:Nat) (E:Env) (w:World) (a c:AV) (e:HpT) (i:Nat),HR F ρ (co t n) w→FR ρ f E→cW f x=some a→g t n a=.mem c e i→∀d ty ps af gd,wL P E F ρ ⟨d,op,ty,ps,af,gd⟩ w c (co e i)):∀call,BM P op (g' call):=by
 unfold vk at b;cases j:bc x with
 | none=>rw [j] at b; cases b
 | some a=>
  cases a with
  | mk a=>
   rw [j] at b;cases b
   intro call F ρ s t n E w c e i hr l k;exact h F ρ _ t n E w (a s) c e i hr l (bN j s) k
theorem sG {op:Op} {x y:Operand} {g:HpT→Nat→AV→AV→OR} {g':nI} (e:zj x y g=some (.m g'))
 (h:∀(F:Frm) (ρ:List Place) (f:Nat→AV) (t:HpT) (n:Nat) (E:Env) (w:World) (a b c:AV) (i:HpT) (j:Nat),HR F ρ (co t n) w→FR ρ f E→cW f x=some a→cW f y=some b→g t n a b=.mem c i j→∀d ty ps af gd,wL P E F ρ ⟨d,op,ty,ps,af,gd⟩ w c (co i j)):∀call,BM P op (g' call):=by
 unfold zj at e;cases k:bc x with
 | none=>rw [k] at e; cases e
 | some a=>
  cases l:bc y with
  | none=>rw [k,l] at e; cases e
  | some b=>
   cases a with
   | mk a=>cases b with
    | mk b=>
     rw [k,l] at e;cases e
     intro call F ρ s t n E w c i j hr p o;exact h F ρ _ t n E w (a s) (b s) c i j hr p (bN k s) (bN l s) o
theorem BY {T:TypeId} {agg:Bool} {size l:Nat} {z:Value} (g:js P T=some (agg,size,l,z)) (hr:HR F ρ (co t n) w) {a v c:AV} {d:HpT} {f:Nat} {u:Value} (k:aD ρ a=some u) (h:Eu size t n a v=.mem c d f):rV P (co t n) T a v=some (co d f):=by
 unfold Eu at h;split at h
 ·rename_i b o;obtain ⟨p,i⟩:=dX k;split at h
  ·rename_i q m T' e hb;have j:=cC hr i hb;simp only at h;rw [cQ,iy] at h;cases hc:(Nat.beq (cy v).length size && ((cy v).all jc && Nat.ble (o+size) m)) with
   | false=>rw [hc] at h; cases h
   | true=>
    rw [hc,cond_true] at h;simp only [Bool.and_eq_true] at hc;obtain ⟨c1,c2,c3⟩:=hc;have c1:=Nat.eq_of_beq_eq_true c1;have c3:=Nat.le_of_ble_eq_true c3;cases h
    simp only [rV,g,j,XB.ab];rw [if_pos ⟨c1,c2,by rw [eu]; exact c3⟩,dp];simp only [XB.ab];rw [oO _ _ _ _ (by omega)]
  ·cases h
 ·cases h
theorem yi {T:TypeId} {x y:Operand} {g:nI} (h:iW P T x y=some (.u g)):∀call,BI P (.store T x y) (g call):=by
 unfold iW at h;split at h
 ·rename_i agg size bytes z ht;exact EW h fun F ρ f t n E w a b c t' n' hr hf hx hy hg d ty ps af gd=>yj hr hf hx hy (BY ht hr (aV hf hx) hg)
 ·cases h
theorem xr {T:TypeId} {l:List AV} {c:AV} {t':HpT} {n':Nat} (h:yB T t n l=.mem c t' n'):c=.ptr (co t n).length 0∧co t' n'=co t n++[.cells l T l.length true]:=by
 unfold yB at h;cases h
 refine ⟨by rw [cH],?_⟩;rw [dq];simp only [XB.ab];rw [fR,cQ]
theorem zd {T:TypeId} {g:FrT→HpT→Nat→OR} (h:gI P T=some (.a g)):BM P (.alloc T) g:=by
 unfold gI at h;split at h
 ·rename_i l hz;cases h
  intro F ρ s t n E w c t' n' hr hf hg d ty ps af gd;obtain ⟨rfl,h2⟩:=xr hg;rw [h2];refine ze hr ?_;unfold zl at hz;split at hz
  ·rename_i agg size bytes z ht;simp only [wH,ht,hz]
  ·cases hz
 ·cases h
theorem Dh {T:TypeId} {x:Operand} {g:FrT→HpT→Nat→OR} (h:px T x=some (.a g)):BM P (.box T x) g:=by
 unfold px at h;cases e:bc x with
 | none=>rw [e] at h; cases h
 | some a=>
  cases a with
  | mk a=>
   rw [e] at h;cases h
   intro F ρ s t n E w c j k hr f b d ty ps af gd;simp only [iy] at b;cases hc:(cy (a s)).all jc with
   | false=>rw [hc] at b; cases b
   | true=>
    rw [hc,cond_true] at b;obtain ⟨rfl,i⟩:=xr b;rw [i];refine Di hr f (bN e s) ?_;simp only [Fi];rw [if_pos hc]
theorem Ct {T:TypeId} {r:Option Operand} {g:FrT→HpT→Nat→OR} (h:pv P T r=some (.a g)):BM P (.makeMap T r) g:=by
 unfold pv at h;split at h
 ·rename_i mt hmt;cases h
  intro F ρ s t n E w c f i hr j b d ty ps af gd;cases b
  rw [dq];have:=um (P:=P) (E:=E) (d:=d) (ty:=ty) (ps:=ps) (af:=af) (gd:=gd) hr (T:=T) (r:=none) (D:=.bool) (gu (k:=mt.1) (e:=mt.2) hmt) (by simp);rw [cH] at this;exact this
 ·cases h
theorem pw {T:TypeId} {k:Nat} {ps:Array (Nat×Operand)} {g:FrT→HpT→Nat→OR} (h:cK P T k ps=some (.a g)):BM P (.buildSlice T k ps) g:=by
 unfold cK at h;split at h
 ·rename_i el size zs he;cases e:eT ps.toList with
  | none=>rw [e] at h; cases h
  | some a=>
   cases a with
   | mk a=>
    rw [e] at h;cases h
    intro F ρ s t n E w c f i hr j b d ty u af gd;obtain ⟨agg,x,z,r,q,p,o,m,v⟩:=gy he;cases hb:(Nat.ble k 1000000 && Nat.ble (k*size) 16777216) with
    | false=>
     have b:(bif (Nat.ble k 1000000 && Nat.ble (k*size) 16777216) then du el size k zs t n HpT.put (fun l=>jr l 0 .nil) (a s) else OR.bad)=OR.mem c f i:=b;rw [hb] at b; cases b
    | true=>
     have b:(bif (Nat.ble k 1000000 && Nat.ble (k*size) 16777216) then du el size k zs t n HpT.put (fun l=>jr l 0 .nil) (a s) else OR.bad)=OR.mem c f i:=b;rw [hb,cond_true] at b;unfold du at b;split at b
     ·cases b
     ·rename_i cs hcs;cases b
      refine qh hr j (gb e s) ?_;simp only [kc,r,q,p];rw [if_pos (by simp only [Bool.and_eq_true] at hb; simp [o,m,hb.1,hb.2]),hcs];simp only [du.hn',cH];rw [dq];simp only [XB.ab];have:=fR cs;rw [cQ] at this;rw [this]
 ·cases h
theorem qL (zs:List AV):∀(c o:Nat) (t:TR AV) (m:Nat),(oN zs c o t).at bV m=if m<o then t.at bV m else (match (jt zs c)[m - o]? with|some v=>v|none=>t.at bV m)
 | 0,o,t,m=>by show t.at bV m=_; simp [jt]
 | c+1,o,t,m=>by
  show (oN zs c (o+cG zs) (jr zs o t)).at bV m=_;rw [qL zs c,cQ,oP];simp only [jt]
  by_cases a:m<o
  ·rw [if_pos (by omega),if_pos a,if_pos a]
  ·rw [if_neg a,if_neg a]
   by_cases b:m<o+zs.length
   ·rw [if_pos b,Jw (by omega)];cases zs[m - o]? <;> rfl
   ·rw [if_neg b,JK (by omega),show m - (o+zs.length)=m - o - zs.length by omega];rw [JH (l:=zs) (by omega)]
theorem nL (zs:List AV) (c:Nat):tx (oN zs c 0 .nil) (c*zs.length)=jt zs c:=by
 refine List.ext_getElem? fun i=>?_
 rw [fy,qL];have hl:=ml zs c
 by_cases h:i<c*zs.length
 ·rw [if_pos h,if_neg (by omega),Nat.sub_zero];rw [Jn (by omega)]
 ·rw [if_neg h,JH (by omega)]
theorem qw {T:TypeId} {x y:Operand} {g:FrT→HpT→Nat→OR} (h:dc P T x y=some (.a g)):BM P (.makeSlice T x y) g:=by
 unfold dc at h;split at h
 ·rename_i el size zs he;cases f:bc x with
  | none=>rw [f] at h; cases h
  | some a=>
   cases i:bc y with
   | none=>rw [f,i] at h; cases h
   | some b=>
    cases a with
    | mk a=>cases b with
     | mk b=>
      rw [f,i] at h;cases h
      intro F ρ s t n E w c o p hr B e d ty L af gd;obtain ⟨agg,N,z,K,J,m,l,I,H⟩:=gy he;refine qz hr B (bN f s) (bN i s) ?_;have e:de el size zs t n (a s) (b s)=.mem c o p:=e
      revert e
      generalize a s=u;generalize b s=v;intro e;unfold de at e;split at e
      ·rename_i k q k' r;cases hb:(Nat.ble q r && Nat.ble r 1000000) with
       | false=>rw [hb] at e; cases e
       | true=>
        rw [hb,cond_true] at e;cases e
        simp only [Bool.and_eq_true] at hb;have A:zs.length=size:=by
         have:=bI (absL_ok ρ _ _ m);have G:=Nat.eq_of_beq_eq_true l;rw [←this,Array.length_toList]; exact G
        have c1:=Nat.le_of_ble_eq_true hb.1;simp only [ly,K,J,m];have D:decide ((0:Int)≤Int.ofNat q∧Int.ofNat q≤Int.ofNat r)=true:=by
         rw [decide_eq_true_eq];exact ⟨Int.natCast_nonneg q,Int.ofNat_le.2 c1⟩
        have j:(Int.ofNat r).toNat=r:=rfl;rw [if_pos (by rw [j,D]; simp [l,I,H,hb.2]),j,cH,dq];simp only [XB.ab];have:=nL zs r;rw [A] at this;rw [this];rfl
      ·cases e
 ·cases h
end
section
variable {P:Program} {E:Env} {w:World} {F:Frm} {ρ:List Place} {t:HpT} {n:Nat} {s:FrT} {f:Nat→AV}
theorem BZ {e:Nat} (hr:HR F ρ (co t n) w) {a:AV} {v:Value} (f:aD ρ a=some v) {r:Nat×List AV} (h:Ew t e a=some r):tF (co t n) e none a=some r∧Et a=false:=by
 unfold Ew at h;split at h
 ·cases h; exact ⟨rfl,rfl⟩
 ·cases h; exact ⟨rfl,rfl⟩
 ·rename_i b o l e';obtain ⟨p,c,_⟩:=dK f;split at h
  ·rename_i t' m T' g own hb;have d:=cC hr c hb;cases hc:(Nat.beq e' e && Nat.ble (o+l*e) m) with
   | false=>rw [hc] at h; cases h
   | true=>
    rw [hc,cond_true] at h;simp only [Bool.and_eq_true] at hc;have c1:=Nat.eq_of_beq_eq_true hc.1;have c2:=Nat.le_of_ble_eq_true hc.2;subst c1;cases h
    refine ⟨?_,rfl⟩;simp only [tF,if_true,d,XB.ab];rw [if_pos (by rw [eu]; exact c2),←mq _ _ _ _ c2]
  ·cases h
 ·cases h
theorem Dp {T:TypeId} {el size:Nat} {zs:List AV} (A:kY P T=some (el,size,zs)) (hr:HR F ρ (co t n) w) {x y c:AV} {d:HpT} {f:Nat} {u v:Value} (hx:aD ρ x=some u) (hy:aD ρ y=some v) (h:Fk el size t n x y=.mem c d f):mW P (co t n) T x y=some (c,co d f):=by
 obtain ⟨agg,N,z,I,H,L,G,D,B⟩:=gy A;unfold Fk at h;split at h
 ·cases h
 rename_i m ys hs;obtain ⟨r,q⟩:=BZ hr hy hs;rw [iy] at h;cases ho:ys.all jc with
 | false=>rw [ho] at h; cases h
 | true=>
  rw [ho,cond_true] at h;simp only [mW,I,H,r];rw [if_pos (by simp [q,ho,G,D,B])];split at h
  ·cases hm:Nat.beq m 0 with
   | true=>
    rw [hm,cond_true] at h;cases h
    simp only [if_true]
   | false=>
    rw [hm,cond_false] at h;cases i:Nat.ble m 1000000 with
    | false=>rw [i] at h; cases h
    | true=>
     rw [i,cond_true] at h;cases h
     simp only [Bool.false_eq_true,if_false,if_true];rw [dq,cH];simp only [XB.ab];rw [fR]
  ·rename_i b o k e;obtain ⟨p,g,_⟩:=dK hx;cases a:Nat.beq (k+m) 0 with
   | true=>
    rw [a,cond_true] at h;cases h
    simp only [a,if_true]
   | false=>
    rw [a,cond_false] at h;cases hc:(Nat.beq o 0 && (Nat.beq e size && Nat.ble (k+m) 1000000)) with
    | false=>rw [hc] at h; cases h
    | true=>
     rw [hc,cond_true] at h;split at h
     ·rename_i l kk T' e' hb;have s:=cC hr g hb;have K:=oF hr g;cases hd:(Nat.beq e' size && (Nat.beq T' el && Nat.ble (k*size) kk)) with
      | false=>rw [hd] at h; cases h
      | true=>
       rw [hd,cond_true] at h;cases h
       have j:=hd;simp only [Bool.and_eq_true] at j;have J:=Nat.le_of_ble_eq_true j.2.2;simp only [a,Bool.false_eq_true,if_false,hc,if_true,s,XB.ab,eu,hd];rw [dq,dp,cH];simp only [XB.ab,XB.dead];rw [BT ys (k*size) kk l J]
     ·cases h
  ·cases h
theorem AU {T:TypeId} {el size:Nat} {zs:List AV} (G:kY P T=some (el,size,zs)) (hr:HR F ρ (co t n) w) {x y c:AV} {d:HpT} {e:Nat} {u v:Value} (hx:aD ρ x=some u) (hy:aD ρ y=some v) (h:AW size t n x y=.mem c d e):uS P (co t n) T x y=some (c,co d e):=by
 obtain ⟨agg,a0,z,K,J,X,W,V,U⟩:=gy G;unfold AW at h;split at h
 ·rename_i k l hk hl;simp only [uS,K,hk,hl,J];split at h
  ·rename_i hm;cases h
   rw [if_pos (by rw [hm]; rfl)]
  ·rename_i m hm;rw [if_neg (by simpa using hm)];split at h
   ·rename_i b' o' q' ee' b o q ee;obtain ⟨R,r,_⟩:=dK hy;obtain ⟨p,s,_⟩:=dK hx;split at h
    ·rename_i a i T1 e1' S Q j T2 e2' I H;have B:=cC hr r I;have A:=cC hr s H;cases hc:(Nat.beq ee' size && (Nat.beq ee size && (Nat.ble (o'+min l k*size) i && Nat.ble (o+min l k*size) j))) with
     | false=>rw [hc] at h; cases h
     | true=>
      rw [hc,cond_true] at h;simp only [iy] at h;simp only [Bool.and_eq_true] at hc;obtain ⟨c1,c2,c3,g⟩:=hc;have N:=Nat.le_of_ble_eq_true c3;have L:=Nat.le_of_ble_eq_true g;have Z:=Nat.eq_of_beq_eq_true c1;cases ho:(qX a (min l k*size) o').all jc with
      | false=>rw [ho] at h; cases h
      | true=>
       rw [ho,cond_true] at h;cases h
       have D:nw (co t n) size (min l k) (.sl b' o' q' ee')=some (qX a (min l k*size) o'):=by
        simp only [nw,B,XB.ab];rw [if_pos (by rw [eu]; simp [c1,c3]),←mq _ _ _ _ N]
       have f:(qX a (min l k*size) o').length=min l k*size:=mr _ _ _;simp only [D,A,XB.ab,eu];rw [if_pos (by rw [f]; simp [c2,ho,g]),dp];simp only [XB.ab];rw [oO _ _ _ _ (by rw [f]; exact L)];rfl
    ·cases h
   ·cases h
 ·cases h
theorem jM {b:Nat} {v:Value} (h:aD ρ (.mp b)=some v):∃p,ρ[b]?=some p:=by
 simp only [aD] at h;split at h
 ·rename_i p hp; exact ⟨p,hp⟩
 ·cases h
theorem pG {T:TypeId} (hr:HR F ρ (co t n) w) {m k v c:AV} {a:HpT} {d:Nat} {u:Value} (f:aD ρ m=some u) (h:sw P T t n m k v=.mem c a d):gS P (co t n) T m k v=some (co a d):=by
 unfold sw at h;split at h
 ·rename_i b;obtain ⟨p,e⟩:=jM f;split at h
  ·rename_i x hb;have g:=cC hr e hb;split at h
   ·rename_i x' hx;cases h
    rw [dp];simp only [XB.ab];cases hmt:iD P T with
    | none=>simp only [gS,hmt] at hx; cases hx
    | some mt=>
     simp only [gS,hmt,g,XB.ab] at hx ⊢;cases x with
     | map es clock=>
      simp only [List.getElem?_cons_zero] at hx ⊢;split at hx
      ·split at hx
       ·cases hx
       ·cases hx; simp [*]
       ·cases hx; simp [*]
      ·cases hx
     | _=>simp only [List.getElem?_cons_zero] at hx; cases hx
   ·cases h
  ·cases h
 ·cases h
theorem sx {T:TypeId} (hr:HR F ρ (co t n) w) {m k c:AV} {d:HpT} {e:Nat} {u:Value} (g:aD ρ m=some u) (h:nl P T t n m k=.mem c d e):gh P (co t n) T m k=some (c,co d e):=by
 unfold nl at h;split at h
 ·rename_i b;obtain ⟨p,f⟩:=jM g;split at h
  ·rename_i x hb;have j:=cC hr f hb;split at h
   ·rename_i c' x' hx;cases h
    rw [dp];simp only [XB.ab];cases hmt:iD P T with
    | none=>simp only [gh,hmt] at hx; cases hx
    | some mt=>
     obtain ⟨o,el⟩:=mt;simp only [gh,hmt,j,XB.ab] at hx ⊢;cases x with
     | map es clock=>
      cases hty:js P el with
      | none=>rw [hty] at hx; simp at hx
      | some q=>
       obtain ⟨agg,size,r,z⟩:=q;rw [hty] at hx;simp only [List.getElem?_cons_zero,hty] at hx ⊢;split at hx
       ·rename_i hka;rw [if_pos hka];split at hx
        ·rename_i zv a l;cases hx
         simp only [a,l]
        ·rename_i i v q' a;cases hx
         simp only [a]
        ·cases hx
       ·cases hx
     | _=>simp only [List.getElem?_cons_zero] at hx; cases hx
   ·cases h
  ·cases h
 ·cases h
theorem pW (hr:HR F ρ (co t n) w) {m k v c:AV} {a:HpT} {d:Nat} {u:Value} (f:aD ρ m=some u) (h:jU t n m k v=.mem c a d):eL (co t n) m k v=some (co a d):=by
 unfold jU at h;split at h
 ·rename_i b;obtain ⟨p,e⟩:=jM f;split at h
  ·rename_i x hb;have g:=cC hr e hb;split at h
   ·rename_i x' hx;cases h
    rw [dp];simp only [XB.ab];cases k with
    | int kk q=>
     simp only [eL,g,XB.ab] at hx ⊢;cases x with
     | map es clock=>
      simp only [List.getElem?_cons_zero] at hx ⊢;cases hs:lj v q es with
      | none=>rw [hs] at hx; cases hx
      | some es'=>rw [hs] at hx; cases hx; rfl
     | _=>simp only [List.getElem?_cons_zero] at hx; cases hx
    | _=>simp only [eL] at hx; cases hx
   ·cases h
  ·cases h
 ·cases h
theorem wx {T:TypeId} {ts:List TypeId} (hr:HR F ρ (co t n) w) {m k c:AV} {a:HpT} {d:Nat} {u:Value} (g:aD ρ m=some u) (h:sV P T t n m k=.mem c a d):kb P (co t n) .delete (T::ts) [m,k]=some (c,co a d):=by
 unfold sV at h;split at h
 ·rename_i b;obtain ⟨p,f⟩:=jM g;split at h
  ·rename_i x hb;have e:=cC hr f hb;split at h
   ·rename_i c' x' hx;cases h
    rw [dp];simp only [XB.ab];simp only [kb,e,XB.ab] at hx ⊢;cases x with
    | map es clock=>
     simp only [List.getElem?_cons_zero] at hx ⊢;cases hmt:iD P T with
     | none=>rw [hmt] at hx; cases hx
     | some mt=>
      obtain ⟨l,el⟩:=mt;rw [hmt] at hx;simp only at hx ⊢;split at hx
      ·rename_i hka;rw [if_pos hka];split at hx
       ·cases hx
       ·rename_i j;cases hx
        have:(co t n).set b (.map es clock)=co t n:=by
         refine List.ext_getElem? fun i=>?_
         rw [JM];split
         ·rename_i hbi;subst hbi;split
          ·rw [e]; rfl
          ·rename_i hlt;rw [JH (by omega)]
         ·rfl
        rw [this]
       ·rename_i i v q j;cases hx
        rfl
      ·cases hx
    | _=>simp only [List.getElem?_cons_zero] at hx; cases hx
   ·cases h
  ·cases h
 ·cases h
theorem yt {T:TypeId} (hr:HR F ρ (co t n) w) {a c:AV} {b:HpT} {d:Nat} {u:Value} (g:aD ρ a=some u) (h:vB P T t n a=.mem c b d):pk P (co t n) T a=some (c,co b d):=by
 unfold vB at h;split at h
 ·split at h
  ·rename_i hT;cases h
   simp only [pk,hT,cH,dq];rfl
  ·cases h
 ·rename_i m;obtain ⟨p,e⟩:=jM g;split at h
  ·rename_i mt es clock hmt hb;have f:=cC hr e hb;cases h
   simp only [pk,hmt,f,XB.ab,cH,dq]
  ·cases h
 ·cases h
theorem yz (hr:HR F ρ (co t n) w) {a c:AV} {d:HpT} {e:Nat} {u:Value} (i:aD ρ a=some u) (h:vN t n a=.mem c d e):xp (co t n) a=some (c,co d e):=by
 unfold vN at h;split at h
 ·rename_i b;obtain ⟨p,f⟩:=dX i;split at h
  ·rename_i st pos hb;have g:=cC hr f hb;rw [fS] at h;simp only [xp,g,XB.ab];split at h
   ·rename_i hn;cases h
    simp only [hn]
   ·rename_i ch hch;cases hc:Nat.blt ch.toNat 128 with
    | false=>rw [hc] at h; cases h
    | true=>
     rw [hc,cond_true] at h;cases h
     simp only [hch,hc,if_true,dp];rfl
  ·cases h
 ·cases h
theorem yA (hr:HR F ρ (co t n) w) {a c:AV} {e:HpT} {g:Nat} {u:Value} (o:aD ρ a=some u) (h:vO t n a=.mem c e g):xq (co t n) a=some (c,co e g):=by
 unfold vO at h;split at h
 ·rename_i b;obtain ⟨p,j⟩:=dX o;split at h
  ·rename_i m since seen stepped hb;have l:=cC hr j hb;obtain ⟨_,q,i,_⟩:=hr.at_ b p _ j l;simp only [xq,l,XB.ab];split at h
   ·rename_i clock hm;have d:=cC hr i hm;cases h
    simp only [d,XB.ab]
   ·rename_i k v f clock hm;have d:=cC hr i hm;simp only [d,XB.ab];cases hc:(Nat.blt f since && Nat.ble since stepped) with
    | false=>rw [hc] at h; cases h
    | true=>
     rw [hc,cond_true] at h;simp only [if_true];cases hs:seen.contains f with
     | true=>rw [hs,cond_true] at h; cases h; simp only [if_true]
     | false=>
      rw [hs,cond_false] at h;cases h
      simp only [Bool.false_eq_true,if_false,dp];rfl
   ·cases h
  ·cases h
 ·cases h
theorem AZ {S T:TypeId} {g:HpT→Nat→AV→OR} (b:jX P S T=.mk g) {a c:AV} {d:HpT} {e:Nat} (h:g t n a=.mem c d e):rC P (co t n) S T a=some (c,co d e):=by
 unfold jX at b;split at b
 ·rename_i k hT;split at b
  ·rename_i D hS;cases b
   cases a <;> simp only at h <;> first|(cases h; done)|skip
   cases h
   simp only [rC,hS,hT,jB]
  ·cases b; cases h
 ·rename_i hT;split at b
  ·rename_i D hS;cases b
   cases a <;> simp only at h <;> first|(cases h; done)|skip
   cases h
   simp only [rC,hS,hT]
  ·cases b; cases h
 ·rename_i el hT;split at b
  ·rename_i he hS;cases b
   cases a <;> simp only at h <;> first|(cases h; done)|skip
   cases h
   rename_i st;simp only [rC,hS,hT,he,cH,dq,XB.ab];have i:cG st=cG (st.map fun c=>AV.int .u8 c.toNat):=by rw [cQ,cQ,JA]
   have f:=fR (st.map fun c=>AV.int .u8 c.toNat);rw [←i] at f;rw [f,cQ]
  ·cases b; cases h
 ·cases b; cases h
def KO.k:KO→Nat
 | .v _ _=>0
 | .a _=>1
 | .m _=>2
 | .u _=>3
theorem eV {rd:Bool} {x:Operand} {g:HpT→AV→OR} {ko:KO} (h:qo rd x g=some ko):ko.k=0:=by
 unfold qo at h;cases h1:bc x with
 | none=>rw [h1] at h; cases h
 | some a=>cases a; rw [h1] at h; cases h; rfl
theorem kU {rd:Bool} {x y:Operand} {g:HpT→AV→AV→OR} {ko:KO} (h:xC rd x y g=some ko):ko.k=0:=by
 unfold xC at h;cases h1:bc x with
 | none=>rw [h1] at h; cases h
 | some a=>
  cases h2:bc y with
  | none=>rw [h1,h2] at h; cases h
  | some b=>cases a; cases b; rw [h1,h2] at h; cases h; rfl
theorem Ap {x:Operand} {g:HpT→Nat→AV→OR} {ko:KO} (h:vk x g=some ko):ko.k=2:=by
 unfold vk at h;cases h1:bc x with
 | none=>rw [h1] at h; cases h
 | some a=>cases a; rw [h1] at h; cases h; rfl
theorem xF {x y:Operand} {g:HpT→Nat→AV→AV→OR} {ko:KO} (h:zj x y g=some ko):ko.k=2:=by
 unfold zj at h;cases h1:bc x with
 | none=>rw [h1] at h; cases h
 | some a=>
  cases h2:bc y with
  | none=>rw [h1,h2] at h; cases h
  | some b=>cases a; cases b; rw [h1,h2] at h; cases h; rfl
theorem FY {x y:Operand} {g:HpT→Nat→AV→AV→OR} {ko:KO} (h:CD x y g=some ko):ko.k=3:=by
 unfold CD at h;cases h1:bc x with
 | none=>rw [h1] at h; cases h
 | some a=>
  cases h2:bc y with
  | none=>rw [h1,h2] at h; cases h
  | some b=>cases a; cases b; rw [h1,h2] at h; cases h; rfl
theorem Ao {x y z:Operand} {g:HpT→Nat→AV→AV→AV→OR} {ko:KO} (h:BR x y z g=some ko):ko.k=3:=by
 unfold BR at h;cases h1:bc x with
 | none=>rw [h1] at h; cases h
 | some a=>
  cases h2:bc y with
  | none=>rw [h1,h2] at h; cases h
  | some b=>
   cases h3:bc z with
   | none=>rw [h1,h2,h3] at h; cases h
   | some c=>cases a; cases b; cases c; rw [h1,h2,h3] at h; cases h; rfl
theorem Dg {x:Operand} {xs:List Operand} {ko:KO} (h:jZ x xs=some ko):ko.k=2:=by
 unfold jZ at h;cases h1:bc x with
 | none=>rw [h1] at h; cases h
 | some a=>
  cases h2:dk xs with
  | none=>rw [h1,h2] at h; cases h
  | some b=>cases a; cases b; rw [h1,h2] at h; cases h; rfl
def Iq:Op→Bool
 | .alloc _=>true
 | .box _ _=>true
 | .buildSlice _ _ _=>true
 | .makeSlice _ _ _=>true
 | .makeMap _ _=>true
 | _=>false
def HS:Op→Bool
 | .store _ _ _=>true
 | .mapUpdate _ _ _ _=>true
 | .insert _ _ _ _=>true
 | .entryStore _ _ _ _=>true
 | _=>false
def Ip:Op→Bool
 | .convert _ _ _=>true
 | .mapEntry _ _ _=>true
 | .range _ _=>true
 | .next _ _=>true
 | .call _=>true
 | _=>false
theorem mA {op:Op} {j:KO} (h:sk P op=some j):(j.k=1→Iq op=true)∧(j.k=2→Ip op=true)∧(j.k=3→HS op=true):=by
 have v0:∀ {k:Nat} {a b c:Bool},k=0→(k=1→a=true)∧(k=2→b=true)∧(k=3→c=true):=by intro k a b c o; subst o; exact ⟨fun h=>(by cases h),fun h=>(by cases h),fun h=>(by cases h)⟩
 cases op with
 | move x=>exact v0 (eV h)
 | assign x=>exact v0 (eV h)
 | pick c a b=>
  have h:pu c a b=some j:=h;unfold pu at h;cases e:bc c with
  | none=>rw [e] at h; cases h
  | some x=>cases l:bc a with
   | none=>rw [e,l] at h; cases h
   | some y=>cases n:bc b with
    | none=>rw [e,l,n] at h; cases h
    | some z=>cases x; cases y; cases z; rw [e,l,n] at h; cases h; exact v0 rfl
 | build T ps=>
  have h:ls P T ps=some j:=h;unfold ls at h;cases e:eT ps.toList with
  | none=>rw [e] at h; cases h
  | some x=>cases x; rw [e] at h; cases h; exact v0 rfl
 | load T x=>
  have h:pI P T x=some j:=h;unfold pI at h;split at h
  ·exact v0 (eV h)
  ·exact v0 (eV h)
  ·cases h
 | nilCheck x=>exact v0 (eV h)
 | binOp op T x y T'=>
  have h:vL P op T x y T'=some j:=h;unfold vL sZ at h;split at h
  ·exact v0 (eV h)
  ·cases hb:yX P op T with
   | mk g'=>rw [hb] at h; exact v0 (kU h)
 | unOp op T x=>
  have h:Hr op T x=some j:=h;unfold Hr at h;exact v0 (eV h)
 | makeFunc f a b=>
  have h:ET f a b=some j:=h;unfold ET at h;split at h
  ·cases e:dk a.toList with
   | none=>rw [e] at h; cases h
   | some x=>cases l:dk b.toList with
    | none=>rw [e,l] at h; cases h
    | some y=>cases x; cases y; rw [e,l] at h; cases h; exact v0 rfl
  ·cases h
 | slice T x lo hi mx=>
  have h:lq P T x lo hi mx=some j:=h;unfold lq at h;split at h
  ·unfold mf at h;cases e:bc x with
   | none=>rw [e] at h; cases h
   | some a=>cases l:ez lo with
    | none=>rw [e,l] at h; cases h
    | some b=>cases n:ez hi with
     | none=>rw [e,l,n] at h; cases h
     | some c=>
      cases a; cases b; cases c
      rw [e,l,n] at h;simp only at h;split at h <;> cases h <;> exact v0 rfl
  ·cases h
 | fieldAddr T x i=>
  have h:fq P T i x=some j:=h;unfold fq at h;split at h
  ·split at h
   ·split at h
    ·rename_i agg size bytes z ht;cases hb:Nat.blt 0 size with
     | false=>rw [hb] at h; cases h
     | true=>rw [hb] at h; exact v0 (eV h)
    ·cases h
   ·cases h
  ·cases h
 | field T x i=>
  have h:ny P T i x=some j:=h;unfold ny at h;split at h
  ·split at h
   ·split at h
    ·exact v0 (eV h)
    ·exact v0 (eV h)
    ·cases h
   ·cases h
  ·cases h
 | indexAddr T x y=>
  have h:eF P T x y=some j:=h;unfold eF at h;split at h
  ·split at h
   ·exact v0 (kU h)
   ·cases h
  ·exact v0 (kU h)
 | index T x y=>
  have h:lH P T x y=some j:=h;unfold lH at h;split at h
  ·exact v0 (kU h)
  ·exact v0 (kU h)
 | lookup T x y ok=>exact v0 (kU h)
 | entry x=>exact v0 (eV h)
 | typeAssert x xt T ok=>
  have h:vM P x xt T ok=some j:=h;unfold vM at h;cases hb:(!ok && sL P T (fun d=>!(CJ d))) with
  | false=>rw [hb] at h; cases h
  | true=>rw [hb] at h; exact v0 (eV h)
 | extract x i=>exact v0 (eV h)
 | alloc T=>
  have h:gI P T=some j:=h;unfold gI at h; split at h <;> cases h
  exact ⟨fun _=>rfl,fun h=>(by cases h),fun h=>(by cases h)⟩
 | box T x=>
  have h:px T x=some j:=h;unfold px at h;cases e:bc x with
  | none=>rw [e] at h; cases h
  | some a=>cases a; rw [e] at h; cases h; exact ⟨fun _=>rfl,fun h=>(by cases h),fun h=>(by cases h)⟩
 | buildSlice T k ps=>
  have h:cK P T k ps=some j:=h;unfold cK at h;split at h
  ·cases e:eT ps.toList with
   | none=>rw [e] at h; cases h
   | some a=>cases a; rw [e] at h; cases h; exact ⟨fun _=>rfl,fun h=>(by cases h),fun h=>(by cases h)⟩
  ·cases h
 | makeMap T r=>
  have h:pv P T r=some j:=h;unfold pv at h; split at h <;> cases h
  exact ⟨fun _=>rfl,fun h=>(by cases h),fun h=>(by cases h)⟩
 | makeSlice T a b=>
  have h:dc P T a b=some j:=h;unfold dc at h;split at h
  ·cases e:bc a with
   | none=>rw [e] at h; cases h
   | some x=>cases l:bc b with
    | none=>rw [e,l] at h; cases h
    | some y=>cases x; cases y; rw [e,l] at h; cases h; exact ⟨fun _=>rfl,fun h=>(by cases h),fun h=>(by cases h)⟩
  ·cases h
 | insert T m k v=>have:=Ao h; exact ⟨fun h=>(by omega),fun h=>(by omega),fun _=>rfl⟩
 | mapUpdate T m k v=>have:=Ao h; exact ⟨fun h=>(by omega),fun h=>(by omega),fun _=>rfl⟩
 | entryStore T m k v=>have:=Ao h; exact ⟨fun h=>(by omega),fun h=>(by omega),fun _=>rfl⟩
 | store T x y=>
  have h:iW P T x y=some j:=h;unfold iW at h;split at h
  ·have:=FY h; exact ⟨fun h=>(by omega),fun h=>(by omega),fun _=>rfl⟩
  ·cases h
 | convert S T x=>
  have h:(CW.casesOn (jX P S T) fun g=>vk x g)=some j:=h;cases hc:jX P S T with
  | mk g'=>rw [hc] at h; have:=Ap h; exact ⟨fun h=>(by omega),fun _=>rfl,fun h=>(by omega)⟩
 | mapEntry T m k=>have:=xF h; exact ⟨fun h=>(by omega),fun _=>rfl,fun h=>(by omega)⟩
 | range T x=>have:=Ap h; exact ⟨fun h=>(by omega),fun _=>rfl,fun h=>(by omega)⟩
 | next x b=>cases b <;> (have:=Ap h; exact ⟨fun h=>(by omega),fun _=>rfl,fun h=>(by omega)⟩)
 | call c=>
  have o:j.k=0∨j.k=2:=by
   have h:mU P c=some j:=h;unfold mU at h;split at h
   ·split at h
    ·unfold lS at h;cases e:dk c.args.toList with
     | none=>rw [e] at h; cases h
     | some a=>cases a; rw [e] at h; cases h; exact .inr rfl
    ·exact .inr (Dg h)
   ·cases h
   ·unfold gG at h;split at h
    ·rename_i x y T T' _ _ _;cases hb:Nat.beq T T' with
     | false=>rw [hb] at h; cases h
     | true=>
      rw [hb,cond_true] at h;split at h
      ·exact .inr (xF h)
      ·cases h
    ·split at h
     ·exact .inl (eV h)
     ·exact .inl (eV h)
     ·exact .inl (eV h)
     ·cases h
    ·exact .inl (kU h)
    ·exact .inl (kU h)
    ·split at h
     ·exact .inr (xF h)
     ·cases h
    ·exact .inr (xF h)
    ·cases h
  exact ⟨fun h=>(by omega),fun _=>rfl,fun h=>(by omega)⟩
 | _=>cases h
theorem FO {op:Op} {g:nI} (h:sk P op=some (.m g)) (p:∀c,op≠.call c):∀call,BM P op (g call):=by
 have o:=(mA h).2.1 rfl;cases op with
 | convert S T x=>
  have h:(CW.casesOn (jX P S T) fun g=>vk x g)=some (KO.m g):=h;cases hcv:jX P S T with
  | mk g'=>
   rw [hcv] at h;exact sH h fun F ρ f t n E w a c j l hr e hx i d ty ps af gd=>Ba hr e hx (AZ hcv i)
 | mapEntry T m k=>exact sG h fun F ρ f t n E w a b c j l hr e hx hy i d ty ps af gd=>sy hr e hx hy (sx hr (aV e hx) i)
 | range T x=>exact sH h fun F ρ f t n E w a c j l hr e hx i d ty ps af gd=>yu hr e hx (yt hr (aV e hx) i)
 | next x b=>
  cases b with
  | true=>exact sH h fun F ρ f t n E w a c j l hr e hx i d ty ps af gd=>zV hr e hx (yz hr (aV e hx) i)
  | false=>exact sH h fun F ρ f t n E w a c j l hr e hx i d ty ps af gd=>zW hr e hx (yA hr (aV e hx) i)
 | call c=>exact absurd rfl (p c)
 | _=>cases o
theorem FN {op:Op} {g:nI} (h:sk P op=some (.u g)):∀call,BI P op (g call):=by
 have q:=(mA h).2.2 rfl;cases op with
 | store T x y=>exact yi h
 | mapUpdate T m k v=>exact wc h fun F ρ f t n E w a b c e o p hr i hx hy j l d ty ps af gd=>vT hr i hx hy j (pG hr (aV i hx) l)
 | insert T m k v=>exact wc h fun F ρ f t n E w a b c e o p hr i hx hy j l d ty ps af gd=>wl hr i hx hy j (pG hr (aV i hx) l)
 | entryStore T m k v=>exact wc h fun F ρ f t n E w a b c e o p hr i hx hy j l d ty ps af gd=>pX hr i hx hy j (pW hr (aV i hx) l)
 | _=>cases q
theorem EQ {op:Op} {g:FrT→HpT→Nat→OR} (h:sk P op=some (.a g)):BM P op g:=by
 have hk:=(mA h).1 rfl;cases op with
 | alloc T=>exact zd h
 | box T x=>exact Dh h
 | buildSlice T k ps=>exact pw h
 | makeSlice T x y=>exact qw h
 | makeMap T r=>exact Ct h
 | _=>cases hk
end
end Go.Lx
