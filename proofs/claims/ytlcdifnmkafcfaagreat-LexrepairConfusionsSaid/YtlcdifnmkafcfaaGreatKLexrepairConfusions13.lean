/- Part 13. -/
import Derived.Test.YtlcdifnmkafcfaaGreatKLexrepairConfusions12
set_option linter.unusedVariables false
namespace Go.Proofs.YtlcdifnmkafcfaaGreat
open Go.Lx
def D (σ:Nat→List Bool):Nat→List (List Bool)|0=>[]|i+1=>bif (D σ i).contains (σ i) then D σ i else D σ i++[σ i]
theorem vW {σ:Nat→List Bool} {i:Nat} {s:List Bool}:s∈D σ i↔∃a,a<i∧σ a=s:=by
  induction i with
  | zero=>simp [D]
  | succ i ih=>
    have gL:(∃a,a<i+1∧σ a=s)↔(s∈D σ i∨s=σ i):=by
      rw [ih]
      constructor
      · rintro ⟨a,c,b⟩
        by_cases h:a=i
        · subst h; exact .inr b.symm
        · exact .inl ⟨a,by omega,b⟩
      · rintro (⟨a,c,b⟩|h)
        · exact ⟨a,by omega,b⟩
        · exact ⟨i,by omega,h.symm⟩
    rw [gL,D]
    cases hc:(D σ i).contains (σ i)
    · simp
    · simp only [cond_true]
      have:σ i∈D σ i:=by simpa using hc
      constructor
      · exact .inl
      · rintro (h|rfl)
        · exact h
        · exact this
theorem xf {σ:Nat→List Bool} {i j:Nat} (h:i≤j):∃r,D σ j=D σ i++r:=by
  obtain ⟨k,rfl⟩:=Nat.le.dest h
  clear h
  induction k with
  | zero=>exact ⟨[],by simp⟩
  | succ k ih=>
    obtain ⟨r,hr⟩:=ih
    rw [←Nat.add_assoc,D]
    cases (D σ (i+k)).contains (σ (i+k))
    · exact ⟨r++[σ (i+k)],by simp [hr]⟩
    · exact ⟨r,by simpa using hr⟩
theorem xh {σ:Nat→List Bool} (i:Nat):(D σ i).length≤i:=by
  induction i with
  | zero=>simp [D]
  | succ i ih=>
    rw [D]
    cases (D σ i).contains (σ i)
    · simp; omega
    · simp only [cond_true]; omega
def cls (σ:Nat→List Bool) (i:Nat):Nat:=(D σ 256).idxOf (σ i)
theorem wv {σ:Nat→List Bool} {i j:Nat} (hj:j≤256) (hi:i<j):cls σ i=(D σ j).idxOf (σ i):=by
  obtain ⟨r,hr⟩:=xf (σ:=σ) hj
  unfold cls
  rw [hr,List.idxOf_append,if_pos (vW.2 ⟨i,hi,rfl⟩)]
theorem tW {σ:Nat→List Bool} {i:Nat} (hi:i<256) (h:σ i∈D σ i):cls σ i=(D σ i).idxOf (σ i)∧cls σ i<(D σ i).length:=by
  have e:D σ (i+1)=D σ i:=by rw [D]; simp [h]
  have:=wv (σ:=σ) (i:=i) (j:=i+1) (by omega) (by omega)
  rw [e] at this
  rw [this]
  exact ⟨rfl,List.idxOf_lt_length_of_mem h⟩
theorem qc {σ:Nat→List Bool} {i:Nat} (hi:i<256) (h:σ i∉D σ i):cls σ i=(D σ i).length∧D σ (i+1)=D σ i++[σ i]:=by
  have e:D σ (i+1)=D σ i++[σ i]:=by rw [D]; simp [h]
  have:=wv (σ:=σ) (i:=i) (j:=i+1) (by omega) (by omega)
  rw [e,List.idxOf_append,if_neg h] at this
  rw [this]
  refine ⟨by simp,e⟩
theorem xg {σ:Nat→List Bool} {i:Nat} (h:σ i∈D σ i):D σ (i+1)=D σ i:=by rw [D]; simp [h]
def lz (f:Nat→Int) (n i:Nat):List Int:=(List.range i).map f++List.replicate (n - i) 0
theorem tw {f:Nat→Int} {n i:Nat} (h:i≤n):(lz f n i).length=n:=by simp [lz]; omega
theorem tx {f:Nat→Int} {n i k:Nat} (hk:k<i) (h:k<(lz f n i).length):(lz f n i)[k]=f k:=by
  simp [lz,hk]
theorem tv {f:Nat→Int} {n i:Nat} (hi:i<n) (x:Int) (hx:f i=x):(lz f n i).set i x=lz f n (i+1):=by
  unfold lz
  rw [List.set_append,if_neg (by simp),List.range_succ,List.map_append,List.append_assoc]
  congr 1
  simp only [List.length_map,List.length_range,Nat.sub_self]
  obtain ⟨k,hk⟩:∃k,n - i=k+1:=⟨n - i - 1,by omega⟩
  rw [hk,List.replicate_succ,List.set_cons_zero,show n - (i+1)=k by omega,←hx]
  rfl
theorem xp {f:Nat→Int} {n:Nat}:lz f n n=(List.range n).map f:=by simp [lz]
def CO (b:Bool):Int:=bif b then 1 else 0
def gL (s:List Bool):Str:=kH (s.map CO)
def enc:List (List Bool)→Nat→List (Str×Int)|[],_=>[]|s::L,k=>(gL s,(k:Int))::enc L (k+1)
def eE (l:List (aA 4)) (i:Nat):List Bool:=l.map (fun v=>mem v i)
def qd (l:List (aA 4)):List Int:=(List.range 256).map fun i=>(cls (eE l) i:Int)
theorem jI {i:Nat} (h:i<9223372036854775807):bV .i64 ((i:Int)+1)=some ((i+1:Nat):Int):=by rw [dv (by omega) (by omega)]; rfl
theorem oP {l:List (aA 4)} (hl:∀v∈l,W4 v) (hn:l.length≤1000000) {a b:Nat} (ha:a<256) (hb:b<256):M.d5 l (a:Int) (b:Int)=some (eE l a == eE l b):=by
  unfold M.d5
  have gL:=lU (body:=(fun (c:Int)=>
   bif (decide (c<(l.length:Int))) then
    (bq l c).bind fun e=>
    (M.g3 e (a:Int)).bind fun j=>
    (M.g3 e (b:Int)).bind fun g=>
    bif (!(j == g)) then
     some (.stop (.stop false))
    else
     (bV .i64 (c+1)).bind fun f=>
     some (.next f)
   else
    some (.stop (.next ())):Int→Option (cJ Int (cJ Unit Bool))))
    (fun s=>∃i:Nat,s=(i:Int)∧i≤l.length∧∀(k:Nat) (h:k<l.length),k<i→mem l[k] a=mem l[k] b) (fun s=>l.length - s.toNat)
    (fun r=>(r=.next ()∧eE l a=eE l b)∨(r=.stop false∧eE l a≠eE l b)) ?_ aU 0 ⟨0,rfl,by omega,fun k _ h=>by omega⟩ (jD (by omega))
  · obtain ⟨r,hr,h|h⟩:=gL
    · rw [hr,h.1,h.2]; simp [bk]
    · rw [hr,h.1]
      have:(eE l a == eE l b)=false:=by rw [beq_eq_false_iff_ne]; exact h.2
      rw [this]; rfl
  · rintro s ⟨i,rfl,hi,hP⟩
    by_cases hlt:i<l.length
    · have o:=pZ (hl l[i] (List.getElem_mem hlt)) ha
      have n:=pZ (hl l[i] (List.getElem_mem hlt)) hb
      simp only [dS (show (i:Int)<(l.length:Int) by omega),cond_true,bi hlt,Option.bind_some,o,n]
      by_cases hm:mem l[i] a=mem l[i] b
      · refine .inl ⟨((i+1:Nat):Int),?_,⟨i+1,rfl,by omega,fun k d m=>?_⟩,by omega⟩
        · rw [hm]; simp only [beq_self_eq_true,Bool.not_true,cond_false,jI (show i<_ by omega),Option.bind_some]
        · by_cases hk:k=i
          · subst hk; exact hm
          · exact hP k d (by omega)
      · refine .inr ⟨_,?_,.inr ⟨rfl,fun h=>hm ?_⟩⟩
        · rw [show (mem l[i] a == mem l[i] b)=false by rw [beq_eq_false_iff_ne]; exact hm]; rfl
        · have:=congrArg (fun z=>z[i]?) h
          simpa [eE,hlt] using this
    · refine .inr ⟨_,by simp only [dT (show ¬ (i:Int)<(l.length:Int) by omega),cond_false],.inl ⟨rfl,?_⟩⟩
      unfold eE
      apply List.ext_getElem (by simp)
      intro k d m
      have:k<l.length:=by simpa using d
      simpa using hP k this (by omega)
theorem oD {l:List (aA 4)} (hl:∀v∈l,W4 v) (hn:l.length≤1000000):M.g4 l=some (qd l):=by
  unfold M.g4
  refine aO (dW (n:=256) (by omega)) ?_
  let f:Nat→Int:=fun i=>(cls (eE l) i:Int)
  refine aO (gj (fun i=>(lz f 256 i,((D (eE l) i).length:Int),(i:Int))) 256 (r:=qd l) (fun b hb=>?_) ?_ aU (jD (by omega))) rfl
  · have hlen:(lz f 256 b).length=256:=tw (by omega)
    have t:cK (lz f 256 b) (b:Int) ((D (eE l) b).length:Int)=some ((lz f 256 b).set b ((D (eE l) b).length:Int)):=cY (by omega)
    have hD:=xh (σ:=eE l) b
    have hX:((lz f 256 b).set b ((D (eE l) b).length:Int)).length=256:=by rw [List.length_set,hlen]
    have hinner:=lU (body:=(fun (c:Int)=>
       bif (decide (c<(b:Int))) then
        (M.d5 l (IntKind.u8.wrap c) (IntKind.u8.wrap (b:Int))).bind fun j=>
        bif j then
         (bq ((lz f 256 b).set b ((D (eE l) b).length:Int)) c).bind fun p=>
         (cK ((lz f 256 b).set b ((D (eE l) b).length:Int)) (b:Int) p).bind fun m=>
         some (.stop m)
        else
         (bV .i64 (c+1)).bind fun g=>
         some (.next g)
       else
        some (.stop ((lz f 256 b).set b ((D (eE l) b).length:Int))):Int→Option (cJ Int (List Int))))
      (fun s=>∃a:Nat,s=(a:Int)∧a≤b∧∀k,k<a→eE l k≠eE l b) (fun s=>b - s.toNat) (fun r=>r=lz f 256 (b+1)) ?_ aU 0 ⟨0,rfl,by omega,fun k h=>by omega⟩ (jD (by omega))
    · obtain ⟨r,hr,rfl⟩:=hinner
      have u:(lz f 256 (b+1)).length=256:=tw (by omega)
      have d:bq (lz f 256 (b+1)) (b:Int)=some (f b):=by rw [bi (by omega),tx (by omega)]
      simp only [dS (show (b:Int)<256 by omega),cond_true,t,Option.bind_some]
      refine aO (x:=(lz f 256 (b+1),((D (eE l) (b+1)).length:Int))) (aO hr ?_) ?_
      · simp only [d,Option.bind_some]
        by_cases hm:eE l b∈D (eE l) b
        · obtain ⟨c1,c2⟩:=tW hb hm
          rw [show (f b == ((D (eE l) b).length:Int))=false by rw [beq_eq_false_iff_ne]; simp only [f]; omega,xg hm]
          rfl
        · obtain ⟨c1,c2⟩:=qc hb hm
          rw [show (f b == ((D (eE l) b).length:Int))=true by rw [beq_iff_eq]; simp only [f]; omega,c2]
          simp only [cond_true,jI (show (D (eE l) b).length<_ by omega),Option.bind_some,List.length_append,List.length_singleton]
      · simp only [jI (show b<_ by omega),Option.bind_some]
    · rintro s ⟨a,rfl,ha,hP⟩
      by_cases hlt:a<b
      · have d:=oP hl hn (a:=a) (b:=b) (by omega) hb
        simp only [dS (show (a:Int)<(b:Int) by omega),cond_true,kD (show (0:Int)≤(a:Int) by omega) (by omega),kD (show (0:Int)≤(b:Int) by omega) (by omega),d,Option.bind_some]
        by_cases he:eE l a=eE l b
        · refine .inr ⟨lz f 256 (b+1),?_,rfl⟩
          have q:bq ((lz f 256 b).set b ((D (eE l) b).length:Int)) (a:Int)=some (f a):=by
            rw [bi (by omega),List.getElem_set,if_neg (by omega),tx hlt]
          have e:cK ((lz f 256 b).set b ((D (eE l) b).length:Int)) (b:Int) (f a)=some (((lz f 256 b).set b ((D (eE l) b).length:Int)).set b (f a)):=cY (by omega)
          rw [List.set_set,tv (f:=f) hb (f a) (by simp only [f,cls,he])] at e
          rw [he]
          simp only [beq_self_eq_true,cond_true,q,e,Option.bind_some]
        · refine .inl ⟨((a+1:Nat):Int),?_,⟨a+1,rfl,by omega,fun k hk=>?_⟩,by omega⟩
          · rw [show (eE l a == eE l b)=false by rw [beq_eq_false_iff_ne]; exact he]
            simp only [cond_false,jI (show a<_ by omega),Option.bind_some]
          · by_cases h:k=a
            · subst h; exact he
            · exact hP k (by omega)
      · refine .inr ⟨(lz f 256 b).set b ((D (eE l) b).length:Int),by simp only [dT (show ¬ (a:Int)<(b:Int) by omega),cond_false],?_⟩
        refine tv hb _ ?_
        have hm:eE l b∉D (eE l) b:=by
          intro h
          obtain ⟨k,w,o⟩:=vW.1 h
          exact hP k (by omega) o
        simp only [f,(qc hb hm).1]
  · simp only [dT (show ¬ ((256:Nat):Int)<256 by omega),cond_false]
    rw [xp]; rfl
end Go.Proofs.YtlcdifnmkafcfaaGreat
namespace Go.Proofs.YtlcdifnmkafcfaaGreat
open Go.Lx
def Mk (m:List Bool) (i:Int):Prop:=0≤i∧m[i.toNat]?=some true
theorem Mk.lt {m:List Bool} {i:Int} (h:Mk m i):i<m.length:=by
  have:=(List.getElem?_eq_some_iff.1 h.2).1
  have:=h.1
  omega
theorem sM {m:List Bool} {i:Nat}:Mk m (i:Int)↔m[i]?=some true:=by
  unfold Mk
  rw [Int.toNat_natCast]
  exact ⟨fun h=>h.2,fun h=>⟨by omega,h⟩⟩
theorem sV {m:List Bool} {i:Int} (h0:0≤i) (h1:i<m.length):∃b,bq m i=some b∧(b=true↔Mk m i):=by
  obtain ⟨k,rfl⟩:=Int.eq_ofNat_of_zero_le h0
  have hk:k<m.length:=by omega
  refine ⟨m[k],bi hk,?_⟩
  rw [sM,List.getElem?_eq_getElem hk]
  simp
def rg (m:List Bool) (i:Int):List Bool:=m.set i.toNat true
theorem pV {m:List Bool} {i j:Int} (c:0≤i) (d:i<m.length):Mk (rg m i) j↔j=i∨Mk m j:=by
  unfold Mk rg
  rw [List.getElem?_set]
  constructor
  · rintro ⟨b,a⟩
    by_cases e:j=i
    · exact .inl e
    · rw [if_neg (by omega)] at a
      exact .inr ⟨b,a⟩
  · rintro (rfl|⟨b,a⟩)
    · exact ⟨c,by rw [if_pos rfl,if_pos (by omega)]⟩
    · refine ⟨b,?_⟩
      split
      · rw [if_pos (by omega)]
      · exact a
def cf (m:List Bool):Nat:=m.count false
theorem Az (m:List Bool):cf m≤m.length:=List.count_le_length
theorem yh {m:List Bool} {i:Int} (a:0≤i) (b:i<m.length) (h:¬ Mk m i):cf (rg m i)+1=cf m:=by
  obtain ⟨k,rfl⟩:=Int.eq_ofNat_of_zero_le a
  have hk:k<m.length:=by omega
  rw [sM,List.getElem?_eq_getElem hk] at h
  have hf:m[k]=false:=by
    cases hb:m[k]
    · rfl
    · rw [hb] at h; exact absurd rfl h
  unfold cf rg
  rw [Int.toNat_natCast,List.count_set hk,hf]
  have:0<m.count false:=by
    rw [List.count_pos_iff,←hf]
    exact List.getElem_mem hk
  simp
  omega
def xS (m:List Bool):List Int:=((List.range m.length).filter fun i=>m[i]?.getD false).map fun (i:Nat)=>(i:Int)
theorem uJ {m:List Bool} (hm:m.length≤1000000000) {ρ:Type} {X:List Int→ρ} {body:List Int×Int→Option (cJ (List Int×Int) ρ)}
    (hb:∀a i,body (a,i)=bif decide (i<(m.length:Int)) then ((bq m i).bind fun e=>bif e then (cP 8 a [i]).bind fun l=>some l else some a).bind fun l=>(bV .i64 (i+1)).bind fun t=>some (.next (l,t)) else some (.stop (X a))) :
    bg body aU (([]:List Int),(0:Int))=some (X (xS m)):=by
  refine Is.eq ?_
  refine Is.upto (fun i (st:List Int×Int)=>st.2=(i:Int)∧st.1=((List.range i).filter fun i=>m[i]?.getD false).map fun (i:Nat)=>(i:Int)) m.length (by omega) ⟨rfl,rfl⟩ ?_ ?_
  · rintro i ⟨a,_⟩ hi ⟨rfl,b⟩
    obtain rfl:a=_:=b
    rw [hb]
    refine Is.dt (by omega) ?_
    have hl:(((List.range i).filter fun i=>m[i]?.getD false).map fun (i:Nat)=>(i:Int)).length≤i:=by
      rw [List.length_map]
      exact Nat.le_trans (List.length_filter_le _ _) (by simp)
    refine Is.bnd (P:=fun l=>l=((List.range (i+1)).filter fun i=>m[i]?.getD false).map fun (i:Nat)=>(i:Int)) ?_ fun l hl=>Is.bnq (aX (by omega)) (Is.next ⟨rfl,hl⟩)
    refine Is.bnq (bi hi) ?_
    rw [List.range_succ,List.filter_append,List.map_append]
    refine Is.cnd (fun h=>?_) (fun h=>?_)
    · refine Is.bnq (da (by simp only [List.length_singleton]; omega)) (Is.pure ?_)
      simp [hi,h]
    · refine Is.pure ?_
      simp [hi,h]
  · rintro ⟨a,_⟩ ⟨rfl,b⟩
    obtain rfl:a=_:=b
    rw [hb]
    exact Is.df (by omega) (Is.stop rfl)
theorem xQ {m:List Bool} (hm:m.length≤1000000000):M.j2 m=some (xS m):=by
  unfold M.j2
  exact aO (uJ hm (X:=fun a=>a) (fun _ _=>rfl)) rfl
structure FitN (n:T_NFA):Prop where
  pos:1≤n.States
  most:n.States≤2000
  start:0≤n.Start∧n.Start<n.States
  acc:(n.Accept.length:Int)=n.States
  low:∀x∈n.Accept,-1≤x
  arcs:∀a∈n.Arcs,(0≤a.From∧a.From<n.States)∧(0≤a.To∧a.To<n.States)∧(a.Epsilon=true→a.Set=aA.zero 4)
  len:n.Arcs.length≤1000000000
  sets:∀a∈n.Arcs,W4 a.Set
inductive pw (n:T_NFA) (S:List Int):Int→Prop where
  | base {s:Int}:s∈S→0≤s→s<n.States→pw n S s
  | arc {a:dm}:a∈n.Arcs→a.Epsilon=true→pw n S a.From→pw n S a.To
theorem pw.lt {n:T_NFA} (hn:FitN n) {S:List Int} {s:Int} (h:pw n S s):0≤s∧s<n.States:=by
  cases h with
  | base _ h0 h1=>exact ⟨h0,h1⟩
  | arc ha _ _=>exact (hn.arcs _ ha).2.1
open Classical in
noncomputable def qt (n:T_NFA) (S:List Int):List Int:=((List.range n.States.toNat).filter fun i=>decide (pw n S ((i:Nat):Int))).map fun (i:Nat)=>(i:Int)
open Classical in
theorem xP {n:T_NFA} (hn:FitN n) {S:List Int} {s:Int}:s∈qt n S↔pw n S s:=by
  unfold qt
  rw [List.mem_map]
  constructor
  · rintro ⟨k,hk,rfl⟩
    exact of_decide_eq_true (List.mem_filter.1 hk).2
  · intro h
    have:=h.lt hn
    obtain ⟨k,rfl⟩:=Int.eq_ofNat_of_zero_le this.1
    exact ⟨k,List.mem_filter.2 ⟨List.mem_range.2 (by omega),decide_eq_true h⟩,rfl⟩
theorem yg (n:T_NFA) (S:List Int):(qt n S).length≤n.States.toNat:=by
  unfold qt
  rw [List.length_map]
  exact Nat.le_trans (List.length_filter_le _ _) (by simp)
open Classical in
theorem wa {n:T_NFA} {S:List Int} {m:List Bool} (hl:m.length=n.States.toNat) (h:∀s:Int,Mk m s↔pw n S s):xS m=qt n S:=by
  unfold xS qt
  rw [hl]
  congr 1
  refine List.filter_congr fun i hi=>?_
  rw [List.mem_range] at hi
  have hi':i<m.length:=by omega
  have:=h i
  rw [sM,List.getElem?_eq_getElem hi'] at this
  rw [List.getElem?_eq_getElem hi',Option.getD_some]
  by_cases hr:pw n S i
  · rw [decide_eq_true hr]
    have:=this.2 hr
    simpa using this
  · rw [decide_eq_false hr]
    cases hb:m[i]
    · rfl
    · exact absurd (this.1 (by rw [hb])) hr
theorem lc {k:Nat} {s:Int}:¬ Mk (List.replicate k false) s:=by
  rintro ⟨_,h⟩
  rw [List.getElem?_replicate] at h
  split at h <;> simp at h
def yz (n:T_NFA) (m:List Bool) (s:Int):Prop:=∀a∈n.Arcs,a.Epsilon=true→a.From=s→Mk m a.To
theorem vn {n:T_NFA} {S:List Int} {m:List Bool} (h1:∀s∈S,0≤s→s<n.States→Mk m s) (h2:∀s,Mk m s→yz n m s):∀s,pw n S s→Mk m s:=by
  intro s h
  induction h with
  | base hs h0 h1'=>exact h1 _ hs h0 h1'
  | arc ha he _ ih=>exact h2 _ ih _ ha he rfl
structure Wk (n:T_NFA) (S:List Int) (m:List Bool) (todo:List Int):Prop where
  len:m.length=n.States.toNat
  sound:∀s,Mk m s→pw n S s
  marked:∀s∈todo,Mk m s
  room:todo.length+cf m≤n.States.toNat
section
variable {n:T_NFA} (hn:FitN n) {S:List Int}
include hn
end
end Go.Proofs.YtlcdifnmkafcfaaGreat
namespace Go.Proofs.YtlcdifnmkafcfaaGreat
open Go.Lx
section
variable {n:T_NFA} (hn:FitN n) {S:List Int}
include hn
theorem nQ:mE 1 n.States false=some (List.replicate n.States.toNat false):=by
  have hp:=hn.pos
  have hm:=hn.most
  have:=dW (B:=1) (n:=n.States.toNat) (z:=false) (by omega)
  rw [show ((n.States.toNat:Nat):Int)=n.States by omega] at this
  exact this
theorem fe (hS:S.length≤1000000000):M.d3 n S=some (qt n S):=by
  have hp:=hn.pos
  have hm:=hn.most
  have V:=hn.len
  refine Is.eq ?_
  unfold M.d3
  refine Is.bnq (nQ hn) ?_
  refine Is.bnd (P:=fun m:List Bool=>m.length=n.States.toNat∧(∀s∈S,0≤s→s<n.States→Mk m s)∧(∀s,Mk m s→pw n S s)) ?_ ?_
  · refine Is.upto (fun i (st:List Bool×Int)=>st.2=(i:Int)∧st.1.length=n.States.toNat∧(∀s∈S.take i,0≤s→s<n.States→Mk st.1 s)∧(∀s,Mk st.1 s→pw n S s)) S.length (by omega)
      ⟨rfl,by simp,by simp,fun s hs=>absurd hs lc⟩ ?_ ?_
    · rintro i ⟨m,_⟩ hi ⟨rfl,l,c,k⟩
      simp only at l c k
      refine Is.dt (by omega) ?_
      refine Is.bnd (P:=fun q:List Bool=>q.length=n.States.toNat∧(∀s,Mk m s→Mk q s)∧(0≤S[i]→S[i]<n.States→Mk q S[i])∧(∀s,Mk q s→pw n S s)) ?_ fun q h=>Is.bnq (aX (by omega)) (Is.next ⟨rfl,h.1,fun s hs v h1'=>?_,h.2.2.2⟩)
      · refine Is.bnd (P:=fun b:Bool=>b=true↔0≤S[i]∧S[i]<n.States) ?_ fun b hb=>?_
        · refine Is.bnq (bi hi) (Is.dcd (fun h=>Is.pure ?_) (fun h=>Is.pure ?_))
          · rw [decide_eq_true_eq]; exact ⟨fun c=>⟨h,c⟩,fun c=>c.2⟩
          · exact ⟨fun c=>(by cases c),fun c=>absurd c.1 h⟩
        · refine Is.cnd (fun h=>?_) (fun h=>?_)
          · obtain ⟨e,g⟩:=hb.1 h
            have hmk:∀s,Mk (rg m S[i]) s↔s=S[i]∨Mk m s:=fun s=>pV e (by omega)
            refine Is.bnq (bi hi) (Is.bnq (kK e (by omega)) (Is.pure ⟨by rw [List.length_set]; exact l,fun s hs=>(hmk s).2 (.inr hs),fun _ _=>(hmk _).2 (.inl rfl),fun s hs=>?_⟩))
            rcases (hmk s).1 hs with rfl|hs
            · exact .base (List.getElem_mem hi) e g
            · exact k s hs
          · exact Is.pure ⟨l,fun _ h=>h,fun e g=>(by have:=hb.2 ⟨e,g⟩; rw [h] at this; cases this),k⟩
      · rw [List.take_add_one,List.getElem?_eq_getElem hi,List.mem_append] at hs
        rcases hs with hs|hs
        · exact h.2.1 s (c s hs v h1')
        · obtain rfl:s=S[i]:=by simpa using hs
          exact h.2.2.1 v h1'
    · rintro ⟨m,_⟩ ⟨rfl,l,c,k⟩
      rw [List.take_length] at c
      exact Is.df (by omega) (Is.stop ⟨l,c,k⟩)
  rintro G ⟨N,K,L⟩
  refine Is.bnd (P:=fun m:List Bool=>m.length=n.States.toNat∧∀s,Mk m s↔pw n S s) ?_ fun m y=>Is.bnq (xQ (by rw [y.1]; omega)) (Is.pure (wa y.1 y.2))
  refine Is.while (fun st:List Bool×Bool=>st.1.length=n.States.toNat∧(∀s∈S,0≤s→s<n.States→Mk st.1 s)∧(∀s,Mk st.1 s→pw n S s)∧(st.2=false→∀s,Mk st.1 s→yz n st.1 s)) (fun st=>2*cf st.1+(bif st.2 then 1 else 0)) ⟨N,K,L,fun h=>(by cases h)⟩ ?_ ?_
  · have:=Az G
    show 2*cf G+1≤_
    omega
  rintro ⟨m,b⟩ ⟨l,c,k,J⟩
  simp only at l c k J
  cases b with
  | false=>exact Is.cf rfl (Is.stop ⟨l,fun s=>⟨k s,vn c (J rfl) s⟩⟩)
  | true=>
    refine Is.ct rfl ?_
    refine Is.mono (P:=SP (fun st:List Bool×Bool=>st.1.length=n.States.toNat∧(∀s,Mk m s→Mk st.1 s)∧(∀s,Mk st.1 s→pw n S s)∧(st.2=true→cf st.1<cf m)∧(st.2=false→st.1=m∧∀s,Mk st.1 s→yz n st.1 s)) (fun _=>False)) ?_ ?_
    · refine Is.upto (Q:=fun r:cJ (List Bool×Bool) (List Bool)=>SP (fun st:List Bool×Bool=>st.1.length=n.States.toNat∧(∀s,Mk m s→Mk st.1 s)∧(∀s,Mk st.1 s→pw n S s)∧(st.2=true→cf st.1<cf m)∧(st.2=false→st.1=m∧∀s,Mk st.1 s→yz n st.1 s)) (fun _=>False) r)
        (fun i (st:List Bool×Bool×Int)=>st.2.2=(i:Int)∧st.1.length=n.States.toNat∧(∀s,Mk m s→Mk st.1 s)∧(∀s,Mk st.1 s→pw n S s)∧(st.2.1=true→cf st.1<cf m)∧(st.2.1=false→st.1=m∧∀a∈n.Arcs.take i,a.Epsilon=true→Mk m a.From→Mk m a.To)) n.Arcs.length (by omega)
        ⟨rfl,l,fun _ h=>h,k,fun h=>(by cases h),fun _=>⟨rfl,by simp⟩⟩ ?_ ?_
      · rintro i ⟨d,t,_⟩ hi ⟨rfl,g1,p,j,o,f⟩
        simp only at g1 p j o f
        have hai:=List.getElem_mem hi
        have har:=hn.arcs _ hai
        have hmonoc:cf d≤cf m:=by
          cases t with
          | true=>exact Nat.le_of_lt (o rfl)
          | false=>rw [(f rfl).1]; exact Nat.le_refl _
        refine Is.dt (by omega) ?_
        refine Is.bnd (P:=fun st:List Bool×Bool=>st.1.length=n.States.toNat∧(∀s,Mk d s→Mk st.1 s)∧(∀s,Mk st.1 s→pw n S s)∧(st.2=true→cf st.1<cf m)∧(st.2=false→t=false∧st.1=d∧(n.Arcs[i].Epsilon=true→Mk d n.Arcs[i].From→Mk d n.Arcs[i].To))) ?_ ?_
        · refine Is.bnq (bi hi) ?_
          obtain ⟨bf,ef,hf⟩:=sV (m:=d) har.1.1 (by omega)
          obtain ⟨bt,et,ht⟩:=sV (m:=d) har.2.1.1 (by omega)
          refine Is.bnd (P:=fun b:Bool=>b=true↔n.Arcs[i].Epsilon=true∧Mk d n.Arcs[i].From∧¬ Mk d n.Arcs[i].To) ?_ fun b hb=>?_
          · refine Is.cnd (fun h=>Is.bnq ef (Is.cnd (fun c=>Is.bnq et (Is.pure ?_)) (fun c=>Is.pure ?_))) (fun h=>Is.pure ?_)
            · rw [←ht,←hf,c]
              cases bt <;> simp [h]
            · rw [←hf,c]; simp
            · rw [h]; simp
          · refine Is.cnd (fun h=>?_) (fun h=>?_)
            · obtain ⟨e,g,w⟩:=hb.1 h
              have hmk:∀s,Mk (rg d n.Arcs[i].To) s↔s=n.Arcs[i].To∨Mk d s:=fun s=>pV har.2.1.1 (by omega)
              have hc:=yh har.2.1.1 (show n.Arcs[i].To<d.length by omega) w
              refine Is.bnq (kK har.2.1.1 (by omega)) (Is.pure ⟨by rw [List.length_set]; exact g1,fun s hs=>(hmk s).2 (.inr hs),fun s hs=>?_,fun _=>?_,fun h=>(by cases h)⟩)
              · rcases (hmk s).1 hs with rfl|hs
                · exact .arc hai e (j _ g)
                · exact j s hs
              · show cf (rg d n.Arcs[i].To)<cf m
                omega
            · refine Is.pure ⟨g1,fun _ h=>h,j,o,fun U=>⟨U,rfl,fun e g=>Classical.byContradiction fun w=>?_⟩⟩
              have:=hb.2 ⟨e,g,w⟩
              rw [h] at this; cases this
        · rintro ⟨q,W⟩ ⟨F,D,B,A,z⟩
          simp only at F D B A z
          refine Is.bnq (aX (by omega)) (Is.next ⟨rfl,F,fun s hs=>D s (p s hs),B,A,fun T=>?_⟩)
          obtain ⟨u,x,I⟩:=z T
          obtain ⟨H,R⟩:=f u
          subst x
          refine ⟨H,fun a hat e g=>?_⟩
          rw [List.take_add_one,List.getElem?_eq_getElem hi,List.mem_append] at hat
          rcases hat with hat|hat
          · exact R a hat e g
          · obtain rfl:a=n.Arcs[i]:=by simpa using hat
            rw [H] at I
            exact I e g
      · rintro ⟨d,t,_⟩ ⟨rfl,g1,p,j,o,f⟩
        simp only at g1 p j o f
        rw [List.take_length] at f
        refine Is.df (by omega) (Is.stop ⟨g1,p,j,o,fun hb=>?_⟩)
        obtain ⟨u,x⟩:=f hb
        exact ⟨u,fun s hs a ha he hf=>by rw [u] at hs ⊢; exact x a ha he (by rw [hf]; exact hs)⟩
    · rintro (⟨d,t⟩|r) hr
      · obtain ⟨g1,p,j,o,f⟩:=hr
        simp only at g1 p j o f
        refine ⟨⟨g1,fun s hs v h1'=>p _ (c s hs v h1'),j,fun hb=>(f hb).2⟩,?_⟩
        cases t with
        | true=>have:=o rfl; show 2*cf d+1<2*cf m+1; omega
        | false=>rw [(f rfl).1]; show 2*cf m+0<2*cf m+1; omega
      · exact hr.elim
omit hn in
theorem sQ {N:Nat} {l:List Int} (hl:∀s∈l,0≤s∧s<N) (hlen:l.length≤1000000000) {body:List Bool×Int→Option (cJ (List Bool×Int) (List Bool))}
    (hb:∀m i,body (m,i)=bif decide (i<(l.length:Int)) then (bq l i).bind fun e=>(cK m e true).bind fun c=>(bV .i64 (i+1)).bind fun t=>some (.next (c,t)) else some (.stop m)) :
    Is (bg body aU (List.replicate N false,(0:Int))) fun m=>m.length=N∧∀s,Mk m s↔s∈l:=by
  refine Is.upto (fun i (st:List Bool×Int)=>st.2=(i:Int)∧st.1.length=N∧∀s,Mk st.1 s↔s∈l.take i) l.length (by omega) ⟨rfl,by simp,fun s=>⟨fun h=>absurd h lc,fun h=>by simp at h⟩⟩ ?_ ?_
  · rintro i ⟨m,_⟩ hi ⟨rfl,b,a⟩
    simp only at b a
    have he:=hl l[i] (List.getElem_mem hi)
    rw [hb]
    refine Is.dt (by omega) (Is.bnq (bi hi) (Is.bnq (kK he.1 (by omega)) (Is.bnq (aX (by omega)) (Is.next ⟨rfl,by rw [List.length_set]; exact b,fun s=>?_⟩))))
    rw [show (m.set l[i].toNat true)=rg m l[i] from rfl,pV he.1 (by omega),a,List.take_add_one,List.getElem?_eq_getElem hi,List.mem_append]
    simp only [Option.toList_some,List.mem_singleton]
    exact Or.comm
  · rintro ⟨m,_⟩ ⟨rfl,b,a⟩
    rw [hb]
    rw [List.take_length] at a
    exact Is.df (by omega) (Is.stop ⟨b,a⟩)
open Classical in
noncomputable def Bw (n:T_NFA) (L:List Int) (b:Nat):List Int:=(n.Arcs.filter fun a=>!a.Epsilon && (decide (a.From∈L) && mem a.Set b)).map (·.To)
noncomputable def Bx (n:T_NFA) (S:List Int) (b:Nat):List Int:=qt n (Bw n (qt n S) b)
omit hn in
theorem xo (n:T_NFA) (L:List Int) (b:Nat):(Bw n L b).length≤n.Arcs.length:=by
  unfold Bw
  rw [List.length_map]
  exact List.length_filter_le _ _
open Classical in
theorem vk {L:List Int} {b:Nat} {m:List Bool} (hm:∀s,Mk m s↔s∈L) (hml:m.length=n.States.toNat) {H:aA 4→Option Bool} (hH:∀v,W4 v→H v=some (mem v b)) {body:List Int×Int→Option (cJ (List Int×Int) (List Int))}
    (hb:∀a i,body (a,i)=bif decide (i<(n.Arcs.length:Int)) then ((bq n.Arcs i).bind fun e=>(bif (!e.Epsilon) then (bq m e.From).bind fun q=>bif q then (H e.Set).bind fun r=>some r else some false else some false).bind fun r=>bif r then (cP 8 a [e.To]).bind fun l=>some l else some a).bind fun l=>(bV .i64 (i+1)).bind fun t=>some (.next (l,t)) else some (.stop a)) :
    bg body aU (([]:List Int),(0:Int))=some (Bw n L b):=by
  have hp:=hn.pos
  have hlen:=hn.len
  refine Is.eq ?_
  refine Is.upto (fun i (st:List Int×Int)=>st.2=(i:Int)∧st.1=((n.Arcs.take i).filter fun a=>!a.Epsilon && (decide (a.From∈L) && mem a.Set b)).map (·.To)) n.Arcs.length (by omega) ⟨rfl,rfl⟩ ?_ ?_
  · rintro i ⟨a,_⟩ hi ⟨rfl,c⟩
    obtain rfl:a=_:=c
    have hai:=List.getElem_mem hi
    have har:=hn.arcs _ hai
    rw [hb]
    refine Is.dt (by omega) ?_
    have hl:(((n.Arcs.take i).filter fun a=>!a.Epsilon && (decide (a.From∈L) && mem a.Set b)).map (·.To)).length≤i:=by
      rw [List.length_map]
      refine Nat.le_trans (List.length_filter_le _ _) ?_
      rw [List.length_take]; omega
    refine Is.bnd (P:=fun l=>l=((n.Arcs.take (i+1)).filter fun a=>!a.Epsilon && (decide (a.From∈L) && mem a.Set b)).map (·.To)) ?_ fun l hl=>Is.bnq (aX (by omega)) (Is.next ⟨rfl,hl⟩)
    refine Is.bnq (bi hi) ?_
    rw [List.take_add_one,List.getElem?_eq_getElem hi,List.filter_append,List.map_append]
    refine Is.bnq (x:=!n.Arcs[i].Epsilon && (decide (n.Arcs[i].From∈L) && mem n.Arcs[i].Set b)) ?_ ?_
    · obtain ⟨q,eq,hq⟩:=sV (m:=m) har.1.1 (by omega)
      have d:q=decide (n.Arcs[i].From∈L):=by
        rw [Bool.eq_iff_iff,hq,hm,decide_eq_true_eq]
      subst d
      cases n.Arcs[i].Epsilon
      · refine aO eq ?_
        cases decide (n.Arcs[i].From∈L)
        · rfl
        · exact aO (hH _ (hn.sets _ hai)) rfl
      · rfl
    refine Is.cnd (fun h=>?_) (fun h=>?_)
    · refine Is.bnq (da (by simp only [List.length_singleton]; omega)) (Is.pure ?_)
      simp only [Option.toList_some,List.filter_cons,h,if_true,List.filter_nil,List.map_cons,List.map_nil]
    · refine Is.pure ?_
      simp only [Option.toList_some,List.filter_cons,h,Bool.false_eq_true,if_false,List.filter_nil,List.map_nil,List.append_nil]
  · rintro ⟨a,_⟩ ⟨rfl,c⟩
    obtain rfl:a=_:=c
    rw [hb]
    refine Is.df (by omega) (Is.stop ?_)
    rw [List.take_length]
    rfl
theorem ww {S:List Int}:∀s∈qt n S,0≤s∧s<(n.States.toNat:Int):=by
  intro s hs
  have:=((xP hn).1 hs).lt hn
  omega
theorem po {S:List Int}:(qt n S).length≤2000:=by
  have:=yg n S
  have:=hn.most
  omega
theorem sq (hS:S.length≤1000000000) {b:Nat} (hb:b<256):M.j3 n S (b:Int)=some (Bx n S b):=by
  have hlen:=hn.len
  refine Is.eq ?_
  unfold M.j3
  refine Is.bnq (nQ hn) (Is.bnq (fe hn hS) ?_)
  have hcs:=po hn (S:=S)
  refine Is.bnd (P:=fun m:List Bool=>m.length=n.States.toNat∧∀s,Mk m s↔s∈qt n S) (sQ (ww hn) (by omega) (fun _ _=>rfl)) ?_
  rintro m ⟨c,a⟩
  refine Is.bnq (vk hn (b:=b) a c (H:=fun v=>M.g3 v (b:Int)) (fun v hv=>pZ hv hb) (fun _ _=>rfl)) ?_
  have:=xo n (qt n S) b
  exact Is.bnq (fe hn (by omega)) (Is.pure rfl)
end
def pt (acc:List Int) (o:Int) (s:Int):Int:=bif decide (0≤acc.getD s.toNat 0) && (decide (o<0) || decide (acc.getD s.toNat 0<o)) then acc.getD s.toNat 0 else o
theorem wF (e o:Int):(bif decide (0≤e) then bif decide (o<0) then some true else some (decide (e<o)) else some false).bind (fun x=>bif x then some e else some o)=some (bif decide (0≤e) && (decide (o<0) || decide (e<o)) then e else o):=by
  cases decide (0≤e) <;> cases decide (o<0) <;> cases decide (e<o) <;> rfl
def zJ (acc:List Int) (l:List Int):Int:=l.foldl (pt acc) (-1)
theorem uY {acc l:List Int} (hl:∀s∈l,0≤s∧s<(acc.length:Int)) (hlen:l.length≤1000000000) {body:Int×Int→Option (cJ (Int×Int) Int)}
    (hb:∀o i,body (o,i)=bif decide (i<(l.length:Int)) then ((bq l i).bind fun e=>(bq acc e).bind fun b=>(bif decide (0≤b) then bif decide (o<0) then some true else some (decide (b<o)) else some false).bind fun x=>bif x then some b else some o).bind fun c=>(bV .i64 (i+1)).bind fun t=>some (.next (c,t)) else some (.stop o)) :
    bg body aU (((-1):Int),(0:Int))=some (zJ acc l):=by
  refine Is.eq ?_
  refine Is.upto (fun i (st:Int×Int)=>st.2=(i:Int)∧st.1=(l.take i).foldl (pt acc) (-1)) l.length (by omega) ⟨rfl,rfl⟩ ?_ ?_
  · rintro i ⟨o,_⟩ hi ⟨rfl,a⟩
    obtain rfl:o=_:=a
    have he:=hl l[i] (List.getElem_mem hi)
    rw [hb]
    refine Is.dt (by omega) (Is.bnq (x:=pt acc ((l.take i).foldl (pt acc) (-1)) l[i]) ?_ (Is.bnq (aX (by omega)) (Is.next ⟨rfl,?_⟩)))
    · refine aO (bi hi) (aO (nV (d:=0) he.1 he.2) ?_)
      exact wF _ _
    · rw [List.take_add_one,List.getElem?_eq_getElem hi,List.foldl_append]
      rfl
  · rintro ⟨o,_⟩ ⟨rfl,a⟩
    obtain rfl:o=_:=a
    rw [hb]
    refine Is.df (by omega) (Is.stop ?_)
    rw [List.take_length]
    rfl
theorem vZ {n:T_NFA} {l:List Int} (hl:∀s∈l,0≤s∧s<(n.Accept.length:Int)) (hlen:l.length≤1000000000):M.h8 n l=some (zJ n.Accept l):=by
  unfold M.h8
  exact aO (uY hl hlen (fun _ _=>rfl)) rfl
section
variable {n:T_NFA} (hn:FitN n)
include hn
theorem rN (l:List Int) (h:∃T,l=qt n T):(∀s∈l,0≤s∧s<(n.Accept.length:Int))∧l.length≤2000:=by
  obtain ⟨T,rfl⟩:=h
  have h1:=hn.acc
  have h2:=hn.pos
  exact ⟨fun s hs=>by have:=ww hn s hs; omega,po hn⟩
end
end Go.Proofs.YtlcdifnmkafcfaaGreat
namespace Go.Proofs.YtlcdifnmkafcfaaGreat
open Go.Lx
def cols (d:T_DFA):Nat:=(d.Next.getD 0 []).length
structure Ok (d:T_DFA):Prop where
  cls:d.Class.length=256
  pos:1≤d.Next.length
  max:d.Next.length≤500
  acc:d.Accept.length=d.Next.length
  col:1≤cols d
  inc:∀c∈d.Class,0≤c∧c<(cols d:Int)
  row:∀r∈d.Next,r.length=cols d∧∀t∈r,-1≤t∧t<(d.Next.length:Int)
  accs:∀a∈d.Accept,-1≤a
end Go.Proofs.YtlcdifnmkafcfaaGreat
namespace Go.Proofs.YtlcdifnmkafcfaaGreat
open Go.Lx
structure VN (n:T_NFA):Prop where
  pos:1≤n.States
  most:n.States≤2000
  start:0≤n.Start∧n.Start<n.States
  acc:(n.Accept.length:Int)=n.States
  low:∀x∈n.Accept,-1≤x
  arcs:∀a∈n.Arcs,(0≤a.From∧a.From<n.States)∧(0≤a.To∧a.To<n.States)∧(a.Epsilon=true→a.Set=aA.zero 4)
def Aq (n:T_NFA):Prop:=1≤n.States∧n.States≤2000∧(0≤n.Start∧n.Start<n.States)∧(n.Accept.length:Int)=n.States
theorem VN.fit {n:T_NFA} (h:VN n) (hl:n.Arcs.length≤1000000000) (hs:∀a∈n.Arcs,W4 a.Set):FitN n:=⟨h.pos,h.most,h.start,h.acc,h.low,h.arcs,hl,hs⟩
theorem VN.pre {n:T_NFA} (h:VN n):Aq n:=⟨h.pos,h.most,h.start,h.acc⟩
def wJ (n:T_NFA) (a:dm):Prop:=(0≤a.From∧a.From<n.States)∧(0≤a.To∧a.To<n.States)∧(a.Epsilon=true→a.Set=aA.zero 4)
theorem iv {α:Type} {l:List α} {i:Nat} (hi:i<l.length) {x:α}:x∈l.take (i+1)↔x∈l.take i∨x=l[i]:=by
  rw [List.take_add_one,List.getElem?_eq_getElem hi,List.mem_append]
  simp
theorem pF {n:T_NFA} (hl:n.Arcs.length≤9223372036854775807) (ha:n.Accept.length≤9223372036854775807):Is (M.g9 n) (fun b=>b=true↔VN n):=by
  unfold M.g9
  refine Is.bnd (P:=fun b:Bool=>b=false↔Aq n) ?_ fun b hb=>?_
  · refine Is.dcd (fun h=>Is.pure ⟨fun e=>(by cases e),fun e=>by have:=e.1; omega⟩) (fun g=>?_)
    refine Is.dcd (fun h=>Is.pure ⟨fun e=>(by cases e),fun e=>by have:=e.2.1; omega⟩) (fun f=>?_)
    refine Is.dcd (fun h=>Is.pure ⟨fun e=>(by cases e),fun e=>by have:=e.2.2.1.1; omega⟩) (fun d=>?_)
    refine Is.dcd (fun h=>Is.pure ⟨fun e=>(by cases e),fun e=>by have:=e.2.2.1.2; omega⟩) (fun c=>Is.pure ?_)
    exact ⟨fun e=>⟨by omega,by omega,⟨by omega,by omega⟩,eO e⟩,fun e=>mi e.2.2.2⟩
  refine Is.cnd (fun h=>Is.pure ⟨fun e=>(by cases e),fun e=>by have:=hb.2 e.pre; rw [h] at this; cases this⟩) (fun h=>?_)
  have hpre:=hb.1 h
  refine Is.bs (P:=fun _:Unit=>∀x∈n.Accept,-1≤x) ?_ fun _ hacc=>Is.bs (P:=fun _:Unit=>∀a∈n.Arcs,wJ n a) ?_ fun _ harc=>Is.pure ⟨fun _=>⟨hpre.1,hpre.2.1,hpre.2.2.1,hpre.2.2.2,hacc,harc⟩,fun _=>rfl⟩
  · refine Is.upto (fun i (st:Int)=>st=(i:Int)∧∀x∈n.Accept.take i,-1≤x) n.Accept.length ha ⟨rfl,by simp⟩ ?_ ?_
    · rintro i _ hi ⟨rfl,hJ⟩
      refine Is.dt (by omega) (Is.bnq (bi hi) (Is.dcd (fun h=>Is.stop ⟨fun e=>(by cases e),fun e=>?_⟩) (fun h=>Is.bnq (aX (by omega)) (Is.next ⟨rfl,fun x hx=>?_⟩))))
      · have:=e.low _ (List.getElem_mem hi); omega
      · rcases (iv hi).1 hx with hx|rfl
        · exact hJ x hx
        · omega
    · rintro _ ⟨rfl,hJ⟩
      rw [List.take_length] at hJ
      exact Is.df (by omega) (Is.stop hJ)
  · refine Is.upto (fun i (st:Int)=>st=(i:Int)∧∀a∈n.Arcs.take i,wJ n a) n.Arcs.length hl ⟨rfl,by simp⟩ ?_ ?_
    · rintro i _ hi ⟨rfl,hJ⟩
      refine Is.dt (by omega) (Is.bnq (bi hi) (Is.bnd (P:=fun b:Bool=>b=false↔wJ n n.Arcs[i]) ?_ fun b hb=>Is.cnd (fun h=>Is.stop ⟨fun e=>(by cases e),fun e=>?_⟩) (fun h=>Is.bnq (aX (by omega)) (Is.next ⟨rfl,fun x hx=>?_⟩))))
      · refine Is.dcd (fun h=>Is.pure ⟨fun e=>(by cases e),fun e=>by have:=e.1.1; omega⟩) (fun g=>?_)
        refine Is.dcd (fun h=>Is.pure ⟨fun e=>(by cases e),fun e=>by have:=e.1.2; omega⟩) (fun f=>?_)
        refine Is.dcd (fun h=>Is.pure ⟨fun e=>(by cases e),fun e=>by have:=e.2.1.1; omega⟩) (fun d=>?_)
        refine Is.dcd (fun h=>Is.pure ⟨fun e=>(by cases e),fun e=>by have:=e.2.1.2; omega⟩) (fun c=>?_)
        refine Is.cnd (fun he=>Is.pure ?_) (fun he=>Is.pure ⟨fun _=>⟨by omega,by omega,fun e=>by rw [he] at e; cases e⟩,fun _=>rfl⟩)
        rw [bne_eq_false_iff_eq]
        exact ⟨fun e=>⟨by omega,by omega,fun _=>e⟩,fun e=>e.2.2 he⟩
      · have:=hb.2 (e.arcs _ (List.getElem_mem hi)); rw [h] at this; cases this
      · rcases (iv hi).1 hx with hx|rfl
        · exact hJ x hx
        · exact hb.1 h
    · rintro _ ⟨rfl,hJ⟩
      rw [List.take_length] at hJ
      exact Is.df (by omega) (Is.stop hJ)
end Go.Proofs.YtlcdifnmkafcfaaGreat
namespace Go.Proofs.YtlcdifnmkafcfaaGreat
open Go.Lx
theorem qZ {α:Type} [DecidableEq α]:∀(l m:List α),l.Nodup→(∀x∈l,x∈m)→l.length≤m.length
  | [],_,_,_=>Nat.zero_le _
  | x::l,m,hn,hs=>by
    have hx:=hs x (by simp)
    have a:=List.nodup_cons.1 hn
    have:=qZ l (m.erase x) a.2 fun y hy=>(List.mem_erase_of_ne (fun e=>a.1 (by rw [←e]; exact hy))).2 (hs y (by simp [hy]))
    rw [List.length_erase_of_mem hx] at this
    have:=List.length_pos_of_mem hx
    simp only [List.length_cons]; omega
inductive RS (n:T_NFA):List Int→Prop where
  | start:RS n (qt n [n.Start])
  | step {S:List Int} {b:Nat}:RS n S→b<256→Bx n S b≠[]→RS n (Bx n S b)
def gN (σ:Nat→List Bool) (i:Nat) (fb:List Int):Prop:=fb.length=(D σ i).length∧∀c,c<fb.length→∃b:Nat,b<i∧fb[c]?=some (b:Int)∧(D σ i)[c]?=some (σ b)
theorem rr {l:List (aA 4)} {N:Int} (hN:N=256) {body:List Int×Int→Option (cJ (List Int×Int) (List Int))}
    (hb:∀a i,body (a,i)=bif decide (i<N) then ((bq (qd l) i).bind fun e=>bif (e == (a.length:Int)) then (cP 1 a [(IntKind.u8.wrap i)]).bind fun l=>some l else some a).bind fun l=>(bV .i64 (i+1)).bind fun t=>some (.next (l,t)) else some (.stop a)) :
    Is (bg body aU (([]:List Int),(0:Int))) (gN (eE l) 256):=by
  subst hN
  refine Is.upto (fun i (st:List Int×Int)=>st.2=(i:Int)∧gN (eE l) i st.1) 256 (by omega) ⟨rfl,rfl,fun c hc=>by simp at hc⟩ ?_ ?_
  · rintro i ⟨a,_⟩ hi ⟨rfl,d⟩
    simp only at d
    rw [hb]
    have hlen:(qd l).length=256:=by simp [qd]
    have hD:=xh (σ:=eE l) i
    refine Is.dt (by omega) (Is.bnd (P:=gN (eE l) (i+1)) ?_ fun k j=>Is.bnq (aX (by omega)) (Is.next ⟨rfl,j⟩))
    refine Is.bnq (x:=(cls (eE l) i:Int)) (by rw [bi (by omega)]; simp [qd]) ?_
    by_cases hm:eE l i∈D (eE l) i
    · have hc:=(tW hi hm).2
      refine Is.cf (bL (by have:=d.1; omega)) (Is.pure ⟨by rw [xg hm]; exact d.1,fun c hc=>?_⟩)
      obtain ⟨b,g1,h,g⟩:=d.2 c hc
      exact ⟨b,by omega,h,by rw [xg hm]; exact g⟩
    · obtain ⟨hc,f⟩:=qc hi hm
      have ha:a.length=(D (eE l) i).length:=d.1
      refine Is.ct (iI (by omega)) (Is.bnq (da (by simp only [List.length_singleton]; omega)) (Is.pure ⟨by rw [f]; simp only [List.length_append,List.length_singleton]; omega,fun c hc=>?_⟩))
      rw [qv (n:=i) (by omega)]
      simp only [List.length_append,List.length_singleton] at hc
      rcases Nat.lt_or_eq_of_le (Nat.le_of_lt_succ hc) with hlt|heq
      · obtain ⟨b,g1,h,g⟩:=d.2 c hlt
        exact ⟨b,by omega,by rw [List.getElem?_append_left hlt]; exact h,by rw [f,List.getElem?_append_left (by omega)]; exact g⟩
      · subst heq
        exact ⟨i,by omega,by simp,by rw [f,ha]; simp⟩
  · rintro ⟨a,_⟩ ⟨rfl,d⟩
    rw [hb]
    exact Is.df (by omega) (Is.stop d)
theorem gN.at {l:List (aA 4)} {fb:List Int} (h:gN (eE l) 256 fb) {b:Nat} (hb:b<256):∃b':Nat,b'<256∧cls (eE l) b<fb.length∧fb[cls (eE l) b]?=some (b':Int)∧eE l b'=eE l b:=by
  have hm:eE l b∈D (eE l) 256:=vW.2 ⟨b,hb,rfl⟩
  have hlt:(D (eE l) 256).idxOf (eE l b)<(D (eE l) 256).length:=List.idxOf_lt_length_of_mem hm
  have hc:cls (eE l) b<fb.length:=by rw [h.1]; exact hlt
  obtain ⟨b',g1,c,a⟩:=h.2 _ hc
  refine ⟨b',g1,hc,c,?_⟩
  unfold cls at a
  rw [List.getElem?_eq_getElem hlt,List.getElem_idxOf hlt] at a
  exact (Option.some.inj a).symm
theorem gN.byte {l:List (aA 4)} {fb:List Int} (h:gN (eE l) 256 fb) {c:Nat} (hc:c<fb.length):∃b:Nat,b<256∧bq fb (c:Int)=some (b:Int):=by
  obtain ⟨b,g1,g2,_⟩:=h.2 c hc
  refine ⟨b,g1,?_⟩
  rw [List.getElem?_eq_getElem hc] at g2
  rw [bi hc,Option.some.inj g2]
theorem gN.len {l:List (aA 4)} {fb:List Int} (h:gN (eE l) 256 fb):1≤fb.length∧fb.length≤256:=by
  have h1:=h.at (b:=0) (by omega)
  have h2:=xh (σ:=eE l) 256
  obtain ⟨_,_,h3,_⟩:=h1
  have:=h.1
  omega
theorem yL {a b:List Int} (h:a.length≤1000000000):M.j4 a b=some (decide (a=b)):=by
  refine Is.eq ?_
  unfold M.j4
  by_cases hl:a.length=b.length
  · refine Is.cf (mi (by omega)) ?_
    refine Is.bs (P:=fun _:Unit=>a=b) (Q:=fun r=>r=decide (a=b)) ?_ fun _ h=>Is.pure (decide_eq_true h).symm
    refine Is.upto (fun i (st:Int)=>st=(i:Int)∧a.take i=b.take i) a.length (by omega) ⟨rfl,rfl⟩ ?_ ?_
    · rintro i _ hi ⟨rfl,hJ⟩
      refine Is.dt (by omega) (Is.bnq (bi hi) (Is.bnq (bi (by omega)) (Is.cnd (fun hc=>Is.stop ?_) (fun hc=>Is.bnq (aX (by omega)) (Is.next ⟨rfl,?_⟩)))))
      · refine (decide_eq_false fun e=>?_).symm
        subst e
        exact fN hc rfl
      · rw [List.take_add_one,List.take_add_one,hJ,List.getElem?_eq_getElem hi,List.getElem?_eq_getElem (by omega),eO hc]
    · rintro _ ⟨rfl,hJ⟩
      rw [List.take_length,hl,List.take_length] at hJ
      exact Is.df (by omega) (Is.stop hJ)
  · exact Is.ct (go (by omega)) (Is.pure (decide_eq_false fun e=>hl (by rw [e])).symm)
theorem xW {l:List (List Int)} {S:List Int} (hl:l.length≤1000000000) (hs:∀T∈l,T.length≤1000000000) :
    Is (M.j0 l S) fun k=>(k<0∧S∉l)∨∃j:Nat,k=(j:Int)∧l[j]?=some S:=by
  unfold M.j0
  refine Is.bs (P:=fun _:Unit=>S∉l) (Q:=fun k=>(k<0∧S∉l)∨∃j:Nat,k=(j:Int)∧l[j]?=some S) ?_ fun _ h=>Is.pure (.inl ⟨by omega,h⟩)
  refine Is.upto (fun i (st:Int)=>st=(i:Int)∧S∉l.take i) l.length (by omega) ⟨rfl,by simp⟩ ?_ ?_
  · rintro i _ hi ⟨rfl,hJ⟩
    refine Is.dt (by omega) (Is.bnq (bi hi) (Is.bnq (yL (hs _ (List.getElem_mem hi))) (Is.cnd (fun hc=>Is.stop ?_) (fun hc=>Is.bnq (aX (by omega)) (Is.next ⟨rfl,fun hm=>?_⟩)))))
    · exact .inr ⟨i,rfl,by rw [List.getElem?_eq_getElem hi,of_decide_eq_true hc]⟩
    · rcases (iv hi).1 hm with hm|rfl
      · exact hJ hm
      · exact of_decide_eq_false hc rfl
  · rintro _ ⟨rfl,hJ⟩
    rw [List.take_length] at hJ
    exact Is.df (by omega) (Is.stop hJ)
structure zL (n:T_NFA) (sets:List (List Int)):Prop where
  nodup:sets.Nodup
  rs:∀S∈sets,RS n S
  start:qt n [n.Start]∈sets
theorem zL.add {n:T_NFA} {sets:List (List Int)} (h:zL n sets) {S:List Int} (hS:S∉sets) (hr:RS n S):zL n (sets++[S]):=
  ⟨List.nodup_append.2 ⟨h.nodup,by simp,fun x hx y hy e=>by rw [List.mem_singleton] at hy; subst hy; subst e; exact hS hx⟩,fun T hT=>by
    rcases List.mem_append.1 hT with hT|hT
    · exact h.rs T hT
    · rw [List.mem_singleton.1 hT]; exact hr,List.mem_append_left _ h.start⟩
section
variable {n:T_NFA} (hn:FitN n) (hlen:n.Arcs.length≤1000000)
include hn
end
end Go.Proofs.YtlcdifnmkafcfaaGreat
set_option linter.unusedVariables false
namespace Go.Proofs.YtlcdifnmkafcfaaGreat
open Go.Lx
section
variable {α β:Type} {Q:β→Prop}
theorem Is.idx {l:List α} {i:Int} {f:α→Option β} (h0:0≤i) (h1:i<l.length) (k:∀x,x∈l→l[i.toNat]?=some x→Is (f x) Q):Is ((bq l i).bind f) Q:=by
  obtain ⟨n,rfl⟩:=Int.eq_ofNat_of_zero_le h0
  have hn:n<l.length:=by omega
  refine Is.bnq (bi hn) (k _ (List.getElem_mem hn) ?_)
  show l[((n:Nat):Int).toNat]?=_
  rw [Int.toNat_natCast,List.getElem?_eq_getElem hn]
theorem Is.setv {l:List α} {i:Int} {x:α} {f:List α→Option β} (h0:0≤i) (h1:i<l.length) (k:Is (f (l.set i.toNat x)) Q):Is ((cK l i x).bind f) Q:=Is.bnq (kK h0 h1) k
theorem Is.app1 {B:Nat} {l:List α} {x:α} {f:List α→Option β} (h:(l.length+1)*B≤140737488355328) (k:Is (f (l++[x])) Q):Is ((cP B l [x]).bind f) Q:=Is.bnq (da (by simpa using h)) k
theorem Is.add1 {i:Nat} {f:Int→Option β} (h:i<9223372036854775807) (k:Is (f ((i+1:Nat):Int)) Q):Is ((bV .i64 ((i:Int)+1)).bind f) Q:=Is.bnq (aX h) k
end
theorem nO {α:Type} {l:List α} {i:Nat} {x y:α} (h:y∈l.set i x):y∈l∨y=x:=List.mem_or_eq_of_mem_set h
def ve:List Bool→Nat
  | []=>0
  | b::r=>(if b then 0 else 1)+ve r
theorem wy:∀r:List Bool,ve r≤r.length
  | []=>Nat.le_refl _
  | b::r=>by
    have:=wy r
    simp only [ve,List.length_cons]; split <;> omega
theorem qg:∀(r:List Bool) (k:Nat),ve (r.set k true)≤ve r∧(r[k]?=some false→ve (r.set k true)+1=ve r)
  | [],k=>by simp
  | b::r,0=>by cases b <;> simp [ve]; omega
  | b::r,k+1=>by
    have:=qg r k
    simp only [ve,List.set_cons_succ,List.getElem?_cons_succ]
    exact ⟨by omega,fun h=>by have:=this.2 h; omega⟩
def dZ (t:List (List Bool)):Nat:=(t.map ve).sum
theorem oa:∀(t:List (List Bool)) (i:Nat) (r r':List Bool),t[i]?=some r→dZ (t.set i r')+ve r=dZ t+ve r'
  | [],i,r,r',h=>by simp at h
  | a::t,0,r,r',h=>by
    simp only [List.getElem?_cons_zero,Option.some.injEq] at h
    subst h
    simp only [dZ,List.set_cons_zero,List.map_cons,List.sum_cons]; omega
  | a::t,i+1,r,r',h=>by
    simp only [List.getElem?_cons_succ] at h
    have:=oa t i r r' h
    simp only [dZ,List.set_cons_succ,List.map_cons,List.sum_cons] at this ⊢; omega
def Gr (m:Nat) (t:List (List Bool)):Prop:=t.length=m∧∀r∈t,r.length=m
theorem Gr.set {m:Nat} {t:List (List Bool)} (h:Gr m t) {i:Nat} {r:List Bool} (hr:r.length=m):Gr m (t.set i r):=
  ⟨by rw [List.length_set]; exact h.1,fun x hx=>(nO hx).elim (h.2 x) fun e=>by rw [e]; exact hr⟩
def Gp (m i:Nat) (t:List (List Bool)):Prop:=t.length=m∧∀j r,j<i→t[j]?=some r→r.length=m
theorem Gp.all {m:Nat} {t:List (List Bool)} (h:Gp m m t):Gr m t:=⟨h.1,fun r hr=>by
  obtain ⟨j,hj⟩:=List.getElem?_of_mem hr
  exact h.2 j r (by have:=(List.getElem?_eq_some_iff.1 hj).1; have:=h.1; omega) hj⟩
theorem Gp.put {m i:Nat} {t:List (List Bool)} (h:Gp m i t) {k:Nat} {r:List Bool} (hr:r.length=m) (hk:k≤i):Gp m (if k=i then i+1 else i) (t.set k r):=by
  refine ⟨by rw [List.length_set]; exact h.1,fun j x hj hx=>?_⟩
  by_cases e:k=j
  · subst e
    have a:k<t.length:=by have:=(List.getElem?_eq_some_iff.1 hx).1; rwa [List.length_set] at this
    rw [List.getElem?_set_self a] at hx
    rw [←Option.some.inj hx]; exact hr
  · rw [List.getElem?_set_ne e] at hx
    refine h.2 j x ?_ hx
    split at hj <;> omega
section
variable {d:T_DFA} (h:Ok d) (h6:cols d≤256)
include h
omit h in
theorem pb {e:Int} (h1:e<d.Next.length):Is (M.d7 d e) (fun v:Int=>0≤v∧v≤(d.Next.length:Int)):=by
  unfold M.d7
  exact Is.dcd (fun _=>Is.pure ⟨by omega,by omega⟩) (fun _=>Is.pure ⟨by omega,by omega⟩)
theorem tN {i c:Nat} (hc:c<cols d) {β:Type} {f:Int→Option β} {Q:β→Prop} (k:∀v:Int,0≤v∧v≤(d.Next.length:Int)→Is (f v) Q) :
    Is (((bif decide ((i:Int)<(d.Next.length:Int)) then (bq d.Next i).bind fun r=>(bq r c).bind fun e=>(M.d7 d e).bind fun v=>some v else some (d.Next.length:Int))).bind f) Q:=by
  refine Is.bnd (P:=fun v:Int=>0≤v∧v≤(d.Next.length:Int)) (Is.dcd (fun hi=>?_) (fun _=>Is.pure ⟨by omega,by omega⟩)) k
  refine Is.idx (by omega) hi fun r hr _=>?_
  have a:=h.row r hr
  refine Is.idx (by omega) (by rw [a.1]; omega) fun e he _=>?_
  exact Is.bnd (pb (a.2 e he).2) fun v hv=>Is.pure hv
include h6 in
theorem rB:Is (M.f4 d) (Gr (d.Next.length+1)):=by
  have hm:=h.max
  unfold M.f4
  refine Is.add1 (by omega) (Is.bnq (dW (by omega)) ?_)
  refine Is.bnd (P:=Gr (d.Next.length+1)) ?_ fun K A=>?_
  · refine Is.upto (fun i (st:List (List Bool)×Int)=>st.2=(i:Int)∧Gp (d.Next.length+1) i st.1) (d.Next.length+1) (by omega) ⟨rfl,by simp,fun j r hj=>by omega⟩ ?_ ?_
    · rintro i ⟨t,_⟩ hi ⟨rfl,ht⟩
      simp only at ht
      refine Is.dt (by omega) (Is.bnd (P:=Gp (d.Next.length+1) (i+1)) ?_ fun q n=>Is.add1 (by omega) (Is.next ⟨rfl,n⟩))
      refine Is.bnq (dW (by omega)) (Is.setv (by omega) (by rw [ht.1]; omega) ?_)
      refine Is.upto (fun j (st:List (List Bool)×Int)=>st.2=(j:Int)∧Gp (d.Next.length+1) (i+1) st.1) (d.Next.length+1) (by omega) ⟨rfl,?_⟩ ?_ ?_
      · have:=ht.put (k:=i) (r:=List.replicate (d.Next.length+1) false) (by simp) (Nat.le_refl _)
        rw [if_pos rfl] at this
        exact this
      · rintro j ⟨q,_⟩ hj ⟨rfl,n⟩
        simp only at n
        have acc:∀k:Nat,Is (bif decide ((k:Int)<(d.Next.length:Int)) then (bq d.Accept k).bind fun e=>some e else some ((-1):Int)) (fun _=>True):=fun k=>
          Is.dcd (fun hk=>Is.idx (by omega) (by rw [h.acc]; exact hk) fun _ _ _=>Is.pure trivial) (fun _=>Is.pure trivial)
        refine Is.dt (by omega) (Is.bnd (acc i) fun _ _=>Is.bnd (acc j) fun _ _=>Is.idx (by omega) (by rw [n.1]; omega) fun r hr p=>?_)
        have hrl:=n.2 i r (by omega) (by simpa using p)
        refine Is.setv (by omega) (by rw [hrl]; omega) (Is.setv (by omega) (by rw [n.1]; omega) (Is.add1 (by omega) (Is.next ⟨rfl,?_⟩)))
        simp only [Int.toNat_natCast]
        generalize hV:r.set j _=B
        have:=n.put (k:=i) (r:=B) (by rw [←hV,List.length_set]; exact hrl) (by omega)
        rw [if_neg (by omega)] at this
        exact this
      · rintro ⟨q,_⟩ ⟨rfl,n⟩
        exact Is.df (by omega) (Is.stop n)
    · rintro ⟨t,_⟩ ⟨rfl,ht⟩
      exact Is.df (by omega) (Is.stop ht.all)
  have hp:=h.pos
  refine Is.idx (by omega) (by omega) fun G H _=>?_
  have hr0l:=(h.row G H).1
  refine Is.bnq (dW (by omega)) ?_
  refine Is.bnd (P:=fun u:List Bool=>u.length=cols d) ?_ fun u hu=>?_
  · refine Is.upto (fun i (st:List Bool×Int)=>st.2=(i:Int)∧st.1.length=cols d) 256 (by omega) ⟨rfl,by simp [hr0l]⟩ ?_ ?_
    · rintro i ⟨u,_⟩ hi ⟨rfl,hu⟩
      simp only at hu
      refine Is.dt (by omega) (Is.idx (by omega) (by rw [h.cls]; omega) fun c hc _=>?_)
      have:=h.inc c hc
      exact Is.setv this.1 (by rw [hu]; exact this.2) (Is.add1 (by omega) (Is.next ⟨rfl,by rw [List.length_set]; exact hu⟩))
    · rintro ⟨u,_⟩ ⟨rfl,hu⟩
      exact Is.df (by omega) (Is.stop hu)
  refine Is.bnd (P:=Gr (d.Next.length+1)) ?_ fun t ht=>Is.pure ht
  generalize hM:d.Next.length+1=m at A ⊢
  have hfm:∀t:List (List Bool),Gr m t→dZ t≤m*m:=by
    intro t ht
    have:∀l:List (List Bool),(∀r∈l,r.length=m)→dZ l≤l.length*m:=by
      intro l
      induction l with
      | nil=>intro _; simp [dZ]
      | cons a l ih=>
        intro hl
        have J:=ih fun r hr=>hl r (by simp [hr])
        have n:=wy a
        have L:=hl a (by simp)
        simp only [dZ,List.map_cons,List.sum_cons,List.length_cons,Nat.succ_mul] at J ⊢; omega
    have:=this t ht.2
    rw [ht.1] at this; exact this
  have hmm:m*m≤251001:=Nat.le_trans (Nat.mul_le_mul (show m≤501 by omega) (show m≤501 by omega)) (by decide)
  refine Is.while (fun st:List (List Bool)×Bool=>Gr m st.1) (fun st=>2*dZ st.1+(if st.2 then 1 else 0)) A (by have:=hfm _ A; simp only; split <;> omega) ?_
  rintro ⟨t,more⟩ ht
  simp only at ht
  refine Is.cnd (fun hmore=>?_) (fun _=>Is.stop ht)
  subst hmore
  refine Is.upto (Q:=SP (fun s':List (List Bool)×Bool=>Gr m s'.1∧2*dZ s'.1+(if s'.2 then 1 else 0)<2*dZ t+(if true then 1 else 0)) (Gr m))
    (fun i (st:List (List Bool)×Bool×Int)=>st.2.2=(i:Int)∧Gr m st.1∧dZ st.1≤dZ t∧(st.2.1=true→dZ st.1<dZ t)) m (by omega) ⟨rfl,ht,Nat.le_refl _,by simp⟩ ?_ ?_
  · rintro i ⟨o,y,_⟩ hi ⟨rfl,g1,g,f⟩
    simp only at g1 g f
    refine Is.dt (by omega) (Is.bnd (P:=fun st:List (List Bool)×Bool=>Gr m st.1∧dZ st.1≤dZ t∧(st.2=true→dZ st.1<dZ t)) ?_ (fun ⟨q,D⟩ ⟨x,w,v⟩=>Is.add1 (by omega) (Is.next ⟨rfl,x,w,v⟩)))
    refine Is.upto (fun k (st:List (List Bool)×Bool×Int)=>st.2.2=(k:Int)∧Gr m st.1∧dZ st.1≤dZ t∧(st.2.1=true→dZ st.1<dZ t)) i (by omega) ⟨rfl,g1,g,f⟩ ?_ ?_
    · rintro k ⟨o,y,_⟩ hk ⟨rfl,g1,g,f⟩
      simp only at g1 g f
      refine Is.dt (by omega) (Is.bnd (P:=fun st:List (List Bool)×Bool=>Gr m st.1∧dZ st.1≤dZ t∧(st.2=true→dZ st.1<dZ t)) ?_ (fun ⟨q,D⟩ ⟨x,w,v⟩=>Is.add1 (by omega) (Is.next ⟨rfl,x,w,v⟩)))
      refine Is.while (fun st:List (List Bool)×Bool×Int=>∃c:Nat,st.2.2=(c:Int)∧c≤u.length∧Gr m st.1∧dZ st.1≤dZ t∧(st.2.1=true→dZ st.1<dZ t)) (fun st=>u.length - st.2.2.toNat) ⟨0,rfl,by omega,g1,g,f⟩ (by show u.length - _≤_; omega) ?_
      rintro ⟨o,y,_⟩ ⟨c,rfl,hcu,g1,g,f⟩
      simp only at g1 g f hcu
      refine Is.bnd (P:=fun b=>b=true→c<u.length∧∃r,o[i]?=some r∧r[k]?=some false) ?_ fun b hb=>Is.cnd (fun e=>?_) (fun _=>Is.stop ⟨g1,g,f⟩)
      · refine Is.dcd (fun hc=>?_) (fun _=>Is.pure (fun e=>by cases e))
        refine Is.idx (by omega) (by rw [g1.1]; omega) fun r hr p=>Is.idx (by omega) (by rw [g1.2 r hr]; omega) fun b hb I=>Is.pure fun e=>⟨by omega,r,by simpa using p,?_⟩
        cases b
        · simpa using I
        · cases e
      · obtain ⟨hc,r,hr,hrk⟩:=hb e
        refine Is.bnd (P:=fun st:List (List Bool)×Bool=>Gr m st.1∧dZ st.1≤dZ t∧(st.2=true→dZ st.1<dZ t)) ?_ (fun ⟨q,D⟩ ⟨x,w,v⟩=>Is.add1 (by omega) (Is.next ⟨⟨c+1,rfl,by omega,x,w,v⟩,by show u.length - ((c+1:Nat):Int).toNat<u.length - ((c:Nat):Int).toNat; omega⟩))
        refine Is.idx (by omega) (by omega) fun uc _ _=>Is.cnd (fun _=>Is.pure ⟨g1,g,f⟩) (fun _=>?_)
        refine tN h (i:=i) (c:=c) (by omega) fun a ha=>tN h (i:=k) (c:=c) (by omega) fun b hb=>?_
        refine Is.idx ha.1 (by rw [g1.1]; omega) fun ra hra _=>Is.idx hb.1 (by rw [g1.2 ra hra]; omega) fun e _ _=>Is.cnd (fun _=>?_) (fun _=>Is.pure ⟨g1,g,f⟩)
        refine Is.idx (by omega) (by rw [g1.1]; omega) fun r' hr' p=>Is.idx (by omega) (by rw [g1.1]; omega) fun B hr2m _=>?_
        rw [Int.toNat_natCast,hr] at p
        obtain rfl:=Option.some.inj p
        have hrl:=g1.2 r hr'
        refine Is.setv (by omega) (by rw [hrl]; omega) (Is.setv (by omega) (by rw [g1.1]; omega) ?_)
        rw [Int.toNat_natCast,Int.toNat_natCast]
        have z:Gr m (o.set i (r.set k true)):=g1.set (by rw [List.length_set]; exact hrl)
        have T:=oa o i r (r.set k true) hr
        have S:=(qg r k).2 hrk
        refine Is.idx (by omega) (by rw [z.1]; omega) fun s F hr3b=>Is.setv (by omega) (by rw [z.2 s F]; omega) (Is.setv (by omega) (by rw [z.1]; omega) (Is.pure ?_))
        rw [Int.toNat_natCast] at hr3b
        rw [Int.toNat_natCast,Int.toNat_natCast]
        have R:=oa (o.set i (r.set k true)) k s (s.set i true) hr3b
        have N:=(qg s i).1
        refine ⟨z.set (by rw [List.length_set]; exact z.2 s F),?_,fun _=>?_⟩
        · simp only; omega
        · simp only; omega
    · rintro ⟨o,y,_⟩ ⟨rfl,g1,g,f⟩
      exact Is.df (by omega) (Is.stop ⟨g1,g,f⟩)
  · rintro ⟨o,y,_⟩ ⟨rfl,g1,g,f⟩
    simp only at g1 g f
    refine Is.df (by omega) (Is.stop ⟨g1,?_⟩)
    cases y
    · simp only [Bool.false_eq_true,if_false,if_true]; omega
    · have:=f rfl
      simp only [if_true]; omega
end
end Go.Proofs.YtlcdifnmkafcfaaGreat
set_option linter.unusedVariables false
namespace Go.Proofs.YtlcdifnmkafcfaaGreat
open Go.Lx
def Bt (lo hi:Int) (l:List Int):Prop:=∀x∈l,lo≤x∧x<hi
theorem Bt.set {lo hi:Int} {l:List Int} (h:Bt lo hi l) {i:Nat} {x:Int} (hx:lo≤x∧x<hi):Bt lo hi (l.set i x):=fun y hy=>(nO hy).elim (h y) fun e=>by rw [e]; exact hx
theorem Bt.more {lo hi hi':Int} {l:List Int} (h:Bt lo hi l) (hh:hi≤hi'):Bt lo hi' l:=fun y hy=>⟨(h y hy).1,Int.lt_of_lt_of_le (h y hy).2 hh⟩
theorem Bt.app {lo hi:Int} {l:List Int} {x:Int} (h:Bt lo hi l) (hx:lo≤x∧x<hi):Bt lo hi (l++[x]):=fun y hy=>by
  rcases List.mem_append.1 hy with hy|hy
  · exact h y hy
  · rw [List.mem_singleton.1 hy]; exact hx
theorem Bt.rep {lo hi x:Int} (n:Nat) (hx:lo≤x∧x<hi):Bt lo hi (List.replicate n x):=fun y hy=>by rw [(List.mem_replicate.1 hy).2]; exact hx
structure WM (m:T_DFA):Prop where
  cls:m.Class.length=256
  pos:1≤m.Next.length
  acc:m.Accept.length=m.Next.length
  inc:Bt 0 ((cols m:Nat):Int) m.Class
  row:∀r∈m.Next,r.length=cols m∧Bt (-1) (m.Next.length:Int) r
theorem tR {m:Nat} {l:List Int} (hn:l.Nodup) (h:Bt 0 (m:Int) l):l.length≤m:=by
  have:=qZ l ((List.range m).map fun (i:Nat)=>(i:Int)) hn fun x hx=>by
    have:=h x hx
    exact List.mem_map.2 ⟨x.toNat,List.mem_range.2 (by omega),by omega⟩
  simpa using this
def Rows (k:Nat) (hi:Int) (l:List (List Int)):Prop:=∀r∈l,r.length=k∧Bt (-1) hi r
theorem Rows.app {k:Nat} {hi hi':Int} {l:List (List Int)} {r:List Int} (h:Rows k hi l) (hh:hi≤hi') (hr:r.length=k∧Bt (-1) hi' r):Rows k hi' (l++[r]):=fun x hx=>by
  rcases List.mem_append.1 hx with hx|hx
  · exact ⟨(h x hx).1,(h x hx).2.more hh⟩
  · rw [List.mem_singleton.1 hx]; exact hr
section
variable {d:T_DFA} (h:Ok d) (h6:cols d≤256)
include h
theorem xu {s:Int} {b:Nat} (h1:0≤s) (h2:s<d.Next.length) (hb:b<256):Is (M.j1 d s (b:Int)) (fun e=>-1≤e∧e<(d.Next.length:Int)):=by
  unfold M.j1
  refine Is.df (by omega) (Is.idx h1 h2 fun r hr _=>Is.idx (by omega) (by rw [h.cls]; omega) fun c hc _=>?_)
  have:=h.inc c hc
  have hr2:=h.row r hr
  exact Is.idx this.1 (by rw [hr2.1]; exact this.2) fun e he _=>Is.pure (hr2.2 e he)
include h6
theorem sN:Is (M.f5 d) WM:=by
  have hm:=h.max
  have hp:=h.pos
  generalize hN:d.Next.length=n at hm hp
  unfold M.f5
  refine Is.bnd (rB h h6) fun t ht=>?_
  rw [hN] at ht ⊢
  refine Is.add1 (by omega) (Is.bnq (dW (by omega)) ?_)
  -- the representatives
  refine Is.bnd (P:=fun l:List Int=>l.length=n+1∧Bt 0 ((n+1:Nat):Int) l) ?_ fun rep hrep=>?_
  · refine Is.upto (fun i (st:List Int×Int)=>st.2=(i:Int)∧st.1.length=n+1∧Bt 0 ((n+1:Nat):Int) st.1) (n+1) (by omega) ⟨rfl,by simp,Bt.rep _ (by omega)⟩ ?_ ?_
    · rintro i ⟨l,_⟩ hi ⟨rfl,g1,A⟩
      simp only at g1 A
      refine Is.dt (by omega) (Is.bnd (P:=fun l:List Int=>l.length=n+1∧Bt 0 ((n+1:Nat):Int) l) ?_ fun X R=>Is.add1 (by omega) (Is.next ⟨rfl,R⟩))
      refine Is.setv (by omega) (by rw [g1]; omega) (Is.bnq (x:=((n:Int) - 1)) (dv (by omega) (by omega)) ?_)
      refine Is.while (fun st:List Int×Int=>-1≤st.2∧st.2<(n:Int)∧st.1.length=n+1∧Bt 0 ((n+1:Nat):Int) st.1) (fun st=>(st.2+1).toNat) ⟨by simp only; omega,by simp only; omega,by rw [List.length_set]; exact g1,A.set (by omega)⟩ (by simp only; omega) ?_
      rintro ⟨l,k⟩ ⟨q,m,f,s⟩
      simp only at q m f s
      refine Is.dcd (fun hk=>?_) (fun _=>Is.stop ⟨f,s⟩)
      refine Is.bnd (P:=fun l:List Int=>l.length=n+1∧Bt 0 ((n+1:Nat):Int) l) ?_ fun X R=>Is.bnq (x:=k - 1) (dv (by omega) (by omega)) (Is.next ⟨⟨by simp only; omega,by simp only; omega,R⟩,by simp only; omega⟩)
      refine Is.bnd (P:=fun _=>True) ?_ fun e _=>Is.cnd (fun _=>Is.setv (by omega) (by rw [f]; omega) (Is.pure ⟨by rw [List.length_set]; exact f,s.set (by omega)⟩)) (fun _=>Is.pure ⟨f,s⟩)
      refine Is.idx (by omega) (by rw [ht.1]; omega) fun r hr _=>Is.idx (by omega) (by rw [ht.2 r hr]; omega) fun b _ _=>Is.cnd (fun _=>Is.idx (by omega) (by rw [ht.2 r hr]; omega) fun _ _ _=>Is.pure trivial) (fun _=>Is.pure trivial)
    · rintro ⟨l,_⟩ ⟨rfl,g1,A⟩
      exact Is.df (by omega) (Is.stop ⟨g1,A⟩)
  obtain ⟨W,T⟩:=hrep
  refine Is.idx (by omega) (by omega) fun r0 a2 _=>?_
  -- the order and the rows
  refine Is.bnd (P:=fun st:List Int×List (List Int)=>1≤st.1.length∧st.1.length≤n+1∧Bt 0 ((n+1:Nat):Int) st.1∧st.2.length=st.1.length∧Rows 256 (st.1.length:Int) st.2) ?_ ?_
  · refine Is.while (fun st:List Int×List (List Int)×Int=>∃i:Nat,st.2.2=(i:Int)∧i≤st.1.length∧1≤st.1.length∧st.1.Nodup∧Bt 0 ((n+1:Nat):Int) st.1∧st.2.1.length=i∧Rows 256 (st.1.length:Int) st.2.1) (fun st=>n+1 - st.2.2.toNat)
      ⟨0,rfl,by simp,by simp,by simp,fun x hx=>by rw [List.mem_singleton.1 hx]; exact T _ a2,rfl,fun r hr=>by cases hr⟩ (by simp only; omega) ?_
    rintro ⟨od,rows,_⟩ ⟨i,rfl,hi,g1,A,H,S,G⟩
    simp only at hi g1 A H S G
    have hle:=tR A H
    refine Is.dcd (fun hlt=>?_) (fun hge=>Is.stop ⟨g1,hle,H,by simp only; omega,G⟩)
    refine Is.bnd (P:=fun st:List Int×List (List Int)=>1≤st.1.length∧od.length≤st.1.length∧st.1.Nodup∧Bt 0 ((n+1:Nat):Int) st.1∧st.2.length=i+1∧Rows 256 (st.1.length:Int) st.2) ?_ (fun ⟨L,p⟩ ⟨q,m,f,s,F,I⟩=>Is.add1 (by omega) (Is.next ⟨⟨i+1,rfl,by simp only at m ⊢; omega,q,f,s,F,I⟩,by show n+1 - ((i+1:Nat):Int).toNat<n+1 - ((i:Nat):Int).toNat; omega⟩))
    refine Is.bnq (dW (B:=8) (n:=256) (by omega)) ?_
    refine Is.bnd (P:=fun st:List Int×List Int=>1≤st.1.length∧od.length≤st.1.length∧st.1.Nodup∧Bt 0 ((n+1:Nat):Int) st.1∧st.2.length=256∧Bt (-1) (st.1.length:Int) st.2) ?_ (fun ⟨L,row⟩ ⟨q,m,f,s,F,I⟩=>Is.app1 (by simp only at m; omega) (Is.pure ⟨q,m,f,s,by simp only [List.length_append,List.length_singleton]; omega,G.app (by simp only at m ⊢; omega) ⟨F,I⟩⟩))
    refine Is.upto (fun b (st:List Int×List Int×Int)=>st.2.2=(b:Int)∧1≤st.1.length∧od.length≤st.1.length∧st.1.Nodup∧Bt 0 ((n+1:Nat):Int) st.1∧st.2.1.length=256∧Bt (-1) (st.1.length:Int) st.2.1) 256 (by omega)
      ⟨rfl,g1,Nat.le_refl _,A,H,List.length_replicate,Bt.rep _ (by simp only; omega)⟩ ?_ ?_
    · rintro b ⟨D,row,_⟩ hb ⟨rfl,q,m,f,s,F,I⟩
      simp only at q m f s F I
      have a8:=tR f s
      refine Is.dt (by omega) (Is.bnd (P:=fun st:List Int×List Int=>1≤st.1.length∧od.length≤st.1.length∧st.1.Nodup∧Bt 0 ((n+1:Nat):Int) st.1∧st.2.length=256∧Bt (-1) (st.1.length:Int) st.2) ?_ (fun ⟨L,p⟩ hq=>Is.add1 (by omega) (Is.next ⟨rfl,hq⟩)))
      refine Is.setv (by omega) (by rw [F]; omega) ?_
      have q5':(row.set ((b:Nat):Int).toNat (-1)).length=256:=by rw [List.length_set]; exact F
      have q6':Bt (-1) (D.length:Int) (row.set ((b:Nat):Int).toNat (-1)):=I.set (by omega)
      refine Is.idx (by omega) (by omega) fun o ho _=>Is.cnd (fun _=>Is.pure ⟨q,m,f,s,q5',q6'⟩) (fun hne=>?_)
      have a3:=s o ho
      have a7:=em hne
      have hw:IntKind.u8.wrap (b:Int)=(b:Int):=qv hb
      rw [hw]
      refine Is.bnd (xu h a3.1 (by rw [hN]; omega) hb) fun e he=>Is.bnd (pb he.2) fun v hv=>?_
      rw [hN] at hv
      refine Is.idx hv.1 (by rw [W]; omega) fun u hu _=>Is.cnd (fun _=>Is.pure ⟨q,m,f,s,q5',q6'⟩) (fun hun=>?_)
      have a0:=T u hu
      refine Is.bnd (P:=fun row:List Int=>row.length=256∧Bt (-1) (D.length:Int) row∧(row[b]?=some (-1)→u∉D)) ?_ fun a5 a1=>?_
      · refine Is.upto (fun k (st:List Int×Int)=>st.2=(k:Int)∧st.1.length=256∧Bt (-1) (D.length:Int) st.1∧(st.1[b]?=some (-1)→u∉D.take k)) D.length (by omega) ⟨rfl,q5',q6',fun _=>by simp⟩ ?_ ?_
        · rintro k ⟨V,_⟩ hk ⟨rfl,g,p,w⟩
          simp only at g p w
          refine Is.dt (by omega) (Is.bnd (P:=fun row:List Int=>row.length=256∧Bt (-1) (D.length:Int) row∧(row[b]?=some (-1)→u∉D.take (k+1))) ?_ fun r hr=>Is.add1 (by omega) (Is.next ⟨rfl,hr⟩))
          refine Is.bnq (bi hk) (Is.cnd (fun e=>Is.setv (by omega) (by rw [g]; omega) (Is.pure ⟨by rw [List.length_set]; exact g,p.set (by omega),fun hx=>?_⟩)) (fun e=>Is.pure ⟨g,p,fun hx=>?_⟩))
          · rw [Int.toNat_natCast,List.getElem?_set_self (by omega)] at hx
            have:=Option.some.inj hx
            omega
          · have:=em e
            rw [List.take_succ_eq_append_getElem hk,List.mem_append,List.mem_singleton]
            rintro (hm|hm)
            · exact w hx hm
            · exact this hm.symm
        · rintro ⟨V,_⟩ ⟨rfl,g,p,w⟩
          rw [List.take_length] at w
          exact Is.df (by omega) (Is.stop ⟨g,p,w⟩)
      · obtain ⟨g,p,w⟩:=a1
        refine Is.idx (by omega) (by rw [g]; omega) fun x hx J=>Is.dcd (fun hneg=>?_) (fun _=>Is.pure ⟨q,m,f,s,g,p⟩)
        have hxl:=p x hx
        obtain rfl:x=-1:=by omega
        have hni:=w (by simpa using J)
        refine Is.setv (by omega) (by rw [g]; omega) (Is.app1 (by omega) (Is.pure ⟨by simp,by simp only [List.length_append,List.length_singleton]; omega,?_,s.app a0,by rw [List.length_set]; exact g,?_⟩))
        · exact List.nodup_append.2 ⟨f,by simp,fun x hx y hy=>by rw [List.mem_singleton.1 hy]; exact fun e=>hni (e ▸ hx)⟩
        · simp only [List.length_append,List.length_singleton]
          exact (p.more (by omega)).set (by omega)
    · rintro ⟨D,row,_⟩ ⟨rfl,hq⟩
      exact Is.df (by omega) (Is.stop hq)
  rintro ⟨od,rows⟩ ⟨g1,A,H,S,G⟩
  simp only at g1 A H S G
  -- the classes
  refine Is.bnq (dW (B:=8) (n:=256) (by omega)) ?_
  refine Is.bnd (P:=fun st:List Int×List Int=>st.1.length=256∧Bt 0 (st.2.length:Int) st.1∧st.2.length≤256∧Bt 0 256 st.2) ?_ ?_
  · refine Is.upto (fun b (st:List Int×List Int×Int)=>st.2.2=(b:Int)∧st.1.length=256∧(∀j x,j<b→st.1[j]?=some x→0≤x∧x<(st.2.1.length:Int))∧st.2.1.length≤b∧Bt 0 256 st.2.1) 256 (by omega) ⟨rfl,List.length_replicate,fun j x hj=>by omega,Nat.le_refl _,fun x hx=>by cases hx⟩ ?_ ?_
    · rintro b ⟨cl,bs,_⟩ hb ⟨rfl,q,m,f,s⟩
      simp only at q m f s
      refine Is.dt (by omega) (Is.bnd (P:=fun st:List Int×List Int=>st.1.length=256∧(∀j x,j<b+1→st.1[j]?=some x→0≤x∧x<(st.2.length:Int))∧st.2.length≤b+1∧Bt 0 256 st.2) ?_ (fun ⟨L,p⟩ hq=>Is.add1 (by omega) (Is.next ⟨rfl,hq⟩)))
      refine Is.setv (by omega) (by rw [q]; omega) ?_
      refine Is.bnd (P:=fun K:List Int=>K.length=256∧(∀j x,j<b→K[j]?=some x→0≤x∧x<(bs.length:Int))∧∀x,K[b]?=some x→x=-1∨(0≤x∧x<(bs.length:Int))) ?_ fun K N=>?_
      · refine Is.while (fun st:List Int×Int=>∃c:Nat,st.2=(c:Int)∧c≤bs.length∧st.1.length=256∧(∀j x,j<b→st.1[j]?=some x→0≤x∧x<(bs.length:Int))∧∀x,st.1[b]?=some x→x=-1∨(0≤x∧x<(bs.length:Int))) (fun st=>bs.length - st.2.toNat)
          ⟨0,rfl,by omega,by rw [List.length_set]; exact q,fun j x hj hx=>?_,fun x hx=>?_⟩ (by simp only; omega) ?_
        · rw [Int.toNat_natCast,List.getElem?_set_ne (by omega)] at hx
          exact m j x hj hx
        · rw [Int.toNat_natCast,List.getElem?_set_self (by omega)] at hx
          exact .inl (Option.some.inj hx).symm
        rintro ⟨c1,_⟩ ⟨c,rfl,hc,g,p,w⟩
        simp only at hc g p w
        refine Is.bnd (P:=fun e=>e=true→c<bs.length) ?_ fun e he=>Is.cnd (fun e1=>?_) (fun _=>Is.stop ⟨g,p,w⟩)
        · refine Is.dcd (fun hc=>?_) (fun _=>Is.pure fun e=>by cases e)
          exact Is.idx (by omega) (by rw [g]; omega) fun _ _ _=>Is.pure fun _=>by omega
        · have hcl:=he e1
          refine Is.bnd (P:=fun c2:List Int=>c2.length=256∧(∀j x,j<b→c2[j]?=some x→0≤x∧x<(bs.length:Int))∧∀x,c2[b]?=some x→x=-1∨(0≤x∧x<(bs.length:Int))) ?_ fun c2 N=>Is.add1 (by omega) (Is.next ⟨⟨c+1,rfl,by omega,N⟩,by show bs.length - ((c+1:Nat):Int).toNat<bs.length - ((c:Nat):Int).toNat; omega⟩)
          refine Is.bnd (P:=fun _=>True) ?_ fun e _=>Is.cnd (fun _=>Is.setv (by omega) (by rw [g]; omega) (Is.pure ⟨by rw [List.length_set]; exact g,fun j x hj hx=>?_,fun x hx=>?_⟩)) (fun _=>Is.pure ⟨g,p,w⟩)
          · refine Is.upto (fun i (st:Bool×Int)=>st.2=(i:Int)) rows.length (by omega) rfl ?_ ?_
            · rintro i ⟨sm,_⟩ hi rfl
              refine Is.dt (by omega) (Is.cnd (fun _=>?_) (fun _=>Is.add1 (by omega) (Is.next rfl)))
              refine Is.bnq (bi hi) ?_
              have hr:=G _ (List.getElem_mem hi)
              refine Is.idx (by omega) (by rw [hr.1]; omega) fun _ _ _=>Is.idx (by omega) (by omega) fun y hy _=>?_
              have:=s y hy
              exact Is.idx this.1 (by rw [hr.1]; omega) fun _ _ _=>Is.add1 (by omega) (Is.next rfl)
            · rintro ⟨sm,_⟩ rfl
              exact Is.df (by omega) (Is.stop trivial)
          · rw [Int.toNat_natCast,List.getElem?_set_ne (by omega)] at hx
            exact p j x hj hx
          · rw [Int.toNat_natCast,List.getElem?_set_self (by omega)] at hx
            have:=Option.some.inj hx
            exact .inr (by omega)
      · obtain ⟨g,p,w⟩:=N
        refine Is.idx (by omega) (by rw [g]; omega) fun x hx J=>?_
        rw [Int.toNat_natCast] at J
        refine Is.dcd (fun hneg=>?_) (fun hnn=>Is.pure ⟨g,fun j y hj hy=>?_,by simp only; omega,s⟩)
        · refine Is.setv (by omega) (by rw [g]; omega) (Is.app1 (by omega) (Is.pure ⟨by rw [List.length_set]; exact g,fun j y hj hy=>?_,by simp only [List.length_append,List.length_singleton]; omega,s.app (by omega)⟩))
          simp only [List.length_append,List.length_singleton]
          rw [Int.toNat_natCast] at hy
          by_cases e:b=j
          · subst e
            rw [List.getElem?_set_self (by omega)] at hy
            have:=Option.some.inj hy
            omega
          · rw [List.getElem?_set_ne e] at hy
            have:=p j y (by omega) hy
            omega
        · by_cases e:b=j
          · subst e
            rw [J] at hy
            have:=w y (J.trans hy)
            have:=Option.some.inj hy
            rcases w x J with Q|Q
            · omega
            · rw [←this]; exact Q
          · exact p j y (by omega) hy
    · rintro ⟨cl,bs,_⟩ ⟨rfl,q,m,f,s⟩
      simp only at q m f s
      refine Is.df (by omega) (Is.stop ⟨q,fun x hx=>?_,f,s⟩)
      obtain ⟨j,hj⟩:=List.getElem?_of_mem hx
      have Q:j<cl.length:=(List.getElem?_eq_some_iff.1 hj).1
      exact m j x (by omega) hj
  rintro ⟨cl,bs⟩ ⟨c1,c2,c3,U⟩
  simp only at c1 c2 c3 U
  -- the rows of the classes
  refine Is.bnd (P:=fun st:List (List Int)×List Int=>st.1.length=rows.length∧st.2.length=rows.length∧Rows bs.length (od.length:Int) st.1) ?_ ?_
  · refine Is.upto (fun i (st:List (List Int)×List Int×Int)=>st.2.2=(i:Int)∧st.1.length=i∧st.2.1.length=i∧Rows bs.length (od.length:Int) st.1) rows.length (by omega) ⟨rfl,rfl,rfl,fun r hr=>by cases hr⟩ ?_ ?_
    · rintro i ⟨nx,ac,_⟩ hi ⟨rfl,q,m,f⟩
      simp only at q m f
      refine Is.dt (by omega) (Is.bnd (P:=fun st:List (List Int)×List Int=>st.1.length=i+1∧st.2.length=i+1∧Rows bs.length (od.length:Int) st.1) ?_ (fun ⟨a,b⟩ hq=>Is.add1 (by omega) (Is.next ⟨rfl,hq⟩)))
      refine Is.bnd (P:=fun r:List Int=>r.length=bs.length∧Bt (-1) (od.length:Int) r) ?_ fun r hr=>?_
      · refine Is.upto (fun c (st:List Int×Int)=>st.2=(c:Int)∧st.1.length=c∧Bt (-1) (od.length:Int) st.1) bs.length (by omega) ⟨rfl,rfl,fun x hx=>by cases hx⟩ ?_ ?_
        · rintro c ⟨r,_⟩ hc ⟨rfl,g,p⟩
          simp only at g p
          have hr:=G _ (List.getElem_mem hi)
          refine Is.dt (by omega) (Is.bnq (bi hi) (Is.idx (by omega) (by omega) fun y hy _=>?_))
          have Y:=U y hy
          exact Is.idx Y.1 (by rw [hr.1]; omega) fun z hz _=>Is.app1 (by omega) (Is.add1 (by omega) (Is.next ⟨rfl,by simp [g],p.app (hr.2 z hz)⟩))
        · rintro ⟨r,_⟩ ⟨rfl,g,p⟩
          exact Is.df (by omega) (Is.stop ⟨g,p⟩)
      · refine Is.app1 (by omega) (Is.idx (by omega) (by omega) fun o ho _=>Is.cnd (fun _=>Is.app1 (by omega) (Is.pure ⟨by simp [q],by simp [m],f.app (Int.le_refl _) hr⟩)) (fun hne=>?_))
        have:=H o ho
        have:=em hne
        exact Is.idx (by omega) (by rw [h.acc,hN]; omega) fun _ _ _=>Is.app1 (by omega) (Is.pure ⟨by simp [q],by simp [m],f.app (Int.le_refl _) hr⟩)
    · rintro ⟨nx,ac,_⟩ ⟨rfl,q,m,f⟩
      exact Is.df (by omega) (Is.stop ⟨q,m,f⟩)
  rintro ⟨nx,ac⟩ ⟨q,m,f⟩
  simp only at q m f
  have hcols:cols ⟨cl,nx,ac⟩=bs.length:=by
    have:0<nx.length:=by omega
    unfold cols
    rw [List.getD_eq_getElem?_getD,show (⟨cl,nx,ac⟩:T_DFA).Next=nx from rfl,List.getElem?_eq_getElem this]
    exact (f _ (List.getElem_mem this)).1
  refine Is.pure ⟨c1,by show 1≤nx.length; omega,by show ac.length=nx.length; omega,by rw [hcols]; exact c2,fun r hr=>?_⟩
  rw [hcols]
  have:=f r hr
  exact ⟨this.1,this.2.more (by show (od.length:Int)≤(nx.length:Int); omega)⟩
end
end Go.Proofs.YtlcdifnmkafcfaaGreat
set_option linter.unusedVariables false
namespace Go.Proofs.YtlcdifnmkafcfaaGreat
open Go.Lx
theorem wE (acc:List Int) (l:List Int):-1≤zJ acc l:=by
  have:∀(l:List Int) (o:Int),-1≤o→-1≤l.foldl (pt acc) o:=by
    intro l
    induction l with
    | nil=>exact fun _ h=>h
    | cons x l ih=>
      intro o ho
      refine ih _ ?_
      unfold pt
      cases h:decide (0≤acc.getD x.toNat 0) && (decide (o<0) || decide (acc.getD x.toNat 0<o))
      · exact ho
      · rw [Bool.and_eq_true,decide_eq_true_eq] at h
        show -1≤acc.getD x.toNat 0
        omega
  exact this l _ (by omega)
section
variable {n:T_NFA} (hn:FitN n) (hlen:n.Arcs.length≤1000000)
include hn
def CS (n:T_NFA) (l:List (List Int)):Prop:=∀T∈l,∃U,T=qt n U
omit hn in
theorem CS.app {l:List (List Int)} (h:CS n l) (U:List Int):CS n (l++[qt n U]):=fun T hT=>by
  rcases List.mem_append.1 hT with hT|hT
  · exact h T hT
  · exact ⟨U,List.mem_singleton.1 hT⟩
theorem CS.len {l:List (List Int)} (h:CS n l) {T:List Int} (hT:T∈l):T.length≤2000∧∀s∈T,0≤s∧s<(n.Accept.length:Int):=by
  have:=rN hn T (h T hT)
  exact ⟨this.2,this.1⟩
include hlen
theorem vu:Is (M.d8 n) fun r=>r.2=0→Ok r.1∧cols r.1≤256:=by
  have hv:∃b,M.g9 n=some b∧b=true:=by
    obtain ⟨b,hb,h⟩:=pF (n:=n) (by omega) (by have:=hn.acc; have:=hn.most; omega)
    exact ⟨b,hb,h.2 ⟨hn.pos,hn.most,hn.start,hn.acc,hn.low,hn.arcs⟩⟩
  obtain ⟨_,hv,rfl⟩:=hv
  unfold M.d8
  refine Is.bnq hv (Is.cf rfl ?_)
  refine Is.bnd (P:=fun l:List (aA 4)=>l.length≤n.Arcs.length∧∀v∈l,W4 v) ?_ fun lb hlb=>?_
  · refine Is.upto (fun i (st:List (aA 4)×Int)=>st.2=(i:Int)∧st.1.length≤i∧∀v∈st.1,W4 v) n.Arcs.length (by omega) ⟨rfl,Nat.le_refl _,fun v hv=>by cases hv⟩ ?_ ?_
    · rintro i ⟨a,_⟩ hi ⟨rfl,y,w⟩
      simp only at y w
      refine Is.dt (by omega) (Is.bnd (P:=fun l:List (aA 4)=>l.length≤i+1∧∀v∈l,W4 v) ?_ fun l hl=>Is.add1 (by omega) (Is.next ⟨rfl,hl⟩))
      refine Is.bnq (bi hi) (Is.cnd (fun h=>?_) (fun h=>Is.pure ⟨by omega,w⟩))
      refine Is.app1 (by omega) (Is.pure ⟨by simp only [List.length_append,List.length_singleton]; omega,fun v hv=>?_⟩)
      rcases List.mem_append.1 hv with hv|hv
      · exact w v hv
      · rw [List.mem_singleton.1 hv]; exact hn.sets _ (List.getElem_mem hi)
    · rintro ⟨a,_⟩ ⟨rfl,h⟩
      exact Is.df (by omega) (Is.stop h)
  refine Is.bnq (oD hlb.2 (by omega)) ?_
  refine Is.bnd (P:=gN (eE lb) 256) ?_ fun fb hfb=>?_
  · unfold M.j6
    exact Is.bnd (rr rfl (fun _ _=>rfl)) fun _ h=>Is.pure h
  have hfl:=hfb.len
  refine Is.bnq (fe hn (by simp)) ?_
  refine Is.bs (P:=fun st:List (List Int)×List Int=>1≤st.1.length∧st.1.length≤500∧st.2.length=st.1.length∧Rows fb.length (st.1.length:Int) st.1∧∀a∈st.2,-1≤a) (Q:=fun r:T_DFA×Int=>r.2=0→Ok r.1∧cols r.1≤256) ?_ ?_
  · refine Is.while (fun st:List (List Int)×List (List Int)×List Int×Int=>∃i:Nat,st.2.2.2=(i:Int)∧i≤st.1.length∧st.2.1.length=i∧st.2.2.1.length=i∧CS n st.1∧1≤st.1.length∧st.1.length≤500∧Rows fb.length (st.1.length:Int) st.2.1∧∀a∈st.2.2.1,-1≤a) (fun st=>501 - st.2.2.2.toNat)
      ⟨0,rfl,by simp,rfl,rfl,fun T hT=>⟨_,List.mem_singleton.1 hT⟩,by simp,by simp,(fun r hr=>by cases hr),(fun a ha=>by cases ha)⟩ (by first|omega|(simp only; omega)) ?_
    rintro ⟨sets,nx,ac,_⟩ ⟨i,rfl,hi,hnx,hac,hcs,y,z,hrw,haa⟩
    simp only at hi hnx hac hcs y z hrw haa
    refine Is.dcd (fun hil=>?_) (fun hge=>Is.stop ?_)
    case refine_2=>
      show 1≤nx.length∧_
      have e:nx.length=sets.length:=by omega
      rw [e]
      exact ⟨y,z,(by show ac.length=_; omega),hrw,haa⟩
    have hil:i<sets.length:=by omega
    refine Is.bs (P:=fun st:List (List Int)×List (List Int)×List Int=>st.2.1.length=i+1∧st.2.2.length=i+1∧CS n st.1∧sets.length≤st.1.length∧st.1.length≤500∧Rows fb.length (st.1.length:Int) st.2.1∧∀a∈st.2.2,-1≤a) ?_ ?_
    · refine Is.bnd (P:=fun st:List (List Int)×List Int=>st.2.length=fb.length∧CS n st.1∧sets.length≤st.1.length∧st.1.length≤sets.length+256∧Bt (-1) (st.1.length:Int) st.2) ?_ ?_
      · refine Is.upto (fun c (st:List (List Int)×List Int×Int)=>st.2.2=(c:Int)∧st.2.1.length=c∧CS n st.1∧sets.length≤st.1.length∧st.1.length≤sets.length+c∧Bt (-1) (st.1.length:Int) st.2.1) fb.length (by omega)
          ⟨rfl,rfl,hcs,Nat.le_refl _,Nat.le_refl _,fun x hx=>by cases hx⟩ ?_ ?_
        · rintro c ⟨p,row,_⟩ hc ⟨rfl,g1,d,g,m,f⟩
          simp only at g1 d g m f
          refine Is.dt (by omega) ?_
          obtain ⟨b,H,G⟩:=hfb.byte hc
          refine Is.bnd (P:=fun st:List (List Int)×List Int=>st.2.length=c+1∧CS n st.1∧sets.length≤st.1.length∧st.1.length≤sets.length+(c+1)∧Bt (-1) (st.1.length:Int) st.2) ?_ fun st h=>Is.add1 (by omega) (Is.next ⟨rfl,h⟩)
          refine Is.idx (by omega) (by omega) fun S hS _=>?_
          have hSl:=d.len hn hS
          have hsl:=(rN hn (Bx n S b) ⟨_,rfl⟩).2
          refine Is.bnq G (Is.bnq (sq hn (by omega) H) (Is.bnq (fe hn (by omega)) ?_))
          refine Is.cnd (fun _=>Is.app1 (by omega) (Is.pure ⟨by simp only [List.length_append,List.length_singleton]; omega,d,g,by first|omega|(simp only; omega),f.app (by first|omega|(simp only; omega))⟩)) (fun _=>?_)
          refine Is.bnd (xW (l:=p) (by omega) (fun T hT=>by have:=(d.len hn hT).1; omega)) fun k hk=>?_
          refine Is.bnd (P:=fun st:List (List Int)×Int=>CS n st.1∧sets.length≤st.1.length∧p.length≤st.1.length∧st.1.length≤sets.length+(c+1)∧0≤st.2∧st.2<(st.1.length:Int)) ?_ ?_
          · refine Is.dcd (fun _=>Is.app1 (by omega) (Is.pure ⟨d.app _,by simp only [List.length_append,List.length_singleton]; omega,by simp,by simp only [List.length_append,List.length_singleton]; omega,by first|omega|(simp only; omega),by simp only [List.length_append,List.length_singleton]; omega⟩)) (fun F=>Is.pure ⟨d,g,Nat.le_refl _,by first|omega|(simp only; omega),by first|omega|(simp only; omega),?_⟩)
            rcases hk with ⟨hk,_⟩|⟨j,rfl,hj⟩
            · exact absurd hk F
            · have:=(List.getElem?_eq_some_iff.1 hj).1
              simp only; omega
          · rintro ⟨I,K⟩ ⟨u,q,t,o,s,D⟩
            simp only at q t o s D
            exact Is.app1 (by omega) (Is.pure ⟨by simp only [List.length_append,List.length_singleton]; omega,u,q,o,(f.more (by first|omega|(simp only; omega))).app (by first|omega|(simp only; omega))⟩)
        · rintro ⟨p,row,_⟩ ⟨rfl,g1,d,g,m,f⟩
          exact Is.df (by omega) (Is.stop ⟨g1,d,g,by simp only at m ⊢; omega,f⟩)
      · rintro ⟨p,row⟩ ⟨g1,d,g,m,f⟩
        simp only at g1 d g m f
        refine Is.dcd (fun h=>Is.stop (by show (11:Int)=0→_; exact fun e=>absurd e (by decide))) (fun h=>?_)
        refine Is.idx (by omega) (by omega) fun S hS _=>?_
        have hSl:=d.len hn hS
        refine Is.app1 (by omega) (Is.bnq (vZ hSl.2 (by omega)) (Is.app1 (by omega) (Is.next ⟨by simp only [List.length_append,List.length_singleton]; omega,by simp only [List.length_append,List.length_singleton]; omega,d,g,by first|omega|(simp only; omega),hrw.app (by first|omega|(simp only; omega)) ⟨g1,f⟩,fun a ha=>?_⟩)))
        rcases List.mem_append.1 ha with ha|ha
        · exact haa a ha
        · rw [List.mem_singleton.1 ha]; exact wE _ _
    · rintro ⟨p,J,L⟩ ⟨g1,d,g,m,f,B,A⟩
      simp only at g1 d g m f B A
      exact Is.add1 (by omega) (Is.next ⟨⟨i+1,rfl,by first|omega|(simp only; omega),g1,d,g,by first|omega|(simp only; omega),f,B,A⟩,by show 501 - ((i+1:Nat):Int).toNat<501 - ((i:Nat):Int).toNat; omega⟩)
  · rintro ⟨nx,ac⟩ ⟨u,q,t,o,s⟩
    simp only at u q t o s
    refine Is.pure fun _=>?_
    have hcols:cols ⟨qd lb,nx,ac⟩=fb.length:=by
      have:0<nx.length:=by omega
      unfold cols
      rw [List.getD_eq_getElem?_getD,show (⟨qd lb,nx,ac⟩:T_DFA).Next=nx from rfl,List.getElem?_eq_getElem this]
      exact (o _ (List.getElem_mem this)).1
    refine ⟨⟨by simp [qd],u,q,t,by rw [hcols]; exact hfl.1,fun c hc=>?_,fun r hr=>?_,s⟩,by rw [hcols]; exact hfl.2⟩
    · rw [hcols]
      obtain ⟨b,hb,rfl⟩:=List.mem_map.1 (show c∈(List.range 256).map fun i=>(cls (eE lb) i:Int) from hc)
      obtain ⟨_,_,w,_⟩:=hfb.at (List.mem_range.1 hb)
      omega
    · rw [hcols]
      exact o r hr
end
end Go.Proofs.YtlcdifnmkafcfaaGreat
namespace Go.Proofs.YtlcdifnmkafcfaaGreat
open Go.Lx
inductive bR:T_Regex→Prop where
  | mk (x:T_Regex):(uj .i64) x.Kind→(fun v=>∀x∈v.1,uj .u64 x) x.Set→(∀y∈x.Kids,bR y)→x.Kids.length≤maxLen→bR x
end Go.Proofs.YtlcdifnmkafcfaaGreat
namespace Go.Proofs.YtlcdifnmkafcfaaGreat
open Go.Lx
theorem T_Regex.ind {P:T_Regex→Prop} (h:∀k s l,(∀y∈l,P y)→P ⟨k,s,l⟩):∀x,P x
  | ⟨k,s,l⟩=>h k s l fun y _=>T_Regex.ind h y
theorem iu {k s l} (h:bR ⟨k,s,l⟩):∀y∈l,bR y:=by cases h; assumption
theorem sG {k s l} (h:bR ⟨k,s,l⟩):l.length≤maxLen:=by cases h; assumption
theorem vM {k s l} (h:bR ⟨k,s,l⟩):∀x∈s.1,uj .u64 x:=by cases h; assumption
def gR (k:Int) (s:aA 4) (n:Nat):Bool:=
  bif k == 1 || k == 2 then n == 0 && s == aA.zero 4
  else bif k == 3 then n == 0 && s != aA.zero 4
  else bif k == 4 || k == 5 then decide (2≤n) && s == aA.zero 4
  else bif k == 6 then n == 1 && s == aA.zero 4
  else false
def V:Nat→T_Regex→Bool
  | 0,_=>false
  | d+1,x=>gR x.Kind x.Set x.Kids.length && x.Kids.all (V d)
theorem nS {α ρ:Type} {l:List α} {f:α→Option Bool} {p:α→Bool} {X Y:ρ} (hf:∀y∈l,f y=some (p y)) (hl:l.length≤9223372036854775807) :
    bg (fun (i:Int)=>bif decide (i<(l.length:Int)) then (bq l i).bind fun e=>(f e).bind fun r=>bif (!r) then some (.stop X) else (bV .i64 (i+1)).bind fun t=>some (.next t)
      else some (.stop Y)) aU (0:Int)=some (if l.all p then Y else X):=by
  refine Is.eq ?_
  refine Is.upto (fun i s=>s=(i:Int)∧(l.take i).all p=true) l.length hl ⟨rfl,by simp⟩ ?_ ?_
  · rintro i _ hi ⟨rfl,hJ⟩
    refine Is.dt (by omega) (Is.bnq (bi hi) (Is.bnq (hf _ (List.getElem_mem hi)) ?_))
    refine Is.cnd (fun h=>?_) (fun h=>?_)
    · have h:p l[i]=false:=by simpa using h
      refine Is.stop ?_
      rw [if_neg]
      intro a
      have:=List.all_eq_true.1 a _ (List.getElem_mem hi)
      rw [h] at this; exact absurd this (by simp)
    · have h:p l[i]=true:=by simpa using h
      refine Is.bnq (aX (by omega)) (Is.next ⟨rfl,?_⟩)
      rw [List.take_add_one,List.all_append,hJ,List.getElem?_eq_getElem hi]
      simp [h]
  · rintro _ ⟨rfl,hJ⟩
    refine Is.df (by omega) (Is.stop ?_)
    rw [List.take_length] at hJ
    rw [if_pos hJ]
theorem rh {α ρ:Type} {l:List α} {f:α→Option Bool} {p:α→Bool} {X Y:ρ} (hf:∀y∈l,f y=some (p y)) (hl:l.length≤9223372036854775807) :
    bg (fun (i:Int)=>bif decide (i<(l.length:Int)) then (bq l i).bind fun e=>(f e).bind fun r=>bif r then some (.stop X) else (bV .i64 (i+1)).bind fun t=>some (.next t)
      else some (.stop Y)) aU (0:Int)=some (if l.any p then X else Y):=by
  refine Is.eq ?_
  refine Is.upto (fun i s=>s=(i:Int)∧(l.take i).any p=false) l.length hl ⟨rfl,by simp⟩ ?_ ?_
  · rintro i _ hi ⟨rfl,hJ⟩
    refine Is.dt (by omega) (Is.bnq (bi hi) (Is.bnq (hf _ (List.getElem_mem hi)) ?_))
    refine Is.cnd (fun h=>?_) (fun h=>?_)
    · refine Is.stop ?_
      rw [if_pos]
      exact List.any_eq_true.2 ⟨_,List.getElem_mem hi,h⟩
    · refine Is.bnq (aX (by omega)) (Is.next ⟨rfl,?_⟩)
      rw [List.take_add_one,List.any_append,hJ,List.getElem?_eq_getElem hi]
      simp [h]
  · rintro _ ⟨rfl,hJ⟩
    refine Is.df (by omega) (Is.stop ?_)
    rw [List.take_length] at hJ
    rw [if_neg (by simp [hJ])]
theorem vh:∀(d fl:Nat) (x:T_Regex),bR x→d≤30→d<fl→M.d0 fl x d=some (V d x):=by
  intro d
  induction d with
  | zero=>
    intro fl x _ _ hf
    obtain ⟨fl,rfl⟩:∃f,fl=f+1:=⟨fl - 1,by omega⟩
    simp [M.d0,V]
  | succ d ih=>
    intro fl x ok hd hf
    obtain ⟨fl,rfl⟩:∃f,fl=f+1:=⟨fl - 1,by omega⟩
    obtain ⟨k,s,l⟩:=x
    have hl:l.length≤9223372036854775807:=Nat.le_trans (sG ok) (by decide)
    have p:bV .i64 ((d+1:Nat) - 1:Int)=some (d:Int):=by rw [dv (by omega) (by omega)]; congr 1; omega
    have q:(((d+1:Nat):Int) == 0)=false:=bL (by omega)
    have hloop:=nS (ρ:=cJ Unit Bool) (f:=fun e=>M.d0 fl e d) (X:=.stop false) (Y:=.next ()) (fun y hy=>ih fl y (iu ok y hy) (by omega) (by omega)) hl
    have hb:(s != aA.zero 4)=!(s == aA.zero 4):=rfl
    unfold M.d0 V gR
    simp only [p,q,Option.bind_some,cond_false,hb]
    rw [hloop]
    have a:l.length=0→l.all (V d)=true:=by intro h; rw [List.eq_nil_of_length_eq_zero h]; rfl
    generalize l.all (V d)=A at a ⊢
    generalize (s == aA.zero 4)=z
    generalize l.length=n at a ⊢
    have ea:k=1∨k=2∨k=3∨k=4∨k=5∨k=6∨(k≠1∧k≠2∧k≠3∧k≠4∧k≠5∧k≠6):=by omega
    clear hloop hl ok ih hb
    have F:∀m:Nat,decide ((m:Int)+1+1<2)=false:=fun m=>dT (by omega)
    have D:∀m:Nat,decide ((m:Int)+1+1≤0)=false:=fun m=>dT (by omega)
    have B:∀m:Nat,((m:Int)+1+1 == 0)=false:=fun m=>bL (by omega)
    have w:∀m:Nat,((m:Int)+1+1 == 1)=false:=fun m=>bL (by omega)
    have v4:∀m:Nat,((m:Int)+1+1 != 1)=true:=fun m=>go (by omega)
    have v:∀m:Nat,decide ((0:Int)<(m:Int)+1+1)=true:=fun m=>dS (by omega)
    have u:∀m:Nat,decide ((1:Int)<(m:Int)+1+1)=true:=fun m=>dS (by omega)
    have t:∀m:Nat,decide ((m:Int)+1+1<0)=false:=fun m=>dT (by omega)
    have r:∀m:Nat,decide ((m:Int)+1+1<1)=false:=fun m=>dT (by omega)
    rcases ea with rfl|rfl|rfl|rfl|rfl|rfl|⟨o,j,b,i,g,c⟩ <;> rcases n with _|_|n <;> cases z <;> cases A <;> first|exact absurd (a rfl) (by decide)|(simp [bk, *]; done)|(have N:=bL o; have L:=bL j; have K:=bL b; have J:=bL i; have I:=bL g; have H:=bL c; have G:=go b; simp [bk, *])
theorem qK:∀(d fl:Nat) (x:T_Regex),bR x→d≤30→d<fl→M.d4 fl x ((30 - d:Nat):Int)=some (V d x):=by
  intro d
  induction d with
  | zero=>
    intro fl x _ _ hf
    obtain ⟨fl,rfl⟩:∃f,fl=f+1:=⟨fl - 1,by omega⟩
    simp [M.d4,V]
  | succ d ih=>
    intro fl x ok hd hf
    obtain ⟨fl,rfl⟩:∃f,fl=f+1:=⟨fl - 1,by omega⟩
    obtain ⟨k,s,l⟩:=x
    have hl:l.length≤9223372036854775807:=Nat.le_trans (sG ok) (by decide)
    have p:bV .i64 (((30 - (d+1):Nat):Int)+1)=some ((30 - d:Nat):Int):=by rw [dv (by omega) (by omega)]; congr 1; omega
    have q:decide (30≤((30 - (d+1):Nat):Int))=false:=decide_eq_false (by omega)
    have hloop:=nS (ρ:=cJ Unit Bool) (f:=fun e=>M.d4 fl e ((30 - d:Nat):Int)) (X:=.stop false) (Y:=.next ()) (fun y hy=>ih fl y (iu ok y hy) (by omega) (by omega)) hl
    have hb:(s != aA.zero 4)=!(s == aA.zero 4):=rfl
    unfold M.d4 V gR
    simp only [p,q,Option.bind_some,cond_false,hb]
    rw [hloop]
    have a:l.length=0→l.all (V d)=true:=by intro h; rw [List.eq_nil_of_length_eq_zero h]; rfl
    generalize l.all (V d)=A at a ⊢
    generalize (s == aA.zero 4)=z
    generalize l.length=n at a ⊢
    have ea:k=1∨k=2∨k=3∨k=4∨k=5∨k=6∨(k≠1∧k≠2∧k≠3∧k≠4∧k≠5∧k≠6):=by omega
    clear hloop hl ok ih hb
    have F:∀m:Nat,decide ((m:Int)+1+1<2)=false:=fun m=>dT (by omega)
    have D:∀m:Nat,decide ((m:Int)+1+1≤0)=false:=fun m=>dT (by omega)
    have B:∀m:Nat,((m:Int)+1+1 == 0)=false:=fun m=>bL (by omega)
    have w:∀m:Nat,((m:Int)+1+1 == 1)=false:=fun m=>bL (by omega)
    have v4:∀m:Nat,((m:Int)+1+1 != 1)=true:=fun m=>go (by omega)
    have v:∀m:Nat,decide ((0:Int)<(m:Int)+1+1)=true:=fun m=>dS (by omega)
    have u:∀m:Nat,decide ((1:Int)<(m:Int)+1+1)=true:=fun m=>dS (by omega)
    have t:∀m:Nat,decide ((m:Int)+1+1<0)=false:=fun m=>dT (by omega)
    have r:∀m:Nat,decide ((m:Int)+1+1<1)=false:=fun m=>dT (by omega)
    rcases ea with rfl|rfl|rfl|rfl|rfl|rfl|⟨o,j,b,i,g,c⟩ <;> rcases n with _|_|n <;> cases z <;> cases A <;> first|exact absurd (a rfl) (by decide)|(simp [bk, *]; done)|(have N:=bL o; have L:=bL j; have K:=bL b; have J:=bL i; have I:=bL g; have H:=bL c; have G:=go b; simp [bk, *])
theorem rY {x:T_Regex} (ok:bR x):M.h6 x=some (V 30 x):=by
  unfold M.h6
  rw [show M.d0 aU x 30=some (V 30 x) from vh 30 aU x ok (by omega) (by unfold aU; omega)]
  rfl
theorem iV {x:T_Regex} (ok:bR x):M.f6 x=some (V 30 x):=by
  unfold M.f6
  rw [show M.d4 aU x 0=some (V 30 x) from qK 30 aU x ok (by omega) (by unfold aU; omega)]
  rfl
mutual
def parts:T_Regex→Nat
  | ⟨_,_,l⟩=>bp l+1
def bp:List T_Regex→Nat
  | []=>0
  | y::l=>parts y+bp l
end
mutual
def height:T_Regex→Nat
  | ⟨_,_,l⟩=>bK l+1
def bK:List T_Regex→Nat
  | []=>0
  | y::l=>max (height y) (bK l)
end
theorem gK (l m:List T_Regex):bp (l++m)=bp l+bp m:=by
  induction l with
  | nil=>simp [bp]
  | cons y l ih=>simp only [List.cons_append,bp,ih]; omega
theorem jk (l m:List T_Regex):bK (l++m)=max (bK l) (bK m):=by
  induction l with
  | nil=>simp [bK]
  | cons y l ih=>simp only [List.cons_append,bK,ih]; omega
theorem dK {l:List T_Regex} {y:T_Regex} (h:y∈l):parts y≤bp l:=by
  induction l with
  | nil=>cases h
  | cons z l ih=>
    simp only [bp]
    rcases List.mem_cons.1 h with rfl|h
    · omega
    · have:=ih h; omega
theorem ey {l:List T_Regex} {y:T_Regex} (h:y∈l):height y≤bK l:=by
  induction l with
  | nil=>cases h
  | cons z l ih=>
    simp only [bK]
    rcases List.mem_cons.1 h with rfl|h
    · omega
    · have:=ih h; omega
theorem jx (x:T_Regex):1≤parts x:=by obtain ⟨k,s,l⟩:=x; simp [parts]
theorem fI (l:List T_Regex):l.length≤bp l:=by
  induction l with
  | nil=>simp
  | cons y l ih=>simp only [List.length_cons,bp]; have:=jx y; omega
end Go.Proofs.YtlcdifnmkafcfaaGreat
namespace Go.Proofs.YtlcdifnmkafcfaaGreat
open Go.Lx
open Classical
def de:T_Regex:=⟨1,aA.zero 4,[]⟩
def cL:T_Regex:=⟨2,aA.zero 4,[]⟩
mutual
def nb:T_Regex→Bool
  | ⟨k,_,l⟩=>bif k == 2 || k == 6 then true else bif k == 4 then zS l else bif k == 5 then zR l else false
def zS:List T_Regex→Bool
  | []=>true
  | y::l=>nb y && zS l
def zR:List T_Regex→Bool
  | []=>false
  | y::l=>nb y || zR l
end
def mc (r:T_Regex):List T_Regex:=(bif r.Kind == 5 then r.Kids else [r]).filter (·.Kind != 1)
noncomputable def fX (ks:List T_Regex) (k:T_Regex):List T_Regex:=if k∈ks then ks else ks++[k]
noncomputable def kF (l:List T_Regex):List T_Regex:=(l.flatMap mc).foldl fX []
def wr (k:Int) (e:T_Regex):List T_Regex→T_Regex
  | []=>e
  | [y]=>y
  | y::z::l=>⟨k,aA.zero 4,y::z::l⟩
noncomputable def un (l:List T_Regex):T_Regex:=wr 5 de (kF l)
def ne (l:List T_Regex):List T_Regex:=l.filter (·.Kind != 2)
def ct (l:List T_Regex):T_Regex:=match l.find? (·.Kind == 1) with
  | some e=>e
  | none=>wr 4 cL (ne l)
mutual
noncomputable def dr:T_Regex→Nat→T_Regex
  | ⟨k,s,l⟩,b=>bif k == 3 then (bif mem s b then cL else de) else bif k == 4 then un (lk l b) else bif k == 5 then un (lj l b)
    else bif k == 6 then ct [(lj l b).headD de,⟨k,s,l⟩] else de
noncomputable def lk:List T_Regex→Nat→List T_Regex
  | [],_=>[]
  | y::l,b=>ct (dr y b::l)::(bif nb y then lk l b else [])
noncomputable def lj:List T_Regex→Nat→List T_Regex
  | [],_=>[]
  | y::l,b=>dr y b::lj l b
end
inductive St (P:List Nat→Prop):List Nat→Prop where
  | nil:St P []
  | cons {u v:List Nat}:P u→St P v→St P (u++v)
mutual
def L:T_Regex→List Nat→Prop
  | ⟨k,s,l⟩=>fun w=>(k=2∧w=[])∨(k=3∧∃b,w=[b]∧mem s b=true)∨(k=4∧LC l w)∨(k=5∧LU l w)∨(k=6∧St (LH l) w)
def LC:List T_Regex→List Nat→Prop
  | []=>fun w=>w=[]
  | y::l=>fun w=>∃u v,w=u++v∧L y u∧LC l v
def LU:List T_Regex→List Nat→Prop
  | []=>fun _=>False
  | y::l=>fun w=>L y w∨LU l w
def LH:List T_Regex→List Nat→Prop
  | []=>fun _=>False
  | y::_=>fun w=>L y w
end
theorem zW {s l w}:¬ L ⟨1,s,l⟩ w:=by simp [L]
theorem yI {x:T_Regex} {w:List Nat} (h:x.Kind=1):¬ L x w:=by obtain ⟨k,s,l⟩:=x; cases h; exact zW
theorem zb {s l w}:L ⟨2,s,l⟩ w↔w=[]:=by simp [L]
theorem Bm {x:T_Regex} {w:List Nat} (h:x.Kind=2):L x w↔w=[]:=by obtain ⟨k,s,l⟩:=x; cases h; exact zb
theorem zV {s l w}:L ⟨3,s,l⟩ w↔∃b,w=[b]∧mem s b=true:=by simp [L]
theorem Bn {s l w}:L ⟨4,s,l⟩ w↔LC l w:=by simp [L]
theorem zU {s l w}:L ⟨5,s,l⟩ w↔LU l w:=by simp [L]
theorem zN {s l w}:L ⟨6,s,l⟩ w↔St (LH l) w:=by simp [L]
theorem Bq {k s l w} (h2:k≠2) (h3:k≠3) (h4:k≠4) (h5:k≠5) (h6:k≠6):¬ L ⟨k,s,l⟩ w:=by simp [L,h2,h3,h4,h5,h6]
theorem ow {l:List T_Regex} {w:List Nat}:LU l w↔∃y∈l,L y w:=by
  induction l with
  | nil=>simp [LU]
  | cons y l ih=>simp [LU,ih]
theorem vR (l:List T_Regex):zS l=l.all nb:=by
  induction l with
  | nil=>rfl
  | cons y l ih=>simp [zS,ih]
theorem sL (l:List T_Regex):zR l=l.any nb:=by
  induction l with
  | nil=>rfl
  | cons y l ih=>simp [zR,ih]
theorem zO {l:List T_Regex}:LC l []↔∀y∈l,L y []:=by
  induction l with
  | nil=>simp [LC]
  | cons y l ih=>
    simp only [LC,List.nil_eq,List.append_eq_nil_iff,List.mem_cons,forall_eq_or_imp]
    rw [←ih]
    exact ⟨fun ⟨u,v,⟨e1,e2⟩,h1,h2⟩=>by subst e1; subst e2; exact ⟨h1,h2⟩,fun ⟨h1,h2⟩=>⟨[],[],⟨rfl,rfl⟩,h1,h2⟩⟩
theorem tS {α:Type} {a:α} {l:List α} {P:α→Prop}:(∃r,r∈a::l∧P r)↔P a∨∃r,r∈l∧P r:=by simp
theorem ea (k:Int):k=2∨k=3∨k=4∨k=5∨k=6∨(k≠2∧k≠3∧k≠4∧k≠5∧k≠6):=by omega
theorem vQ:∀x,nb x=true↔L x []:=by
  refine T_Regex.ind fun k s l ih=>?_
  rcases ea k with rfl|rfl|rfl|rfl|rfl|⟨c,d,b,a,h6⟩
  · simp [nb,zb]
  · simp [nb,zV]
  · rw [Bn,zO]
    show zS l=true↔_
    rw [vR,List.all_eq_true]
    exact ⟨fun h y hy=>(ih y hy).1 (h y hy),fun h y hy=>(ih y hy).2 (h y hy)⟩
  · rw [zU,ow]
    show zR l=true↔_
    rw [sL,List.any_eq_true]
    exact ⟨fun ⟨y,hy,h⟩=>⟨y,hy,(ih y hy).1 h⟩,fun ⟨y,hy,h⟩=>⟨y,hy,(ih y hy).2 h⟩⟩
  · rw [zN]
    exact ⟨fun _=>.nil,fun _=>rfl⟩
  · have:=@Bq k s l [] c d b a h6
    simp [nb,bL c,bL b,bL a,bL h6,this]
theorem vV {ks:List T_Regex} {k a:T_Regex}:a∈fX ks k↔a∈ks∨a=k:=by
  unfold fX
  split
  · rename_i h
    exact ⟨.inl,fun h'=>h'.elim id fun e=>e ▸ h⟩
  · simp
theorem pd (l:List T_Regex):∀ks a,a∈l.foldl fX ks↔a∈ks∨a∈l:=by
  induction l with
  | nil=>simp
  | cons y l ih=>
    intro ks a
    rw [List.foldl_cons,ih,vV,List.mem_cons,or_assoc]
theorem jA {l:List T_Regex} {a:T_Regex}:a∈kF l↔∃r∈l,a∈mc r:=by
  unfold kF
  rw [pd,List.mem_flatMap]
  simp
theorem sI {ks:List T_Regex} {k:T_Regex} (h:ks.Nodup):(fX ks k).Nodup:=by
  unfold fX
  split
  · exact h
  · rename_i hk
    rw [List.nodup_append]
    exact ⟨h,by simp,fun a ha b hb=>by simp at hb; subst hb; exact fun e=>hk (e ▸ ha)⟩
theorem rb (l:List T_Regex):∀ks,ks.Nodup→(l.foldl fX ks).Nodup:=by
  induction l with
  | nil=>exact fun _ h=>h
  | cons y l ih=>exact fun ks h=>ih _ (sI h)
theorem jy (l:List T_Regex):(kF l).Nodup:=rb _ _ List.nodup_nil
theorem uB {α:Type} {l:List α}:∀ {m:List α},l.Nodup→(∀x∈l,x∈m)→l.length≤m.length:=by
  induction l with
  | nil=>intro m _ _; simp
  | cons a l ih=>
    intro m hn h
    have ha:=h a (by simp)
    obtain ⟨c,b,rfl⟩:=List.append_of_mem ha
    rw [List.nodup_cons] at hn
    have:=ih (m:=c++b) hn.2 (fun x hx=>by
      have hm:=h x (List.mem_cons_of_mem _ hx)
      simp only [List.mem_append,List.mem_cons] at hm ⊢
      rcases hm with hm|rfl|hm
      · exact .inl hm
      · exact absurd hx hn.1
      · exact .inr hm)
    simp only [List.length_append,List.length_cons] at this ⊢
    omega
theorem wY {r:T_Regex} {w:List Nat}:L r w↔∃a∈mc r,L a w:=by
  obtain ⟨k,s,l⟩:=r
  unfold mc
  by_cases h:k=5
  · subst h
    rw [zU,ow]
    simp only [beq_self_eq_true,cond_true,List.mem_filter]
    exact ⟨fun ⟨y,hy,h⟩=>⟨y,⟨hy,go fun e=>yI e h⟩,h⟩,fun ⟨y,hy,h⟩=>⟨y,hy.1,h⟩⟩
  · simp only [bL h,cond_false,List.mem_filter,List.mem_singleton]
    exact ⟨fun h'=>⟨_,⟨rfl,go fun e=>yI e h'⟩,h'⟩,fun ⟨y,hy,h⟩=>hy.1 ▸ h⟩
theorem zY {e:T_Regex} {l:List T_Regex} {w:List Nat} (he:∀w,¬ L e w):L (wr 5 e l) w↔∃y∈l,L y w:=by
  match l with
  | []=>simp [wr,he]
  | [y]=>simp [wr]
  | y::z::l=>rw [wr,zU,ow]
theorem zZ {l:List T_Regex} {w:List Nat}:L (un l) w↔∃r∈l,L r w:=by
  unfold un
  rw [zY (e:=de) fun w=>(zW:¬ L de w)]
  constructor
  · rintro ⟨a,ha,h⟩
    obtain ⟨r,hr,hra⟩:=jA.1 ha
    exact ⟨r,hr,wY.2 ⟨a,hra,h⟩⟩
  · rintro ⟨r,hr,h⟩
    obtain ⟨a,ha,h⟩:=wY.1 h
    exact ⟨a,jA.2 ⟨r,hr,ha⟩,h⟩
theorem Br {l:List T_Regex}:∀ {w:List Nat},LC (ne l) w↔LC l w:=by
  induction l with
  | nil=>intro w; rfl
  | cons y l ih=>
    intro w
    unfold ne
    by_cases h:y.Kind=2
    · rw [List.filter_cons,if_neg (by simp [h])]
      show LC (ne l) w↔_
      rw [ih]
      simp only [LC]
      constructor
      · exact fun h'=>⟨[],w,rfl,(Bm h).2 rfl,h'⟩
      · rintro ⟨u,v,rfl,hu,hv⟩
        rw [(Bm h).1 hu]
        exact hv
    · rw [List.filter_cons,if_pos (by simp [h])]
      show LC (y::ne l) w↔_
      simp only [LC,ih]
theorem zP {l:List T_Regex}:∀ {w:List Nat},LC l w→∀y∈l,∃u,L y u:=by
  induction l with
  | nil=>intro w _ y hy; cases hy
  | cons z l ih=>
    rintro w ⟨u,v,rfl,hu,hv⟩ y hy
    rcases List.mem_cons.1 hy with rfl|hy
    · exact ⟨u,hu⟩
    · exact ih hv y hy
theorem Ay {l:List T_Regex} {w:List Nat}:L (ct l) w↔LC l w:=by
  unfold ct
  split
  · rename_i e he
    have a:e.Kind=1:=by simpa using List.find?_some he
    exact ⟨fun h=>absurd h (yI a),fun h=>by obtain ⟨u,hu⟩:=zP h e (List.mem_of_find?_eq_some he); exact absurd hu (yI a)⟩
  · rw [←Br]
    match ne l with
    | []=>rw [wr,LC]; exact zb
    | [y]=>simp [wr,LC]
    | y::z::l=>rw [wr,Bn]
theorem fQ {b:Nat} {w u v:List Nat}:b::w=u++v↔(u=[]∧v=b::w)∨∃u',u=b::u'∧w=u'++v:=by
  cases u with
  | nil=>simp [eq_comm]
  | cons c u=>
    simp only [List.cons_append,List.cons.injEq,reduceCtorEq,false_and,false_or]
    exact ⟨fun ⟨h1,h2⟩=>⟨u,⟨h1.symm,rfl⟩,h2⟩,fun ⟨u',⟨h1,h2⟩,h3⟩=>⟨h1.symm,h2 ▸ h3⟩⟩
theorem qn {P:List Nat→Prop} {b:Nat} {w:List Nat}:St P (b::w)↔∃u v,w=u++v∧P (b::u)∧St P v:=by
  constructor
  · intro h
    generalize hx:b::w=x at h
    induction h with
    | nil=>cases hx
    | @cons u v hu hv ih=>
      rcases fQ.1 hx with ⟨rfl,rfl⟩|⟨u',rfl,rfl⟩
      · exact ih rfl
      · exact ⟨u',v,rfl,hu,hv⟩
  · rintro ⟨u,v,rfl,hu,hv⟩
    exact .cons (u:=b::u) hu hv
theorem yK {y:T_Regex} {l:List T_Regex} {b:Nat} {w:List Nat} :
    LC (y::l) (b::w)↔(L y []∧LC l (b::w))∨∃u v,w=u++v∧L y (b::u)∧LC l v:=by
  simp only [LC]
  constructor
  · rintro ⟨u,v,h,hu,hv⟩
    rcases fQ.1 h with ⟨rfl,rfl⟩|⟨u',rfl,rfl⟩
    · exact .inl ⟨hu,hv⟩
    · exact .inr ⟨u',v,rfl,hu,hv⟩
  · rintro (⟨hu,hv⟩|⟨u,v,rfl,hu,hv⟩)
    · exact ⟨[],_,rfl,hu,hv⟩
    · exact ⟨b::u,v,rfl,hu,hv⟩
theorem Ax {l:List T_Regex} {b:Nat}:∀ {w:List Nat},(∀y∈l,∀w,L (dr y b) w↔L y (b::w))→((∃r∈lk l b,L r w)↔LC l (b::w)):=by
  induction l with
  | nil=>intro w _; simp [lk,LC]
  | cons y l ih=>
    intro w h
    rw [yK,lk]
    simp only [tS,Ay]
    have a:LC (dr y b::l) w↔∃u v,w=u++v∧L y (b::u)∧LC l v:=by simp only [LC,h y (by simp)]
    rw [a,←vQ]
    cases hn:nb y
    · simp
    · have:=ih (w:=w) fun z hz=>h z (List.mem_cons_of_mem _ hz)
      simp only [cond_true,this,true_and]
      exact or_comm
theorem Aw {l:List T_Regex} {b:Nat} {w:List Nat} (h:∀y∈l,∀w,L (dr y b) w↔L y (b::w)):(∃r∈lj l b,L r w)↔LU l (b::w):=by
  induction l with
  | nil=>simp [lj,LU]
  | cons y l ih=>
    rw [lj,LU]
    simp only [tS,h y (by simp),ih fun z hz=>h z (List.mem_cons_of_mem _ hz)]
theorem BE:∀x b w,L (dr x b) w↔L x (b::w):=by
  intro x b
  revert x
  refine T_Regex.ind fun k s l ih w=>?_
  rcases ea k with rfl|rfl|rfl|rfl|rfl|⟨g,e,d,a,h6⟩
  · rw [zb]
    simp [dr,de,zW]
  · rw [zV]
    simp only [dr,beq_self_eq_true,cond_true]
    cases hm:mem s b
    · simp only [cond_false]
      refine ⟨fun h=>absurd h zW,?_⟩
      rintro ⟨c,hc,h⟩
      simp only [List.cons.injEq] at hc
      rw [←hc.1,hm] at h
      cases h
    · simp only [cond_true]
      refine zb.trans ⟨fun h=>⟨b,by rw [h],hm⟩,?_⟩
      rintro ⟨c,hc,h⟩
      simp only [List.cons.injEq] at hc
      exact hc.2
  · rw [Bn]
    show L (un (lk l b)) w↔_
    rw [zZ,Ax ih]
  · rw [zU]
    show L (un (lj l b)) w↔_
    rw [zZ,Aw ih]
  · rw [zN]
    show L (ct [(lj l b).headD de,⟨6,s,l⟩]) w↔_
    rw [Ay,qn]
    have hh:∀u,L ((lj l b).headD de) u↔LH l (b::u):=by
      intro u
      cases l with
      | nil=>simp [lj,LH,de,zW]
      | cons y l=>simp [lj,LH,ih]
    simp only [LC,hh,zN]
    constructor
    · rintro ⟨u,v,rfl,hu,f,i,rfl,hv,rfl⟩
      exact ⟨u,f,by simp,hu,hv⟩
    · rintro ⟨u,v,rfl,hu,hv⟩
      exact ⟨u,v,rfl,hu,v,[],by simp,hv,rfl⟩
  · rw [iff_false_intro (Bq g e d a h6)]
    simp [dr,bL e,bL d,bL a,bL h6,de,zW]
noncomputable def fO (x:T_Regex) (w:List Nat):T_Regex:=w.foldl dr x
theorem Au (w:List Nat):∀x u,L (fO x w) u↔L x (w++u):=by
  induction w with
  | nil=>intro x u; rfl
  | cons b w ih=>
    intro x u
    show L (fO (dr x b) w) u↔_
    rw [ih,BE]
    rfl
end Go.Proofs.YtlcdifnmkafcfaaGreat
namespace Go.Proofs.YtlcdifnmkafcfaaGreat
open Go.Lx
structure Pt where
  nl:Bool
  fi:List Nat
  la:List Nat
structure Bs where
  S:List (aA 4)
  P:List (Nat×Nat)
def dH (a b:List Nat):List (Nat×Nat):=a.flatMap fun p=>b.map fun q=>(p,q)
theorem hZ {a b:List Nat} {p q:Nat}:(p,q)∈dH a b↔p∈a∧q∈b:=by
  unfold dH
  rw [List.mem_flatMap]
  constructor
  · rintro ⟨x,hx,h⟩
    obtain ⟨y,hy,e⟩:=List.mem_map.1 h
    cases e
    exact ⟨hx,hy⟩
  · rintro ⟨h1,h2⟩
    exact ⟨p,h1,List.mem_map.2 ⟨q,h2,rfl⟩⟩
theorem jE (a b:List Nat):(dH a b).length=a.length*b.length:=by
  unfold dH
  induction a with
  | nil=>simp
  | cons x a ih=>rw [List.flatMap_cons,List.length_append,ih,List.length_map,List.length_cons,Nat.succ_mul]; omega
def eQ (x y:Pt):Pt:=⟨x.nl && y.nl,bif x.nl then x.fi++y.fi else x.fi,bif y.nl then x.la++y.la else y.la⟩
def kG (x y:Pt):Pt:=⟨x.nl || y.nl,x.fi++y.fi,x.la++y.la⟩
mutual
def bd:T_Regex→Bs→Pt×Bs
  | ⟨k,s,l⟩,b=>bif k == 3 then (⟨false,[b.S.length+1],[b.S.length+1]⟩,⟨b.S++[s],b.P⟩) else bif k == 4 then fW l ⟨true,[],[]⟩ b else bif k == 5 then gP l ⟨false,[],[]⟩ b else bif k == 6 then yr l b else (⟨k == 2,[],[]⟩,b)
def fW:List T_Regex→Pt→Bs→Pt×Bs
  | [],x,b=>(x,b)
  | y::l,x,b=>fW l (eQ x (bd y b).1) ⟨(bd y b).2.S,(bd y b).2.P++dH x.la (bd y b).1.fi⟩
def gP:List T_Regex→Pt→Bs→Pt×Bs
  | [],x,b=>(x,b)
  | y::l,x,b=>gP l (kG x (bd y b).1) (bd y b).2
def yr:List T_Regex→Bs→Pt×Bs
  | [],b=>(⟨true,[],[]⟩,b)
  | y::_,b=>(⟨true,(bd y b).1.fi,(bd y b).1.la⟩,⟨(bd y b).2.S,(bd y b).2.P++dH (bd y b).1.la (bd y b).1.fi⟩)
end
def mJ (M E:Nat→Nat→Prop):Nat→List Nat→Nat→Prop
  | p,[],q=>p=q
  | p,b::w,q=>∃r,E p r∧M r b∧mJ M E r w q
section
variable {M E F:Nat→Nat→Prop}
theorem hO {R:Nat→Prop} (h:∀p r,R p→(E p r↔F p r)) (hc:∀p r,R p→E p r→R r):∀(w:List Nat) {p q:Nat},R p→(mJ M E p w q↔mJ M F p w q)
  | [],p,q,_=>Iff.rfl
  | b::w,p,q,hp=>by
    simp only [mJ]
    constructor
    · rintro ⟨r,a,d,c⟩
      exact ⟨r,(h p r hp).1 a,d,(hO h hc w (hc p r hp a)).1 c⟩
    · rintro ⟨r,a,d,c⟩
      have a:=(h p r hp).2 a
      exact ⟨r,a,d,(hO h hc w (hc p r hp a)).2 c⟩
theorem kX (h:∀p r,E p r→F p r):∀(w:List Nat) {p q:Nat},mJ M E p w q→mJ M F p w q
  | [],_,_,e=>e
  | _::w,_,_,⟨r,h1,h2,h3⟩=>⟨r,h _ _ h1,h2,kX h w h3⟩
theorem nH {R:Nat→Prop} (hc:∀p r,R p→E p r→R r):∀(w:List Nat) {p q:Nat},R p→mJ M E p w q→R q
  | [],_,_,hp,e=>by cases e; exact hp
  | _::w,p,_,hp,⟨r,h1,_,h3⟩=>nH hc w (hc p r hp h1) h3
theorem pR:∀(u:List Nat) {v:List Nat} {b p l f q:Nat},mJ M E p u l→E l f→M f b→mJ M E f v q→mJ M E p (u++b::v) q
  | [],_,_,_,_,_,_,e,h1,h2,h3=>by cases e; exact ⟨_,h1,h2,h3⟩
  | _::u,_,_,_,_,_,_,⟨r,a1,a2,a3⟩,h1,h2,h3=>⟨r,a1,a2,pR u a3 h1 h2 h3⟩
structure mI (M E:Nat→Nat→Prop) (x:Pt) (G:List Nat→Prop):Prop where
  nl:x.nl=true↔G []
  ac:∀b w,G (b::w)↔∃p∈x.fi,M p b∧∃q∈x.la,mJ M E p w q
structure kc (E:Nat→Nat→Prop) (x:Pt) (a c:Nat):Prop where
  le:a≤c
  fi:∀p∈x.fi,a<p∧p≤c
  la:∀p∈x.la,a<p∧p≤c
  e:∀p q,E p q→(a<p∧p≤c)∧(a<q∧q≤c)
theorem mI.congr {x:Pt} {G G':List Nat→Prop} (h:mI M E x G) (e:∀w,G w↔G' w):mI M E x G':=⟨h.nl.trans (e _),fun b w=>(e _).symm.trans (h.ac b w)⟩
theorem mI.edges {x:Pt} {G:List Nat→Prop} (h:mI M E x G) (e:∀p q,E p q↔F p q):mI M F x G:=by
  have:E=F:=funext fun p=>funext fun q=>propext (e p q)
  rw [←this]; exact h
theorem kc.edges {x:Pt} {a c:Nat} (h:kc E x a c) (e:∀p q,E p q↔F p q):kc F x a c:=by
  have:E=F:=funext fun p=>funext fun q=>propext (e p q)
  rw [←this]; exact h
variable {x y:Pt} {a m c:Nat} {Gx Gy:List Nat→Prop}
def uX (E F:Nat→Nat→Prop) (x y:Pt) (p q:Nat):Prop:=(E p q∨F p q)∨(p∈x.la∧q∈y.fi)
theorem jw (hx:kc E x a m) (hy:kc F y m c) {w:List Nat} {p q:Nat} (hp:m<p∧p≤c):mJ M (uX E F x y) p w q↔mJ M F p w q:=by
  refine hO (R:=fun p=>m<p∧p≤c) (fun p r hp=>?_) (fun p r hp h=>?_) w hp
  · constructor
    · rintro ((h|h)|h)
      · have:=(hx.e _ _ h).1; omega
      · exact h
      · have:=hx.la _ h.1; omega
    · exact fun h=>.inl (.inr h)
  · rcases h with (h|h)|h
    · have:=(hx.e _ _ h).1; omega
    · exact (hy.e _ _ h).2
    · have:=hx.la _ h.1; omega
theorem je (hx:kc E x a m) (hy:kc F y m c):∀(w:List Nat) {p q:Nat},(a<p∧p≤m)→(mJ M (uX E F x y) p w q↔((a<q∧q≤m)∧mJ M E p w q)∨∃u b v l f,w=u++b::v∧l∈x.la∧mJ M E p u l∧f∈y.fi∧M f b∧mJ M F f v q)
  | [],p,q,hp=>by
    constructor
    · intro e
      cases e
      exact .inl ⟨hp,rfl⟩
    · rintro (⟨_,h⟩|⟨u,b,v,l,f,h,_⟩)
      · exact h
      · cases u <;> cases h
  | b::w,p,q,hp=>by
    constructor
    · rintro ⟨r,(h|h)|h,g,d⟩
      · rcases (je hx hy w (hx.e _ _ h).2).1 d with ⟨hq,d⟩|⟨u,b',v,l,f,rfl,j,i,h6⟩
        · exact .inl ⟨hq,r,h,g,d⟩
        · exact .inr ⟨b::u,b',v,l,f,rfl,j,⟨r,h,g,i⟩,h6⟩
      · have:=(hy.e _ _ h).1; omega
      · exact .inr ⟨[],b,w,p,r,rfl,h.1,rfl,h.2,g,(jw hx hy (hy.fi _ h.2)).1 d⟩
    · rintro (⟨hq,r,k,g,d⟩|⟨u,b',v,l,f,e,j,i,h6,o,n⟩)
      · exact ⟨r,.inl (.inl k),g,(je hx hy w (hx.e _ _ k).2).2 (.inl ⟨hq,d⟩)⟩
      · rw [e]
        exact pR u (kX (fun p r h=>.inl (.inl h)) u i) (.inr ⟨j,h6⟩) o ((jw hx hy (hy.fi _ h6)).2 n)
theorem kc.cat (hx:kc E x a m) (hy:kc F y m c):kc (uX E F x y) (eQ x y) a c:=by
  have d:=hx.le
  have b:=hy.le
  refine ⟨by omega,fun p hp=>?_,fun p hp=>?_,fun p q h=>?_⟩
  · unfold eQ at hp
    cases hn:x.nl <;> simp only [hn,cond_false,cond_true,List.mem_append] at hp
    · have:=hx.fi _ hp; omega
    · rcases hp with hp|hp
      · have:=hx.fi _ hp; omega
      · have:=hy.fi _ hp; omega
  · unfold eQ at hp
    cases hn:y.nl <;> simp only [hn,cond_false,cond_true,List.mem_append] at hp
    · have:=hy.la _ hp; omega
    · rcases hp with hp|hp
      · have:=hx.la _ hp; omega
      · have:=hy.la _ hp; omega
  · rcases h with (h|h)|h
    · have:=hx.e _ _ h; omega
    · have:=hy.e _ _ h; omega
    · have:=hx.la _ h.1
      have:=hy.fi _ h.2
      omega
theorem jC {p:Nat}:p∈(eQ x y).fi↔p∈x.fi∨(x.nl=true∧p∈y.fi):=by
  unfold eQ
  cases x.nl <;> simp
theorem fH {p:Nat}:p∈(eQ x y).la↔p∈y.la∨(y.nl=true∧p∈x.la):=by
  unfold eQ
  cases y.nl <;> simp [or_comm]
theorem mI.cat (hx:mI M E x Gx) (hy:mI M F y Gy) (rx:kc E x a m) (ry:kc F y m c):mI M (uX E F x y) (eQ x y) (fun w=>∃u v,w=u++v∧Gx u∧Gy v):=by
  refine ⟨?_,fun b w=>?_⟩
  · unfold eQ
    rw [Bool.and_eq_true,hx.nl,hy.nl]
    constructor
    · rintro ⟨g,d⟩; exact ⟨[],[],rfl,g,d⟩
    · rintro ⟨u,v,e,g,d⟩
      obtain ⟨rfl,rfl⟩:=List.append_eq_nil_iff.1 e.symm
      exact ⟨g,d⟩
  · constructor
    · rintro ⟨u,v,e,g,d⟩
      rcases fQ.1 e with ⟨rfl,rfl⟩|⟨u,rfl,rfl⟩
      · obtain ⟨p,hp,hm,q,hq,h⟩:=(hy.ac b w).1 d
        exact ⟨p,jC.2 (.inr ⟨hx.nl.2 g,hp⟩),hm,q,fH.2 (.inl hq),(jw rx ry (ry.fi _ hp)).2 h⟩
      · obtain ⟨p,hp,hm,l,hl,h⟩:=(hx.ac b u).1 g
        cases v with
        | nil=>
          refine ⟨p,jC.2 (.inl hp),hm,l,fH.2 (.inr ⟨hy.nl.2 d,hl⟩),?_⟩
          rw [List.append_nil]
          exact (je rx ry u (rx.fi _ hp)).2 (.inl ⟨rx.la _ hl,h⟩)
        | cons b' v=>
          obtain ⟨f,hf,hm',q,hq,h'⟩:=(hy.ac b' v).1 d
          exact ⟨p,jC.2 (.inl hp),hm,q,fH.2 (.inl hq),(je rx ry _ (rx.fi _ hp)).2 (.inr ⟨u,b',v,l,f,rfl,hl,h,hf,hm',h'⟩)⟩
    · rintro ⟨p,hp,hm,q,hq,h⟩
      rcases jC.1 hp with hp|⟨hn,hp⟩
      · rcases (je rx ry w (rx.fi _ hp)).1 h with ⟨hr,h⟩|⟨u,b',v,l,f,rfl,hl,g,hf,hm',d⟩
        · rcases fH.1 hq with hq|⟨hn,hq⟩
          · have:=ry.la _ hq; omega
          · exact ⟨b::w,[],by simp,(hx.ac b w).2 ⟨p,hp,hm,q,hq,h⟩,hy.nl.1 hn⟩
        · have hq':q∈y.la:=by
            rcases fH.1 hq with hq|⟨_,hq⟩
            · exact hq
            · have i:=nH (R:=fun p=>m<p∧p≤c) (fun p r _ h=>(ry.e _ _ h).2) v (ry.fi _ hf) d
              have j:=rx.la _ hq
              have i:m<q∧q≤c:=i
              omega
          exact ⟨b::u,b'::v,rfl,(hx.ac b u).2 ⟨p,hp,hm,l,hl,g⟩,(hy.ac b' v).2 ⟨f,hf,hm',q,hq',d⟩⟩
      · have d:=(jw rx ry (ry.fi _ hp)).1 h
        have hq':q∈y.la:=by
          rcases fH.1 hq with hq|⟨_,hq⟩
          · exact hq
          · have i:=nH (R:=fun p=>m<p∧p≤c) (fun p r _ h=>(ry.e _ _ h).2) w (ry.fi _ hp) d
            have j:=rx.la _ hq
            have i:m<q∧q≤c:=i
            omega
        exact ⟨[],b::w,rfl,hx.nl.1 hn,(hy.ac b w).2 ⟨p,hp,hm,q,hq',d⟩⟩
def uk (E F:Nat→Nat→Prop) (p q:Nat):Prop:=E p q∨F p q
theorem qU (hx:kc E x a m) (hy:kc F y m c) {w:List Nat} {p q:Nat} (hp:a<p∧p≤m):mJ M (uk E F) p w q↔mJ M E p w q:=by
  refine hO (R:=fun p=>a<p∧p≤m) (fun p r hp=>?_) (fun p r hp h=>?_) w hp
  · exact ⟨fun h=>h.elim id fun h=>(by have:=(hy.e _ _ h).1; omega),.inl⟩
  · rcases h with h|h
    · exact (hx.e _ _ h).2
    · have:=(hy.e _ _ h).1; omega
theorem qT (hx:kc E x a m) (hy:kc F y m c) {w:List Nat} {p q:Nat} (hp:m<p∧p≤c):mJ M (uk E F) p w q↔mJ M F p w q:=by
  refine hO (R:=fun p=>m<p∧p≤c) (fun p r hp=>?_) (fun p r hp h=>?_) w hp
  · exact ⟨fun h=>h.elim (fun h=>(by have:=(hx.e _ _ h).1; omega)) id,.inr⟩
  · rcases h with h|h
    · have:=(hx.e _ _ h).1; omega
    · exact (hy.e _ _ h).2
theorem kc.uni (hx:kc E x a m) (hy:kc F y m c):kc (uk E F) (kG x y) a c:=by
  have d:=hx.le
  have b:=hy.le
  refine ⟨by omega,fun p hp=>?_,fun p hp=>?_,fun p q h=>?_⟩
  · rcases List.mem_append.1 hp with hp|hp
    · have:=hx.fi _ hp; omega
    · have:=hy.fi _ hp; omega
  · rcases List.mem_append.1 hp with hp|hp
    · have:=hx.la _ hp; omega
    · have:=hy.la _ hp; omega
  · rcases h with h|h
    · have:=hx.e _ _ h; omega
    · have:=hy.e _ _ h; omega
theorem mI.uni (hx:mI M E x Gx) (hy:mI M F y Gy) (rx:kc E x a m) (ry:kc F y m c):mI M (uk E F) (kG x y) (fun w=>Gx w∨Gy w):=by
  refine ⟨?_,fun b w=>?_⟩
  · unfold kG
    rw [Bool.or_eq_true,hx.nl,hy.nl]
  · rw [hx.ac,hy.ac]
    constructor
    · rintro (⟨p,hp,hm,q,hq,h⟩|⟨p,hp,hm,q,hq,h⟩)
      · exact ⟨p,List.mem_append_left _ hp,hm,q,List.mem_append_left _ hq,(qU rx ry (rx.fi _ hp)).2 h⟩
      · exact ⟨p,List.mem_append_right _ hp,hm,q,List.mem_append_right _ hq,(qT rx ry (ry.fi _ hp)).2 h⟩
    · rintro ⟨p,hp,hm,q,hq,h⟩
      rcases List.mem_append.1 hp with hp|hp
      · have h:=(qU rx ry (rx.fi _ hp)).1 h
        have d:a<q∧q≤m:=nH (R:=fun p=>a<p∧p≤m) (fun p r _ h=>(rx.e _ _ h).2) w (rx.fi _ hp) h
        rcases List.mem_append.1 hq with hq|hq
        · exact .inl ⟨p,hp,hm,q,hq,h⟩
        · have:=ry.la _ hq; omega
      · have h:=(qT rx ry (ry.fi _ hp)).1 h
        have d:m<q∧q≤c:=nH (R:=fun p=>m<p∧p≤c) (fun p r _ h=>(ry.e _ _ h).2) w (ry.fi _ hp) h
        rcases List.mem_append.1 hq with hq|hq
        · have:=rx.la _ hq; omega
        · exact .inr ⟨p,hp,hm,q,hq,h⟩
def oW (E:Nat→Nat→Prop) (x:Pt) (p q:Nat):Prop:=E p q∨(p∈x.la∧q∈x.fi)
theorem kc.star (hx:kc E x a c):kc (oW E x) ⟨true,x.fi,x.la⟩ a c:=by
  refine ⟨hx.le,hx.fi,hx.la,fun p q h=>?_⟩
  rcases h with h|h
  · exact hx.e _ _ h
  · exact ⟨hx.la _ h.1,hx.fi _ h.2⟩
theorem tA (hx:mI M E x Gx):∀(w:List Nat) {p q:Nat},q∈x.la→mJ M (oW E x) p w q→∃u v l,w=u++v∧l∈x.la∧mJ M E p u l∧St Gx v
  | [],p,q,hq,e=>by cases e; exact ⟨[],[],p,rfl,hq,rfl,.nil⟩
  | b::w,p,q,hq,⟨r,a,f,g⟩=>by
    obtain ⟨u,v,l,rfl,hl,d,c⟩:=tA hx w hq g
    rcases a with a|⟨hp,hr⟩
    · exact ⟨b::u,v,l,rfl,hl,⟨r,a,f,d⟩,c⟩
    · exact ⟨[],b::(u++v),p,rfl,hp,rfl,St.cons (u:=b::u) ((hx.ac b u).2 ⟨r,hr,f,l,hl,d⟩) c⟩
theorem xv (hx:mI M E x Gx) {v:List Nat} (h:St Gx v):∀ {u:List Nat} {p l:Nat},l∈x.la→mJ M E p u l→∃q∈x.la,mJ M (oW E x) p (u++v) q:=by
  induction h with
  | nil=>intro u p l hl h; rw [List.append_nil]; exact ⟨l,hl,kX (fun _ _ h=>.inl h) u h⟩
  | @cons a g e _ ih=>
    intro u p l hl h
    cases a with
    | nil=>exact ih hl h
    | cons b a=>
      obtain ⟨f,hf,hm,l',hl',d⟩:=(hx.ac b a).1 e
      obtain ⟨q,hq,c⟩:=ih hl' d
      exact ⟨q,hq,pR u (kX (fun _ _ h=>.inl h) u h) (.inr ⟨hl,hf⟩) hm c⟩
theorem mI.star (hx:mI M E x Gx):mI M (oW E x) ⟨true,x.fi,x.la⟩ (St Gx):=by
  refine ⟨⟨fun _=>.nil,fun _=>rfl⟩,fun b w=>?_⟩
  rw [qn]
  constructor
  · rintro ⟨u,v,rfl,f,e⟩
    obtain ⟨p,hp,hm,l,hl,d⟩:=(hx.ac b u).1 f
    obtain ⟨q,hq,a⟩:=xv hx e hl d
    exact ⟨p,hp,hm,q,hq,a⟩
  · rintro ⟨p,hp,hm,q,hq,h⟩
    obtain ⟨u,v,l,rfl,hl,a,c⟩:=tA hx w hq h
    exact ⟨u,v,rfl,(hx.ac b u).2 ⟨p,hp,hm,l,hl,a⟩,c⟩
end
def zm (S:List (aA 4)) (p b:Nat):Prop:=∃v,S[p - 1]?=some v∧mem v b=true
def mN (Q:List (Nat×Nat)) (p q:Nat):Prop:=(p,q)∈Q
structure CB (b:Bs) (r:Pt×Bs) (T:List (aA 4)) (Q:List (Nat×Nat)) (G:List Nat→Prop):Prop where
  S:r.2.S=b.S++T
  P:r.2.P=b.P++Q
  rng:kc (mN Q) r.1 b.S.length r.2.S.length
  rep:∀U,(∃V,U=r.2.S++V)→mI (zm U) (mN Q) r.1 G
theorem iS {M E:Nat→Nat→Prop} {G:List Nat→Prop} {n:Bool} (hn:n=true↔G []) (h:∀b w,¬ G (b::w)):mI M E ⟨n,[],[]⟩ G:=⟨hn,fun b w=>⟨fun h'=>absurd h' (h b w),fun ⟨p,hp,_⟩=>by simp at hp⟩⟩
theorem iR {n:Bool} {a:Nat}:kc (mN []) ⟨n,[],[]⟩ a a:=⟨Nat.le_refl _,by simp,by simp,fun p q h=>by simp [mN] at h⟩
mutual
theorem iz:∀(x:T_Regex) (b:Bs),∃T Q,CB b (bd x b) T Q (L x)
  | ⟨k,s,l⟩,b=>by
    rcases ea k with rfl|rfl|rfl|rfl|rfl|⟨g,i,j,D,h6⟩
    · have e:bd ⟨2,s,l⟩ b=(⟨true,[],[]⟩,b):=by simp [bd]
      rw [e]
      exact ⟨[],[],by simp,by simp,iR,fun U _=>iS (by simp [zb]) (fun b w h=>by simp [zb] at h)⟩
    · have e:bd ⟨3,s,l⟩ b=(⟨false,[b.S.length+1],[b.S.length+1]⟩,⟨b.S++[s],b.P⟩):=by simp [bd]
      rw [e]
      refine ⟨[s],[],rfl,by simp,⟨by simp,by simp,by simp,fun p q h=>by simp [mN] at h⟩,fun U hU=>?_⟩
      obtain ⟨V,rfl⟩:=hU
      have hm:∀c,zm ((b.S++[s])++V) (b.S.length+1) c↔mem s c=true:=by
        intro c
        unfold zm
        rw [Nat.add_sub_cancel,List.append_assoc,List.getElem?_append_right (Nat.le_refl _),Nat.sub_self]
        simp
      refine ⟨by simp [zV],fun c w=>?_⟩
      rw [zV]
      constructor
      · rintro ⟨d,e,h⟩
        cases e
        exact ⟨_,List.mem_singleton.2 rfl,(hm c).2 h,_,List.mem_singleton.2 rfl,rfl⟩
      · rintro ⟨p,hp,h,q,hq,g⟩
        obtain rfl:=List.mem_singleton.1 hp
        obtain rfl:=List.mem_singleton.1 hq
        cases w with
        | nil=>exact ⟨c,rfl,(hm c).1 h⟩
        | cons d w=>obtain ⟨r,i,_⟩:=g; simp [mN] at i
    · have e:bd ⟨4,s,l⟩ b=fW l ⟨true,[],[]⟩ b:=by simp [bd]
      rw [e]
      obtain ⟨T,Q,m,g,i,j⟩:=rV l ⟨true,[],[]⟩ b [] (fun w=>w=[]) b.S.length iR (fun U _=>iS (by simp) (by simp))
      refine ⟨T,Q,m,g,i,fun U hU=>(j U hU).congr fun w=>?_⟩
      rw [Bn]
      constructor
      · rintro ⟨u,v,rfl,rfl,h⟩; exact h
      · exact fun h=>⟨[],w,rfl,rfl,h⟩
    · have e:bd ⟨5,s,l⟩ b=gP l ⟨false,[],[]⟩ b:=by simp [bd]
      rw [e]
      obtain ⟨T,Q,m,g,i,j⟩:=rS l ⟨false,[],[]⟩ b [] (fun _=>False) b.S.length iR (fun U _=>iS (by simp) (by simp))
      refine ⟨T,Q,m,g,i,fun U hU=>(j U hU).congr fun w=>?_⟩
      rw [zU]
      simp
    · have e:bd ⟨6,s,l⟩ b=yr l b:=by simp [bd]
      rw [e]
      match l with
      | []=>
        refine ⟨[],[],by simp [yr],by simp [yr],iR,fun U _=>iS ⟨fun _=>zN.2 .nil,fun _=>rfl⟩ (fun c w h=>?_)⟩
        rw [zN,qn] at h
        obtain ⟨u,v,_,h,_⟩:=h
        simp [LH] at h
      | y::l=>
        obtain ⟨T,Q,m,g,i,j⟩:=iz y b
        refine ⟨T,Q++dH (bd y b).1.la (bd y b).1.fi,m,?_,?_,fun U hU=>?_⟩
        · show (bd y b).2.P++_=_
          rw [g,List.append_assoc]
        · refine i.star.edges fun p q=>?_
          unfold oW mN
          rw [List.mem_append,hZ]
        · refine ((j U hU).star.edges fun p q=>?_).congr fun w=>?_
          · unfold oW mN
            rw [List.mem_append,hZ]
          · rw [zN]
            have:LH (y::l)=L y:=by funext w; simp [LH]
            rw [this]
    · have e:bd ⟨k,s,l⟩ b=(⟨false,[],[]⟩,b):=by simp only [bd,bL g,bL i,bL j,bL D,bL h6,cond_false]
      rw [e]
      exact ⟨[],[],by simp,by simp,iR,fun U _=>iS ⟨fun h=>(by cases h),fun h=>absurd h (Bq g i j D h6)⟩ (fun b w h=>absurd h (Bq g i j D h6))⟩
theorem rV:∀(l:List T_Regex) (x:Pt) (b:Bs) (f:List (Nat×Nat)) (G:List Nat→Prop) (a:Nat),kc (mN f) x a b.S.length→(∀U,(∃V,U=b.S++V)→mI (zm U) (mN f) x G)→
    ∃T Q,(fW l x b).2.S=b.S++T∧(fW l x b).2.P=b.P++Q∧kc (mN (f++Q)) (fW l x b).1 a (fW l x b).2.S.length∧∀U,(∃V,U=(fW l x b).2.S++V)→mI (zm U) (mN (f++Q)) (fW l x b).1 (fun w=>∃u v,w=u++v∧G u∧LC l v)
  | [],x,b,f,G,a,hr,hp=>by
    refine ⟨[],[],by simp [fW],by simp [fW],by simpa [fW] using hr,fun U hU=>?_⟩
    have h:=hp U (by simpa [fW] using hU)
    simp only [List.append_nil,fW]
    refine h.congr fun w=>⟨fun h=>⟨w,[],by simp,h,by simp [LC]⟩,?_⟩
    rintro ⟨u,v,rfl,m,g⟩
    simp only [LC] at g
    subst g
    rw [List.append_nil]; exact m
  | y::l,x,b,f,G,a,hr,hp=>by
    obtain ⟨z,n,o,A,t,B⟩:=iz y b
    have he:∀p q,uX (mN f) (mN n) x (bd y b).1 p q↔mN (f++(n++dH x.la (bd y b).1.fi)) p q:=by
      intro p q
      unfold uX mN
      rw [List.mem_append,List.mem_append,hZ,or_assoc]
    obtain ⟨T,Q,m,g,i,j⟩:=rV l (eQ x (bd y b).1) ⟨(bd y b).2.S,(bd y b).2.P++dH x.la (bd y b).1.fi⟩ (f++(n++dH x.la (bd y b).1.fi)) (fun w=>∃u v,w=u++v∧G u∧L y v) a ((hr.cat t).edges he)
      (fun U hU=>((hp U (by obtain ⟨V,rfl⟩:=hU; exact ⟨z++V,by simp only [o,List.append_assoc]⟩)).cat (B U hU) hr t).edges he)
    have e:fW (y::l) x b=fW l (eQ x (bd y b).1) ⟨(bd y b).2.S,(bd y b).2.P++dH x.la (bd y b).1.fi⟩:=by simp only [fW]
    rw [e]
    refine ⟨z++T,(n++dH x.la (bd y b).1.fi)++Q,by rw [m]; simp only [o,List.append_assoc],by rw [g]; simp only [A,List.append_assoc],by rw [←List.append_assoc]; exact i,fun U hU=>?_⟩
    rw [←List.append_assoc]
    refine (j U hU).congr fun w=>?_
    simp only [LC]
    constructor
    · rintro ⟨u,v,rfl,⟨N,J,rfl,g1,H⟩,F⟩
      exact ⟨N,J++v,by simp,g1,J,v,rfl,H,F⟩
    · rintro ⟨u,v,rfl,g1,I,K,rfl,H,F⟩
      exact ⟨u++I,K,by simp,⟨u,I,rfl,g1,H⟩,F⟩
theorem rS:∀(l:List T_Regex) (x:Pt) (b:Bs) (f:List (Nat×Nat)) (G:List Nat→Prop) (a:Nat),kc (mN f) x a b.S.length→(∀U,(∃V,U=b.S++V)→mI (zm U) (mN f) x G)→
    ∃T Q,(gP l x b).2.S=b.S++T∧(gP l x b).2.P=b.P++Q∧kc (mN (f++Q)) (gP l x b).1 a (gP l x b).2.S.length∧∀U,(∃V,U=(gP l x b).2.S++V)→mI (zm U) (mN (f++Q)) (gP l x b).1 (fun w=>G w∨LU l w)
  | [],x,b,f,G,a,hr,hp=>by
    refine ⟨[],[],by simp [gP],by simp [gP],by simpa [gP] using hr,fun U hU=>?_⟩
    have h:=hp U (by simpa [gP] using hU)
    simp only [List.append_nil,gP]
    exact h.congr fun w=>by simp [LU]
  | y::l,x,b,f,G,a,hr,hp=>by
    obtain ⟨z,n,o,A,t,B⟩:=iz y b
    have he:∀p q,uk (mN f) (mN n) p q↔mN (f++n) p q:=by
      intro p q
      unfold uk mN
      rw [List.mem_append]
    obtain ⟨T,Q,m,g,i,j⟩:=rS l (kG x (bd y b).1) (bd y b).2 (f++n) (fun w=>G w∨L y w) a ((hr.uni t).edges he)
      (fun U hU=>((hp U (by obtain ⟨V,rfl⟩:=hU; exact ⟨z++V,by simp only [o,List.append_assoc]⟩)).uni (B U hU) hr t).edges he)
    have e:gP (y::l) x b=gP l (kG x (bd y b).1) (bd y b).2:=by simp only [gP]
    rw [e]
    refine ⟨z++T,n++Q,by rw [m]; simp only [o,List.append_assoc],by rw [g]; simp only [A,List.append_assoc],by rw [←List.append_assoc]; exact i,fun U hU=>?_⟩
    rw [←List.append_assoc]
    refine (j U hU).congr fun w=>?_
    simp only [LU]
    rw [or_assoc]
end
end Go.Proofs.YtlcdifnmkafcfaaGreat
namespace Go.Proofs.YtlcdifnmkafcfaaGreat
open Go.Lx
def mq (l:List Nat):List Int:=l.map fun (n:Nat)=>(n:Int)
theorem dQ (l:List Nat):(mq l).length=l.length:=by simp [mq]
theorem pA {l:List Nat} {i:Nat} (h:i<l.length):bq (mq l) (i:Int)=some (l[i]:Int):=by
  rw [bi (by rw [dQ]; exact h)]; simp [mq]
theorem pB (a b:List Nat):mq (a++b)=mq a++mq b:=by simp [mq]
theorem eY {l:List T_Regex} {i:Nat} (hi:i<l.length):bp (l.take (i+1))=bp (l.take i)+parts l[i]:=by
  rw [List.take_add_one,List.getElem?_eq_getElem hi,gK]
  simp [bp]
theorem dA (l:List T_Regex) (i:Nat):bp (l.take i)≤bp l:=by
  have:=gK (l.take i) (l.drop i)
  rw [List.take_append_drop] at this
  omega
theorem sK {l:List T_Regex} {f:T_Regex→Option Int} (hf:∀y∈l,f y=some (parts y:Int)) (hl:bp l≤1000000000) {body:Int×Int→Option (cJ (Int×Int) Int)}
    (hb:∀n i,body (n,i)=bif decide (i<(l.length:Int)) then (bq l i).bind fun e=>(f e).bind fun r=>(bV .i64 (n+r)).bind fun t=>(bV .i64 (i+1)).bind fun u=>some (.next (t,u)) else some (.stop n)) :
    bg body aU ((1:Int),(0:Int))=some ((bp l+1:Nat):Int):=by
  refine Is.eq ?_
  have hlen:=fI l
  refine Is.upto (fun i (st:Int×Int)=>st.2=(i:Int)∧st.1=((bp (l.take i)+1:Nat):Int)) l.length (by omega) ⟨rfl,by simp [bp]⟩ ?_ ?_
  · rintro i ⟨n,_⟩ hi ⟨rfl,a⟩
    obtain rfl:n=_:=a
    have b:=eY hi
    have c:=dA l (i+1)
    rw [hb]
    refine Is.dt (by omega) (Is.bnq (bi hi) (Is.bnq (hf _ (List.getElem_mem hi)) (Is.bnq (x:=((bp (l.take (i+1))+1:Nat):Int)) ?_ (Is.bnq (aX (by omega)) (Is.next ⟨rfl,rfl⟩)))))
    rw [dv (by omega) (by omega),b]; congr 1; omega
  · rintro ⟨n,_⟩ ⟨rfl,a⟩
    obtain rfl:n=_:=a
    rw [hb,List.take_length]
    exact Is.df (by omega) (Is.stop rfl)
theorem qM:∀(fl:Nat) (x:T_Regex),parts x<fl→parts x≤1000000000→M.d2 fl x=some (parts x:Int):=by
  intro fl
  induction fl with
  | zero=>intro x h; omega
  | succ fl ih=>
    intro x c b
    obtain ⟨k,s,l⟩:=x
    have a:parts ⟨k,s,l⟩=bp l+1:=by simp [parts]
    rw [a] at c b
    unfold M.d2
    refine aO (sK (l:=l) (f:=fun y=>M.d2 fl y) (fun y hy=>ih y (by have:=dK hy; omega) (by have:=dK hy; omega)) (by omega) (fun _ _=>rfl)) ?_
    rw [a]
mutual
theorem fS:∀(x:T_Regex) (b:Bs),(bd x b).1.fi.length≤parts x∧(bd x b).1.la.length≤parts x∧(bd x b).2.S.length≤b.S.length+parts x
  | ⟨k,s,l⟩,b=>by
    simp only [parts,bd]
    refine ?_
    cases k == 3
    · cases k == 4
      · cases k == 5
        · cases k == 6
          · simp
          · match l with
            | []=>simp [yr]
            | y::l=>
              have h:=fS y b
              simp only [cond_false,cond_true,yr,bp]
              omega
        · have h:=qk l ⟨false,[],[]⟩ b
          simp only [cond_false,cond_true,List.length_nil] at h ⊢
          omega
      · have h:=ql l ⟨true,[],[]⟩ b
        simp only [cond_false,cond_true,List.length_nil] at h ⊢
        omega
    · simp
theorem ql:∀(l:List T_Regex) (x:Pt) (b:Bs),(fW l x b).1.fi.length≤x.fi.length+bp l∧(fW l x b).1.la.length≤x.la.length+bp l∧(fW l x b).2.S.length≤b.S.length+bp l
  | [],x,b=>by simp [fW]
  | y::l,x,b=>by
    have h:=fS y b
    have a:=ql l (eQ x (bd y b).1) ⟨(bd y b).2.S,(bd y b).2.P++dH x.la (bd y b).1.fi⟩
    have d:(eQ x (bd y b).1).fi.length≤x.fi.length+(bd y b).1.fi.length:=by unfold eQ; cases x.nl <;> simp
    have c:(eQ x (bd y b).1).la.length≤x.la.length+(bd y b).1.la.length:=by unfold eQ; cases (bd y b).1.nl <;> simp
    simp only [fW,bp]
    simp only at a
    omega
theorem qk:∀(l:List T_Regex) (x:Pt) (b:Bs),(gP l x b).1.fi.length≤x.fi.length+bp l∧(gP l x b).1.la.length≤x.la.length+bp l∧(gP l x b).2.S.length≤b.S.length+bp l
  | [],x,b=>by simp [gP]
  | y::l,x,b=>by
    have h:=fS y b
    have a:=qk l (kG x (bd y b).1) (bd y b).2
    have d:(kG x (bd y b).1).fi.length=x.fi.length+(bd y b).1.fi.length:=by simp [kG]
    have c:(kG x (bd y b).1).la.length=x.la.length+(bd y b).1.la.length:=by simp [kG]
    simp only [gP,bp]
    omega
end
theorem rT (y:T_Regex):∀(l:List T_Regex) (x:Pt) (b:Bs),fW (l++[y]) x b=(eQ (fW l x b).1 (bd y (fW l x b).2).1,⟨(bd y (fW l x b).2).2.S,(bd y (fW l x b).2).2.P++dH (fW l x b).1.la (bd y (fW l x b).2).1.fi⟩)
  | [],x,b=>by simp [fW]
  | z::l,x,b=>by simp only [List.cons_append,fW]; exact rT y l _ _
theorem rQ (y:T_Regex):∀(l:List T_Regex) (x:Pt) (b:Bs),gP (l++[y]) x b=(kG (gP l x b).1 (bd y (gP l x b).2).1,(bd y (gP l x b).2).2)
  | [],x,b=>by simp [gP]
  | z::l,x,b=>by simp only [List.cons_append,gP]; exact rQ y l _ _
theorem eC {α:Type} {l:List α} {i:Nat} (h:i<l.length):l.take (i+1)=l.take i++[l[i]]:=by rw [List.take_add_one,List.getElem?_eq_getElem h]; rfl
structure vc (beh:List (List (Int×Bool))) (n:Nat) (R:Nat→Nat→Prop):Prop where
  len:beh.length=n
  nd:∀(p:Nat) (m:List (Int×Bool)),beh[p]?=some m→(m.map (·.1)).Nodup
  mem:∀(p:Nat) (m:List (Int×Bool)),beh[p]?=some m→∀k:Int,k∈m.map (·.1)↔∃q:Nat,k=(q:Int)∧R p q
theorem vc.congr {beh:List (List (Int×Bool))} {n:Nat} {R R':Nat→Nat→Prop} (h:vc beh n R) (e:∀p q,R p q↔R' p q):vc beh n R':=by
  have:R=R':=funext fun p=>funext fun q=>propext (e p q)
  rw [←this]; exact h
theorem rf {m:List (Int×Bool)} {k a:Int} {v:Bool}:a∈(nM m k v).map (·.1)↔a∈m.map (·.1)∨a=k:=by
  induction m with
  | nil=>simp [nM]
  | cons p m ih=>
    unfold nM
    cases hp:p.1 == k
    · simp only [cond_false,List.map_cons,List.mem_cons,ih,or_assoc]
    · have e:p.1=k:=by simpa using hp
      simp only [cond_true,List.map_cons,List.mem_cons,e]
      constructor
      · rintro (h|h)
        · exact .inr h
        · exact .inl (.inr h)
      · rintro ((h|h)|h)
        · exact .inl h
        · exact .inr h
        · exact .inl h
theorem sH {m:List (Int×Bool)} {k:Int} {v:Bool} (h:(m.map (·.1)).Nodup):((nM m k v).map (·.1)).Nodup:=by
  induction m with
  | nil=>simp [nM]
  | cons p m ih=>
    rw [List.map_cons,List.nodup_cons] at h
    unfold nM
    cases hp:p.1 == k
    · have e:p.1≠k:=by simpa using hp
      rw [cond_false,List.map_cons,List.nodup_cons,rf]
      exact ⟨fun hc=>hc.elim h.1 e,ih h.2⟩
    · have e:p.1=k:=by simpa using hp
      rw [cond_true,List.map_cons,List.nodup_cons]
      exact ⟨by rw [←e]; exact h.1,h.2⟩
theorem vc.put {beh:List (List (Int×Bool))} {n:Nat} {R:Nat→Nat→Prop} (h:vc beh n R) {p q:Nat} {m:List (Int×Bool)} (hm:beh[p]?=some m):vc (beh.set p (nM m (q:Int) true)) n (fun a c=>R a c∨(a=p∧c=q)):=by
  have hp:=(List.getElem?_eq_some_iff.1 hm).1
  refine ⟨by rw [List.length_set]; exact h.len,fun a m' ha=>?_,fun a m' ha k=>?_⟩
  · rw [List.getElem?_set] at ha
    split at ha
    · cases ha
      exact sH (h.nd _ _ hm)
    · exact h.nd _ _ ha
  · rw [List.getElem?_set] at ha
    split at ha
    · rename_i e
      subst e
      cases ha
      rw [rf,h.mem _ _ hm]
      constructor
      · rintro (⟨c,rfl,hc⟩|rfl)
        · exact ⟨c,rfl,.inl hc⟩
        · exact ⟨q,rfl,.inr ⟨rfl,rfl⟩⟩
      · rintro ⟨c,rfl,hc|⟨_,rfl⟩⟩
        · exact .inl ⟨c,rfl,hc⟩
        · exact .inr rfl
    · rename_i e
      rw [h.mem _ _ ha]
      constructor
      · rintro ⟨c,rfl,hc⟩; exact ⟨c,rfl,.inl hc⟩
      · rintro ⟨c,rfl,hc|⟨rfl,_⟩⟩
        · exact ⟨c,rfl,hc⟩
        · exact absurd rfl e
theorem wG (x:T_Regex) (b:Bs):(∀p∈(bd x b).1.fi,p≤(bd x b).2.S.length)∧(∀p∈(bd x b).1.la,p≤(bd x b).2.S.length):=by
  obtain ⟨T,Q,h⟩:=iz x b
  exact ⟨fun p hp=>(h.rng.fi p hp).2,fun p hp=>(h.rng.la p hp).2⟩
theorem ub (x:T_Regex) (b:Bs):b.S.length≤(bd x b).2.S.length:=by
  obtain ⟨T,Q,h⟩:=iz x b
  exact h.rng.le
theorem zK {d:Nat} {k:Int} {s:aA 4} {l:List T_Regex} (h:V (d+1) ⟨k,s,l⟩=true):gR k s l.length=true∧∀y∈l,V d y=true:=by
  simp only [V,Bool.and_eq_true,List.all_eq_true] at h
  exact h
theorem uo {s:aA 4} {n:Nat} (h:gR 6 s n=true):n=1:=by
  simp only [gR] at h
  simp at h
  exact h.1
theorem so {k:Int} {s:aA 4} {n:Nat} (h:gR k s n=true):k=1∨k=2∨k=3∨k=4∨k=5∨k=6:=by
  by_cases e:k=1; · exact .inl e
  by_cases d:k=2; · exact .inr (.inl d)
  by_cases c:k=3; · exact .inr (.inr (.inl c))
  by_cases b:k=4; · exact .inr (.inr (.inr (.inl b)))
  by_cases a:k=5; · exact .inr (.inr (.inr (.inr (.inl a))))
  by_cases h6:k=6; · exact .inr (.inr (.inr (.inr (.inr h6))))
  simp [gR,e,d,c,b,a,h6] at h
def CD (b:Bs):Prop:=∀p q,(p,q)∈b.P→p≤b.S.length∧q≤b.S.length
theorem Bi (x:T_Regex) {b:Bs} (h:CD b):CD (bd x b).2:=by
  obtain ⟨T,Q,hm⟩:=iz x b
  intro p q hp
  rw [hm.P,List.mem_append] at hp
  rcases hp with hp|hp
  · have:=h p q hp; have:=hm.rng.le; omega
  · have:=hm.rng.e p q hp; omega
end Go.Proofs.YtlcdifnmkafcfaaGreat
namespace Go.Proofs.YtlcdifnmkafcfaaGreat
open Go.Lx
def zi (a:List Int) (n:Nat):List Int:=a++List.replicate (n+1 - a.length) (-1)
def uq (la:List Nat) (i:Int) (a:List Int):List Int:=la.foldl (fun a p=>a.set p i) a
def rt (nl:Bool) (i:Int) (a:List Int):List Int:=bif nl && decide (a.getD 0 0<0) then a.set 0 i else a
def tB (i:Nat) (x:T_Regex) (s:Bs×List Int):Bs×List Int:=
  (⟨(bd x s.1).2.S,(bd x s.1).2.P++dH [0] (bd x s.1).1.fi⟩,rt (bd x s.1).1.nl i (uq (bd x s.1).1.la i (zi s.2 (bd x s.1).2.S.length)))
def gM:Nat→List T_Regex→Bs×List Int→Bs×List Int
  | _,[],s=>s
  | i,x::l,s=>gM (i+1) l (tB i x s)
theorem rk (y:T_Regex):∀(l:List T_Regex) (i:Nat) (s:Bs×List Int),gM i (l++[y]) s=tB (i+l.length) y (gM i l s)
  | [],i,s=>by simp [gM]
  | x::l,i,s=>by
    simp only [List.cons_append,gM,List.length_cons]
    rw [rk y l (i+1) (tB i x s)]
    congr 1; omega
def fD:Bs×List Int:=(⟨[],[]⟩,[-1])
theorem kL (i:Int):∀(la:List Nat) (a:List Int),(uq la i a).length=a.length
  | [],a=>rfl
  | p::la,a=>by
    have:=kL i la (a.set p i)
    rw [List.length_set] at this
    exact this
theorem wh (nl:Bool) (i:Int) (a:List Int):(rt nl i a).length=a.length:=by
  unfold rt
  cases nl && decide (a.getD 0 0<0) <;> simp
theorem tM {a:List Int} {n:Nat} (h:a.length≤n+1):(zi a n).length=n+1:=by
  unfold zi
  rw [List.length_append,List.length_replicate]
  omega
structure Bu (s:Bs×List Int):Prop where
  cl:CD s.1
  pos:∀p q,(p,q)∈s.1.P→1≤q
  len:s.2.length=s.1.S.length+1
theorem zo {i:Nat} {x:T_Regex} {s:Bs×List Int} (h:Bu s):Bu (tB i x s):=by
  obtain ⟨T,Q,hm⟩:=iz x s.1
  have hg:=ub x s.1
  have hbn:=wG x s.1
  have hl:=h.len
  refine ⟨fun p q hp=>?_,fun p q hp=>?_,?_⟩
  · rcases List.mem_append.1 hp with hp|hp
    · exact Bi x h.cl p q hp
    · obtain ⟨b,a⟩:=hZ.1 hp
      obtain rfl:=List.mem_singleton.1 b
      exact ⟨Nat.zero_le _,hbn.1 q a⟩
  · rcases List.mem_append.1 hp with hp|hp
    · rw [hm.P] at hp
      rcases List.mem_append.1 hp with hp|hp
      · exact h.pos p q hp
      · have:=hm.rng.e p q hp; omega
    · obtain ⟨_,a⟩:=hZ.1 hp
      have:=hm.rng.fi q a; omega
  · show (rt _ _ _).length=(bd x s.1).2.S.length+1
    rw [wh,kL,tM (by omega)]
theorem qa:∀(l:List T_Regex) (i:Nat) (s:Bs×List Int),Bu s→Bu (gM i l s)
  | [],_,_,h=>h
  | x::l,i,s,h=>qa l (i+1) (tB i x s) (zo h)
theorem we:Bu fD:=⟨fun p q h=>by simp [fD] at h,fun p q h=>by simp [fD] at h,rfl⟩
theorem mO:∀(l:List T_Regex) (i:Nat) (s:Bs×List Int),(gM i l s).1.S.length≤s.1.S.length+bp l
  | [],_,s=>by simp [gM,bp]
  | x::l,i,s=>by
    have h1:=mO l (i+1) (tB i x s)
    have h2:(tB i x s).1.S.length≤s.1.S.length+parts x:=(fS x s.1).2.2
    simp only [gM,bp]
    omega
theorem vH {a:List Int} {n:Nat} (h:a.length≤n+1) (hn:n≤1000000) {body:List Int→Option (cJ (List Int) (List Int))}
    (hb:∀s,body s=bif decide ((s.length:Int)≤(n:Int)) then (cP 8 s [(-1)]).bind fun y=>some (.next y) else some (.stop s)):bg body aU a=some (zi a n):=by
  refine Is.eq ?_
  refine Is.while (fun s=>∃k,s=a++List.replicate k (-1)∧s.length≤n+1) (fun s=>n+1 - s.length) ⟨0,by simp,h⟩ (by omega) ?_
  rintro s ⟨k,rfl,hl⟩
  rw [hb]
  refine Is.dcd (fun b=>Is.bnq (da (by simp only [List.length_singleton]; omega)) (Is.next ⟨⟨k+1,by rw [List.append_assoc,List.replicate_succ'],by rw [List.length_append,List.length_singleton]; omega⟩,?_⟩)) (fun b=>Is.stop ?_)
  · rw [List.length_append,List.length_singleton]; omega
  · unfold zi
    rw [List.length_append,List.length_replicate] at b hl
    congr 2; omega
theorem vp {a:List Int} {la:List Nat} {v:Int} (hla:∀p∈la,p<a.length) (hl:la.length≤1000000) {body:List Int×Int→Option (cJ (List Int×Int) (List Int))}
    (hb:∀s i,body (s,i)=bif decide (i<((mq la).length:Int)) then (bq (mq la) i).bind fun e=>(cK s e v).bind fun y=>(bV .i64 (i+1)).bind fun t=>some (.next (y,t)) else some (.stop s)):bg body aU (a,(0:Int))=some (uq la v a):=by
  refine Is.eq ?_
  refine Is.upto (fun i (st:List Int×Int)=>st.2=(i:Int)∧st.1=uq (la.take i) v a) la.length (by omega) ⟨rfl,rfl⟩ ?_ ?_
  · rintro i ⟨s,_⟩ hi ⟨rfl,b⟩
    obtain rfl:s=_:=b
    rw [hb]
    refine Is.dt (by rw [dQ]; omega) (Is.bnq (pA hi) (Is.bnq (cY (by rw [kL]; exact hla _ (List.getElem_mem hi))) (Is.bnq (aX (by omega)) (Is.next ⟨rfl,?_⟩))))
    show List.set _ _ _=_
    unfold uq
    rw [eC hi,List.foldl_append]
    rfl
  · rintro ⟨s,_⟩ ⟨rfl,b⟩
    obtain rfl:s=_:=b
    rw [hb,List.take_length]
    exact Is.df (by rw [dQ]; omega) (Is.stop rfl)
theorem uM {a:List Int} (h:0<a.length):bq a 0=some (a.getD 0 0):=by
  have:=bi (l:=a) (i:=0) h
  rw [show ((0:Nat):Int)=0 from rfl] at this
  rw [this]
  simp [List.getD_eq_getElem?_getD,h]
theorem zr {α:Type} {n:Bool} {a:List Int} {v:Int} {f:List Int→α} (h:0<a.length) :
    ((bif n then (bq a 0).bind fun e=>some (decide (e<0)) else some false).bind fun x=>bif x then (cK a 0 v).bind fun y=>some (f y) else some (f a))=some (f (rt n v a)):=by
  have hs:cK a 0 v=some (a.set 0 v):=cY (i:=0) h
  unfold rt
  cases n
  · rfl
  · rw [cond_true,uM h,hs]
    simp only [Option.bind_some,Bool.true_and]
    cases decide (a.getD 0 0<0) <;> rfl
def zT (S:List (aA 4)) (p q:Nat):dm:=⟨p,q,false,S.getD (q - 1) (aA.zero 4)⟩
def vt (P:List (Nat×Nat)) (N p:Nat):List Nat:=(List.range N).filter fun q=>decide ((p,q)∈P)
def ud (S:List (aA 4)) (P:List (Nat×Nat)) (N p:Nat):List dm:=(vt P N p).map (zT S p)
def lq (S:List (aA 4)) (P:List (Nat×Nat)) (N k:Nat):List dm:=(List.range k).flatMap (ud S P N)
def nL (l:List T_Regex):T_NFA:=⟨((gM 0 l fD).2.length:Int),0,lq (gM 0 l fD).1.S (gM 0 l fD).1.P (gM 0 l fD).2.length (gM 0 l fD).2.length,(gM 0 l fD).2⟩
theorem vr (P:List (Nat×Nat)) (N p:Nat):(vt P N p).length≤N:=by
  have:=List.length_filter_le (fun q=>decide ((p,q)∈P)) (List.range N)
  rw [List.length_range] at this
  exact this
theorem nP {P:List (Nat×Nat)} {N p q:Nat}:q∈vt P N p↔q<N∧(p,q)∈P:=by
  unfold vt
  rw [List.mem_filter,List.mem_range]
  simp
theorem pu (S:List (aA 4)) (P:List (Nat×Nat)) (N:Nat):∀k,(lq S P N k).length≤k*N
  | 0=>by simp [lq]
  | k+1=>by
    have:=pu S P N k
    have h2:=vr P N k
    unfold lq at this ⊢
    rw [List.range_succ,List.flatMap_append,List.length_append,Nat.succ_mul]
    simp only [List.flatMap_cons,List.flatMap_nil,List.append_nil,ud,List.length_map] at this ⊢
    omega
theorem xl {S:List (aA 4)} {q:Nat} (h1:1≤q) (h2:q≤S.length):bq S ((q:Int) - 1)=some (S.getD (q - 1) (aA.zero 4)):=by
  have:=bi (l:=S) (i:=q - 1) (by omega)
  rw [show ((q - 1:Nat):Int)=(q:Int) - 1 by omega] at this
  rw [this]
  simp [List.getD_eq_getElem?_getD,show q - 1<S.length by omega]
def CQ {α:Type} (l:List T_Regex) (e:Int) (x:α) (z n:α):Prop:=
  ((∃y∈l,V 30 y=false)∧e=1∧x=z)∨((∀y∈l,V 30 y=true)∧500<bp l∧e=11∧x=z)∨((∀y∈l,V 30 y=true)∧bp l≤500∧e=0∧x=n)
theorem te {ρ:Type} {l:List T_Regex} (hp:bp l≤1048576) {v n:T_Regex→Option _} (hv:∀y∈l,v y=some (V 30 y)) (hn:∀y∈l,n y=some (parts y:Int)) {z:ρ} {body:Int×Int→Option (cJ (Int×Int) (cJ Int ρ))}
    (hb:∀t i,body (t,i)=bif decide (i<(l.length:Int)) then (bq l i).bind fun e=>(v e).bind fun r=>bif (!r) then some (.stop (.stop z)) else (n e).bind fun m=>(bV .i64 (t+m)).bind fun t=>(bV .i64 (i+1)).bind fun u=>some (.next (t,u)) else some (.stop (.next t))) :
    Is (bg body aU ((0:Int),(0:Int))) (SP (fun t=>(∀y∈l,V 30 y=true)∧t=(bp l:Int)) (fun r=>(∃y∈l,V 30 y=false)∧r=z)):=by
  have hlen:=fI l
  refine Is.upto (fun i (st:Int×Int)=>st.2=(i:Int)∧(∀y∈l.take i,V 30 y=true)∧st.1=(bp (l.take i):Int)) l.length (by omega) ⟨rfl,by simp,by simp [bp]⟩ ?_ ?_
  · rintro i ⟨t,_⟩ hi ⟨rfl,a,b⟩
    obtain rfl:t=_:=b
    have c:=eY hi
    have d:=dA l (i+1)
    rw [hb]
    refine Is.dt (by omega) (Is.bnq (bi hi) (Is.bnq (hv _ (List.getElem_mem hi)) (Is.cnd (fun h=>Is.stop ⟨⟨_,List.getElem_mem hi,by simpa using h⟩,rfl⟩) (fun h=>?_))))
    refine Is.bnq (hn _ (List.getElem_mem hi)) (Is.bnq (x:=(bp (l.take (i+1)):Int)) (by rw [dv (by omega) (by omega),c]; congr 1) (Is.bnq (aX (by omega)) (Is.next ⟨rfl,fun y hy=>?_,rfl⟩)))
    rw [eC hi] at hy
    rcases List.mem_append.1 hy with hy|hy
    · exact a y hy
    · obtain rfl:=List.mem_singleton.1 hy
      simpa using h
  · rintro ⟨t,_⟩ ⟨rfl,a,b⟩
    obtain rfl:t=_:=b
    rw [List.take_length] at a
    rw [hb]
    refine Is.df (by omega) (Is.stop ⟨a,by rw [List.take_length]⟩)
theorem xw {σ ρ:Type} {P:σ→Prop} {Q Q':ρ→Prop} {s:cJ σ ρ} (h:SP P Q s) (k:∀r,Q r→Q' r):SP P Q' s:=by
  cases s
  · exact h
  · exact k _ h
theorem rG {l:List T_Regex} (ok:∀x∈l,bR x) (hp:bp l≤1048576):Is (M.h9 l) (fun e=>CQ l e () () ()):=by
  unfold M.h9
  have hn:∀y∈l,M.d2 aU y=some (parts y:Int):=fun y hy=>qM aU y (by have:=dK hy; unfold aU; omega) (by have:=dK hy; omega)
  refine Is.bs (P:=fun t=>(∀y∈l,V 30 y=true)∧t=(bp l:Int)) ((te hp (v:=M.f6) (n:=M.d2 aU) (fun y hy=>iV (ok y hy)) hn (z:=(1:Int)) (fun _ _=>rfl)).mono fun s hs=>xw hs fun r hr=>.inl ⟨hr.1,hr.2,rfl⟩) fun t ht=>?_
  obtain ⟨a,rfl⟩:=ht
  exact Is.dcd (fun h=>Is.pure (.inr (.inl ⟨a,by omega,rfl,rfl⟩))) (fun h=>Is.pure (.inr (.inr ⟨a,by omega,rfl,rfl⟩)))
theorem xN {a:List Int} {n:Nat} (h:∀x∈a,-1≤x):∀x∈zi a n,-1≤x:=by
  intro x hx
  rcases List.mem_append.1 hx with hx|hx
  · exact h x hx
  · rw [(List.mem_replicate.1 hx).2]; omega
theorem re {i:Int} (hi:0≤i):∀(la:List Nat) {a:List Int},(∀x∈a,-1≤x)→∀x∈uq la i a,-1≤x
  | [],_,h=>h
  | p::la,a,h=>re hi la (a:=a.set p i) fun x hx=>by
    rcases List.mem_or_eq_of_mem_set hx with hx|rfl
    · exact h x hx
    · omega
theorem vU {i:Int} (hi:0≤i) {n:Bool} {a:List Int} (h:∀x∈a,-1≤x):∀x∈rt n i a,-1≤x:=by
  unfold rt
  cases n && decide (a.getD 0 0<0)
  · exact h
  · intro x hx
    rcases List.mem_or_eq_of_mem_set hx with hx|rfl
    · exact h x hx
    · omega
theorem uf:∀(l:List T_Regex) (i:Nat) (s:Bs×List Int),(∀x∈s.2,-1≤x)→∀x∈(gM i l s).2,-1≤x
  | [],_,_,h=>h
  | y::l,i,s,h=>uf l (i+1) (tB i y s) (vU (Int.natCast_nonneg i) (re (Int.natCast_nonneg i) _ (xN h)))
theorem pe {S:List (aA 4)} {P:List (Nat×Nat)} {N k:Nat} {a:dm}:a∈lq S P N k↔∃p q,p<k∧q<N∧(p,q)∈P∧a=zT S p q:=by
  unfold lq ud
  rw [List.mem_flatMap]
  constructor
  · rintro ⟨p,hp,h⟩
    obtain ⟨q,hq,rfl⟩:=List.mem_map.1 h
    exact ⟨p,q,List.mem_range.1 hp,(nP.1 hq).1,(nP.1 hq).2,rfl⟩
  · rintro ⟨p,q,hp,hq,hR,rfl⟩
    exact ⟨p,List.mem_range.2 hp,List.mem_map.2 ⟨q,nP.2 ⟨hq,hR⟩,rfl⟩⟩
theorem mg {l:List T_Regex} (h:bp l≤500):VN (nL l)∧(nL l).Arcs.length≤251001:=by
  have hg:=qa l 0 fD we
  have hgl:=mO l 0 fD
  have b:fD.1.S.length=0:=rfl
  have hal:=hg.len
  have hN:(gM 0 l fD).2.length≤501:=by omega
  refine ⟨⟨?_,?_,⟨?_,?_⟩,rfl,uf l 0 fD (by simp [fD]),?_⟩,?_⟩
  · show (1:Int)≤((gM 0 l fD).2.length:Int); omega
  · show ((gM 0 l fD).2.length:Int)≤2000; omega
  · show (0:Int)≤0; omega
  · show (0:Int)<((gM 0 l fD).2.length:Int); omega
  · intro a ha
    obtain ⟨p,q,hp,hq,_,rfl⟩:=pe.1 ha
    refine ⟨⟨?_,?_⟩,⟨?_,?_⟩,fun e=>by cases e⟩
    · show (0:Int)≤(p:Int); omega
    · show (p:Int)<((gM 0 l fD).2.length:Int); omega
    · show (0:Int)≤(q:Int); omega
    · show (q:Int)<((gM 0 l fD).2.length:Int); omega
  · exact Nat.le_trans (pu _ _ _ _) (Nat.le_trans (Nat.mul_le_mul hN hN) (by decide))
end Go.Proofs.YtlcdifnmkafcfaaGreat
