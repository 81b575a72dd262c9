/- Part 4. -/
import Derived.Test.YtbkjljkjhlcmoaaGreatDoorProg
import Derived.Test.YtbkjljkjhlcmoaaGreatDoorKBoth3
set_option linter.unusedVariables false
set_option linter.unusedSimpArgs false
namespace Go.Proofs.YtbkjljkjhlcmoaaGreatDoor
open Go.Lx Go.RowKit
structure aw where
  Kind:Int
  Set:(bM 4)
  Kids:(List aw)
instance:Inhabited aw:=⟨⟨default,bM.zero 4,[]⟩⟩
structure aq where
  s:Str
  atv:Int
instance:DecidableEq aq:=fun a b=>if h:a.s=b.s∧a.atv=b.atv then isTrue (by cases a; cases b; simp_all) else isFalse (by intro e; subst e; simp at h)
structure cf where
  Name:Str
  Kind:Int
  Pattern:Str
  Sample:Str
  Close:Str
instance:DecidableEq cf:=fun a b=>if h:a.Name=b.Name∧a.Kind=b.Kind∧a.Pattern=b.Pattern∧a.Sample=b.Sample∧a.Close=b.Close then isTrue (by cases a; cases b; simp_all) else isFalse (by intro e; subst e; simp at h)
structure cM where
  fails:(Option Bool)
  err:Int
instance:DecidableEq cM:=fun a b=>if h:a.fails=b.fails∧a.err=b.err then isTrue (by cases a; cases b; simp_all) else isFalse (by intro e; subst e; simp at h)
structure aL where
  sets:(List (bM 4))
  behind:(List (List (Int×Bool)))
instance:DecidableEq aL:=fun a b=>if h:a.sets=b.sets∧a.behind=b.behind then isTrue (by cases a; cases b; simp_all) else isFalse (by intro e; subst e; simp at h)
structure bO where
  nullable:Bool
  first:(List Int)
  last:(List Int)
instance:DecidableEq bO:=fun a b=>if h:a.nullable=b.nullable∧a.first=b.first∧a.last=b.last then isTrue (by cases a; cases b; simp_all) else isFalse (by intro e; subst e; simp at h)
structure dP where
  From:Int
  To:Int
  Epsilon:Bool
  Set:(bM 4)
instance:DecidableEq dP:=fun a b=>if h:a.From=b.From∧a.To=b.To∧a.Epsilon=b.Epsilon∧a.Set=b.Set then isTrue (by cases a; cases b; simp_all) else isFalse (by intro e; subst e; simp at h)
structure ep where
  States:Int
  Start:Int
  Arcs:(List dP)
  Accept:(List Int)
instance:DecidableEq ep:=fun a b=>if h:a.States=b.States∧a.Start=b.Start∧a.Arcs=b.Arcs∧a.Accept=b.Accept then isTrue (by cases a; cases b; simp_all) else isFalse (by intro e; subst e; simp at h)
structure bB where
  Class:(List Int)
  Next:(List (List Int))
  Accept:(List Int)
instance:DecidableEq bB:=fun a b=>if h:a.Class=b.Class∧a.Next=b.Next∧a.Accept=b.Accept then isTrue (by cases a; cases b; simp_all) else isFalse (by intro e; subst e; simp at h)
structure br where
  a:Int
  b:Int
instance:DecidableEq br:=fun a b=>if h:a.a=b.a∧a.b=b.b then isTrue (by cases a; cases b; simp_all) else isFalse (by intro e; subst e; simp at h)
structure cA where
  atv:br
  text:Str
instance:DecidableEq cA:=fun a b=>if h:a.atv=b.atv∧a.text=b.text then isTrue (by cases a; cases b; simp_all) else isFalse (by intro e; subst e; simp at h)
structure cg where
  Defs:(List cf)
  Layout:Bool
  Misspelling:Int
  Unclosed:Int
instance:DecidableEq cg:=fun a b=>if h:a.Defs=b.Defs∧a.Layout=b.Layout∧a.Misspelling=b.Misspelling∧a.Unclosed=b.Unclosed then isTrue (by cases a; cases b; simp_all) else isFalse (by intro e; subst e; simp at h)
def qP (τ:Ty aw):Ty aw:=⟨6,fun g cs x=>∃c0 c1 c2,cs=c0++(c1++(c2))∧(ai .i64).rel g c0 x.Kind∧(bD 4 .u64).rel g c1 x.Set∧(cj τ).rel g c2 x.Kids,
 fun f ⟨c0,c1,c2,e,d,c,b⟩=>⟨c0,c1,c2,e,(ai .i64).mono f d,(bD 4 .u64).mono f c,(cj τ).mono f b⟩,
 fun ⟨_,_,_,e,d,c,b⟩=>by rw [e]; simp [(ai .i64).len d,(bD 4 .u64).len c,(cj τ).len b,ai,cj,bD],
 fun ⟨_,_,_,e,d,c,b⟩ v a=>by
  subst e; simp only [Ju] at a; rcases a with a|a|a
  ·exact (ai .i64).one d v a
  ·exact (bD 4 .u64).one c v a
  ·exact (cj τ).one b v a⟩
def dU:ed aw:=⟨6,qP,fun _=>rfl,fun ha hb h _ _ hh=>by obtain ⟨c0,c1,c2,e,h0,h1,h2⟩:=hh; exact ⟨c0,c1,c2,e,h0,h1,wR (ha.trans hb.symm) h h2⟩⟩
def aM:Ty aw:=⟨6,fun g cs x=>∃n,(dU.iter n).rel g cs x,fun hg h=>dU.fix_mono hg h,fun h=>dU.fix_len h,fun h=>dU.fix_one h⟩
theorem an {g:Hp} {cs:List Value} {x:aw}:aM.rel g cs x↔(qP aM).rel g cs x:=by
 constructor
 ·rintro ⟨n,h⟩;cases n with
  | zero=>exact h.elim
  | succ n=>exact dU.mono (τ:=dU.iter n) (τ':=aM) (dU.iter_sz n) rfl (fun _ _ h=>⟨n,h⟩) _ _ h
 ·rintro ⟨c0,c1,c2,e,d,c,a⟩;obtain ⟨b,a⟩:=dU.sup (fix:=aM) (fun _ _ _ h=>h) rfl a;exact ⟨b+1,c0,c1,c2,e,d,c,dU.leSl (Nat.le_refl _) a⟩
def cc:Ty cf:=⟨5,fun g cs x=>∃c0 c1 c2 c3 j,cs=c0++(c1++(c2++(c3++(j))))∧eE.rel g c0 x.Name∧(ai .i64).rel g c1 x.Kind∧eE.rel g c2 x.Pattern∧eE.rel g c3 x.Sample∧eE.rel g j x.Close,
 fun b ⟨c0,c1,c2,c3,j,e,i,h,f,d,c⟩=>⟨c0,c1,c2,c3,j,e,eE.mono b i,(ai .i64).mono b h,eE.mono b f,eE.mono b d,eE.mono b c⟩,
 fun ⟨_,_,_,_,_,e,i,h,f,d,c⟩=>by rw [e]; simp [eE.len i,(ai .i64).len h,eE.len f,eE.len d,eE.len c,ai,eE],
 fun ⟨_,_,_,_,_,e,i,h,f,d,c⟩ v a=>by
  subst e; simp only [Ju] at a; rcases a with a|a|a|a|a
  ·exact eE.one i v a
  ·exact (ai .i64).one h v a
  ·exact eE.one f v a
  ·exact eE.one d v a
  ·exact eE.one c v a⟩
def wQ:Ty cM:=⟨2,fun g cs x=>∃c0 c1,cs=c0++(c1)∧(zt Tryz.prog (dj aX false)).rel g c0 x.fails∧(ai .i64).rel g c1 x.err,
 fun d ⟨c0,c1,e,c,b⟩=>⟨c0,c1,e,(zt Tryz.prog (dj aX false)).mono d c,(ai .i64).mono d b⟩,
 fun ⟨_,_,e,c,b⟩=>by rw [e]; simp [(zt Tryz.prog (dj aX false)).len c,(ai .i64).len b,zt,ai],
 fun ⟨_,_,e,c,b⟩ v a=>by
  subst e; simp only [Ju] at a; rcases a with a|a
  ·exact (zt Tryz.prog (dj aX false)).one c v a
  ·exact (ai .i64).one b v a⟩
def dT:Ty bO:=⟨3,fun g cs x=>∃c0 c1 c2,cs=c0++(c1++(c2))∧aX.rel g c0 x.nullable∧(cj (ai .i64)).rel g c1 x.first∧(cj (ai .i64)).rel g c2 x.last,
 fun f ⟨c0,c1,c2,e,d,c,b⟩=>⟨c0,c1,c2,e,aX.mono f d,(cj (ai .i64)).mono f c,(cj (ai .i64)).mono f b⟩,
 fun ⟨_,_,_,e,d,c,b⟩=>by rw [e]; simp [aX.len d,(cj (ai .i64)).len c,(cj (ai .i64)).len b,aX,cj],
 fun ⟨_,_,_,e,d,c,b⟩ v a=>by
  subst e; simp only [Ju] at a; rcases a with a|a|a
  ·exact aX.one d v a
  ·exact (cj (ai .i64)).one c v a
  ·exact (cj (ai .i64)).one b v a⟩
def cq:Ty dP:=⟨7,fun g cs x=>∃c0 c1 c2 c3,cs=c0++(c1++(c2++(c3)))∧(ai .i64).rel g c0 x.From∧(ai .i64).rel g c1 x.To∧aX.rel g c2 x.Epsilon∧(bD 4 .u64).rel g c3 x.Set,
 fun h ⟨c0,c1,c2,c3,e,f,d,c,b⟩=>⟨c0,c1,c2,c3,e,(ai .i64).mono h f,(ai .i64).mono h d,aX.mono h c,(bD 4 .u64).mono h b⟩,
 fun ⟨_,_,_,_,e,f,d,c,b⟩=>by rw [e]; simp [(ai .i64).len f,(ai .i64).len d,aX.len c,(bD 4 .u64).len b,aX,ai,bD],
 fun ⟨_,_,_,_,e,f,d,c,b⟩ v a=>by
  subst e; simp only [Ju] at a; rcases a with a|a|a|a
  ·exact (ai .i64).one f v a
  ·exact (ai .i64).one d v a
  ·exact aX.one c v a
  ·exact (bD 4 .u64).one b v a⟩
def lg:Ty ep:=⟨4,fun g cs x=>∃c0 c1 c2 c3,cs=c0++(c1++(c2++(c3)))∧(ai .i64).rel g c0 x.States∧(ai .i64).rel g c1 x.Start∧(cj cq).rel g c2 x.Arcs∧(cj (ai .i64)).rel g c3 x.Accept,
 fun h ⟨c0,c1,c2,c3,e,f,d,c,b⟩=>⟨c0,c1,c2,c3,e,(ai .i64).mono h f,(ai .i64).mono h d,(cj cq).mono h c,(cj (ai .i64)).mono h b⟩,
 fun ⟨_,_,_,_,e,f,d,c,b⟩=>by rw [e]; simp [(ai .i64).len f,(ai .i64).len d,(cj cq).len c,(cj (ai .i64)).len b,ai,cj],
 fun ⟨_,_,_,_,e,f,d,c,b⟩ v a=>by
  subst e; simp only [Ju] at a; rcases a with a|a|a|a
  ·exact (ai .i64).one f v a
  ·exact (ai .i64).one d v a
  ·exact (cj cq).one c v a
  ·exact (cj (ai .i64)).one b v a⟩
def dI:Ty bB:=⟨3,fun g cs x=>∃c0 c1 c2,cs=c0++(c1++(c2))∧(cj (ai .i64)).rel g c0 x.Class∧(cj (cj (ai .i64))).rel g c1 x.Next∧(cj (ai .i64)).rel g c2 x.Accept,
 fun f ⟨c0,c1,c2,e,d,c,b⟩=>⟨c0,c1,c2,e,(cj (ai .i64)).mono f d,(cj (cj (ai .i64))).mono f c,(cj (ai .i64)).mono f b⟩,
 fun ⟨_,_,_,e,d,c,b⟩=>by rw [e]; simp [(cj (ai .i64)).len d,(cj (cj (ai .i64))).len c,(cj (ai .i64)).len b,cj],
 fun ⟨_,_,_,e,d,c,b⟩ v a=>by
  subst e; simp only [Ju] at a; rcases a with a|a|a
  ·exact (cj (ai .i64)).one d v a
  ·exact (cj (cj (ai .i64))).one c v a
  ·exact (cj (ai .i64)).one b v a⟩
def fE:Ty br:=⟨2,fun g cs x=>∃c0 c1,cs=c0++(c1)∧(ai .i64).rel g c0 x.a∧(ai .i64).rel g c1 x.b,
 fun h ⟨c0,c1,e,f,d⟩=>⟨c0,c1,e,(ai .i64).mono h f,(ai .i64).mono h d⟩,
 fun ⟨_,_,e,f,d⟩=>by rw [e]; simp [(ai .i64).len f,(ai .i64).len d,ai],
 fun ⟨_,_,e,f,d⟩ v c=>by
  subst e; simp only [Ju] at c; rcases c with c|c
  ·exact (ai .i64).one f v c
  ·exact (ai .i64).one d v c⟩
def cw:Ty cA:=⟨3,fun g cs x=>∃c0 c1,cs=c0++(c1)∧fE.rel g c0 x.atv∧eE.rel g c1 x.text,
 fun d ⟨c0,c1,e,c,b⟩=>⟨c0,c1,e,fE.mono d c,eE.mono d b⟩,
 fun ⟨_,_,e,c,b⟩=>by rw [e]; simp [fE.len c,eE.len b,eE,fE],
 fun ⟨_,_,e,c,b⟩ v a=>by
  subst e; simp only [Ju] at a; rcases a with a|a
  ·exact fE.one c v a
  ·exact eE.one b v a⟩
def lh:Ty cg:=⟨4,fun g cs x=>∃c0 c1 c2 c3,cs=c0++(c1++(c2++(c3)))∧(cj cc).rel g c0 x.Defs∧aX.rel g c1 x.Layout∧(ai .i64).rel g c2 x.Misspelling∧(ai .i64).rel g c3 x.Unclosed,
 fun h ⟨c0,c1,c2,c3,e,f,d,c,b⟩=>⟨c0,c1,c2,c3,e,(cj cc).mono h f,aX.mono h d,(ai .i64).mono h c,(ai .i64).mono h b⟩,
 fun ⟨_,_,_,_,e,f,d,c,b⟩=>by rw [e]; simp [(cj cc).len f,aX.len d,(ai .i64).len c,(ai .i64).len b,aX,ai,cj],
 fun ⟨_,_,_,_,e,f,d,c,b⟩ v a=>by
  subst e; simp only [Ju] at a; rcases a with a|a|a|a
  ·exact (cj cc).one f v a
  ·exact aX.one d v a
  ·exact (ai .i64).one c v a
  ·exact (ai .i64).one b v a⟩
def M.g6:List Str:=[[110,101,119,108,105,110,101],[105,110,100,101,110,116],[100,101,100,101,110,116]]
def M.h0 (x1:Int) (c1:aw) (c2:Int) (c3:Int):Option (aw×Int×Int):= some ((aw.mk 0 (bM.zero 4) []),x1,3)
def M.a9 (p1:aq):Option Int:= bif (decide (p1.atv<(p1.s.length:Int))) then (kM p1.s p1.atv).bind fun c1=> some c1 else some 0
def M.a2 (p1:aq):Option (Rt (Unit)):= some (.pan p1.atv)
def M.c2 (a:aq) (g:Int):Option (Rt (aq)):= bH ((bif (a.atv == (a.s.length:Int)) then some true else (kM a.s a.atv).bind fun f=> some (f != g)).bind fun (c:Bool)=> bif c then (M.a2 a).bind fun b=>b.on (fun h=> some (.next ())) (fun e=>some (.stop (.pan e))) else some (.next ())) fun _=> (dt .i64 (a.atv+1)).bind fun d=> some (.ret (aq.mk a.s d))
def M.d4 (a:Int):Option Bool:= (bif (decide (48≤a)) then bif (decide (a≤57)) then some true else bif (decide (97≤a)) then bif (decide (a≤122)) then some true else bif (decide (65≤a)) then some (decide (a≤90)) else some false else bif (decide (65≤a)) then some (decide (a≤90)) else some false else bif (decide (97≤a)) then bif (decide (a≤122)) then some true else bif (decide (65≤a)) then some (decide (a≤90)) else some false else bif (decide (65≤a)) then some (decide (a≤90)) else some false).bind fun (b:Bool)=> some b
def M.d0 (a:aq):Option (Rt (Int×aq)):= bH (bif (a.atv == (a.s.length:Int)) then (M.a2 a).bind fun b=>b.on (fun j=> some (.next ())) (fun g=>some (.stop (.pan g))) else some (.next ())) fun _=> (kM a.s a.atv).bind fun c1=> bH (bif (c1 == 110) then some (.next (10:Int)) else bif (c1 == 116) then some (.next (9:Int)) else (bif (decide (c1<32)) then some true else bif (decide (126<c1)) then some true else (M.d4 c1).bind fun e=> some e).bind fun (c:Bool)=> bif c then (M.a2 a).bind fun b=>b.on (fun i=> some (.next c1)) (fun f=>some (.stop (.pan f))) else some (.next c1)) fun (h:Int)=> (dt .i64 (a.atv+1)).bind fun d=> some (.ret (h,(aq.mk a.s d)))
def M.f4 (s:Str) (c:Int):Option Int:=some (Lib.indexByte s c.toNat.toUInt8)
def M.b8 (a:aq) (k:Str):Option (Rt (Int×aq)):= bH (bif (a.atv == (a.s.length:Int)) then (M.a2 a).bind fun b=>b.on (fun m=> some (.next ())) (fun j=>some (.stop (.pan j))) else some (.next ())) fun _=> (kM a.s a.atv).bind fun c1=> bif (c1 == 92) then (dt .i64 (a.atv+1)).bind fun f=> (M.d0 (aq.mk a.s f)).bind fun b=>b.on (fun c=> some (.ret (c.1,c.2))) (fun i=>some (.pan i)) else bH ((bif (decide (c1<32)) then some true else bif (decide (126<c1)) then some true else (M.f4 k c1).bind fun g=> some (decide (0≤g))).bind fun (d:Bool)=> bif d then (M.a2 a).bind fun b=>b.on (fun l=> some (.next ())) (fun h=>some (.stop (.pan h))) else some (.next ())) fun _=> (dt .i64 (a.atv+1)).bind fun e=> some (.ret (c1,(aq.mk a.s e)))
def M.d1 (g:Int) (h:Int):Option (bM 4):= (bE (fun (f:(bM 4)×Int)=>match f with | (b,a)=> bif (decide (a≤(IntKind.i64.wrap h))) then (zJ .i64 a 64).bind fun c=> (rP b c).bind fun i=> (zF a 64).bind fun t22=> (ym .u64 1 t22).bind fun t23=> (tu b c (bits .or .u64 i t23)).bind fun e=> (dt .i64 (a+1)).bind fun t24=> some (.next (e,t24)) else some (.stop b)) fuel ((bM.zero 4),(IntKind.i64.wrap g))).bind fun (d:(bM 4))=> some d
def M.b7 (j:aq):Option (Rt ((bM 4)×aq)):= (M.b8 j [93,92,45]).bind fun c=>c.on (fun a=> bH ((M.a9 a.2).bind fun f=> bif (f == 45) then (dt .i64 (a.2.atv+1)).bind fun d=> (M.b8 (aq.mk a.2.s d) [93,92,45]).bind fun c=>c.on (fun b=> bif (decide (b.1<a.1)) then (M.a2 (aq.mk b.2.s d)).bind fun c=>c.on (fun n=> some (.next (b.1,b.2.s,d))) (fun g=>some (.stop (.pan g))) else some (.next (b.1,b.2.s,b.2.atv))) (fun h=>some (.stop (.pan h))) else some (.next (a.1,a.2.s,a.2.atv))) fun (m,l,k)=> (M.d1 a.1 m).bind fun e=> some (.ret (e,(aq.mk l k)))) (fun i=>some (.pan i))
def M.g0 (a1:(bM 4)) (b1:(bM 4)):Option (bM 4):= (bE (fun (st9:(bM 4)×Int)=>match st9 with | (a11,xv5)=> bif (decide (xv5<4)) then (rP a11 xv5).bind fun c11=> (rP b1 xv5).bind fun c12=> (tu a11 xv5 (bits .or .u64 c11 c12)).bind fun a14=> (dt .i64 (xv5+1)).bind fun t6=> some (.next (a14,t6)) else some (.stop a11)) fuel (a1,(0:Int))).bind fun (a8:(bM 4))=> some a8
def M.c7 (s1:(bM 4)):Option (bM 4):= (bE (fun (st9:(bM 4)×Int)=>match st9 with | (s11,xv5)=> bif (decide (xv5<4)) then (rP s11 xv5).bind fun c6=> (tu s11 xv5 (qd .u64 c6)).bind fun s14=> (dt .i64 (xv5+1)).bind fun t6=> some (.next (s14,t6)) else some (.stop s11)) fuel (s1,(0:Int))).bind fun (s8:(bM 4))=> some s8
def M.c9 (v:aq):Option (Rt ((bM 4)×aq)):= (M.c2 v 91).bind fun a=>a.on (fun b=> (M.a9 b).bind fun i=> (bif (i == 94) then (dt .i64 (b.atv+1)).bind fun k=> some k else some b.atv).bind fun (t:Int)=> (M.b7 (aq.mk b.s t)).bind fun a=>a.on (fun c=> bH (bE (fun (l:Str×Int×(bM 4))=>match l with | (f,e,g)=> (M.a9 (aq.mk f e)).bind fun o=> bif (o != 93) then (M.b7 (aq.mk f e)).bind fun a=>a.on (fun d=> (M.g0 g d.1).bind fun n=> some (.next (d.2.s,d.2.atv,n))) (fun p=>some (.stop (.stop (.pan p)))) else some (.stop (.next (f,e,g)))) fuel (c.2.s,c.2.atv,c.1)) fun (j,u,h)=> (dt .i64 (u+1)).bind fun t3=> bif (i == 94) then (M.c7 h).bind fun m=> some (.ret (m,(aq.mk j t3))) else some (.ret (h,(aq.mk j t3)))) (fun q=>some (.pan q))) (fun r=>some (.pan r))
def M.h3 (d:Str):Option (bM 4):= (bE (fun (h:(bM 4)×Int)=>match h with | (b,a)=> bif (decide (a<(d.length:Int))) then (kM d a).bind fun e=> (zJ .u8 e 64).bind fun c=> (rP b c).bind fun i=> (zF e 64).bind fun t22=> (ym .u64 1 t22).bind fun t23=> (tu b c (bits .or .u64 i t23)).bind fun f=> (dt .i64 (a+1)).bind fun t24=> some (.next (f,t24)) else some (.stop b)) fuel ((bM.zero 4),(0:Int))).bind fun (g:(bM 4))=> some g
def M.h5:Option (bM 4):= (M.h3 [10]).bind fun rv1=> (M.c7 rv1).bind fun rv2=> some rv2
def M.f5 (kind1:Int) (l1:(List aw)):Option aw:= bif ((l1.length:Int) == 1) then (bK l1 0).bind fun e1=> some e1 else some (aw.mk kind1 (bM.zero 4) l1)
mutual
def M.b9:Nat→aq→Option (Rt (aw×aq))
| 0,_=>none
| fl+1,c=>
 (M.a9 c).bind fun b=>
 bif (b == 40) then
  (dt .i64 (c.atv+1)).bind fun F=>
  (M.b3 fl (aq.mk c.s F)).bind fun a=>a.on (fun v=>
   (M.c2 v.2 41).bind fun a=>a.on (fun I=>
    some (.ret (v.1,I))) (fun S=>some (.pan S))) (fun k=>some (.pan k))
 else
  bif (b == 91) then
   (M.c9 c).bind fun a=>a.on (fun u=>
    some (.ret ((aw.mk 3 u.1 []),u.2))) (fun R=>some (.pan R))
  else
   bif (b == 46) then
    (dt .i64 (c.atv+1)).bind fun D=>
    (M.h5).bind fun H=>
    some (.ret ((aw.mk 3 H []),(aq.mk c.s D)))
   else
    (M.b8 c [40,41,91,93,124,42,43,63,46,92]).bind fun a=>a.on (fun p=>
     (M.d1 p.1 p.1).bind fun i=>
     some (.ret ((aw.mk 3 i []),p.2))) (fun Q=>some (.pan Q))
def M.b5:Nat→aq→Option (Rt (aw×aq))
| 0,_=>none
| fl+1,c=>
 (M.b9 fl c).bind fun a=>a.on (fun b=>
  bE (fun (f:Int×Int×(bM 4)×(List aw))=>match f with
  | (o,h,g,j)=>
   bH (
    (M.a9 (aq.mk b.2.s o)).bind fun m=>
    bif (m == 42) then
     some (.next ((6:Int),([(aw.mk h g j)]:(List aw))))
    else
     bif (m == 43) then
      some (.next ((4:Int),([(aw.mk h g j),(aw.mk 6 (bM.zero 4) [(aw.mk h g j)])]:(List aw))))
     else
      bif (m == 63) then
       some (.next ((5:Int),([(aw.mk h g j),(aw.mk 2 (bM.zero 4) [])]:(List aw))))
      else
       some (.stop (.stop (.ret ((aw.mk h g j),(aq.mk b.2.s o)))))) fun (J,z)=>
   (dt .i64 (o+1)).bind fun t3=>
   some (.next (t3,J,(bM.zero 4),z))) fuel (b.2.atv,b.1.Kind,b.1.Set,b.1.Kids)) (fun k=>some (.pan k))
def M.b4:Nat→aq→Option (Rt (aw×aq))
| 0,_=>none
| fl+1,c=>
 bH (
  bE (fun (f:Str×Int×(List aw))=>match f with
  | (e,d,t)=>
   (
    bif (decide (d<(e.length:Int))) then
     (kM e d).bind fun x=>
     bif (x != 124) then
      some (x != 41)
     else
      some false
    else
     some false).bind fun (A:Bool)=>
   bif A then
    (M.b5 fl (aq.mk e d)).bind fun a=>a.on (fun i=>
     (dz 64 t [i.1]).bind fun U=>
     some (.next (i.2.s,i.2.atv,U))) (fun P=>some (.stop (.stop (.pan P))))
   else
    some (.stop (.next (t,e,d)))) fuel (c.s,c.atv,([]:(List aw)))) fun (q,w,l)=>
 bif ((q.length:Int) == 0) then
  some (.ret ((aw.mk 2 (bM.zero 4) []),(aq.mk w l)))
 else
  (M.f5 4 q).bind fun G=>
  some (.ret (G,(aq.mk w l)))
def M.b3:Nat→aq→Option (Rt (aw×aq))
| 0,_=>none
| fl+1,c=>
 (M.b4 fl c).bind fun a=>a.on (fun b=>
  bH (
   bE (fun (f:Str×Int×(List aw))=>match f with
   | (e,d,r)=>
    (M.a9 (aq.mk e d)).bind fun L=>
    bif (L == 124) then
     (dt .i64 (d+1)).bind fun B=>
     (M.b4 fl (aq.mk e B)).bind fun a=>a.on (fun n=>
      (dz 64 r [n.1]).bind fun T=>
      some (.next (n.2.s,n.2.atv,T))) (fun N=>some (.stop (.stop (.pan N))))
    else
     some (.stop (.next (r,e,d)))) fuel (b.2.s,b.2.atv,([b.1]:(List aw)))) fun (y,l,V)=>
  (M.f5 5 y).bind fun K=>
  some (.ret (K,(aq.mk l V)))) (fun k=>some (.pan k))
end
def M.d5:Nat→aw→Int→Option Bool
| 0,_,_=>none
| fl+1,a,c=>
 (
  bif (c == 0) then
   some true
  else
   some ((a.Kind == 3) == (a.Set == (bM.zero 4)))).bind fun (g:Bool)=>
 bif g then
  some false
 else
  bH (
   (
    bif (a.Kind == 1) then
     some (a.Kind == 1)
    else
     bif (a.Kind == 2) then
      some (a.Kind == 2)
     else
      some (a.Kind == 3)).bind fun (f:Bool)=>
   bif f then
    some (.next ((0:Int),(0:Int)))
   else
    (
     bif (a.Kind == 4) then
      some (a.Kind == 4)
     else
      some (a.Kind == 5)).bind fun (e:Bool)=>
    bif e then
     some (.next ((2:Int),(a.Kids.length:Int)))
    else
     bif (a.Kind == 6) then
      some (.next ((1:Int),(1:Int)))
     else
      some (.stop false)) fun (l,k)=>
  (
   bif (decide ((a.Kids.length:Int)<l)) then
    some true
   else
    some (decide (k<(a.Kids.length:Int)))).bind fun (d:Bool)=>
  bif d then
   some false
  else
   bH (
    bE (fun (b:Int)=>
     bif (decide (b<(a.Kids.length:Int))) then
      (bK a.Kids b).bind fun m=>
      (dt .i64 (c - 1)).bind fun i=>
      (M.d5 fl m i).bind fun j=>
      bif (!j) then
       some (.stop (.stop false))
      else
       (dt .i64 (b+1)).bind fun h=>
       some (.next h)
     else
      some (.stop (.next ()))) fuel (0:Int)) fun _=>
   some true
def M.f6 (rv1:aw):Option Bool:= (M.d5 fuel rv1 30).bind fun rv2=> some rv2
def M.e1 (c:Str):Option (aw×Int×Int):= (M.b3 fuel (aq.mk c 0)).bind fun b=>b.on (fun a=> bH (bif (decide (a.2.atv<(c.length:Int))) then (M.a2 a.2).bind fun b=>b.on (fun g=> some (.next ())) (fun e=>some (.stop ((aw.mk 0 (bM.zero 4) []),e,3))) else some (.next ())) fun _=> (M.f6 a.1).bind fun d=> bif (!d) then some ((aw.mk 0 (bM.zero 4) []),0,11) else some (a.1,0,0)) (fun f=>some ((aw.mk 0 (bM.zero 4) []),f,3))
def M.a8 (c1:(List cf)) (c2:Int) (c3:cf):Option Bool:= bH ((qt c1 0 c2).bind fun l2=> bE (fun (xv5:Int)=> bif (decide (xv5<(l2.length:Int))) then (bK l2 xv5).bind fun e6=> bif (e6.Name == c3.Name) then some (.stop (.stop true)) else (dt .i64 (xv5+1)).bind fun t6=> some (.next t6) else some (.stop (.next ()))) fuel (0:Int)) fun _=> some false
def M.f1 (b:Str):Option Bool:= (bif (b == []) then some true else bif (decide (24<(b.length:Int))) then some true else (bK M.g6 0).bind fun i=> bif (b == i) then some true else (bK M.g6 1).bind fun h=> bif (b == h) then some true else (bK M.g6 2).bind fun g=> some (b == g)).bind fun (e:Bool)=> bif e then some false else bH (bE (fun (c:Int)=> bif (decide (c<(b.length:Int))) then (kM b c).bind fun a=> (bif (decide (97≤a)) then bif (decide (a≤122)) then some true else bif (decide (65≤a)) then some (decide (a≤90)) else some false else bif (decide (65≤a)) then some (decide (a≤90)) else some false).bind fun (j:Bool)=> (bif (!j) then bif (c == 0) then some true else bif (a != 95) then bif (decide (a<48)) then some true else some (decide (57<a)) else some false else some false).bind fun (d:Bool)=> bif d then some (.stop (.stop false)) else (dt .i64 (c+1)).bind fun f=> some (.next f) else some (.stop (.next ()))) fuel (0:Int)) fun _=> some true
def M.a7 (c1:cf):Option Bool:= (M.f1 c1.Name).bind fun rv1=> some (!rv1)
def M.a6 (c1:cf):Option Bool:= (bif (decide (c1.Kind<1)) then some true else some (decide (3<c1.Kind))).bind fun (xv1:Bool)=> some xv1
def M.a5 (c1:Int):Option Bool:= some (c1 != 0)
def M.c3:Nat→aw→Option Bool
| 0,_=>none
| fl+1,a=>
 bH (
  (
   bif (a.Kind == 2) then
    some (a.Kind == 2)
   else
    some (a.Kind == 6)).bind fun (d:Bool)=>
  bif d then
   some (.stop true)
  else
   bif (a.Kind == 4) then
    bH (
     bE (fun (c:Int)=>
      bif (decide (c<(a.Kids.length:Int))) then
       (bK a.Kids c).bind fun j=>
       (M.c3 fl j).bind fun h=>
       bif (!h) then
        some (.stop (.stop (.stop false)))
       else
        (dt .i64 (c+1)).bind fun f=>
        some (.next f)
      else
       some (.stop (.next ()))) fuel (0:Int)) fun _=>
    some (.stop true)
   else
    bif (a.Kind == 5) then
     bE (fun (b:Int)=>
      bif (decide (b<(a.Kids.length:Int))) then
       (bK a.Kids b).bind fun i=>
       (M.c3 fl i).bind fun g=>
       bif g then
        some (.stop (.stop true))
       else
        (dt .i64 (b+1)).bind fun e=>
        some (.next e)
      else
       some (.stop (.next ()))) fuel (0:Int)
    else
     some (.next ())) fun _=>
 some false
def M.a4 (c1:aw):Option Bool:= (M.c3 fuel c1).bind fun rv1=> some rv1
def M.d7 (s1:Str):Option Bool:= bH (bE (fun (xv9:Int)=> bif (decide (xv9<(s1.length:Int))) then ((kM s1 xv9).bind fun c12=> bif (decide (c12<32)) then some true else some (decide (126<c12))).bind fun (xv12:Bool)=> bif xv12 then some (.stop (.stop false)) else (dt .i64 (xv9+1)).bind fun t6=> some (.next t6) else some (.stop (.next ()))) fuel (0:Int)) fun _=> some true
def M.a3 (c1:cf):Option Bool:= (M.d7 c1.Close).bind fun rv1=> some (!rv1)
def M.c6 (e:(List cf)) (d:Int):Option Int:= (bK e d).bind fun a=> (M.e1 a.Pattern).bind fun b=> bH ((some ([(cM.mk (M.a7 a) 4),(cM.mk (M.a8 e d a) 5),(cM.mk (M.a6 a) 1),(cM.mk (M.a5 b.2.2) b.2.2),(cM.mk (M.a4 b.1) 10),(cM.mk (M.a3 a) 1)].length:Int)).bind fun t5=> bE (fun (c:Int)=> bif (decide (c<t5)) then (bK [(cM.mk (M.a7 a) 4),(cM.mk (M.a8 e d a) 5),(cM.mk (M.a6 a) 1),(cM.mk (M.a5 b.2.2) b.2.2),(cM.mk (M.a4 b.1) 10),(cM.mk (M.a3 a) 1)] c).bind fun f=> (f.fails).bind fun h=> bif h then some (.stop (.stop f.err)) else (dt .i64 (c+1)).bind fun g=> some (.next g) else some (.stop (.next ()))) fuel (0:Int)) fun _=> some 0
def M.f0:Nat→aw→Option Int
| 0,_=>none
| fl+1,b=>
 (
  bE (fun (f:Int×Int)=>match f with
  | (c,a)=>
   bif (decide (a<(b.Kids.length:Int))) then
    (bK b.Kids a).bind fun i=>
    (M.f0 fl i).bind fun g=>
    (dt .i64 (c+g)).bind fun e=>
    (dt .i64 (a+1)).bind fun d=>
    some (.next (e,d))
   else
    some (.stop c)) fuel ((1:Int),(0:Int))).bind fun (h:Int)=>
 some h
def M.d9 (b1:aL) (rv1:aw):Option (bO×aL):= some ((bO.mk false [] []),b1)
def M.d6 (b1:aL) (rv1:aw):Option (bO×aL):= some ((bO.mk true [] []),b1)
def M.e4 (b1:aL) (rv1:aw):Option (bO×aL):= (dz 32 b1.sets [rv1.Set]).bind fun y1=> (dz 8 b1.behind [[]]).bind fun y2=> some ((bO.mk false [(y1.length:Int)] [(y1.length:Int)]),(aL.mk y1 y2))
def M.c4 (i:aL) (g:(List Int)) (f:(List Int)):Option aL:= bE (fun (d:(List (List (Int×Bool)))×Int)=>match d with | (e,c)=> bif (decide (c<(g.length:Int))) then ((bK g c).bind fun h=> bE (fun (d:(List (List (Int×Bool)))×Int)=>match d with | (b,a)=> bif (decide (a<(f.length:Int))) then (bK f a).bind fun n=> (bK b h).bind fun m=> (gn b h (hY m n true)).bind fun j=> (dt .i64 (a+1)).bind fun t20=> some (.next (j,t20)) else some (.stop b)) fuel (e,(0:Int))).bind fun (k:(List (List (Int×Bool))))=> (dt .i64 (c+1)).bind fun l=> some (.next (k,l)) else some (.stop (aL.mk i.sets e))) fuel (i.behind,(0:Int))
def M.e8 (l:List Int) (n:Int):Option (List Int):=AC l n
def M.a0 (a:(List (List Int))):Option (List Int):= (bE (fun (d:Int×Int)=>match d with | (f,b)=> bif (decide (b<(a.length:Int))) then ((bK a b).bind fun o=> (dt .i64 (f+(o.length:Int))).bind fun e=> bif (decide (e<0)) then none else some e).bind fun (j:Int)=> (dt .i64 (b+1)).bind fun h=> some (.next (j,h)) else some (.stop f)) fuel ((0:Int),(0:Int))).bind fun (i:Int)=> (M.e8 [] i).bind fun m=> (bE (fun (d:(List Int)×Int)=>match d with | (g,c)=> bif (decide (c<(a.length:Int))) then (bK a c).bind fun n=> (dz 8 g n).bind fun l=> (dt .i64 (c+1)).bind fun t24=> some (.next (l,t24)) else some (.stop g)) fuel (m,(0:Int))).bind fun (k:(List Int))=> some k
mutual
def M.b6:Nat→aL→aw→Option (bO×aL)
| 0,_,_=>none
| fl+1,b,a=>
 (
  bE (fun (p:(List (bM 4))×(List (List (Int×Bool)))×Bool×(List Int)×(List Int)×Int)=>match p with
  | (u,t,l,k,j,f)=>
   bif (decide (f<(a.Kids.length:Int))) then
    (bK a.Kids f).bind fun q=>
    (M.b1 fl (aL.mk u t) q).bind fun e=>
    (M.c4 e.2 j e.1.first).bind fun h=>
    (
     bif l then
      (M.a0 [k,e.1.first]).bind fun R=>
      some R
     else
      some k).bind fun (s:(List Int))=>
    (
     bif e.1.nullable then
      (M.a0 [j,e.1.last]).bind fun Q=>
      some Q
     else
      some e.1.last).bind fun (r:(List Int))=>
    bif l then
     (dt .i64 (f+1)).bind fun t9=>
     some (.next (h.sets,h.behind,e.1.nullable,s,r,t9))
    else
     (dt .i64 (f+1)).bind fun o=>
     some (.next (h.sets,h.behind,false,s,r,o))
   else
    some (.stop (l,k,j,u,t))) fuel (b.sets,b.behind,true,([]:(List Int)),([]:(List Int)),(0:Int))).bind fun (I,H,G,F,D)=>
 some ((bO.mk I H G),(aL.mk F D))
def M.c0:Nat→aL→aw→Option (bO×aL)
| 0,_,_=>none
| fl+1,b,a=>
 (
  bE (fun (p:(List (bM 4))×(List (List (Int×Bool)))×Bool×(List Int)×(List Int)×Int)=>match p with
  | (x,w,v,n,m,g)=>
   bif (decide (g<(a.Kids.length:Int))) then
    (bK a.Kids g).bind fun q=>
    (M.b1 fl (aL.mk x w) q).bind fun c=>
    bif v then
     (M.a0 [n,c.1.first]).bind fun V=>
     (M.a0 [m,c.1.last]).bind fun U=>
     (dt .i64 (g+1)).bind fun t9=>
     some (.next (c.2.sets,c.2.behind,true,V,U,t9))
    else
     (M.a0 [n,c.1.first]).bind fun T=>
     (M.a0 [m,c.1.last]).bind fun S=>
     (dt .i64 (g+1)).bind fun o=>
     some (.next (c.2.sets,c.2.behind,c.1.nullable,T,S,o))
   else
    some (.stop (v,n,m,x,w))) fuel (b.sets,b.behind,false,([]:(List Int)),([]:(List Int)),(0:Int))).bind fun (P,N,L,K,J)=>
 some ((bO.mk P N L),(aL.mk K J))
def M.c5:Nat→aL→aw→Option (bO×aL)
| 0,_,_=>none
| fl+1,b,a=>
 (bK a.Kids 0).bind fun W=>
 (M.b1 fl b W).bind fun d=>
 (M.c4 d.2 d.1.last d.1.first).bind fun i=>
 some ((bO.mk true d.1.first d.1.last),i)
def M.b1:Nat→aL→aw→Option (bO×aL)
| 0,_,_=>none
| fl+1,b,a=>
 bif (a.Kind == 6) then
  (M.c5 fl b a).bind fun d=>
  some (d.1,d.2)
 else
  bif (a.Kind == 5) then
   (M.c0 fl b a).bind fun i=>
   some (i.1,i.2)
  else
   bif (a.Kind == 4) then
    (M.b6 fl b a).bind fun B=>
    some (B.1,B.2)
   else
    bif (a.Kind == 3) then
     (M.e4 b a).bind fun A=>
     some (A.1,A.2)
    else
     bif (a.Kind == 2) then
      (M.d6 b a).bind fun z=>
      some (z.1,z.2)
     else
      bif (a.Kind == 1) then
       (M.d9 b a).bind fun y=>
       some (y.1,y.2)
      else
       none
end
def M.e5 (f:(List aw)):Option (ep×Int):= bH (bE (fun (a:Int×Int)=>match a with | (w,g)=> bif (decide (g<(f.length:Int))) then (bK f g).bind fun u=> (M.f6 u).bind fun R=> bif (!R) then some (.stop (.stop ((ep.mk 0 0 [] []),1))) else (M.f0 fuel u).bind fun Q=> (dt .i64 (w+Q)).bind fun P=> (dt .i64 (g+1)).bind fun N=> some (.next (P,N)) else some (.stop (.next w))) fuel ((0:Int),(0:Int))) fun (X:Int)=> bif (decide (500<X)) then some ((ep.mk 0 0 [] []),11) else (bE (fun (a:(List (bM 4))×(List (List (Int×Bool)))×(List Int)×Int)=>match a with | (q,p,o,b)=> bif (decide (b<(f.length:Int))) then ((bK f b).bind fun W=> (M.b1 fuel (aL.mk q p) W).bind fun d=> (M.c4 d.2 [0] d.1.first).bind fun c=> (bE (fun (k:(List Int))=> bif (decide ((k.length:Int)≤(c.sets.length:Int))) then (dz 8 k [(-1)]).bind fun a1=> some (.next a1) else some (.stop k)) fuel o).bind fun (B:(List Int))=> (bE (fun (a:(List Int)×Int)=>match a with | (n,i)=> bif (decide (i<(d.1.last.length:Int))) then (bK d.1.last i).bind fun V=> (gn n V b).bind fun a0=> (dt .i64 (i+1)).bind fun I=> some (.next (a0,I)) else some (.stop n)) fuel (B,(0:Int))).bind fun (j:(List Int))=> (bif d.1.nullable then (bK j 0).bind fun U=> some (decide (U<0)) else some false).bind fun (A:Bool)=> bif A then (gn j 0 b).bind fun Z=> some (c.sets,c.behind,Z) else some (c.sets,c.behind,j)).bind fun (F,D,a2)=> (dt .i64 (b+1)).bind fun H=> some (.next (F,D,a2,H)) else some (.stop (q,p,o))) fuel (([]:(List (bM 4))),([[]]:(List (List (Int×Bool)))),([(-1)]:(List Int)),(0:Int))).bind fun (G,s,r)=> (bE (fun (a:(List dP)×Int)=>match a with | (m,e)=> bif (decide (e<(s.length:Int))) then ((bK s e).bind fun T=> (xG T).bind fun t=> bE (fun (a:(List dP)×Int)=>match a with | (l,h)=> bif (decide (h<(t.length:Int))) then (bK t h).bind fun v=> (dt .i64 (v - 1)).bind fun L=> (bK G L).bind fun S=> (dz 56 l [(dP.mk e v false S)]).bind fun x=> (dt .i64 (h+1)).bind fun K=> some (.next (x,K)) else some (.stop l)) fuel (m,(0:Int))).bind fun (y:(List dP))=> (dt .i64 (e+1)).bind fun J=> some (.next (y,J)) else some (.stop m)) fuel (([]:(List dP)),(0:Int))).bind fun (z:(List dP))=> some ((ep.mk (r.length:Int) 0 z r),0)
def M.e2 (s1:Int) (c1:ep):Option Bool:= (bif (decide (0≤s1)) then some (decide (s1<c1.States)) else some false).bind fun (xv1:Bool)=> some xv1
def M.c1 (s1:(List Int)) (f1:(Int→Option Bool)):Option Int:= bH (bE (fun (xv5:Int)=> bif (decide (xv5<(s1.length:Int))) then (bK s1 xv5).bind fun e6=> (f1 e6).bind fun rv6=> bif rv6 then some (.stop (.stop xv5)) else (dt .i64 (xv5+1)).bind fun t6=> some (.next t6) else some (.stop (.next ()))) fuel (0:Int)) fun _=> some (-1)
def M.b2 (s1:(List Int)) (f1:(Int→Option Bool)):Option Bool:= (M.c1 s1 f1).bind fun rv1=> some (decide (0≤rv1))
def M.f7 (xv1:Int):Option Bool:= some (decide (xv1<(-1)))
def M.h6 (a:ep):Option Bool:= (bif (decide (a.States<1)) then some true else bif (decide (2000<a.States)) then some true else (M.e2 a.Start a).bind fun j=> bif (!j) then some true else some ((a.Accept.length:Int) != a.States)).bind fun (e:Bool)=> bif e then some false else bH (bE (fun (c:Int)=> bif (decide (c<(a.Arcs.length:Int))) then (bK a.Arcs c).bind fun b=> ((M.e2 b.From a).bind fun i=> bif (!i) then some true else (M.e2 b.To a).bind fun h=> bif (!h) then some true else bif b.Epsilon then some (b.Set != (bM.zero 4)) else some false).bind fun (d:Bool)=> bif d then some (.stop (.stop false)) else (dt .i64 (c+1)).bind fun f=> some (.next f) else some (.stop (.next ()))) fuel (0:Int)) fun _=> (M.b2 a.Accept M.f7).bind fun g=> some (!g)
def M.f8 (s1:(bM 4)) (b1:Int):Option Bool:= (zJ .u8 b1 64).bind fun t1=> (rP s1 t1).bind fun c1=> (zF b1 64).bind fun t2=> (vt .u64 c1 t2).bind fun t3=> some ((bits .and .u64 t3 1) == 1)
def M.e7 (e:(List (bM 4))):Option (List Int):= (vS 8 256 (0:Int)).bind fun i=> (bE (fun (d:(List Int)×(List (Str×Int))×Int)=>match d with | (h,a,c)=> bif (decide (c<(i.length:Int))) then ((vS 1 (e.length:Int) (0:Int)).bind fun u=> (bE (fun (d:(List Int)×Int)=>match d with | (f,b)=> bif (decide (b<(e.length:Int))) then ((bK e b).bind fun v=> (M.f8 v (IntKind.u8.wrap c)).bind fun l=> bif l then (gn f b 1).bind fun s=> some s else some f).bind fun (t:(List Int))=> (dt .i64 (b+1)).bind fun k=> some (.next (t,k)) else some (.stop f)) fuel (u,(0:Int))).bind fun (g:(List Int))=> (bif (!((cn a (dL g)).isSome)) then some ((hY a (dL g) (a.length:Int)),(a.length:Int)) else some (a,((cn a (dL g)).getD 0))).bind fun (q,p)=> (gn h c p).bind fun m=> some (m,q)).bind fun (n,r)=> (dt .i64 (c+1)).bind fun j=> some (.next (n,r,j)) else some (.stop h)) fuel (i,([]:(List (Str×Int))),(0:Int))).bind fun (o:(List Int))=> some o
def M.g3 (c:(List Int)):Option (List Int):= (bE (fun (f:(List Int)×Int)=>match f with | (b,a)=> bif (decide (a<(c.length:Int))) then ((bK c a).bind fun i=> bif (i == (b.length:Int)) then (dz 1 b [(IntKind.u8.wrap a)]).bind fun g=> some g else some b).bind fun (h:(List Int))=> (dt .i64 (a+1)).bind fun e=> some (.next (h,e)) else some (.stop b)) fuel (([]:(List Int)),(0:Int))).bind fun (d:(List Int))=> some d
def M.e0 (s1:Int) (c1:ep) (c2:(List Bool)) (c3:(List Int)):Option ((List Bool)×(List Int)):= (bif (decide (0≤s1)) then bif (decide (s1<c1.States)) then (bK c2 s1).bind fun e2=> some (!e2) else some false else some false).bind fun (xv1:Bool)=> bif xv1 then (gn c2 s1 true).bind fun y1=> (dz 8 c3 [s1]).bind fun y2=> some (y1,y2) else some (c2,c3)
def M.h1 (c:(List Bool)):Option (List Int):= (bE (fun (f:(List Int)×Int)=>match f with | (b,a)=> bif (decide (a<(c.length:Int))) then ((bK c a).bind fun i=> bif i then (dz 8 b [a]).bind fun g=> some g else some b).bind fun (h:(List Int))=> (dt .i64 (a+1)).bind fun e=> some (.next (h,e)) else some (.stop b)) fuel (([]:(List Int)),(0:Int))).bind fun (d:(List Int))=> some d
def M.e3 (b:ep) (j:(List Int)):Option (List Int):= (vS 1 b.States (false:Bool)).bind fun y=> (bE (fun (a:(List Bool)×(List Int)×Int)=>match a with | (m,i,d)=> bif (decide (d<(j.length:Int))) then (bK j d).bind fun z=> (M.e0 z b m i).bind fun k=> (dt .i64 (d+1)).bind fun s=> some (.next (k.1,k.2,s)) else some (.stop (m,i))) fuel (y,([]:(List Int)),(0:Int))).bind fun (w,o)=> (bE (fun (a:(List Bool)×(List Int))=>match a with | (n,c)=> bif (decide (0<(c.length:Int))) then (dt .i64 ((c.length:Int) - 1)).bind fun t27=> (bK c t27).bind fun A=> (qt c 0 t27).bind fun v=> bE (fun (a:(List Bool)×(List Int)×Int)=>match a with | (g,f,e)=> bif (decide (e<(b.Arcs.length:Int))) then ((bK b.Arcs e).bind fun h=> (bif h.Epsilon then some (h.From == A) else some false).bind fun (p:Bool)=> bif p then (M.e0 h.To b g f).bind fun l=> some (l.1,l.2) else some (g,f)).bind fun (r,q)=> (dt .i64 (e+1)).bind fun t=> some (.next (r,q,t)) else some (.stop (.next (g,f)))) fuel (n,v,(0:Int)) else some (.stop n)) fuel (w,o)).bind fun (x:(List Bool))=> (M.h1 x).bind fun u=> some u
def M.h4 (c:(List Int)):Option Str:= (bE (fun (h:(List Int)×Int)=>match h with | (b,a)=> bif (decide (a<(c.length:Int))) then (bK c a).bind fun d=> (vt .i64 d 8).bind fun g=> (dz 1 b [(IntKind.u8.wrap d),(IntKind.u8.wrap g)]).bind fun i=> (dt .i64 (a+1)).bind fun f=> some (.next (i,f)) else some (.stop b)) fuel (([]:(List Int)),(0:Int))).bind fun (e:(List Int))=> some (dL e)
def M.h8 (a:ep) (n:(List Int)) (w:Int):Option (List Int):= (vS 1 a.States (false:Bool)).bind fun t=> ((M.e3 a n).bind fun g=> bE (fun (f:(List Bool)×Int)=>match f with | (h,c)=> bif (decide (c<(g.length:Int))) then (bK g c).bind fun u=> (gn h u true).bind fun s=> (dt .i64 (c+1)).bind fun l=> some (.next (s,l)) else some (.stop h)) fuel (t,(0:Int))).bind fun (r:(List Bool))=> (bE (fun (f:(List Int)×Int)=>match f with | (e,d)=> bif (decide (d<(a.Arcs.length:Int))) then ((bK a.Arcs d).bind fun b=> (bif (!b.Epsilon) then (bK r b.From).bind fun v=> bif v then (M.f8 b.Set w).bind fun p=> some p else some false else some false).bind fun (q:Bool)=> bif q then (dz 8 e [b.To]).bind fun j=> some j else some e).bind fun (k:(List Int))=> (dt .i64 (d+1)).bind fun m=> some (.next (k,m)) else some (.stop e)) fuel (([]:(List Int)),(0:Int))).bind fun (i:(List Int))=> (M.e3 a i).bind fun o=> some o
def M.g9 (j:ep) (d:(List Int)):Option Int:= (bE (fun (g:Int×Int)=>match g with | (a,b)=> bif (decide (b<(d.length:Int))) then ((bK d b).bind fun k=> (bK j.Accept k).bind fun c=> (bif (decide (0≤c)) then bif (decide (a<0)) then some true else some (decide (c<a)) else some false).bind fun (e:Bool)=> bif e then some c else some a).bind fun (i:Int)=> (dt .i64 (b+1)).bind fun f=> some (.next (i,f)) else some (.stop a)) fuel (((-1):Int),(0:Int))).bind fun (h:Int)=> some h
def M.e6 (b:ep):Option (bB×Int):= (M.h6 b).bind fun N=> bif (!N) then some ((bB.mk [] [] []),1) else (bE (fun (e:(List (bM 4))×Int)=>match e with | (n,h)=> bif (decide (h<(b.Arcs.length:Int))) then (bK b.Arcs h).bind fun e6=> (dz 32 n [e6.Set]).bind fun Z=> (dt .i64 (h+1)).bind fun G=> some (.next (Z,G)) else some (.stop n)) fuel (([]:(List (bM 4))),(0:Int))).bind fun (x:(List (bM 4)))=> (M.e7 x).bind fun q=> (M.g3 q).bind fun i=> (M.e3 b [b.Start]).bind fun p=> (bK [p] 0).bind fun e7=> (M.h4 e7).bind fun L=> bH (bE (fun (e:(List (List Int))×(List Int)×(List (List Int))×(List (Str×Int))×Int)=>match e with | (m,l,k,X,g)=> bif (decide (g<(k.length:Int))) then bH ((vS 8 (i.length:Int) (0:Int)).bind fun S=> bH (bE (fun (e:(List (List Int))×(List (Str×Int))×(List Int)×Int)=>match e with | (a,c,s,d)=> bif (decide (d<(i.length:Int))) then bH ((bK i d).bind fun a5=> (bK a g).bind fun a4=> (M.h8 b a4 a5).bind fun f=> (gn s d (-1)).bind fun r=> bif ((f.length:Int) == 0) then some (.next (a,c,r)) else (M.h4 f).bind fun o=> bH (bif (!((cn c o).isSome)) then bif ((a.length:Int) == 500) then some (.stop (.stop (.stop (.stop (.stop (.stop (.stop ((bB.mk [] [] []),11)))))))) else (M.h4 f).bind fun K=> (dz 24 a [f]).bind fun H=> some (.next (H,(hY c K (a.length:Int)),(a.length:Int))) else some (.next (a,c,((cn c o).getD 0)))) fun (I,T,a0)=> (gn r d a0).bind fun P=> some (.next (I,T,P))) fun (y,U,Q)=> (dt .i64 (d+1)).bind fun F=> some (.next (y,U,Q,F)) else some (.stop (.next (a,c,s)))) fuel (k,X,S,(0:Int))) fun (j,V,R)=> (dz 24 m [R]).bind fun u=> (bK j g).bind fun a3=> (M.g9 b a3).bind fun J=> (dz 8 l [J]).bind fun t=> some (.next (u,t,j,V))) fun (w,v,z,W)=> (dt .i64 (g+1)).bind fun D=> some (.next (w,v,z,W,D)) else some (.stop (.next (m,l)))) fuel (([]:(List (List Int))),([]:(List Int)),([p]:(List (List Int))),(hY [] L 0),(0:Int))) fun (B,A)=> some ((bB.mk q B A),0)
def M.h9 (a:bB):Option bB:= ((vS 8 (a.Class.length:Int) (0:Int)).bind fun x=> some x).bind fun (y:(List Int))=> (bE (fun (c:(List (Int×Int))×(List Int)×(List Int)×Int)=>match c with | (e,b,l,d)=> bif (decide (d<(a.Class.length:Int))) then (bK a.Class d).bind fun f=> (bif (!((cn e f).isSome)) then (dz 8 b [f]).bind fun F=> some ((hY e f (b.length:Int)),F,(b.length:Int)) else some (e,b,((cn e f).getD 0))).bind fun (v,G,z)=> (gn l d z).bind fun o=> (dt .i64 (d+1)).bind fun t=> some (.next (v,G,o,t)) else some (.stop (b,l))) fuel (([]:(List (Int×Int))),([]:(List Int)),y,(0:Int))).bind fun (i,w)=> (bE (fun (c:(List (List Int))×Int)=>match c with | (k,h)=> bif (decide (h<(a.Next.length:Int))) then ((bK a.Next h).bind fun D=> (bE (fun (c:(List Int)×Int)=>match c with | (j,g)=> bif (decide (g<(i.length:Int))) then (bK i g).bind fun B=> (bK D B).bind fun A=> (dz 8 j [A]).bind fun u=> (dt .i64 (g+1)).bind fun s=> some (.next (u,s)) else some (.stop j)) fuel (([]:(List Int)),(0:Int))).bind fun (q:(List Int))=> (dz 24 k [q]).bind fun m=> some m).bind fun (n:(List (List Int)))=> (dt .i64 (h+1)).bind fun r=> some (.next (n,r)) else some (.stop k)) fuel (([]:(List (List Int))),(0:Int))).bind fun (p:(List (List Int)))=> some (bB.mk w p a.Accept)
def M.g4 (t1:Int) (c1:(List Bool)):Option Bool:= (bif (decide (0≤t1)) then (bK c1 t1).bind fun e3=> some e3 else some false).bind fun (e2:Bool)=> some e2
def M.i0 (d:bB):Option (List Bool):= (vS 1 (d.Next.length:Int) (false:Bool)).bind fun t=> (bE (fun (b:(List Bool)×Int)=>match b with | (g,e)=> bif (decide (e<(d.Accept.length:Int))) then (bK d.Accept e).bind fun u=> (gn g e (decide (0≤u))).bind fun j=> (dt .i64 (e+1)).bind fun m=> some (.next (j,m)) else some (.stop g)) fuel (t,(0:Int))).bind fun (r:(List Bool))=> (bE (fun (b:(List Bool)×Bool)=>match b with | (h,q)=> bif q then bE (fun (b:(List Bool)×Bool×Int)=>match b with | (c,f,a)=> bif (decide (a<(d.Next.length:Int))) then ((bK d.Next a).bind fun w=> ((bK c a).bind fun v=> bif (!v) then (M.b2 w (fun l=>M.g4 l c)).bind fun n=> some n else some false).bind fun (o:Bool)=> bif o then (gn c a true).bind fun i=> some (i,true) else some (c,f)).bind fun (k,p)=> (dt .i64 (a+1)).bind fun t24=> some (.next (k,p,t24)) else some (.stop (.next (c,f)))) fuel (h,false,(0:Int)) else some (.stop h)) fuel (r,true)).bind fun (s:(List Bool))=> some s
def M.c8 (s1:(List Int)):Option (List Int):= (dz 8 [] s1).bind fun y1=> some y1
def M.h2 (a:bB):Option bB:= (M.i0 a).bind fun p=> (bE (fun (e:(List (List Int))×Int)=>match e with | (f,d)=> bif (decide (d<(a.Next.length:Int))) then ((bK a.Next d).bind fun t=> (M.c8 t).bind fun g=> (bE (fun (e:(List Int)×Int)=>match e with | (c,b)=> bif (decide (b<(g.length:Int))) then ((bK c b).bind fun h=> (bif (decide (0≤h)) then (bK p h).bind fun s=> some (!s) else some false).bind fun (i:Bool)=> bif i then (gn c b (-1)).bind fun m=> some m else some c).bind fun (n:(List Int))=> (dt .i64 (b+1)).bind fun l=> some (.next (n,l)) else some (.stop c)) fuel (g,(0:Int))).bind fun (o:(List Int))=> (dz 24 f [o]).bind fun q=> some q).bind fun (r:(List (List Int)))=> (dt .i64 (d+1)).bind fun k=> some (.next (r,k)) else some (.stop f)) fuel (([]:(List (List Int))),(0:Int))).bind fun (j:(List (List Int)))=> some (bB.mk a.Class j a.Accept)
def M.g1 (f:(List Int)):Option Str:= (bE (fun (c:(List Int)×Int)=>match c with | (e,b)=> bif (decide (b<(f.length:Int))) then ((bK f b).bind fun m=> bE (fun (c:(List Int)×Int)=>match c with | (d,a)=> bif (decide (a<8)) then (dt .i64 (8*a)).bind fun l=> (vt .i64 m l).bind fun k=> (dz 1 d [(IntKind.u8.wrap k)]).bind fun n=> (dt .i64 (a+1)).bind fun j=> some (.next (n,j)) else some (.stop d)) fuel (e,(0:Int))).bind fun (g:(List Int))=> (dt .i64 (b+1)).bind fun i=> some (.next (g,i)) else some (.stop e)) fuel (([]:(List Int)),(0:Int))).bind fun (h:(List Int))=> some (dL h)
def M.f9 (d:bB):Option (List Int):= (vS 8 (d.Next.length:Int) (0:Int)).bind fun s=> bE (fun (c:(List Int)×Int)=>match c with | (g,H)=> (vS 8 (g.length:Int) (0:Int)).bind fun v=> (bE (fun (c:(List (Str×Int))×(List Int)×Int)=>match c with | (a,j,b)=> bif (decide (b<(d.Next.length:Int))) then ((bK d.Next b).bind fun n=> (bK g b).bind fun G=> (bK d.Accept b).bind fun F=> (bE (fun (c:(List Int)×Int)=>match c with | (f,e)=> bif (decide (e<(n.length:Int))) then ((bK n e).bind fun m=> bif (decide (m<0)) then (dz 8 f [0]).bind fun z=> some z else (bK g m).bind fun D=> (dt .i64 (D+1)).bind fun q=> (dz 8 f [q]).bind fun y=> some y).bind fun (A:(List Int))=> (dt .i64 (e+1)).bind fun p=> some (.next (A,p)) else some (.stop f)) fuel (([G,(IntKind.i64.wrap (F+1))]:(List Int)),(0:Int))).bind fun (h:(List Int))=> (M.g1 h).bind fun i=> (bif (!((cn a i).isSome)) then (M.g1 h).bind fun r=> some ((hY a r (a.length:Int)),(a.length:Int)) else some (a,((cn a i).getD 0))).bind fun (w,B)=> (gn j b B).bind fun t=> some (w,t)).bind fun (x,u)=> (dt .i64 (b+1)).bind fun o=> some (.next (x,u,o)) else some (.stop (a,j))) fuel (([]:(List (Str×Int))),v,(0:Int))).bind fun (l,k)=> bif ((l.length:Int) == H) then some (.stop k) else some (.next (k,(l.length:Int)))) fuel (s,(0:Int))
def M.g7 (j:bB) (g:(List Int)):Option (List Int):= (vS 1 (j.Next.length:Int) (false:Bool)).bind fun t=> (bK g 0).bind fun A=> (gn t A true).bind fun o=> (bE (fun (f:(List Int)×(List Bool)×Int)=>match f with | (a,s,h)=> bif (decide (h<(a.length:Int))) then ((bK a h).bind fun z=> (bK j.Next z).bind fun i=> bE (fun (f:(List Int)×(List Bool)×Int)=>match f with | (e,b,d)=> bif (decide (d<(i.length:Int))) then ((bK i d).bind fun c=> (bif (decide (0≤c)) then (bK g c).bind fun y=> (bK b y).bind fun x=> some (!x) else some false).bind fun (l:Bool)=> bif l then (bK g c).bind fun w=> (gn b w true).bind fun p=> (dz 8 e [c]).bind fun u=> some (u,p) else some (e,b)).bind fun (v,q)=> (dt .i64 (d+1)).bind fun t41=> some (.next (v,q,t41)) else some (.stop (e,b))) fuel (a,s,(0:Int))).bind fun (m,r)=> (dt .i64 (h+1)).bind fun n=> some (.next (m,r,n)) else some (.stop a)) fuel (([0]:(List Int)),o,(0:Int))).bind fun (k:(List Int))=> some k
def M.f2 (d1:bB) (s1:Int) (b1:Int):Option Int:= bif (decide (s1<0)) then some (-1) else (bK d1.Next s1).bind fun e1=> (bK d1.Class b1).bind fun e2=> (bK e1 e2).bind fun e3=> some e3
def M.g8 (z:bB) (h:(List Int)) (p:(List Int)):Option (List Int):= (vS 8 256 (0:Int)).bind fun k=> (bE (fun (e:(List Int)×(List (Str×Int))×Int)=>match e with | (j,a,b)=> bif (decide (b<(k.length:Int))) then ((bE (fun (e:(List Int)×Int)=>match e with | (f,c)=> bif (decide (c<(h.length:Int))) then (bK h c).bind fun y=> (M.f2 z y (IntKind.u8.wrap b)).bind fun d=> (bif (decide (0≤d)) then (bK p d).bind fun x=> some x else some d).bind fun (n:Int)=> (dz 8 f [n]).bind fun v=> (dt .i64 (c+1)).bind fun m=> some (.next (v,m)) else some (.stop f)) fuel (([]:(List Int)),(0:Int))).bind fun (g:(List Int))=> (M.g1 g).bind fun i=> (bif (!((cn a i).isSome)) then (M.g1 g).bind fun o=> some ((hY a o (a.length:Int)),(a.length:Int)) else some (a,((cn a i).getD 0))).bind fun (t,w)=> (gn j b w).bind fun q=> some (q,t)).bind fun (r,u)=> (dt .i64 (b+1)).bind fun l=> some (.next (r,u,l)) else some (.stop j)) fuel (k,([]:(List (Str×Int))),(0:Int))).bind fun (s:(List Int))=> some s
def M.g5 (d1:bB):Option bB:= (M.h9 d1).bind fun F=> (M.h2 F).bind fun d=> (M.f9 d).bind fun e=> ((M.g7 d e).bind fun D=> (M.g8 d D e).bind fun B=> some B).bind fun (o:(List Int))=> (M.g3 o).bind fun j=> (bK e 0).bind fun Z=> (bE (fun (h:(List (List Int))×(List Int)×(List Int)×(List (Int×Int))×Int)=>match h with | (n,m,l,S,f)=> bif (decide (f<(l.length:Int))) then ((vS 8 (j.length:Int) (0:Int)).bind fun J=> (bE (fun (h:(List Int)×(List (Int×Int))×(List Int)×Int)=>match h with | (a,b,q,c)=> bif (decide (c<(j.length:Int))) then ((bK j c).bind fun X=> (bK a f).bind fun W=> (M.f2 d W X).bind fun g=> (gn q c (-1)).bind fun p=> bif (decide (g<0)) then some (a,b,p) else (bK e g).bind fun i=> (bif (!((cn b i).isSome)) then (dz 8 a [g]).bind fun K=> some (K,(hY b i (a.length:Int)),(a.length:Int)) else some (a,b,((cn b i).getD 0))).bind fun (L,N,T)=> (gn p c T).bind fun G=> some (L,N,G)).bind fun (v,P,H)=> (dt .i64 (c+1)).bind fun A=> some (.next (v,P,H,A)) else some (.stop (a,b,q))) fuel (l,S,J,(0:Int))).bind fun (k,Q,I)=> (dz 24 n [I]).bind fun s=> (bK k f).bind fun V=> (bK d.Accept V).bind fun U=> (dz 8 m [U]).bind fun r=> some (s,r,k,Q)).bind fun (u,t,w,R)=> (dt .i64 (f+1)).bind fun z=> some (.next (u,t,w,R,z)) else some (.stop (n,m))) fuel (([]:(List (List Int))),([]:(List Int)),([0]:(List Int)),(hY [] Z 0),(0:Int))).bind fun (y,x)=> some (bB.mk o y x)
def M.b0 (l1:(List aw)):Option (bB×Int):= (M.e5 l1).bind fun rv1=> bif (rv1.2 != 0) then some ((bB.mk [] [] []),rv1.2) else (M.e6 rv1.1).bind fun rv2=> bif (rv2.2 != 0) then some ((bB.mk [] [] []),rv2.2) else (M.g5 rv2.1).bind fun rv3=> some (rv3,0)
def M.f3 (d1:bB) (s1:Int):Option Int:= bif (decide (s1<0)) then some (-1) else (bK d1.Accept s1).bind fun e1=> some e1
def M.h7 (d:bB) (c:Str):Option Int:= (bE (fun (h:Int×Int)=>match h with | (b,a)=> bif (decide (a<(c.length:Int))) then (kM c a).bind fun j=> (M.f2 d b j).bind fun g=> (dt .i64 (a+1)).bind fun e=> some (.next (g,e)) else some (.stop b)) fuel ((0:Int),(0:Int))).bind fun (f:Int)=> (M.f3 d f).bind fun i=> some i
def M.d2 (d:Str):Option aw:= (bE (fun (g:(List aw)×Int)=>match g with | (c,b)=> bif (decide (b<(d.length:Int))) then (kM d b).bind fun e=> (M.d1 e e).bind fun h=> (dz 64 c [(aw.mk 3 h [])]).bind fun i=> (dt .i64 (b+1)).bind fun f=> some (.next (i,f)) else some (.stop c)) fuel (([]:(List aw)),(0:Int))).bind fun (a:(List aw))=> bif ((a.length:Int) == 1) then (bK a 0).bind fun j=> some j else some (aw.mk 4 (bM.zero 4) a)
def M.d8 (m:bB) (l:bB):Option (Str×Bool):= bH (bE (fun (h:(List cA)×(List (br×Unit))×Int)=>match h with | (g,y,k)=> bif (decide (k<(g.length:Int))) then bH ((bK g k).bind fun c=> (M.f3 m c.atv.a).bind fun t=> (M.f3 l c.atv.b).bind fun s=> bif (t != s) then some (.stop (.stop (.stop (c.text,true)))) else bE (fun (h:(List cA)×(List (br×Unit))×Int)=>match h with | (f,e,d)=> bif (decide (d<256)) then (((M.f2 m c.atv.a (IntKind.u8.wrap d)).bind fun r=> (M.f2 l c.atv.b (IntKind.u8.wrap d)).bind fun q=> some (r,q)).bind fun (j,i)=> bif (!((cn e (br.mk j i)).isSome)) then (Bp c.text (dL [(IntKind.u8.wrap d)])).bind fun p=> (dz 32 f [(cA.mk (br.mk j i) p)]).bind fun u=> some (u,(hY e (br.mk j i) ())) else some (f,e)).bind fun (v,w)=> (dt .i64 (d+1)).bind fun t41=> some (.next (v,w,t41)) else some (.stop (.next (f,e)))) fuel (g,y,(0:Int))) fun (n,x)=> (dt .i64 (k+1)).bind fun o=> some (.next (n,x,o)) else some (.stop (.next ()))) fuel (([(cA.mk (br.mk 0 0) [])]:(List cA)),(hY [] (br.mk 0 0) ()),(0:Int))) fun _=> some ([],false)
def M.g2 (rv1:aw) (s1:Str):Option Bool:= (M.b0 [rv1]).bind fun rv2=> (M.d2 s1).bind fun rv3=> (M.b0 [rv3]).bind fun rv4=> (bif (rv2.2 != 0) then some true else some (rv4.2 != 0)).bind fun (xv1:Bool)=> bif xv1 then some false else (M.d8 rv2.1 rv4.1).bind fun rv5=> some (!rv5.2)
def M.d3 (spec1:cg):Option (bB×Int×Int):= (bif (decide ((spec1.Defs.length:Int)<1)) then some true else some (decide (40<(spec1.Defs.length:Int)))).bind fun (j:Bool)=> bif j then some ((bB.mk [] [] []),0,11) else bH (bE (fun (m:(List aw)×Int)=>match m with | (f,b)=> bif (decide (b<(spec1.Defs.length:Int))) then (bK spec1.Defs b).bind fun r=> (M.c6 spec1.Defs b).bind fun g=> bif (g != 0) then some (.stop (.stop ((bB.mk [] [] []),b,g))) else (M.e1 r.Pattern).bind fun n=> (dz 64 f [n.1]).bind fun q=> (dt .i64 (b+1)).bind fun k=> some (.next (q,k)) else some (.stop (.next f))) fuel (([]:(List aw)),(0:Int))) fun (e:(List aw))=> (bif (decide (spec1.Misspelling<0)) then some true else bif (decide (1000<spec1.Misspelling)) then some true else bif (decide (spec1.Unclosed<0)) then some true else some (decide (1000<spec1.Unclosed))).bind fun (i:Bool)=> bif i then some ((bB.mk [] [] []),(spec1.Defs.length:Int),1) else (M.b0 e).bind fun c=> bif (c.2 != 0) then some ((bB.mk [] [] []),0,c.2) else bH (bE (fun (a:Int)=> bif (decide (a<(spec1.Defs.length:Int))) then (bK spec1.Defs a).bind fun d=> (M.h7 c.1 d.Sample).bind fun p=> bif (p != a) then some (.stop (.stop ((bB.mk [] [] []),a,13))) else (bif (d.Kind == 3) then (bK e a).bind fun s=> (M.g2 s d.Sample).bind fun o=> some (!o) else some false).bind fun (h:Bool)=> bif h then some (.stop (.stop ((bB.mk [] [] []),a,14))) else (dt .i64 (a+1)).bind fun l=> some (.next l) else some (.stop (.next ()))) fuel (0:Int)) fun _=> some (c.1,0,0)
def M.a1 (spec1:cg):Option (bB×Int):= (M.d3 spec1).bind fun rv1=> some (rv1.1,rv1.2.2)
def M.e9 (l:List Str) (sep:Str):Option Str:=if l.length≤140737488355328∧(Lib.join l sep).length≤140737488355328 then some (Lib.join l sep) else none
end Go.Proofs.YtbkjljkjhlcmoaaGreatDoor
