/- Part 3. -/
import Derived.Test.YtggpjcdhflcfmaaGreatDoorProg
import Derived.Test.YtggpjcdhflcfmaaGreatDoorRows
import Derived.Test.YtggpjcdhflcfmaaGreatDoorCards
import Derived.Test.YtggpjcdhflcfmaaGreatDoorTie
import Derived.SevenTiedAt
import Derived.ChangeVars
import Derived.LaidHandle
import Derived.Handed
import Derived.JoinedOf
import Derived.Test.YtggpjcdhflcfmaaGreatDoorKLexspecKeywords2
set_option linter.unusedVariables false
set_option linter.unusedSimpArgs false
namespace Go.Proofs.YtggpjcdhflcfmaaGreatDoor
open Go.Lx Go.RowKit
structure bz where
  Name:Str
  Kind:Int
  Pattern:Str
  Sample:Str
  Close:Str
instance:DecidableEq bz:=fun a b=>if h:a.Name=b.Name∧a.Kind=b.Kind∧a.Pattern=b.Pattern∧a.Sample=b.Sample∧a.Close=b.Close then isTrue (by cases a; cases b; simp_all) else isFalse (by intro e; subst e; simp at h)
structure T_LexSpec where
  Defs:(List bz)
  Layout:Bool
  Misspelling:Int
  Unclosed:Int
instance:DecidableEq T_LexSpec:=fun a b=>if h:a.Defs=b.Defs∧a.Layout=b.Layout∧a.Misspelling=b.Misspelling∧a.Unclosed=b.Unclosed then isTrue (by cases a; cases b; simp_all) else isFalse (by intro e; subst e; simp at h)
structure T_Regex where
  Kind:Int
  Set:(aV 4)
  Kids:(List T_Regex)
instance:Inhabited T_Regex:=⟨⟨default,aV.zero 4,[]⟩⟩
structure aE where
  s:Str
  atv:Int
instance:DecidableEq aE:=fun a b=>if h:a.s=b.s∧a.atv=b.atv then isTrue (by cases a; cases b; simp_all) else isFalse (by intro e; subst e; simp at h)
structure dp where
  fails:(Option Bool)
  err:Int
instance:DecidableEq dp:=fun a b=>if h:a.fails=b.fails∧a.err=b.err then isTrue (by cases a; cases b; simp_all) else isFalse (by intro e; subst e; simp at h)
structure bq where
  sets:(List (aV 4))
  behind:(List (List (Int×Bool)))
instance:DecidableEq bq:=fun a b=>if h:a.sets=b.sets∧a.behind=b.behind then isTrue (by cases a; cases b; simp_all) else isFalse (by intro e; subst e; simp at h)
structure bY where
  nullable:Bool
  first:(List Int)
  last:(List Int)
instance:DecidableEq bY:=fun a b=>if h:a.nullable=b.nullable∧a.first=b.first∧a.last=b.last then isTrue (by cases a; cases b; simp_all) else isFalse (by intro e; subst e; simp at h)
structure cd where
  From:Int
  To:Int
  Epsilon:Bool
  Set:(aV 4)
instance:DecidableEq cd:=fun a b=>if h:a.From=b.From∧a.To=b.To∧a.Epsilon=b.Epsilon∧a.Set=b.Set then isTrue (by cases a; cases b; simp_all) else isFalse (by intro e; subst e; simp at h)
structure T_NFA where
  States:Int
  Start:Int
  Arcs:(List cd)
  Accept:(List Int)
instance:DecidableEq T_NFA:=fun a b=>if h:a.States=b.States∧a.Start=b.Start∧a.Arcs=b.Arcs∧a.Accept=b.Accept then isTrue (by cases a; cases b; simp_all) else isFalse (by intro e; subst e; simp at h)
structure T_DFA where
  Class:(List Int)
  Next:(List (List Int))
  Accept:(List Int)
instance:DecidableEq T_DFA:=fun a b=>if h:a.Class=b.Class∧a.Next=b.Next∧a.Accept=b.Accept then isTrue (by cases a; cases b; simp_all) else isFalse (by intro e; subst e; simp at h)
structure bJ where
  a:Int
  b:Int
instance:DecidableEq bJ:=fun a b=>if h:a.a=b.a∧a.b=b.b then isTrue (by cases a; cases b; simp_all) else isFalse (by intro e; subst e; simp at h)
structure cM where
  atv:bJ
  text:Str
instance:DecidableEq cM:=fun a b=>if h:a.atv=b.atv∧a.text=b.text then isTrue (by cases a; cases b; simp_all) else isFalse (by intro e; subst e; simp at h)
structure aG where
  s:Str
  atv:Int
  bad:Bool
instance:DecidableEq aG:=fun a b=>if h:a.s=b.s∧a.atv=b.atv∧a.bad=b.bad then isTrue (by cases a; cases b; simp_all) else isFalse (by intro e; subst e; simp at h)
structure bT where
  sets:(List (aV 4))
  pairs:(List (aV 2))
instance:DecidableEq bT:=fun a b=>if h:a.sets=b.sets∧a.pairs=b.pairs then isTrue (by cases a; cases b; simp_all) else isFalse (by intro e; subst e; simp at h)
structure cF where
  nullable:Bool
  first:(List Int)
  last:(List Int)
instance:DecidableEq cF:=fun a b=>if h:a.nullable=b.nullable∧a.first=b.first∧a.last=b.last then isTrue (by cases a; cases b; simp_all) else isFalse (by intro e; subst e; simp at h)
def cg:Ty bz:=⟨5,fun g cs x=>∃k c1 c2 c3 j,cs=k++(c1++(c2++(c3++(j))))∧dZ.rel g k x.Name∧(ak .i64).rel g c1 x.Kind∧dZ.rel g c2 x.Pattern∧dZ.rel g c3 x.Sample∧dZ.rel g j x.Close,
 fun b ⟨k,c1,c2,c3,j,e,i,h,f,d,c⟩=>⟨k,c1,c2,c3,j,e,dZ.mono b i,(ak .i64).mono b h,dZ.mono b f,dZ.mono b d,dZ.mono b c⟩,
 fun ⟨_,_,_,_,_,e,i,h,f,d,c⟩=>by rw [e]; simp [dZ.len i,(ak .i64).len h,dZ.len f,dZ.len d,dZ.len c,ak,dZ],
 fun ⟨_,_,_,_,_,e,i,h,f,d,c⟩ v a=>by
  subst e; simp only [IZ] at a; rcases a with a|a|a|a|a
  ·exact dZ.one i v a
  ·exact (ak .i64).one h v a
  ·exact dZ.one f v a
  ·exact dZ.one d v a
  ·exact dZ.one c v a⟩
def dj:Ty T_LexSpec:=⟨4,fun g cs x=>∃i c1 c2 c3,cs=i++(c1++(c2++(c3)))∧(cv cg).rel g i x.Defs∧aO.rel g c1 x.Layout∧(ak .i64).rel g c2 x.Misspelling∧(ak .i64).rel g c3 x.Unclosed,
 fun h ⟨i,c1,c2,c3,e,f,d,c,b⟩=>⟨i,c1,c2,c3,e,(cv cg).mono h f,aO.mono h d,(ak .i64).mono h c,(ak .i64).mono h b⟩,
 fun ⟨_,_,_,_,e,f,d,c,b⟩=>by rw [e]; simp [(cv cg).len f,aO.len d,(ak .i64).len c,(ak .i64).len b,aO,ak,cv],
 fun ⟨_,_,_,_,e,f,d,c,b⟩ v a=>by
  subst e; simp only [IZ] at a; rcases a with a|a|a|a
  ·exact (cv cg).one f v a
  ·exact aO.one d v a
  ·exact (ak .i64).one c v a
  ·exact (ak .i64).one b v a⟩
def sk (τ:Ty T_Regex):Ty T_Regex:=⟨6,fun g cs x=>∃f c1 c2,cs=f++(c1++(c2))∧(ak .i64).rel g f x.Kind∧(bk 4 .u64).rel g c1 x.Set∧(cv τ).rel g c2 x.Kids,
 fun h ⟨f,c1,c2,e,d,c,b⟩=>⟨f,c1,c2,e,(ak .i64).mono h d,(bk 4 .u64).mono h c,(cv τ).mono h b⟩,
 fun ⟨_,_,_,e,d,c,b⟩=>by rw [e]; simp [(ak .i64).len d,(bk 4 .u64).len c,(cv τ).len b,ak,cv,bk],
 fun ⟨_,_,_,e,d,c,b⟩ v a=>by
  subst e; simp only [IZ] at a; rcases a with a|a|a
  ·exact (ak .i64).one d v a
  ·exact (bk 4 .u64).one c v a
  ·exact (cv τ).one b v a⟩
def eU:fc T_Regex:=⟨6,sk,fun _=>rfl,fun ha hb h _ _ hh=>by obtain ⟨c0,c1,c2,e,h0,h1,h2⟩:=hh; exact ⟨c0,c1,c2,e,h0,h1,wW (ha.trans hb.symm) h h2⟩⟩
def aJ:Ty T_Regex:=⟨6,fun g cs x=>∃n,(eU.iter n).rel g cs x,fun hg h=>eU.fix_mono hg h,fun h=>eU.fix_len h,fun h=>eU.fix_one h⟩
theorem aj {g:Hp} {cs:List Value} {x:T_Regex}:aJ.rel g cs x↔(sk aJ).rel g cs x:=by
 constructor
 ·rintro ⟨n,h⟩;cases n with
  | zero=>exact h.elim
  | succ n=>exact eU.mono (τ:=eU.iter n) (τ':=aJ) (eU.iter_sz n) rfl (fun _ _ h=>⟨n,h⟩) _ _ h
 ·rintro ⟨f,c1,c2,e,d,c,a⟩;obtain ⟨b,a⟩:=eU.sup (fix:=aJ) (fun _ _ _ h=>h) rfl a;exact ⟨b+1,f,c1,c2,e,d,c,eU.leSl (Nat.le_refl _) a⟩
def wV:Ty dp:=⟨2,fun g cs x=>∃d c1,cs=d++(c1)∧(yZ Tryz.prog (cL aO false)).rel g d x.fails∧(ak .i64).rel g c1 x.err,
 fun f ⟨d,c1,e,c,b⟩=>⟨d,c1,e,(yZ Tryz.prog (cL aO false)).mono f c,(ak .i64).mono f b⟩,
 fun ⟨_,_,e,c,b⟩=>by rw [e]; simp [(yZ Tryz.prog (cL aO false)).len c,(ak .i64).len b,yZ,ak],
 fun ⟨_,_,e,c,b⟩ v a=>by
  subst e; simp only [IZ] at a; rcases a with a|a
  ·exact (yZ Tryz.prog (cL aO false)).one c v a
  ·exact (ak .i64).one b v a⟩
def eN:Ty bY:=⟨3,fun g cs x=>∃f c1 c2,cs=f++(c1++(c2))∧aO.rel g f x.nullable∧(cv (ak .i64)).rel g c1 x.first∧(cv (ak .i64)).rel g c2 x.last,
 fun h ⟨f,c1,c2,e,d,c,b⟩=>⟨f,c1,c2,e,aO.mono h d,(cv (ak .i64)).mono h c,(cv (ak .i64)).mono h b⟩,
 fun ⟨_,_,_,e,d,c,b⟩=>by rw [e]; simp [aO.len d,(cv (ak .i64)).len c,(cv (ak .i64)).len b,aO,cv],
 fun ⟨_,_,_,e,d,c,b⟩ v a=>by
  subst e; simp only [IZ] at a; rcases a with a|a|a
  ·exact aO.one d v a
  ·exact (cv (ak .i64)).one c v a
  ·exact (cv (ak .i64)).one b v a⟩
def cj:Ty cd:=⟨7,fun g cs x=>∃i c1 c2 c3,cs=i++(c1++(c2++(c3)))∧(ak .i64).rel g i x.From∧(ak .i64).rel g c1 x.To∧aO.rel g c2 x.Epsilon∧(bk 4 .u64).rel g c3 x.Set,
 fun h ⟨i,c1,c2,c3,e,f,d,c,b⟩=>⟨i,c1,c2,c3,e,(ak .i64).mono h f,(ak .i64).mono h d,aO.mono h c,(bk 4 .u64).mono h b⟩,
 fun ⟨_,_,_,_,e,f,d,c,b⟩=>by rw [e]; simp [(ak .i64).len f,(ak .i64).len d,aO.len c,(bk 4 .u64).len b,aO,ak,bk],
 fun ⟨_,_,_,_,e,f,d,c,b⟩ v a=>by
  subst e; simp only [IZ] at a; rcases a with a|a|a|a
  ·exact (ak .i64).one f v a
  ·exact (ak .i64).one d v a
  ·exact aO.one c v a
  ·exact (bk 4 .u64).one b v a⟩
def fR:Ty T_NFA:=⟨4,fun g cs x=>∃i c1 c2 c3,cs=i++(c1++(c2++(c3)))∧(ak .i64).rel g i x.States∧(ak .i64).rel g c1 x.Start∧(cv cj).rel g c2 x.Arcs∧(cv (ak .i64)).rel g c3 x.Accept,
 fun h ⟨i,c1,c2,c3,e,f,d,c,b⟩=>⟨i,c1,c2,c3,e,(ak .i64).mono h f,(ak .i64).mono h d,(cv cj).mono h c,(cv (ak .i64)).mono h b⟩,
 fun ⟨_,_,_,_,e,f,d,c,b⟩=>by rw [e]; simp [(ak .i64).len f,(ak .i64).len d,(cv cj).len c,(cv (ak .i64)).len b,ak,cv],
 fun ⟨_,_,_,_,e,f,d,c,b⟩ v a=>by
  subst e; simp only [IZ] at a; rcases a with a|a|a|a
  ·exact (ak .i64).one f v a
  ·exact (ak .i64).one d v a
  ·exact (cv cj).one c v a
  ·exact (cv (ak .i64)).one b v a⟩
def dC:Ty T_DFA:=⟨3,fun g cs x=>∃f c1 c2,cs=f++(c1++(c2))∧(cv (ak .i64)).rel g f x.Class∧(cv (cv (ak .i64))).rel g c1 x.Next∧(cv (ak .i64)).rel g c2 x.Accept,
 fun h ⟨f,c1,c2,e,d,c,b⟩=>⟨f,c1,c2,e,(cv (ak .i64)).mono h d,(cv (cv (ak .i64))).mono h c,(cv (ak .i64)).mono h b⟩,
 fun ⟨_,_,_,e,d,c,b⟩=>by rw [e]; simp [(cv (ak .i64)).len d,(cv (cv (ak .i64))).len c,(cv (ak .i64)).len b,cv],
 fun ⟨_,_,_,e,d,c,b⟩ v a=>by
  subst e; simp only [IZ] at a; rcases a with a|a|a
  ·exact (cv (ak .i64)).one d v a
  ·exact (cv (cv (ak .i64))).one c v a
  ·exact (cv (ak .i64)).one b v a⟩
def gf:Ty bJ:=⟨2,fun g cs x=>∃h c1,cs=h++(c1)∧(ak .i64).rel g h x.a∧(ak .i64).rel g c1 x.b,
 fun i ⟨h,c1,e,f,d⟩=>⟨h,c1,e,(ak .i64).mono i f,(ak .i64).mono i d⟩,
 fun ⟨_,_,e,f,d⟩=>by rw [e]; simp [(ak .i64).len f,(ak .i64).len d,ak],
 fun ⟨_,_,e,f,d⟩ v c=>by
  subst e; simp only [IZ] at c; rcases c with c|c
  ·exact (ak .i64).one f v c
  ·exact (ak .i64).one d v c⟩
def db:Ty cM:=⟨3,fun g cs x=>∃d c1,cs=d++(c1)∧gf.rel g d x.atv∧dZ.rel g c1 x.text,
 fun f ⟨d,c1,e,c,b⟩=>⟨d,c1,e,gf.mono f c,dZ.mono f b⟩,
 fun ⟨_,_,e,c,b⟩=>by rw [e]; simp [gf.len c,dZ.len b,dZ,gf],
 fun ⟨_,_,e,c,b⟩ v a=>by
  subst e; simp only [IZ] at a; rcases a with a|a
  ·exact gf.one c v a
  ·exact dZ.one b v a⟩
def fZ:Ty cF:=⟨3,fun g cs x=>∃f c1 c2,cs=f++(c1++(c2))∧aO.rel g f x.nullable∧(cv (ak .i64)).rel g c1 x.first∧(cv (ak .i64)).rel g c2 x.last,
 fun h ⟨f,c1,c2,e,d,c,b⟩=>⟨f,c1,c2,e,aO.mono h d,(cv (ak .i64)).mono h c,(cv (ak .i64)).mono h b⟩,
 fun ⟨_,_,_,e,d,c,b⟩=>by rw [e]; simp [aO.len d,(cv (ak .i64)).len c,(cv (ak .i64)).len b,aO,cv],
 fun ⟨_,_,_,e,d,c,b⟩ v a=>by
  subst e; simp only [IZ] at a; rcases a with a|a|a
  ·exact aO.one d v a
  ·exact (cv (ak .i64)).one c v a
  ·exact (cv (ak .i64)).one b v a⟩
def M.k2:List Str:=[[110,101,119,108,105,110,101],[105,110,100,101,110,116],[100,101,100,101,110,116]]
def M.m1 (b:T_LexSpec) (g:Int) (d:Int):Option Bool:= bif (decide (g<(b.Defs.length:Int))) then some false else bp (ba (fun (c:Int)=> bif (decide (c<(b.Defs.length:Int))) then (bC b.Defs c).bind fun a=> (bif (decide (40<(a.Name.length:Int))) then some true else bif (decide (d<(a.Pattern.length:Int))) then some true else bif (decide (d<(a.Sample.length:Int))) then some true else some (decide (d<(a.Close.length:Int)))).bind fun (e:Bool)=> bif e then some (.stop (.stop false)) else (bZ .i64 (c+1)).bind fun f=> some (.next f) else some (.stop (.next ()))) aZ (0:Int)) fun _=> some true
def M.f6 (keywordFirst1:Bool):Option T_LexSpec:= bif keywordFirst1 then some (T_LexSpec.mk [(bz.mk [105,102] 3 [105,102] [105,102] []),(bz.mk [119,111,114,100] 1 [91,97,45,122,93,43] [120] [])] false 0 0) else some (T_LexSpec.mk [(bz.mk [119,111,114,100] 1 [91,97,45,122,93,43] [120] []),(bz.mk [105,102] 3 [105,102] [105,102] [])] false 0 0)
def M.n2 (x1:Int) (c1:T_Regex) (c2:Int) (c3:Int):Option (T_Regex×Int×Int):= some ((T_Regex.mk 0 (aV.zero 4) []),x1,3)
def M.a2 (p1:aE):Option Int:= bif (decide (p1.atv<(p1.s.length:Int))) then (jt p1.s p1.atv).bind fun c1=> some c1 else some 0
def M.a3 (p1:aE):Option (Rt (Unit)):= some (.pan p1.atv)
def M.a4 (a:aE) (g:Int):Option (Rt (aE)):= bp ((bif (a.atv == (a.s.length:Int)) then some true else (jt a.s a.atv).bind fun f=> some (f != g)).bind fun (c:Bool)=> bif c then (M.a3 a).bind fun b=>b.on (fun h=> some (.next ())) (fun e=>some (.stop (.pan e))) else some (.next ())) fun _=> (bZ .i64 (a.atv+1)).bind fun d=> some (.ret (aE.mk a.s d))
def M.g2 (a:Int):Option Bool:= (bif (decide (48≤a)) then bif (decide (a≤57)) then some true else bif (decide (97≤a)) then bif (decide (a≤122)) then some true else bif (decide (65≤a)) then some (decide (a≤90)) else some false else bif (decide (65≤a)) then some (decide (a≤90)) else some false else bif (decide (97≤a)) then bif (decide (a≤122)) then some true else bif (decide (65≤a)) then some (decide (a≤90)) else some false else bif (decide (65≤a)) then some (decide (a≤90)) else some false).bind fun (b:Bool)=> some b
def M.e2 (a:aE):Option (Rt (Int×aE)):= bp (bif (a.atv == (a.s.length:Int)) then (M.a3 a).bind fun b=>b.on (fun j=> some (.next ())) (fun g=>some (.stop (.pan g))) else some (.next ())) fun _=> (jt a.s a.atv).bind fun c1=> bp (bif (c1 == 110) then some (.next (10:Int)) else bif (c1 == 116) then some (.next (9:Int)) else (bif (decide (c1<32)) then some true else bif (decide (126<c1)) then some true else (M.g2 c1).bind fun e=> some e).bind fun (c:Bool)=> bif c then (M.a3 a).bind fun b=>b.on (fun i=> some (.next c1)) (fun f=>some (.stop (.pan f))) else some (.next c1)) fun (h:Int)=> (bZ .i64 (a.atv+1)).bind fun d=> some (.ret (h,(aE.mk a.s d)))
def M.i7 (s:Str) (c:Int):Option Int:=some (Lib.indexByte s c.toNat.toUInt8)
def M.c0 (a:aE) (k:Str):Option (Rt (Int×aE)):= bp (bif (a.atv == (a.s.length:Int)) then (M.a3 a).bind fun b=>b.on (fun m=> some (.next ())) (fun j=>some (.stop (.pan j))) else some (.next ())) fun _=> (jt a.s a.atv).bind fun c1=> bif (c1 == 92) then (bZ .i64 (a.atv+1)).bind fun f=> (M.e2 (aE.mk a.s f)).bind fun b=>b.on (fun c=> some (.ret (c.1,c.2))) (fun i=>some (.pan i)) else bp ((bif (decide (c1<32)) then some true else bif (decide (126<c1)) then some true else (M.i7 k c1).bind fun g=> some (decide (0≤g))).bind fun (d:Bool)=> bif d then (M.a3 a).bind fun b=>b.on (fun l=> some (.next ())) (fun h=>some (.stop (.pan h))) else some (.next ())) fun _=> (bZ .i64 (a.atv+1)).bind fun e=> some (.ret (c1,(aE.mk a.s e)))
def M.f7 (g:Int) (h:Int):Option (aV 4):= (ba (fun (f:(aV 4)×Int)=>match f with | (b,a)=> bif (decide (a≤(IntKind.i64.wrap h))) then (pn .i64 a 64).bind fun c=> (gV b c).bind fun i=> (lO a 64).bind fun t22=> (vy .u64 1 t22).bind fun t23=> (oV b c (bits .or .u64 i t23)).bind fun e=> (bZ .i64 (a+1)).bind fun t24=> some (.next (e,t24)) else some (.stop b)) aZ ((aV.zero 4),(IntKind.i64.wrap g))).bind fun (d:(aV 4))=> some d
def M.c4 (j:aE):Option (Rt ((aV 4)×aE)):= (M.c0 j [93,92,45]).bind fun c=>c.on (fun a=> bp ((M.a2 a.2).bind fun f=> bif (f == 45) then (bZ .i64 (a.2.atv+1)).bind fun d=> (M.c0 (aE.mk a.2.s d) [93,92,45]).bind fun c=>c.on (fun b=> bif (decide (b.1<a.1)) then (M.a3 (aE.mk b.2.s d)).bind fun c=>c.on (fun n=> some (.next (b.1,b.2.s,d))) (fun g=>some (.stop (.pan g))) else some (.next (b.1,b.2.s,b.2.atv))) (fun h=>some (.stop (.pan h))) else some (.next (a.1,a.2.s,a.2.atv))) fun (m,l,k)=> (M.f7 a.1 m).bind fun e=> some (.ret (e,(aE.mk l k)))) (fun i=>some (.pan i))
def M.i2 (a1:(aV 4)) (b1:(aV 4)):Option (aV 4):= (ba (fun (st9:(aV 4)×Int)=>match st9 with | (a11,xv5)=> bif (decide (xv5<4)) then (gV a11 xv5).bind fun c11=> (gV b1 xv5).bind fun c12=> (oV a11 xv5 (bits .or .u64 c11 c12)).bind fun a14=> (bZ .i64 (xv5+1)).bind fun t6=> some (.next (a14,t6)) else some (.stop a11)) aZ (a1,(0:Int))).bind fun (a8:(aV 4))=> some a8
def M.d5 (s1:(aV 4)):Option (aV 4):= (ba (fun (st9:(aV 4)×Int)=>match st9 with | (s11,xv5)=> bif (decide (xv5<4)) then (gV s11 xv5).bind fun c6=> (oV s11 xv5 (mQ .u64 c6)).bind fun s14=> (bZ .i64 (xv5+1)).bind fun t6=> some (.next (s14,t6)) else some (.stop s11)) aZ (s1,(0:Int))).bind fun (s8:(aV 4))=> some s8
def M.d8 (v:aE):Option (Rt ((aV 4)×aE)):= (M.a4 v 91).bind fun a=>a.on (fun b=> (M.a2 b).bind fun i=> (bif (i == 94) then (bZ .i64 (b.atv+1)).bind fun k=> some k else some b.atv).bind fun (t:Int)=> (M.c4 (aE.mk b.s t)).bind fun a=>a.on (fun c=> bp (ba (fun (l:Str×Int×(aV 4))=>match l with | (f,e,g)=> (M.a2 (aE.mk f e)).bind fun o=> bif (o != 93) then (M.c4 (aE.mk f e)).bind fun a=>a.on (fun d=> (M.i2 g d.1).bind fun n=> some (.next (d.2.s,d.2.atv,n))) (fun p=>some (.stop (.stop (.pan p)))) else some (.stop (.next (f,e,g)))) aZ (c.2.s,c.2.atv,c.1)) fun (j,u,h)=> (bZ .i64 (u+1)).bind fun t3=> bif (i == 94) then (M.d5 h).bind fun m=> some (.ret (m,(aE.mk j t3))) else some (.ret (h,(aE.mk j t3)))) (fun q=>some (.pan q))) (fun r=>some (.pan r))
def M.j5 (d:Str):Option (aV 4):= (ba (fun (h:(aV 4)×Int)=>match h with | (b,a)=> bif (decide (a<(d.length:Int))) then (jt d a).bind fun e=> (pn .u8 e 64).bind fun c=> (gV b c).bind fun i=> (lO e 64).bind fun t22=> (vy .u64 1 t22).bind fun t23=> (oV b c (bits .or .u64 i t23)).bind fun f=> (bZ .i64 (a+1)).bind fun t24=> some (.next (f,t24)) else some (.stop b)) aZ ((aV.zero 4),(0:Int))).bind fun (g:(aV 4))=> some g
def M.k7:Option (aV 4):= (M.j5 [10]).bind fun rv1=> (M.d5 rv1).bind fun rv2=> some rv2
def M.j6 (kind1:Int) (l1:(List T_Regex)):Option T_Regex:= bif ((l1.length:Int) == 1) then (bC l1 0).bind fun e1=> some e1 else some (T_Regex.mk kind1 (aV.zero 4) l1)
mutual
def M.e0:Nat→aE→Option (Rt (T_Regex×aE))
| 0,_=>none
| fl+1,c=>
 (M.a2 c).bind fun b=>
 bif (b == 40) then
  (bZ .i64 (c.atv+1)).bind fun F=>
  (M.c2 fl (aE.mk c.s F)).bind fun a=>a.on (fun v=>
   (M.a4 v.2 41).bind fun a=>a.on (fun I=>
    some (.ret (v.1,I))) (fun S=>some (.pan S))) (fun k=>some (.pan k))
 else
  bif (b == 91) then
   (M.d8 c).bind fun a=>a.on (fun u=>
    some (.ret ((T_Regex.mk 3 u.1 []),u.2))) (fun R=>some (.pan R))
  else
   bif (b == 46) then
    (bZ .i64 (c.atv+1)).bind fun D=>
    (M.k7).bind fun H=>
    some (.ret ((T_Regex.mk 3 H []),(aE.mk c.s D)))
   else
    (M.c0 c [40,41,91,93,124,42,43,63,46,92]).bind fun a=>a.on (fun p=>
     (M.f7 p.1 p.1).bind fun i=>
     some (.ret ((T_Regex.mk 3 i []),p.2))) (fun Q=>some (.pan Q))
def M.c9:Nat→aE→Option (Rt (T_Regex×aE))
| 0,_=>none
| fl+1,c=>
 (M.e0 fl c).bind fun a=>a.on (fun b=>
  ba (fun (f:Int×Int×(aV 4)×(List T_Regex))=>match f with
  | (o,h,g,j)=>
   bp (
    (M.a2 (aE.mk b.2.s o)).bind fun m=>
    bif (m == 42) then
     some (.next ((6:Int),([(T_Regex.mk h g j)]:(List T_Regex))))
    else
     bif (m == 43) then
      some (.next ((4:Int),([(T_Regex.mk h g j),(T_Regex.mk 6 (aV.zero 4) [(T_Regex.mk h g j)])]:(List T_Regex))))
     else
      bif (m == 63) then
       some (.next ((5:Int),([(T_Regex.mk h g j),(T_Regex.mk 2 (aV.zero 4) [])]:(List T_Regex))))
      else
       some (.stop (.stop (.ret ((T_Regex.mk h g j),(aE.mk b.2.s o)))))) fun (J,z)=>
   (bZ .i64 (o+1)).bind fun t3=>
   some (.next (t3,J,(aV.zero 4),z))) aZ (b.2.atv,b.1.Kind,b.1.Set,b.1.Kids)) (fun k=>some (.pan k))
def M.b8:Nat→aE→Option (Rt (T_Regex×aE))
| 0,_=>none
| fl+1,c=>
 bp (
  ba (fun (f:Str×Int×(List T_Regex))=>match f with
  | (e,d,t)=>
   (
    bif (decide (d<(e.length:Int))) then
     (jt e d).bind fun x=>
     bif (x != 124) then
      some (x != 41)
     else
      some false
    else
     some false).bind fun (A:Bool)=>
   bif A then
    (M.c9 fl (aE.mk e d)).bind fun a=>a.on (fun i=>
     (cD 64 t [i.1]).bind fun U=>
     some (.next (i.2.s,i.2.atv,U))) (fun P=>some (.stop (.stop (.pan P))))
   else
    some (.stop (.next (t,e,d)))) aZ (c.s,c.atv,([]:(List T_Regex)))) fun (q,w,l)=>
 bif ((q.length:Int) == 0) then
  some (.ret ((T_Regex.mk 2 (aV.zero 4) []),(aE.mk w l)))
 else
  (M.j6 4 q).bind fun G=>
  some (.ret (G,(aE.mk w l)))
def M.c2:Nat→aE→Option (Rt (T_Regex×aE))
| 0,_=>none
| fl+1,c=>
 (M.b8 fl c).bind fun a=>a.on (fun b=>
  bp (
   ba (fun (f:Str×Int×(List T_Regex))=>match f with
   | (e,d,r)=>
    (M.a2 (aE.mk e d)).bind fun L=>
    bif (L == 124) then
     (bZ .i64 (d+1)).bind fun B=>
     (M.b8 fl (aE.mk e B)).bind fun a=>a.on (fun n=>
      (cD 64 r [n.1]).bind fun T=>
      some (.next (n.2.s,n.2.atv,T))) (fun N=>some (.stop (.stop (.pan N))))
    else
     some (.stop (.next (r,e,d)))) aZ (b.2.s,b.2.atv,([b.1]:(List T_Regex)))) fun (y,l,V)=>
  (M.j6 5 y).bind fun K=>
  some (.ret (K,(aE.mk l V)))) (fun k=>some (.pan k))
end
def M.e3:Nat→T_Regex→Int→Option Bool
| 0,_,_=>none
| fl+1,a,c=>
 (
  bif (c == 0) then
   some true
  else
   some ((a.Kind == 3) == (a.Set == (aV.zero 4)))).bind fun (g:Bool)=>
 bif g then
  some false
 else
  bp (
   (
    bif (a.Kind == 1) then
     some (a.Kind == 1)
    else
     bif (a.Kind == 2) then
      some (a.Kind == 2)
     else
      some (a.Kind == 3)).bind fun (f:Bool)=>
   bif f then
    some (.next ((0:Int),(0:Int)))
   else
    (
     bif (a.Kind == 4) then
      some (a.Kind == 4)
     else
      some (a.Kind == 5)).bind fun (e:Bool)=>
    bif e then
     some (.next ((2:Int),(a.Kids.length:Int)))
    else
     bif (a.Kind == 6) then
      some (.next ((1:Int),(1:Int)))
     else
      some (.stop false)) fun (l,k)=>
  (
   bif (decide ((a.Kids.length:Int)<l)) then
    some true
   else
    some (decide (k<(a.Kids.length:Int)))).bind fun (d:Bool)=>
  bif d then
   some false
  else
   bp (
    ba (fun (b:Int)=>
     bif (decide (b<(a.Kids.length:Int))) then
      (bC a.Kids b).bind fun m=>
      (bZ .i64 (c - 1)).bind fun i=>
      (M.e3 fl m i).bind fun j=>
      bif (!j) then
       some (.stop (.stop false))
      else
       (bZ .i64 (b+1)).bind fun h=>
       some (.next h)
     else
      some (.stop (.next ()))) aZ (0:Int)) fun _=>
   some true
def M.g9 (rv1:T_Regex):Option Bool:= (M.e3 aZ rv1 30).bind fun rv2=> some rv2
def M.g0 (c:Str):Option (T_Regex×Int×Int):= (M.c2 aZ (aE.mk c 0)).bind fun b=>b.on (fun a=> bp (bif (decide (a.2.atv<(c.length:Int))) then (M.a3 a.2).bind fun b=>b.on (fun g=> some (.next ())) (fun e=>some (.stop ((T_Regex.mk 0 (aV.zero 4) []),e,3))) else some (.next ())) fun _=> (M.g9 a.1).bind fun d=> bif (!d) then some ((T_Regex.mk 0 (aV.zero 4) []),0,11) else some (a.1,0,0)) (fun f=>some ((T_Regex.mk 0 (aV.zero 4) []),f,3))
def M.a5 (c1:(List bz)) (c2:Int) (c3:bz):Option Bool:= bp ((qd c1 0 c2).bind fun l2=> ba (fun (xv5:Int)=> bif (decide (xv5<(l2.length:Int))) then (bC l2 xv5).bind fun e6=> bif (e6.Name == c3.Name) then some (.stop (.stop true)) else (bZ .i64 (xv5+1)).bind fun t6=> some (.next t6) else some (.stop (.next ()))) aZ (0:Int)) fun _=> some false
def M.h5 (b:Str):Option Bool:= (bif (b == []) then some true else bif (decide (24<(b.length:Int))) then some true else (bC M.k2 0).bind fun j=> bif (b == j) then some true else (bC M.k2 1).bind fun i=> bif (b == i) then some true else (bC M.k2 2).bind fun h=> some (b == h)).bind fun (f:Bool)=> bif f then some false else bp (ba (fun (c:Int)=> bif (decide (c<(b.length:Int))) then (jt b c).bind fun a=> (bif (decide (97≤a)) then bif (decide (a≤122)) then some true else bif (decide (65≤a)) then some (decide (a≤90)) else some false else bif (decide (65≤a)) then some (decide (a≤90)) else some false).bind fun (e:Bool)=> (bif (!e) then bif (c == 0) then some true else bif (a != 95) then bif (decide (a<48)) then some true else some (decide (57<a)) else some false else some false).bind fun (d:Bool)=> bif d then some (.stop (.stop false)) else (bZ .i64 (c+1)).bind fun g=> some (.next g) else some (.stop (.next ()))) aZ (0:Int)) fun _=> some true
def M.b1 (c1:bz):Option Bool:= (M.h5 c1.Name).bind fun rv1=> some (!rv1)
def M.b0 (c1:bz):Option Bool:= (bif (decide (c1.Kind<1)) then some true else some (decide (3<c1.Kind))).bind fun (xv1:Bool)=> some xv1
def M.b4 (c1:Int):Option Bool:= some (c1 != 0)
def M.c6:Nat→T_Regex→Option Bool
| 0,_=>none
| fl+1,a=>
 bp (
  (
   bif (a.Kind == 2) then
    some (a.Kind == 2)
   else
    some (a.Kind == 6)).bind fun (d:Bool)=>
  bif d then
   some (.stop true)
  else
   bif (a.Kind == 4) then
    bp (
     ba (fun (c:Int)=>
      bif (decide (c<(a.Kids.length:Int))) then
       (bC a.Kids c).bind fun j=>
       (M.c6 fl j).bind fun h=>
       bif (!h) then
        some (.stop (.stop (.stop false)))
       else
        (bZ .i64 (c+1)).bind fun f=>
        some (.next f)
      else
       some (.stop (.next ()))) aZ (0:Int)) fun _=>
    some (.stop true)
   else
    bif (a.Kind == 5) then
     ba (fun (b:Int)=>
      bif (decide (b<(a.Kids.length:Int))) then
       (bC a.Kids b).bind fun i=>
       (M.c6 fl i).bind fun g=>
       bif g then
        some (.stop (.stop true))
       else
        (bZ .i64 (b+1)).bind fun e=>
        some (.next e)
      else
       some (.stop (.next ()))) aZ (0:Int)
    else
     some (.next ())) fun _=>
 some false
def M.a6 (c1:T_Regex):Option Bool:= (M.c6 aZ c1).bind fun rv1=> some rv1
def M.f3 (s1:Str):Option Bool:= bp (ba (fun (xv9:Int)=> bif (decide (xv9<(s1.length:Int))) then ((jt s1 xv9).bind fun c12=> bif (decide (c12<32)) then some true else some (decide (126<c12))).bind fun (xv12:Bool)=> bif xv12 then some (.stop (.stop false)) else (bZ .i64 (xv9+1)).bind fun t6=> some (.next t6) else some (.stop (.next ()))) aZ (0:Int)) fun _=> some true
def M.a9 (c1:bz):Option Bool:= (M.f3 c1.Close).bind fun rv1=> some (!rv1)
def M.b5 (e:(List bz)) (d:Int):Option Int:= (bC e d).bind fun a=> (M.g0 a.Pattern).bind fun b=> bp ((some ([(dp.mk (M.b1 a) 4),(dp.mk (M.a5 e d a) 5),(dp.mk (M.b0 a) 1),(dp.mk (M.b4 b.2.2) b.2.2),(dp.mk (M.a6 b.1) 10),(dp.mk (M.a9 a) 1)].length:Int)).bind fun t5=> ba (fun (c:Int)=> bif (decide (c<t5)) then (bC [(dp.mk (M.b1 a) 4),(dp.mk (M.a5 e d a) 5),(dp.mk (M.b0 a) 1),(dp.mk (M.b4 b.2.2) b.2.2),(dp.mk (M.a6 b.1) 10),(dp.mk (M.a9 a) 1)] c).bind fun f=> (f.fails).bind fun h=> bif h then some (.stop (.stop f.err)) else (bZ .i64 (c+1)).bind fun g=> some (.next g) else some (.stop (.next ()))) aZ (0:Int)) fun _=> some 0
def M.g7:Nat→T_Regex→Option Int
| 0,_=>none
| fl+1,b=>
 (
  ba (fun (f:Int×Int)=>match f with
  | (c,a)=>
   bif (decide (a<(b.Kids.length:Int))) then
    (bC b.Kids a).bind fun i=>
    (M.g7 fl i).bind fun g=>
    (bZ .i64 (c+g)).bind fun e=>
    (bZ .i64 (a+1)).bind fun d=>
    some (.next (e,d))
   else
    some (.stop c)) aZ ((1:Int),(0:Int))).bind fun (h:Int)=>
 some h
def M.j3 (b1:bq) (rv1:T_Regex):Option (bY×bq):= some ((bY.mk false [] []),b1)
def M.i9 (b1:bq) (rv1:T_Regex):Option (bY×bq):= some ((bY.mk true [] []),b1)
def M.i3 (b1:bq) (rv1:T_Regex):Option (bY×bq):= (cD 32 b1.sets [rv1.Set]).bind fun y1=> (cD 8 b1.behind [[]]).bind fun y2=> some ((bY.mk false [(y1.length:Int)] [(y1.length:Int)]),(bq.mk y1 y2))
def M.d4 (i:bq) (g:(List Int)) (f:(List Int)):Option bq:= ba (fun (d:(List (List (Int×Bool)))×Int)=>match d with | (e,c)=> bif (decide (c<(g.length:Int))) then ((bC g c).bind fun h=> ba (fun (d:(List (List (Int×Bool)))×Int)=>match d with | (b,a)=> bif (decide (a<(f.length:Int))) then (bC f a).bind fun n=> (bC b h).bind fun m=> (dk b h (dQ m n true)).bind fun j=> (bZ .i64 (a+1)).bind fun t20=> some (.next (j,t20)) else some (.stop b)) aZ (e,(0:Int))).bind fun (k:(List (List (Int×Bool))))=> (bZ .i64 (c+1)).bind fun l=> some (.next (k,l)) else some (.stop (bq.mk i.sets e))) aZ (i.behind,(0:Int))
def M.h8 (l:List Int) (n:Int):Option (List Int):=xw l n
def M.a1 (a:(List (List Int))):Option (List Int):= (ba (fun (d:Int×Int)=>match d with | (f,b)=> bif (decide (b<(a.length:Int))) then ((bC a b).bind fun o=> (bZ .i64 (f+(o.length:Int))).bind fun e=> bif (decide (e<0)) then none else some e).bind fun (j:Int)=> (bZ .i64 (b+1)).bind fun h=> some (.next (j,h)) else some (.stop f)) aZ ((0:Int),(0:Int))).bind fun (i:Int)=> (M.h8 [] i).bind fun m=> (ba (fun (d:(List Int)×Int)=>match d with | (g,c)=> bif (decide (c<(a.length:Int))) then (bC a c).bind fun n=> (cD 8 g n).bind fun l=> (bZ .i64 (c+1)).bind fun t24=> some (.next (l,t24)) else some (.stop g)) aZ (m,(0:Int))).bind fun (k:(List Int))=> some k
mutual
def M.e8:Nat→bq→T_Regex→Option (bY×bq)
| 0,_,_=>none
| fl+1,b,a=>
 (
  ba (fun (p:(List (aV 4))×(List (List (Int×Bool)))×Bool×(List Int)×(List Int)×Int)=>match p with
  | (u,t,l,k,j,f)=>
   bif (decide (f<(a.Kids.length:Int))) then
    (bC a.Kids f).bind fun q=>
    (M.b7 fl (bq.mk u t) q).bind fun e=>
    (M.d4 e.2 j e.1.first).bind fun h=>
    (
     bif l then
      (M.a1 [k,e.1.first]).bind fun R=>
      some R
     else
      some k).bind fun (s:(List Int))=>
    (
     bif e.1.nullable then
      (M.a1 [j,e.1.last]).bind fun Q=>
      some Q
     else
      some e.1.last).bind fun (r:(List Int))=>
    bif l then
     (bZ .i64 (f+1)).bind fun t9=>
     some (.next (h.sets,h.behind,e.1.nullable,s,r,t9))
    else
     (bZ .i64 (f+1)).bind fun o=>
     some (.next (h.sets,h.behind,false,s,r,o))
   else
    some (.stop (l,k,j,u,t))) aZ (b.sets,b.behind,true,([]:(List Int)),([]:(List Int)),(0:Int))).bind fun (I,H,G,F,D)=>
 some ((bY.mk I H G),(bq.mk F D))
def M.f2:Nat→bq→T_Regex→Option (bY×bq)
| 0,_,_=>none
| fl+1,b,a=>
 (
  ba (fun (p:(List (aV 4))×(List (List (Int×Bool)))×Bool×(List Int)×(List Int)×Int)=>match p with
  | (x,w,v,n,m,g)=>
   bif (decide (g<(a.Kids.length:Int))) then
    (bC a.Kids g).bind fun q=>
    (M.b7 fl (bq.mk x w) q).bind fun c=>
    bif v then
     (M.a1 [n,c.1.first]).bind fun V=>
     (M.a1 [m,c.1.last]).bind fun U=>
     (bZ .i64 (g+1)).bind fun t9=>
     some (.next (c.2.sets,c.2.behind,true,V,U,t9))
    else
     (M.a1 [n,c.1.first]).bind fun T=>
     (M.a1 [m,c.1.last]).bind fun S=>
     (bZ .i64 (g+1)).bind fun o=>
     some (.next (c.2.sets,c.2.behind,c.1.nullable,T,S,o))
   else
    some (.stop (v,n,m,x,w))) aZ (b.sets,b.behind,false,([]:(List Int)),([]:(List Int)),(0:Int))).bind fun (P,N,L,K,J)=>
 some ((bY.mk P N L),(bq.mk K J))
def M.f8:Nat→bq→T_Regex→Option (bY×bq)
| 0,_,_=>none
| fl+1,b,a=>
 (bC a.Kids 0).bind fun W=>
 (M.b7 fl b W).bind fun d=>
 (M.d4 d.2 d.1.last d.1.first).bind fun i=>
 some ((bY.mk true d.1.first d.1.last),i)
def M.b7:Nat→bq→T_Regex→Option (bY×bq)
| 0,_,_=>none
| fl+1,b,a=>
 bif (a.Kind == 6) then
  (M.f8 fl b a).bind fun d=>
  some (d.1,d.2)
 else
  bif (a.Kind == 5) then
   (M.f2 fl b a).bind fun i=>
   some (i.1,i.2)
  else
   bif (a.Kind == 4) then
    (M.e8 fl b a).bind fun B=>
    some (B.1,B.2)
   else
    bif (a.Kind == 3) then
     (M.i3 b a).bind fun A=>
     some (A.1,A.2)
    else
     bif (a.Kind == 2) then
      (M.i9 b a).bind fun z=>
      some (z.1,z.2)
     else
      bif (a.Kind == 1) then
       (M.j3 b a).bind fun y=>
       some (y.1,y.2)
      else
       none
end
def M.d1 (f:(List T_Regex)):Option (T_NFA×Int):= bp (ba (fun (a:Int×Int)=>match a with | (t,k)=> bif (decide (k<(f.length:Int))) then (bC f k).bind fun v=> (M.g9 v).bind fun W=> bif (!W) then some (.stop (.stop ((T_NFA.mk 0 0 [] []),1))) else (M.g7 aZ v).bind fun V=> (bZ .i64 (t+V)).bind fun U=> (bZ .i64 (k+1)).bind fun T=> some (.next (U,T)) else some (.stop (.next t))) aZ ((0:Int),(0:Int))) fun (D:Int)=> bif (decide (500<D)) then some ((T_NFA.mk 0 0 [] []),11) else (ba (fun (a:(List (aV 4))×(List (List (Int×Bool)))×(List Int)×Int)=>match a with | (q,p,o,b)=> bif (decide (b<(f.length:Int))) then ((bC f b).bind fun a2=> (M.b7 aZ (bq.mk q p) a2).bind fun d=> (M.d4 d.2 [0] d.1.first).bind fun c=> (ba (fun (j:(List Int))=> bif (decide ((j.length:Int)≤(c.sets.length:Int))) then (cD 8 j [(-1)]).bind fun A=> some (.next A) else some (.stop j)) aZ o).bind fun (I:(List Int))=> (ba (fun (a:(List Int)×Int)=>match a with | (n,h)=> bif (decide (h<(d.1.last.length:Int))) then (bC d.1.last h).bind fun a1=> (dk n a1 b).bind fun z=> (bZ .i64 (h+1)).bind fun P=> some (.next (z,P)) else some (.stop n)) aZ (I,(0:Int))).bind fun (i:(List Int))=> (bif d.1.nullable then (bC i 0).bind fun a0=> some (decide (a0<0)) else some false).bind fun (H:Bool)=> bif H then (dk i 0 b).bind fun y=> some (c.sets,c.behind,y) else some (c.sets,c.behind,i)).bind fun (K,J,B)=> (bZ .i64 (b+1)).bind fun N=> some (.next (K,J,B,N)) else some (.stop (q,p,o))) aZ (([]:(List (aV 4))),([[]]:(List (List (Int×Bool)))),([(-1)]:(List Int)),(0:Int))).bind fun (L,s,r)=> (ba (fun (a:(List cd)×Int)=>match a with | (m,e)=> bif (decide (e<(s.length:Int))) then ((bC s e).bind fun Y=> (sB Y).bind fun u=> ba (fun (a:(List cd)×Int)=>match a with | (l,g)=> bif (decide (g<(u.length:Int))) then (bC u g).bind fun w=> (bZ .i64 (w - 1)).bind fun S=> (bC L S).bind fun X=> (cD 56 l [(cd.mk e w false X)]).bind fun x=> (bZ .i64 (g+1)).bind fun R=> some (.next (x,R)) else some (.stop l)) aZ (m,(0:Int))).bind fun (F:(List cd))=> (bZ .i64 (e+1)).bind fun Q=> some (.next (F,Q)) else some (.stop m)) aZ (([]:(List cd)),(0:Int))).bind fun (G:(List cd))=> some ((T_NFA.mk (r.length:Int) 0 G r),0)
def M.h3 (s1:Int) (c1:T_NFA):Option Bool:= (bif (decide (0≤s1)) then some (decide (s1<c1.States)) else some false).bind fun (xv1:Bool)=> some xv1
def M.c1 (s1:(List Int)) (f1:(Int→Option Bool)):Option Int:= bp (ba (fun (xv5:Int)=> bif (decide (xv5<(s1.length:Int))) then (bC s1 xv5).bind fun e6=> (f1 e6).bind fun rv6=> bif rv6 then some (.stop (.stop xv5)) else (bZ .i64 (xv5+1)).bind fun t6=> some (.next t6) else some (.stop (.next ()))) aZ (0:Int)) fun _=> some (-1)
def M.a7 (s1:(List Int)) (f1:(Int→Option Bool)):Option Bool:= (M.c1 s1 f1).bind fun rv1=> some (decide (0≤rv1))
def M.l9 (xv1:Int):Option Bool:= some (decide (xv1<(-1)))
def M.k9 (a:T_NFA):Option Bool:= (bif (decide (a.States<1)) then some true else bif (decide (2000<a.States)) then some true else (M.h3 a.Start a).bind fun j=> bif (!j) then some true else some ((a.Accept.length:Int) != a.States)).bind fun (e:Bool)=> bif e then some false else bp (ba (fun (c:Int)=> bif (decide (c<(a.Arcs.length:Int))) then (bC a.Arcs c).bind fun b=> ((M.h3 b.From a).bind fun i=> bif (!i) then some true else (M.h3 b.To a).bind fun h=> bif (!h) then some true else bif b.Epsilon then some (b.Set != (aV.zero 4)) else some false).bind fun (d:Bool)=> bif d then some (.stop (.stop false)) else (bZ .i64 (c+1)).bind fun f=> some (.next f) else some (.stop (.next ()))) aZ (0:Int)) fun _=> (M.a7 a.Accept M.l9).bind fun g=> some (!g)
def M.g1 (s1:(aV 4)) (b1:Int):Option Bool:= (pn .u8 b1 64).bind fun t1=> (gV s1 t1).bind fun c1=> (lO b1 64).bind fun t2=> (rJ .u64 c1 t2).bind fun t3=> some ((bits .and .u64 t3 1) == 1)
def M.g5 (e:(List (aV 4))):Option (List Int):= (oO 8 256 (0:Int)).bind fun i=> (ba (fun (d:(List Int)×(List (Str×Int))×Int)=>match d with | (h,a,c)=> bif (decide (c<(i.length:Int))) then ((oO 1 (e.length:Int) (0:Int)).bind fun u=> (ba (fun (d:(List Int)×Int)=>match d with | (f,b)=> bif (decide (b<(e.length:Int))) then ((bC e b).bind fun v=> (M.g1 v (IntKind.u8.wrap c)).bind fun l=> bif l then (dk f b 1).bind fun s=> some s else some f).bind fun (t:(List Int))=> (bZ .i64 (b+1)).bind fun k=> some (.next (t,k)) else some (.stop f)) aZ (u,(0:Int))).bind fun (g:(List Int))=> (bif (!((cb a (cX g)).isSome)) then some ((dQ a (cX g) (a.length:Int)),(a.length:Int)) else some (a,((cb a (cX g)).getD 0))).bind fun (q,p)=> (dk h c p).bind fun m=> some (m,q)).bind fun (n,r)=> (bZ .i64 (c+1)).bind fun j=> some (.next (n,r,j)) else some (.stop h)) aZ (i,([]:(List (Str×Int))),(0:Int))).bind fun (o:(List Int))=> some o
def M.i4 (c:(List Int)):Option (List Int):= (ba (fun (f:(List Int)×Int)=>match f with | (b,a)=> bif (decide (a<(c.length:Int))) then ((bC c a).bind fun i=> bif (i == (b.length:Int)) then (cD 1 b [(IntKind.u8.wrap a)]).bind fun g=> some g else some b).bind fun (h:(List Int))=> (bZ .i64 (a+1)).bind fun e=> some (.next (h,e)) else some (.stop b)) aZ (([]:(List Int)),(0:Int))).bind fun (d:(List Int))=> some d
def M.g8 (s1:Int) (c1:T_NFA) (c2:(List Bool)) (c3:(List Int)):Option ((List Bool)×(List Int)):= (bif (decide (0≤s1)) then bif (decide (s1<c1.States)) then (bC c2 s1).bind fun e2=> some (!e2) else some false else some false).bind fun (xv1:Bool)=> bif xv1 then (dk c2 s1 true).bind fun y1=> (cD 8 c3 [s1]).bind fun y2=> some (y1,y2) else some (c2,c3)
def M.l4 (c:(List Bool)):Option (List Int):= (ba (fun (f:(List Int)×Int)=>match f with | (b,a)=> bif (decide (a<(c.length:Int))) then ((bC c a).bind fun i=> bif i then (cD 8 b [a]).bind fun g=> some g else some b).bind fun (h:(List Int))=> (bZ .i64 (a+1)).bind fun e=> some (.next (h,e)) else some (.stop b)) aZ (([]:(List Int)),(0:Int))).bind fun (d:(List Int))=> some d
def M.h4 (b:T_NFA) (j:(List Int)):Option (List Int):= (oO 1 b.States (false:Bool)).bind fun y=> (ba (fun (a:(List Bool)×(List Int)×Int)=>match a with | (m,i,d)=> bif (decide (d<(j.length:Int))) then (bC j d).bind fun z=> (M.g8 z b m i).bind fun k=> (bZ .i64 (d+1)).bind fun s=> some (.next (k.1,k.2,s)) else some (.stop (m,i))) aZ (y,([]:(List Int)),(0:Int))).bind fun (w,o)=> (ba (fun (a:(List Bool)×(List Int))=>match a with | (n,c)=> bif (decide (0<(c.length:Int))) then (bZ .i64 ((c.length:Int) - 1)).bind fun t27=> (bC c t27).bind fun A=> (qd c 0 t27).bind fun v=> ba (fun (a:(List Bool)×(List Int)×Int)=>match a with | (g,f,e)=> bif (decide (e<(b.Arcs.length:Int))) then ((bC b.Arcs e).bind fun h=> (bif h.Epsilon then some (h.From == A) else some false).bind fun (p:Bool)=> bif p then (M.g8 h.To b g f).bind fun l=> some (l.1,l.2) else some (g,f)).bind fun (r,q)=> (bZ .i64 (e+1)).bind fun t=> some (.next (r,q,t)) else some (.stop (.next (g,f)))) aZ (n,v,(0:Int)) else some (.stop n)) aZ (w,o)).bind fun (x:(List Bool))=> (M.l4 x).bind fun u=> some u
def M.m6 (c:(List Int)):Option Str:= (ba (fun (h:(List Int)×Int)=>match h with | (b,a)=> bif (decide (a<(c.length:Int))) then (bC c a).bind fun d=> (rJ .i64 d 8).bind fun g=> (cD 1 b [(IntKind.u8.wrap d),(IntKind.u8.wrap g)]).bind fun i=> (bZ .i64 (a+1)).bind fun f=> some (.next (i,f)) else some (.stop b)) aZ (([]:(List Int)),(0:Int))).bind fun (e:(List Int))=> some (cX e)
def M.m8 (a:T_NFA) (n:(List Int)) (w:Int):Option (List Int):= (oO 1 a.States (false:Bool)).bind fun t=> ((M.h4 a n).bind fun g=> ba (fun (f:(List Bool)×Int)=>match f with | (h,c)=> bif (decide (c<(g.length:Int))) then (bC g c).bind fun u=> (dk h u true).bind fun s=> (bZ .i64 (c+1)).bind fun l=> some (.next (s,l)) else some (.stop h)) aZ (t,(0:Int))).bind fun (r:(List Bool))=> (ba (fun (f:(List Int)×Int)=>match f with | (e,d)=> bif (decide (d<(a.Arcs.length:Int))) then ((bC a.Arcs d).bind fun b=> (bif (!b.Epsilon) then (bC r b.From).bind fun v=> bif v then (M.g1 b.Set w).bind fun p=> some p else some false else some false).bind fun (q:Bool)=> bif q then (cD 8 e [b.To]).bind fun j=> some j else some e).bind fun (k:(List Int))=> (bZ .i64 (d+1)).bind fun m=> some (.next (k,m)) else some (.stop e)) aZ (([]:(List Int)),(0:Int))).bind fun (i:(List Int))=> (M.h4 a i).bind fun o=> some o
def M.k6 (j:T_NFA) (d:(List Int)):Option Int:= (ba (fun (g:Int×Int)=>match g with | (a,b)=> bif (decide (b<(d.length:Int))) then ((bC d b).bind fun k=> (bC j.Accept k).bind fun c=> (bif (decide (0≤c)) then bif (decide (a<0)) then some true else some (decide (c<a)) else some false).bind fun (e:Bool)=> bif e then some c else some a).bind fun (i:Int)=> (bZ .i64 (b+1)).bind fun f=> some (.next (i,f)) else some (.stop a)) aZ (((-1):Int),(0:Int))).bind fun (h:Int)=> some h
def M.d2 (b:T_NFA):Option (T_DFA×Int):= (M.k9 b).bind fun S=> bif (!S) then some ((T_DFA.mk [] [] []),1) else (ba (fun (e:(List (aV 4))×Int)=>match e with | (o,h)=> bif (decide (h<(b.Arcs.length:Int))) then (bC b.Arcs h).bind fun e6=> (cD 32 o [e6.Set]).bind fun B=> (bZ .i64 (h+1)).bind fun N=> some (.next (B,N)) else some (.stop o)) aZ (([]:(List (aV 4))),(0:Int))).bind fun (D:(List (aV 4)))=> (M.g5 D).bind fun r=> (M.i4 r).bind fun i=> (M.h4 b [b.Start]).bind fun q=> (bC [q] 0).bind fun e7=> (M.m6 e7).bind fun R=> bp (ba (fun (e:(List (List Int))×(List Int)×(List (List Int))×(List (Str×Int))×Int)=>match e with | (n,m,l,X,f)=> bif (decide (f<(l.length:Int))) then bp ((oO 8 (i.length:Int) (0:Int)).bind fun a0=> bp (ba (fun (e:(List (List Int))×(List (Str×Int))×(List Int)×Int)=>match e with | (a,c,s,d)=> bif (decide (d<(i.length:Int))) then bp ((bC i d).bind fun a5=> (bC a f).bind fun a4=> (M.m8 b a4 a5).bind fun g=> (dk s d (-1)).bind fun j=> bif ((g.length:Int) == 0) then some (.next (a,c,j)) else (M.m6 g).bind fun p=> bp (bif (!((cb c p).isSome)) then bif ((a.length:Int) == 500) then some (.stop (.stop (.stop (.stop (.stop (.stop (.stop ((T_DFA.mk [] [] []),11)))))))) else (M.m6 g).bind fun Q=> (cD 24 a [g]).bind fun w=> some (.next (w,(dQ c Q (a.length:Int)),(a.length:Int))) else some (.next (a,c,((cb c p).getD 0)))) fun (x,T,F)=> (dk j d F).bind fun v=> some (.next (x,T,v))) fun (G,U,y)=> (bZ .i64 (d+1)).bind fun L=> some (.next (G,U,y,L)) else some (.stop (.next (a,c,s)))) aZ (l,X,a0,(0:Int))) fun (k,V,Y)=> (cD 24 n [Y]).bind fun u=> (bC k f).bind fun a3=> (M.k6 b a3).bind fun P=> (cD 8 m [P]).bind fun t=> some (.next (u,t,k,V))) fun (A,z,H,W)=> (bZ .i64 (f+1)).bind fun K=> some (.next (A,z,H,W,K)) else some (.stop (.next (n,m)))) aZ (([]:(List (List Int))),([]:(List Int)),([q]:(List (List Int))),(dQ [] R 0),(0:Int))) fun (J,I)=> some ((T_DFA.mk r J I),0)
def M.m9 (a:T_DFA):Option T_DFA:= ((oO 8 (a.Class.length:Int) (0:Int)).bind fun A=> some A).bind fun (B:(List Int))=> (ba (fun (c:(List (Int×Int))×(List Int)×(List Int)×Int)=>match c with | (e,b,l,d)=> bif (decide (d<(a.Class.length:Int))) then (bC a.Class d).bind fun f=> (bif (!((cb e f).isSome)) then (cD 8 b [f]).bind fun n=> some ((dQ e f (b.length:Int)),n,(b.length:Int)) else some (e,b,((cb e f).getD 0))).bind fun (y,o,s)=> (dk l d s).bind fun m=> (bZ .i64 (d+1)).bind fun x=> some (.next (y,o,m,x)) else some (.stop (b,l))) aZ (([]:(List (Int×Int))),([]:(List Int)),B,(0:Int))).bind fun (k,z)=> (ba (fun (c:(List (List Int))×Int)=>match c with | (j,h)=> bif (decide (h<(a.Next.length:Int))) then ((bC a.Next h).bind fun G=> (ba (fun (c:(List Int)×Int)=>match c with | (i,g)=> bif (decide (g<(k.length:Int))) then (bC k g).bind fun F=> (bC G F).bind fun D=> (cD 8 i [D]).bind fun q=> (bZ .i64 (g+1)).bind fun w=> some (.next (q,w)) else some (.stop i)) aZ (([]:(List Int)),(0:Int))).bind fun (t:(List Int))=> (cD 24 j [t]).bind fun p=> some p).bind fun (r:(List (List Int)))=> (bZ .i64 (h+1)).bind fun v=> some (.next (r,v)) else some (.stop j)) aZ (([]:(List (List Int))),(0:Int))).bind fun (u:(List (List Int)))=> some (T_DFA.mk z u a.Accept)
def M.j4 (t1:Int) (c1:(List Bool)):Option Bool:= (bif (decide (0≤t1)) then (bC c1 t1).bind fun e3=> some e3 else some false).bind fun (e2:Bool)=> some e2
def M.n0 (d:T_DFA):Option (List Bool):= (oO 1 (d.Next.length:Int) (false:Bool)).bind fun t=> (ba (fun (b:(List Bool)×Int)=>match b with | (g,e)=> bif (decide (e<(d.Accept.length:Int))) then (bC d.Accept e).bind fun u=> (dk g e (decide (0≤u))).bind fun j=> (bZ .i64 (e+1)).bind fun m=> some (.next (j,m)) else some (.stop g)) aZ (t,(0:Int))).bind fun (r:(List Bool))=> (ba (fun (b:(List Bool)×Bool)=>match b with | (h,q)=> bif q then ba (fun (b:(List Bool)×Bool×Int)=>match b with | (c,f,a)=> bif (decide (a<(d.Next.length:Int))) then ((bC d.Next a).bind fun w=> ((bC c a).bind fun v=> bif (!v) then (M.a7 w (fun l=>M.j4 l c)).bind fun n=> some n else some false).bind fun (o:Bool)=> bif o then (dk c a true).bind fun i=> some (i,true) else some (c,f)).bind fun (k,p)=> (bZ .i64 (a+1)).bind fun t24=> some (.next (k,p,t24)) else some (.stop (.next (c,f)))) aZ (h,false,(0:Int)) else some (.stop h)) aZ (r,true)).bind fun (s:(List Bool))=> some s
def M.d7 (s1:(List Int)):Option (List Int):= (cD 8 [] s1).bind fun y1=> some y1
def M.l6 (a:T_DFA):Option T_DFA:= (M.n0 a).bind fun p=> (ba (fun (e:(List (List Int))×Int)=>match e with | (f,d)=> bif (decide (d<(a.Next.length:Int))) then ((bC a.Next d).bind fun t=> (M.d7 t).bind fun g=> (ba (fun (e:(List Int)×Int)=>match e with | (c,b)=> bif (decide (b<(g.length:Int))) then ((bC c b).bind fun h=> (bif (decide (0≤h)) then (bC p h).bind fun s=> some (!s) else some false).bind fun (i:Bool)=> bif i then (dk c b (-1)).bind fun m=> some m else some c).bind fun (n:(List Int))=> (bZ .i64 (b+1)).bind fun l=> some (.next (n,l)) else some (.stop c)) aZ (g,(0:Int))).bind fun (o:(List Int))=> (cD 24 f [o]).bind fun q=> some q).bind fun (r:(List (List Int)))=> (bZ .i64 (d+1)).bind fun k=> some (.next (r,k)) else some (.stop f)) aZ (([]:(List (List Int))),(0:Int))).bind fun (j:(List (List Int)))=> some (T_DFA.mk a.Class j a.Accept)
def M.i0 (f:(List Int)):Option Str:= (ba (fun (c:(List Int)×Int)=>match c with | (e,b)=> bif (decide (b<(f.length:Int))) then ((bC f b).bind fun m=> ba (fun (c:(List Int)×Int)=>match c with | (d,a)=> bif (decide (a<8)) then (bZ .i64 (8*a)).bind fun l=> (rJ .i64 m l).bind fun k=> (cD 1 d [(IntKind.u8.wrap k)]).bind fun n=> (bZ .i64 (a+1)).bind fun j=> some (.next (n,j)) else some (.stop d)) aZ (e,(0:Int))).bind fun (g:(List Int))=> (bZ .i64 (b+1)).bind fun i=> some (.next (g,i)) else some (.stop e)) aZ (([]:(List Int)),(0:Int))).bind fun (h:(List Int))=> some (cX h)
def M.i1 (d:T_DFA):Option (List Int):= (oO 8 (d.Next.length:Int) (0:Int)).bind fun D=> ba (fun (c:(List Int)×Int)=>match c with | (g,u)=> (oO 8 (g.length:Int) (0:Int)).bind fun B=> (ba (fun (c:(List (Str×Int))×(List Int)×Int)=>match c with | (a,k,b)=> bif (decide (b<(d.Next.length:Int))) then ((bC d.Next b).bind fun n=> (bC g b).bind fun H=> (bC d.Accept b).bind fun G=> (ba (fun (c:(List Int)×Int)=>match c with | (f,e)=> bif (decide (e<(n.length:Int))) then ((bC n e).bind fun m=> bif (decide (m<0)) then (cD 8 f [0]).bind fun q=> some q else (bC g m).bind fun F=> (bZ .i64 (F+1)).bind fun x=> (cD 8 f [x]).bind fun p=> some p).bind fun (r:(List Int))=> (bZ .i64 (e+1)).bind fun w=> some (.next (r,w)) else some (.stop f)) aZ (([H,(IntKind.i64.wrap (G+1))]:(List Int)),(0:Int))).bind fun (h:(List Int))=> (M.i0 h).bind fun i=> (bif (!((cb a i).isSome)) then (M.i0 h).bind fun y=> some ((dQ a y (a.length:Int)),(a.length:Int)) else some (a,((cb a i).getD 0))).bind fun (z,t)=> (dk k b t).bind fun o=> some (z,o)).bind fun (A,s)=> (bZ .i64 (b+1)).bind fun v=> some (.next (A,s,v)) else some (.stop (a,k))) aZ (([]:(List (Str×Int))),B,(0:Int))).bind fun (j,l)=> bif ((j.length:Int) == u) then some (.stop l) else some (.next (l,(j.length:Int)))) aZ (D,(0:Int))
def M.k4 (j:T_DFA) (g:(List Int)):Option (List Int):= (oO 1 (j.Next.length:Int) (false:Bool)).bind fun t=> (bC g 0).bind fun A=> (dk t A true).bind fun o=> (ba (fun (f:(List Int)×(List Bool)×Int)=>match f with | (a,s,h)=> bif (decide (h<(a.length:Int))) then ((bC a h).bind fun z=> (bC j.Next z).bind fun i=> ba (fun (f:(List Int)×(List Bool)×Int)=>match f with | (e,b,d)=> bif (decide (d<(i.length:Int))) then ((bC i d).bind fun c=> (bif (decide (0≤c)) then (bC g c).bind fun y=> (bC b y).bind fun x=> some (!x) else some false).bind fun (l:Bool)=> bif l then (bC g c).bind fun w=> (dk b w true).bind fun p=> (cD 8 e [c]).bind fun u=> some (u,p) else some (e,b)).bind fun (v,q)=> (bZ .i64 (d+1)).bind fun t41=> some (.next (v,q,t41)) else some (.stop (e,b))) aZ (a,s,(0:Int))).bind fun (m,r)=> (bZ .i64 (h+1)).bind fun n=> some (.next (m,r,n)) else some (.stop a)) aZ (([0]:(List Int)),o,(0:Int))).bind fun (k:(List Int))=> some k
def M.j1 (d1:T_DFA) (s1:Int) (b1:Int):Option Int:= bif (decide (s1<0)) then some (-1) else (bC d1.Next s1).bind fun e1=> (bC d1.Class b1).bind fun e2=> (bC e1 e2).bind fun e3=> some e3
def M.k5 (t:T_DFA) (i:(List Int)) (s:(List Int)):Option (List Int):= (oO 8 256 (0:Int)).bind fun k=> (ba (fun (d:(List Int)×(List (Str×Int))×Int)=>match d with | (j,a,b)=> bif (decide (b<(k.length:Int))) then ((ba (fun (d:(List Int)×Int)=>match d with | (f,c)=> bif (decide (c<(i.length:Int))) then (bC i c).bind fun z=> (M.j1 t z (IntKind.u8.wrap b)).bind fun e=> (bif (decide (0≤e)) then (bC s e).bind fun x=> some x else some e).bind fun (y:Int)=> (cD 8 f [y]).bind fun m=> (bZ .i64 (c+1)).bind fun q=> some (.next (m,q)) else some (.stop f)) aZ (([]:(List Int)),(0:Int))).bind fun (g:(List Int))=> (M.i0 g).bind fun h=> (bif (!((cb a h).isSome)) then (M.i0 g).bind fun r=> some ((dQ a r (a.length:Int)),(a.length:Int)) else some (a,((cb a h).getD 0))).bind fun (u,o)=> (dk j b o).bind fun l=> some (l,u)).bind fun (n,v)=> (bZ .i64 (b+1)).bind fun p=> some (.next (n,v,p)) else some (.stop j)) aZ (k,([]:(List (Str×Int))),(0:Int))).bind fun (w:(List Int))=> some w
def M.f4 (L:T_DFA):Option T_DFA:= (M.m9 L).bind fun K=> (M.l6 K).bind fun d=> (M.i1 d).bind fun f=> ((M.k4 d f).bind fun J=> (M.k5 d J f).bind fun I=> some I).bind fun (p:(List Int))=> (M.i4 p).bind fun h=> (bC f 0).bind fun e1=> (ba (fun (g:(List (List Int))×(List Int)×(List Int)×(List (Int×Int))×Int)=>match g with | (o,n,m,S,e)=> bif (decide (e<(m.length:Int))) then ((oO 8 (h.length:Int) (0:Int)).bind fun U=> (ba (fun (g:(List Int)×(List (Int×Int))×(List Int)×Int)=>match g with | (a,b,q,c)=> bif (decide (c<(h.length:Int))) then ((bC h c).bind fun Y=> (bC a e).bind fun X=> (M.j1 d X Y).bind fun i=> (dk q c (-1)).bind fun k=> bif (decide (i<0)) then some (a,b,k) else (bC f i).bind fun j=> (bif (!((cb b j).isSome)) then (cD 8 a [i]).bind fun u=> some (u,(dQ b j (a.length:Int)),(a.length:Int)) else some (a,b,((cb b j).getD 0))).bind fun (v,N,z)=> (dk k c z).bind fun t=> some (v,N,t)).bind fun (A,P,w)=> (bZ .i64 (c+1)).bind fun H=> some (.next (A,P,w,H)) else some (.stop (a,b,q))) aZ (m,S,U,(0:Int))).bind fun (l,Q,T)=> (cD 24 o [T]).bind fun s=> (bC l e).bind fun W=> (bC d.Accept W).bind fun V=> (cD 8 n [V]).bind fun r=> some (s,r,l,Q)).bind fun (y,x,B,R)=> (bZ .i64 (e+1)).bind fun G=> some (.next (y,x,B,R,G)) else some (.stop (o,n))) aZ (([]:(List (List Int))),([]:(List Int)),([0]:(List Int)),(dQ [] e1 0),(0:Int))).bind fun (F,D)=> some (T_DFA.mk p F D)
def M.b2 (l1:(List T_Regex)):Option (T_DFA×Int):= (M.d1 l1).bind fun rv1=> bif (rv1.2 != 0) then some ((T_DFA.mk [] [] []),rv1.2) else (M.d2 rv1.1).bind fun rv2=> bif (rv2.2 != 0) then some ((T_DFA.mk [] [] []),rv2.2) else (M.f4 rv2.1).bind fun rv3=> some (rv3,0)
def M.i5 (d1:T_DFA) (s1:Int):Option Int:= bif (decide (s1<0)) then some (-1) else (bC d1.Accept s1).bind fun e1=> some e1
def M.n4 (d:T_DFA) (c:Str):Option Int:= (ba (fun (h:Int×Int)=>match h with | (b,a)=> bif (decide (a<(c.length:Int))) then (jt c a).bind fun j=> (M.j1 d b j).bind fun g=> (bZ .i64 (a+1)).bind fun e=> some (.next (g,e)) else some (.stop b)) aZ ((0:Int),(0:Int))).bind fun (f:Int)=> (M.i5 d f).bind fun i=> some i
def M.f0 (d:Str):Option T_Regex:= (ba (fun (g:(List T_Regex)×Int)=>match g with | (c,b)=> bif (decide (b<(d.length:Int))) then (jt d b).bind fun e=> (M.f7 e e).bind fun h=> (cD 64 c [(T_Regex.mk 3 h [])]).bind fun i=> (bZ .i64 (b+1)).bind fun f=> some (.next (i,f)) else some (.stop c)) aZ (([]:(List T_Regex)),(0:Int))).bind fun (a:(List T_Regex))=> bif ((a.length:Int) == 1) then (bC a 0).bind fun j=> some j else some (T_Regex.mk 4 (aV.zero 4) a)
def M.f9 (m:T_DFA) (l:T_DFA):Option (Str×Bool):= bp (ba (fun (i:(List cM)×(List (bJ×Unit))×Int)=>match i with | (h,y,g)=> bif (decide (g<(h.length:Int))) then bp ((bC h g).bind fun c=> (M.i5 m c.atv.a).bind fun v=> (M.i5 l c.atv.b).bind fun u=> bif (v != u) then some (.stop (.stop (.stop (c.text,true)))) else ba (fun (i:(List cM)×(List (bJ×Unit))×Int)=>match i with | (f,e,d)=> bif (decide (d<256)) then (((M.j1 m c.atv.a (IntKind.u8.wrap d)).bind fun t=> (M.j1 l c.atv.b (IntKind.u8.wrap d)).bind fun s=> some (t,s)).bind fun (k,j)=> bif (!((cb e (bJ.mk k j)).isSome)) then (Aj c.text (cX [(IntKind.u8.wrap d)])).bind fun r=> (cD 32 f [(cM.mk (bJ.mk k j) r)]).bind fun n=> some (n,(dQ e (bJ.mk k j) ())) else some (f,e)).bind fun (o,w)=> (bZ .i64 (d+1)).bind fun t41=> some (.next (o,w,t41)) else some (.stop (.next (f,e)))) aZ (h,y,(0:Int))) fun (p,x)=> (bZ .i64 (g+1)).bind fun q=> some (.next (p,x,q)) else some (.stop (.next ()))) aZ (([(cM.mk (bJ.mk 0 0) [])]:(List cM)),(dQ [] (bJ.mk 0 0) ()),(0:Int))) fun _=> some ([],false)
def M.d6 (rv1:T_Regex) (s1:Str):Option Bool:= (M.b2 [rv1]).bind fun rv2=> (M.f0 s1).bind fun rv3=> (M.b2 [rv3]).bind fun rv4=> (bif (rv2.2 != 0) then some true else some (rv4.2 != 0)).bind fun (xv1:Bool)=> bif xv1 then some false else (M.f9 rv2.1 rv4.1).bind fun rv5=> some (!rv5.2)
def M.b6 (a:T_LexSpec):Option (T_DFA×Int×Int):= (bif (decide ((a.Defs.length:Int)<1)) then some true else some (decide (40<(a.Defs.length:Int)))).bind fun (l:Bool)=> bif l then some ((T_DFA.mk [] [] []),0,11) else bp (ba (fun (o:(List T_Regex)×Int)=>match o with | (g,c)=> bif (decide (c<(a.Defs.length:Int))) then (bC a.Defs c).bind fun s=> (M.b5 a.Defs c).bind fun h=> bif (h != 0) then some (.stop (.stop ((T_DFA.mk [] [] []),c,h))) else (M.g0 s.Pattern).bind fun r=> (cD 64 g [r.1]).bind fun i=> (bZ .i64 (c+1)).bind fun m=> some (.next (i,m)) else some (.stop (.next g))) aZ (([]:(List T_Regex)),(0:Int))) fun (f:(List T_Regex))=> (bif (decide (a.Misspelling<0)) then some true else bif (decide (1000<a.Misspelling)) then some true else bif (decide (a.Unclosed<0)) then some true else some (decide (1000<a.Unclosed))).bind fun (k:Bool)=> bif k then some ((T_DFA.mk [] [] []),(a.Defs.length:Int),1) else (M.b2 f).bind fun d=> bif (d.2 != 0) then some ((T_DFA.mk [] [] []),0,d.2) else bp (ba (fun (b:Int)=> bif (decide (b<(a.Defs.length:Int))) then (bC a.Defs b).bind fun e=> (M.n4 d.1 e.Sample).bind fun q=> bif (q != b) then some (.stop (.stop ((T_DFA.mk [] [] []),b,13))) else (bif (e.Kind == 3) then (bC f b).bind fun t=> (M.d6 t e.Sample).bind fun p=> some (!p) else some false).bind fun (j:Bool)=> bif j then some (.stop (.stop ((T_DFA.mk [] [] []),b,14))) else (bZ .i64 (b+1)).bind fun n=> some (.next n) else some (.stop (.next ()))) aZ (0:Int)) fun _=> some (d.1,0,0)
def M.c5 (spec1:T_LexSpec):Option (Int×Int):= (M.b6 spec1).bind fun rv1=> some (rv1.2.1,rv1.2.2)
def M.g4 (spec1:T_LexSpec):Option (T_DFA×Int):= (M.b6 spec1).bind fun rv1=> some (rv1.1,rv1.2.2)
def M.m7:Option T_LexSpec:= some (T_LexSpec.mk [(bz.mk [105,102] 3 [105,102] [105,102] []),(bz.mk [119,111,114,100] 1 [91,97,45,122,93,43] [120] []),(bz.mk [115,112,97,99,101] 2 [32,43] [32] []),(bz.mk [116,101,120,116] 1 [39,91,94,39,92,110,93,42,39] [39,39] [39])] false 4 6)
def M.j0 (spec1:T_LexSpec):Option (Str×Bool):= bp (ba (fun (xv5:Int)=> bif (decide (xv5<(spec1.Defs.length:Int))) then (bC spec1.Defs xv5).bind fun e6=> bif (e6.Kind == 2) then some (.stop (.stop (e6.Sample,true))) else (bZ .i64 (xv5+1)).bind fun t6=> some (.next t6) else some (.stop (.next ()))) aZ (0:Int)) fun _=> some ([],false)
def M.l8 (a:T_DFA):Option Bool:= (bif ((a.Class.length:Int) != 256) then some true else bif (decide ((a.Next.length:Int)<1)) then some true else bif (decide (500<(a.Next.length:Int))) then some true else some ((a.Accept.length:Int) != (a.Next.length:Int))).bind fun (k:Bool)=> bif k then some false else (bC a.Next 0).bind fun c=> bif (decide ((c.length:Int)<1)) then some false else bp (ba (fun (e:Int)=> bif (decide (e<256)) then ((bC a.Class e).bind fun g=> bif (decide (g<0)) then some true else some (decide ((c.length:Int)≤g))).bind fun (i:Bool)=> bif i then some (.stop (.stop false)) else (bZ .i64 (e+1)).bind fun l=> some (.next l) else some (.stop (.next ()))) aZ (0:Int)) fun _=> bp (ba (fun (b:Int)=> bif (decide (b<(a.Next.length:Int))) then bp (((bC a.Next b).bind fun q=> bif ((q.length:Int) != (c.length:Int)) then some true else (bC a.Accept b).bind fun p=> some (decide (p<(-1)))).bind fun (h:Bool)=> bif h then some (.stop (.stop (.stop false))) else ba (fun (d:Int)=> bif (decide (d<(c.length:Int))) then ((bC a.Next b).bind fun o=> (bC o d).bind fun f=> bif (decide (f<(-1))) then some true else some (decide ((a.Next.length:Int)≤f))).bind fun (j:Bool)=> bif j then some (.stop (.stop (.stop (.stop false)))) else (bZ .i64 (d+1)).bind fun n=> some (.next n) else some (.stop (.next ()))) aZ (0:Int)) fun _=> (bZ .i64 (b+1)).bind fun m=> some (.next m) else some (.stop (.next ()))) aZ (0:Int)) fun _=> some true
def M.n3 (d1:T_DFA) (s1:Int) (b1:Int):Option Int:= bif (decide (s1<0)) then some (-1) else (bC d1.Next s1).bind fun e1=> (bC d1.Class b1).bind fun e2=> (bC e1 e2).bind fun e3=> some e3
def M.m5 (d1:T_DFA) (s1:Int):Option Int:= bif (decide (s1<0)) then some (-1) else (bC d1.Accept s1).bind fun e1=> some e1
def M.k8 (d1:T_DFA) (s1:Str):Option Int:= (ba (fun (st9:Int×Int)=>match st9 with | (atv10,i5)=> bif (decide (i5<(s1.length:Int))) then (jt s1 i5).bind fun c6=> (M.n3 d1 atv10 c6).bind fun atv13=> (bZ .i64 (i5+1)).bind fun t6=> some (.next (atv13,t6)) else some (.stop atv10)) aZ ((0:Int),(0:Int))).bind fun (atv7:Int)=> (M.m5 d1 atv7).bind fun rv1=> some rv1
def M.l5 (spec1:T_LexSpec) (kind1:Int):Option Str:= (bif (decide (kind1<0)) then some true else some (decide ((spec1.Defs.length:Int)≤kind1))).bind fun (xv1:Bool)=> bif xv1 then some [] else (bC spec1.Defs kind1).bind fun e1=> some e1.Sample
def M.m0 (b:T_LexSpec):Option (List Str):= (ba (fun (f:(List Str)×Int)=>match f with | (d,a)=> bif (decide (a<(b.Defs.length:Int))) then (bC b.Defs a).bind fun j=> (cD 16 d [j.Name]).bind fun i=> (bZ .i64 (a+1)).bind fun e=> some (.next (i,e)) else some (.stop d)) aZ (([]:(List Str)),(0:Int))).bind fun (c:(List Str))=> (bif b.Layout then (cD 16 c M.k2).bind fun g=> some g else some c).bind fun (h:(List Str))=> some h
def M.h6:Option Bool:= (M.f6 false).bind fun p=> (M.c5 p).bind fun d=> (M.f6 true).bind fun h=> (M.c5 h).bind fun c=> (M.f6 true).bind fun g=> (M.g4 g).bind fun a=> (M.m7).bind fun f=> (M.j0 f).bind fun b=> (bif (d.1 == 1) then bif (d.2 == 13) then bif (c.1 == 0) then bif (c.2 == 0) then bif (a.2 == 0) then (M.l8 a.1).bind fun o=> bif o then (M.k8 a.1 [105,102]).bind fun n=> bif (n == 0) then (M.k8 a.1 [105,116]).bind fun m=> bif (m == 1) then (M.f6 true).bind fun l=> (M.l5 l 1).bind fun k=> bif (k == [120]) then bif (b.1 == [32]) then bif b.2 then (M.f6 true).bind fun j=> (M.m0 j).bind fun i=> some ((i.length:Int) == 2) else some false else some false else some false else some false else some false else some false else some false else some false else some false else some false else some false).bind fun (e:Bool)=> some e
def M.a0 (p1:aG):Option Int:= bif (decide ((p1.s.length:Int)≤p1.atv)) then some (-1) else (jt p1.s p1.atv).bind fun c1=> some (IntKind.i64.wrap c1)
def M.i8 (a:Int):Option Bool:= (bif (decide (48≤a)) then bif (decide (a≤57)) then some true else bif (decide (97≤a)) then bif (decide (a≤122)) then some true else bif (decide (65≤a)) then some (decide (a≤90)) else some false else bif (decide (65≤a)) then some (decide (a≤90)) else some false else bif (decide (97≤a)) then bif (decide (a≤122)) then some true else bif (decide (65≤a)) then some (decide (a≤90)) else some false else bif (decide (65≤a)) then some (decide (a≤90)) else some false).bind fun (b:Bool)=> some b
def M.k0 (b:Int) (g:Bool):Option Bool:= (bif (decide (b<32)) then some true else some (decide (126<b))).bind fun (d:Bool)=> bif d then some false else (bif g then some ([93,92,45]:Str) else some ([40,41,91,93,124,42,43,63,46,92]:Str)).bind fun (c:Str)=> bp (ba (fun (a:Int)=> bif (decide (a<(c.length:Int))) then (jt c a).bind fun f=> bif ((IntKind.i64.wrap f) == b) then some (.stop (.stop false)) else (bZ .i64 (a+1)).bind fun e=> some (.next e) else some (.stop (.next ()))) aZ (0:Int)) fun _=> some true
def M.b3 (a:aG) (i:Bool):Option (Int×aG):= (M.a0 a).bind fun d=> bif (d == 92) then (bZ .i64 (a.atv+1)).bind fun c=> (M.a0 (aG.mk a.s c a.bad)).bind fun b=> bif (b == 110) then (bZ .i64 (c+1)).bind fun f=> some (10,(aG.mk a.s f a.bad)) else bif (b == 116) then (bZ .i64 (c+1)).bind fun t3=> some (9,(aG.mk a.s t3 a.bad)) else (bif (decide (32≤b)) then bif (decide (b≤126)) then (M.i8 b).bind fun h=> some (!h) else some false else some false).bind fun (e:Bool)=> bif e then (bZ .i64 (c+1)).bind fun t4=> some (b,(aG.mk a.s t4 a.bad)) else some (0,(aG.mk a.s c true)) else (M.k0 d i).bind fun g=> bif (!g) then some (0,(aG.mk a.s a.atv true)) else (bZ .i64 (a.atv+1)).bind fun t5=> some (d,(aG.mk a.s t5 a.bad))
def M.g3 (s1:(aV 4)) (b1:Int):Option (aV 4):= (pn .i64 b1 64).bind fun t1=> (gV s1 t1).bind fun c1=> (lO b1 64).bind fun t2=> (vy .u64 1 (IntKind.u64.wrap t2)).bind fun t3=> (oV s1 t1 (bits .or .u64 c1 t3)).bind fun s2=> some s2
def M.m3 (s1:(aV 4)):Option (aV 4):= (ba (fun (st9:(aV 4)×Int)=>match st9 with | (s11,i5)=> bif (decide (i5<4)) then (gV s11 i5).bind fun c6=> (oV s11 i5 (mQ .u64 c6)).bind fun s14=> (bZ .i64 (i5+1)).bind fun t6=> some (.next (s14,t6)) else some (.stop s11)) aZ (s1,(0:Int))).bind fun (s8:(aV 4))=> some s8
def M.d3 (c:aG):Option (T_Regex×aG):= (M.a0 c).bind fun o=> (bif (o == 94) then (bZ .i64 (c.atv+1)).bind fun t3=> some t3 else some c.atv).bind fun (A:Int)=> (ba (fun (h:Str×Int×Bool×(aV 4)×Bool)=>match h with | (e,t33,d,i,p)=> (bif (!d) then bif p then some true else (M.a0 (aG.mk e t33 d)).bind fun G=> some (G != 93) else some false).bind fun (x:Bool)=> bif x then (M.b3 (aG.mk e t33 d) true).bind fun a=> ((bif (!a.2.bad) then (M.a0 a.2).bind fun F=> some (F == 45) else some false).bind fun (u:Bool)=> bif u then (bZ .i64 (a.2.atv+1)).bind fun n=> (M.b3 (aG.mk a.2.s n a.2.bad) true).bind fun b=> (bif (!b.2.bad) then some (decide (b.1<a.1)) else some false).bind fun (t:Bool)=> bif t then some (b.2.s,n,true,b.1) else some (b.2.s,b.2.atv,b.2.bad,b.1) else some (a.2.s,a.2.atv,a.2.bad,a.1)).bind fun (w,z,m,v)=> ba (fun (h:(aV 4)×Int)=>match h with | (l,g)=> (bif (!m) then some (decide (g≤v)) else some false).bind fun (r:Bool)=> bif r then (M.g3 l g).bind fun D=> (bZ .i64 (g+1)).bind fun t46=> some (.next (D,t46)) else some (.stop (.next (w,z,m,l,false)))) aZ (i,a.1) else some (.stop (e,t33,d,i))) aZ (c.s,A,c.bad,(aV.zero 4),true)).bind fun (k,t25,f,j)=> bif f then some ((T_Regex.mk 0 (aV.zero 4) []),(aG.mk k t25 f)) else (bZ .i64 (t25+1)).bind fun y=> (bif (o == 94) then (M.m3 j).bind fun B=> some B else some j).bind fun (q:(aV 4))=> some ((T_Regex.mk 3 q []),(aG.mk k y f))
def M.n1:Option (aV 4):= (M.g3 (aV.zero 4) 10).bind fun rv1=> (M.m3 rv1).bind fun rv2=> some rv2
def M.m2 (b1:Int):Option T_Regex:= (M.g3 (aV.zero 4) b1).bind fun rv1=> some (T_Regex.mk 3 rv1 [])
def M.j2 (rv1:T_Regex):Option T_Regex:= some (T_Regex.mk 6 (aV.zero 4) [rv1])
mutual
def M.e1:Nat→aG→Option (T_Regex×aG)
| 0,_=>none
| fl+1,b=>
 (M.a0 b).bind fun a=>
 bif (a == 40) then
  (bZ .i64 (b.atv+1)).bind fun H=>
  (M.c3 fl (aG.mk b.s H b.bad)).bind fun c=>
  bif c.2.bad then
   some (c.1,c.2)
  else
   (M.a0 c.2).bind fun R=>
   bif (R != 41) then
    some (c.1,(aG.mk c.2.s c.2.atv true))
   else
    (bZ .i64 (c.2.atv+1)).bind fun G=>
    some (c.1,(aG.mk c.2.s G c.2.bad))
 else
  bif (a == 91) then
   (bZ .i64 (b.atv+1)).bind fun t3=>
   (M.d3 (aG.mk b.s t3 b.bad)).bind fun D=>
   some (D.1,D.2)
  else
   bif (a == 46) then
    (bZ .i64 (b.atv+1)).bind fun t4=>
    (M.n1).bind fun P=>
    some ((T_Regex.mk 3 P []),(aG.mk b.s t4 b.bad))
   else
    (M.b3 b false).bind fun B=>
    (M.m2 B.1).bind fun N=>
    some (N,B.2)
def M.d0:Nat→aG→Option (T_Regex×aG)
| 0,_=>none
| fl+1,b=>
 (M.e1 fl b).bind fun a=>
 bp (
  ba (fun (n:Int×Int×(aV 4)×(List T_Regex))=>match n with
  | (q,j,i,h)=>
   bif (!a.2.bad) then
    bp (
     (M.a0 (aG.mk a.2.s q a.2.bad)).bind fun v=>
     bif (v == 42) then
      (M.j2 (T_Regex.mk j i h)).bind fun u=>
      some (.next (u.Kind,u.Set,u.Kids))
     else
      bif (v == 43) then
       (M.j2 (T_Regex.mk j i h)).bind fun I=>
       some (.next ((4:Int),(aV.zero 4),([(T_Regex.mk j i h),I]:(List T_Regex))))
      else
       bif (v == 63) then
        some (.next ((5:Int),(aV.zero 4),([(T_Regex.mk j i h),(T_Regex.mk 2 (aV.zero 4) [])]:(List T_Regex))))
       else
        some (.stop (.stop (.stop ((T_Regex.mk j i h),(aG.mk a.2.s q a.2.bad)))))) fun (L,K,J)=>
    (bZ .i64 (q+1)).bind fun t=>
    some (.next (t,L,K,J))
   else
    some (.stop (.next (j,i,h,q)))) aZ (a.2.atv,a.1.Kind,a.1.Set,a.1.Kids)) fun (Q,y,x,w)=>
 some ((T_Regex.mk Q y x),(aG.mk a.2.s w a.2.bad))
def M.b9:Nat→aG→Option (T_Regex×aG)
| 0,_=>none
| fl+1,b=>
 (
  ba (fun (n:Str×Int×Bool×(List T_Regex))=>match n with
  | (f,e,d,m)=>
   (
    bif (!d) then
     (M.a0 (aG.mk f e d)).bind fun y=>
     bif (y != (-1)) then
      (M.a0 (aG.mk f e d)).bind fun x=>
      bif (x != 124) then
       (M.a0 (aG.mk f e d)).bind fun w=>
       some (w != 41)
      else
       some false
     else
      some false
    else
     some false).bind fun (r:Bool)=>
   bif r then
    (M.d0 fl (aG.mk f e d)).bind fun o=>
    (cD 64 m [o.1]).bind fun U=>
    some (.next (o.2.s,o.2.atv,o.2.bad,U))
   else
    some (.stop (m,f,e,d))) aZ (b.s,b.atv,b.bad,([]:(List T_Regex)))).bind fun (g,z,l,k)=>
 bif ((g.length:Int) == 0) then
  some ((T_Regex.mk 2 (aV.zero 4) []),(aG.mk z l k))
 else
  bif ((g.length:Int) == 1) then
   (bC g 0).bind fun A=>
   some (A,(aG.mk z l k))
  else
   some ((T_Regex.mk 4 (aV.zero 4) g),(aG.mk z l k))
def M.c3:Nat→aG→Option (T_Regex×aG)
| 0,_=>none
| fl+1,b=>
 (M.b9 fl b).bind fun a=>
 (
  ba (fun (n:Str×Int×Bool×(List T_Regex))=>match n with
  | (f,e,d,m)=>
   (
    bif (!d) then
     (M.a0 (aG.mk f e d)).bind fun S=>
     some (S == 124)
    else
     some false).bind fun (r:Bool)=>
   bif r then
    (bZ .i64 (e+1)).bind fun t=>
    (M.b9 fl (aG.mk f t d)).bind fun p=>
    (cD 64 m [p.1]).bind fun T=>
    some (.next (p.2.s,p.2.atv,p.2.bad,T))
   else
    some (.stop (m,f,e,d))) aZ (a.2.s,a.2.atv,a.2.bad,([a.1]:(List T_Regex)))).bind fun (g,l,k,F)=>
 bif ((g.length:Int) == 1) then
  (bC g 0).bind fun A=>
  some (A,(aG.mk l k F))
 else
  some ((T_Regex.mk 5 (aV.zero 4) g),(aG.mk l k F))
end
def M.e6:Nat→T_Regex→Int→Option Bool
| 0,_,_=>none
| fl+1,a,c=>
 (
  bif (decide (30≤c)) then
   some true
  else
   bif (a.Kind != 3) then
    some (a.Set != (aV.zero 4))
   else
    some false).bind fun (g:Bool)=>
 bif g then
  some false
 else
  bp (
   (
    bif (a.Kind == 1) then
     some (a.Kind == 1)
    else
     some (a.Kind == 2)).bind fun (f:Bool)=>
   bif f then
    some (.stop ((a.Kids.length:Int) == 0))
   else
    bif (a.Kind == 3) then
     (
      bif ((a.Kids.length:Int) == 0) then
       some (a.Set != (aV.zero 4))
      else
       some false).bind fun (e:Bool)=>
     some (.stop e)
    else
     (
      bif (a.Kind == 4) then
       some (a.Kind == 4)
      else
       some (a.Kind == 5)).bind fun (d:Bool)=>
     bif d then
      bif (decide ((a.Kids.length:Int)<2)) then
       some (.stop false)
      else
       some (.next ())
     else
      bif (a.Kind == 6) then
       bif ((a.Kids.length:Int) != 1) then
        some (.stop false)
       else
        some (.next ())
      else
       some (.stop false)) fun _=>
  bp (
   ba (fun (b:Int)=>
    bif (decide (b<(a.Kids.length:Int))) then
     (bC a.Kids b).bind fun k=>
     (bZ .i64 (c+1)).bind fun i=>
     (M.e6 fl k i).bind fun j=>
     bif (!j) then
      some (.stop (.stop false))
     else
      (bZ .i64 (b+1)).bind fun h=>
      some (.next h)
    else
     some (.stop (.next ()))) aZ (0:Int)) fun _=>
  some true
def M.h0 (rv1:T_Regex):Option Bool:= (M.e6 aZ rv1 0).bind fun rv2=> some rv2
def M.h1 (b:Str):Option (T_Regex×Int×Int):= (M.c3 aZ (aG.mk b 0 false)).bind fun a=> (bif a.2.bad then some true else some (decide (a.2.atv<(b.length:Int)))).bind fun (c:Bool)=> bif c then some ((T_Regex.mk 0 (aV.zero 4) []),a.2.atv,3) else (M.h0 a.1).bind fun d=> bif (!d) then some ((T_Regex.mk 0 (aV.zero 4) []),0,11) else some (a.1,0,0)
def M.g6 (d1:bz):Option T_Regex:= (M.h1 d1.Pattern).bind fun rv1=> some rv1.1
def M.h2:Nat→T_Regex→Option Int
| 0,_=>none
| fl+1,b=>
 (
  ba (fun (f:Int×Int)=>match f with
  | (c,a)=>
   bif (decide (a<(b.Kids.length:Int))) then
    (bC b.Kids a).bind fun i=>
    (M.h2 fl i).bind fun g=>
    (bZ .i64 (a+1)).bind fun e=>
    some (.next ((zF c g),e))
   else
    some (.stop c)) aZ ((0:Int),(0:Int))).bind fun (h:Int)=>
 (bZ .i64 (h+1)).bind fun d=>
 some d
def M.e4:Nat→T_Regex→Option Int
| 0,_=>none
| fl+1,b=>
 (
  ba (fun (f:Int×Int)=>match f with
  | (c,a)=>
   bif (decide (a<(b.Kids.length:Int))) then
    (bC b.Kids a).bind fun i=>
    (M.e4 fl i).bind fun g=>
    (bZ .i64 (c+g)).bind fun e=>
    (bZ .i64 (a+1)).bind fun d=>
    some (.next (e,d))
   else
    some (.stop c)) aZ ((1:Int),(0:Int))).bind fun (h:Int)=>
 some h
def M.j9 (c:(List T_Regex)):Option Int:= bp (ba (fun (h:Int×Int)=>match h with | (b,a)=> bif (decide (a<(c.length:Int))) then (bC c a).bind fun d=> (M.h0 d).bind fun j=> bif (!j) then some (.stop (.stop 1)) else (M.e4 aZ d).bind fun i=> (bZ .i64 (b+i)).bind fun g=> (bZ .i64 (a+1)).bind fun f=> some (.next (g,f)) else some (.stop (.next b))) aZ ((0:Int),(0:Int))) fun (e:Int)=> bif (decide (500<e)) then some 11 else some 0
def M.c7 (h:bT) (f:(List Int)) (g:(List Int)):Option bT:= ba (fun (a:(List (aV 2))×Int)=>match a with | (d,c)=> bif (decide (c<(f.length:Int))) then (ba (fun (a:(List (aV 2))×Int)=>match a with | (e,b)=> bif (decide (b<(g.length:Int))) then (bC f c).bind fun m=> (bC g b).bind fun l=> (cD 16 e [(⟨[m,l],rfl⟩:aV 2)]).bind fun i=> (bZ .i64 (b+1)).bind fun t20=> some (.next (i,t20)) else some (.stop e)) aZ (d,(0:Int))).bind fun (j:(List (aV 2)))=> (bZ .i64 (c+1)).bind fun k=> some (.next (j,k)) else some (.stop (bT.mk h.sets d))) aZ (h.pairs,(0:Int))
def M.d9 (k:bT) (b:cF) (a:cF):Option (cF×bT):= (M.c7 k b.last a.first).bind fun g=> (bif b.nullable then some a.nullable else some false).bind fun (j:Bool)=> (bif b.nullable then (cD 8 [] b.first).bind fun f=> (cD 8 f a.first).bind fun e=> some e else some b.first).bind fun (i:(List Int))=> (bif a.nullable then (cD 8 [] b.last).bind fun d=> (cD 8 d a.last).bind fun c=> some c else some a.last).bind fun (h:(List Int))=> some ((cF.mk j i h),g)
def M.a8:Nat→bT→T_Regex→Option (cF×bT)
| 0,_,_=>none
| fl+1,b,a=>
 (
  bif (a.Kind == 2) then
   some (true,([]:(List Int)),([]:(List Int)),b.sets,b.pairs)
  else
   bif (a.Kind == 3) then
    (cD 32 b.sets [a.Set]).bind fun f=>
    some (false,([(f.length:Int)]:(List Int)),([(f.length:Int)]:(List Int)),f,b.pairs)
   else
    bif (a.Kind == 4) then
     ba (fun (i:(List (aV 4))×(List (aV 2))×Bool×(List Int)×(List Int)×Int)=>match i with
     | (q,p,o,u,t,h)=>
      bif (decide (h<(a.Kids.length:Int))) then
       (bC a.Kids h).bind fun K=>
       (M.a8 fl (bT.mk q p) K).bind fun s=>
       (M.d9 s.2 (cF.mk o u t) s.1).bind fun e=>
       (bZ .i64 (h+1)).bind fun t9=>
       some (.next (e.2.sets,e.2.pairs,e.1.nullable,e.1.first,e.1.last,t9))
      else
       some (.stop (o,u,t,q,p))) aZ (b.sets,b.pairs,true,([]:(List Int)),([]:(List Int)),(0:Int))
    else
     bif (a.Kind == 5) then
      ba (fun (i:(List (aV 4))×(List (aV 2))×Bool×(List Int)×(List Int)×Int)=>match i with
      | (n,m,l,k,j,g)=>
       bif (decide (g<(a.Kids.length:Int))) then
        (bC a.Kids g).bind fun J=>
        (M.a8 fl (bT.mk n m) J).bind fun d=>
        (
         bif l then
          some true
         else
          some d.1.nullable).bind fun (z:Bool)=>
        (cD 8 [] k).bind fun y=>
        (cD 8 y d.1.first).bind fun x=>
        (cD 8 [] j).bind fun w=>
        (cD 8 w d.1.last).bind fun v=>
        (bZ .i64 (g+1)).bind fun F=>
        some (.next (d.2.sets,d.2.pairs,z,x,v,F))
       else
        some (.stop (l,k,j,n,m))) aZ (b.sets,b.pairs,false,([]:(List Int)),([]:(List Int)),(0:Int))
     else
      bif (a.Kind == 6) then
       (bC a.Kids 0).bind fun I=>
       (M.a8 fl b I).bind fun c=>
       (M.c7 c.2 c.1.last c.1.first).bind fun r=>
       some (true,c.1.first,c.1.last,r.sets,r.pairs)
      else
       some (false,([]:(List Int)),([]:(List Int)),b.sets,b.pairs)).bind fun (D,H,G,B,A)=>
 some ((cF.mk D H G),(bT.mk B A))
def M.c8 (l:(List T_Regex)):Option (T_NFA×Int):= (M.j9 l).bind fun s=> bif (s != 0) then some ((T_NFA.mk 0 0 [] []),s) else (ba (fun (b:(List (aV 4))×(List (aV 2))×(List Int)×Int)=>match b with | (p,o,n,d)=> bif (decide (d<(l.length:Int))) then ((bC l d).bind fun a2=> (M.a8 aZ (bT.mk p o) a2).bind fun f=> (M.c7 f.2 [0] f.1.first).bind fun e=> (ba (fun (k:(List Int))=> bif (decide ((k.length:Int)≤(e.sets.length:Int))) then (cD 8 k [(-1)]).bind fun B=> some (.next B) else some (.stop k)) aZ n).bind fun (H:(List Int))=> (ba (fun (b:(List Int)×Int)=>match b with | (m,i)=> bif (decide (i<(f.1.last.length:Int))) then (bC f.1.last i).bind fun a1=> (dk m a1 d).bind fun A=> (bZ .i64 (i+1)).bind fun S=> some (.next (A,S)) else some (.stop m)) aZ (H,(0:Int))).bind fun (j:(List Int))=> (bif f.1.nullable then (bC j 0).bind fun a0=> some (decide (a0<0)) else some false).bind fun (G:Bool)=> bif G then (dk j 0 d).bind fun z=> some (e.sets,e.pairs,z) else some (e.sets,e.pairs,j)).bind fun (J,I,D)=> (bZ .i64 (d+1)).bind fun R=> some (.next (J,I,D,R)) else some (.stop (p,o,n))) aZ (([]:(List (aV 4))),([]:(List (aV 2))),([(-1)]:(List Int)),(0:Int))).bind fun (K,q,a)=> (bZ .i64 ((a.length:Int)*(a.length:Int))).bind fun Q=> (oO 1 Q (false:Bool)).bind fun W=> (ba (fun (b:(List Bool)×Int)=>match b with | (t,h)=> bif (decide (h<(q.length:Int))) then (bC q h).bind fun v=> (gV v 0).bind fun a4=> (bZ .i64 (a4*(a.length:Int))).bind fun P=> (gV v 1).bind fun a3=> (bZ .i64 (P+a3)).bind fun N=> (dk t N true).bind fun y=> (bZ .i64 (h+1)).bind fun L=> some (.next (y,L)) else some (.stop t)) aZ (W,(0:Int))).bind fun (u:(List Bool))=> (ba (fun (b:(List cd)×Int)=>match b with | (g,c)=> bif (decide (c<(u.length:Int))) then ((bC u c).bind fun Y=> bif Y then (pn .i64 c (a.length:Int)).bind fun V=> (lO c (a.length:Int)).bind fun r=> (bZ .i64 (r - 1)).bind fun U=> (bC K U).bind fun X=> (cD 56 g [(cd.mk V r false X)]).bind fun w=> some w else some g).bind fun (x:(List cd))=> (bZ .i64 (c+1)).bind fun T=> some (.next (x,T)) else some (.stop g)) aZ (([]:(List cd)),(0:Int))).bind fun (F:(List cd))=> some ((T_NFA.mk (a.length:Int) 0 F a),0)
def M.i6 (a:T_NFA):Option Bool:= (bif (decide (a.States<1)) then some true else bif (decide (2000<a.States)) then some true else bif (decide (a.Start<0)) then some true else bif (decide (a.States≤a.Start)) then some true else some ((a.Accept.length:Int) != a.States)).bind fun (f:Bool)=> bif f then some false else bp (ba (fun (c:Int)=> bif (decide (c<(a.Accept.length:Int))) then (bC a.Accept c).bind fun i=> bif (decide (i<(-1))) then some (.stop (.stop false)) else (bZ .i64 (c+1)).bind fun g=> some (.next g) else some (.stop (.next ()))) aZ (0:Int)) fun _=> bp (ba (fun (d:Int)=> bif (decide (d<(a.Arcs.length:Int))) then (bC a.Arcs d).bind fun b=> (bif (decide (b.From<0)) then some true else bif (decide (a.States≤b.From)) then some true else bif (decide (b.To<0)) then some true else bif (decide (a.States≤b.To)) then some true else bif b.Epsilon then some (b.Set != (aV.zero 4)) else some false).bind fun (e:Bool)=> bif e then some (.stop (.stop false)) else (bZ .i64 (d+1)).bind fun h=> some (.next h) else some (.stop (.next ()))) aZ (0:Int)) fun _=> some true
def M.h7 (s1:(aV 4)) (b1:Int):Option Bool:= (pn .u8 b1 64).bind fun t1=> (gV s1 t1).bind fun c1=> (lO b1 64).bind fun t2=> (rJ .u64 c1 t2).bind fun t3=> some ((bits .and .u64 t3 1) == 1)
def M.e7 (b:(List (aV 4))) (h:Int) (g:Int):Option Bool:= bp (ba (fun (a:Int)=> bif (decide (a<(b.length:Int))) then (bC b a).bind fun c=> (M.h7 c h).bind fun f=> (M.h7 c g).bind fun e=> bif (!(f == e)) then some (.stop (.stop false)) else (bZ .i64 (a+1)).bind fun d=> some (.next d) else some (.stop (.next ()))) aZ (0:Int)) fun _=> some true
def M.h9 (q:(List (aV 4))):Option (List Int):= (oO 8 256 (0:Int)).bind fun o=> (ba (fun (j:(List Int)×Int×Int)=>match j with | (f,b,a)=> bif (decide (a<256)) then ((dk f a b).bind fun e=> (ba (fun (c:Int)=> bif (decide (c<a)) then (M.e7 q (IntKind.u8.wrap c) (IntKind.u8.wrap a)).bind fun k=> bif k then (bC e c).bind fun s=> (dk e a s).bind fun m=> some (.stop m) else (bZ .i64 (c+1)).bind fun i=> some (.next i) else some (.stop e)) aZ (0:Int)).bind fun (d:(List Int))=> (bC d a).bind fun r=> bif (r == b) then (bZ .i64 (b+1)).bind fun h=> some (d,h) else some (d,b)).bind fun (n,p)=> (bZ .i64 (a+1)).bind fun g=> some (.next (n,p,g)) else some (.stop f)) aZ (o,(0:Int),(0:Int))).bind fun (l:(List Int))=> some l
def M.l7 (i:(List Int)):Option (List Int):= (ba (fun (e:(List Int)×Int)=>match e with | (a,b)=> bif (decide (b<256)) then ((bC i b).bind fun h=> bif (h == (a.length:Int)) then (cD 1 a [(IntKind.u8.wrap b)]).bind fun f=> some f else some a).bind fun (g:(List Int))=> (bZ .i64 (b+1)).bind fun d=> some (.next (g,d)) else some (.stop a)) aZ (([]:(List Int)),(0:Int))).bind fun (c:(List Int))=> some c
def M.l1 (c:(List Bool)):Option (List Int):= (ba (fun (f:(List Int)×Int)=>match f with | (b,a)=> bif (decide (a<(c.length:Int))) then ((bC c a).bind fun i=> bif i then (cD 8 b [a]).bind fun g=> some g else some b).bind fun (h:(List Int))=> (bZ .i64 (a+1)).bind fun e=> some (.next (h,e)) else some (.stop b)) aZ (([]:(List Int)),(0:Int))).bind fun (d:(List Int))=> some d
def M.e5 (d:T_NFA) (g:(List Int)):Option (List Int):= (oO 1 d.States (false:Bool)).bind fun x=> (ba (fun (a:(List Bool)×Int)=>match a with | (h,c)=> bif (decide (c<(g.length:Int))) then (((bC g c).bind fun k=> bif (decide (0≤k)) then some (decide (k<d.States)) else some false).bind fun (q:Bool)=> bif q then (bC g c).bind fun y=> (dk h y true).bind fun n=> some n else some h).bind fun (o:(List Bool))=> (bZ .i64 (c+1)).bind fun t=> some (.next (o,t)) else some (.stop h)) aZ (x,(0:Int))).bind fun (v:(List Bool))=> (ba (fun (a:(List Bool)×Bool)=>match a with | (j,p)=> bif p then ba (fun (a:(List Bool)×Bool×Int)=>match a with | (b,i,f)=> bif (decide (f<(d.Arcs.length:Int))) then ((bC d.Arcs f).bind fun e=> (bif e.Epsilon then (bC b e.From).bind fun A=> bif A then (bC b e.To).bind fun z=> some (!z) else some false else some false).bind fun (r:Bool)=> bif r then (dk b e.To true).bind fun l=> some (l,true) else some (b,i)).bind fun (m,s)=> (bZ .i64 (f+1)).bind fun t24=> some (.next (m,s,t24)) else some (.stop (.next (b,i)))) aZ (j,false,(0:Int)) else some (.stop j)) aZ (v,true)).bind fun (w:(List Bool))=> (M.l1 w).bind fun u=> some u
def M.l2 (a:T_NFA) (s:(List Int)) (r:Int):Option (List Int):= (oO 1 a.States (false:Bool)).bind fun u=> (M.e5 a s).bind fun g=> (ba (fun (f:(List Bool)×Int)=>match f with | (h,c)=> bif (decide (c<(g.length:Int))) then (bC g c).bind fun v=> (dk h v true).bind fun i=> (bZ .i64 (c+1)).bind fun m=> some (.next (i,m)) else some (.stop h)) aZ (u,(0:Int))).bind fun (t:(List Bool))=> (ba (fun (f:(List Int)×Int)=>match f with | (e,d)=> bif (decide (d<(a.Arcs.length:Int))) then ((bC a.Arcs d).bind fun b=> (bif (!b.Epsilon) then (bC t b.From).bind fun w=> bif w then (M.h7 b.Set r).bind fun p=> some p else some false else some false).bind fun (q:Bool)=> bif q then (cD 8 e [b.To]).bind fun j=> some j else some e).bind fun (k:(List Int))=> (bZ .i64 (d+1)).bind fun n=> some (.next (k,n)) else some (.stop e)) aZ (([]:(List Int)),(0:Int))).bind fun (l:(List Int))=> (M.e5 a l).bind fun o=> some o
def M.l3 (b:(List Int)) (c:(List Int)):Option Bool:= bif ((b.length:Int) != (c.length:Int)) then some false else bp (ba (fun (a:Int)=> bif (decide (a<(b.length:Int))) then (bC b a).bind fun f=> (bC c a).bind fun e=> bif (f != e) then some (.stop (.stop false)) else (bZ .i64 (a+1)).bind fun d=> some (.next d) else some (.stop (.next ()))) aZ (0:Int)) fun _=> some true
def M.l0 (l1:(List (List Int))) (setv1:(List Int)):Option Int:= bp (ba (fun (i5:Int)=> bif (decide (i5<(l1.length:Int))) then (bC l1 i5).bind fun e6=> (M.l3 e6 setv1).bind fun rv6=> bif rv6 then some (.stop (.stop i5)) else (bZ .i64 (i5+1)).bind fun t6=> some (.next t6) else some (.stop (.next ()))) aZ (0:Int)) fun _=> some (-1)
def M.j8 (h:T_NFA) (d:(List Int)):Option Int:= (ba (fun (g:Int×Int)=>match g with | (a,b)=> bif (decide (b<(d.length:Int))) then ((bC d b).bind fun i=> (bC h.Accept i).bind fun c=> (bif (decide (0≤c)) then bif (decide (a<0)) then some true else some (decide (c<a)) else some false).bind fun (e:Bool)=> bif e then some c else some a).bind fun (k:Int)=> (bZ .i64 (b+1)).bind fun f=> some (.next (k,f)) else some (.stop a)) aZ (((-1):Int),(0:Int))).bind fun (j:Int)=> some j
def M.f1 (a:T_NFA):Option (T_DFA×Int):= (M.i6 a).bind fun T=> bif (!T) then some ((T_DFA.mk [] [] []),1) else (ba (fun (c:(List (aV 4))×Int)=>match c with | (i,h)=> bif (decide (h<(a.Arcs.length:Int))) then ((bC a.Arcs h).bind fun q=> bif (!q.Epsilon) then (cD 32 i [q.Set]).bind fun A=> some A else some i).bind fun (B:(List (aV 4)))=> (bZ .i64 (h+1)).bind fun P=> some (.next (B,P)) else some (.stop i)) aZ (([]:(List (aV 4))),(0:Int))).bind fun (D:(List (aV 4)))=> (M.h9 D).bind fun p=> (M.l7 p).bind fun o=> (M.e5 a [a.Start]).bind fun S=> bp (ba (fun (c:(List (List Int))×(List (List Int))×(List Int)×Int)=>match c with | (m,l,k,d)=> bif (decide (d<(m.length:Int))) then bp ((ba (fun (c:(List (List Int))×(List Int)×Int)=>match c with | (b,f,e)=> bif (decide (e<(o.length:Int))) then ((bC b d).bind fun W=> (bC o e).bind fun V=> (M.l2 a W V).bind fun R=> (M.e5 a R).bind fun j=> bif ((j.length:Int) == 0) then (cD 8 f [(-1)]).bind fun w=> some (b,w) else (M.l0 b j).bind fun n=> (bif (decide (n<0)) then (cD 24 b [j]).bind fun u=> some (u,(b.length:Int)) else some (b,n)).bind fun (v,F)=> (cD 8 f [F]).bind fun t=> some (v,t)).bind fun (G,x)=> (bZ .i64 (e+1)).bind fun N=> some (.next (G,x,N)) else some (.stop (b,f))) aZ (m,([]:(List Int)),(0:Int))).bind fun (g,H)=> bif (decide (500<(g.length:Int))) then some (.stop (.stop (.stop ((T_DFA.mk [] [] []),11)))) else (bC g d).bind fun U=> (cD 24 l [H]).bind fun s=> (M.j8 a U).bind fun Q=> (cD 8 k [Q]).bind fun r=> some (.next (g,s,r))) fun (I,z,y)=> (bZ .i64 (d+1)).bind fun L=> some (.next (I,z,y,L)) else some (.stop (.next (l,k)))) aZ (([S]:(List (List Int))),([]:(List (List Int))),([]:(List Int)),(0:Int))) fun (K,J)=> some ((T_DFA.mk p K J),0)
def M.j7 (c:T_LexSpec):Option Bool:= bp (ba (fun (j:(List T_Regex)×Int)=>match j with | (b,a)=> bif (decide (a<(c.Defs.length:Int))) then (bC c.Defs a).bind fun l=> (M.h1 l.Pattern).bind fun f=> bif (f.2.2 != 0) then some (.stop (.stop false)) else (cD 64 b [f.1]).bind fun k=> (bZ .i64 (a+1)).bind fun i=> some (.next (k,i)) else some (.stop (.next b))) aZ (([]:(List T_Regex)),(0:Int))) fun (h:(List T_Regex))=> (M.c8 h).bind fun e=> bif (e.2 != 0) then some true else (M.f1 e.1).bind fun d=> (bif (d.2 != 0) then some true else some (decide (100<(d.1.Next.length:Int)))).bind fun (g:Bool)=> some g
def M.k3 (a:T_LexSpec):Option Bool:= (M.m1 a 6 30).bind fun g=> bif (!g) then some false else bp (ba (fun (b:Int)=> bif (decide (b<(a.Defs.length:Int))) then (bC a.Defs b).bind fun h=> (M.g6 h).bind fun f=> (M.h2 aZ f).bind fun e=> bif (decide (8<e)) then some (.stop (.stop false)) else (bZ .i64 (b+1)).bind fun c=> some (.next c) else some (.stop (.next ()))) aZ (0:Int)) fun _=> (M.j7 a).bind fun d=> some (!d)
def M.m4 (s1:(aV 4)) (b1:Int):Option Bool:= (pn .i64 b1 64).bind fun t1=> (gV s1 t1).bind fun c1=> (lO b1 64).bind fun t2=> (rJ .u64 c1 (IntKind.u64.wrap t2)).bind fun t3=> some ((bits .and .u64 t3 1) == 1)
def M.f5:Nat→T_Regex→Str→(List Bool)→Option (List Bool)
| 0,_,_,_=>none
| fl+1,b,e,h=>
 (bZ .i64 ((e.length:Int)+1)).bind fun L=>
 (oO 1 L (false:Bool)).bind fun f=>
 (
  bif (b.Kind == 2) then
   some (ie f h)
  else
   bif (b.Kind == 3) then
    ba (fun (a:(List Bool)×Int)=>match a with
    | (p,i)=>
     bif (decide (i<(e.length:Int))) then
      (bZ .i64 (i+1)).bind fun j=>
      (bC h i).bind fun a1=>
      bif a1 then
       (jt e i).bind fun c6=>
       (M.m4 b.Set (IntKind.i64.wrap c6)).bind fun P=>
       (dk p j P).bind fun w=>
       some (.next (w,j))
      else
       (dk p j false).bind fun v=>
       some (.next (v,j))
     else
      some (.stop p)) aZ (f,(0:Int))
   else
    bif (b.Kind == 4) then
     ba (fun (a:(List Bool)×Int)=>match a with
     | (q,m)=>
      bif (decide (m<(b.Kids.length:Int))) then
       (bC b.Kids m).bind fun a0=>
       (M.f5 fl a0 e q).bind fun N=>
       (bZ .i64 (m+1)).bind fun F=>
       some (.next (N,F))
      else
       some (.stop q)) aZ ((ie f h),(0:Int))
    else
     bif (b.Kind == 5) then
      ba (fun (a:(List Bool)×Int)=>match a with
      | (u,l)=>
       bif (decide (l<(b.Kids.length:Int))) then
        (
         (bC b.Kids l).bind fun Y=>
         (M.f5 fl Y e h).bind fun t=>
         ba (fun (a:(List Bool)×Int)=>match a with
         | (k,d)=>
          bif (decide (d<(t.length:Int))) then
           (bC k d).bind fun X=>
           bif X then
            (dk k d true).bind fun A=>
            (bZ .i64 (d+1)).bind fun K=>
            some (.next (A,K))
           else
            (bC t d).bind fun W=>
            (dk k d W).bind fun z=>
            (bZ .i64 (d+1)).bind fun J=>
            some (.next (z,J))
          else
           some (.stop k)) aZ (u,(0:Int))).bind fun (Q:(List Bool))=>
        (bZ .i64 (l+1)).bind fun I=>
        some (.next (Q,I))
       else
        some (.stop u)) aZ (f,(0:Int))
     else
      bif (b.Kind == 6) then
       ba (fun (a:(List Bool)×Bool)=>match a with
       | (n,D)=>
        bif D then
         (bC b.Kids 0).bind fun V=>
         (M.f5 fl V e n).bind fun o=>
         ba (fun (a:(List Bool)×Bool×Int)=>match a with
         | (g,s,c)=>
          bif (decide (c<(o.length:Int))) then
           (
            bif s then
             some true
            else
             (bC o c).bind fun U=>
             bif U then
              (bC g c).bind fun T=>
              some (!T)
             else
              some false).bind fun (r:Bool)=>
           (bC g c).bind fun S=>
           bif S then
            (dk g c true).bind fun y=>
            (bZ .i64 (c+1)).bind fun H=>
            some (.next (y,r,H))
           else
            (bC o c).bind fun R=>
            (dk g c R).bind fun x=>
            (bZ .i64 (c+1)).bind fun G=>
            some (.next (x,r,G))
          else
           some (.stop (.next (g,s)))) aZ (n,false,(0:Int))
        else
         some (.stop n)) aZ ((ie f h),true)
      else
       some f).bind fun (B:(List Bool))=>
 some B
def M.k1 (rv1:T_Regex) (s1:Str):Option Bool:= (bZ .i64 ((s1.length:Int)+1)).bind fun t1=> (oO 1 t1 (false:Bool)).bind fun fromv1=> (dk fromv1 0 true).bind fun fromv2=> (M.f5 aZ rv1 s1 fromv2).bind fun l1=> (bC l1 (s1.length:Int)).bind fun e1=> some e1
def M.e9 (a:T_LexSpec) (b:Str):Option Bool:= ((M.k3 a).bind fun n=> bif (!n) then some true else some (decide (16<(b.length:Int)))).bind fun (f:Bool)=> bif f then (M.h6).bind fun k=> some k else (M.c5 a).bind fun i=> bif (i.2 != 0) then (M.h6).bind fun h=> some h else bp (ba (fun (c:Int)=> bif (decide (c<(a.Defs.length:Int))) then (bC a.Defs c).bind fun d=> (bif (d.Kind == 3) then (M.g6 d).bind fun m=> (M.k1 m b).bind fun l=> some (!(l == (b == d.Sample))) else some false).bind fun (e:Bool)=> bif e then some (.stop (.stop false)) else (bZ .i64 (c+1)).bind fun g=> some (.next g) else some (.stop (.next ()))) aZ (0:Int)) fun _=> (M.h6).bind fun j=> some j
end Go.Proofs.YtggpjcdhflcfmaaGreatDoor
namespace Go.Lx
open Go.RowKit
abbrev I6 (n:Int):Value:=Value.int .i64 n
abbrev U8 (n:Int):Value:=Value.int .u8 n
abbrev U6 (n:Int):Value:=Value.int .u64 n
abbrev bK:List Value:=(aV.zero 4).1.map U6
abbrev bw (v:aV 4):List Value:=v.1.map U6
abbrev Bo (b:Bool):Value:=Value.bool b
abbrev Z0:Value:=Value.slice none 0 0
abbrev P0 (b:Nat):Value:=Value.pointer (some ⟨b,0,none⟩)
abbrev Ag (l:List Value):Value:=Value.agg l.toArray
abbrev bx (b:Nat) (T:TypeId) (cs:List Value):Res:=.obj b (.cells cs.toArray T (0,0))
abbrev Sp (g0:Hp) (w0:World) (g:Hp) (w:World) (L:List Res):Prop:=Sep g0 w0 g w L
theorem si {α:Type} {a b:α} (h:some a=some b):a=b:=Option.some.inj h
theorem Do {t0 t1:Type} {a a':t0} {b b':t1} (h:(a,b)=(a',b')):a=a'∧b=b':=by simpa only [Prod.mk.injEq] using h
theorem nT {t0 t1:Type} {a a':t0} {b b':t1} (h:some (a,b)=some (a',b')):a=a'∧b=b':=Do (Option.some.inj h)
theorem FN {t0 t1 t2:Type} {a a':t0} {b b':t1} {c c':t2} (h:(a,b,c)=(a',b',c')):a=a'∧b=b'∧c=c':=by simpa only [Prod.mk.injEq] using h
theorem AM {t0 t1 t2:Type} {a a':t0} {b b':t1} {c c':t2} (h:some (a,b,c)=some (a',b',c')):a=a'∧b=b'∧c=c':=FN (Option.some.inj h)
theorem FM {t0 t1 t2 t3:Type} {a a':t0} {b b':t1} {c c':t2} {d d':t3} (h:(a,b,c,d)=(a',b',c',d')):a=a'∧b=b'∧c=c'∧d=d':=by simpa only [Prod.mk.injEq] using h
theorem FP {t0 t1 t2 t3:Type} {a a':t0} {b b':t1} {c c':t2} {d d':t3} (h:some (a,b,c,d)=some (a',b',c',d')):a=a'∧b=b'∧c=c'∧d=d':=FM (Option.some.inj h)
theorem Ew {t0 t1 t2 t3 t4:Type} {a a':t0} {b b':t1} {c c':t2} {d d':t3} {e e':t4} (h:(a,b,c,d,e)=(a',b',c',d',e')):a=a'∧b=b'∧c=c'∧d=d'∧e=e':=by simpa only [Prod.mk.injEq] using h
theorem FO {t0 t1 t2 t3 t4:Type} {a a':t0} {b b':t1} {c c':t2} {d d':t3} {e e':t4} (h:some (a,b,c,d,e)=some (a',b',c',d',e')):a=a'∧b=b'∧c=c'∧d=d'∧e=e':=Ew (Option.some.inj h)
theorem bW {σ ρ:Type} {s:σ} {k:σ→Option ρ} {r:ρ} (h:zp (.next s) k=some r):k s=some r:=h
theorem bP:([]:List Deferred)=[]:=rfl
def EB:List Nat→Bool
 | []=>true
 | i::l=>!(l.elem i) && EB l
theorem sw:∀ {l:List Nat},EB l=true→l.Nodup
 | [],_=>List.nodup_nil
 | i::l,h=>by
  simp only [EB,Bool.and_eq_true,Bool.not_eq_true'] at h;refine List.nodup_cons.2 ⟨fun hm=>?_,sw h.2⟩;have:=List.elem_eq_true_of_mem hm;rw [h.1] at this; cases this
def Bk (A:List Res):List Nat→Option (List Res)
 | []=>some []
 | i::l=>match A[i]?,Bk A l with
  | some r,some m=>some (r::m)
  | _,_=>none
theorem ur {A:List Res}:∀ {is:List Nat} {L:List Res},Bk A is=some L→L.map some=is.map (A[·]?)
 | [],L,h=>by cases h; rfl
 | i::is,L,h=>by
  unfold Bk at h;split at h
  ·rename_i r m h1 h2;cases h
   rw [List.map_cons,List.map_cons,h1,ur h2]
  ·cases h
def Eg (n:Nat) (is:List Nat) (L:List Res):Option (List Res):=bif EB is then (match Bk (L.take n) is with|some A=>some (A++L.drop n)|none=>none) else none
theorem Sep.sU {g0 g:Hp} {w0 w:World} {L L':List Res} (h:Sep g0 w0 g w L) (n:Nat) (a:List Nat) (hl:Eg n a L=some L'):Sep g0 w0 g w L':=by
 unfold Eg at hl;cases hn:EB a with
 | false=>rw [hn] at hl; cases hl
 | true=>
  rw [hn,cond_true] at hl;split at hl
  ·rename_i A c;cases hl
   have b:Sep g0 w0 g w (L.take n++L.drop n):=by rw [List.take_append_drop]; exact h
   exact b.selT a (sw hn) (ur c)
  ·cases hl
section
variable {P:Program} {n:Fr} {Q:EPost} {E:Env} {w:World} {ops:Array Oper} {rest:List Oper} {op:Op} {ty:TypeId} {ps:String} {af:Array Edge} {g0 g:Hp} {w0:World} {L:List Res}
theorem SR {id:Nat} {l:List Oper} {y:Code} (h:OW P n l.toArray (sV (WP P n y Q) Q) l E w):WP P n (.seq (.region id l.toArray false) y) Q E w:=aw (ag h)
theorem NR {id:Nat} {l:List Oper} {y:Code} {Q':EPost} (h:OW P n l.toArray (sV (WP P n y Q) Q) l E w):OW P n ops (sV (WP P n (.seq (.region id l.toArray false) y) Q) Q') [] E w:=aa (SR h)
theorem Om {d:Tmp} {x:Operand} (v:Value) (h:(ev E x,Nat.blt d n.sz)=(v,true)) (k:OW P n ops Q rest (cz E d v) w):OW P n ops Q (⟨some d,.move x,ty,ps,af,none⟩::rest) E w:=O (dJ (congrArg Prod.fst h)) (congrArg Prod.snd h) k
theorem Oa {d:Tmp} {x:Operand} (v:Value) (h:(ev E x,Nat.blt d n.sz)=(v,true)) (k:OW P n ops Q rest (cz E d v) w):OW P n ops Q (⟨some d,.assign x,ty,ps,af,none⟩::rest) E w:=O (qF (congrArg Prod.fst h)) (congrArg Prod.snd h) k
theorem Of {d:Tmp} {T e:TypeId} {x:Operand} {f b o c:Nat} {g:Array Field} {a:Field} {m:Bool} {size bytes:Nat} {z:Value} (j:P.underlying T=some (.struct g)) (i:en P e m size bytes z) (h:(g[f]?,a.type,Nat.blt 0 size,ev E x,c,Nat.blt d n.sz)=(some a,e,true,Value.pointer (some ⟨b,o,none⟩),o+a.offset,true))
 (k:OW P n ops Q rest (cz E d (.pointer (some ⟨b,c,none⟩))) w):OW P n ops Q (⟨some d,.fieldAddr T x f,ty,ps,af,none⟩::rest) E w:=by
 obtain ⟨hf,he,l,hx,ho,hd⟩:g[f]?=some a∧a.type=e∧Nat.blt 0 size=true∧ev E x=.pointer (some ⟨b,o,none⟩)∧c=o+a.offset∧Nat.blt d n.sz=true:=by simpa only [Prod.mk.injEq] using h
 exact O (ap j i hf he l hx ho) hd k
theorem Ol {d:Tmp} {T:TypeId} {size bytes:Nat} {z:Value} {x:Operand} (v:Value) (c:en P T false size bytes z) (hs:Sep g0 w0 g w L) (i o:Nat) {b:Nat} {T':TypeId} {cs:List Value} (hx:ev E x=.pointer (some ⟨b,o,none⟩)) (e:L[i]?=some (tH b T' cs)) (a:cs[o]?=some v)
 (hd:Nat.blt d n.sz=true) (k:OW P n ops Q rest (cz E d v) w):OW P n ops Q (⟨some d,.load T x,ty,ps,af,none⟩::rest) E w:=O (aW c hx (hs.cell e a)) hd k
theorem On {d:Tmp} {T:TypeId} {size bytes:Nat} {z:Value} {x:Operand} {b:Nat} {T':TypeId} (cs:List Value) (a:en P T true size bytes z) (hl:cs.length=size) (hs:Sep g0 w0 g w L) (i:Nat) (hx:ev E x=.pointer (some ⟨b,0,none⟩)) (c:L[i]?=some (tH b T' cs))
 (hd:Nat.blt d n.sz=true) (k:OW P n ops Q rest (cz E d (.agg cs.toArray)) w):OW P n ops Q (⟨some d,.load T x,ty,ps,af,none⟩::rest) E w:=O (cp a hx hl (hs.cells c)) hd k
theorem Oe {d:Tmp} {T:TypeId} {size bytes:Nat} {z:Value} {x:Operand} {b o:Nat} (cs:List Value) (a:en P T true size bytes z) (hl:cs.length=size) (c:∀j u,cs[j]?=some u→w.cell? ⟨b,o+j,none⟩=some u) (hx:ev E x=.pointer (some ⟨b,o,none⟩))
 (hd:Nat.blt d n.sz=true) (k:OW P n ops Q rest (cz E d (.agg cs.toArray)) w):OW P n ops Q (⟨some d,.load T x,ty,ps,af,none⟩::rest) E w:=O (bu a hx hl (.inl rfl) c rfl) hd k
theorem Oc {d:Tmp} {T:TypeId} {bytes:Nat} {z:Value} {x:Operand} {b o:Nat} (v:Value) (ht:en P T false 1 bytes z) (hc:∀j u,[v][j]?=some u→w.cell? ⟨b,o+j,none⟩=some u) (hx:ev E x=.pointer (some ⟨b,o,none⟩))
 (hd:Nat.blt d n.sz=true) (k:OW P n ops Q rest (cz E d v) w):OW P n ops Q (⟨some d,.load T x,ty,ps,af,none⟩::rest) E w:=O (bu (cs:=[v]) ht hx rfl (.inr rfl) hc rfl) hd k
theorem Ox {d:Tmp} {x:Operand} {vs:List Value} {i:Nat} (v:Value) (hx:ev E x=.tuple vs.toArray) (hi:vs[i]?=some v) (hd:Nat.blt d n.sz=true) (k:OW P n ops Q rest (cz E d v) w):OW P n ops Q (⟨some d,.extract x i,ty,ps,af,none⟩::rest) E w:=O (yg hx hi) hd k
theorem Ob {d:Tmp} {T:TypeId} {x:Operand} (zs:List Value) (hs:Sep g0 w0 g w L) (hx:ev E x=.agg zs.toArray) (hd:Nat.blt d n.sz=true)
 (k:∀b w',Sep g0 w0 g w' (tH b T zs::L)→OW P n ops Q rest (cz E d (.pointer (some ⟨b,0,none⟩))) w'):OW P n ops Q (⟨some d,.box T x,ty,ps,af,none⟩::rest) E w:=gT hx hs zs rfl hd k
theorem cB {T T':TypeId} {x y:Operand} {b:Nat} {cs:List Value} {size bytes:Nat} {z:Value} (a:en P T true size bytes z) (hs:Sep g0 w0 g w L) (i:Nat) (vs:List Value) (d:L[i]?=some (tH b T' cs))
 (hx:ev E x=.pointer (some ⟨b,0,none⟩)) (hy:ev E y=.agg vs.toArray) (e:∀v∈vs,v.oneCell'=true) (hl:vs.length=size) (c:cs.length=vs.length)
 (k:∀w',Sep g0 w0 g w' (L.set i (tH b T' vs))→OW P n ops Q rest E w'):OW P n ops Q (⟨none,.store T x y,ty,ps,af,none⟩::rest) E w:=cE a hs d hx hy rfl e hl c k
theorem ez {l:List Value} (h:(l.all fun v=>v.oneCell')=true):∀v∈l,v.oneCell'=true:=fun v hv=>List.all_eq_true.1 h v hv
def mL (ops:Array Oper) (E:Env) (j:Nat):Option Value:=match ops[j]? with
 | some o=>match o.dst with
  | some d=>some (E d)
  | none=>none
 | none=>none
theorem ju {j:Nat} {v:Value} (h:mL ops E j=some v):∃oj d0,ops[j]?=some oj∧oj.dst=some d0∧ev E (.tmp d0)=v:=by
 unfold mL at h;split at h
 ·rename_i o h1;split at h
  ·rename_i d h2;cases h
   exact ⟨o,d,h1,h2,rfl⟩
  ·cases h
 ·cases h
theorem OJ {d:Tmp} {j:Nat} {a b c:Bool} (e:b=c) (h:(mL ops E j,c == a,Nat.blt d n.sz)=(some (.bool b),false,true)) (k:OW P n ops Q rest (cz E d undef) w):OW P n ops Q (⟨some d,op,ty,ps,af,some (j,a)⟩::rest) E w:=by
 obtain ⟨hj,hne,hd⟩:mL ops E j=some (.bool b)∧(c == a)=false∧Nat.blt d n.sz=true:=by simpa only [Prod.mk.injEq] using h
 obtain ⟨l,m,i,g,f⟩:=ju hj;exact OK i g f (by rw [e]; exact hne) hd k
theorem OI {d:Tmp} {v:Value} {w':World} {j:Nat} {a b c:Bool} (f:b=c) (h:(mL ops E j,c == a,Nat.blt d n.sz)=(some (.bool b),true,true)) (e:cy P E ⟨some d,op,ty,ps,af,some (j,a)⟩ w v w') (k:OW P n ops Q rest (cz E d v) w'):OW P n ops Q (⟨some d,op,ty,ps,af,some (j,a)⟩::rest) E w:=by
 obtain ⟨hj,hne,hd⟩:mL ops E j=some (.bool b)∧(c == a)=true∧Nat.blt d n.sz=true:=by simpa only [Prod.mk.injEq] using h
 obtain ⟨m,o,l,i,g⟩:=ju hj;exact OG l i g (by rw [f]; exact hne) e hd k
theorem CI {d:Tmp} {f:FuncId} {xs:Array Operand} {p:Array TypeId} {j:Nat} {a b c:Bool} (h:b=c) (g:mL ops E j=some (.bool b)) (e:(c == a)=true) (args:List Value) {R:Value→World→Prop} (hf:CF P f) (ha:xs.toList.map (ev E)=args) (i:aU P f args.toArray w R) (hd:Nat.blt d n.sz=true)
 (k:∀v w',R v w'→OW P n ops Q rest (cz E d v) w'):OW P n ops Q (⟨some d,.call { callee:=.value (.func f),args:=xs,argTypes:=p },ty,ps,af,some (j,a)⟩::rest) E w:=by
 obtain ⟨q,r,o,m,l⟩:=ju g;exact CG o m l (by rw [h]; exact e) args hf ha i hd k
theorem SI {Q:Env→Prop} {d:Tmp} {v:Value} {j:Nat} {want b c:Bool} (hg:b=c) (hj:mL ops E j=some (.bool b)) (hne:(c == want)=true) (hr:cy P E ⟨some d,op,ty,ps,af,some (j,want)⟩ w v w) (hd:Nat.blt d n.sz=true) (k:SW P n ops w Q rest (cz E d v)):SW P n ops w Q (⟨some d,op,ty,ps,af,some (j,want)⟩::rest) E:=by
 obtain ⟨oj,d0,h1,h2,h3⟩:=ju hj;exact SG h1 h2 h3 (by rw [hg]; exact hne) hr hd k
theorem SJ {Q:Env→Prop} {d:Tmp} {j:Nat} {a b c:Bool} (e:b=c) (h:(mL ops E j,c == a,Nat.blt d n.sz)=(some (.bool b),false,true)) (k:SW P n ops w Q rest (cz E d undef)):SW P n ops w Q (⟨some d,op,ty,ps,af,some (j,a)⟩::rest) E:=by
 obtain ⟨hj,hne,hd⟩:mL ops E j=some (.bool b)∧(c == a)=false∧Nat.blt d n.sz=true:=by simpa only [Prod.mk.injEq] using h
 obtain ⟨l,m,i,g,f⟩:=ju hj;exact SK i g f (by rw [e]; exact hne) hd k
theorem Ok {d:Tmp} {j:Nat} {want b:Bool} (h:(mL ops E j,b == want,Nat.blt d n.sz)=(some (.bool b),false,true)) (k:OW P n ops Q rest (cz E d undef) w):OW P n ops Q (⟨some d,op,ty,ps,af,some (j,want)⟩::rest) E w:=OJ rfl h k
theorem Sk {Q:Env→Prop} {d:Tmp} {j:Nat} {want b:Bool} (h:(mL ops E j,b == want,Nat.blt d n.sz)=(some (.bool b),false,true)) (k:SW P n ops w Q rest (cz E d undef)):SW P n ops w Q (⟨some d,op,ty,ps,af,some (j,want)⟩::rest) E:=SJ rfl h k
theorem Im {d:Tmp} {x:Operand} {j:Nat} {want b c:Bool} (hg:b=c) (v:Value) (h:(ev E x,mL ops E j,c == want,Nat.blt d n.sz)=(v,some (.bool b),true,true)) (k:OW P n ops Q rest (cz E d v) w):OW P n ops Q (⟨some d,.move x,ty,ps,af,some (j,want)⟩::rest) E w:=OI hg (congrArg Prod.snd h) (dJ (congrArg Prod.fst h)) k
theorem Sm {Q:Env→Prop} {d:Tmp} {x:Operand} (v:Value) (h:(ev E x,Nat.blt d n.sz)=(v,true)) (k:SW P n ops w Q rest (cz E d v)):SW P n ops w Q (⟨some d,.move x,ty,ps,af,none⟩::rest) E:=S (dJ (congrArg Prod.fst h)) (congrArg Prod.snd h) k
theorem Sa {Q:Env→Prop} {d:Tmp} {x:Operand} (v:Value) (h:(ev E x,Nat.blt d n.sz)=(v,true)) (k:SW P n ops w Q rest (cz E d v)):SW P n ops w Q (⟨some d,.assign x,ty,ps,af,none⟩::rest) E:=S (qF (congrArg Prod.fst h)) (congrArg Prod.snd h) k
theorem Jm {Q:Env→Prop} {d:Tmp} {x:Operand} {j:Nat} {a b c:Bool} (e:b=c) (v:Value) (h:(ev E x,mL ops E j,c == a,Nat.blt d n.sz)=(v,some (.bool b),true,true)) (k:SW P n ops w Q rest (cz E d v)):SW P n ops w Q (⟨some d,.move x,ty,ps,af,some (j,a)⟩::rest) E:=by
 obtain ⟨hx,hj,hne,hd⟩:ev E x=v∧mL ops E j=some (.bool b)∧(c == a)=true∧Nat.blt d n.sz=true:=by simpa only [Prod.mk.injEq] using h
 exact SI e hj hne (dJ hx) hd k
theorem WA {id:Nat} {l:List Oper} (hs:Sep g0 w0 g w L) (t:OT) (hm:P.follows .mixedOrders=true) (hB:vR l.toArray t=true) [hP:fJ Q] (h:AT P n l.toArray Q (SS g0 w0 g L) t.qs t E w.drew):WP P n (.region id l.toArray true) Q E w:=ru t _ hm hB h
theorem Sep.ss (hs:Sep g0 w0 g w L):SS g0 w0 g L w:=⟨g,bc.refl _,hs⟩
end
def uL:Nat→List Res→List Res
 | _,[]=>[]
 | m,r::l=>bif Nat.beq (Nat.mod m 2) 1 then r::uL (Nat.div m 2) l else uL (Nat.div m 2) l
theorem ox:∀(l:List Res) (m:Nat),List.Sublist (uL m l) l
 | [],_=>.slnil
 | r::l,m=>by
  unfold uL;cases Nat.beq (Nat.mod m 2) 1
  ·exact .cons _ (ox l _)
  ·exact .cons_cons _ (ox l _)
theorem Sep.kp {g0 g:Hp} {w0 w:World} {L L':List Res} (h:Sep g0 w0 g w L) (m:Nat) (e:uL m L=L'):Sep g0 w0 g w L':=h.sub (e ▸ ox L m)
theorem cA.oc {α:Type} {τ:Ty α} {g:Hp} {v:Value} {l:List α} (h:cA τ g v l):v.oneCell'=true:=bL h.shape
theorem Sep.oc {g0 g:Hp} {w0 w:World} {L:List Res} (h:Sep g0 w0 g w L) (i:Nat) {v:Value} {e:TypeId} {sz n:Nat} {xs:List Value} (hi:L[i]?=some (.row v e sz n xs)):v.oneCell'=true:=bL (h.rowShape hi)
section
variable {P:Program} {n:Fr} {Q:EPost} {E:Env} {w:World} {ops:Array Oper} {S:World→Prop} {qs:List Nat} {t:OT} {k:Nat} {d:Tmp} {ty:TypeId} {ps:String} {af:Array Edge}
theorem Am {x:Operand} (v:Value) (hS:S w) (h:(ops[k]?,ev E x,Nat.blt d n.sz)=(some ⟨some d,.move x,ty,ps,af,none⟩,v,true)) (hk:AT P n ops Q S qs t (cz E d v) w):AT P n ops Q S qs (.q k t) E w:=by
 obtain ⟨ho,hx,hd⟩:ops[k]?=some ⟨some d,.move x,ty,ps,af,none⟩∧ev E x=v∧Nat.blt d n.sz=true:=by simpa only [Prod.mk.injEq] using h
 exact A ho hS (fun _ _=>dJ hx) hd hk
theorem Aa {x:Operand} (v:Value) (hS:S w) (h:(ops[k]?,ev E x,Nat.blt d n.sz)=(some ⟨some d,.assign x,ty,ps,af,none⟩,v,true)) (hk:AT P n ops Q S qs t (cz E d v) w):AT P n ops Q S qs (.q k t) E w:=by
 obtain ⟨ho,hx,hd⟩:ops[k]?=some ⟨some d,.assign x,ty,ps,af,none⟩∧ev E x=v∧Nat.blt d n.sz=true:=by simpa only [Prod.mk.injEq] using h
 exact A ho hS (fun _ _=>qF hx) hd hk
end
abbrev Ev (E:Env) (ks:List Nat) (vs:List Value):Prop:=ks.map E.s=vs
def Ed (E:Env):List Nat→List Value→Env
 | k::ks,v::vs=>cz (Ed E ks vs) k v
 | _,_=>E
theorem Ec {E:Env}:∀ {ks:List Nat} {vs:List Value},Ev E ks vs→Ed E ks vs=E
 | [],vs,_=>by unfold Ed; rfl
 | k::ks,[],h=>by cases h
 | k::ks,v::vs,h=>by
  have h1:=(List.cons.inj h).1;show cz (Ed E ks vs) k v=E;rw [Ec (List.cons.inj h).2];exact yU h1
theorem xo {E:Env} {ks:List Nat} {vs:List Value} (h:Ev E ks vs):∃E0,E=Ed E0 ks vs:=⟨E,(Ec h).symm⟩
theorem kl {E:Env} {k0:Nat} {v0:Value} (h:Ev E [k0] [v0]):∃E0,E=cz E0 k0 v0:=xo h
theorem jw {E:Env} {k0 k1:Nat} {v0 v1:Value} (h:Ev E [k0,k1] [v0,v1]):∃E0,E=cz (cz E0 k1 v1) k0 v0:=xo h
theorem fw {E:Env} {k0 k1 k2:Nat} {v0 v1 v2:Value} (h:Ev E [k0,k1,k2] [v0,v1,v2]):∃E0,E=cz (cz (cz E0 k2 v2) k1 v1) k0 v0:=xo h
theorem fK {E:Env} {k0 k1 k2 k3:Nat} {v0 v1 v2 v3:Value} (h:Ev E [k0,k1,k2,k3] [v0,v1,v2,v3]):∃E0,E=cz (cz (cz (cz E0 k3 v3) k2 v2) k1 v1) k0 v0:=xo h
theorem jv {E:Env} {k0 k1 k2 k3 k4:Nat} {v0 v1 v2 v3 v4:Value} (h:Ev E [k0,k1,k2,k3,k4] [v0,v1,v2,v3,v4]):∃E0,E=cz (cz (cz (cz (cz E0 k4 v4) k3 v3) k2 v2) k1 v1) k0 v0:=xo h
theorem mg {E:Env} {k0 k1 k2 k3 k4 k5:Nat} {v0 v1 v2 v3 v4 v5:Value} (h:Ev E [k0,k1,k2,k3,k4,k5] [v0,v1,v2,v3,v4,v5]):∃E0,E=cz (cz (cz (cz (cz (cz E0 k5 v5) k4 v4) k3 v3) k2 v2) k1 v1) k0 v0:=xo h
theorem rG {E:Env} {k0 k1 k2 k3 k4 k5 k6:Nat} {v0 v1 v2 v3 v4 v5 v6:Value} (h:Ev E [k0,k1,k2,k3,k4,k5,k6] [v0,v1,v2,v3,v4,v5,v6]):∃E0,E=cz (cz (cz (cz (cz (cz (cz E0 k6 v6) k5 v5) k4 v4) k3 v3) k2 v2) k1 v1) k0 v0:=xo h
theorem rU {E:Env} {k0 k1 k2 k3 k4 k5 k6 k7:Nat} {v0 v1 v2 v3 v4 v5 v6 v7:Value} (h:Ev E [k0,k1,k2,k3,k4,k5,k6,k7] [v0,v1,v2,v3,v4,v5,v6,v7]):∃E0,E=cz (cz (cz (cz (cz (cz (cz (cz E0 k7 v7) k6 v6) k5 v5) k4 v4) k3 v3) k2 v2) k1 v1) k0 v0:=xo h
theorem CJ {E:Env} {k0 k1 k2 k3 k4 k5 k6 k7 k8:Nat} {v0 v1 v2 v3 v4 v5 v6 v7 v8:Value} (h:Ev E [k0,k1,k2,k3,k4,k5,k6,k7,k8] [v0,v1,v2,v3,v4,v5,v6,v7,v8]):∃E0,E=cz (cz (cz (cz (cz (cz (cz (cz (cz E0 k8 v8) k7 v7) k6 v6) k5 v5) k4 v4) k3 v3) k2 v2) k1 v1) k0 v0:=xo h
theorem rV {E:Env} {k0 k1 k2 k3 k4 k5 k6 k7 k8 k9:Nat} {v0 v1 v2 v3 v4 v5 v6 v7 v8 v9:Value} (h:Ev E [k0,k1,k2,k3,k4,k5,k6,k7,k8,k9] [v0,v1,v2,v3,v4,v5,v6,v7,v8,v9]):∃E0,E=cz (cz (cz (cz (cz (cz (cz (cz (cz (cz E0 k9 v9) k8 v8) k7 v7) k6 v6) k5 v5) k4 v4) k3 v3) k2 v2) k1 v1) k0 v0:=xo h
theorem vS {E:Env} {k0 k1 k2 k3 k4 k5 k6 k7 k8 k9 k10:Nat} {v0 v1 v2 v3 v4 v5 v6 v7 v8 v9 v10:Value} (h:Ev E [k0,k1,k2,k3,k4,k5,k6,k7,k8,k9,k10] [v0,v1,v2,v3,v4,v5,v6,v7,v8,v9,v10]):∃E0,E=cz (cz (cz (cz (cz (cz (cz (cz (cz (cz (cz E0 k10 v10) k9 v9) k8 v8) k7 v7) k6 v6) k5 v5) k4 v4) k3 v3) k2 v2) k1 v1) k0 v0:=xo h
theorem Dr {E:Env} {k0 k1 k2 k3 k4 k5 k6 k7 k8 k9 k10 k11:Nat} {v0 v1 v2 v3 v4 v5 v6 v7 v8 v9 v10 v11:Value} (h:Ev E [k0,k1,k2,k3,k4,k5,k6,k7,k8,k9,k10,k11] [v0,v1,v2,v3,v4,v5,v6,v7,v8,v9,v10,v11]):∃E0,E=cz (cz (cz (cz (cz (cz (cz (cz (cz (cz (cz (cz E0 k11 v11) k10 v10) k9 v9) k8 v8) k7 v7) k6 v6) k5 v5) k4 v4) k3 v3) k2 v2) k1 v1) k0 v0:=xo h
theorem zr {E:Env} {k0 k1 k2 k3 k4 k5 k6 k7 k8 k9 k10 k11 k12:Nat} {v0 v1 v2 v3 v4 v5 v6 v7 v8 v9 v10 v11 v12:Value} (h:Ev E [k0,k1,k2,k3,k4,k5,k6,k7,k8,k9,k10,k11,k12] [v0,v1,v2,v3,v4,v5,v6,v7,v8,v9,v10,v11,v12]):∃E0,E=cz (cz (cz (cz (cz (cz (cz (cz (cz (cz (cz (cz (cz E0 k12 v12) k11 v11) k10 v10) k9 v9) k8 v8) k7 v7) k6 v6) k5 v5) k4 v4) k3 v3) k2 v2) k1 v1) k0 v0:=xo h
theorem Gc {E:Env} {x w r q p o n m l k v u t s:Nat} {v0 j d v3 v4 v5 c b a v9 i g f e:Value} (h:Ev E [x,w,r,q,p,o,n,m,l,k,v,u,t,s] [v0,j,d,v3,v4,v5,c,b,a,v9,i,g,f,e]):∃y,E=cz (cz (cz (cz (cz (cz (cz (cz (cz (cz (cz (cz (cz (cz y s e) t f) u g) v i) k v9) l a) m b) n c) o v5) p v4) q v3) r d) w j) x v0:=xo h
end Go.Lx
namespace Go.Proofs.YtggpjcdhflcfmaaGreatDoor
open Go.Lx Go.RowKit
theorem mo:Tryz.prog.follows .mixedOrders=true:=by kernel_rfl
theorem bg:en Tryz.prog 3 false 1 8 (Value.int .i64 0):=dI (by kernel_rfl) (by kernel_rfl)
theorem cx:en Tryz.prog 4 false 1 1 (Value.bool false):=dI (by kernel_rfl) (by kernel_rfl)
theorem tU:en Tryz.prog 5 false 1 1 (Value.int .u8 0):=dI (by kernel_rfl) (by kernel_rfl)
theorem eD:en Tryz.prog 9 false 1 16 (an []):=dI (by kernel_rfl) (by kernel_rfl)
theorem ej:en Tryz.prog 22 false 1 24 (.slice none 0 0):=dI (by kernel_rfl) (by kernel_rfl)
theorem mw:en Tryz.prog 24 true 4 48 (Value.agg (List.toArray (α:=Value) [.slice none 0 0,Value.bool false,Value.int .i64 0,Value.int .i64 0])):=dI (by kernel_rfl) (by kernel_rfl)
theorem Ef:en Tryz.prog 26 false 1 8 (Value.nilFunc):=dI (by kernel_rfl) (by kernel_rfl)
theorem bn:en Tryz.prog 34 false 1 24 (.slice none 0 0):=dI (by kernel_rfl) (by kernel_rfl)
theorem dP:en Tryz.prog 35 false 1 24 (.slice none 0 0):=dI (by kernel_rfl) (by kernel_rfl)
theorem bX:en Tryz.prog 37 true 3 72 (Value.agg (List.toArray (α:=Value) [.slice none 0 0,.slice none 0 0,.slice none 0 0])):=dI (by kernel_rfl) (by kernel_rfl)
theorem mX:en Tryz.prog 38 false 1 8 (Value.int .i64 0):=dI (by kernel_rfl) (by kernel_rfl)
theorem dB:en Tryz.prog 46 true 5 72 (Value.agg (List.toArray (α:=Value) [an [],Value.int .i64 0,an [],an [],an []])):=dI (by kernel_rfl) (by kernel_rfl)
theorem eI:en Tryz.prog 48 false 1 8 (Value.int .u64 0):=dI (by kernel_rfl) (by kernel_rfl)
theorem ca:en Tryz.prog 50 true 4 32 (cC .u64 (aV.zero 4)):=dI (by kernel_rfl) (by kernel_rfl)
theorem dq:en Tryz.prog 51 false 1 24 (.slice none 0 0):=dI (by kernel_rfl) (by kernel_rfl)
theorem bi:en Tryz.prog 53 true 6 64 (Value.agg (List.toArray (α:=Value) (([Value.int .i64 0])++(((aV.zero 4).1.map (Value.int .u64))++([.slice none 0 0]))))):=dI (by kernel_rfl) (by kernel_rfl)
theorem oY:en Tryz.prog 65 false 1 24 (.slice none 0 0):=dI (by kernel_rfl) (by kernel_rfl)
theorem eT:en Tryz.prog 69 false 1 24 (.slice none 0 0):=dI (by kernel_rfl) (by kernel_rfl)
theorem eH:en Tryz.prog 71 true 4 64 (Value.agg (List.toArray (α:=Value) [Value.int .i64 0,Value.int .i64 0,.slice none 0 0,.slice none 0 0])):=dI (by kernel_rfl) (by kernel_rfl)
theorem iR:en Tryz.prog 85 false 1 24 (.slice none 0 0):=dI (by kernel_rfl) (by kernel_rfl)
theorem rH:en Tryz.prog 86 false 1 24 (.slice none 0 0):=dI (by kernel_rfl) (by kernel_rfl)
theorem iQ:en Tryz.prog 90 true 3 56 (Value.agg (List.toArray (α:=Value) [Value.bool false,.slice none 0 0,.slice none 0 0])):=dI (by kernel_rfl) (by kernel_rfl)
theorem Bb:en Tryz.prog 93 true 2 16 (cC .i64 (aV.zero 2)):=dI (by kernel_rfl) (by kernel_rfl)
theorem eS:en Tryz.prog 95 true 7 56 (Value.agg (List.toArray (α:=Value) (([Value.int .i64 0])++(([Value.int .i64 0])++(([Value.bool false])++((aV.zero 4).1.map (Value.int .u64))))))):=dI (by kernel_rfl) (by kernel_rfl)
theorem uk:en Tryz.prog 105 true 2 16 (Value.agg (List.toArray (α:=Value) [Value.nilFunc,Value.int .i64 0])):=dI (by kernel_rfl) (by kernel_rfl)
theorem qb:en Tryz.prog 125 false 1 8 (Value.map none):=dI (by kernel_rfl) (by kernel_rfl)
theorem oL:en Tryz.prog 126 false 1 24 (.slice none 0 0):=dI (by kernel_rfl) (by kernel_rfl)
theorem cH:en Tryz.prog 130 true 3 56 (Value.agg (List.toArray (α:=Value) [Value.bool false,.slice none 0 0,.slice none 0 0])):=dI (by kernel_rfl) (by kernel_rfl)
theorem iS:en Tryz.prog 145 true 2 16 (Value.agg (List.toArray (α:=Value) [Value.int .i64 0,Value.int .i64 0])):=dI (by kernel_rfl) (by kernel_rfl)
theorem qa:en Tryz.prog 147 true 3 32 (Value.agg (List.toArray (α:=Value) (([Value.int .i64 0,Value.int .i64 0])++([an []])))):=dI (by kernel_rfl) (by kernel_rfl)
theorem yV:en Tryz.prog 149 true 0 0 (Value.agg (List.toArray (α:=Value) [])):=dI (by kernel_rfl) (by kernel_rfl)
theorem zY:Tryz.prog.eqGuardType Tryz.prog.depth 50=false:=by kernel_rfl
theorem CK:Tryz.prog.concrete 9=true:=by kernel_rfl
theorem xy:Tryz.prog.concrete 107=true:=by kernel_rfl
theorem GH:CF Tryz.prog 7:=bD Tryz.func7 rfl (by decide)
theorem GB:CF Tryz.prog 8:=bD Tryz.func8 rfl (by decide)
theorem HR:CF Tryz.prog 9:=bD Tryz.func9 rfl (by decide)
theorem Hr:CF Tryz.prog 11:=bD Tryz.func11 rfl (by decide)
theorem Hq:CF Tryz.prog 13:=bD Tryz.func13 rfl (by decide)
theorem Ho:CF Tryz.prog 15:=bD Tryz.func15 rfl (by decide)
theorem Hn:CF Tryz.prog 16:=bD Tryz.func16 rfl (by decide)
theorem Hm:CF Tryz.prog 17:=bD Tryz.func17 rfl (by decide)
theorem EY:CF Tryz.prog 18:=bD Tryz.func18 rfl (by decide)
theorem DL:CF Tryz.prog 19:=bD Tryz.func19 rfl (by decide)
theorem Hl:CF Tryz.prog 20:=bD Tryz.func20 rfl (by decide)
theorem EX:CF Tryz.prog 21:=bD Tryz.func21 rfl (by decide)
theorem Ad:CF Tryz.prog 22:=bD Tryz.func22 rfl (by decide)
theorem Hk:CF Tryz.prog 23:=bD Tryz.func23 rfl (by decide)
theorem EW:CF Tryz.prog 24:=bD Tryz.func24 rfl (by decide)
theorem Hj:CF Tryz.prog 25:=bD Tryz.func25 rfl (by decide)
theorem EV:CF Tryz.prog 26:=bD Tryz.func26 rfl (by decide)
theorem Hi:CF Tryz.prog 27:=bD Tryz.func27 rfl (by decide)
theorem Hh:CF Tryz.prog 28:=bD Tryz.func28 rfl (by decide)
theorem Ch:CF Tryz.prog 29:=bD Tryz.func29 rfl (by decide)
theorem EU:CF Tryz.prog 30:=bD Tryz.func30 rfl (by decide)
theorem Hg:CF Tryz.prog 31:=bD Tryz.func31 rfl (by decide)
theorem Hf:CF Tryz.prog 32:=bD Tryz.func32 rfl (by decide)
theorem He:CF Tryz.prog 33:=bD Tryz.func33 rfl (by decide)
theorem ET:CF Tryz.prog 34:=bD Tryz.func34 rfl (by decide)
theorem DJ:CF Tryz.prog 35:=bD Tryz.func35 rfl (by decide)
theorem Hd:CF Tryz.prog 36:=bD Tryz.func36 rfl (by decide)
theorem Hc:CF Tryz.prog 37:=bD Tryz.func37 rfl (by decide)
theorem Hb:CF Tryz.prog 38:=bD Tryz.func38 rfl (by decide)
theorem ES:CF Tryz.prog 39:=bD Tryz.func39 rfl (by decide)
theorem ER:CF Tryz.prog 40:=bD Tryz.func40 rfl (by decide)
theorem Ha:CF Tryz.prog 41:=bD Tryz.func41 rfl (by decide)
theorem Cg:CF Tryz.prog 42:=bD Tryz.func42 rfl (by decide)
theorem DI:CF Tryz.prog 43:=bD Tryz.func43 rfl (by decide)
theorem GZ:CF Tryz.prog 44:=bD Tryz.func44 rfl (by decide)
theorem GY:CF Tryz.prog 45:=bD Tryz.func45 rfl (by decide)
theorem GX:CF Tryz.prog 46:=bD Tryz.func46 rfl (by decide)
theorem Cf:CF Tryz.prog 47:=bD Tryz.func47 rfl (by decide)
theorem GW:CF Tryz.prog 48:=bD Tryz.func48 rfl (by decide)
theorem GV:CF Tryz.prog 49:=bD Tryz.func49 rfl (by decide)
theorem GU:CF Tryz.prog 50:=bD Tryz.func50 rfl (by decide)
theorem GT:CF Tryz.prog 51:=bD Tryz.func51 rfl (by decide)
theorem GS:CF Tryz.prog 52:=bD Tryz.func52 rfl (by decide)
theorem GR:CF Tryz.prog 53:=bD Tryz.func53 rfl (by decide)
theorem GQ:CF Tryz.prog 54:=bD Tryz.func54 rfl (by decide)
theorem GP:CF Tryz.prog 55:=bD Tryz.func55 rfl (by decide)
theorem GO:CF Tryz.prog 56:=bD Tryz.func56 rfl (by decide)
theorem DH:CF Tryz.prog 57:=bD Tryz.func57 rfl (by decide)
theorem GN:CF Tryz.prog 58:=bD Tryz.func58 rfl (by decide)
theorem GM:CF Tryz.prog 59:=bD Tryz.func59 rfl (by decide)
theorem Ce:CF Tryz.prog 60:=bD Tryz.func60 rfl (by decide)
theorem Cd:CF Tryz.prog 61:=bD Tryz.func61 rfl (by decide)
theorem nK:CF Tryz.prog 62:=bD Tryz.func62 rfl (by decide)
theorem EQ:CF Tryz.prog 63:=bD Tryz.func63 rfl (by decide)
theorem GL:CF Tryz.prog 64:=bD Tryz.func64 rfl (by decide)
theorem GK:CF Tryz.prog 65:=bD Tryz.func65 rfl (by decide)
theorem GJ:CF Tryz.prog 66:=bD Tryz.func66 rfl (by decide)
theorem uY:CF Tryz.prog 67:=bD Tryz.func67 rfl (by decide)
theorem DG:CF Tryz.prog 68:=bD Tryz.func68 rfl (by decide)
theorem GI:CF Tryz.prog 69:=bD Tryz.func69 rfl (by decide)
theorem GG:CF Tryz.prog 70:=bD Tryz.func70 rfl (by decide)
theorem EP:CF Tryz.prog 71:=bD Tryz.func71 rfl (by decide)
theorem px:CF Tryz.prog 72:=bD Tryz.func72 rfl (by decide)
theorem EO:CF Tryz.prog 73:=bD Tryz.func73 rfl (by decide)
theorem EN:CF Tryz.prog 74:=bD Tryz.func74 rfl (by decide)
theorem GF:CF Tryz.prog 75:=bD Tryz.func75 rfl (by decide)
theorem GE:CF Tryz.prog 76:=bD Tryz.func76 rfl (by decide)
theorem GD:CF Tryz.prog 77:=bD Tryz.func77 rfl (by decide)
theorem DF:CF Tryz.prog 78:=bD Tryz.func78 rfl (by decide)
theorem GC:CF Tryz.prog 79:=bD Tryz.func79 rfl (by decide)
theorem Cc:CF Tryz.prog 80:=bD Tryz.func80 rfl (by decide)
theorem yH:CF Tryz.prog 81:=bD Tryz.func81 rfl (by decide)
theorem EM:CF Tryz.prog 82:=bD Tryz.func82 rfl (by decide)
theorem EL:CF Tryz.prog 83:=bD Tryz.func83 rfl (by decide)
theorem EK:CF Tryz.prog 84:=bD Tryz.func84 rfl (by decide)
theorem Cb:CF Tryz.prog 85:=bD Tryz.func85 rfl (by decide)
theorem DE:CF Tryz.prog 86:=bD Tryz.func86 rfl (by decide)
theorem GA:CF Tryz.prog 87:=bD Tryz.func87 rfl (by decide)
theorem Gz:CF Tryz.prog 88:=bD Tryz.func88 rfl (by decide)
theorem Gw:CF Tryz.prog 89:=bD Tryz.func89 rfl (by decide)
theorem Gv:CF Tryz.prog 90:=bD Tryz.func90 rfl (by decide)
theorem EJ:CF Tryz.prog 91:=bD Tryz.func91 rfl (by decide)
theorem DD:CF Tryz.prog 92:=bD Tryz.func92 rfl (by decide)
theorem DC:CF Tryz.prog 93:=bD Tryz.func93 rfl (by decide)
theorem Gu:CF Tryz.prog 94:=bD Tryz.func94 rfl (by decide)
theorem Gt:CF Tryz.prog 95:=bD Tryz.func95 rfl (by decide)
theorem Gs:CF Tryz.prog 96:=bD Tryz.func96 rfl (by decide)
theorem Gr:CF Tryz.prog 97:=bD Tryz.func97 rfl (by decide)
theorem Gq:CF Tryz.prog 98:=bD Tryz.func98 rfl (by decide)
theorem DB:CF Tryz.prog 99:=bD Tryz.func99 rfl (by decide)
theorem CY:CF Tryz.prog 100:=bD Tryz.func100 rfl (by decide)
theorem Ai:CF Tryz.prog 101:=bD Tryz.func101 rfl (by decide)
theorem FB:CF Tryz.prog 102:=bD Tryz.func102 rfl (by decide)
theorem CX:CF Tryz.prog 103:=bD Tryz.func103 rfl (by decide)
theorem FA:CF Tryz.prog 104:=bD Tryz.func104 rfl (by decide)
theorem Fy:CF Tryz.prog 105:=bD Tryz.func105 rfl (by decide)
theorem Fx:CF Tryz.prog 106:=bD Tryz.func106 rfl (by decide)
theorem Fw:CF Tryz.prog 107:=bD Tryz.func107 rfl (by decide)
theorem Fv:CF Tryz.prog 108:=bD Tryz.func108 rfl (by decide)
theorem Fu:CF Tryz.prog 109:=bD Tryz.func109 rfl (by decide)
theorem Ah:CF Tryz.prog 113:=bD Tryz.func113 rfl (by decide)
theorem CW:CF Tryz.prog 114:=bD Tryz.func114 rfl (by decide)
theorem Ft:CF Tryz.prog 115:=bD Tryz.func115 rfl (by decide)
theorem CU:CF Tryz.prog 116:=bD Tryz.func116 rfl (by decide)
theorem CT:CF Tryz.prog 117:=bD Tryz.func117 rfl (by decide)
theorem Fs:CF Tryz.prog 118:=bD Tryz.func118 rfl (by decide)
theorem Fq:CF Tryz.prog 119:=bD Tryz.func119 rfl (by decide)
theorem Fp:CF Tryz.prog 120:=bD Tryz.func120 rfl (by decide)
theorem xE:CF Tryz.prog 121:=bD Tryz.func121 rfl (by decide)
theorem Fo:CF Tryz.prog 122:=bD Tryz.func122 rfl (by decide)
theorem CS:CF Tryz.prog 123:=bD Tryz.func123 rfl (by decide)
theorem CR:CF Tryz.prog 124:=bD Tryz.func124 rfl (by decide)
theorem ij:CF Tryz.prog 125:=bD Tryz.func125 rfl (by decide)
theorem Fm:CF Tryz.prog 129:=bD Tryz.func129 rfl (by decide)
theorem Fl:CF Tryz.prog 130:=bD Tryz.func130 rfl (by decide)
theorem Fk:CF Tryz.prog 131:=bD Tryz.func131 rfl (by decide)
theorem Fj:CF Tryz.prog 132:=bD Tryz.func132 rfl (by decide)
theorem Fi:CF Tryz.prog 133:=bD Tryz.func133 rfl (by decide)
theorem Af:CF Tryz.prog 134:=bD Tryz.func134 rfl (by decide)
theorem xD:CF Tryz.prog 135:=bD Tryz.func135 rfl (by decide)
theorem CQ:CF Tryz.prog 136:=bD Tryz.func136 rfl (by decide)
theorem Fh:CF Tryz.prog 137:=bD Tryz.func137 rfl (by decide)
theorem sM:CF Tryz.prog 138:=bD Tryz.func138 rfl (by decide)
theorem Fg:CF Tryz.prog 139:=bD Tryz.func139 rfl (by decide)
theorem Ae:CF Tryz.prog 151:=bD Tryz.func151 rfl (by decide)
theorem CP:CF Tryz.prog 152:=bD Tryz.func152 rfl (by decide)
theorem Ff:CF Tryz.prog 153:=bD Tryz.func153 rfl (by decide)
theorem Fe:CF Tryz.prog 154:=bD Tryz.func154 rfl (by decide)
theorem xC:CF Tryz.prog 155:=bD Tryz.func155 rfl (by decide)
theorem Fc:CF Tryz.prog 156:=bD Tryz.func156 rfl (by decide)
theorem CO:CF Tryz.prog 157:=bD Tryz.func157 rfl (by decide)
theorem Fb:CF Tryz.prog 158:=bD Tryz.func158 rfl (by decide)
theorem CM:CF Tryz.prog 159:=bD Tryz.func159 rfl (by decide)
theorem Fa:CF Tryz.prog 160:=bD Tryz.func160 rfl (by decide)
theorem EZ:CF Tryz.prog 167:=bD Tryz.func167 rfl (by decide)
open Go.ChangeShapes Go.WideShapes Go.ChangeAt
def ny (x:bz):Prop:=(fun s=>s.length≤maxLen) x.Name∧(AD .i64) x.Kind∧(fun s=>s.length≤maxLen) x.Pattern∧(fun s=>s.length≤maxLen) x.Sample∧(fun s=>s.length≤maxLen) x.Close
set_option maxRecDepth 100000 in
theorem pm:im Tryz.prog 46 cg ny:=by
 intro H enc w f cs x h;obtain ⟨_,_,_,_,hl,hlen,hf⟩:=DataW.trod_struct Iq h;obtain ⟨e,l,r⟩:=dS (jf HW) hf hlen 0 rfl (o:=0) (s:=1) rfl (by kernel_rfl);obtain ⟨d,k,q⟩:=dS (oq HZ) hf hlen 1 rfl (o:=1) (s:=1) rfl (by kernel_rfl);obtain ⟨c,j,p⟩:=dS (jf HW) hf hlen 2 rfl (o:=2) (s:=1) rfl (by kernel_rfl);obtain ⟨b,i,n⟩:=dS (jf HW) hf hlen 3 rfl (o:=3) (s:=1) rfl (by kernel_rfl);obtain ⟨a,g,m⟩:=dS (jf HW) hf hlen 4 rfl (o:=4) (s:=1) rfl (by kernel_rfl);have t:cs.length=5:=hl.trans (by kernel_rfl);refine ⟨⟨e,d,c,b,a⟩,⟨_,_,_,_,_,?_,l,k,j,i,g⟩,r,q,p,n,m⟩;exact (wu cs 0 1).trans (congrArg (_++·) ((wu cs 1 1).trans (congrArg (_++·) ((wu cs 2 1).trans (congrArg (_++·) ((wu cs 3 1).trans (congrArg (_++·) (EH (o:=4) (s:=1) t))))))))
def kN (x:T_LexSpec):Prop:=(fun l=>(∀x∈l,ny x)∧l.length≤maxLen) x.Defs∧(fun _=>True) x.Layout∧(AD .i64) x.Misspelling∧(AD .i64) x.Unclosed
set_option maxRecDepth 100000 in
theorem qC:im Tryz.prog 24 dj kN:=by
 intro H enc w f cs x h;obtain ⟨_,_,_,_,hl,hlen,hf⟩:=DataW.trod_struct Il h;obtain ⟨d,j,n⟩:=dS (uy Ii (by kernel_rfl) (by decide) pm) hf hlen 0 rfl (o:=0) (s:=1) rfl (by kernel_rfl);obtain ⟨c,i,m⟩:=dS (vH Iz) hf hlen 1 rfl (o:=1) (s:=1) rfl (by kernel_rfl);obtain ⟨b,g,l⟩:=dS (oq HZ) hf hlen 2 rfl (o:=2) (s:=1) rfl (by kernel_rfl);obtain ⟨a,e,k⟩:=dS (oq HZ) hf hlen 3 rfl (o:=3) (s:=1) rfl (by kernel_rfl);have p:cs.length=4:=hl.trans (by kernel_rfl);refine ⟨⟨d,c,b,a⟩,⟨_,_,_,_,?_,j,i,g,e⟩,n,m,l,k⟩;exact (wu cs 0 1).trans (congrArg (_++·) ((wu cs 1 1).trans (congrArg (_++·) ((wu cs 2 1).trans (congrArg (_++·) (EH (o:=3) (s:=1) p))))))
end Go.Proofs.YtggpjcdhflcfmaaGreatDoor
