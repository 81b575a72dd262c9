/- Part 3. -/
import Derived.Test.YtggpjcdhflcfmaaGreatDoorProg
import Derived.Test.YtggpjcdhflcfmaaGreatDoorRows
import Derived.Test.YtggpjcdhflcfmaaGreatDoorCards
import Derived.Test.YtggpjcdhflcfmaaGreatDoorTie
import Derived.SevenTiedAt
import Derived.ChangeVars
import Derived.LaidHandle
import Derived.Handed
import Derived.JoinedOf
import Derived.Test.YtggpjcdhflcfmaaGreatDoorKLexspecPrefix2
set_option linter.unusedVariables false
set_option linter.unusedSimpArgs false
namespace Go.Proofs.YtggpjcdhflcfmaaGreatDoor
open Go.Lx Go.RowKit
structure bp where
  Name:Str
  Kind:Int
  Pattern:Str
  Sample:Str
  Close:Str
instance:DecidableEq bp:=fun a b=>if h:a.Name=b.Name∧a.Kind=b.Kind∧a.Pattern=b.Pattern∧a.Sample=b.Sample∧a.Close=b.Close then isTrue (by cases a; cases b; simp_all) else isFalse (by intro e; subst e; simp at h)
structure T_LexSpec where
  Defs:(List bp)
  Layout:Bool
  Misspelling:Int
  Unclosed:Int
instance:DecidableEq T_LexSpec:=fun a b=>if h:a.Defs=b.Defs∧a.Layout=b.Layout∧a.Misspelling=b.Misspelling∧a.Unclosed=b.Unclosed then isTrue (by cases a; cases b; simp_all) else isFalse (by intro e; subst e; simp at h)
structure T_Regex where
  Kind:Int
  Set:(aT 4)
  Kids:(List T_Regex)
instance:Inhabited T_Regex:=⟨⟨default,aT.zero 4,[]⟩⟩
structure aD where
  s:Str
  atv:Int
instance:DecidableEq aD:=fun a b=>if h:a.s=b.s∧a.atv=b.atv then isTrue (by cases a; cases b; simp_all) else isFalse (by intro e; subst e; simp at h)
structure dm where
  fails:(Option Bool)
  err:Int
instance:DecidableEq dm:=fun a b=>if h:a.fails=b.fails∧a.err=b.err then isTrue (by cases a; cases b; simp_all) else isFalse (by intro e; subst e; simp at h)
structure bn where
  sets:(List (aT 4))
  behind:(List (List (Int×Bool)))
instance:DecidableEq bn:=fun a b=>if h:a.sets=b.sets∧a.behind=b.behind then isTrue (by cases a; cases b; simp_all) else isFalse (by intro e; subst e; simp at h)
structure bX where
  nullable:Bool
  first:(List Int)
  last:(List Int)
instance:DecidableEq bX:=fun a b=>if h:a.nullable=b.nullable∧a.first=b.first∧a.last=b.last then isTrue (by cases a; cases b; simp_all) else isFalse (by intro e; subst e; simp at h)
structure ca where
  From:Int
  To:Int
  Epsilon:Bool
  Set:(aT 4)
instance:DecidableEq ca:=fun a b=>if h:a.From=b.From∧a.To=b.To∧a.Epsilon=b.Epsilon∧a.Set=b.Set then isTrue (by cases a; cases b; simp_all) else isFalse (by intro e; subst e; simp at h)
structure T_NFA where
  States:Int
  Start:Int
  Arcs:(List ca)
  Accept:(List Int)
instance:DecidableEq T_NFA:=fun a b=>if h:a.States=b.States∧a.Start=b.Start∧a.Arcs=b.Arcs∧a.Accept=b.Accept then isTrue (by cases a; cases b; simp_all) else isFalse (by intro e; subst e; simp at h)
structure T_DFA where
  Class:(List Int)
  Next:(List (List Int))
  Accept:(List Int)
instance:DecidableEq T_DFA:=fun a b=>if h:a.Class=b.Class∧a.Next=b.Next∧a.Accept=b.Accept then isTrue (by cases a; cases b; simp_all) else isFalse (by intro e; subst e; simp at h)
structure bJ where
  a:Int
  b:Int
instance:DecidableEq bJ:=fun a b=>if h:a.a=b.a∧a.b=b.b then isTrue (by cases a; cases b; simp_all) else isFalse (by intro e; subst e; simp at h)
structure cI where
  atv:bJ
  text:Str
instance:DecidableEq cI:=fun a b=>if h:a.atv=b.atv∧a.text=b.text then isTrue (by cases a; cases b; simp_all) else isFalse (by intro e; subst e; simp at h)
structure aG where
  s:Str
  atv:Int
  bad:Bool
instance:DecidableEq aG:=fun a b=>if h:a.s=b.s∧a.atv=b.atv∧a.bad=b.bad then isTrue (by cases a; cases b; simp_all) else isFalse (by intro e; subst e; simp at h)
structure bS where
  sets:(List (aT 4))
  pairs:(List (aT 2))
instance:DecidableEq bS:=fun a b=>if h:a.sets=b.sets∧a.pairs=b.pairs then isTrue (by cases a; cases b; simp_all) else isFalse (by intro e; subst e; simp at h)
structure cB where
  nullable:Bool
  first:(List Int)
  last:(List Int)
instance:DecidableEq cB:=fun a b=>if h:a.nullable=b.nullable∧a.first=b.first∧a.last=b.last then isTrue (by cases a; cases b; simp_all) else isFalse (by intro e; subst e; simp at h)
def ce:Ty bp:=⟨5,fun g cs x=>∃k c1 c2 c3 j,cs=k++(c1++(c2++(c3++(j))))∧dU.rel g k x.Name∧(aj .i64).rel g c1 x.Kind∧dU.rel g c2 x.Pattern∧dU.rel g c3 x.Sample∧dU.rel g j x.Close,
 fun b ⟨k,c1,c2,c3,j,e,i,h,f,d,c⟩=>⟨k,c1,c2,c3,j,e,dU.mono b i,(aj .i64).mono b h,dU.mono b f,dU.mono b d,dU.mono b c⟩,
 fun ⟨_,_,_,_,_,e,i,h,f,d,c⟩=>by rw [e]; simp [dU.len i,(aj .i64).len h,dU.len f,dU.len d,dU.len c,aj,dU],
 fun ⟨_,_,_,_,_,e,i,h,f,d,c⟩ v a=>by
  subst e; simp only [Iv] at a; rcases a with a|a|a|a|a
  ·exact dU.one i v a
  ·exact (aj .i64).one h v a
  ·exact dU.one f v a
  ·exact dU.one d v a
  ·exact dU.one c v a⟩
def dh:Ty T_LexSpec:=⟨4,fun g cs x=>∃i c1 c2 c3,cs=i++(c1++(c2++(c3)))∧(cn ce).rel g i x.Defs∧aY.rel g c1 x.Layout∧(aj .i64).rel g c2 x.Misspelling∧(aj .i64).rel g c3 x.Unclosed,
 fun h ⟨i,c1,c2,c3,e,f,d,c,b⟩=>⟨i,c1,c2,c3,e,(cn ce).mono h f,aY.mono h d,(aj .i64).mono h c,(aj .i64).mono h b⟩,
 fun ⟨_,_,_,_,e,f,d,c,b⟩=>by rw [e]; simp [(cn ce).len f,aY.len d,(aj .i64).len c,(aj .i64).len b,aY,aj,cn],
 fun ⟨_,_,_,_,e,f,d,c,b⟩ v a=>by
  subst e; simp only [Iv] at a; rcases a with a|a|a|a
  ·exact (cn ce).one f v a
  ·exact aY.one d v a
  ·exact (aj .i64).one c v a
  ·exact (aj .i64).one b v a⟩
def rX (τ:Ty T_Regex):Ty T_Regex:=⟨6,fun g cs x=>∃f c1 c2,cs=f++(c1++(c2))∧(aj .i64).rel g f x.Kind∧(bk 4 .u64).rel g c1 x.Set∧(cn τ).rel g c2 x.Kids,
 fun h ⟨f,c1,c2,e,d,c,b⟩=>⟨f,c1,c2,e,(aj .i64).mono h d,(bk 4 .u64).mono h c,(cn τ).mono h b⟩,
 fun ⟨_,_,_,e,d,c,b⟩=>by rw [e]; simp [(aj .i64).len d,(bk 4 .u64).len c,(cn τ).len b,aj,cn,bk],
 fun ⟨_,_,_,e,d,c,b⟩ v a=>by
  subst e; simp only [Iv] at a; rcases a with a|a|a
  ·exact (aj .i64).one d v a
  ·exact (bk 4 .u64).one c v a
  ·exact (cn τ).one b v a⟩
def eT:fc T_Regex:=⟨6,rX,fun _=>rfl,fun ha hb h _ _ hh=>by obtain ⟨c0,c1,c2,e,h0,h1,h2⟩:=hh; exact ⟨c0,c1,c2,e,h0,h1,wH (ha.trans hb.symm) h h2⟩⟩
def aJ:Ty T_Regex:=⟨6,fun g cs x=>∃n,(eT.iter n).rel g cs x,fun hg h=>eT.fix_mono hg h,fun h=>eT.fix_len h,fun h=>eT.fix_one h⟩
theorem ak {g:Hp} {cs:List Value} {x:T_Regex}:aJ.rel g cs x↔(rX aJ).rel g cs x:=by
 constructor
 ·rintro ⟨n,h⟩;cases n with
  | zero=>exact h.elim
  | succ n=>exact eT.mono (τ:=eT.iter n) (τ':=aJ) (eT.iter_sz n) rfl (fun _ _ h=>⟨n,h⟩) _ _ h
 ·rintro ⟨f,c1,c2,e,d,c,a⟩;obtain ⟨b,a⟩:=eT.sup (fix:=aJ) (fun _ _ _ h=>h) rfl a;exact ⟨b+1,f,c1,c2,e,d,c,eT.leSl (Nat.le_refl _) a⟩
def wG:Ty dm:=⟨2,fun g cs x=>∃d c1,cs=d++(c1)∧(yC Tryz.prog (cG aY false)).rel g d x.fails∧(aj .i64).rel g c1 x.err,
 fun f ⟨d,c1,e,c,b⟩=>⟨d,c1,e,(yC Tryz.prog (cG aY false)).mono f c,(aj .i64).mono f b⟩,
 fun ⟨_,_,e,c,b⟩=>by rw [e]; simp [(yC Tryz.prog (cG aY false)).len c,(aj .i64).len b,yC,aj],
 fun ⟨_,_,e,c,b⟩ v a=>by
  subst e; simp only [Iv] at a; rcases a with a|a
  ·exact (yC Tryz.prog (cG aY false)).one c v a
  ·exact (aj .i64).one b v a⟩
def eL:Ty bX:=⟨3,fun g cs x=>∃f c1 c2,cs=f++(c1++(c2))∧aY.rel g f x.nullable∧(cn (aj .i64)).rel g c1 x.first∧(cn (aj .i64)).rel g c2 x.last,
 fun h ⟨f,c1,c2,e,d,c,b⟩=>⟨f,c1,c2,e,aY.mono h d,(cn (aj .i64)).mono h c,(cn (aj .i64)).mono h b⟩,
 fun ⟨_,_,_,e,d,c,b⟩=>by rw [e]; simp [aY.len d,(cn (aj .i64)).len c,(cn (aj .i64)).len b,aY,cn],
 fun ⟨_,_,_,e,d,c,b⟩ v a=>by
  subst e; simp only [Iv] at a; rcases a with a|a|a
  ·exact aY.one d v a
  ·exact (cn (aj .i64)).one c v a
  ·exact (cn (aj .i64)).one b v a⟩
def cg:Ty ca:=⟨7,fun g cs x=>∃i c1 c2 c3,cs=i++(c1++(c2++(c3)))∧(aj .i64).rel g i x.From∧(aj .i64).rel g c1 x.To∧aY.rel g c2 x.Epsilon∧(bk 4 .u64).rel g c3 x.Set,
 fun h ⟨i,c1,c2,c3,e,f,d,c,b⟩=>⟨i,c1,c2,c3,e,(aj .i64).mono h f,(aj .i64).mono h d,aY.mono h c,(bk 4 .u64).mono h b⟩,
 fun ⟨_,_,_,_,e,f,d,c,b⟩=>by rw [e]; simp [(aj .i64).len f,(aj .i64).len d,aY.len c,(bk 4 .u64).len b,aY,aj,bk],
 fun ⟨_,_,_,_,e,f,d,c,b⟩ v a=>by
  subst e; simp only [Iv] at a; rcases a with a|a|a|a
  ·exact (aj .i64).one f v a
  ·exact (aj .i64).one d v a
  ·exact aY.one c v a
  ·exact (bk 4 .u64).one b v a⟩
def fQ:Ty T_NFA:=⟨4,fun g cs x=>∃i c1 c2 c3,cs=i++(c1++(c2++(c3)))∧(aj .i64).rel g i x.States∧(aj .i64).rel g c1 x.Start∧(cn cg).rel g c2 x.Arcs∧(cn (aj .i64)).rel g c3 x.Accept,
 fun h ⟨i,c1,c2,c3,e,f,d,c,b⟩=>⟨i,c1,c2,c3,e,(aj .i64).mono h f,(aj .i64).mono h d,(cn cg).mono h c,(cn (aj .i64)).mono h b⟩,
 fun ⟨_,_,_,_,e,f,d,c,b⟩=>by rw [e]; simp [(aj .i64).len f,(aj .i64).len d,(cn cg).len c,(cn (aj .i64)).len b,aj,cn],
 fun ⟨_,_,_,_,e,f,d,c,b⟩ v a=>by
  subst e; simp only [Iv] at a; rcases a with a|a|a|a
  ·exact (aj .i64).one f v a
  ·exact (aj .i64).one d v a
  ·exact (cn cg).one c v a
  ·exact (cn (aj .i64)).one b v a⟩
def dz:Ty T_DFA:=⟨3,fun g cs x=>∃f c1 c2,cs=f++(c1++(c2))∧(cn (aj .i64)).rel g f x.Class∧(cn (cn (aj .i64))).rel g c1 x.Next∧(cn (aj .i64)).rel g c2 x.Accept,
 fun h ⟨f,c1,c2,e,d,c,b⟩=>⟨f,c1,c2,e,(cn (aj .i64)).mono h d,(cn (cn (aj .i64))).mono h c,(cn (aj .i64)).mono h b⟩,
 fun ⟨_,_,_,e,d,c,b⟩=>by rw [e]; simp [(cn (aj .i64)).len d,(cn (cn (aj .i64))).len c,(cn (aj .i64)).len b,cn],
 fun ⟨_,_,_,e,d,c,b⟩ v a=>by
  subst e; simp only [Iv] at a; rcases a with a|a|a
  ·exact (cn (aj .i64)).one d v a
  ·exact (cn (cn (aj .i64))).one c v a
  ·exact (cn (aj .i64)).one b v a⟩
def gg:Ty bJ:=⟨2,fun g cs x=>∃h c1,cs=h++(c1)∧(aj .i64).rel g h x.a∧(aj .i64).rel g c1 x.b,
 fun i ⟨h,c1,e,f,d⟩=>⟨h,c1,e,(aj .i64).mono i f,(aj .i64).mono i d⟩,
 fun ⟨_,_,e,f,d⟩=>by rw [e]; simp [(aj .i64).len f,(aj .i64).len d,aj],
 fun ⟨_,_,e,f,d⟩ v c=>by
  subst e; simp only [Iv] at c; rcases c with c|c
  ·exact (aj .i64).one f v c
  ·exact (aj .i64).one d v c⟩
def cZ:Ty cI:=⟨3,fun g cs x=>∃d c1,cs=d++(c1)∧gg.rel g d x.atv∧dU.rel g c1 x.text,
 fun f ⟨d,c1,e,c,b⟩=>⟨d,c1,e,gg.mono f c,dU.mono f b⟩,
 fun ⟨_,_,e,c,b⟩=>by rw [e]; simp [gg.len c,dU.len b,dU,gg],
 fun ⟨_,_,e,c,b⟩ v a=>by
  subst e; simp only [Iv] at a; rcases a with a|a
  ·exact gg.one c v a
  ·exact dU.one b v a⟩
def fY:Ty cB:=⟨3,fun g cs x=>∃f c1 c2,cs=f++(c1++(c2))∧aY.rel g f x.nullable∧(cn (aj .i64)).rel g c1 x.first∧(cn (aj .i64)).rel g c2 x.last,
 fun h ⟨f,c1,c2,e,d,c,b⟩=>⟨f,c1,c2,e,aY.mono h d,(cn (aj .i64)).mono h c,(cn (aj .i64)).mono h b⟩,
 fun ⟨_,_,_,e,d,c,b⟩=>by rw [e]; simp [aY.len d,(cn (aj .i64)).len c,(cn (aj .i64)).len b,aY,cn],
 fun ⟨_,_,_,e,d,c,b⟩ v a=>by
  subst e; simp only [Iv] at a; rcases a with a|a|a
  ·exact aY.one d v a
  ·exact (cn (aj .i64)).one c v a
  ·exact (cn (aj .i64)).one b v a⟩
def M.k0:List Str:=[[110,101,119,108,105,110,101],[105,110,100,101,110,116],[100,101,100,101,110,116]]
def M.l9 (b:T_LexSpec) (g:Int) (d:Int):Option Bool:= bif (decide (g<(b.Defs.length:Int))) then some false else bo (be (fun (c:Int)=> bif (decide (c<(b.Defs.length:Int))) then (bD b.Defs c).bind fun a=> (bif (decide (40<(a.Name.length:Int))) then some true else bif (decide (d<(a.Pattern.length:Int))) then some true else bif (decide (d<(a.Sample.length:Int))) then some true else some (decide (d<(a.Close.length:Int)))).bind fun (e:Bool)=> bif e then some (.stop (.stop false)) else (cd .i64 (c+1)).bind fun f=> some (.next f) else some (.stop (.next ()))) ba (0:Int)) fun _=> some true
def M.f4 (keywordFirst1:Bool):Option T_LexSpec:= bif keywordFirst1 then some (T_LexSpec.mk [(bp.mk [105,102] 3 [105,102] [105,102] []),(bp.mk [119,111,114,100] 1 [91,97,45,122,93,43] [120] [])] false 0 0) else some (T_LexSpec.mk [(bp.mk [119,111,114,100] 1 [91,97,45,122,93,43] [120] []),(bp.mk [105,102] 3 [105,102] [105,102] [])] false 0 0)
def M.m9 (x1:Int) (c1:T_Regex) (c2:Int) (c3:Int):Option (T_Regex×Int×Int):= some ((T_Regex.mk 0 (aT.zero 4) []),x1,3)
def M.a3 (p1:aD):Option Int:= bif (decide (p1.atv<(p1.s.length:Int))) then (jJ p1.s p1.atv).bind fun c1=> some c1 else some 0
def M.a4 (p1:aD):Option (Rt (Unit)):= some (.pan p1.atv)
def M.a5 (a:aD) (g:Int):Option (Rt (aD)):= bo ((bif (a.atv == (a.s.length:Int)) then some true else (jJ a.s a.atv).bind fun f=> some (f != g)).bind fun (c:Bool)=> bif c then (M.a4 a).bind fun b=>b.on (fun h=> some (.next ())) (fun e=>some (.stop (.pan e))) else some (.next ())) fun _=> (cd .i64 (a.atv+1)).bind fun d=> some (.ret (aD.mk a.s d))
def M.g1 (a:Int):Option Bool:= (bif (decide (48≤a)) then bif (decide (a≤57)) then some true else bif (decide (97≤a)) then bif (decide (a≤122)) then some true else bif (decide (65≤a)) then some (decide (a≤90)) else some false else bif (decide (65≤a)) then some (decide (a≤90)) else some false else bif (decide (97≤a)) then bif (decide (a≤122)) then some true else bif (decide (65≤a)) then some (decide (a≤90)) else some false else bif (decide (65≤a)) then some (decide (a≤90)) else some false).bind fun (b:Bool)=> some b
def M.e2 (a:aD):Option (Rt (Int×aD)):= bo (bif (a.atv == (a.s.length:Int)) then (M.a4 a).bind fun b=>b.on (fun j=> some (.next ())) (fun g=>some (.stop (.pan g))) else some (.next ())) fun _=> (jJ a.s a.atv).bind fun c1=> bo (bif (c1 == 110) then some (.next (10:Int)) else bif (c1 == 116) then some (.next (9:Int)) else (bif (decide (c1<32)) then some true else bif (decide (126<c1)) then some true else (M.g1 c1).bind fun e=> some e).bind fun (c:Bool)=> bif c then (M.a4 a).bind fun b=>b.on (fun i=> some (.next c1)) (fun f=>some (.stop (.pan f))) else some (.next c1)) fun (h:Int)=> (cd .i64 (a.atv+1)).bind fun d=> some (.ret (h,(aD.mk a.s d)))
def M.i6 (s:Str) (c:Int):Option Int:=some (Lib.indexByte s c.toNat.toUInt8)
def M.c1 (a:aD) (k:Str):Option (Rt (Int×aD)):= bo (bif (a.atv == (a.s.length:Int)) then (M.a4 a).bind fun b=>b.on (fun m=> some (.next ())) (fun j=>some (.stop (.pan j))) else some (.next ())) fun _=> (jJ a.s a.atv).bind fun c1=> bif (c1 == 92) then (cd .i64 (a.atv+1)).bind fun f=> (M.e2 (aD.mk a.s f)).bind fun b=>b.on (fun c=> some (.ret (c.1,c.2))) (fun i=>some (.pan i)) else bo ((bif (decide (c1<32)) then some true else bif (decide (126<c1)) then some true else (M.i6 k c1).bind fun g=> some (decide (0≤g))).bind fun (d:Bool)=> bif d then (M.a4 a).bind fun b=>b.on (fun l=> some (.next ())) (fun h=>some (.stop (.pan h))) else some (.next ())) fun _=> (cd .i64 (a.atv+1)).bind fun e=> some (.ret (c1,(aD.mk a.s e)))
def M.f5 (g:Int) (h:Int):Option (aT 4):= (be (fun (f:(aT 4)×Int)=>match f with | (b,a)=> bif (decide (a≤(IntKind.i64.wrap h))) then (qq .i64 a 64).bind fun c=> (ie b c).bind fun i=> (lK a 64).bind fun t22=> (uZ .u64 1 t22).bind fun t23=> (oO b c (bits .or .u64 i t23)).bind fun e=> (cd .i64 (a+1)).bind fun t24=> some (.next (e,t24)) else some (.stop b)) ba ((aT.zero 4),(IntKind.i64.wrap g))).bind fun (d:(aT 4))=> some d
def M.c5 (j:aD):Option (Rt ((aT 4)×aD)):= (M.c1 j [93,92,45]).bind fun c=>c.on (fun a=> bo ((M.a3 a.2).bind fun f=> bif (f == 45) then (cd .i64 (a.2.atv+1)).bind fun d=> (M.c1 (aD.mk a.2.s d) [93,92,45]).bind fun c=>c.on (fun b=> bif (decide (b.1<a.1)) then (M.a4 (aD.mk b.2.s d)).bind fun c=>c.on (fun n=> some (.next (b.1,b.2.s,d))) (fun g=>some (.stop (.pan g))) else some (.next (b.1,b.2.s,b.2.atv))) (fun h=>some (.stop (.pan h))) else some (.next (a.1,a.2.s,a.2.atv))) fun (m,l,k)=> (M.f5 a.1 m).bind fun e=> some (.ret (e,(aD.mk l k)))) (fun i=>some (.pan i))
def M.i0 (a1:(aT 4)) (b1:(aT 4)):Option (aT 4):= (be (fun (st9:(aT 4)×Int)=>match st9 with | (a11,xv5)=> bif (decide (xv5<4)) then (ie a11 xv5).bind fun c11=> (ie b1 xv5).bind fun c12=> (oO a11 xv5 (bits .or .u64 c11 c12)).bind fun a14=> (cd .i64 (xv5+1)).bind fun t6=> some (.next (a14,t6)) else some (.stop a11)) ba (a1,(0:Int))).bind fun (a8:(aT 4))=> some a8
def M.d5 (s1:(aT 4)):Option (aT 4):= (be (fun (st9:(aT 4)×Int)=>match st9 with | (s11,xv5)=> bif (decide (xv5<4)) then (ie s11 xv5).bind fun c6=> (oO s11 xv5 (mN .u64 c6)).bind fun s14=> (cd .i64 (xv5+1)).bind fun t6=> some (.next (s14,t6)) else some (.stop s11)) ba (s1,(0:Int))).bind fun (s8:(aT 4))=> some s8
def M.d8 (v:aD):Option (Rt ((aT 4)×aD)):= (M.a5 v 91).bind fun a=>a.on (fun b=> (M.a3 b).bind fun i=> (bif (i == 94) then (cd .i64 (b.atv+1)).bind fun k=> some k else some b.atv).bind fun (t:Int)=> (M.c5 (aD.mk b.s t)).bind fun a=>a.on (fun c=> bo (be (fun (l:Str×Int×(aT 4))=>match l with | (f,e,g)=> (M.a3 (aD.mk f e)).bind fun o=> bif (o != 93) then (M.c5 (aD.mk f e)).bind fun a=>a.on (fun d=> (M.i0 g d.1).bind fun n=> some (.next (d.2.s,d.2.atv,n))) (fun p=>some (.stop (.stop (.pan p)))) else some (.stop (.next (f,e,g)))) ba (c.2.s,c.2.atv,c.1)) fun (j,u,h)=> (cd .i64 (u+1)).bind fun t3=> bif (i == 94) then (M.d5 h).bind fun m=> some (.ret (m,(aD.mk j t3))) else some (.ret (h,(aD.mk j t3)))) (fun q=>some (.pan q))) (fun r=>some (.pan r))
def M.j4 (d:Str):Option (aT 4):= (be (fun (h:(aT 4)×Int)=>match h with | (b,a)=> bif (decide (a<(d.length:Int))) then (jJ d a).bind fun e=> (qq .u8 e 64).bind fun c=> (ie b c).bind fun i=> (lK e 64).bind fun t22=> (uZ .u64 1 t22).bind fun t23=> (oO b c (bits .or .u64 i t23)).bind fun f=> (cd .i64 (a+1)).bind fun t24=> some (.next (f,t24)) else some (.stop b)) ba ((aT.zero 4),(0:Int))).bind fun (g:(aT 4))=> some g
def M.k5:Option (aT 4):= (M.j4 [10]).bind fun rv1=> (M.d5 rv1).bind fun rv2=> some rv2
def M.j5 (kind1:Int) (l1:(List T_Regex)):Option T_Regex:= bif ((l1.length:Int) == 1) then (bD l1 0).bind fun e1=> some e1 else some (T_Regex.mk kind1 (aT.zero 4) l1)
mutual
def M.e0:Nat→aD→Option (Rt (T_Regex×aD))
| 0,_=>none
| fl+1,c=>
 (M.a3 c).bind fun b=>
 bif (b == 40) then
  (cd .i64 (c.atv+1)).bind fun F=>
  (M.c3 fl (aD.mk c.s F)).bind fun a=>a.on (fun v=>
   (M.a5 v.2 41).bind fun a=>a.on (fun I=>
    some (.ret (v.1,I))) (fun S=>some (.pan S))) (fun k=>some (.pan k))
 else
  bif (b == 91) then
   (M.d8 c).bind fun a=>a.on (fun u=>
    some (.ret ((T_Regex.mk 3 u.1 []),u.2))) (fun R=>some (.pan R))
  else
   bif (b == 46) then
    (cd .i64 (c.atv+1)).bind fun D=>
    (M.k5).bind fun H=>
    some (.ret ((T_Regex.mk 3 H []),(aD.mk c.s D)))
   else
    (M.c1 c [40,41,91,93,124,42,43,63,46,92]).bind fun a=>a.on (fun p=>
     (M.f5 p.1 p.1).bind fun i=>
     some (.ret ((T_Regex.mk 3 i []),p.2))) (fun Q=>some (.pan Q))
def M.c9:Nat→aD→Option (Rt (T_Regex×aD))
| 0,_=>none
| fl+1,c=>
 (M.e0 fl c).bind fun a=>a.on (fun b=>
  be (fun (f:Int×Int×(aT 4)×(List T_Regex))=>match f with
  | (o,h,g,j)=>
   bo (
    (M.a3 (aD.mk b.2.s o)).bind fun m=>
    bif (m == 42) then
     some (.next ((6:Int),([(T_Regex.mk h g j)]:(List T_Regex))))
    else
     bif (m == 43) then
      some (.next ((4:Int),([(T_Regex.mk h g j),(T_Regex.mk 6 (aT.zero 4) [(T_Regex.mk h g j)])]:(List T_Regex))))
     else
      bif (m == 63) then
       some (.next ((5:Int),([(T_Regex.mk h g j),(T_Regex.mk 2 (aT.zero 4) [])]:(List T_Regex))))
      else
       some (.stop (.stop (.ret ((T_Regex.mk h g j),(aD.mk b.2.s o)))))) fun (J,z)=>
   (cd .i64 (o+1)).bind fun t3=>
   some (.next (t3,J,(aT.zero 4),z))) ba (b.2.atv,b.1.Kind,b.1.Set,b.1.Kids)) (fun k=>some (.pan k))
def M.b9:Nat→aD→Option (Rt (T_Regex×aD))
| 0,_=>none
| fl+1,c=>
 bo (
  be (fun (f:Str×Int×(List T_Regex))=>match f with
  | (e,d,t)=>
   (
    bif (decide (d<(e.length:Int))) then
     (jJ e d).bind fun x=>
     bif (x != 124) then
      some (x != 41)
     else
      some false
    else
     some false).bind fun (A:Bool)=>
   bif A then
    (M.c9 fl (aD.mk e d)).bind fun a=>a.on (fun i=>
     (cz 64 t [i.1]).bind fun U=>
     some (.next (i.2.s,i.2.atv,U))) (fun P=>some (.stop (.stop (.pan P))))
   else
    some (.stop (.next (t,e,d)))) ba (c.s,c.atv,([]:(List T_Regex)))) fun (q,w,l)=>
 bif ((q.length:Int) == 0) then
  some (.ret ((T_Regex.mk 2 (aT.zero 4) []),(aD.mk w l)))
 else
  (M.j5 4 q).bind fun G=>
  some (.ret (G,(aD.mk w l)))
def M.c3:Nat→aD→Option (Rt (T_Regex×aD))
| 0,_=>none
| fl+1,c=>
 (M.b9 fl c).bind fun a=>a.on (fun b=>
  bo (
   be (fun (f:Str×Int×(List T_Regex))=>match f with
   | (e,d,r)=>
    (M.a3 (aD.mk e d)).bind fun L=>
    bif (L == 124) then
     (cd .i64 (d+1)).bind fun B=>
     (M.b9 fl (aD.mk e B)).bind fun a=>a.on (fun n=>
      (cz 64 r [n.1]).bind fun T=>
      some (.next (n.2.s,n.2.atv,T))) (fun N=>some (.stop (.stop (.pan N))))
    else
     some (.stop (.next (r,e,d)))) ba (b.2.s,b.2.atv,([b.1]:(List T_Regex)))) fun (y,l,V)=>
  (M.j5 5 y).bind fun K=>
  some (.ret (K,(aD.mk l V)))) (fun k=>some (.pan k))
end
def M.e3:Nat→T_Regex→Int→Option Bool
| 0,_,_=>none
| fl+1,a,c=>
 (
  bif (c == 0) then
   some true
  else
   some ((a.Kind == 3) == (a.Set == (aT.zero 4)))).bind fun (g:Bool)=>
 bif g then
  some false
 else
  bo (
   (
    bif (a.Kind == 1) then
     some (a.Kind == 1)
    else
     bif (a.Kind == 2) then
      some (a.Kind == 2)
     else
      some (a.Kind == 3)).bind fun (f:Bool)=>
   bif f then
    some (.next ((0:Int),(0:Int)))
   else
    (
     bif (a.Kind == 4) then
      some (a.Kind == 4)
     else
      some (a.Kind == 5)).bind fun (e:Bool)=>
    bif e then
     some (.next ((2:Int),(a.Kids.length:Int)))
    else
     bif (a.Kind == 6) then
      some (.next ((1:Int),(1:Int)))
     else
      some (.stop false)) fun (l,k)=>
  (
   bif (decide ((a.Kids.length:Int)<l)) then
    some true
   else
    some (decide (k<(a.Kids.length:Int)))).bind fun (d:Bool)=>
  bif d then
   some false
  else
   bo (
    be (fun (b:Int)=>
     bif (decide (b<(a.Kids.length:Int))) then
      (bD a.Kids b).bind fun m=>
      (cd .i64 (c - 1)).bind fun i=>
      (M.e3 fl m i).bind fun j=>
      bif (!j) then
       some (.stop (.stop false))
      else
       (cd .i64 (b+1)).bind fun h=>
       some (.next h)
     else
      some (.stop (.next ()))) ba (0:Int)) fun _=>
   some true
def M.g7 (rv1:T_Regex):Option Bool:= (M.e3 ba rv1 30).bind fun rv2=> some rv2
def M.f9 (c:Str):Option (T_Regex×Int×Int):= (M.c3 ba (aD.mk c 0)).bind fun b=>b.on (fun a=> bo (bif (decide (a.2.atv<(c.length:Int))) then (M.a4 a.2).bind fun b=>b.on (fun g=> some (.next ())) (fun e=>some (.stop ((T_Regex.mk 0 (aT.zero 4) []),e,3))) else some (.next ())) fun _=> (M.g7 a.1).bind fun d=> bif (!d) then some ((T_Regex.mk 0 (aT.zero 4) []),0,11) else some (a.1,0,0)) (fun f=>some ((T_Regex.mk 0 (aT.zero 4) []),f,3))
def M.a1 (c1:(List bp)) (c2:Int) (c3:bp):Option Bool:= bo ((oR c1 0 c2).bind fun l2=> be (fun (xv5:Int)=> bif (decide (xv5<(l2.length:Int))) then (bD l2 xv5).bind fun e6=> bif (e6.Name == c3.Name) then some (.stop (.stop true)) else (cd .i64 (xv5+1)).bind fun t6=> some (.next t6) else some (.stop (.next ()))) ba (0:Int)) fun _=> some false
def M.h3 (b:Str):Option Bool:= (bif (b == []) then some true else bif (decide (24<(b.length:Int))) then some true else (bD M.k0 0).bind fun j=> bif (b == j) then some true else (bD M.k0 1).bind fun i=> bif (b == i) then some true else (bD M.k0 2).bind fun h=> some (b == h)).bind fun (f:Bool)=> bif f then some false else bo (be (fun (c:Int)=> bif (decide (c<(b.length:Int))) then (jJ b c).bind fun a=> (bif (decide (97≤a)) then bif (decide (a≤122)) then some true else bif (decide (65≤a)) then some (decide (a≤90)) else some false else bif (decide (65≤a)) then some (decide (a≤90)) else some false).bind fun (e:Bool)=> (bif (!e) then bif (c == 0) then some true else bif (a != 95) then bif (decide (a<48)) then some true else some (decide (57<a)) else some false else some false).bind fun (d:Bool)=> bif d then some (.stop (.stop false)) else (cd .i64 (c+1)).bind fun g=> some (.next g) else some (.stop (.next ()))) ba (0:Int)) fun _=> some true
def M.b3 (c1:bp):Option Bool:= (M.h3 c1.Name).bind fun rv1=> some (!rv1)
def M.b2 (c1:bp):Option Bool:= (bif (decide (c1.Kind<1)) then some true else some (decide (3<c1.Kind))).bind fun (xv1:Bool)=> some xv1
def M.b6 (c1:Int):Option Bool:= some (c1 != 0)
def M.c6:Nat→T_Regex→Option Bool
| 0,_=>none
| fl+1,a=>
 bo (
  (
   bif (a.Kind == 2) then
    some (a.Kind == 2)
   else
    some (a.Kind == 6)).bind fun (d:Bool)=>
  bif d then
   some (.stop true)
  else
   bif (a.Kind == 4) then
    bo (
     be (fun (c:Int)=>
      bif (decide (c<(a.Kids.length:Int))) then
       (bD a.Kids c).bind fun j=>
       (M.c6 fl j).bind fun h=>
       bif (!h) then
        some (.stop (.stop (.stop false)))
       else
        (cd .i64 (c+1)).bind fun f=>
        some (.next f)
      else
       some (.stop (.next ()))) ba (0:Int)) fun _=>
    some (.stop true)
   else
    bif (a.Kind == 5) then
     be (fun (b:Int)=>
      bif (decide (b<(a.Kids.length:Int))) then
       (bD a.Kids b).bind fun i=>
       (M.c6 fl i).bind fun g=>
       bif g then
        some (.stop (.stop true))
       else
        (cd .i64 (b+1)).bind fun e=>
        some (.next e)
      else
       some (.stop (.next ()))) ba (0:Int)
    else
     some (.next ())) fun _=>
 some false
def M.a7 (c1:T_Regex):Option Bool:= (M.c6 ba c1).bind fun rv1=> some rv1
def M.f2 (s1:Str):Option Bool:= bo (be (fun (xv9:Int)=> bif (decide (xv9<(s1.length:Int))) then ((jJ s1 xv9).bind fun c12=> bif (decide (c12<32)) then some true else some (decide (126<c12))).bind fun (xv12:Bool)=> bif xv12 then some (.stop (.stop false)) else (cd .i64 (xv9+1)).bind fun t6=> some (.next t6) else some (.stop (.next ()))) ba (0:Int)) fun _=> some true
def M.b1 (c1:bp):Option Bool:= (M.f2 c1.Close).bind fun rv1=> some (!rv1)
def M.a6 (e:(List bp)) (d:Int):Option Int:= (bD e d).bind fun a=> (M.f9 a.Pattern).bind fun b=> bo ((some ([(dm.mk (M.b3 a) 4),(dm.mk (M.a1 e d a) 5),(dm.mk (M.b2 a) 1),(dm.mk (M.b6 b.2.2) b.2.2),(dm.mk (M.a7 b.1) 10),(dm.mk (M.b1 a) 1)].length:Int)).bind fun t5=> be (fun (c:Int)=> bif (decide (c<t5)) then (bD [(dm.mk (M.b3 a) 4),(dm.mk (M.a1 e d a) 5),(dm.mk (M.b2 a) 1),(dm.mk (M.b6 b.2.2) b.2.2),(dm.mk (M.a7 b.1) 10),(dm.mk (M.b1 a) 1)] c).bind fun f=> (f.fails).bind fun h=> bif h then some (.stop (.stop f.err)) else (cd .i64 (c+1)).bind fun g=> some (.next g) else some (.stop (.next ()))) ba (0:Int)) fun _=> some 0
def M.g5:Nat→T_Regex→Option Int
| 0,_=>none
| fl+1,b=>
 (
  be (fun (f:Int×Int)=>match f with
  | (c,a)=>
   bif (decide (a<(b.Kids.length:Int))) then
    (bD b.Kids a).bind fun i=>
    (M.g5 fl i).bind fun g=>
    (cd .i64 (c+g)).bind fun e=>
    (cd .i64 (a+1)).bind fun d=>
    some (.next (e,d))
   else
    some (.stop c)) ba ((1:Int),(0:Int))).bind fun (h:Int)=>
 some h
def M.j2 (b1:bn) (rv1:T_Regex):Option (bX×bn):= some ((bX.mk false [] []),b1)
def M.i8 (b1:bn) (rv1:T_Regex):Option (bX×bn):= some ((bX.mk true [] []),b1)
def M.i1 (b1:bn) (rv1:T_Regex):Option (bX×bn):= (cz 32 b1.sets [rv1.Set]).bind fun y1=> (cz 8 b1.behind [[]]).bind fun y2=> some ((bX.mk false [(y1.length:Int)] [(y1.length:Int)]),(bn.mk y1 y2))
def M.d4 (i:bn) (g:(List Int)) (f:(List Int)):Option bn:= be (fun (d:(List (List (Int×Bool)))×Int)=>match d with | (e,c)=> bif (decide (c<(g.length:Int))) then ((bD g c).bind fun h=> be (fun (d:(List (List (Int×Bool)))×Int)=>match d with | (b,a)=> bif (decide (a<(f.length:Int))) then (bD f a).bind fun n=> (bD b h).bind fun m=> (dE b h (dM m n true)).bind fun j=> (cd .i64 (a+1)).bind fun t20=> some (.next (j,t20)) else some (.stop b)) ba (e,(0:Int))).bind fun (k:(List (List (Int×Bool))))=> (cd .i64 (c+1)).bind fun l=> some (.next (k,l)) else some (.stop (bn.mk i.sets e))) ba (i.behind,(0:Int))
def M.h5 (l:List Int) (n:Int):Option (List Int):=wZ l n
def M.a2 (a:(List (List Int))):Option (List Int):= (be (fun (d:Int×Int)=>match d with | (f,b)=> bif (decide (b<(a.length:Int))) then ((bD a b).bind fun o=> (cd .i64 (f+(o.length:Int))).bind fun e=> bif (decide (e<0)) then none else some e).bind fun (j:Int)=> (cd .i64 (b+1)).bind fun h=> some (.next (j,h)) else some (.stop f)) ba ((0:Int),(0:Int))).bind fun (i:Int)=> (M.h5 [] i).bind fun m=> (be (fun (d:(List Int)×Int)=>match d with | (g,c)=> bif (decide (c<(a.length:Int))) then (bD a c).bind fun n=> (cz 8 g n).bind fun l=> (cd .i64 (c+1)).bind fun t24=> some (.next (l,t24)) else some (.stop g)) ba (m,(0:Int))).bind fun (k:(List Int))=> some k
mutual
def M.e8:Nat→bn→T_Regex→Option (bX×bn)
| 0,_,_=>none
| fl+1,b,a=>
 (
  be (fun (p:(List (aT 4))×(List (List (Int×Bool)))×Bool×(List Int)×(List Int)×Int)=>match p with
  | (u,t,l,k,j,f)=>
   bif (decide (f<(a.Kids.length:Int))) then
    (bD a.Kids f).bind fun q=>
    (M.b8 fl (bn.mk u t) q).bind fun e=>
    (M.d4 e.2 j e.1.first).bind fun h=>
    (
     bif l then
      (M.a2 [k,e.1.first]).bind fun R=>
      some R
     else
      some k).bind fun (s:(List Int))=>
    (
     bif e.1.nullable then
      (M.a2 [j,e.1.last]).bind fun Q=>
      some Q
     else
      some e.1.last).bind fun (r:(List Int))=>
    bif l then
     (cd .i64 (f+1)).bind fun t9=>
     some (.next (h.sets,h.behind,e.1.nullable,s,r,t9))
    else
     (cd .i64 (f+1)).bind fun o=>
     some (.next (h.sets,h.behind,false,s,r,o))
   else
    some (.stop (l,k,j,u,t))) ba (b.sets,b.behind,true,([]:(List Int)),([]:(List Int)),(0:Int))).bind fun (I,H,G,F,D)=>
 some ((bX.mk I H G),(bn.mk F D))
def M.f1:Nat→bn→T_Regex→Option (bX×bn)
| 0,_,_=>none
| fl+1,b,a=>
 (
  be (fun (p:(List (aT 4))×(List (List (Int×Bool)))×Bool×(List Int)×(List Int)×Int)=>match p with
  | (x,w,v,n,m,g)=>
   bif (decide (g<(a.Kids.length:Int))) then
    (bD a.Kids g).bind fun q=>
    (M.b8 fl (bn.mk x w) q).bind fun c=>
    bif v then
     (M.a2 [n,c.1.first]).bind fun V=>
     (M.a2 [m,c.1.last]).bind fun U=>
     (cd .i64 (g+1)).bind fun t9=>
     some (.next (c.2.sets,c.2.behind,true,V,U,t9))
    else
     (M.a2 [n,c.1.first]).bind fun T=>
     (M.a2 [m,c.1.last]).bind fun S=>
     (cd .i64 (g+1)).bind fun o=>
     some (.next (c.2.sets,c.2.behind,c.1.nullable,T,S,o))
   else
    some (.stop (v,n,m,x,w))) ba (b.sets,b.behind,false,([]:(List Int)),([]:(List Int)),(0:Int))).bind fun (P,N,L,K,J)=>
 some ((bX.mk P N L),(bn.mk K J))
def M.f7:Nat→bn→T_Regex→Option (bX×bn)
| 0,_,_=>none
| fl+1,b,a=>
 (bD a.Kids 0).bind fun W=>
 (M.b8 fl b W).bind fun d=>
 (M.d4 d.2 d.1.last d.1.first).bind fun i=>
 some ((bX.mk true d.1.first d.1.last),i)
def M.b8:Nat→bn→T_Regex→Option (bX×bn)
| 0,_,_=>none
| fl+1,b,a=>
 bif (a.Kind == 6) then
  (M.f7 fl b a).bind fun d=>
  some (d.1,d.2)
 else
  bif (a.Kind == 5) then
   (M.f1 fl b a).bind fun i=>
   some (i.1,i.2)
  else
   bif (a.Kind == 4) then
    (M.e8 fl b a).bind fun B=>
    some (B.1,B.2)
   else
    bif (a.Kind == 3) then
     (M.i1 b a).bind fun A=>
     some (A.1,A.2)
    else
     bif (a.Kind == 2) then
      (M.i8 b a).bind fun z=>
      some (z.1,z.2)
     else
      bif (a.Kind == 1) then
       (M.j2 b a).bind fun y=>
       some (y.1,y.2)
      else
       none
end
def M.d1 (f:(List T_Regex)):Option (T_NFA×Int):= bo (be (fun (a:Int×Int)=>match a with | (t,k)=> bif (decide (k<(f.length:Int))) then (bD f k).bind fun v=> (M.g7 v).bind fun W=> bif (!W) then some (.stop (.stop ((T_NFA.mk 0 0 [] []),1))) else (M.g5 ba v).bind fun V=> (cd .i64 (t+V)).bind fun U=> (cd .i64 (k+1)).bind fun T=> some (.next (U,T)) else some (.stop (.next t))) ba ((0:Int),(0:Int))) fun (D:Int)=> bif (decide (500<D)) then some ((T_NFA.mk 0 0 [] []),11) else (be (fun (a:(List (aT 4))×(List (List (Int×Bool)))×(List Int)×Int)=>match a with | (q,p,o,b)=> bif (decide (b<(f.length:Int))) then ((bD f b).bind fun a2=> (M.b8 ba (bn.mk q p) a2).bind fun d=> (M.d4 d.2 [0] d.1.first).bind fun c=> (be (fun (j:(List Int))=> bif (decide ((j.length:Int)≤(c.sets.length:Int))) then (cz 8 j [(-1)]).bind fun A=> some (.next A) else some (.stop j)) ba o).bind fun (I:(List Int))=> (be (fun (a:(List Int)×Int)=>match a with | (n,h)=> bif (decide (h<(d.1.last.length:Int))) then (bD d.1.last h).bind fun a1=> (dE n a1 b).bind fun z=> (cd .i64 (h+1)).bind fun P=> some (.next (z,P)) else some (.stop n)) ba (I,(0:Int))).bind fun (i:(List Int))=> (bif d.1.nullable then (bD i 0).bind fun a0=> some (decide (a0<0)) else some false).bind fun (H:Bool)=> bif H then (dE i 0 b).bind fun y=> some (c.sets,c.behind,y) else some (c.sets,c.behind,i)).bind fun (K,J,B)=> (cd .i64 (b+1)).bind fun N=> some (.next (K,J,B,N)) else some (.stop (q,p,o))) ba (([]:(List (aT 4))),([[]]:(List (List (Int×Bool)))),([(-1)]:(List Int)),(0:Int))).bind fun (L,s,r)=> (be (fun (a:(List ca)×Int)=>match a with | (m,e)=> bif (decide (e<(s.length:Int))) then ((bD s e).bind fun Y=> (sm Y).bind fun u=> be (fun (a:(List ca)×Int)=>match a with | (l,g)=> bif (decide (g<(u.length:Int))) then (bD u g).bind fun w=> (cd .i64 (w - 1)).bind fun S=> (bD L S).bind fun X=> (cz 56 l [(ca.mk e w false X)]).bind fun x=> (cd .i64 (g+1)).bind fun R=> some (.next (x,R)) else some (.stop l)) ba (m,(0:Int))).bind fun (F:(List ca))=> (cd .i64 (e+1)).bind fun Q=> some (.next (F,Q)) else some (.stop m)) ba (([]:(List ca)),(0:Int))).bind fun (G:(List ca))=> some ((T_NFA.mk (r.length:Int) 0 G r),0)
def M.h1 (s1:Int) (c1:T_NFA):Option Bool:= (bif (decide (0≤s1)) then some (decide (s1<c1.States)) else some false).bind fun (xv1:Bool)=> some xv1
def M.c2 (s1:(List Int)) (f1:(Int→Option Bool)):Option Int:= bo (be (fun (xv5:Int)=> bif (decide (xv5<(s1.length:Int))) then (bD s1 xv5).bind fun e6=> (f1 e6).bind fun rv6=> bif rv6 then some (.stop (.stop xv5)) else (cd .i64 (xv5+1)).bind fun t6=> some (.next t6) else some (.stop (.next ()))) ba (0:Int)) fun _=> some (-1)
def M.a8 (s1:(List Int)) (f1:(Int→Option Bool)):Option Bool:= (M.c2 s1 f1).bind fun rv1=> some (decide (0≤rv1))
def M.l7 (xv1:Int):Option Bool:= some (decide (xv1<(-1)))
def M.k7 (a:T_NFA):Option Bool:= (bif (decide (a.States<1)) then some true else bif (decide (2000<a.States)) then some true else (M.h1 a.Start a).bind fun j=> bif (!j) then some true else some ((a.Accept.length:Int) != a.States)).bind fun (e:Bool)=> bif e then some false else bo (be (fun (c:Int)=> bif (decide (c<(a.Arcs.length:Int))) then (bD a.Arcs c).bind fun b=> ((M.h1 b.From a).bind fun i=> bif (!i) then some true else (M.h1 b.To a).bind fun h=> bif (!h) then some true else bif b.Epsilon then some (b.Set != (aT.zero 4)) else some false).bind fun (d:Bool)=> bif d then some (.stop (.stop false)) else (cd .i64 (c+1)).bind fun f=> some (.next f) else some (.stop (.next ()))) ba (0:Int)) fun _=> (M.a8 a.Accept M.l7).bind fun g=> some (!g)
def M.g0 (s1:(aT 4)) (b1:Int):Option Bool:= (qq .u8 b1 64).bind fun t1=> (ie s1 t1).bind fun c1=> (lK b1 64).bind fun t2=> (sL .u64 c1 t2).bind fun t3=> some ((bits .and .u64 t3 1) == 1)
def M.g4 (e:(List (aT 4))):Option (List Int):= (pA 8 256 (0:Int)).bind fun i=> (be (fun (d:(List Int)×(List (Str×Int))×Int)=>match d with | (h,a,c)=> bif (decide (c<(i.length:Int))) then ((pA 1 (e.length:Int) (0:Int)).bind fun u=> (be (fun (d:(List Int)×Int)=>match d with | (f,b)=> bif (decide (b<(e.length:Int))) then ((bD e b).bind fun v=> (M.g0 v (IntKind.u8.wrap c)).bind fun l=> bif l then (dE f b 1).bind fun s=> some s else some f).bind fun (t:(List Int))=> (cd .i64 (b+1)).bind fun k=> some (.next (t,k)) else some (.stop f)) ba (u,(0:Int))).bind fun (g:(List Int))=> (bif (!((bY a (cX g)).isSome)) then some ((dM a (cX g) (a.length:Int)),(a.length:Int)) else some (a,((bY a (cX g)).getD 0))).bind fun (q,p)=> (dE h c p).bind fun m=> some (m,q)).bind fun (n,r)=> (cd .i64 (c+1)).bind fun j=> some (.next (n,r,j)) else some (.stop h)) ba (i,([]:(List (Str×Int))),(0:Int))).bind fun (o:(List Int))=> some o
def M.i2 (c:(List Int)):Option (List Int):= (be (fun (f:(List Int)×Int)=>match f with | (b,a)=> bif (decide (a<(c.length:Int))) then ((bD c a).bind fun i=> bif (i == (b.length:Int)) then (cz 1 b [(IntKind.u8.wrap a)]).bind fun g=> some g else some b).bind fun (h:(List Int))=> (cd .i64 (a+1)).bind fun e=> some (.next (h,e)) else some (.stop b)) ba (([]:(List Int)),(0:Int))).bind fun (d:(List Int))=> some d
def M.g6 (s1:Int) (c1:T_NFA) (c2:(List Bool)) (c3:(List Int)):Option ((List Bool)×(List Int)):= (bif (decide (0≤s1)) then bif (decide (s1<c1.States)) then (bD c2 s1).bind fun e2=> some (!e2) else some false else some false).bind fun (xv1:Bool)=> bif xv1 then (dE c2 s1 true).bind fun y1=> (cz 8 c3 [s1]).bind fun y2=> some (y1,y2) else some (c2,c3)
def M.l2 (c:(List Bool)):Option (List Int):= (be (fun (f:(List Int)×Int)=>match f with | (b,a)=> bif (decide (a<(c.length:Int))) then ((bD c a).bind fun i=> bif i then (cz 8 b [a]).bind fun g=> some g else some b).bind fun (h:(List Int))=> (cd .i64 (a+1)).bind fun e=> some (.next (h,e)) else some (.stop b)) ba (([]:(List Int)),(0:Int))).bind fun (d:(List Int))=> some d
def M.h2 (b:T_NFA) (j:(List Int)):Option (List Int):= (pA 1 b.States (false:Bool)).bind fun y=> (be (fun (a:(List Bool)×(List Int)×Int)=>match a with | (m,i,d)=> bif (decide (d<(j.length:Int))) then (bD j d).bind fun z=> (M.g6 z b m i).bind fun k=> (cd .i64 (d+1)).bind fun s=> some (.next (k.1,k.2,s)) else some (.stop (m,i))) ba (y,([]:(List Int)),(0:Int))).bind fun (w,o)=> (be (fun (a:(List Bool)×(List Int))=>match a with | (n,c)=> bif (decide (0<(c.length:Int))) then (cd .i64 ((c.length:Int) - 1)).bind fun t27=> (bD c t27).bind fun A=> (oR c 0 t27).bind fun v=> be (fun (a:(List Bool)×(List Int)×Int)=>match a with | (g,f,e)=> bif (decide (e<(b.Arcs.length:Int))) then ((bD b.Arcs e).bind fun h=> (bif h.Epsilon then some (h.From == A) else some false).bind fun (p:Bool)=> bif p then (M.g6 h.To b g f).bind fun l=> some (l.1,l.2) else some (g,f)).bind fun (r,q)=> (cd .i64 (e+1)).bind fun t=> some (.next (r,q,t)) else some (.stop (.next (g,f)))) ba (n,v,(0:Int)) else some (.stop n)) ba (w,o)).bind fun (x:(List Bool))=> (M.l2 x).bind fun u=> some u
def M.m3 (c:(List Int)):Option Str:= (be (fun (h:(List Int)×Int)=>match h with | (b,a)=> bif (decide (a<(c.length:Int))) then (bD c a).bind fun d=> (sL .i64 d 8).bind fun g=> (cz 1 b [(IntKind.u8.wrap d),(IntKind.u8.wrap g)]).bind fun i=> (cd .i64 (a+1)).bind fun f=> some (.next (i,f)) else some (.stop b)) ba (([]:(List Int)),(0:Int))).bind fun (e:(List Int))=> some (cX e)
def M.m5 (a:T_NFA) (n:(List Int)) (w:Int):Option (List Int):= (pA 1 a.States (false:Bool)).bind fun t=> ((M.h2 a n).bind fun g=> be (fun (f:(List Bool)×Int)=>match f with | (h,c)=> bif (decide (c<(g.length:Int))) then (bD g c).bind fun u=> (dE h u true).bind fun s=> (cd .i64 (c+1)).bind fun l=> some (.next (s,l)) else some (.stop h)) ba (t,(0:Int))).bind fun (r:(List Bool))=> (be (fun (f:(List Int)×Int)=>match f with | (e,d)=> bif (decide (d<(a.Arcs.length:Int))) then ((bD a.Arcs d).bind fun b=> (bif (!b.Epsilon) then (bD r b.From).bind fun v=> bif v then (M.g0 b.Set w).bind fun p=> some p else some false else some false).bind fun (q:Bool)=> bif q then (cz 8 e [b.To]).bind fun j=> some j else some e).bind fun (k:(List Int))=> (cd .i64 (d+1)).bind fun m=> some (.next (k,m)) else some (.stop e)) ba (([]:(List Int)),(0:Int))).bind fun (i:(List Int))=> (M.h2 a i).bind fun o=> some o
def M.k4 (j:T_NFA) (d:(List Int)):Option Int:= (be (fun (g:Int×Int)=>match g with | (a,b)=> bif (decide (b<(d.length:Int))) then ((bD d b).bind fun k=> (bD j.Accept k).bind fun c=> (bif (decide (0≤c)) then bif (decide (a<0)) then some true else some (decide (c<a)) else some false).bind fun (e:Bool)=> bif e then some c else some a).bind fun (i:Int)=> (cd .i64 (b+1)).bind fun f=> some (.next (i,f)) else some (.stop a)) ba (((-1):Int),(0:Int))).bind fun (h:Int)=> some h
def M.d2 (b:T_NFA):Option (T_DFA×Int):= (M.k7 b).bind fun S=> bif (!S) then some ((T_DFA.mk [] [] []),1) else (be (fun (e:(List (aT 4))×Int)=>match e with | (o,h)=> bif (decide (h<(b.Arcs.length:Int))) then (bD b.Arcs h).bind fun e6=> (cz 32 o [e6.Set]).bind fun B=> (cd .i64 (h+1)).bind fun N=> some (.next (B,N)) else some (.stop o)) ba (([]:(List (aT 4))),(0:Int))).bind fun (D:(List (aT 4)))=> (M.g4 D).bind fun r=> (M.i2 r).bind fun i=> (M.h2 b [b.Start]).bind fun q=> (bD [q] 0).bind fun e7=> (M.m3 e7).bind fun R=> bo (be (fun (e:(List (List Int))×(List Int)×(List (List Int))×(List (Str×Int))×Int)=>match e with | (n,m,l,X,f)=> bif (decide (f<(l.length:Int))) then bo ((pA 8 (i.length:Int) (0:Int)).bind fun a0=> bo (be (fun (e:(List (List Int))×(List (Str×Int))×(List Int)×Int)=>match e with | (a,c,s,d)=> bif (decide (d<(i.length:Int))) then bo ((bD i d).bind fun a5=> (bD a f).bind fun a4=> (M.m5 b a4 a5).bind fun g=> (dE s d (-1)).bind fun j=> bif ((g.length:Int) == 0) then some (.next (a,c,j)) else (M.m3 g).bind fun p=> bo (bif (!((bY c p).isSome)) then bif ((a.length:Int) == 500) then some (.stop (.stop (.stop (.stop (.stop (.stop (.stop ((T_DFA.mk [] [] []),11)))))))) else (M.m3 g).bind fun Q=> (cz 24 a [g]).bind fun w=> some (.next (w,(dM c Q (a.length:Int)),(a.length:Int))) else some (.next (a,c,((bY c p).getD 0)))) fun (x,T,F)=> (dE j d F).bind fun v=> some (.next (x,T,v))) fun (G,U,y)=> (cd .i64 (d+1)).bind fun L=> some (.next (G,U,y,L)) else some (.stop (.next (a,c,s)))) ba (l,X,a0,(0:Int))) fun (k,V,Y)=> (cz 24 n [Y]).bind fun u=> (bD k f).bind fun a3=> (M.k4 b a3).bind fun P=> (cz 8 m [P]).bind fun t=> some (.next (u,t,k,V))) fun (A,z,H,W)=> (cd .i64 (f+1)).bind fun K=> some (.next (A,z,H,W,K)) else some (.stop (.next (n,m)))) ba (([]:(List (List Int))),([]:(List Int)),([q]:(List (List Int))),(dM [] R 0),(0:Int))) fun (J,I)=> some ((T_DFA.mk r J I),0)
def M.m6 (a:T_DFA):Option T_DFA:= ((pA 8 (a.Class.length:Int) (0:Int)).bind fun A=> some A).bind fun (B:(List Int))=> (be (fun (c:(List (Int×Int))×(List Int)×(List Int)×Int)=>match c with | (e,b,l,d)=> bif (decide (d<(a.Class.length:Int))) then (bD a.Class d).bind fun f=> (bif (!((bY e f).isSome)) then (cz 8 b [f]).bind fun n=> some ((dM e f (b.length:Int)),n,(b.length:Int)) else some (e,b,((bY e f).getD 0))).bind fun (y,o,s)=> (dE l d s).bind fun m=> (cd .i64 (d+1)).bind fun x=> some (.next (y,o,m,x)) else some (.stop (b,l))) ba (([]:(List (Int×Int))),([]:(List Int)),B,(0:Int))).bind fun (k,z)=> (be (fun (c:(List (List Int))×Int)=>match c with | (j,h)=> bif (decide (h<(a.Next.length:Int))) then ((bD a.Next h).bind fun G=> (be (fun (c:(List Int)×Int)=>match c with | (i,g)=> bif (decide (g<(k.length:Int))) then (bD k g).bind fun F=> (bD G F).bind fun D=> (cz 8 i [D]).bind fun q=> (cd .i64 (g+1)).bind fun w=> some (.next (q,w)) else some (.stop i)) ba (([]:(List Int)),(0:Int))).bind fun (t:(List Int))=> (cz 24 j [t]).bind fun p=> some p).bind fun (r:(List (List Int)))=> (cd .i64 (h+1)).bind fun v=> some (.next (r,v)) else some (.stop j)) ba (([]:(List (List Int))),(0:Int))).bind fun (u:(List (List Int)))=> some (T_DFA.mk z u a.Accept)
def M.j3 (t1:Int) (c1:(List Bool)):Option Bool:= (bif (decide (0≤t1)) then (bD c1 t1).bind fun e3=> some e3 else some false).bind fun (e2:Bool)=> some e2
def M.m7 (d:T_DFA):Option (List Bool):= (pA 1 (d.Next.length:Int) (false:Bool)).bind fun t=> (be (fun (b:(List Bool)×Int)=>match b with | (g,e)=> bif (decide (e<(d.Accept.length:Int))) then (bD d.Accept e).bind fun u=> (dE g e (decide (0≤u))).bind fun j=> (cd .i64 (e+1)).bind fun m=> some (.next (j,m)) else some (.stop g)) ba (t,(0:Int))).bind fun (r:(List Bool))=> (be (fun (b:(List Bool)×Bool)=>match b with | (h,q)=> bif q then be (fun (b:(List Bool)×Bool×Int)=>match b with | (c,f,a)=> bif (decide (a<(d.Next.length:Int))) then ((bD d.Next a).bind fun w=> ((bD c a).bind fun v=> bif (!v) then (M.a8 w (fun l=>M.j3 l c)).bind fun n=> some n else some false).bind fun (o:Bool)=> bif o then (dE c a true).bind fun i=> some (i,true) else some (c,f)).bind fun (k,p)=> (cd .i64 (a+1)).bind fun t24=> some (.next (k,p,t24)) else some (.stop (.next (c,f)))) ba (h,false,(0:Int)) else some (.stop h)) ba (r,true)).bind fun (s:(List Bool))=> some s
def M.d7 (s1:(List Int)):Option (List Int):= (cz 8 [] s1).bind fun y1=> some y1
def M.l4 (a:T_DFA):Option T_DFA:= (M.m7 a).bind fun p=> (be (fun (e:(List (List Int))×Int)=>match e with | (f,d)=> bif (decide (d<(a.Next.length:Int))) then ((bD a.Next d).bind fun t=> (M.d7 t).bind fun g=> (be (fun (e:(List Int)×Int)=>match e with | (c,b)=> bif (decide (b<(g.length:Int))) then ((bD c b).bind fun h=> (bif (decide (0≤h)) then (bD p h).bind fun s=> some (!s) else some false).bind fun (i:Bool)=> bif i then (dE c b (-1)).bind fun m=> some m else some c).bind fun (n:(List Int))=> (cd .i64 (b+1)).bind fun l=> some (.next (n,l)) else some (.stop c)) ba (g,(0:Int))).bind fun (o:(List Int))=> (cz 24 f [o]).bind fun q=> some q).bind fun (r:(List (List Int)))=> (cd .i64 (d+1)).bind fun k=> some (.next (r,k)) else some (.stop f)) ba (([]:(List (List Int))),(0:Int))).bind fun (j:(List (List Int)))=> some (T_DFA.mk a.Class j a.Accept)
def M.h8 (f:(List Int)):Option Str:= (be (fun (c:(List Int)×Int)=>match c with | (e,b)=> bif (decide (b<(f.length:Int))) then ((bD f b).bind fun m=> be (fun (c:(List Int)×Int)=>match c with | (d,a)=> bif (decide (a<8)) then (cd .i64 (8*a)).bind fun l=> (sL .i64 m l).bind fun k=> (cz 1 d [(IntKind.u8.wrap k)]).bind fun n=> (cd .i64 (a+1)).bind fun j=> some (.next (n,j)) else some (.stop d)) ba (e,(0:Int))).bind fun (g:(List Int))=> (cd .i64 (b+1)).bind fun i=> some (.next (g,i)) else some (.stop e)) ba (([]:(List Int)),(0:Int))).bind fun (h:(List Int))=> some (cX h)
def M.h9 (d:T_DFA):Option (List Int):= (pA 8 (d.Next.length:Int) (0:Int)).bind fun D=> be (fun (c:(List Int)×Int)=>match c with | (g,u)=> (pA 8 (g.length:Int) (0:Int)).bind fun B=> (be (fun (c:(List (Str×Int))×(List Int)×Int)=>match c with | (a,k,b)=> bif (decide (b<(d.Next.length:Int))) then ((bD d.Next b).bind fun n=> (bD g b).bind fun H=> (bD d.Accept b).bind fun G=> (be (fun (c:(List Int)×Int)=>match c with | (f,e)=> bif (decide (e<(n.length:Int))) then ((bD n e).bind fun m=> bif (decide (m<0)) then (cz 8 f [0]).bind fun q=> some q else (bD g m).bind fun F=> (cd .i64 (F+1)).bind fun x=> (cz 8 f [x]).bind fun p=> some p).bind fun (r:(List Int))=> (cd .i64 (e+1)).bind fun w=> some (.next (r,w)) else some (.stop f)) ba (([H,(IntKind.i64.wrap (G+1))]:(List Int)),(0:Int))).bind fun (h:(List Int))=> (M.h8 h).bind fun i=> (bif (!((bY a i).isSome)) then (M.h8 h).bind fun y=> some ((dM a y (a.length:Int)),(a.length:Int)) else some (a,((bY a i).getD 0))).bind fun (z,t)=> (dE k b t).bind fun o=> some (z,o)).bind fun (A,s)=> (cd .i64 (b+1)).bind fun v=> some (.next (A,s,v)) else some (.stop (a,k))) ba (([]:(List (Str×Int))),B,(0:Int))).bind fun (j,l)=> bif ((j.length:Int) == u) then some (.stop l) else some (.next (l,(j.length:Int)))) ba (D,(0:Int))
def M.k2 (j:T_DFA) (g:(List Int)):Option (List Int):= (pA 1 (j.Next.length:Int) (false:Bool)).bind fun t=> (bD g 0).bind fun A=> (dE t A true).bind fun o=> (be (fun (f:(List Int)×(List Bool)×Int)=>match f with | (a,s,h)=> bif (decide (h<(a.length:Int))) then ((bD a h).bind fun z=> (bD j.Next z).bind fun i=> be (fun (f:(List Int)×(List Bool)×Int)=>match f with | (e,b,d)=> bif (decide (d<(i.length:Int))) then ((bD i d).bind fun c=> (bif (decide (0≤c)) then (bD g c).bind fun y=> (bD b y).bind fun x=> some (!x) else some false).bind fun (l:Bool)=> bif l then (bD g c).bind fun w=> (dE b w true).bind fun p=> (cz 8 e [c]).bind fun u=> some (u,p) else some (e,b)).bind fun (v,q)=> (cd .i64 (d+1)).bind fun t41=> some (.next (v,q,t41)) else some (.stop (e,b))) ba (a,s,(0:Int))).bind fun (m,r)=> (cd .i64 (h+1)).bind fun n=> some (.next (m,r,n)) else some (.stop a)) ba (([0]:(List Int)),o,(0:Int))).bind fun (k:(List Int))=> some k
def M.j0 (d1:T_DFA) (s1:Int) (b1:Int):Option Int:= bif (decide (s1<0)) then some (-1) else (bD d1.Next s1).bind fun e1=> (bD d1.Class b1).bind fun e2=> (bD e1 e2).bind fun e3=> some e3
def M.k3 (t:T_DFA) (i:(List Int)) (s:(List Int)):Option (List Int):= (pA 8 256 (0:Int)).bind fun k=> (be (fun (d:(List Int)×(List (Str×Int))×Int)=>match d with | (j,a,b)=> bif (decide (b<(k.length:Int))) then ((be (fun (d:(List Int)×Int)=>match d with | (f,c)=> bif (decide (c<(i.length:Int))) then (bD i c).bind fun z=> (M.j0 t z (IntKind.u8.wrap b)).bind fun e=> (bif (decide (0≤e)) then (bD s e).bind fun x=> some x else some e).bind fun (y:Int)=> (cz 8 f [y]).bind fun m=> (cd .i64 (c+1)).bind fun q=> some (.next (m,q)) else some (.stop f)) ba (([]:(List Int)),(0:Int))).bind fun (g:(List Int))=> (M.h8 g).bind fun h=> (bif (!((bY a h).isSome)) then (M.h8 g).bind fun r=> some ((dM a r (a.length:Int)),(a.length:Int)) else some (a,((bY a h).getD 0))).bind fun (u,o)=> (dE j b o).bind fun l=> some (l,u)).bind fun (n,v)=> (cd .i64 (b+1)).bind fun p=> some (.next (n,v,p)) else some (.stop j)) ba (k,([]:(List (Str×Int))),(0:Int))).bind fun (w:(List Int))=> some w
def M.f3 (L:T_DFA):Option T_DFA:= (M.m6 L).bind fun K=> (M.l4 K).bind fun d=> (M.h9 d).bind fun f=> ((M.k2 d f).bind fun J=> (M.k3 d J f).bind fun I=> some I).bind fun (p:(List Int))=> (M.i2 p).bind fun h=> (bD f 0).bind fun e1=> (be (fun (g:(List (List Int))×(List Int)×(List Int)×(List (Int×Int))×Int)=>match g with | (o,n,m,S,e)=> bif (decide (e<(m.length:Int))) then ((pA 8 (h.length:Int) (0:Int)).bind fun U=> (be (fun (g:(List Int)×(List (Int×Int))×(List Int)×Int)=>match g with | (a,b,q,c)=> bif (decide (c<(h.length:Int))) then ((bD h c).bind fun Y=> (bD a e).bind fun X=> (M.j0 d X Y).bind fun i=> (dE q c (-1)).bind fun k=> bif (decide (i<0)) then some (a,b,k) else (bD f i).bind fun j=> (bif (!((bY b j).isSome)) then (cz 8 a [i]).bind fun u=> some (u,(dM b j (a.length:Int)),(a.length:Int)) else some (a,b,((bY b j).getD 0))).bind fun (v,N,z)=> (dE k c z).bind fun t=> some (v,N,t)).bind fun (A,P,w)=> (cd .i64 (c+1)).bind fun H=> some (.next (A,P,w,H)) else some (.stop (a,b,q))) ba (m,S,U,(0:Int))).bind fun (l,Q,T)=> (cz 24 o [T]).bind fun s=> (bD l e).bind fun W=> (bD d.Accept W).bind fun V=> (cz 8 n [V]).bind fun r=> some (s,r,l,Q)).bind fun (y,x,B,R)=> (cd .i64 (e+1)).bind fun G=> some (.next (y,x,B,R,G)) else some (.stop (o,n))) ba (([]:(List (List Int))),([]:(List Int)),([0]:(List Int)),(dM [] e1 0),(0:Int))).bind fun (F,D)=> some (T_DFA.mk p F D)
def M.b4 (l1:(List T_Regex)):Option (T_DFA×Int):= (M.d1 l1).bind fun rv1=> bif (rv1.2 != 0) then some ((T_DFA.mk [] [] []),rv1.2) else (M.d2 rv1.1).bind fun rv2=> bif (rv2.2 != 0) then some ((T_DFA.mk [] [] []),rv2.2) else (M.f3 rv2.1).bind fun rv3=> some (rv3,0)
def M.i3 (d1:T_DFA) (s1:Int):Option Int:= bif (decide (s1<0)) then some (-1) else (bD d1.Accept s1).bind fun e1=> some e1
def M.n1 (d:T_DFA) (c:Str):Option Int:= (be (fun (h:Int×Int)=>match h with | (b,a)=> bif (decide (a<(c.length:Int))) then (jJ c a).bind fun j=> (M.j0 d b j).bind fun g=> (cd .i64 (a+1)).bind fun e=> some (.next (g,e)) else some (.stop b)) ba ((0:Int),(0:Int))).bind fun (f:Int)=> (M.i3 d f).bind fun i=> some i
def M.e9 (d:Str):Option T_Regex:= (be (fun (g:(List T_Regex)×Int)=>match g with | (c,b)=> bif (decide (b<(d.length:Int))) then (jJ d b).bind fun e=> (M.f5 e e).bind fun h=> (cz 64 c [(T_Regex.mk 3 h [])]).bind fun i=> (cd .i64 (b+1)).bind fun f=> some (.next (i,f)) else some (.stop c)) ba (([]:(List T_Regex)),(0:Int))).bind fun (a:(List T_Regex))=> bif ((a.length:Int) == 1) then (bD a 0).bind fun j=> some j else some (T_Regex.mk 4 (aT.zero 4) a)
def M.f8 (m:T_DFA) (l:T_DFA):Option (Str×Bool):= bo (be (fun (i:(List cI)×(List (bJ×Unit))×Int)=>match i with | (h,y,g)=> bif (decide (g<(h.length:Int))) then bo ((bD h g).bind fun c=> (M.i3 m c.atv.a).bind fun v=> (M.i3 l c.atv.b).bind fun u=> bif (v != u) then some (.stop (.stop (.stop (c.text,true)))) else be (fun (i:(List cI)×(List (bJ×Unit))×Int)=>match i with | (f,e,d)=> bif (decide (d<256)) then (((M.j0 m c.atv.a (IntKind.u8.wrap d)).bind fun t=> (M.j0 l c.atv.b (IntKind.u8.wrap d)).bind fun s=> some (t,s)).bind fun (k,j)=> bif (!((bY e (bJ.mk k j)).isSome)) then (zL c.text (cX [(IntKind.u8.wrap d)])).bind fun r=> (cz 32 f [(cI.mk (bJ.mk k j) r)]).bind fun n=> some (n,(dM e (bJ.mk k j) ())) else some (f,e)).bind fun (o,w)=> (cd .i64 (d+1)).bind fun t41=> some (.next (o,w,t41)) else some (.stop (.next (f,e)))) ba (h,y,(0:Int))) fun (p,x)=> (cd .i64 (g+1)).bind fun q=> some (.next (p,x,q)) else some (.stop (.next ()))) ba (([(cI.mk (bJ.mk 0 0) [])]:(List cI)),(dM [] (bJ.mk 0 0) ()),(0:Int))) fun _=> some ([],false)
def M.d6 (rv1:T_Regex) (s1:Str):Option Bool:= (M.b4 [rv1]).bind fun rv2=> (M.e9 s1).bind fun rv3=> (M.b4 [rv3]).bind fun rv4=> (bif (rv2.2 != 0) then some true else some (rv4.2 != 0)).bind fun (xv1:Bool)=> bif xv1 then some false else (M.f8 rv2.1 rv4.1).bind fun rv5=> some (!rv5.2)
def M.b0 (a:T_LexSpec):Option (T_DFA×Int×Int):= (bif (decide ((a.Defs.length:Int)<1)) then some true else some (decide (40<(a.Defs.length:Int)))).bind fun (l:Bool)=> bif l then some ((T_DFA.mk [] [] []),0,11) else bo (be (fun (o:(List T_Regex)×Int)=>match o with | (g,c)=> bif (decide (c<(a.Defs.length:Int))) then (bD a.Defs c).bind fun s=> (M.a6 a.Defs c).bind fun h=> bif (h != 0) then some (.stop (.stop ((T_DFA.mk [] [] []),c,h))) else (M.f9 s.Pattern).bind fun r=> (cz 64 g [r.1]).bind fun i=> (cd .i64 (c+1)).bind fun m=> some (.next (i,m)) else some (.stop (.next g))) ba (([]:(List T_Regex)),(0:Int))) fun (f:(List T_Regex))=> (bif (decide (a.Misspelling<0)) then some true else bif (decide (1000<a.Misspelling)) then some true else bif (decide (a.Unclosed<0)) then some true else some (decide (1000<a.Unclosed))).bind fun (k:Bool)=> bif k then some ((T_DFA.mk [] [] []),(a.Defs.length:Int),1) else (M.b4 f).bind fun d=> bif (d.2 != 0) then some ((T_DFA.mk [] [] []),0,d.2) else bo (be (fun (b:Int)=> bif (decide (b<(a.Defs.length:Int))) then (bD a.Defs b).bind fun e=> (M.n1 d.1 e.Sample).bind fun q=> bif (q != b) then some (.stop (.stop ((T_DFA.mk [] [] []),b,13))) else (bif (e.Kind == 3) then (bD f b).bind fun t=> (M.d6 t e.Sample).bind fun p=> some (!p) else some false).bind fun (j:Bool)=> bif j then some (.stop (.stop ((T_DFA.mk [] [] []),b,14))) else (cd .i64 (b+1)).bind fun n=> some (.next n) else some (.stop (.next ()))) ba (0:Int)) fun _=> some (d.1,0,0)
def M.b7 (spec1:T_LexSpec):Option (Int×Int):= (M.b0 spec1).bind fun rv1=> some (rv1.2.1,rv1.2.2)
def M.g3 (spec1:T_LexSpec):Option (T_DFA×Int):= (M.b0 spec1).bind fun rv1=> some (rv1.1,rv1.2.2)
def M.m4:Option T_LexSpec:= some (T_LexSpec.mk [(bp.mk [105,102] 3 [105,102] [105,102] []),(bp.mk [119,111,114,100] 1 [91,97,45,122,93,43] [120] []),(bp.mk [115,112,97,99,101] 2 [32,43] [32] []),(bp.mk [116,101,120,116] 1 [39,91,94,39,92,110,93,42,39] [39,39] [39])] false 4 6)
def M.i9 (spec1:T_LexSpec):Option (Str×Bool):= bo (be (fun (xv5:Int)=> bif (decide (xv5<(spec1.Defs.length:Int))) then (bD spec1.Defs xv5).bind fun e6=> bif (e6.Kind == 2) then some (.stop (.stop (e6.Sample,true))) else (cd .i64 (xv5+1)).bind fun t6=> some (.next t6) else some (.stop (.next ()))) ba (0:Int)) fun _=> some ([],false)
def M.l6 (a:T_DFA):Option Bool:= (bif ((a.Class.length:Int) != 256) then some true else bif (decide ((a.Next.length:Int)<1)) then some true else bif (decide (500<(a.Next.length:Int))) then some true else some ((a.Accept.length:Int) != (a.Next.length:Int))).bind fun (k:Bool)=> bif k then some false else (bD a.Next 0).bind fun c=> bif (decide ((c.length:Int)<1)) then some false else bo (be (fun (e:Int)=> bif (decide (e<256)) then ((bD a.Class e).bind fun g=> bif (decide (g<0)) then some true else some (decide ((c.length:Int)≤g))).bind fun (i:Bool)=> bif i then some (.stop (.stop false)) else (cd .i64 (e+1)).bind fun l=> some (.next l) else some (.stop (.next ()))) ba (0:Int)) fun _=> bo (be (fun (b:Int)=> bif (decide (b<(a.Next.length:Int))) then bo (((bD a.Next b).bind fun q=> bif ((q.length:Int) != (c.length:Int)) then some true else (bD a.Accept b).bind fun p=> some (decide (p<(-1)))).bind fun (h:Bool)=> bif h then some (.stop (.stop (.stop false))) else be (fun (d:Int)=> bif (decide (d<(c.length:Int))) then ((bD a.Next b).bind fun o=> (bD o d).bind fun f=> bif (decide (f<(-1))) then some true else some (decide ((a.Next.length:Int)≤f))).bind fun (j:Bool)=> bif j then some (.stop (.stop (.stop (.stop false)))) else (cd .i64 (d+1)).bind fun n=> some (.next n) else some (.stop (.next ()))) ba (0:Int)) fun _=> (cd .i64 (b+1)).bind fun m=> some (.next m) else some (.stop (.next ()))) ba (0:Int)) fun _=> some true
def M.n0 (d1:T_DFA) (s1:Int) (b1:Int):Option Int:= bif (decide (s1<0)) then some (-1) else (bD d1.Next s1).bind fun e1=> (bD d1.Class b1).bind fun e2=> (bD e1 e2).bind fun e3=> some e3
def M.m2 (d1:T_DFA) (s1:Int):Option Int:= bif (decide (s1<0)) then some (-1) else (bD d1.Accept s1).bind fun e1=> some e1
def M.k6 (d1:T_DFA) (s1:Str):Option Int:= (be (fun (st9:Int×Int)=>match st9 with | (atv10,i5)=> bif (decide (i5<(s1.length:Int))) then (jJ s1 i5).bind fun c6=> (M.n0 d1 atv10 c6).bind fun atv13=> (cd .i64 (i5+1)).bind fun t6=> some (.next (atv13,t6)) else some (.stop atv10)) ba ((0:Int),(0:Int))).bind fun (atv7:Int)=> (M.m2 d1 atv7).bind fun rv1=> some rv1
def M.l3 (spec1:T_LexSpec) (kind1:Int):Option Str:= (bif (decide (kind1<0)) then some true else some (decide ((spec1.Defs.length:Int)≤kind1))).bind fun (xv1:Bool)=> bif xv1 then some [] else (bD spec1.Defs kind1).bind fun e1=> some e1.Sample
def M.l8 (b:T_LexSpec):Option (List Str):= (be (fun (f:(List Str)×Int)=>match f with | (d,a)=> bif (decide (a<(b.Defs.length:Int))) then (bD b.Defs a).bind fun j=> (cz 16 d [j.Name]).bind fun i=> (cd .i64 (a+1)).bind fun e=> some (.next (i,e)) else some (.stop d)) ba (([]:(List Str)),(0:Int))).bind fun (c:(List Str))=> (bif b.Layout then (cz 16 c M.k0).bind fun g=> some g else some c).bind fun (h:(List Str))=> some h
def M.i5:Option Bool:= (M.f4 false).bind fun p=> (M.b7 p).bind fun d=> (M.f4 true).bind fun h=> (M.b7 h).bind fun c=> (M.f4 true).bind fun g=> (M.g3 g).bind fun a=> (M.m4).bind fun f=> (M.i9 f).bind fun b=> (bif (d.1 == 1) then bif (d.2 == 13) then bif (c.1 == 0) then bif (c.2 == 0) then bif (a.2 == 0) then (M.l6 a.1).bind fun o=> bif o then (M.k6 a.1 [105,102]).bind fun n=> bif (n == 0) then (M.k6 a.1 [105,116]).bind fun m=> bif (m == 1) then (M.f4 true).bind fun l=> (M.l3 l 1).bind fun k=> bif (k == [120]) then bif (b.1 == [32]) then bif b.2 then (M.f4 true).bind fun j=> (M.l8 j).bind fun i=> some ((i.length:Int) == 2) else some false else some false else some false else some false else some false else some false else some false else some false else some false else some false else some false).bind fun (e:Bool)=> some e
def M.a0 (p1:aG):Option Int:= bif (decide ((p1.s.length:Int)≤p1.atv)) then some (-1) else (jJ p1.s p1.atv).bind fun c1=> some (IntKind.i64.wrap c1)
def M.i7 (a:Int):Option Bool:= (bif (decide (48≤a)) then bif (decide (a≤57)) then some true else bif (decide (97≤a)) then bif (decide (a≤122)) then some true else bif (decide (65≤a)) then some (decide (a≤90)) else some false else bif (decide (65≤a)) then some (decide (a≤90)) else some false else bif (decide (97≤a)) then bif (decide (a≤122)) then some true else bif (decide (65≤a)) then some (decide (a≤90)) else some false else bif (decide (65≤a)) then some (decide (a≤90)) else some false).bind fun (b:Bool)=> some b
def M.j9 (b:Int) (g:Bool):Option Bool:= (bif (decide (b<32)) then some true else some (decide (126<b))).bind fun (d:Bool)=> bif d then some false else (bif g then some ([93,92,45]:Str) else some ([40,41,91,93,124,42,43,63,46,92]:Str)).bind fun (c:Str)=> bo (be (fun (a:Int)=> bif (decide (a<(c.length:Int))) then (jJ c a).bind fun f=> bif ((IntKind.i64.wrap f) == b) then some (.stop (.stop false)) else (cd .i64 (a+1)).bind fun e=> some (.next e) else some (.stop (.next ()))) ba (0:Int)) fun _=> some true
def M.b5 (a:aG) (i:Bool):Option (Int×aG):= (M.a0 a).bind fun d=> bif (d == 92) then (cd .i64 (a.atv+1)).bind fun c=> (M.a0 (aG.mk a.s c a.bad)).bind fun b=> bif (b == 110) then (cd .i64 (c+1)).bind fun f=> some (10,(aG.mk a.s f a.bad)) else bif (b == 116) then (cd .i64 (c+1)).bind fun t3=> some (9,(aG.mk a.s t3 a.bad)) else (bif (decide (32≤b)) then bif (decide (b≤126)) then (M.i7 b).bind fun h=> some (!h) else some false else some false).bind fun (e:Bool)=> bif e then (cd .i64 (c+1)).bind fun t4=> some (b,(aG.mk a.s t4 a.bad)) else some (0,(aG.mk a.s c true)) else (M.j9 d i).bind fun g=> bif (!g) then some (0,(aG.mk a.s a.atv true)) else (cd .i64 (a.atv+1)).bind fun t5=> some (d,(aG.mk a.s t5 a.bad))
def M.g2 (s1:(aT 4)) (b1:Int):Option (aT 4):= (qq .i64 b1 64).bind fun t1=> (ie s1 t1).bind fun c1=> (lK b1 64).bind fun t2=> (uZ .u64 1 (IntKind.u64.wrap t2)).bind fun t3=> (oO s1 t1 (bits .or .u64 c1 t3)).bind fun s2=> some s2
def M.m1 (s1:(aT 4)):Option (aT 4):= (be (fun (st9:(aT 4)×Int)=>match st9 with | (s11,i5)=> bif (decide (i5<4)) then (ie s11 i5).bind fun c6=> (oO s11 i5 (mN .u64 c6)).bind fun s14=> (cd .i64 (i5+1)).bind fun t6=> some (.next (s14,t6)) else some (.stop s11)) ba (s1,(0:Int))).bind fun (s8:(aT 4))=> some s8
def M.d3 (c:aG):Option (T_Regex×aG):= (M.a0 c).bind fun o=> (bif (o == 94) then (cd .i64 (c.atv+1)).bind fun t3=> some t3 else some c.atv).bind fun (A:Int)=> (be (fun (h:Str×Int×Bool×(aT 4)×Bool)=>match h with | (e,t33,d,i,p)=> (bif (!d) then bif p then some true else (M.a0 (aG.mk e t33 d)).bind fun G=> some (G != 93) else some false).bind fun (x:Bool)=> bif x then (M.b5 (aG.mk e t33 d) true).bind fun a=> ((bif (!a.2.bad) then (M.a0 a.2).bind fun F=> some (F == 45) else some false).bind fun (u:Bool)=> bif u then (cd .i64 (a.2.atv+1)).bind fun n=> (M.b5 (aG.mk a.2.s n a.2.bad) true).bind fun b=> (bif (!b.2.bad) then some (decide (b.1<a.1)) else some false).bind fun (t:Bool)=> bif t then some (b.2.s,n,true,b.1) else some (b.2.s,b.2.atv,b.2.bad,b.1) else some (a.2.s,a.2.atv,a.2.bad,a.1)).bind fun (w,z,m,v)=> be (fun (h:(aT 4)×Int)=>match h with | (l,g)=> (bif (!m) then some (decide (g≤v)) else some false).bind fun (r:Bool)=> bif r then (M.g2 l g).bind fun D=> (cd .i64 (g+1)).bind fun t46=> some (.next (D,t46)) else some (.stop (.next (w,z,m,l,false)))) ba (i,a.1) else some (.stop (e,t33,d,i))) ba (c.s,A,c.bad,(aT.zero 4),true)).bind fun (k,t25,f,j)=> bif f then some ((T_Regex.mk 0 (aT.zero 4) []),(aG.mk k t25 f)) else (cd .i64 (t25+1)).bind fun y=> (bif (o == 94) then (M.m1 j).bind fun B=> some B else some j).bind fun (q:(aT 4))=> some ((T_Regex.mk 3 q []),(aG.mk k y f))
def M.m8:Option (aT 4):= (M.g2 (aT.zero 4) 10).bind fun rv1=> (M.m1 rv1).bind fun rv2=> some rv2
def M.m0 (b1:Int):Option T_Regex:= (M.g2 (aT.zero 4) b1).bind fun rv1=> some (T_Regex.mk 3 rv1 [])
def M.j1 (rv1:T_Regex):Option T_Regex:= some (T_Regex.mk 6 (aT.zero 4) [rv1])
mutual
def M.e1:Nat→aG→Option (T_Regex×aG)
| 0,_=>none
| fl+1,b=>
 (M.a0 b).bind fun a=>
 bif (a == 40) then
  (cd .i64 (b.atv+1)).bind fun H=>
  (M.c4 fl (aG.mk b.s H b.bad)).bind fun c=>
  bif c.2.bad then
   some (c.1,c.2)
  else
   (M.a0 c.2).bind fun R=>
   bif (R != 41) then
    some (c.1,(aG.mk c.2.s c.2.atv true))
   else
    (cd .i64 (c.2.atv+1)).bind fun G=>
    some (c.1,(aG.mk c.2.s G c.2.bad))
 else
  bif (a == 91) then
   (cd .i64 (b.atv+1)).bind fun t3=>
   (M.d3 (aG.mk b.s t3 b.bad)).bind fun D=>
   some (D.1,D.2)
  else
   bif (a == 46) then
    (cd .i64 (b.atv+1)).bind fun t4=>
    (M.m8).bind fun P=>
    some ((T_Regex.mk 3 P []),(aG.mk b.s t4 b.bad))
   else
    (M.b5 b false).bind fun B=>
    (M.m0 B.1).bind fun N=>
    some (N,B.2)
def M.d0:Nat→aG→Option (T_Regex×aG)
| 0,_=>none
| fl+1,b=>
 (M.e1 fl b).bind fun a=>
 bo (
  be (fun (n:Int×Int×(aT 4)×(List T_Regex))=>match n with
  | (q,j,i,h)=>
   bif (!a.2.bad) then
    bo (
     (M.a0 (aG.mk a.2.s q a.2.bad)).bind fun v=>
     bif (v == 42) then
      (M.j1 (T_Regex.mk j i h)).bind fun u=>
      some (.next (u.Kind,u.Set,u.Kids))
     else
      bif (v == 43) then
       (M.j1 (T_Regex.mk j i h)).bind fun I=>
       some (.next ((4:Int),(aT.zero 4),([(T_Regex.mk j i h),I]:(List T_Regex))))
      else
       bif (v == 63) then
        some (.next ((5:Int),(aT.zero 4),([(T_Regex.mk j i h),(T_Regex.mk 2 (aT.zero 4) [])]:(List T_Regex))))
       else
        some (.stop (.stop (.stop ((T_Regex.mk j i h),(aG.mk a.2.s q a.2.bad)))))) fun (L,K,J)=>
    (cd .i64 (q+1)).bind fun t=>
    some (.next (t,L,K,J))
   else
    some (.stop (.next (j,i,h,q)))) ba (a.2.atv,a.1.Kind,a.1.Set,a.1.Kids)) fun (Q,y,x,w)=>
 some ((T_Regex.mk Q y x),(aG.mk a.2.s w a.2.bad))
def M.c0:Nat→aG→Option (T_Regex×aG)
| 0,_=>none
| fl+1,b=>
 (
  be (fun (n:Str×Int×Bool×(List T_Regex))=>match n with
  | (f,e,d,m)=>
   (
    bif (!d) then
     (M.a0 (aG.mk f e d)).bind fun y=>
     bif (y != (-1)) then
      (M.a0 (aG.mk f e d)).bind fun x=>
      bif (x != 124) then
       (M.a0 (aG.mk f e d)).bind fun w=>
       some (w != 41)
      else
       some false
     else
      some false
    else
     some false).bind fun (r:Bool)=>
   bif r then
    (M.d0 fl (aG.mk f e d)).bind fun o=>
    (cz 64 m [o.1]).bind fun U=>
    some (.next (o.2.s,o.2.atv,o.2.bad,U))
   else
    some (.stop (m,f,e,d))) ba (b.s,b.atv,b.bad,([]:(List T_Regex)))).bind fun (g,z,l,k)=>
 bif ((g.length:Int) == 0) then
  some ((T_Regex.mk 2 (aT.zero 4) []),(aG.mk z l k))
 else
  bif ((g.length:Int) == 1) then
   (bD g 0).bind fun A=>
   some (A,(aG.mk z l k))
  else
   some ((T_Regex.mk 4 (aT.zero 4) g),(aG.mk z l k))
def M.c4:Nat→aG→Option (T_Regex×aG)
| 0,_=>none
| fl+1,b=>
 (M.c0 fl b).bind fun a=>
 (
  be (fun (n:Str×Int×Bool×(List T_Regex))=>match n with
  | (f,e,d,m)=>
   (
    bif (!d) then
     (M.a0 (aG.mk f e d)).bind fun S=>
     some (S == 124)
    else
     some false).bind fun (r:Bool)=>
   bif r then
    (cd .i64 (e+1)).bind fun t=>
    (M.c0 fl (aG.mk f t d)).bind fun p=>
    (cz 64 m [p.1]).bind fun T=>
    some (.next (p.2.s,p.2.atv,p.2.bad,T))
   else
    some (.stop (m,f,e,d))) ba (a.2.s,a.2.atv,a.2.bad,([a.1]:(List T_Regex)))).bind fun (g,l,k,F)=>
 bif ((g.length:Int) == 1) then
  (bD g 0).bind fun A=>
  some (A,(aG.mk l k F))
 else
  some ((T_Regex.mk 5 (aT.zero 4) g),(aG.mk l k F))
end
def M.e6:Nat→T_Regex→Int→Option Bool
| 0,_,_=>none
| fl+1,a,c=>
 (
  bif (decide (30≤c)) then
   some true
  else
   bif (a.Kind != 3) then
    some (a.Set != (aT.zero 4))
   else
    some false).bind fun (g:Bool)=>
 bif g then
  some false
 else
  bo (
   (
    bif (a.Kind == 1) then
     some (a.Kind == 1)
    else
     some (a.Kind == 2)).bind fun (f:Bool)=>
   bif f then
    some (.stop ((a.Kids.length:Int) == 0))
   else
    bif (a.Kind == 3) then
     (
      bif ((a.Kids.length:Int) == 0) then
       some (a.Set != (aT.zero 4))
      else
       some false).bind fun (e:Bool)=>
     some (.stop e)
    else
     (
      bif (a.Kind == 4) then
       some (a.Kind == 4)
      else
       some (a.Kind == 5)).bind fun (d:Bool)=>
     bif d then
      bif (decide ((a.Kids.length:Int)<2)) then
       some (.stop false)
      else
       some (.next ())
     else
      bif (a.Kind == 6) then
       bif ((a.Kids.length:Int) != 1) then
        some (.stop false)
       else
        some (.next ())
      else
       some (.stop false)) fun _=>
  bo (
   be (fun (b:Int)=>
    bif (decide (b<(a.Kids.length:Int))) then
     (bD a.Kids b).bind fun k=>
     (cd .i64 (c+1)).bind fun i=>
     (M.e6 fl k i).bind fun j=>
     bif (!j) then
      some (.stop (.stop false))
     else
      (cd .i64 (b+1)).bind fun h=>
      some (.next h)
    else
     some (.stop (.next ()))) ba (0:Int)) fun _=>
  some true
def M.g8 (rv1:T_Regex):Option Bool:= (M.e6 ba rv1 0).bind fun rv2=> some rv2
def M.g9 (b:Str):Option (T_Regex×Int×Int):= (M.c4 ba (aG.mk b 0 false)).bind fun a=> (bif a.2.bad then some true else some (decide (a.2.atv<(b.length:Int)))).bind fun (c:Bool)=> bif c then some ((T_Regex.mk 0 (aT.zero 4) []),a.2.atv,3) else (M.g8 a.1).bind fun d=> bif (!d) then some ((T_Regex.mk 0 (aT.zero 4) []),0,11) else some (a.1,0,0)
def M.h6 (d1:bp):Option T_Regex:= (M.g9 d1.Pattern).bind fun rv1=> some rv1.1
def M.h0:Nat→T_Regex→Option Int
| 0,_=>none
| fl+1,b=>
 (
  be (fun (f:Int×Int)=>match f with
  | (c,a)=>
   bif (decide (a<(b.Kids.length:Int))) then
    (bD b.Kids a).bind fun i=>
    (M.h0 fl i).bind fun g=>
    (cd .i64 (a+1)).bind fun e=>
    some (.next ((zf c g),e))
   else
    some (.stop c)) ba ((0:Int),(0:Int))).bind fun (h:Int)=>
 (cd .i64 (h+1)).bind fun d=>
 some d
def M.e4:Nat→T_Regex→Option Int
| 0,_=>none
| fl+1,b=>
 (
  be (fun (f:Int×Int)=>match f with
  | (c,a)=>
   bif (decide (a<(b.Kids.length:Int))) then
    (bD b.Kids a).bind fun i=>
    (M.e4 fl i).bind fun g=>
    (cd .i64 (c+g)).bind fun e=>
    (cd .i64 (a+1)).bind fun d=>
    some (.next (e,d))
   else
    some (.stop c)) ba ((1:Int),(0:Int))).bind fun (h:Int)=>
 some h
def M.j8 (c:(List T_Regex)):Option Int:= bo (be (fun (h:Int×Int)=>match h with | (b,a)=> bif (decide (a<(c.length:Int))) then (bD c a).bind fun d=> (M.g8 d).bind fun j=> bif (!j) then some (.stop (.stop 1)) else (M.e4 ba d).bind fun i=> (cd .i64 (b+i)).bind fun g=> (cd .i64 (a+1)).bind fun f=> some (.next (g,f)) else some (.stop (.next b))) ba ((0:Int),(0:Int))) fun (e:Int)=> bif (decide (500<e)) then some 11 else some 0
def M.c7 (h:bS) (f:(List Int)) (g:(List Int)):Option bS:= be (fun (a:(List (aT 2))×Int)=>match a with | (d,c)=> bif (decide (c<(f.length:Int))) then (be (fun (a:(List (aT 2))×Int)=>match a with | (e,b)=> bif (decide (b<(g.length:Int))) then (bD f c).bind fun m=> (bD g b).bind fun l=> (cz 16 e [(⟨[m,l],rfl⟩:aT 2)]).bind fun i=> (cd .i64 (b+1)).bind fun t20=> some (.next (i,t20)) else some (.stop e)) ba (d,(0:Int))).bind fun (j:(List (aT 2)))=> (cd .i64 (c+1)).bind fun k=> some (.next (j,k)) else some (.stop (bS.mk h.sets d))) ba (h.pairs,(0:Int))
def M.d9 (k:bS) (b:cB) (a:cB):Option (cB×bS):= (M.c7 k b.last a.first).bind fun g=> (bif b.nullable then some a.nullable else some false).bind fun (j:Bool)=> (bif b.nullable then (cz 8 [] b.first).bind fun f=> (cz 8 f a.first).bind fun e=> some e else some b.first).bind fun (i:(List Int))=> (bif a.nullable then (cz 8 [] b.last).bind fun d=> (cz 8 d a.last).bind fun c=> some c else some a.last).bind fun (h:(List Int))=> some ((cB.mk j i h),g)
def M.a9:Nat→bS→T_Regex→Option (cB×bS)
| 0,_,_=>none
| fl+1,b,a=>
 (
  bif (a.Kind == 2) then
   some (true,([]:(List Int)),([]:(List Int)),b.sets,b.pairs)
  else
   bif (a.Kind == 3) then
    (cz 32 b.sets [a.Set]).bind fun f=>
    some (false,([(f.length:Int)]:(List Int)),([(f.length:Int)]:(List Int)),f,b.pairs)
   else
    bif (a.Kind == 4) then
     be (fun (i:(List (aT 4))×(List (aT 2))×Bool×(List Int)×(List Int)×Int)=>match i with
     | (q,p,o,u,t,h)=>
      bif (decide (h<(a.Kids.length:Int))) then
       (bD a.Kids h).bind fun K=>
       (M.a9 fl (bS.mk q p) K).bind fun s=>
       (M.d9 s.2 (cB.mk o u t) s.1).bind fun e=>
       (cd .i64 (h+1)).bind fun t9=>
       some (.next (e.2.sets,e.2.pairs,e.1.nullable,e.1.first,e.1.last,t9))
      else
       some (.stop (o,u,t,q,p))) ba (b.sets,b.pairs,true,([]:(List Int)),([]:(List Int)),(0:Int))
    else
     bif (a.Kind == 5) then
      be (fun (i:(List (aT 4))×(List (aT 2))×Bool×(List Int)×(List Int)×Int)=>match i with
      | (n,m,l,k,j,g)=>
       bif (decide (g<(a.Kids.length:Int))) then
        (bD a.Kids g).bind fun J=>
        (M.a9 fl (bS.mk n m) J).bind fun d=>
        (
         bif l then
          some true
         else
          some d.1.nullable).bind fun (z:Bool)=>
        (cz 8 [] k).bind fun y=>
        (cz 8 y d.1.first).bind fun x=>
        (cz 8 [] j).bind fun w=>
        (cz 8 w d.1.last).bind fun v=>
        (cd .i64 (g+1)).bind fun F=>
        some (.next (d.2.sets,d.2.pairs,z,x,v,F))
       else
        some (.stop (l,k,j,n,m))) ba (b.sets,b.pairs,false,([]:(List Int)),([]:(List Int)),(0:Int))
     else
      bif (a.Kind == 6) then
       (bD a.Kids 0).bind fun I=>
       (M.a9 fl b I).bind fun c=>
       (M.c7 c.2 c.1.last c.1.first).bind fun r=>
       some (true,c.1.first,c.1.last,r.sets,r.pairs)
      else
       some (false,([]:(List Int)),([]:(List Int)),b.sets,b.pairs)).bind fun (D,H,G,B,A)=>
 some ((cB.mk D H G),(bS.mk B A))
def M.c8 (l:(List T_Regex)):Option (T_NFA×Int):= (M.j8 l).bind fun s=> bif (s != 0) then some ((T_NFA.mk 0 0 [] []),s) else (be (fun (b:(List (aT 4))×(List (aT 2))×(List Int)×Int)=>match b with | (p,o,n,d)=> bif (decide (d<(l.length:Int))) then ((bD l d).bind fun a2=> (M.a9 ba (bS.mk p o) a2).bind fun f=> (M.c7 f.2 [0] f.1.first).bind fun e=> (be (fun (k:(List Int))=> bif (decide ((k.length:Int)≤(e.sets.length:Int))) then (cz 8 k [(-1)]).bind fun B=> some (.next B) else some (.stop k)) ba n).bind fun (H:(List Int))=> (be (fun (b:(List Int)×Int)=>match b with | (m,i)=> bif (decide (i<(f.1.last.length:Int))) then (bD f.1.last i).bind fun a1=> (dE m a1 d).bind fun A=> (cd .i64 (i+1)).bind fun S=> some (.next (A,S)) else some (.stop m)) ba (H,(0:Int))).bind fun (j:(List Int))=> (bif f.1.nullable then (bD j 0).bind fun a0=> some (decide (a0<0)) else some false).bind fun (G:Bool)=> bif G then (dE j 0 d).bind fun z=> some (e.sets,e.pairs,z) else some (e.sets,e.pairs,j)).bind fun (J,I,D)=> (cd .i64 (d+1)).bind fun R=> some (.next (J,I,D,R)) else some (.stop (p,o,n))) ba (([]:(List (aT 4))),([]:(List (aT 2))),([(-1)]:(List Int)),(0:Int))).bind fun (K,q,a)=> (cd .i64 ((a.length:Int)*(a.length:Int))).bind fun Q=> (pA 1 Q (false:Bool)).bind fun W=> (be (fun (b:(List Bool)×Int)=>match b with | (t,h)=> bif (decide (h<(q.length:Int))) then (bD q h).bind fun v=> (ie v 0).bind fun a4=> (cd .i64 (a4*(a.length:Int))).bind fun P=> (ie v 1).bind fun a3=> (cd .i64 (P+a3)).bind fun N=> (dE t N true).bind fun y=> (cd .i64 (h+1)).bind fun L=> some (.next (y,L)) else some (.stop t)) ba (W,(0:Int))).bind fun (u:(List Bool))=> (be (fun (b:(List ca)×Int)=>match b with | (g,c)=> bif (decide (c<(u.length:Int))) then ((bD u c).bind fun Y=> bif Y then (qq .i64 c (a.length:Int)).bind fun V=> (lK c (a.length:Int)).bind fun r=> (cd .i64 (r - 1)).bind fun U=> (bD K U).bind fun X=> (cz 56 g [(ca.mk V r false X)]).bind fun w=> some w else some g).bind fun (x:(List ca))=> (cd .i64 (c+1)).bind fun T=> some (.next (x,T)) else some (.stop g)) ba (([]:(List ca)),(0:Int))).bind fun (F:(List ca))=> some ((T_NFA.mk (a.length:Int) 0 F a),0)
def M.i4 (a:T_NFA):Option Bool:= (bif (decide (a.States<1)) then some true else bif (decide (2000<a.States)) then some true else bif (decide (a.Start<0)) then some true else bif (decide (a.States≤a.Start)) then some true else some ((a.Accept.length:Int) != a.States)).bind fun (f:Bool)=> bif f then some false else bo (be (fun (c:Int)=> bif (decide (c<(a.Accept.length:Int))) then (bD a.Accept c).bind fun i=> bif (decide (i<(-1))) then some (.stop (.stop false)) else (cd .i64 (c+1)).bind fun g=> some (.next g) else some (.stop (.next ()))) ba (0:Int)) fun _=> bo (be (fun (d:Int)=> bif (decide (d<(a.Arcs.length:Int))) then (bD a.Arcs d).bind fun b=> (bif (decide (b.From<0)) then some true else bif (decide (a.States≤b.From)) then some true else bif (decide (b.To<0)) then some true else bif (decide (a.States≤b.To)) then some true else bif b.Epsilon then some (b.Set != (aT.zero 4)) else some false).bind fun (e:Bool)=> bif e then some (.stop (.stop false)) else (cd .i64 (d+1)).bind fun h=> some (.next h) else some (.stop (.next ()))) ba (0:Int)) fun _=> some true
def M.h4 (s1:(aT 4)) (b1:Int):Option Bool:= (qq .u8 b1 64).bind fun t1=> (ie s1 t1).bind fun c1=> (lK b1 64).bind fun t2=> (sL .u64 c1 t2).bind fun t3=> some ((bits .and .u64 t3 1) == 1)
def M.e7 (b:(List (aT 4))) (h:Int) (g:Int):Option Bool:= bo (be (fun (a:Int)=> bif (decide (a<(b.length:Int))) then (bD b a).bind fun c=> (M.h4 c h).bind fun f=> (M.h4 c g).bind fun e=> bif (!(f == e)) then some (.stop (.stop false)) else (cd .i64 (a+1)).bind fun d=> some (.next d) else some (.stop (.next ()))) ba (0:Int)) fun _=> some true
def M.h7 (q:(List (aT 4))):Option (List Int):= (pA 8 256 (0:Int)).bind fun o=> (be (fun (j:(List Int)×Int×Int)=>match j with | (f,b,a)=> bif (decide (a<256)) then ((dE f a b).bind fun e=> (be (fun (c:Int)=> bif (decide (c<a)) then (M.e7 q (IntKind.u8.wrap c) (IntKind.u8.wrap a)).bind fun k=> bif k then (bD e c).bind fun s=> (dE e a s).bind fun m=> some (.stop m) else (cd .i64 (c+1)).bind fun i=> some (.next i) else some (.stop e)) ba (0:Int)).bind fun (d:(List Int))=> (bD d a).bind fun r=> bif (r == b) then (cd .i64 (b+1)).bind fun h=> some (d,h) else some (d,b)).bind fun (n,p)=> (cd .i64 (a+1)).bind fun g=> some (.next (n,p,g)) else some (.stop f)) ba (o,(0:Int),(0:Int))).bind fun (l:(List Int))=> some l
def M.l5 (i:(List Int)):Option (List Int):= (be (fun (e:(List Int)×Int)=>match e with | (a,b)=> bif (decide (b<256)) then ((bD i b).bind fun h=> bif (h == (a.length:Int)) then (cz 1 a [(IntKind.u8.wrap b)]).bind fun f=> some f else some a).bind fun (g:(List Int))=> (cd .i64 (b+1)).bind fun d=> some (.next (g,d)) else some (.stop a)) ba (([]:(List Int)),(0:Int))).bind fun (c:(List Int))=> some c
def M.k9 (c:(List Bool)):Option (List Int):= (be (fun (f:(List Int)×Int)=>match f with | (b,a)=> bif (decide (a<(c.length:Int))) then ((bD c a).bind fun i=> bif i then (cz 8 b [a]).bind fun g=> some g else some b).bind fun (h:(List Int))=> (cd .i64 (a+1)).bind fun e=> some (.next (h,e)) else some (.stop b)) ba (([]:(List Int)),(0:Int))).bind fun (d:(List Int))=> some d
def M.e5 (d:T_NFA) (g:(List Int)):Option (List Int):= (pA 1 d.States (false:Bool)).bind fun x=> (be (fun (a:(List Bool)×Int)=>match a with | (h,c)=> bif (decide (c<(g.length:Int))) then (((bD g c).bind fun k=> bif (decide (0≤k)) then some (decide (k<d.States)) else some false).bind fun (q:Bool)=> bif q then (bD g c).bind fun y=> (dE h y true).bind fun n=> some n else some h).bind fun (o:(List Bool))=> (cd .i64 (c+1)).bind fun t=> some (.next (o,t)) else some (.stop h)) ba (x,(0:Int))).bind fun (v:(List Bool))=> (be (fun (a:(List Bool)×Bool)=>match a with | (j,p)=> bif p then be (fun (a:(List Bool)×Bool×Int)=>match a with | (b,i,f)=> bif (decide (f<(d.Arcs.length:Int))) then ((bD d.Arcs f).bind fun e=> (bif e.Epsilon then (bD b e.From).bind fun A=> bif A then (bD b e.To).bind fun z=> some (!z) else some false else some false).bind fun (r:Bool)=> bif r then (dE b e.To true).bind fun l=> some (l,true) else some (b,i)).bind fun (m,s)=> (cd .i64 (f+1)).bind fun t24=> some (.next (m,s,t24)) else some (.stop (.next (b,i)))) ba (j,false,(0:Int)) else some (.stop j)) ba (v,true)).bind fun (w:(List Bool))=> (M.k9 w).bind fun u=> some u
def M.l0 (a:T_NFA) (s:(List Int)) (r:Int):Option (List Int):= (pA 1 a.States (false:Bool)).bind fun u=> (M.e5 a s).bind fun g=> (be (fun (f:(List Bool)×Int)=>match f with | (h,c)=> bif (decide (c<(g.length:Int))) then (bD g c).bind fun v=> (dE h v true).bind fun i=> (cd .i64 (c+1)).bind fun m=> some (.next (i,m)) else some (.stop h)) ba (u,(0:Int))).bind fun (t:(List Bool))=> (be (fun (f:(List Int)×Int)=>match f with | (e,d)=> bif (decide (d<(a.Arcs.length:Int))) then ((bD a.Arcs d).bind fun b=> (bif (!b.Epsilon) then (bD t b.From).bind fun w=> bif w then (M.h4 b.Set r).bind fun p=> some p else some false else some false).bind fun (q:Bool)=> bif q then (cz 8 e [b.To]).bind fun j=> some j else some e).bind fun (k:(List Int))=> (cd .i64 (d+1)).bind fun n=> some (.next (k,n)) else some (.stop e)) ba (([]:(List Int)),(0:Int))).bind fun (l:(List Int))=> (M.e5 a l).bind fun o=> some o
def M.l1 (b:(List Int)) (c:(List Int)):Option Bool:= bif ((b.length:Int) != (c.length:Int)) then some false else bo (be (fun (a:Int)=> bif (decide (a<(b.length:Int))) then (bD b a).bind fun f=> (bD c a).bind fun e=> bif (f != e) then some (.stop (.stop false)) else (cd .i64 (a+1)).bind fun d=> some (.next d) else some (.stop (.next ()))) ba (0:Int)) fun _=> some true
def M.k8 (l1:(List (List Int))) (setv1:(List Int)):Option Int:= bo (be (fun (i5:Int)=> bif (decide (i5<(l1.length:Int))) then (bD l1 i5).bind fun e6=> (M.l1 e6 setv1).bind fun rv6=> bif rv6 then some (.stop (.stop i5)) else (cd .i64 (i5+1)).bind fun t6=> some (.next t6) else some (.stop (.next ()))) ba (0:Int)) fun _=> some (-1)
def M.j7 (h:T_NFA) (d:(List Int)):Option Int:= (be (fun (g:Int×Int)=>match g with | (a,b)=> bif (decide (b<(d.length:Int))) then ((bD d b).bind fun i=> (bD h.Accept i).bind fun c=> (bif (decide (0≤c)) then bif (decide (a<0)) then some true else some (decide (c<a)) else some false).bind fun (e:Bool)=> bif e then some c else some a).bind fun (k:Int)=> (cd .i64 (b+1)).bind fun f=> some (.next (k,f)) else some (.stop a)) ba (((-1):Int),(0:Int))).bind fun (j:Int)=> some j
def M.f0 (a:T_NFA):Option (T_DFA×Int):= (M.i4 a).bind fun T=> bif (!T) then some ((T_DFA.mk [] [] []),1) else (be (fun (c:(List (aT 4))×Int)=>match c with | (i,h)=> bif (decide (h<(a.Arcs.length:Int))) then ((bD a.Arcs h).bind fun q=> bif (!q.Epsilon) then (cz 32 i [q.Set]).bind fun A=> some A else some i).bind fun (B:(List (aT 4)))=> (cd .i64 (h+1)).bind fun P=> some (.next (B,P)) else some (.stop i)) ba (([]:(List (aT 4))),(0:Int))).bind fun (D:(List (aT 4)))=> (M.h7 D).bind fun p=> (M.l5 p).bind fun o=> (M.e5 a [a.Start]).bind fun S=> bo (be (fun (c:(List (List Int))×(List (List Int))×(List Int)×Int)=>match c with | (m,l,k,d)=> bif (decide (d<(m.length:Int))) then bo ((be (fun (c:(List (List Int))×(List Int)×Int)=>match c with | (b,f,e)=> bif (decide (e<(o.length:Int))) then ((bD b d).bind fun W=> (bD o e).bind fun V=> (M.l0 a W V).bind fun R=> (M.e5 a R).bind fun j=> bif ((j.length:Int) == 0) then (cz 8 f [(-1)]).bind fun w=> some (b,w) else (M.k8 b j).bind fun n=> (bif (decide (n<0)) then (cz 24 b [j]).bind fun u=> some (u,(b.length:Int)) else some (b,n)).bind fun (v,F)=> (cz 8 f [F]).bind fun t=> some (v,t)).bind fun (G,x)=> (cd .i64 (e+1)).bind fun N=> some (.next (G,x,N)) else some (.stop (b,f))) ba (m,([]:(List Int)),(0:Int))).bind fun (g,H)=> bif (decide (500<(g.length:Int))) then some (.stop (.stop (.stop ((T_DFA.mk [] [] []),11)))) else (bD g d).bind fun U=> (cz 24 l [H]).bind fun s=> (M.j7 a U).bind fun Q=> (cz 8 k [Q]).bind fun r=> some (.next (g,s,r))) fun (I,z,y)=> (cd .i64 (d+1)).bind fun L=> some (.next (I,z,y,L)) else some (.stop (.next (l,k)))) ba (([S]:(List (List Int))),([]:(List (List Int))),([]:(List Int)),(0:Int))) fun (K,J)=> some ((T_DFA.mk p K J),0)
def M.j6 (c:T_LexSpec):Option Bool:= bo (be (fun (j:(List T_Regex)×Int)=>match j with | (b,a)=> bif (decide (a<(c.Defs.length:Int))) then (bD c.Defs a).bind fun l=> (M.g9 l.Pattern).bind fun f=> bif (f.2.2 != 0) then some (.stop (.stop false)) else (cz 64 b [f.1]).bind fun k=> (cd .i64 (a+1)).bind fun i=> some (.next (k,i)) else some (.stop (.next b))) ba (([]:(List T_Regex)),(0:Int))) fun (h:(List T_Regex))=> (M.c8 h).bind fun e=> bif (e.2 != 0) then some true else (M.f0 e.1).bind fun d=> (bif (d.2 != 0) then some true else some (decide (100<(d.1.Next.length:Int)))).bind fun (g:Bool)=> some g
def M.k1 (a:T_LexSpec):Option Bool:= (M.l9 a 6 30).bind fun g=> bif (!g) then some false else bo (be (fun (b:Int)=> bif (decide (b<(a.Defs.length:Int))) then (bD a.Defs b).bind fun h=> (M.h6 h).bind fun f=> (M.h0 ba f).bind fun e=> bif (decide (8<e)) then some (.stop (.stop false)) else (cd .i64 (b+1)).bind fun c=> some (.next c) else some (.stop (.next ()))) ba (0:Int)) fun _=> (M.j6 a).bind fun d=> some (!d)
def M.f6 (a:T_LexSpec) (k:Int):Option Bool:= ((M.k1 a).bind fun j=> bif (!j) then some true else some ((a.Defs.length:Int) == 0)).bind fun (c:Bool)=> bif c then (M.i5).bind fun i=> some i else (lK (IntKind.i64.wrap k) (a.Defs.length:Int)).bind fun e=> (cd .i64 (1+e)).bind fun d=> (oR a.Defs 0 d).bind fun l=> (M.b7 a).bind fun h=> (M.b7 (T_LexSpec.mk l a.Layout a.Misspelling a.Unclosed)).bind fun g=> ((M.i5).bind fun f=> bif f then bif (h.2 != 0) then some true else some (g.2 == 0) else some false).bind fun (b:Bool)=> some b
end Go.Proofs.YtggpjcdhflcfmaaGreatDoor
namespace Go.Lx
open Go.RowKit
abbrev I6 (n:Int):Value:=Value.int .i64 n
abbrev U8 (n:Int):Value:=Value.int .u8 n
abbrev U6 (n:Int):Value:=Value.int .u64 n
abbrev bK:List Value:=(aT.zero 4).1.map U6
abbrev bv (v:aT 4):List Value:=v.1.map U6
abbrev Bo (b:Bool):Value:=Value.bool b
abbrev Z0:Value:=Value.slice none 0 0
abbrev P0 (b:Nat):Value:=Value.pointer (some ⟨b,0,none⟩)
abbrev Ag (l:List Value):Value:=Value.agg l.toArray
abbrev bx (b:Nat) (T:TypeId) (cs:List Value):Res:=.obj b (.cells cs.toArray T (0,0))
abbrev Sp (g0:Hp) (w0:World) (g:Hp) (w:World) (L:List Res):Prop:=Sep g0 w0 g w L
theorem si {α:Type} {a b:α} (h:some a=some b):a=b:=Option.some.inj h
theorem CO {t0 t1:Type} {a a':t0} {b b':t1} (h:(a,b)=(a',b')):a=a'∧b=b':=by simpa only [Prod.mk.injEq] using h
theorem nO {t0 t1:Type} {a a':t0} {b b':t1} (h:some (a,b)=some (a',b')):a=a'∧b=b':=CO (Option.some.inj h)
theorem Ff {t0 t1 t2:Type} {a a':t0} {b b':t1} {c c':t2} (h:(a,b,c)=(a',b',c')):a=a'∧b=b'∧c=c':=by simpa only [Prod.mk.injEq] using h
theorem Ao {t0 t1 t2:Type} {a a':t0} {b b':t1} {c c':t2} (h:some (a,b,c)=some (a',b',c')):a=a'∧b=b'∧c=c':=Ff (Option.some.inj h)
theorem Fe {t0 t1 t2 t3:Type} {a a':t0} {b b':t1} {c c':t2} {d d':t3} (h:(a,b,c,d)=(a',b',c',d')):a=a'∧b=b'∧c=c'∧d=d':=by simpa only [Prod.mk.injEq] using h
theorem Fh {t0 t1 t2 t3:Type} {a a':t0} {b b':t1} {c c':t2} {d d':t3} (h:some (a,b,c,d)=some (a',b',c',d')):a=a'∧b=b'∧c=c'∧d=d':=Fe (Option.some.inj h)
theorem DT {t0 t1 t2 t3 t4:Type} {a a':t0} {b b':t1} {c c':t2} {d d':t3} {e e':t4} (h:(a,b,c,d,e)=(a',b',c',d',e')):a=a'∧b=b'∧c=c'∧d=d'∧e=e':=by simpa only [Prod.mk.injEq] using h
theorem Fg {t0 t1 t2 t3 t4:Type} {a a':t0} {b b':t1} {c c':t2} {d d':t3} {e e':t4} (h:some (a,b,c,d,e)=some (a',b',c',d',e')):a=a'∧b=b'∧c=c'∧d=d'∧e=e':=DT (Option.some.inj h)
theorem bW {σ ρ:Type} {s:σ} {k:σ→Option ρ} {r:ρ} (h:yQ (.next s) k=some r):k s=some r:=h
theorem bQ:([]:List Deferred)=[]:=rfl
def DY:List Nat→Bool
 | []=>true
 | i::l=>!(l.elem i) && DY l
theorem sg:∀ {l:List Nat},DY l=true→l.Nodup
 | [],_=>List.nodup_nil
 | i::l,h=>by
  simp only [DY,Bool.and_eq_true,Bool.not_eq_true'] at h;refine List.nodup_cons.2 ⟨fun hm=>?_,sg h.2⟩;have:=List.elem_eq_true_of_mem hm;rw [h.1] at this; cases this
def AJ (A:List Res):List Nat→Option (List Res)
 | []=>some []
 | i::l=>match A[i]?,AJ A l with
  | some r,some m=>some (r::m)
  | _,_=>none
theorem tX {A:List Res}:∀ {is:List Nat} {L:List Res},AJ A is=some L→L.map some=is.map (A[·]?)
 | [],L,h=>by cases h; rfl
 | i::is,L,h=>by
  unfold AJ at h;split at h
  ·rename_i r m h1 h2;cases h
   rw [List.map_cons,List.map_cons,h1,tX h2]
  ·cases h
def DG (n:Nat) (is:List Nat) (L:List Res):Option (List Res):=bif DY is then (match AJ (L.take n) is with|some A=>some (A++L.drop n)|none=>none) else none
theorem Sep.sU {g0 g:Hp} {w0 w:World} {L L':List Res} (h:Sep g0 w0 g w L) (n:Nat) (a:List Nat) (hl:DG n a L=some L'):Sep g0 w0 g w L':=by
 unfold DG at hl;cases hn:DY a with
 | false=>rw [hn] at hl; cases hl
 | true=>
  rw [hn,cond_true] at hl;split at hl
  ·rename_i A c;cases hl
   have b:Sep g0 w0 g w (L.take n++L.drop n):=by rw [List.take_append_drop]; exact h
   exact b.selT a (sg hn) (tX c)
  ·cases hl
section
variable {P:Program} {n:Fr} {Q:EPost} {E:Env} {w:World} {ops:Array Oper} {rest:List Oper} {op:Op} {ty:TypeId} {ps:String} {af:Array Edge} {g0 g:Hp} {w0:World} {L:List Res}
theorem SR {id:Nat} {l:List Oper} {y:Code} (h:OW P n l.toArray (sF (WP P n y Q) Q) l E w):WP P n (.seq (.region id l.toArray false) y) Q E w:=aw (ah h)
theorem NR {id:Nat} {l:List Oper} {y:Code} {Q':EPost} (h:OW P n l.toArray (sF (WP P n y Q) Q) l E w):OW P n ops (sF (WP P n (.seq (.region id l.toArray false) y) Q) Q') [] E w:=aa (SR h)
theorem Om {d:Tmp} {x:Operand} (v:Value) (h:(ev E x,Nat.blt d n.sz)=(v,true)) (k:OW P n ops Q rest (cp E d v) w):OW P n ops Q (⟨some d,.move x,ty,ps,af,none⟩::rest) E w:=O (ei (congrArg Prod.fst h)) (congrArg Prod.snd h) k
theorem Oa {d:Tmp} {x:Operand} (v:Value) (h:(ev E x,Nat.blt d n.sz)=(v,true)) (k:OW P n ops Q rest (cp E d v) w):OW P n ops Q (⟨some d,.assign x,ty,ps,af,none⟩::rest) E w:=O (qp (congrArg Prod.fst h)) (congrArg Prod.snd h) k
theorem Of {d:Tmp} {T e:TypeId} {x:Operand} {f b o c:Nat} {g:Array Field} {a:Field} {m:Bool} {size bytes:Nat} {z:Value} (j:P.underlying T=some (.struct g)) (i:eh P e m size bytes z) (h:(g[f]?,a.type,Nat.blt 0 size,ev E x,c,Nat.blt d n.sz)=(some a,e,true,Value.pointer (some ⟨b,o,none⟩),o+a.offset,true))
 (k:OW P n ops Q rest (cp E d (.pointer (some ⟨b,c,none⟩))) w):OW P n ops Q (⟨some d,.fieldAddr T x f,ty,ps,af,none⟩::rest) E w:=by
 obtain ⟨hf,he,l,hx,ho,hd⟩:g[f]?=some a∧a.type=e∧Nat.blt 0 size=true∧ev E x=.pointer (some ⟨b,o,none⟩)∧c=o+a.offset∧Nat.blt d n.sz=true:=by simpa only [Prod.mk.injEq] using h
 exact O (an j i hf he l hx ho) hd k
theorem Ol {d:Tmp} {T:TypeId} {size bytes:Nat} {z:Value} {x:Operand} (v:Value) (c:eh P T false size bytes z) (hs:Sep g0 w0 g w L) (i o:Nat) {b:Nat} {T':TypeId} {cs:List Value} (hx:ev E x=.pointer (some ⟨b,o,none⟩)) (e:L[i]?=some (tu b T' cs)) (a:cs[o]?=some v)
 (hd:Nat.blt d n.sz=true) (k:OW P n ops Q rest (cp E d v) w):OW P n ops Q (⟨some d,.load T x,ty,ps,af,none⟩::rest) E w:=O (aX c hx (hs.cell e a)) hd k
theorem On {d:Tmp} {T:TypeId} {size bytes:Nat} {z:Value} {x:Operand} {b:Nat} {T':TypeId} (cs:List Value) (a:eh P T true size bytes z) (hl:cs.length=size) (hs:Sep g0 w0 g w L) (i:Nat) (hx:ev E x=.pointer (some ⟨b,0,none⟩)) (c:L[i]?=some (tu b T' cs))
 (hd:Nat.blt d n.sz=true) (k:OW P n ops Q rest (cp E d (.agg cs.toArray)) w):OW P n ops Q (⟨some d,.load T x,ty,ps,af,none⟩::rest) E w:=O (co a hx hl (hs.cells c)) hd k
theorem Oe {d:Tmp} {T:TypeId} {size bytes:Nat} {z:Value} {x:Operand} {b o:Nat} (cs:List Value) (a:eh P T true size bytes z) (hl:cs.length=size) (c:∀j u,cs[j]?=some u→w.cell? ⟨b,o+j,none⟩=some u) (hx:ev E x=.pointer (some ⟨b,o,none⟩))
 (hd:Nat.blt d n.sz=true) (k:OW P n ops Q rest (cp E d (.agg cs.toArray)) w):OW P n ops Q (⟨some d,.load T x,ty,ps,af,none⟩::rest) E w:=O (bw a hx hl (.inl rfl) c rfl) hd k
theorem Oc {d:Tmp} {T:TypeId} {bytes:Nat} {z:Value} {x:Operand} {b o:Nat} (v:Value) (ht:eh P T false 1 bytes z) (hc:∀j u,[v][j]?=some u→w.cell? ⟨b,o+j,none⟩=some u) (hx:ev E x=.pointer (some ⟨b,o,none⟩))
 (hd:Nat.blt d n.sz=true) (k:OW P n ops Q rest (cp E d v) w):OW P n ops Q (⟨some d,.load T x,ty,ps,af,none⟩::rest) E w:=O (bw (cs:=[v]) ht hx rfl (.inr rfl) hc rfl) hd k
theorem Ox {d:Tmp} {x:Operand} {vs:List Value} {i:Nat} (v:Value) (hx:ev E x=.tuple vs.toArray) (hi:vs[i]?=some v) (hd:Nat.blt d n.sz=true) (k:OW P n ops Q rest (cp E d v) w):OW P n ops Q (⟨some d,.extract x i,ty,ps,af,none⟩::rest) E w:=O (xI hx hi) hd k
theorem Ob {d:Tmp} {T:TypeId} {x:Operand} (zs:List Value) (hs:Sep g0 w0 g w L) (hx:ev E x=.agg zs.toArray) (hd:Nat.blt d n.sz=true)
 (k:∀b w',Sep g0 w0 g w' (tu b T zs::L)→OW P n ops Q rest (cp E d (.pointer (some ⟨b,0,none⟩))) w'):OW P n ops Q (⟨some d,.box T x,ty,ps,af,none⟩::rest) E w:=iE hx hs zs rfl hd k
theorem cy {T T':TypeId} {x y:Operand} {b:Nat} {cs:List Value} {size bytes:Nat} {z:Value} (a:eh P T true size bytes z) (hs:Sep g0 w0 g w L) (i:Nat) (vs:List Value) (d:L[i]?=some (tu b T' cs))
 (hx:ev E x=.pointer (some ⟨b,0,none⟩)) (hy:ev E y=.agg vs.toArray) (e:∀v∈vs,v.oneCell'=true) (hl:vs.length=size) (c:cs.length=vs.length)
 (k:∀w',Sep g0 w0 g w' (L.set i (tu b T' vs))→OW P n ops Q rest E w'):OW P n ops Q (⟨none,.store T x y,ty,ps,af,none⟩::rest) E w:=cA a hs d hx hy rfl e hl c k
theorem ej {l:List Value} (h:(l.all fun v=>v.oneCell')=true):∀v∈l,v.oneCell'=true:=fun v hv=>List.all_eq_true.1 h v hv
def mH (ops:Array Oper) (E:Env) (j:Nat):Option Value:=match ops[j]? with
 | some o=>match o.dst with
  | some d=>some (E d)
  | none=>none
 | none=>none
theorem jn {j:Nat} {v:Value} (h:mH ops E j=some v):∃oj d0,ops[j]?=some oj∧oj.dst=some d0∧ev E (.tmp d0)=v:=by
 unfold mH at h;split at h
 ·rename_i o h1;split at h
  ·rename_i d h2;cases h
   exact ⟨o,d,h1,h2,rfl⟩
  ·cases h
 ·cases h
theorem OJ {d:Tmp} {j:Nat} {a b c:Bool} (e:b=c) (h:(mH ops E j,c == a,Nat.blt d n.sz)=(some (.bool b),false,true)) (k:OW P n ops Q rest (cp E d undef) w):OW P n ops Q (⟨some d,op,ty,ps,af,some (j,a)⟩::rest) E w:=by
 obtain ⟨hj,hne,hd⟩:mH ops E j=some (.bool b)∧(c == a)=false∧Nat.blt d n.sz=true:=by simpa only [Prod.mk.injEq] using h
 obtain ⟨l,m,i,g,f⟩:=jn hj;exact OK i g f (by rw [e]; exact hne) hd k
theorem OI {d:Tmp} {v:Value} {w':World} {j:Nat} {a b c:Bool} (f:b=c) (h:(mH ops E j,c == a,Nat.blt d n.sz)=(some (.bool b),true,true)) (e:cq P E ⟨some d,op,ty,ps,af,some (j,a)⟩ w v w') (k:OW P n ops Q rest (cp E d v) w'):OW P n ops Q (⟨some d,op,ty,ps,af,some (j,a)⟩::rest) E w:=by
 obtain ⟨hj,hne,hd⟩:mH ops E j=some (.bool b)∧(c == a)=true∧Nat.blt d n.sz=true:=by simpa only [Prod.mk.injEq] using h
 obtain ⟨m,o,l,i,g⟩:=jn hj;exact OG l i g (by rw [f]; exact hne) e hd k
theorem CI {d:Tmp} {f:FuncId} {xs:Array Operand} {p:Array TypeId} {j:Nat} {a b c:Bool} (h:b=c) (g:mH ops E j=some (.bool b)) (e:(c == a)=true) (args:List Value) {R:Value→World→Prop} (hf:CF P f) (ha:xs.toList.map (ev E)=args) (i:aU P f args.toArray w R) (hd:Nat.blt d n.sz=true)
 (k:∀v w',R v w'→OW P n ops Q rest (cp E d v) w'):OW P n ops Q (⟨some d,.call { callee:=.value (.func f),args:=xs,argTypes:=p },ty,ps,af,some (j,a)⟩::rest) E w:=by
 obtain ⟨q,r,o,m,l⟩:=jn g;exact CG o m l (by rw [h]; exact e) args hf ha i hd k
theorem SI {Q:Env→Prop} {d:Tmp} {v:Value} {j:Nat} {want b c:Bool} (hg:b=c) (hj:mH ops E j=some (.bool b)) (hne:(c == want)=true) (hr:cq P E ⟨some d,op,ty,ps,af,some (j,want)⟩ w v w) (hd:Nat.blt d n.sz=true) (k:SW P n ops w Q rest (cp E d v)):SW P n ops w Q (⟨some d,op,ty,ps,af,some (j,want)⟩::rest) E:=by
 obtain ⟨oj,d0,h1,h2,h3⟩:=jn hj;exact SG h1 h2 h3 (by rw [hg]; exact hne) hr hd k
theorem SJ {Q:Env→Prop} {d:Tmp} {j:Nat} {a b c:Bool} (e:b=c) (h:(mH ops E j,c == a,Nat.blt d n.sz)=(some (.bool b),false,true)) (k:SW P n ops w Q rest (cp E d undef)):SW P n ops w Q (⟨some d,op,ty,ps,af,some (j,a)⟩::rest) E:=by
 obtain ⟨hj,hne,hd⟩:mH ops E j=some (.bool b)∧(c == a)=false∧Nat.blt d n.sz=true:=by simpa only [Prod.mk.injEq] using h
 obtain ⟨l,m,i,g,f⟩:=jn hj;exact SK i g f (by rw [e]; exact hne) hd k
theorem Ok {d:Tmp} {j:Nat} {want b:Bool} (h:(mH ops E j,b == want,Nat.blt d n.sz)=(some (.bool b),false,true)) (k:OW P n ops Q rest (cp E d undef) w):OW P n ops Q (⟨some d,op,ty,ps,af,some (j,want)⟩::rest) E w:=OJ rfl h k
theorem Sk {Q:Env→Prop} {d:Tmp} {j:Nat} {want b:Bool} (h:(mH ops E j,b == want,Nat.blt d n.sz)=(some (.bool b),false,true)) (k:SW P n ops w Q rest (cp E d undef)):SW P n ops w Q (⟨some d,op,ty,ps,af,some (j,want)⟩::rest) E:=SJ rfl h k
theorem Im {d:Tmp} {x:Operand} {j:Nat} {want b c:Bool} (hg:b=c) (v:Value) (h:(ev E x,mH ops E j,c == want,Nat.blt d n.sz)=(v,some (.bool b),true,true)) (k:OW P n ops Q rest (cp E d v) w):OW P n ops Q (⟨some d,.move x,ty,ps,af,some (j,want)⟩::rest) E w:=OI hg (congrArg Prod.snd h) (ei (congrArg Prod.fst h)) k
theorem Sm {Q:Env→Prop} {d:Tmp} {x:Operand} (v:Value) (h:(ev E x,Nat.blt d n.sz)=(v,true)) (k:SW P n ops w Q rest (cp E d v)):SW P n ops w Q (⟨some d,.move x,ty,ps,af,none⟩::rest) E:=S (ei (congrArg Prod.fst h)) (congrArg Prod.snd h) k
theorem Sa {Q:Env→Prop} {d:Tmp} {x:Operand} (v:Value) (h:(ev E x,Nat.blt d n.sz)=(v,true)) (k:SW P n ops w Q rest (cp E d v)):SW P n ops w Q (⟨some d,.assign x,ty,ps,af,none⟩::rest) E:=S (qp (congrArg Prod.fst h)) (congrArg Prod.snd h) k
theorem Jm {Q:Env→Prop} {d:Tmp} {x:Operand} {j:Nat} {a b c:Bool} (e:b=c) (v:Value) (h:(ev E x,mH ops E j,c == a,Nat.blt d n.sz)=(v,some (.bool b),true,true)) (k:SW P n ops w Q rest (cp E d v)):SW P n ops w Q (⟨some d,.move x,ty,ps,af,some (j,a)⟩::rest) E:=by
 obtain ⟨hx,hj,hne,hd⟩:ev E x=v∧mH ops E j=some (.bool b)∧(c == a)=true∧Nat.blt d n.sz=true:=by simpa only [Prod.mk.injEq] using h
 exact SI e hj hne (ei hx) hd k
theorem WA {id:Nat} {l:List Oper} (hs:Sep g0 w0 g w L) (t:OT) (hm:P.follows .mixedOrders=true) (hB:vA l.toArray t=true) [hP:fJ Q] (h:AT P n l.toArray Q (SS g0 w0 g L) t.qs t E w.drew):WP P n (.region id l.toArray true) Q E w:=re t _ hm hB h
theorem Sep.ss (hs:Sep g0 w0 g w L):SS g0 w0 g L w:=⟨g,bg.refl _,hs⟩
end
def uu:Nat→List Res→List Res
 | _,[]=>[]
 | m,r::l=>bif Nat.beq (Nat.mod m 2) 1 then r::uu (Nat.div m 2) l else uu (Nat.div m 2) l
theorem ot:∀(l:List Res) (m:Nat),List.Sublist (uu m l) l
 | [],_=>.slnil
 | r::l,m=>by
  unfold uu;cases Nat.beq (Nat.mod m 2) 1
  ·exact .cons _ (ot l _)
  ·exact .cons_cons _ (ot l _)
theorem Sep.kp {g0 g:Hp} {w0 w:World} {L L':List Res} (h:Sep g0 w0 g w L) (m:Nat) (e:uu m L=L'):Sep g0 w0 g w L':=h.sub (e ▸ ot L m)
theorem cw.oc {α:Type} {τ:Ty α} {g:Hp} {v:Value} {l:List α} (h:cw τ g v l):v.oneCell'=true:=bL h.shape
theorem Sep.oc {g0 g:Hp} {w0 w:World} {L:List Res} (h:Sep g0 w0 g w L) (i:Nat) {v:Value} {e:TypeId} {sz n:Nat} {xs:List Value} (hi:L[i]?=some (.row v e sz n xs)):v.oneCell'=true:=bL (h.rowShape hi)
section
variable {P:Program} {n:Fr} {Q:EPost} {E:Env} {w:World} {ops:Array Oper} {S:World→Prop} {qs:List Nat} {t:OT} {k:Nat} {d:Tmp} {ty:TypeId} {ps:String} {af:Array Edge}
theorem Am {x:Operand} (v:Value) (hS:S w) (h:(ops[k]?,ev E x,Nat.blt d n.sz)=(some ⟨some d,.move x,ty,ps,af,none⟩,v,true)) (hk:AT P n ops Q S qs t (cp E d v) w):AT P n ops Q S qs (.q k t) E w:=by
 obtain ⟨ho,hx,hd⟩:ops[k]?=some ⟨some d,.move x,ty,ps,af,none⟩∧ev E x=v∧Nat.blt d n.sz=true:=by simpa only [Prod.mk.injEq] using h
 exact A ho hS (fun _ _=>ei hx) hd hk
theorem Aa {x:Operand} (v:Value) (hS:S w) (h:(ops[k]?,ev E x,Nat.blt d n.sz)=(some ⟨some d,.assign x,ty,ps,af,none⟩,v,true)) (hk:AT P n ops Q S qs t (cp E d v) w):AT P n ops Q S qs (.q k t) E w:=by
 obtain ⟨ho,hx,hd⟩:ops[k]?=some ⟨some d,.assign x,ty,ps,af,none⟩∧ev E x=v∧Nat.blt d n.sz=true:=by simpa only [Prod.mk.injEq] using h
 exact A ho hS (fun _ _=>qp hx) hd hk
end
abbrev Ev (E:Env) (ks:List Nat) (vs:List Value):Prop:=ks.map E.s=vs
def DD (E:Env):List Nat→List Value→Env
 | k::ks,v::vs=>cp (DD E ks vs) k v
 | _,_=>E
theorem DC {E:Env}:∀ {ks:List Nat} {vs:List Value},Ev E ks vs→DD E ks vs=E
 | [],vs,_=>by unfold DD; rfl
 | k::ks,[],h=>by cases h
 | k::ks,v::vs,h=>by
  have h1:=(List.cons.inj h).1;show cp (DD E ks vs) k v=E;rw [DC (List.cons.inj h).2];exact yx h1
theorem wT {E:Env} {ks:List Nat} {vs:List Value} (h:Ev E ks vs):∃E0,E=DD E0 ks vs:=⟨E,(DC h).symm⟩
theorem kf {E:Env} {k0:Nat} {v0:Value} (h:Ev E [k0] [v0]):∃E0,E=cp E0 k0 v0:=wT h
theorem jo {E:Env} {k0 k1:Nat} {v0 v1:Value} (h:Ev E [k0,k1] [v0,v1]):∃E0,E=cp (cp E0 k1 v1) k0 v0:=wT h
theorem fA {E:Env} {k0 k1 k2:Nat} {v0 v1 v2:Value} (h:Ev E [k0,k1,k2] [v0,v1,v2]):∃E0,E=cp (cp (cp E0 k2 v2) k1 v1) k0 v0:=wT h
theorem fS {E:Env} {k0 k1 k2 k3:Nat} {v0 v1 v2 v3:Value} (h:Ev E [k0,k1,k2,k3] [v0,v1,v2,v3]):∃E0,E=cp (cp (cp (cp E0 k3 v3) k2 v2) k1 v1) k0 v0:=wT h
theorem jY {E:Env} {k0 k1 k2 k3 k4:Nat} {v0 v1 v2 v3 v4:Value} (h:Ev E [k0,k1,k2,k3,k4] [v0,v1,v2,v3,v4]):∃E0,E=cp (cp (cp (cp (cp E0 k4 v4) k3 v3) k2 v2) k1 v1) k0 v0:=wT h
theorem mR {E:Env} {k0 k1 k2 k3 k4 k5:Nat} {v0 v1 v2 v3 v4 v5:Value} (h:Ev E [k0,k1,k2,k3,k4,k5] [v0,v1,v2,v3,v4,v5]):∃E0,E=cp (cp (cp (cp (cp (cp E0 k5 v5) k4 v4) k3 v3) k2 v2) k1 v1) k0 v0:=wT h
theorem rI {E:Env} {k0 k1 k2 k3 k4 k5 k6:Nat} {v0 v1 v2 v3 v4 v5 v6:Value} (h:Ev E [k0,k1,k2,k3,k4,k5,k6] [v0,v1,v2,v3,v4,v5,v6]):∃E0,E=cp (cp (cp (cp (cp (cp (cp E0 k6 v6) k5 v5) k4 v4) k3 v3) k2 v2) k1 v1) k0 v0:=wT h
theorem rH {E:Env} {k0 k1 k2 k3 k4 k5 k6 k7:Nat} {v0 v1 v2 v3 v4 v5 v6 v7:Value} (h:Ev E [k0,k1,k2,k3,k4,k5,k6,k7] [v0,v1,v2,v3,v4,v5,v6,v7]):∃E0,E=cp (cp (cp (cp (cp (cp (cp (cp E0 k7 v7) k6 v6) k5 v5) k4 v4) k3 v3) k2 v2) k1 v1) k0 v0:=wT h
theorem Cg {E:Env} {k0 k1 k2 k3 k4 k5 k6 k7 k8:Nat} {v0 v1 v2 v3 v4 v5 v6 v7 v8:Value} (h:Ev E [k0,k1,k2,k3,k4,k5,k6,k7,k8] [v0,v1,v2,v3,v4,v5,v6,v7,v8]):∃E0,E=cp (cp (cp (cp (cp (cp (cp (cp (cp E0 k8 v8) k7 v7) k6 v6) k5 v5) k4 v4) k3 v3) k2 v2) k1 v1) k0 v0:=wT h
theorem rJ {E:Env} {k0 k1 k2 k3 k4 k5 k6 k7 k8 k9:Nat} {v0 v1 v2 v3 v4 v5 v6 v7 v8 v9:Value} (h:Ev E [k0,k1,k2,k3,k4,k5,k6,k7,k8,k9] [v0,v1,v2,v3,v4,v5,v6,v7,v8,v9]):∃E0,E=cp (cp (cp (cp (cp (cp (cp (cp (cp (cp E0 k9 v9) k8 v8) k7 v7) k6 v6) k5 v5) k4 v4) k3 v3) k2 v2) k1 v1) k0 v0:=wT h
theorem vB {E:Env} {k0 k1 k2 k3 k4 k5 k6 k7 k8 k9 k10:Nat} {v0 v1 v2 v3 v4 v5 v6 v7 v8 v9 v10:Value} (h:Ev E [k0,k1,k2,k3,k4,k5,k6,k7,k8,k9,k10] [v0,v1,v2,v3,v4,v5,v6,v7,v8,v9,v10]):∃E0,E=cp (cp (cp (cp (cp (cp (cp (cp (cp (cp (cp E0 k10 v10) k9 v9) k8 v8) k7 v7) k6 v6) k5 v5) k4 v4) k3 v3) k2 v2) k1 v1) k0 v0:=wT h
theorem CR {E:Env} {k0 k1 k2 k3 k4 k5 k6 k7 k8 k9 k10 k11:Nat} {v0 v1 v2 v3 v4 v5 v6 v7 v8 v9 v10 v11:Value} (h:Ev E [k0,k1,k2,k3,k4,k5,k6,k7,k8,k9,k10,k11] [v0,v1,v2,v3,v4,v5,v6,v7,v8,v9,v10,v11]):∃E0,E=cp (cp (cp (cp (cp (cp (cp (cp (cp (cp (cp (cp E0 k11 v11) k10 v10) k9 v9) k8 v8) k7 v7) k6 v6) k5 v5) k4 v4) k3 v3) k2 v2) k1 v1) k0 v0:=wT h
theorem yS {E:Env} {k0 k1 k2 k3 k4 k5 k6 k7 k8 k9 k10 k11 k12:Nat} {v0 v1 v2 v3 v4 v5 v6 v7 v8 v9 v10 v11 v12:Value} (h:Ev E [k0,k1,k2,k3,k4,k5,k6,k7,k8,k9,k10,k11,k12] [v0,v1,v2,v3,v4,v5,v6,v7,v8,v9,v10,v11,v12]):∃E0,E=cp (cp (cp (cp (cp (cp (cp (cp (cp (cp (cp (cp (cp E0 k12 v12) k11 v11) k10 v10) k9 v9) k8 v8) k7 v7) k6 v6) k5 v5) k4 v4) k3 v3) k2 v2) k1 v1) k0 v0:=wT h
theorem Fs {E:Env} {x w r q p o n m l k v u t s:Nat} {v0 j d v3 v4 v5 c b a v9 i g f e:Value} (h:Ev E [x,w,r,q,p,o,n,m,l,k,v,u,t,s] [v0,j,d,v3,v4,v5,c,b,a,v9,i,g,f,e]):∃y,E=cp (cp (cp (cp (cp (cp (cp (cp (cp (cp (cp (cp (cp (cp y s e) t f) u g) v i) k v9) l a) m b) n c) o v5) p v4) q v3) r d) w j) x v0:=wT h
end Go.Lx
namespace Go.Proofs.YtggpjcdhflcfmaaGreatDoor
open Go.Lx Go.RowKit
theorem mo:Tryz.prog.follows .mixedOrders=true:=by kernel_rfl
theorem bc:eh Tryz.prog 3 false 1 8 (Value.int .i64 0):=dF (by kernel_rfl) (by kernel_rfl)
theorem cK:eh Tryz.prog 4 false 1 1 (Value.bool false):=dF (by kernel_rfl) (by kernel_rfl)
theorem tF:eh Tryz.prog 5 false 1 1 (Value.int .u8 0):=dF (by kernel_rfl) (by kernel_rfl)
theorem eG:eh Tryz.prog 9 false 1 16 (ap []):=dF (by kernel_rfl) (by kernel_rfl)
theorem dL:eh Tryz.prog 22 false 1 24 (.slice none 0 0):=dF (by kernel_rfl) (by kernel_rfl)
theorem js:eh Tryz.prog 24 true 4 48 (Value.agg (List.toArray (α:=Value) [.slice none 0 0,Value.bool false,Value.int .i64 0,Value.int .i64 0])):=dF (by kernel_rfl) (by kernel_rfl)
theorem DF:eh Tryz.prog 26 false 1 8 (Value.nilFunc):=dF (by kernel_rfl) (by kernel_rfl)
theorem bm:eh Tryz.prog 34 false 1 24 (.slice none 0 0):=dF (by kernel_rfl) (by kernel_rfl)
theorem dK:eh Tryz.prog 35 false 1 24 (.slice none 0 0):=dF (by kernel_rfl) (by kernel_rfl)
theorem bV:eh Tryz.prog 37 true 3 72 (Value.agg (List.toArray (α:=Value) [.slice none 0 0,.slice none 0 0,.slice none 0 0])):=dF (by kernel_rfl) (by kernel_rfl)
theorem mU:eh Tryz.prog 38 false 1 8 (Value.int .i64 0):=dF (by kernel_rfl) (by kernel_rfl)
theorem dI:eh Tryz.prog 46 true 5 72 (Value.agg (List.toArray (α:=Value) [ap [],Value.int .i64 0,ap [],ap [],ap []])):=dF (by kernel_rfl) (by kernel_rfl)
theorem eK:eh Tryz.prog 48 false 1 8 (Value.int .u64 0):=dF (by kernel_rfl) (by kernel_rfl)
theorem bZ:eh Tryz.prog 50 true 4 32 (cE .u64 (aT.zero 4)):=dF (by kernel_rfl) (by kernel_rfl)
theorem dT:eh Tryz.prog 51 false 1 24 (.slice none 0 0):=dF (by kernel_rfl) (by kernel_rfl)
theorem bj:eh Tryz.prog 53 true 6 64 (Value.agg (List.toArray (α:=Value) (([Value.int .i64 0])++(((aT.zero 4).1.map (Value.int .u64))++([.slice none 0 0]))))):=dF (by kernel_rfl) (by kernel_rfl)
theorem oQ:eh Tryz.prog 65 false 1 24 (.slice none 0 0):=dF (by kernel_rfl) (by kernel_rfl)
theorem eS:eh Tryz.prog 69 false 1 24 (.slice none 0 0):=dF (by kernel_rfl) (by kernel_rfl)
theorem eC:eh Tryz.prog 71 true 4 64 (Value.agg (List.toArray (α:=Value) [Value.int .i64 0,Value.int .i64 0,.slice none 0 0,.slice none 0 0])):=dF (by kernel_rfl) (by kernel_rfl)
theorem iL:eh Tryz.prog 85 false 1 24 (.slice none 0 0):=dF (by kernel_rfl) (by kernel_rfl)
theorem ru:eh Tryz.prog 86 false 1 24 (.slice none 0 0):=dF (by kernel_rfl) (by kernel_rfl)
theorem iK:eh Tryz.prog 90 true 3 56 (Value.agg (List.toArray (α:=Value) [Value.bool false,.slice none 0 0,.slice none 0 0])):=dF (by kernel_rfl) (by kernel_rfl)
theorem AA:eh Tryz.prog 93 true 2 16 (cE .i64 (aT.zero 2)):=dF (by kernel_rfl) (by kernel_rfl)
theorem eR:eh Tryz.prog 95 true 7 56 (Value.agg (List.toArray (α:=Value) (([Value.int .i64 0])++(([Value.int .i64 0])++(([Value.bool false])++((aT.zero 4).1.map (Value.int .u64))))))):=dF (by kernel_rfl) (by kernel_rfl)
theorem tS:eh Tryz.prog 105 true 2 16 (Value.agg (List.toArray (α:=Value) [Value.nilFunc,Value.int .i64 0])):=dF (by kernel_rfl) (by kernel_rfl)
theorem pT:eh Tryz.prog 125 false 1 8 (Value.map none):=dF (by kernel_rfl) (by kernel_rfl)
theorem oG:eh Tryz.prog 126 false 1 24 (.slice none 0 0):=dF (by kernel_rfl) (by kernel_rfl)
theorem cC:eh Tryz.prog 130 true 3 56 (Value.agg (List.toArray (α:=Value) [Value.bool false,.slice none 0 0,.slice none 0 0])):=dF (by kernel_rfl) (by kernel_rfl)
theorem iM:eh Tryz.prog 145 true 2 16 (Value.agg (List.toArray (α:=Value) [Value.int .i64 0,Value.int .i64 0])):=dF (by kernel_rfl) (by kernel_rfl)
theorem pS:eh Tryz.prog 147 true 3 32 (Value.agg (List.toArray (α:=Value) (([Value.int .i64 0,Value.int .i64 0])++([ap []])))):=dF (by kernel_rfl) (by kernel_rfl)
theorem yy:eh Tryz.prog 149 true 0 0 (Value.agg (List.toArray (α:=Value) [])):=dF (by kernel_rfl) (by kernel_rfl)
theorem zz:Tryz.prog.eqGuardType Tryz.prog.depth 50=false:=by kernel_rfl
theorem Ch:Tryz.prog.concrete 9=true:=by kernel_rfl
theorem xb:Tryz.prog.concrete 107=true:=by kernel_rfl
theorem FZ:CF Tryz.prog 7:=bz Tryz.func7 rfl (by decide)
theorem GX:CF Tryz.prog 8:=bz Tryz.func8 rfl (by decide)
theorem Ho:CF Tryz.prog 9:=bz Tryz.func9 rfl (by decide)
theorem GK:CF Tryz.prog 11:=bz Tryz.func11 rfl (by decide)
theorem GJ:CF Tryz.prog 13:=bz Tryz.func13 rfl (by decide)
theorem GI:CF Tryz.prog 15:=bz Tryz.func15 rfl (by decide)
theorem GH:CF Tryz.prog 16:=bz Tryz.func16 rfl (by decide)
theorem GG:CF Tryz.prog 17:=bz Tryz.func17 rfl (by decide)
theorem Ew:CF Tryz.prog 18:=bz Tryz.func18 rfl (by decide)
theorem BH:CF Tryz.prog 19:=bz Tryz.func19 rfl (by decide)
theorem GF:CF Tryz.prog 21:=bz Tryz.func21 rfl (by decide)
theorem zG:CF Tryz.prog 22:=bz Tryz.func22 rfl (by decide)
theorem GE:CF Tryz.prog 23:=bz Tryz.func23 rfl (by decide)
theorem Eu:CF Tryz.prog 24:=bz Tryz.func24 rfl (by decide)
theorem GD:CF Tryz.prog 25:=bz Tryz.func25 rfl (by decide)
theorem Et:CF Tryz.prog 26:=bz Tryz.func26 rfl (by decide)
theorem GC:CF Tryz.prog 27:=bz Tryz.func27 rfl (by decide)
theorem GB:CF Tryz.prog 28:=bz Tryz.func28 rfl (by decide)
theorem Es:CF Tryz.prog 30:=bz Tryz.func30 rfl (by decide)
theorem GA:CF Tryz.prog 31:=bz Tryz.func31 rfl (by decide)
theorem Gz:CF Tryz.prog 32:=bz Tryz.func32 rfl (by decide)
theorem Gw:CF Tryz.prog 33:=bz Tryz.func33 rfl (by decide)
theorem Er:CF Tryz.prog 34:=bz Tryz.func34 rfl (by decide)
theorem Dk:CF Tryz.prog 35:=bz Tryz.func35 rfl (by decide)
theorem Gv:CF Tryz.prog 36:=bz Tryz.func36 rfl (by decide)
theorem Gu:CF Tryz.prog 37:=bz Tryz.func37 rfl (by decide)
theorem Ep:CF Tryz.prog 39:=bz Tryz.func39 rfl (by decide)
theorem Eo:CF Tryz.prog 40:=bz Tryz.func40 rfl (by decide)
theorem Gt:CF Tryz.prog 41:=bz Tryz.func41 rfl (by decide)
theorem BG:CF Tryz.prog 42:=bz Tryz.func42 rfl (by decide)
theorem Dj:CF Tryz.prog 43:=bz Tryz.func43 rfl (by decide)
theorem Gs:CF Tryz.prog 44:=bz Tryz.func44 rfl (by decide)
theorem Gr:CF Tryz.prog 45:=bz Tryz.func45 rfl (by decide)
theorem Gq:CF Tryz.prog 46:=bz Tryz.func46 rfl (by decide)
theorem BF:CF Tryz.prog 47:=bz Tryz.func47 rfl (by decide)
theorem Gp:CF Tryz.prog 48:=bz Tryz.func48 rfl (by decide)
theorem Gn:CF Tryz.prog 49:=bz Tryz.func49 rfl (by decide)
theorem Gm:CF Tryz.prog 50:=bz Tryz.func50 rfl (by decide)
theorem Gl:CF Tryz.prog 51:=bz Tryz.func51 rfl (by decide)
theorem Gk:CF Tryz.prog 52:=bz Tryz.func52 rfl (by decide)
theorem Gj:CF Tryz.prog 53:=bz Tryz.func53 rfl (by decide)
theorem Gi:CF Tryz.prog 54:=bz Tryz.func54 rfl (by decide)
theorem Gh:CF Tryz.prog 55:=bz Tryz.func55 rfl (by decide)
theorem Gg:CF Tryz.prog 56:=bz Tryz.func56 rfl (by decide)
theorem Di:CF Tryz.prog 57:=bz Tryz.func57 rfl (by decide)
theorem Gf:CF Tryz.prog 58:=bz Tryz.func58 rfl (by decide)
theorem Ge:CF Tryz.prog 59:=bz Tryz.func59 rfl (by decide)
theorem BE:CF Tryz.prog 60:=bz Tryz.func60 rfl (by decide)
theorem BD:CF Tryz.prog 61:=bz Tryz.func61 rfl (by decide)
theorem nG:CF Tryz.prog 62:=bz Tryz.func62 rfl (by decide)
theorem En:CF Tryz.prog 63:=bz Tryz.func63 rfl (by decide)
theorem Gd:CF Tryz.prog 64:=bz Tryz.func64 rfl (by decide)
theorem Gc:CF Tryz.prog 65:=bz Tryz.func65 rfl (by decide)
theorem Gb:CF Tryz.prog 66:=bz Tryz.func66 rfl (by decide)
theorem uH:CF Tryz.prog 67:=bz Tryz.func67 rfl (by decide)
theorem Dh:CF Tryz.prog 68:=bz Tryz.func68 rfl (by decide)
theorem Ga:CF Tryz.prog 69:=bz Tryz.func69 rfl (by decide)
theorem FY:CF Tryz.prog 70:=bz Tryz.func70 rfl (by decide)
theorem Em:CF Tryz.prog 71:=bz Tryz.func71 rfl (by decide)
theorem ph:CF Tryz.prog 72:=bz Tryz.func72 rfl (by decide)
theorem El:CF Tryz.prog 73:=bz Tryz.func73 rfl (by decide)
theorem Ek:CF Tryz.prog 74:=bz Tryz.func74 rfl (by decide)
theorem FW:CF Tryz.prog 75:=bz Tryz.func75 rfl (by decide)
theorem FU:CF Tryz.prog 76:=bz Tryz.func76 rfl (by decide)
theorem FT:CF Tryz.prog 77:=bz Tryz.func77 rfl (by decide)
theorem Dg:CF Tryz.prog 78:=bz Tryz.func78 rfl (by decide)
theorem FS:CF Tryz.prog 79:=bz Tryz.func79 rfl (by decide)
theorem BC:CF Tryz.prog 80:=bz Tryz.func80 rfl (by decide)
theorem yk:CF Tryz.prog 81:=bz Tryz.func81 rfl (by decide)
theorem Ej:CF Tryz.prog 82:=bz Tryz.func82 rfl (by decide)
theorem Ei:CF Tryz.prog 83:=bz Tryz.func83 rfl (by decide)
theorem Eh:CF Tryz.prog 84:=bz Tryz.func84 rfl (by decide)
theorem BB:CF Tryz.prog 85:=bz Tryz.func85 rfl (by decide)
theorem Df:CF Tryz.prog 86:=bz Tryz.func86 rfl (by decide)
theorem FR:CF Tryz.prog 87:=bz Tryz.func87 rfl (by decide)
theorem FP:CF Tryz.prog 88:=bz Tryz.func88 rfl (by decide)
theorem FO:CF Tryz.prog 89:=bz Tryz.func89 rfl (by decide)
theorem FN:CF Tryz.prog 90:=bz Tryz.func90 rfl (by decide)
theorem Eg:CF Tryz.prog 91:=bz Tryz.func91 rfl (by decide)
theorem De:CF Tryz.prog 92:=bz Tryz.func92 rfl (by decide)
theorem Dd:CF Tryz.prog 93:=bz Tryz.func93 rfl (by decide)
theorem FM:CF Tryz.prog 94:=bz Tryz.func94 rfl (by decide)
theorem FK:CF Tryz.prog 95:=bz Tryz.func95 rfl (by decide)
theorem FJ:CF Tryz.prog 96:=bz Tryz.func96 rfl (by decide)
theorem FI:CF Tryz.prog 97:=bz Tryz.func97 rfl (by decide)
theorem FG:CF Tryz.prog 98:=bz Tryz.func98 rfl (by decide)
theorem Dc:CF Tryz.prog 99:=bz Tryz.func99 rfl (by decide)
theorem Cu:CF Tryz.prog 100:=bz Tryz.func100 rfl (by decide)
theorem zK:CF Tryz.prog 101:=bz Tryz.func101 rfl (by decide)
theorem EV:CF Tryz.prog 102:=bz Tryz.func102 rfl (by decide)
theorem Ct:CF Tryz.prog 103:=bz Tryz.func103 rfl (by decide)
theorem EU:CF Tryz.prog 104:=bz Tryz.func104 rfl (by decide)
theorem ET:CF Tryz.prog 105:=bz Tryz.func105 rfl (by decide)
theorem ES:CF Tryz.prog 106:=bz Tryz.func106 rfl (by decide)
theorem ER:CF Tryz.prog 107:=bz Tryz.func107 rfl (by decide)
theorem EQ:CF Tryz.prog 108:=bz Tryz.func108 rfl (by decide)
theorem EP:CF Tryz.prog 109:=bz Tryz.func109 rfl (by decide)
theorem zJ:CF Tryz.prog 113:=bz Tryz.func113 rfl (by decide)
theorem Cs:CF Tryz.prog 114:=bz Tryz.func114 rfl (by decide)
theorem EO:CF Tryz.prog 115:=bz Tryz.func115 rfl (by decide)
theorem Cr:CF Tryz.prog 116:=bz Tryz.func116 rfl (by decide)
theorem Cq:CF Tryz.prog 117:=bz Tryz.func117 rfl (by decide)
theorem EN:CF Tryz.prog 118:=bz Tryz.func118 rfl (by decide)
theorem EM:CF Tryz.prog 119:=bz Tryz.func119 rfl (by decide)
theorem EL:CF Tryz.prog 120:=bz Tryz.func120 rfl (by decide)
theorem xg:CF Tryz.prog 121:=bz Tryz.func121 rfl (by decide)
theorem EK:CF Tryz.prog 122:=bz Tryz.func122 rfl (by decide)
theorem Cp:CF Tryz.prog 123:=bz Tryz.func123 rfl (by decide)
theorem Co:CF Tryz.prog 124:=bz Tryz.func124 rfl (by decide)
theorem hZ:CF Tryz.prog 125:=bz Tryz.func125 rfl (by decide)
theorem EJ:CF Tryz.prog 129:=bz Tryz.func129 rfl (by decide)
theorem EI:CF Tryz.prog 130:=bz Tryz.func130 rfl (by decide)
theorem EH:CF Tryz.prog 131:=bz Tryz.func131 rfl (by decide)
theorem EG:CF Tryz.prog 132:=bz Tryz.func132 rfl (by decide)
theorem EF:CF Tryz.prog 133:=bz Tryz.func133 rfl (by decide)
theorem zI:CF Tryz.prog 134:=bz Tryz.func134 rfl (by decide)
theorem xf:CF Tryz.prog 135:=bz Tryz.func135 rfl (by decide)
theorem Cn:CF Tryz.prog 136:=bz Tryz.func136 rfl (by decide)
theorem EE:CF Tryz.prog 137:=bz Tryz.func137 rfl (by decide)
theorem sy:CF Tryz.prog 138:=bz Tryz.func138 rfl (by decide)
theorem ED:CF Tryz.prog 139:=bz Tryz.func139 rfl (by decide)
theorem zH:CF Tryz.prog 151:=bz Tryz.func151 rfl (by decide)
theorem Cm:CF Tryz.prog 152:=bz Tryz.func152 rfl (by decide)
theorem EC:CF Tryz.prog 153:=bz Tryz.func153 rfl (by decide)
theorem EB:CF Tryz.prog 154:=bz Tryz.func154 rfl (by decide)
theorem xe:CF Tryz.prog 155:=bz Tryz.func155 rfl (by decide)
theorem EA:CF Tryz.prog 156:=bz Tryz.func156 rfl (by decide)
theorem Ck:CF Tryz.prog 157:=bz Tryz.func157 rfl (by decide)
theorem Ez:CF Tryz.prog 158:=bz Tryz.func158 rfl (by decide)
theorem Cj:CF Tryz.prog 159:=bz Tryz.func159 rfl (by decide)
theorem Ey:CF Tryz.prog 160:=bz Tryz.func160 rfl (by decide)
theorem Ex:CF Tryz.prog 167:=bz Tryz.func167 rfl (by decide)
open Go.ChangeShapes Go.WideShapes Go.ChangeAt
def nu (x:bp):Prop:=(fun s=>s.length≤maxLen) x.Name∧(yv .i64) x.Kind∧(fun s=>s.length≤maxLen) x.Pattern∧(fun s=>s.length≤maxLen) x.Sample∧(fun s=>s.length≤maxLen) x.Close
set_option maxRecDepth 100000 in
theorem oZ:ic Tryz.prog 46 ce nu:=by
 intro H enc w f cs x h;obtain ⟨_,_,_,_,hl,hlen,hf⟩:=DataW.trod_struct HK h;obtain ⟨e,l,r⟩:=dN (lq Hv) hf hlen 0 rfl (o:=0) (s:=1) rfl (by kernel_rfl);obtain ⟨d,k,q⟩:=dN (lr Hw) hf hlen 1 rfl (o:=1) (s:=1) rfl (by kernel_rfl);obtain ⟨c,j,p⟩:=dN (lq Hv) hf hlen 2 rfl (o:=2) (s:=1) rfl (by kernel_rfl);obtain ⟨b,i,n⟩:=dN (lq Hv) hf hlen 3 rfl (o:=3) (s:=1) rfl (by kernel_rfl);obtain ⟨a,g,m⟩:=dN (lq Hv) hf hlen 4 rfl (o:=4) (s:=1) rfl (by kernel_rfl);have t:cs.length=5:=hl.trans (by kernel_rfl);refine ⟨⟨e,d,c,b,a⟩,⟨_,_,_,_,_,?_,l,k,j,i,g⟩,r,q,p,n,m⟩;exact (wb cs 0 1).trans (congrArg (_++·) ((wb cs 1 1).trans (congrArg (_++·) ((wb cs 2 1).trans (congrArg (_++·) ((wb cs 3 1).trans (congrArg (_++·) (Ee (o:=4) (s:=1) t))))))))
def kH (x:T_LexSpec):Prop:=(fun l=>(∀x∈l,nu x)∧l.length≤maxLen) x.Defs∧(fun _=>True) x.Layout∧(yv .i64) x.Misspelling∧(yv .i64) x.Unclosed
set_option maxRecDepth 100000 in
theorem qn:ic Tryz.prog 24 dh kH:=by
 intro H enc w f cs x h;obtain ⟨_,_,_,_,hl,hlen,hf⟩:=DataW.trod_struct HH h;obtain ⟨d,j,n⟩:=dN (uf HF (by kernel_rfl) (by decide) oZ) hf hlen 0 rfl (o:=0) (s:=1) rfl (by kernel_rfl);obtain ⟨c,i,m⟩:=dN (vm HS) hf hlen 1 rfl (o:=1) (s:=1) rfl (by kernel_rfl);obtain ⟨b,g,l⟩:=dN (lr Hw) hf hlen 2 rfl (o:=2) (s:=1) rfl (by kernel_rfl);obtain ⟨a,e,k⟩:=dN (lr Hw) hf hlen 3 rfl (o:=3) (s:=1) rfl (by kernel_rfl);have p:cs.length=4:=hl.trans (by kernel_rfl);refine ⟨⟨d,c,b,a⟩,⟨_,_,_,_,?_,j,i,g,e⟩,n,m,l,k⟩;exact (wb cs 0 1).trans (congrArg (_++·) ((wb cs 1 1).trans (congrArg (_++·) ((wb cs 2 1).trans (congrArg (_++·) (Ee (o:=3) (s:=1) p))))))
end Go.Proofs.YtggpjcdhflcfmaaGreatDoor
