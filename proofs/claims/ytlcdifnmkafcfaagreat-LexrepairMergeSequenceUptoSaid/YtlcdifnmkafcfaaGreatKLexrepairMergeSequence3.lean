/- Part 3. -/
import Derived.Test.YtlcdifnmkafcfaaGreatProg
import Derived.Test.YtlcdifnmkafcfaaGreatRows
import Derived.Test.YtlcdifnmkafcfaaGreatKLexrepairMergeSequence2
set_option linter.unusedVariables false
set_option linter.unusedSimpArgs false
namespace Go.Proofs.YtlcdifnmkafcfaaGreat
open Go.Lx Go.RowKit
structure bL where
  Name:Str
  Kind:Int
  Pattern:Str
  Sample:Str
  Close:Str
instance:DecidableEq bL:=fun a b=>if h:a.Name=b.Name∧a.Kind=b.Kind∧a.Pattern=b.Pattern∧a.Sample=b.Sample∧a.Close=b.Close then isTrue (by cases a; cases b; simp_all) else isFalse (by intro e; subst e; simp at h)
structure T_LexSpec where
  Defs:(List bL)
  Layout:Bool
  Misspelling:Int
  Unclosed:Int
instance:DecidableEq T_LexSpec:=fun a b=>if h:a.Defs=b.Defs∧a.Layout=b.Layout∧a.Misspelling=b.Misspelling∧a.Unclosed=b.Unclosed then isTrue (by cases a; cases b; simp_all) else isFalse (by intro e; subst e; simp at h)
structure aH where
  s:Str
  atv:Int
  bad:Bool
instance:DecidableEq aH:=fun a b=>if h:a.s=b.s∧a.atv=b.atv∧a.bad=b.bad then isTrue (by cases a; cases b; simp_all) else isFalse (by intro e; subst e; simp at h)
structure T_Regex where
  Kind:Int
  Set:(az 4)
  Kids:(List T_Regex)
instance:Inhabited T_Regex:=⟨⟨default,az.zero 4,[]⟩⟩
structure bO where
  sets:(List (az 4))
  pairs:(List (az 2))
instance:DecidableEq bO:=fun a b=>if h:a.sets=b.sets∧a.pairs=b.pairs then isTrue (by cases a; cases b; simp_all) else isFalse (by intro e; subst e; simp at h)
structure cw where
  nullable:Bool
  first:(List Int)
  last:(List Int)
instance:DecidableEq cw:=fun a b=>if h:a.nullable=b.nullable∧a.first=b.first∧a.last=b.last then isTrue (by cases a; cases b; simp_all) else isFalse (by intro e; subst e; simp at h)
structure dh where
  From:Int
  To:Int
  Epsilon:Bool
  Set:(az 4)
instance:DecidableEq dh:=fun a b=>if h:a.From=b.From∧a.To=b.To∧a.Epsilon=b.Epsilon∧a.Set=b.Set then isTrue (by cases a; cases b; simp_all) else isFalse (by intro e; subst e; simp at h)
structure T_NFA where
  States:Int
  Start:Int
  Arcs:(List dh)
  Accept:(List Int)
instance:DecidableEq T_NFA:=fun a b=>if h:a.States=b.States∧a.Start=b.Start∧a.Arcs=b.Arcs∧a.Accept=b.Accept then isTrue (by cases a; cases b; simp_all) else isFalse (by intro e; subst e; simp at h)
structure T_DFA where
  Class:(List Int)
  Next:(List (List Int))
  Accept:(List Int)
instance:DecidableEq T_DFA:=fun a b=>if h:a.Class=b.Class∧a.Next=b.Next∧a.Accept=b.Accept then isTrue (by cases a; cases b; simp_all) else isFalse (by intro e; subst e; simp at h)
structure aQ where
  Kind:Int
  At:Int
  Text:Str
  Look:Int
instance:DecidableEq aQ:=fun a b=>if h:a.Kind=b.Kind∧a.At=b.At∧a.Text=b.Text∧a.Look=b.Look then isTrue (by cases a; cases b; simp_all) else isFalse (by intro e; subst e; simp at h)
structure aB where
  s:Str
  atv:Int
instance:DecidableEq aB:=fun a b=>if h:a.s=b.s∧a.atv=b.atv then isTrue (by cases a; cases b; simp_all) else isFalse (by intro e; subst e; simp at h)
structure bD where
  Kind:Int
  Price:Int
instance:DecidableEq bD:=fun a b=>if h:a.Kind=b.Kind∧a.Price=b.Price then isTrue (by cases a; cases b; simp_all) else isFalse (by intro e; subst e; simp at h)
def dN:Ty bL:=⟨5,fun g cs x=>∃i c1 c2 c3 h,cs=i++(c1++(c2++(c3++(h))))∧cM.rel g i x.Name∧(au .i64).rel g c1 x.Kind∧cM.rel g c2 x.Pattern∧cM.rel g c3 x.Sample∧cM.rel g h x.Close,
  fun hg ⟨i,c1,c2,c3,h,e,f,d,c,b,a⟩=>⟨i,c1,c2,c3,h,e,cM.mono hg f,(au .i64).mono hg d,cM.mono hg c,cM.mono hg b,cM.mono hg a⟩,
  fun ⟨_,_,_,_,_,e,f,d,c,b,a⟩=>by rw [e]; simp [cM.len f,(au .i64).len d,cM.len c,cM.len b,cM.len a,au,cM],
  fun ⟨_,_,_,_,_,e,f,d,c,b,a⟩ v hv=>by
    subst e; simp only [List.mem_append] at hv; rcases hv with hv|hv|hv|hv|hv
    · exact cM.one f v hv
    · exact (au .i64).one d v hv
    · exact cM.one c v hv
    · exact cM.one b v hv
    · exact cM.one a v hv⟩
def cL:Ty T_LexSpec:=⟨4,fun g cs x=>∃f c1 c2 c3,cs=f++(c1++(c2++(c3)))∧(cz dN).rel g f x.Defs∧aV.rel g c1 x.Layout∧(au .i64).rel g c2 x.Misspelling∧(au .i64).rel g c3 x.Unclosed,
  fun hg ⟨f,c1,c2,c3,e,d,c,b,a⟩=>⟨f,c1,c2,c3,e,(cz dN).mono hg d,aV.mono hg c,(au .i64).mono hg b,(au .i64).mono hg a⟩,
  fun ⟨_,_,_,_,e,d,c,b,a⟩=>by rw [e]; simp [(cz dN).len d,aV.len c,(au .i64).len b,(au .i64).len a,aV,au,cz],
  fun ⟨_,_,_,_,e,d,c,b,a⟩ v hv=>by
    subst e; simp only [List.mem_append] at hv; rcases hv with hv|hv|hv|hv
    · exact (cz dN).one d v hv
    · exact aV.one c v hv
    · exact (au .i64).one b v hv
    · exact (au .i64).one a v hv⟩
def pi (τ:Ty T_Regex):Ty T_Regex:=⟨6,fun g cs x=>∃d c1 c2,cs=d++(c1++(c2))∧(au .i64).rel g d x.Kind∧(bH 4 .u64).rel g c1 x.Set∧(cz τ).rel g c2 x.Kids,
  fun hg ⟨d,c1,c2,e,c,b,a⟩=>⟨d,c1,c2,e,(au .i64).mono hg c,(bH 4 .u64).mono hg b,(cz τ).mono hg a⟩,
  fun ⟨_,_,_,e,c,b,a⟩=>by rw [e]; simp [(au .i64).len c,(bH 4 .u64).len b,(cz τ).len a,au,cz,bH],
  fun ⟨_,_,_,e,c,b,a⟩ v hv=>by
    subst e; simp only [List.mem_append] at hv; rcases hv with hv|hv|hv
    · exact (au .i64).one c v hv
    · exact (bH 4 .u64).one b v hv
    · exact (cz τ).one a v hv⟩
def ec:eh T_Regex:=⟨6,pi,fun _=>rfl,fun ha hb h _ _ hh=>by obtain ⟨c0,c1,c2,e,h0,h1,h2⟩:=hh; exact ⟨c0,c1,c2,e,h0,h1,tJ (ha.trans hb.symm) h h2⟩⟩
def aC:Ty T_Regex:=⟨6,fun g cs x=>∃n,(ec.iter n).rel g cs x,fun hg h=>ec.fix_mono hg h,fun h=>ec.fix_len h,fun h=>ec.fix_one h⟩
theorem ae {g:Hp} {cs:List Value} {x:T_Regex}:aC.rel g cs x↔(pi aC).rel g cs x:=by
  constructor
  · rintro ⟨n,h⟩
    cases n with
    | zero=>exact h.elim
    | succ n=>exact ec.mono (τ:=ec.iter n) (τ':=aC) (ec.iter_sz n) rfl (fun _ _ h=>⟨n,h⟩) _ _ h
  · rintro ⟨f,c1,c2,e,d,c,a⟩
    obtain ⟨b,a⟩:=ec.sup (fix:=aC) (fun _ _ _ h=>h) rfl a
    exact ⟨b+1,f,c1,c2,e,d,c,ec.leSl (Nat.le_refl _) a⟩
def fc:Ty cw:=⟨3,fun g cs x=>∃d c1 c2,cs=d++(c1++(c2))∧aV.rel g d x.nullable∧(cz (au .i64)).rel g c1 x.first∧(cz (au .i64)).rel g c2 x.last,
  fun hg ⟨d,c1,c2,e,c,b,a⟩=>⟨d,c1,c2,e,aV.mono hg c,(cz (au .i64)).mono hg b,(cz (au .i64)).mono hg a⟩,
  fun ⟨_,_,_,e,c,b,a⟩=>by rw [e]; simp [aV.len c,(cz (au .i64)).len b,(cz (au .i64)).len a,aV,cz],
  fun ⟨_,_,_,e,c,b,a⟩ v hv=>by
    subst e; simp only [List.mem_append] at hv; rcases hv with hv|hv|hv
    · exact aV.one c v hv
    · exact (cz (au .i64)).one b v hv
    · exact (cz (au .i64)).one a v hv⟩
def dx:Ty dh:=⟨7,fun g cs x=>∃f c1 c2 c3,cs=f++(c1++(c2++(c3)))∧(au .i64).rel g f x.From∧(au .i64).rel g c1 x.To∧aV.rel g c2 x.Epsilon∧(bH 4 .u64).rel g c3 x.Set,
  fun hg ⟨f,c1,c2,c3,e,d,c,b,a⟩=>⟨f,c1,c2,c3,e,(au .i64).mono hg d,(au .i64).mono hg c,aV.mono hg b,(bH 4 .u64).mono hg a⟩,
  fun ⟨_,_,_,_,e,d,c,b,a⟩=>by rw [e]; simp [(au .i64).len d,(au .i64).len c,aV.len b,(bH 4 .u64).len a,aV,au,bH],
  fun ⟨_,_,_,_,e,d,c,b,a⟩ v hv=>by
    subst e; simp only [List.mem_append] at hv; rcases hv with hv|hv|hv|hv
    · exact (au .i64).one d v hv
    · exact (au .i64).one c v hv
    · exact aV.one b v hv
    · exact (bH 4 .u64).one a v hv⟩
def lF:Ty T_NFA:=⟨4,fun g cs x=>∃f c1 c2 c3,cs=f++(c1++(c2++(c3)))∧(au .i64).rel g f x.States∧(au .i64).rel g c1 x.Start∧(cz dx).rel g c2 x.Arcs∧(cz (au .i64)).rel g c3 x.Accept,
  fun hg ⟨f,c1,c2,c3,e,d,c,b,a⟩=>⟨f,c1,c2,c3,e,(au .i64).mono hg d,(au .i64).mono hg c,(cz dx).mono hg b,(cz (au .i64)).mono hg a⟩,
  fun ⟨_,_,_,_,e,d,c,b,a⟩=>by rw [e]; simp [(au .i64).len d,(au .i64).len c,(cz dx).len b,(cz (au .i64)).len a,au,cz],
  fun ⟨_,_,_,_,e,d,c,b,a⟩ v hv=>by
    subst e; simp only [List.mem_append] at hv; rcases hv with hv|hv|hv|hv
    · exact (au .i64).one d v hv
    · exact (au .i64).one c v hv
    · exact (cz dx).one b v hv
    · exact (cz (au .i64)).one a v hv⟩
def kj:Ty T_DFA:=⟨3,fun g cs x=>∃d c1 c2,cs=d++(c1++(c2))∧(cz (au .i64)).rel g d x.Class∧(cz (cz (au .i64))).rel g c1 x.Next∧(cz (au .i64)).rel g c2 x.Accept,
  fun hg ⟨d,c1,c2,e,c,b,a⟩=>⟨d,c1,c2,e,(cz (au .i64)).mono hg c,(cz (cz (au .i64))).mono hg b,(cz (au .i64)).mono hg a⟩,
  fun ⟨_,_,_,e,c,b,a⟩=>by rw [e]; simp [(cz (au .i64)).len c,(cz (cz (au .i64))).len b,(cz (au .i64)).len a,cz],
  fun ⟨_,_,_,e,c,b,a⟩ v hv=>by
    subst e; simp only [List.mem_append] at hv; rcases hv with hv|hv|hv
    · exact (cz (au .i64)).one c v hv
    · exact (cz (cz (au .i64))).one b v hv
    · exact (cz (au .i64)).one a v hv⟩
def bF:Ty aQ:=⟨4,fun g cs x=>∃f c1 c2 c3,cs=f++(c1++(c2++(c3)))∧(au .i64).rel g f x.Kind∧(au .i64).rel g c1 x.At∧cM.rel g c2 x.Text∧(au .i64).rel g c3 x.Look,
  fun hg ⟨f,c1,c2,c3,e,d,c,b,a⟩=>⟨f,c1,c2,c3,e,(au .i64).mono hg d,(au .i64).mono hg c,cM.mono hg b,(au .i64).mono hg a⟩,
  fun ⟨_,_,_,_,e,d,c,b,a⟩=>by rw [e]; simp [(au .i64).len d,(au .i64).len c,cM.len b,(au .i64).len a,au,cM],
  fun ⟨_,_,_,_,e,d,c,b,a⟩ v hv=>by
    subst e; simp only [List.mem_append] at hv; rcases hv with hv|hv|hv|hv
    · exact (au .i64).one d v hv
    · exact (au .i64).one c v hv
    · exact cM.one b v hv
    · exact (au .i64).one a v hv⟩
def bE:Ty bD:=⟨2,fun g cs x=>∃c c1,cs=c++(c1)∧(au .i64).rel g c x.Kind∧(au .i64).rel g c1 x.Price,
  fun hg ⟨c,c1,e,b,a⟩=>⟨c,c1,e,(au .i64).mono hg b,(au .i64).mono hg a⟩,
  fun ⟨_,_,e,b,a⟩=>by rw [e]; simp [(au .i64).len b,(au .i64).len a,au],
  fun ⟨_,_,e,b,a⟩ v hv=>by
    subst e; simp only [List.mem_append] at hv; rcases hv with hv|hv
    · exact (au .i64).one b v hv
    · exact (au .i64).one a v hv⟩
def M.k2 (b:T_LexSpec) (g:Int) (d:Int):Option Bool:=
 bif (decide (g<(b.Defs.length:Int))) then
  some false
 else
  bg (
   aT (fun (c:Int)=>
    bif (decide (c<(b.Defs.length:Int))) then
     (bo b.Defs c).bind fun a=>
     (
      bif (decide (40<(a.Name.length:Int))) then
       some true
      else
       bif (decide (d<(a.Pattern.length:Int))) then
        some true
       else
        bif (decide (d<(a.Sample.length:Int))) then
         some true
        else
         some (decide (d<(a.Close.length:Int)))).bind fun (e:Bool)=>
     bif e then
      some (.stop (.stop false))
     else
      (bU .i64 (c+1)).bind fun f=>
      some (.next f)
    else
     some (.stop (.next ()))) aR (0:Int)) fun _=>
  some true
def M.a0 (p1:aH):Option Int:=
 bif (decide ((p1.s.length:Int)≤p1.atv)) then
  some (-1)
 else
  (fa p1.s p1.atv).bind fun c1=>
  some (IntKind.i64.wrap c1)
def M.h2 (a:Int):Option Bool:=
 (
  bif (decide (48≤a)) then
   bif (decide (a≤57)) then
    some true
   else
    bif (decide (97≤a)) then
     bif (decide (a≤122)) then
      some true
     else
      bif (decide (65≤a)) then
       some (decide (a≤90))
      else
       some false
    else
     bif (decide (65≤a)) then
      some (decide (a≤90))
     else
      some false
  else
   bif (decide (97≤a)) then
    bif (decide (a≤122)) then
     some true
    else
     bif (decide (65≤a)) then
      some (decide (a≤90))
     else
      some false
   else
    bif (decide (65≤a)) then
     some (decide (a≤90))
    else
     some false).bind fun (b:Bool)=>
 some b
def M.i2 (b:Int) (g:Bool):Option Bool:=
 (
  bif (decide (b<32)) then
   some true
  else
   some (decide (126<b))).bind fun (d:Bool)=>
 bif d then
  some false
 else
  (
   bif g then
    some ([93,92,45]:Str)
   else
    some ([40,41,91,93,124,42,43,63,46,92]:Str)).bind fun (c:Str)=>
  bg (
   aT (fun (a:Int)=>
    bif (decide (a<(c.length:Int))) then
     (fa c a).bind fun f=>
     bif ((IntKind.i64.wrap f) == b) then
      some (.stop (.stop false))
     else
      (bU .i64 (a+1)).bind fun e=>
      some (.next e)
    else
     some (.stop (.next ()))) aR (0:Int)) fun _=>
  some true
def M.a7 (a:aH) (i:Bool):Option (Int×aH):=
 (M.a0 a).bind fun d=>
 bif (d == 92) then
  (bU .i64 (a.atv+1)).bind fun c=>
  (M.a0 (aH.mk a.s c a.bad)).bind fun b=>
  bif (b == 110) then
   (bU .i64 (c+1)).bind fun f=>
   some (10,(aH.mk a.s f a.bad))
  else
   bif (b == 116) then
    (bU .i64 (c+1)).bind fun t3=>
    some (9,(aH.mk a.s t3 a.bad))
   else
    (
     bif (decide (32≤b)) then
      bif (decide (b≤126)) then
       (M.h2 b).bind fun h=>
       some (!h)
      else
       some false
     else
      some false).bind fun (e:Bool)=>
    bif e then
     (bU .i64 (c+1)).bind fun t4=>
     some (b,(aH.mk a.s t4 a.bad))
    else
     some (0,(aH.mk a.s c true))
 else
  (M.i2 d i).bind fun g=>
  bif (!g) then
   some (0,(aH.mk a.s a.atv true))
  else
   (bU .i64 (a.atv+1)).bind fun t5=>
   some (d,(aH.mk a.s t5 a.bad))
def M.e7 (s1:(az 4)) (b1:Int):Option (az 4):=
 (mN .i64 b1 64).bind fun t1=>
 (fU s1 t1).bind fun c1=>
 (jP b1 64).bind fun t2=>
 (sx .u64 1 (IntKind.u64.wrap t2)).bind fun t3=>
 (my s1 t1 (bits .or .u64 c1 t3)).bind fun s2=>
 some s2
def M.k4 (s1:(az 4)):Option (az 4):=
 (
  aT (fun (st9:(az 4)×Int)=>match st9 with
  | (s11,i5)=>
   bif (decide (i5<4)) then
    (fU s11 i5).bind fun c6=>
    (my s11 i5 (kD .u64 c6)).bind fun s14=>
    (bU .i64 (i5+1)).bind fun t6=>
    some (.next (s14,t6))
   else
    some (.stop s11)) aR (s1,(0:Int))).bind fun (s8:(az 4))=>
 some s8
def M.b9 (c:aH):Option (T_Regex×aH):=
 (M.a0 c).bind fun q=>
 (
  bif (q == 94) then
   (bU .i64 (c.atv+1)).bind fun t3=>
   some t3
  else
   some c.atv).bind fun (D:Int)=>
 (
  aT (fun (i:Str×Int×Bool×(az 4)×Bool)=>match i with
  | (e,h,d,j,r)=>
   (
    bif (!d) then
     bif r then
      some true
     else
      (M.a0 (aH.mk e h d)).bind fun I=>
      some (I != 93)
    else
     some false).bind fun (z:Bool)=>
   bif z then
    (M.a7 (aH.mk e h d) true).bind fun a=>
    (
     (
      bif (!a.2.bad) then
       (M.a0 a.2).bind fun H=>
       some (H == 45)
      else
       some false).bind fun (w:Bool)=>
     bif w then
      (bU .i64 (a.2.atv+1)).bind fun o=>
      (M.a7 (aH.mk a.2.s o a.2.bad) true).bind fun b=>
      (
       bif (!b.2.bad) then
        some (decide (b.1<a.1))
       else
        some false).bind fun (v:Bool)=>
      bif v then
       some (b.2.s,o,true,b.1)
      else
       some (b.2.s,b.2.atv,b.2.bad,b.1)
     else
      some (a.2.s,a.2.atv,a.2.bad,a.1)).bind fun (y,B,n,x)=>
    aT (fun (i:(az 4)×Int)=>match i with
    | (m,g)=>
     (
      bif (!n) then
       some (decide (g≤x))
      else
       some false).bind fun (u:Bool)=>
     bif u then
      (M.e7 m g).bind fun G=>
      (bU .i64 (g+1)).bind fun t46=>
      some (.next (G,t46))
     else
      some (.stop (.next (y,B,n,m,false)))) aR (j,a.1)
   else
    some (.stop (e,h,d,j))) aR (c.s,D,c.bad,(az.zero 4),true)).bind fun (l,p,f,k)=>
 bif f then
  some ((T_Regex.mk 0 (az.zero 4) []),(aH.mk l p f))
 else
  (bU .i64 (p+1)).bind fun A=>
  (
   bif (q == 94) then
    (M.k4 k).bind fun F=>
    some F
   else
    some k).bind fun (t:(az 4))=>
  some ((T_Regex.mk 3 t []),(aH.mk l A f))
def M.k8:Option (az 4):=
 (M.e7 (az.zero 4) 10).bind fun rv1=>
 (M.k4 rv1).bind fun rv2=>
 some rv2
def M.k3 (b1:Int):Option T_Regex:=
 (M.e7 (az.zero 4) b1).bind fun rv1=>
 some (T_Regex.mk 3 rv1 [])
def M.h3 (rv1:T_Regex):Option T_Regex:=
 some (T_Regex.mk 6 (az.zero 4) [rv1])
mutual
def M.c7:Nat→aH→Option (T_Regex×aH)
| 0,_=>none
| fl+1,b=>
 (M.a0 b).bind fun a=>
 bif (a == 40) then
  (bU .i64 (b.atv+1)).bind fun H=>
  (M.b3 fl (aH.mk b.s H b.bad)).bind fun c=>
  bif c.2.bad then
   some (c.1,c.2)
  else
   (M.a0 c.2).bind fun R=>
   bif (R != 41) then
    some (c.1,(aH.mk c.2.s c.2.atv true))
   else
    (bU .i64 (c.2.atv+1)).bind fun G=>
    some (c.1,(aH.mk c.2.s G c.2.bad))
 else
  bif (a == 91) then
   (bU .i64 (b.atv+1)).bind fun t3=>
   (M.b9 (aH.mk b.s t3 b.bad)).bind fun D=>
   some (D.1,D.2)
  else
   bif (a == 46) then
    (bU .i64 (b.atv+1)).bind fun t4=>
    (M.k8).bind fun P=>
    some ((T_Regex.mk 3 P []),(aH.mk b.s t4 b.bad))
   else
    (M.a7 b false).bind fun B=>
    (M.k3 B.1).bind fun N=>
    some (N,B.2)
def M.b8:Nat→aH→Option (T_Regex×aH)
| 0,_=>none
| fl+1,b=>
 (M.c7 fl b).bind fun a=>
 bg (
  aT (fun (n:Int×Int×(az 4)×(List T_Regex))=>match n with
  | (q,j,i,h)=>
   bif (!a.2.bad) then
    bg (
     (M.a0 (aH.mk a.2.s q a.2.bad)).bind fun v=>
     bif (v == 42) then
      (M.h3 (T_Regex.mk j i h)).bind fun u=>
      some (.next (u.Kind,u.Set,u.Kids))
     else
      bif (v == 43) then
       (M.h3 (T_Regex.mk j i h)).bind fun I=>
       some (.next ((4:Int),(az.zero 4),([(T_Regex.mk j i h),I]:(List T_Regex))))
      else
       bif (v == 63) then
        some (.next ((5:Int),(az.zero 4),([(T_Regex.mk j i h),(T_Regex.mk 2 (az.zero 4) [])]:(List T_Regex))))
       else
        some (.stop (.stop (.stop ((T_Regex.mk j i h),(aH.mk a.2.s q a.2.bad)))))) fun (L,K,J)=>
    (bU .i64 (q+1)).bind fun t=>
    some (.next (t,L,K,J))
   else
    some (.stop (.next (j,i,h,q)))) aR (a.2.atv,a.1.Kind,a.1.Set,a.1.Kids)) fun (Q,y,x,w)=>
 some ((T_Regex.mk Q y x),(aH.mk a.2.s w a.2.bad))
def M.a9:Nat→aH→Option (T_Regex×aH)
| 0,_=>none
| fl+1,b=>
 (
  aT (fun (n:Str×Int×Bool×(List T_Regex))=>match n with
  | (f,e,d,m)=>
   (
    bif (!d) then
     (M.a0 (aH.mk f e d)).bind fun y=>
     bif (y != (-1)) then
      (M.a0 (aH.mk f e d)).bind fun x=>
      bif (x != 124) then
       (M.a0 (aH.mk f e d)).bind fun w=>
       some (w != 41)
      else
       some false
     else
      some false
    else
     some false).bind fun (r:Bool)=>
   bif r then
    (M.b8 fl (aH.mk f e d)).bind fun o=>
    (cO 64 m [o.1]).bind fun U=>
    some (.next (o.2.s,o.2.atv,o.2.bad,U))
   else
    some (.stop (m,f,e,d))) aR (b.s,b.atv,b.bad,([]:(List T_Regex)))).bind fun (g,z,l,k)=>
 bif ((g.length:Int) == 0) then
  some ((T_Regex.mk 2 (az.zero 4) []),(aH.mk z l k))
 else
  bif ((g.length:Int) == 1) then
   (bo g 0).bind fun A=>
   some (A,(aH.mk z l k))
  else
   some ((T_Regex.mk 4 (az.zero 4) g),(aH.mk z l k))
def M.b3:Nat→aH→Option (T_Regex×aH)
| 0,_=>none
| fl+1,b=>
 (M.a9 fl b).bind fun a=>
 (
  aT (fun (n:Str×Int×Bool×(List T_Regex))=>match n with
  | (f,e,d,m)=>
   (
    bif (!d) then
     (M.a0 (aH.mk f e d)).bind fun S=>
     some (S == 124)
    else
     some false).bind fun (r:Bool)=>
   bif r then
    (bU .i64 (e+1)).bind fun t=>
    (M.a9 fl (aH.mk f t d)).bind fun p=>
    (cO 64 m [p.1]).bind fun T=>
    some (.next (p.2.s,p.2.atv,p.2.bad,T))
   else
    some (.stop (m,f,e,d))) aR (a.2.s,a.2.atv,a.2.bad,([a.1]:(List T_Regex)))).bind fun (g,l,k,F)=>
 bif ((g.length:Int) == 1) then
  (bo g 0).bind fun A=>
  some (A,(aH.mk l k F))
 else
  some ((T_Regex.mk 5 (az.zero 4) g),(aH.mk l k F))
end
def M.d3:Nat→T_Regex→Int→Option Bool
| 0,_,_=>none
| fl+1,a,c=>
 (
  bif (decide (30≤c)) then
   some true
  else
   bif (a.Kind != 3) then
    some (a.Set != (az.zero 4))
   else
    some false).bind fun (g:Bool)=>
 bif g then
  some false
 else
  bg (
   (
    bif (a.Kind == 1) then
     some (a.Kind == 1)
    else
     some (a.Kind == 2)).bind fun (f:Bool)=>
   bif f then
    some (.stop ((a.Kids.length:Int) == 0))
   else
    bif (a.Kind == 3) then
     (
      bif ((a.Kids.length:Int) == 0) then
       some (a.Set != (az.zero 4))
      else
       some false).bind fun (e:Bool)=>
     some (.stop e)
    else
     (
      bif (a.Kind == 4) then
       some (a.Kind == 4)
      else
       some (a.Kind == 5)).bind fun (d:Bool)=>
     bif d then
      bif (decide ((a.Kids.length:Int)<2)) then
       some (.stop false)
      else
       some (.next ())
     else
      bif (a.Kind == 6) then
       bif ((a.Kids.length:Int) != 1) then
        some (.stop false)
       else
        some (.next ())
      else
       some (.stop false)) fun _=>
  bg (
   aT (fun (b:Int)=>
    bif (decide (b<(a.Kids.length:Int))) then
     (bo a.Kids b).bind fun k=>
     (bU .i64 (c+1)).bind fun i=>
     (M.d3 fl k i).bind fun j=>
     bif (!j) then
      some (.stop (.stop false))
     else
      (bU .i64 (b+1)).bind fun h=>
      some (.next h)
    else
     some (.stop (.next ()))) aR (0:Int)) fun _=>
  some true
def M.f7 (rv1:T_Regex):Option Bool:=
 (M.d3 aR rv1 0).bind fun rv2=>
 some rv2
def M.f8 (b:Str):Option (T_Regex×Int×Int):=
 (M.b3 aR (aH.mk b 0 false)).bind fun a=>
 (
  bif a.2.bad then
   some true
  else
   some (decide (a.2.atv<(b.length:Int)))).bind fun (c:Bool)=>
 bif c then
  some ((T_Regex.mk 0 (az.zero 4) []),a.2.atv,3)
 else
  (M.f7 a.1).bind fun d=>
  bif (!d) then
   some ((T_Regex.mk 0 (az.zero 4) []),0,11)
  else
   some (a.1,0,0)
def M.c2 (d1:bL):Option T_Regex:=
 (M.f8 d1.Pattern).bind fun rv1=>
 some rv1.1
def M.g1:Nat→T_Regex→Option Int
| 0,_=>none
| fl+1,b=>
 (
  aT (fun (f:Int×Int)=>match f with
  | (c,a)=>
   bif (decide (a<(b.Kids.length:Int))) then
    (bo b.Kids a).bind fun i=>
    (M.g1 fl i).bind fun g=>
    (bU .i64 (a+1)).bind fun e=>
    some (.next ((ob c g),e))
   else
    some (.stop c)) aR ((0:Int),(0:Int))).bind fun (h:Int)=>
 (bU .i64 (h+1)).bind fun d=>
 some d
def M.g4 (b1:Int):Option Bool:=
 (
  bif (decide (97≤b1)) then
   bif (decide (b1≤122)) then
    some true
   else
    bif (decide (65≤b1)) then
     some (decide (b1≤90))
    else
     some false
  else
   bif (decide (65≤b1)) then
    some (decide (b1≤90))
   else
    some false).bind fun (xv1:Bool)=>
 some xv1
def M.j2 (a:Str):Option Bool:=
 (
  bif (decide ((a.length:Int)<1)) then
   some true
  else
   bif (decide (24<(a.length:Int))) then
    some true
   else
    (fa a 0).bind fun c2=>
    (M.g4 c2).bind fun g=>
    some (!g)).bind fun (e:Bool)=>
 bif e then
  some false
 else
  bg (
   aT (fun (c:Int)=>
    bif (decide (c<(a.length:Int))) then
     (
      (fa a c).bind fun b=>
      (M.g4 b).bind fun h=>
      bif (!h) then
       bif (decide (48≤b)) then
        bif (!(decide (b≤57))) then
         some (b != 95)
        else
         some false
       else
        bif (!false) then
         some (b != 95)
        else
         some false
      else
       some false).bind fun (d:Bool)=>
     bif d then
      some (.stop (.stop false))
     else
      (bU .i64 (c+1)).bind fun f=>
      some (.next f)
    else
     some (.stop (.next ()))) aR (0:Int)) fun _=>
  some true
def M.i8 (s1:(az 4)) (b1:Int):Option Bool:=
 (mN .i64 b1 64).bind fun t1=>
 (fU s1 t1).bind fun c1=>
 (jP b1 64).bind fun t2=>
 (sw .u64 c1 (IntKind.u64.wrap t2)).bind fun t3=>
 some ((bits .and .u64 t3 1) == 1)
def M.e2:Nat→T_Regex→Str→(List Bool)→Option (List Bool)
| 0,_,_,_=>none
| fl+1,b,e,h=>
 (bU .i64 ((e.length:Int)+1)).bind fun L=>
 (nY 1 L (false:Bool)).bind fun f=>
 (
  bif (b.Kind == 2) then
   some (gn f h)
  else
   bif (b.Kind == 3) then
    aT (fun (a:(List Bool)×Int)=>match a with
    | (p,i)=>
     bif (decide (i<(e.length:Int))) then
      (bU .i64 (i+1)).bind fun j=>
      (bo h i).bind fun a1=>
      bif a1 then
       (fa e i).bind fun c6=>
       (M.i8 b.Set (IntKind.i64.wrap c6)).bind fun P=>
       (cZ p j P).bind fun w=>
       some (.next (w,j))
      else
       (cZ p j false).bind fun v=>
       some (.next (v,j))
     else
      some (.stop p)) aR (f,(0:Int))
   else
    bif (b.Kind == 4) then
     aT (fun (a:(List Bool)×Int)=>match a with
     | (q,m)=>
      bif (decide (m<(b.Kids.length:Int))) then
       (bo b.Kids m).bind fun a0=>
       (M.e2 fl a0 e q).bind fun N=>
       (bU .i64 (m+1)).bind fun F=>
       some (.next (N,F))
      else
       some (.stop q)) aR ((gn f h),(0:Int))
    else
     bif (b.Kind == 5) then
      aT (fun (a:(List Bool)×Int)=>match a with
      | (u,l)=>
       bif (decide (l<(b.Kids.length:Int))) then
        (
         (bo b.Kids l).bind fun Y=>
         (M.e2 fl Y e h).bind fun t=>
         aT (fun (a:(List Bool)×Int)=>match a with
         | (k,d)=>
          bif (decide (d<(t.length:Int))) then
           (bo k d).bind fun X=>
           bif X then
            (cZ k d true).bind fun A=>
            (bU .i64 (d+1)).bind fun K=>
            some (.next (A,K))
           else
            (bo t d).bind fun W=>
            (cZ k d W).bind fun z=>
            (bU .i64 (d+1)).bind fun J=>
            some (.next (z,J))
          else
           some (.stop k)) aR (u,(0:Int))).bind fun (Q:(List Bool))=>
        (bU .i64 (l+1)).bind fun I=>
        some (.next (Q,I))
       else
        some (.stop u)) aR (f,(0:Int))
     else
      bif (b.Kind == 6) then
       aT (fun (a:(List Bool)×Bool)=>match a with
       | (n,D)=>
        bif D then
         (bo b.Kids 0).bind fun V=>
         (M.e2 fl V e n).bind fun o=>
         aT (fun (a:(List Bool)×Bool×Int)=>match a with
         | (g,s,c)=>
          bif (decide (c<(o.length:Int))) then
           (
            bif s then
             some true
            else
             (bo o c).bind fun U=>
             bif U then
              (bo g c).bind fun T=>
              some (!T)
             else
              some false).bind fun (r:Bool)=>
           (bo g c).bind fun S=>
           bif S then
            (cZ g c true).bind fun y=>
            (bU .i64 (c+1)).bind fun H=>
            some (.next (y,r,H))
           else
            (bo o c).bind fun R=>
            (cZ g c R).bind fun x=>
            (bU .i64 (c+1)).bind fun G=>
            some (.next (x,r,G))
          else
           some (.stop (.next (g,s)))) aR (n,false,(0:Int))
        else
         some (.stop n)) aR ((gn f h),true)
      else
       some f).bind fun (B:(List Bool))=>
 some B
def M.g0 (rv1:T_Regex) (s1:Str):Option Bool:=
 (bU .i64 ((s1.length:Int)+1)).bind fun t1=>
 (nY 1 t1 (false:Bool)).bind fun fromv1=>
 (cZ fromv1 0 true).bind fun fromv2=>
 (M.e2 aR rv1 s1 fromv2).bind fun l1=>
 (bo l1 (s1.length:Int)).bind fun e1=>
 some e1
def M.f9 (rv1:T_Regex):Option Bool:=
 (M.g0 rv1 []).bind fun rv2=>
 some rv2
def M.e8 (b:Str):Option Bool:=
 bg (
  aT (fun (a:Int)=>
   bif (decide (a<(b.length:Int))) then
    (
     (fa b a).bind fun c=>
     bif (decide (c<32)) then
      some true
     else
      some (decide (126<c))).bind fun (d:Bool)=>
    bif d then
     some (.stop (.stop false))
    else
     (bU .i64 (a+1)).bind fun e=>
     some (.next e)
   else
    some (.stop (.next ()))) aR (0:Int)) fun _=>
 some true
def M.e4 (e:T_LexSpec) (d:Int):Option Int:=
 (bo e.Defs d).bind fun a=>
 (
  (M.j2 a.Name).bind fun k=>
  bif (!k) then
   some true
  else
   bif (a.Name == [110,101,119,108,105,110,101]) then
    some true
   else
    bif (a.Name == [105,110,100,101,110,116]) then
     some true
    else
     some (a.Name == [100,101,100,101,110,116])).bind fun (g:Bool)=>
 bif g then
  some 4
 else
  bg (
   aT (fun (b:Int)=>
    bif (decide (b<d)) then
     (bo e.Defs b).bind fun l=>
     bif (l.Name == a.Name) then
      some (.stop (.stop 5))
     else
      (bU .i64 (b+1)).bind fun h=>
      some (.next h)
    else
     some (.stop (.next ()))) aR (0:Int)) fun _=>
  (
   bif (decide (a.Kind<1)) then
    some true
   else
    some (decide (3<a.Kind))).bind fun (f:Bool)=>
  bif f then
   some 1
  else
   (M.f8 a.Pattern).bind fun c=>
   bif (c.2.2 != 0) then
    some c.2.2
   else
    (M.f9 c.1).bind fun j=>
    bif j then
     some 10
    else
     (M.e8 a.Close).bind fun i=>
     bif (!i) then
      some 1
     else
      some 0
def M.d1:Nat→T_Regex→Option Int
| 0,_=>none
| fl+1,b=>
 (
  aT (fun (f:Int×Int)=>match f with
  | (c,a)=>
   bif (decide (a<(b.Kids.length:Int))) then
    (bo b.Kids a).bind fun i=>
    (M.d1 fl i).bind fun g=>
    (bU .i64 (c+g)).bind fun e=>
    (bU .i64 (a+1)).bind fun d=>
    some (.next (e,d))
   else
    some (.stop c)) aR ((1:Int),(0:Int))).bind fun (h:Int)=>
 some h
def M.i1 (c:(List T_Regex)):Option Int:=
 bg (
  aT (fun (h:Int×Int)=>match h with
  | (b,a)=>
   bif (decide (a<(c.length:Int))) then
    (bo c a).bind fun d=>
    (M.f7 d).bind fun j=>
    bif (!j) then
     some (.stop (.stop 1))
    else
     (M.d1 aR d).bind fun i=>
     (bU .i64 (b+i)).bind fun g=>
     (bU .i64 (a+1)).bind fun f=>
     some (.next (g,f))
   else
    some (.stop (.next b))) aR ((0:Int),(0:Int))) fun (e:Int)=>
 bif (decide (500<e)) then
  some 11
 else
  some 0
def M.b5 (h:bO) (f:(List Int)) (g:(List Int)):Option bO:=
 aT (fun (a:(List (az 2))×Int)=>match a with
 | (d,c)=>
  bif (decide (c<(f.length:Int))) then
   (
    aT (fun (a:(List (az 2))×Int)=>match a with
    | (e,b)=>
     bif (decide (b<(g.length:Int))) then
      (bo f c).bind fun n=>
      (bo g b).bind fun m=>
      (cO 16 e [(⟨[n,m],rfl⟩:az 2)]).bind fun i=>
      (bU .i64 (b+1)).bind fun l=>
      some (.next (i,l))
     else
      some (.stop e)) aR (d,(0:Int))).bind fun (j:(List (az 2)))=>
   (bU .i64 (c+1)).bind fun k=>
   some (.next (j,k))
  else
   some (.stop (bO.mk h.sets d))) aR (h.pairs,(0:Int))
def M.c5 (k:bO) (b:cw) (a:cw):Option (cw×bO):=
 (M.b5 k b.last a.first).bind fun g=>
 (
  bif b.nullable then
   some a.nullable
  else
   some false).bind fun (j:Bool)=>
 (
  bif b.nullable then
   (cO 8 [] b.first).bind fun f=>
   (cO 8 f a.first).bind fun e=>
   some e
  else
   some b.first).bind fun (i:(List Int))=>
 (
  bif a.nullable then
   (cO 8 [] b.last).bind fun d=>
   (cO 8 d a.last).bind fun c=>
   some c
  else
   some a.last).bind fun (h:(List Int))=>
 some ((cw.mk j i h),g)
def M.a4:Nat→bO→T_Regex→Option (cw×bO)
| 0,_,_=>none
| fl+1,b,a=>
 (
  bif (a.Kind == 2) then
   some (true,([]:(List Int)),([]:(List Int)),b.sets,b.pairs)
  else
   bif (a.Kind == 3) then
    (cO 32 b.sets [a.Set]).bind fun f=>
    some (false,([(f.length:Int)]:(List Int)),([(f.length:Int)]:(List Int)),f,b.pairs)
   else
    bif (a.Kind == 4) then
     aT (fun (i:(List (az 4))×(List (az 2))×Bool×(List Int)×(List Int)×Int)=>match i with
     | (q,p,o,u,t,h)=>
      bif (decide (h<(a.Kids.length:Int))) then
       (bo a.Kids h).bind fun K=>
       (M.a4 fl (bO.mk q p) K).bind fun s=>
       (M.c5 s.2 (cw.mk o u t) s.1).bind fun e=>
       (bU .i64 (h+1)).bind fun t9=>
       some (.next (e.2.sets,e.2.pairs,e.1.nullable,e.1.first,e.1.last,t9))
      else
       some (.stop (o,u,t,q,p))) aR (b.sets,b.pairs,true,([]:(List Int)),([]:(List Int)),(0:Int))
    else
     bif (a.Kind == 5) then
      aT (fun (i:(List (az 4))×(List (az 2))×Bool×(List Int)×(List Int)×Int)=>match i with
      | (n,m,l,k,j,g)=>
       bif (decide (g<(a.Kids.length:Int))) then
        (bo a.Kids g).bind fun J=>
        (M.a4 fl (bO.mk n m) J).bind fun d=>
        (
         bif l then
          some true
         else
          some d.1.nullable).bind fun (z:Bool)=>
        (cO 8 [] k).bind fun y=>
        (cO 8 y d.1.first).bind fun x=>
        (cO 8 [] j).bind fun w=>
        (cO 8 w d.1.last).bind fun v=>
        (bU .i64 (g+1)).bind fun F=>
        some (.next (d.2.sets,d.2.pairs,z,x,v,F))
       else
        some (.stop (l,k,j,n,m))) aR (b.sets,b.pairs,false,([]:(List Int)),([]:(List Int)),(0:Int))
     else
      bif (a.Kind == 6) then
       (bo a.Kids 0).bind fun I=>
       (M.a4 fl b I).bind fun c=>
       (M.b5 c.2 c.1.last c.1.first).bind fun r=>
       some (true,c.1.first,c.1.last,r.sets,r.pairs)
      else
       some (false,([]:(List Int)),([]:(List Int)),b.sets,b.pairs)).bind fun (D,H,G,B,A)=>
 some ((cw.mk D H G),(bO.mk B A))
def M.b6 (l:(List T_Regex)):Option (T_NFA×Int):=
 (M.i1 l).bind fun s=>
 bif (s != 0) then
  some ((T_NFA.mk 0 0 [] []),s)
 else
  (
   aT (fun (b:(List (az 4))×(List (az 2))×(List Int)×Int)=>match b with
   | (p,o,n,d)=>
    bif (decide (d<(l.length:Int))) then
     (
      (bo l d).bind fun a2=>
      (M.a4 aR (bO.mk p o) a2).bind fun f=>
      (M.b5 f.2 [0] f.1.first).bind fun e=>
      (
       aT (fun (k:(List Int))=>
        bif (decide ((k.length:Int)≤(e.sets.length:Int))) then
         (cO 8 k [(-1)]).bind fun B=>
         some (.next B)
        else
         some (.stop k)) aR n).bind fun (H:(List Int))=>
      (
       aT (fun (b:(List Int)×Int)=>match b with
       | (m,i)=>
        bif (decide (i<(f.1.last.length:Int))) then
         (bo f.1.last i).bind fun a1=>
         (cZ m a1 d).bind fun A=>
         (bU .i64 (i+1)).bind fun S=>
         some (.next (A,S))
        else
         some (.stop m)) aR (H,(0:Int))).bind fun (j:(List Int))=>
      (
       bif f.1.nullable then
        (bo j 0).bind fun a0=>
        some (decide (a0<0))
       else
        some false).bind fun (G:Bool)=>
      bif G then
       (cZ j 0 d).bind fun z=>
       some (e.sets,e.pairs,z)
      else
       some (e.sets,e.pairs,j)).bind fun (J,I,D)=>
     (bU .i64 (d+1)).bind fun R=>
     some (.next (J,I,D,R))
    else
     some (.stop (p,o,n))) aR (([]:(List (az 4))),([]:(List (az 2))),([(-1)]:(List Int)),(0:Int))).bind fun (K,q,a)=>
  (bU .i64 ((a.length:Int)*(a.length:Int))).bind fun Q=>
  (nY 1 Q (false:Bool)).bind fun W=>
  (
   aT (fun (b:(List Bool)×Int)=>match b with
   | (t,h)=>
    bif (decide (h<(q.length:Int))) then
     (bo q h).bind fun v=>
     (fU v 0).bind fun a4=>
     (bU .i64 (a4*(a.length:Int))).bind fun P=>
     (fU v 1).bind fun a3=>
     (bU .i64 (P+a3)).bind fun N=>
     (cZ t N true).bind fun y=>
     (bU .i64 (h+1)).bind fun L=>
     some (.next (y,L))
    else
     some (.stop t)) aR (W,(0:Int))).bind fun (u:(List Bool))=>
  (
   aT (fun (b:(List dh)×Int)=>match b with
   | (g,c)=>
    bif (decide (c<(u.length:Int))) then
     (
      (bo u c).bind fun Y=>
      bif Y then
       (mN .i64 c (a.length:Int)).bind fun V=>
       (jP c (a.length:Int)).bind fun r=>
       (bU .i64 (r - 1)).bind fun U=>
       (bo K U).bind fun X=>
       (cO 56 g [(dh.mk V r false X)]).bind fun w=>
       some w
      else
       some g).bind fun (x:(List dh))=>
     (bU .i64 (c+1)).bind fun T=>
     some (.next (x,T))
    else
     some (.stop g)) aR (([]:(List dh)),(0:Int))).bind fun (F:(List dh))=>
  some ((T_NFA.mk (a.length:Int) 0 F a),0)
def M.h0 (a:T_NFA):Option Bool:=
 (
  bif (decide (a.States<1)) then
   some true
  else
   bif (decide (2000<a.States)) then
    some true
   else
    bif (decide (a.Start<0)) then
     some true
    else
     bif (decide (a.States≤a.Start)) then
      some true
     else
      some ((a.Accept.length:Int) != a.States)).bind fun (f:Bool)=>
 bif f then
  some false
 else
  bg (
   aT (fun (c:Int)=>
    bif (decide (c<(a.Accept.length:Int))) then
     (bo a.Accept c).bind fun i=>
     bif (decide (i<(-1))) then
      some (.stop (.stop false))
     else
      (bU .i64 (c+1)).bind fun g=>
      some (.next g)
    else
     some (.stop (.next ()))) aR (0:Int)) fun _=>
  bg (
   aT (fun (d:Int)=>
    bif (decide (d<(a.Arcs.length:Int))) then
     (bo a.Arcs d).bind fun b=>
     (
      bif (decide (b.From<0)) then
       some true
      else
       bif (decide (a.States≤b.From)) then
        some true
       else
        bif (decide (b.To<0)) then
         some true
        else
         bif (decide (a.States≤b.To)) then
          some true
         else
          bif b.Epsilon then
           some (b.Set != (az.zero 4))
          else
           some false).bind fun (e:Bool)=>
     bif e then
      some (.stop (.stop false))
     else
      (bU .i64 (d+1)).bind fun h=>
      some (.next h)
    else
     some (.stop (.next ()))) aR (0:Int)) fun _=>
  some true
def M.g5 (s1:(az 4)) (b1:Int):Option Bool:=
 (mN .u8 b1 64).bind fun t1=>
 (fU s1 t1).bind fun c1=>
 (jP b1 64).bind fun t2=>
 (sw .u64 c1 t2).bind fun t3=>
 some ((bits .and .u64 t3 1) == 1)
def M.d4 (b:(List (az 4))) (h:Int) (g:Int):Option Bool:=
 bg (
  aT (fun (a:Int)=>
   bif (decide (a<(b.length:Int))) then
    (bo b a).bind fun c=>
    (M.g5 c h).bind fun f=>
    (M.g5 c g).bind fun e=>
    bif (!(f == e)) then
     some (.stop (.stop false))
    else
     (bU .i64 (a+1)).bind fun d=>
     some (.next d)
   else
    some (.stop (.next ()))) aR (0:Int)) fun _=>
 some true
def M.g6 (q:(List (az 4))):Option (List Int):=
 (nY 8 256 (0:Int)).bind fun o=>
 (
  aT (fun (j:(List Int)×Int×Int)=>match j with
  | (f,b,a)=>
   bif (decide (a<256)) then
    (
     (cZ f a b).bind fun e=>
     (
      aT (fun (c:Int)=>
       bif (decide (c<a)) then
        (M.d4 q (IntKind.u8.wrap c) (IntKind.u8.wrap a)).bind fun k=>
        bif k then
         (bo e c).bind fun s=>
         (cZ e a s).bind fun m=>
         some (.stop m)
        else
         (bU .i64 (c+1)).bind fun i=>
         some (.next i)
       else
        some (.stop e)) aR (0:Int)).bind fun (d:(List Int))=>
     (bo d a).bind fun r=>
     bif (r == b) then
      (bU .i64 (b+1)).bind fun h=>
      some (d,h)
     else
      some (d,b)).bind fun (n,p)=>
    (bU .i64 (a+1)).bind fun g=>
    some (.next (n,p,g))
   else
    some (.stop f)) aR (o,(0:Int),(0:Int))).bind fun (l:(List Int))=>
 some l
def M.j9 (i:(List Int)):Option (List Int):=
 (
  aT (fun (e:(List Int)×Int)=>match e with
  | (a,b)=>
   bif (decide (b<256)) then
    (
     (bo i b).bind fun h=>
     bif (h == (a.length:Int)) then
      (cO 1 a [(IntKind.u8.wrap b)]).bind fun f=>
      some f
     else
      some a).bind fun (g:(List Int))=>
    (bU .i64 (b+1)).bind fun d=>
    some (.next (g,d))
   else
    some (.stop a)) aR (([]:(List Int)),(0:Int))).bind fun (c:(List Int))=>
 some c
def M.j5 (c:(List Bool)):Option (List Int):=
 (
  aT (fun (f:(List Int)×Int)=>match f with
  | (b,a)=>
   bif (decide (a<(c.length:Int))) then
    (
     (bo c a).bind fun i=>
     bif i then
      (cO 8 b [a]).bind fun g=>
      some g
     else
      some b).bind fun (h:(List Int))=>
    (bU .i64 (a+1)).bind fun e=>
    some (.next (h,e))
   else
    some (.stop b)) aR (([]:(List Int)),(0:Int))).bind fun (d:(List Int))=>
 some d
def M.d2 (d:T_NFA) (g:(List Int)):Option (List Int):=
 (nY 1 d.States (false:Bool)).bind fun y=>
 (
  aT (fun (a:(List Bool)×Int)=>match a with
  | (h,c)=>
   bif (decide (c<(g.length:Int))) then
    (
     (
      (bo g c).bind fun k=>
      bif (decide (0≤k)) then
       some (decide (k<d.States))
      else
       some false).bind fun (q:Bool)=>
     bif q then
      (bo g c).bind fun z=>
      (cZ h z true).bind fun n=>
      some n
     else
      some h).bind fun (o:(List Bool))=>
    (bU .i64 (c+1)).bind fun t=>
    some (.next (o,t))
   else
    some (.stop h)) aR (y,(0:Int))).bind fun (w:(List Bool))=>
 (
  aT (fun (a:(List Bool)×Bool)=>match a with
  | (j,p)=>
   bif p then
    aT (fun (a:(List Bool)×Bool×Int)=>match a with
    | (b,i,f)=>
     bif (decide (f<(d.Arcs.length:Int))) then
      (
       (bo d.Arcs f).bind fun e=>
       (
        bif e.Epsilon then
         (bo b e.From).bind fun B=>
         bif B then
          (bo b e.To).bind fun A=>
          some (!A)
         else
          some false
        else
         some false).bind fun (r:Bool)=>
       bif r then
        (cZ b e.To true).bind fun l=>
        some (l,true)
       else
        some (b,i)).bind fun (m,s)=>
      (bU .i64 (f+1)).bind fun u=>
      some (.next (m,s,u))
     else
      some (.stop (.next (b,i)))) aR (j,false,(0:Int))
   else
    some (.stop j)) aR (w,true)).bind fun (x:(List Bool))=>
 (M.j5 x).bind fun v=>
 some v
def M.j6 (a:T_NFA) (s:(List Int)) (r:Int):Option (List Int):=
 (nY 1 a.States (false:Bool)).bind fun u=>
 (M.d2 a s).bind fun g=>
 (
  aT (fun (f:(List Bool)×Int)=>match f with
  | (h,c)=>
   bif (decide (c<(g.length:Int))) then
    (bo g c).bind fun v=>
    (cZ h v true).bind fun i=>
    (bU .i64 (c+1)).bind fun m=>
    some (.next (i,m))
   else
    some (.stop h)) aR (u,(0:Int))).bind fun (t:(List Bool))=>
 (
  aT (fun (f:(List Int)×Int)=>match f with
  | (e,d)=>
   bif (decide (d<(a.Arcs.length:Int))) then
    (
     (bo a.Arcs d).bind fun b=>
     (
      bif (!b.Epsilon) then
       (bo t b.From).bind fun w=>
       bif w then
        (M.g5 b.Set r).bind fun p=>
        some p
       else
        some false
      else
       some false).bind fun (q:Bool)=>
     bif q then
      (cO 8 e [b.To]).bind fun j=>
      some j
     else
      some e).bind fun (k:(List Int))=>
    (bU .i64 (d+1)).bind fun n=>
    some (.next (k,n))
   else
    some (.stop e)) aR (([]:(List Int)),(0:Int))).bind fun (l:(List Int))=>
 (M.d2 a l).bind fun o=>
 some o
def M.j7 (b:(List Int)) (c:(List Int)):Option Bool:=
 bif ((b.length:Int) != (c.length:Int)) then
  some false
 else
  bg (
   aT (fun (a:Int)=>
    bif (decide (a<(b.length:Int))) then
     (bo b a).bind fun f=>
     (bo c a).bind fun e=>
     bif (f != e) then
      some (.stop (.stop false))
     else
      (bU .i64 (a+1)).bind fun d=>
      some (.next d)
    else
     some (.stop (.next ()))) aR (0:Int)) fun _=>
  some true
def M.j3 (b:(List (List Int))) (d:(List Int)):Option Int:=
 bg (
  aT (fun (a:Int)=>
   bif (decide (a<(b.length:Int))) then
    (bo b a).bind fun f=>
    (M.j7 f d).bind fun e=>
    bif e then
     some (.stop (.stop a))
    else
     (bU .i64 (a+1)).bind fun c=>
     some (.next c)
   else
    some (.stop (.next ()))) aR (0:Int)) fun _=>
 some (-1)
def M.i0 (h:T_NFA) (d:(List Int)):Option Int:=
 (
  aT (fun (g:Int×Int)=>match g with
  | (a,b)=>
   bif (decide (b<(d.length:Int))) then
    (
     (bo d b).bind fun i=>
     (bo h.Accept i).bind fun c=>
     (
      bif (decide (0≤c)) then
       bif (decide (a<0)) then
        some true
       else
        some (decide (c<a))
      else
       some false).bind fun (e:Bool)=>
     bif e then
      some c
     else
      some a).bind fun (k:Int)=>
    (bU .i64 (b+1)).bind fun f=>
    some (.next (k,f))
   else
    some (.stop a)) aR (((-1):Int),(0:Int))).bind fun (j:Int)=>
 some j
def M.d9 (a:T_NFA):Option (T_DFA×Int):=
 (M.h0 a).bind fun T=>
 bif (!T) then
  some ((T_DFA.mk [] [] []),1)
 else
  (
   aT (fun (c:(List (az 4))×Int)=>match c with
   | (i,h)=>
    bif (decide (h<(a.Arcs.length:Int))) then
     (
      (bo a.Arcs h).bind fun q=>
      bif (!q.Epsilon) then
       (cO 32 i [q.Set]).bind fun A=>
       some A
      else
       some i).bind fun (B:(List (az 4)))=>
     (bU .i64 (h+1)).bind fun P=>
     some (.next (B,P))
    else
     some (.stop i)) aR (([]:(List (az 4))),(0:Int))).bind fun (D:(List (az 4)))=>
  (M.g6 D).bind fun p=>
  (M.j9 p).bind fun o=>
  (M.d2 a [a.Start]).bind fun S=>
  bg (
   aT (fun (c:(List (List Int))×(List (List Int))×(List Int)×Int)=>match c with
   | (m,l,k,d)=>
    bif (decide (d<(m.length:Int))) then
     bg (
      (
       aT (fun (c:(List (List Int))×(List Int)×Int)=>match c with
       | (b,f,e)=>
        bif (decide (e<(o.length:Int))) then
         (
          (bo b d).bind fun W=>
          (bo o e).bind fun V=>
          (M.j6 a W V).bind fun R=>
          (M.d2 a R).bind fun j=>
          bif ((j.length:Int) == 0) then
           (cO 8 f [(-1)]).bind fun w=>
           some (b,w)
          else
           (M.j3 b j).bind fun n=>
           (
            bif (decide (n<0)) then
             (cO 24 b [j]).bind fun u=>
             some (u,(b.length:Int))
            else
             some (b,n)).bind fun (v,F)=>
           (cO 8 f [F]).bind fun t=>
           some (v,t)).bind fun (G,x)=>
         (bU .i64 (e+1)).bind fun N=>
         some (.next (G,x,N))
        else
         some (.stop (b,f))) aR (m,([]:(List Int)),(0:Int))).bind fun (g,H)=>
      bif (decide (500<(g.length:Int))) then
       some (.stop (.stop (.stop ((T_DFA.mk [] [] []),11))))
      else
       (bo g d).bind fun U=>
       (cO 24 l [H]).bind fun s=>
       (M.i0 a U).bind fun Q=>
       (cO 8 k [Q]).bind fun r=>
       some (.next (g,s,r))) fun (I,z,y)=>
     (bU .i64 (d+1)).bind fun L=>
     some (.next (I,z,y,L))
    else
     some (.stop (.next (l,k)))) aR (([S]:(List (List Int))),([]:(List (List Int))),([]:(List Int)),(0:Int))) fun (K,J)=>
  some ((T_DFA.mk p K J),0)
def M.d8 (d1:T_DFA) (s1:Int):Option Int:=
 bif (decide (s1<0)) then
  some (d1.Next.length:Int)
 else
  some s1
def M.f5 (a:T_DFA):Option (List (List Bool)):=
 (bU .i64 ((a.Next.length:Int)+1)).bind fun o=>
 (nY 24 o ([]:List Bool)).bind fun l1=>
 (
  aT (fun (b:(List (List Bool))×Int)=>match b with
  | (s,f)=>
   bif (decide (f≤(a.Next.length:Int))) then
    (
     (nY 1 o (false:Bool)).bind fun Y=>
     (cZ s f Y).bind fun y=>
     aT (fun (b:(List (List Bool))×Int)=>match b with
     | (i,g)=>
      bif (decide (g≤(a.Next.length:Int))) then
       (
        bif (decide (f<(a.Next.length:Int))) then
         (bo a.Accept f).bind fun b0=>
         some b0
        else
         some ((-1):Int)).bind fun (b1:Int)=>
       (
        bif (decide (g<(a.Next.length:Int))) then
         (bo a.Accept g).bind fun a8=>
         some a8
        else
         some ((-1):Int)).bind fun (a9:Int)=>
       (bo i f).bind fun a7=>
       (cZ a7 g (b1 != a9)).bind fun x=>
       (cZ i f x).bind fun w=>
       (bU .i64 (g+1)).bind fun R=>
       some (.next (w,R))
      else
       some (.stop i)) aR (y,(0:Int))).bind fun (z:(List (List Bool)))=>
    (bU .i64 (f+1)).bind fun Q=>
    some (.next (z,Q))
   else
    some (.stop s)) aR (l1,(0:Int))).bind fun (a3:(List (List Bool)))=>
 (bo a.Next 0).bind fun a6=>
 (nY 1 (a6.length:Int) (false:Bool)).bind fun X=>
 (
  aT (fun (b:(List Bool)×Int)=>match b with
  | (p,j)=>
   bif (decide (j<256)) then
    (bo a.Class j).bind fun a5=>
    (cZ p a5 true).bind fun v=>
    (bU .i64 (j+1)).bind fun P=>
    some (.next (v,P))
   else
    some (.stop p)) aR (X,(0:Int))).bind fun (q:(List Bool))=>
 (
  aT (fun (b:(List (List Bool))×Bool)=>match b with
  | (u,J)=>
   bif J then
    aT (fun (b:(List (List Bool))×Bool×Int)=>match b with
    | (t,n,d)=>
     bif (decide (d≤(a.Next.length:Int))) then
      (
       aT (fun (b:(List (List Bool))×Bool×Int)=>match b with
       | (r,m,c)=>
        bif (decide (c<d)) then
         (
          aT (fun (b:(List (List Bool))×Bool×Int)=>match b with
          | (e,k,h)=>
           (
            bif (decide (h<(q.length:Int))) then
             (bo e d).bind fun c2=>
             (bo c2 c).bind fun c1=>
             some (!c1)
            else
             some false).bind fun (G:Bool)=>
           bif G then
            (
             (bo q h).bind fun c0=>
             bif (!c0) then
              some (e,k)
             else
              (
               bif (decide (d<(a.Next.length:Int))) then
                (bo a.Next d).bind fun b9=>
                (bo b9 h).bind fun b8=>
                (M.d8 a b8).bind fun U=>
                some U
               else
                some (a.Next.length:Int)).bind fun (V:Int)=>
              (
               bif (decide (c<(a.Next.length:Int))) then
                (bo a.Next c).bind fun b7=>
                (bo b7 h).bind fun b6=>
                (M.d8 a b6).bind fun S=>
                some S
               else
                some (a.Next.length:Int)).bind fun (T:Int)=>
              (bo e V).bind fun b5=>
              (bo b5 T).bind fun b4=>
              bif b4 then
               (bo e d).bind fun b3=>
               (bo e c).bind fun c3=>
               (cZ b3 c true).bind fun D=>
               (cZ e d D).bind fun l=>
               (bo l c).bind fun b2=>
               (cZ b2 d true).bind fun B=>
               (cZ l c B).bind fun A=>
               some (A,true)
              else
               some (e,k)).bind fun (a0,F)=>
            (bU .i64 (h+1)).bind fun N=>
            some (.next (a0,F,N))
           else
            some (.stop (e,k))) aR (r,m,(0:Int))).bind fun (a1,H)=>
         (bU .i64 (c+1)).bind fun L=>
         some (.next (a1,H,L))
        else
         some (.stop (r,m))) aR (t,n,(0:Int))).bind fun (a2,I)=>
      (bU .i64 (d+1)).bind fun K=>
      some (.next (a2,I,K))
     else
      some (.stop (.next (t,n)))) aR (u,false,(0:Int))
   else
    some (.stop u)) aR (a3,true)).bind fun (W:(List (List Bool)))=>
 some W
def M.j4 (d1:T_DFA) (s1:Int) (b1:Int):Option Int:=
 bif (decide (s1<0)) then
  some (-1)
 else
  (bo d1.Next s1).bind fun e1=>
  (bo d1.Class b1).bind fun e2=>
  (bo e1 e2).bind fun e3=>
  some e3
def M.f6 (b:T_DFA):Option T_DFA:=
 (M.f5 b).bind fun d8=>
 (bU .i64 ((b.Next.length:Int)+1)).bind fun t1=>
 (nY 8 t1 (0:Int)).bind fun l1=>
 (
  aT (fun (a:(List Int)×Int)=>match a with
  | (G,g)=>
   bif (decide (g≤(b.Next.length:Int))) then
    (
     (cZ G g (b.Next.length:Int)).bind fun b2=>
     (bU .i64 ((b.Next.length:Int) - 1)).bind fun c5=>
     aT (fun (a:(List Int)×Int)=>match a with
     | (s,n)=>
      bif (decide (0≤n)) then
       (
        (
         (bo d8 g).bind fun N=>
         (bo N n).bind fun f5=>
         bif (!f5) then
          (bo N (b.Next.length:Int)).bind fun f4=>
          some f4
         else
          some false).bind fun (f6:Bool)=>
        bif f6 then
         (cZ s g n).bind fun b0=>
         some b0
        else
         some s).bind fun (b1:(List Int))=>
       (bU .i64 (n - 1)).bind fun c4=>
       some (.next (b1,c4))
      else
       some (.stop s)) aR (b2,c5)).bind fun (b3:(List Int))=>
    (bU .i64 (g+1)).bind fun c3=>
    some (.next (b3,c3))
   else
    some (.stop G)) aR (l1,(0:Int))).bind fun (H:(List Int))=>
 (bo H 0).bind fun f3=>
 (
  aT (fun (a:(List Int)×(List (List Int))×Int)=>match a with
  | (u,z,t)=>
   bif (decide (t<(u.length:Int))) then
    (
     (nY 8 256 (0:Int)).bind fun d9=>
     (
      aT (fun (a:(List Int)×(List Int)×Int)=>match a with
      | (d,J,e)=>
       bif (decide (e<256)) then
        (
         (cZ J e (-1)).bind fun r=>
         (bo d t).bind fun P=>
         bif (P == (b.Next.length:Int)) then
          some (d,r)
         else
          (M.j4 b P (IntKind.u8.wrap e)).bind fun d7=>
          (M.d8 b d7).bind fun d6=>
          (bo H d6).bind fun x=>
          bif (x == (b.Next.length:Int)) then
           some (d,r)
          else
           (
            aT (fun (a:(List Int)×Int)=>match a with
            | (p,m)=>
             bif (decide (m<(d.length:Int))) then
              (
               (bo d m).bind fun f8=>
               bif (f8 == x) then
                (cZ p e m).bind fun a6=>
                some a6
               else
                some p).bind fun (a7:(List Int))=>
              (bU .i64 (m+1)).bind fun d4=>
              some (.next (a7,d4))
             else
              some (.stop p)) aR (r,(0:Int))).bind fun (q:(List Int))=>
           (bo q e).bind fun f7=>
           bif (decide (f7<0)) then
            (cZ q e (d.length:Int)).bind fun a5=>
            (cO 8 d [x]).bind fun a4=>
            some (a4,a5)
           else
            some (d,q)).bind fun (c0,a8)=>
        (bU .i64 (e+1)).bind fun d3=>
        some (.next (c0,a8,d3))
       else
        some (.stop (d,J))) aR (u,d9,(0:Int))).bind fun (c1,e2)=>
     (cO 24 z [e2]).bind fun a3=>
     some (c1,a3)).bind fun (c2,a9)=>
    (bU .i64 (t+1)).bind fun d2=>
    some (.next (c2,a9,d2))
   else
    some (.stop (u,z))) aR (([f3]:(List Int)),([]:(List (List Int))),(0:Int))).bind fun (b4,i)=>
 (nY 8 256 (0:Int)).bind fun e1=>
 (
  aT (fun (a:(List Int)×(List Int)×Int)=>match a with
  | (I,f,c)=>
   bif (decide (c<256)) then
    (
     (cZ I c (-1)).bind fun a0=>
     (
      aT (fun (a:(List Int)×Int)=>match a with
      | (h,l)=>
       (
        bif (decide (l<(f.length:Int))) then
         (bo h c).bind fun f2=>
         some (decide (f2<0))
        else
         some false).bind fun (b9:Bool)=>
       bif b9 then
        (
         (
          aT (fun (a:Bool×Int)=>match a with
          | (D,k)=>
           bif (decide (k<(i.length:Int))) then
            bif D then
             (bo i k).bind fun L=>
             (bo L c).bind fun f1=>
             (bo f l).bind fun f0=>
             (bo L f0).bind fun e9=>
             (bU .i64 (k+1)).bind fun d1=>
             some (.next ((f1 == e9),d1))
            else
             (bU .i64 (k+1)).bind fun d0=>
             some (.next (false,d0))
           else
            some (.stop D)) aR (true,(0:Int))).bind fun (b8:Bool)=>
         bif b8 then
          (cZ h c l).bind fun X=>
          some X
         else
          some h).bind fun (Y:(List Int))=>
        (bU .i64 (l+1)).bind fun c9=>
        some (.next (Y,c9))
       else
        some (.stop h)) aR (a0,(0:Int))).bind fun (o:(List Int))=>
     (bo o c).bind fun e8=>
     bif (decide (e8<0)) then
      (cZ o c (f.length:Int)).bind fun W=>
      (cO 8 f [c]).bind fun V=>
      some (W,V)
     else
      some (o,f)).bind fun (a2,a1)=>
    (bU .i64 (c+1)).bind fun c8=>
    some (.next (a2,a1,c8))
   else
    some (.stop (I,f))) aR (e1,([]:(List Int)),(0:Int))).bind fun (e0,F)=>
 (
  aT (fun (a:(List (List Int))×(List Int)×Int)=>match a with
  | (B,w,j)=>
   bif (decide (j<(i.length:Int))) then
    (
     (
      aT (fun (a:(List Int)×Int)=>match a with
      | (A,v)=>
       bif (decide (v<(F.length:Int))) then
        (bo i j).bind fun e7=>
        (bo F v).bind fun e6=>
        (bo e7 e6).bind fun e5=>
        (cO 8 A [e5]).bind fun S=>
        (bU .i64 (v+1)).bind fun c7=>
        some (.next (S,c7))
       else
        some (.stop A)) aR (([]:(List Int)),(0:Int))).bind fun (b5:(List Int))=>
     (cO 24 B [b5]).bind fun y=>
     (bo b4 j).bind fun K=>
     bif (K == (b.Next.length:Int)) then
      (cO 8 w [(-1)]).bind fun R=>
      some (y,R)
     else
      (bo b.Accept K).bind fun e4=>
      (cO 8 w [e4]).bind fun Q=>
      some (y,Q)).bind fun (U,T)=>
    (bU .i64 (j+1)).bind fun c6=>
    some (.next (U,T,c6))
   else
    some (.stop (B,w))) aR (([]:(List (List Int))),([]:(List Int)),(0:Int))).bind fun (b7,b6)=>
 some (T_DFA.mk e0 b7 b6)
def M.g9 (e:T_LexSpec):Option (T_DFA×Int):=
 (
  aT (fun (h:(List T_Regex)×Int)=>match h with
  | (d,c)=>
   bif (decide (c<(e.Defs.length:Int))) then
    (bo e.Defs c).bind fun l=>
    (M.c2 l).bind fun j=>
    (cO 64 d [j]).bind fun k=>
    (bU .i64 (c+1)).bind fun g=>
    some (.next (k,g))
   else
    some (.stop d)) aR (([]:(List T_Regex)),(0:Int))).bind fun (f:(List T_Regex))=>
 (M.b6 f).bind fun b=>
 bif (b.2 != 0) then
  some ((T_DFA.mk [] [] []),b.2)
 else
  (M.d9 b.1).bind fun a=>
  bif (a.2 != 0) then
   some ((T_DFA.mk [] [] []),a.2)
  else
   (M.f6 a.1).bind fun i=>
   some (i,0)
def M.k7 (b:T_LexSpec) (d:Str):Option Int:=
 bg (
  aT (fun (a:Int)=>
   bif (decide (a<(b.Defs.length:Int))) then
    (bo b.Defs a).bind fun g=>
    (M.c2 g).bind fun f=>
    (M.g0 f d).bind fun e=>
    bif e then
     some (.stop (.stop a))
    else
     (bU .i64 (a+1)).bind fun c=>
     some (.next c)
   else
    some (.stop (.next ()))) aR (0:Int)) fun _=>
 some (-1)
def M.f3 (l1:(List Str)):Option (List Str):=
 bif (decide (2<(l1.length:Int))) then
  (iS l1 0 2).bind fun l2=>
  some l2
 else
  some l1
def M.i7 (a:(List Str)) (c:Str):Option (List Str):=
 bg (
  aT (fun (b:Int)=>
   bif (decide (b<(a.length:Int))) then
    (bo a b).bind fun g=>
    bif (g == c) then
     some (.stop (.stop a))
    else
     (bU .i64 (b+1)).bind fun f=>
     some (.next f)
   else
    some (.stop (.next ()))) aR (0:Int)) fun _=>
 (cO 16 [] a).bind fun e=>
 (cO 16 e [c]).bind fun d=>
 some d
def M.d0:Nat→T_Regex→Option ((List Str)×Bool)
| 0,_=>none
| fl+1,b=>
 bif (b.Kind == 2) then
  some ([[]],true)
 else
  bif (b.Kind == 3) then
   (
    aT (fun (a:(List Str)×Int)=>match a with
    | (j,c)=>
     bif (decide (c<256)) then
      (
       (M.i8 b.Set c).bind fun Y=>
       bif Y then
        (cO 16 j [(kO [(IntKind.u8.wrap c)])]).bind fun z=>
        some z
       else
        some j).bind fun (A:(List Str))=>
      (bU .i64 (c+1)).bind fun Q=>
      some (.next (A,Q))
     else
      some (.stop j)) aR (([]:(List Str)),(0:Int))).bind fun (p:(List Str))=>
   (M.f3 p).bind fun X=>
   some (X,(decide ((p.length:Int)≤2)))
  else
   bif (b.Kind == 5) then
    (
     aT (fun (a:(List Str)×Bool×Int)=>match a with
     | (u,q,i)=>
      bif (decide (i<(b.Kids.length:Int))) then
       (
        (bo b.Kids i).bind fun a6=>
        (M.d0 fl a6).bind fun l=>
        (
         bif q then
          some l.2
         else
          some false).bind fun (G:Bool)=>
        aT (fun (a:(List Str)×Int)=>match a with
        | (t,h)=>
         bif (decide (h<(l.1.length:Int))) then
          (bo l.1 h).bind fun a5=>
          (M.i7 t a5).bind fun W=>
          (bU .i64 (h+1)).bind fun S=>
          some (.next (W,S))
         else
          some (.stop (t,G))) aR (u,(0:Int))).bind fun (a2,H)=>
       (bU .i64 (i+1)).bind fun R=>
       some (.next (a2,H,R))
      else
       some (.stop (u,q))) aR (([]:(List Str)),true,(0:Int))).bind fun (v,J)=>
    (
     (M.f3 v).bind fun s=>
     bif J then
      some (s,(decide ((v.length:Int)≤2)))
     else
      some (s,false)).bind fun (a1,F)=>
    some (a1,F)
   else
    bif (b.Kind == 4) then
     bg (
      aT (fun (a:(List Str)×Bool×Int)=>match a with
      | (m,o,g)=>
       bif (decide (g<(b.Kids.length:Int))) then
        bg (
         (bo b.Kids g).bind fun b0=>
         (M.d0 fl b0).bind fun k=>
         (
          aT (fun (a:(List Str)×Int)=>match a with
          | (x,f)=>
           bif (decide (f<(m.length:Int))) then
            (
             aT (fun (a:(List Str)×Int)=>match a with
             | (w,e)=>
              bif (decide (e<(k.1.length:Int))) then
               (bo m f).bind fun a9=>
               (bo k.1 e).bind fun a8=>
               (mR a9 a8).bind fun T=>
               (M.i7 w T).bind fun V=>
               (bU .i64 (e+1)).bind fun P=>
               some (.next (V,P))
              else
               some (.stop w)) aR (x,(0:Int))).bind fun (a3:(List Str))=>
            (bU .i64 (f+1)).bind fun N=>
            some (.next (a3,N))
           else
            some (.stop x)) aR (([]:(List Str)),(0:Int))).bind fun (n:(List Str))=>
         bif ((n.length:Int) == 0) then
          some (.stop (.stop (.stop ([],true))))
         else
          (
           bif o then
            bif k.2 then
             some (decide ((n.length:Int)≤2))
            else
             some false
           else
            some false).bind fun (B:Bool)=>
          (M.f3 n).bind fun U=>
          some (.next (U,B))) fun (a4,D)=>
        (bU .i64 (g+1)).bind fun L=>
        some (.next (a4,D,L))
       else
        some (.stop (.next (m,o)))) aR (([[]]:(List Str)),true,(0:Int))) fun (a0,I)=>
     some (a0,I)
    else
     bif (b.Kind == 6) then
      (bo b.Kids 0).bind fun a7=>
      (M.d0 fl a7).bind fun r=>
      bg (
       aT (fun (d:Int)=>
        bif (decide (d<(r.1.length:Int))) then
         (bo r.1 d).bind fun y=>
         bif (y != []) then
          some (.stop (.stop ([[],y],false)))
         else
          (bU .i64 (d+1)).bind fun K=>
          some (.next K)
        else
         some (.stop (.next ()))) aR (0:Int)) fun _=>
      some ([[]],true)
     else
      some ([],true)
def M.j1 (rv1:T_Regex) (s1:Str):Option Bool:=
 (M.d0 aR rv1).bind fun rv2=>
 (
  bif rv2.2 then
   bif ((rv2.1.length:Int) == 1) then
    (bo rv2.1 0).bind fun e2=>
    some (e2 == s1)
   else
    some false
  else
   some false).bind fun (xv1:Bool)=>
 some xv1
def M.f4 (a:T_LexSpec):Option (Int×Int):=
 (
  bif (decide ((a.Defs.length:Int)<1)) then
   some true
  else
   some (decide (40<(a.Defs.length:Int)))).bind fun (i:Bool)=>
 bif i then
  some (0,11)
 else
  bg (
   aT (fun (c:Int)=>
    bif (decide (c<(a.Defs.length:Int))) then
     (M.e4 a c).bind fun f=>
     bif (f != 0) then
      some (.stop (.stop (c,f)))
     else
      (bU .i64 (c+1)).bind fun j=>
      some (.next j)
    else
     some (.stop (.next ()))) aR (0:Int)) fun _=>
  (
   bif (decide (a.Misspelling<0)) then
    some true
   else
    bif (decide (1000<a.Misspelling)) then
     some true
    else
     bif (decide (a.Unclosed<0)) then
      some true
     else
      some (decide (1000<a.Unclosed))).bind fun (g:Bool)=>
  bif g then
   some ((a.Defs.length:Int),1)
  else
   (M.g9 a).bind fun e=>
   bif (e.2 != 0) then
    some (0,e.2)
   else
    bg (
     aT (fun (b:Int)=>
      bif (decide (b<(a.Defs.length:Int))) then
       (bo a.Defs b).bind fun d=>
       (M.k7 a d.Sample).bind fun n=>
       bif (n != b) then
        some (.stop (.stop (b,13)))
       else
        (
         bif (d.Kind == 3) then
          (M.c2 d).bind fun m=>
          (M.j1 m d.Sample).bind fun l=>
          some (!l)
         else
          some false).bind fun (h:Bool)=>
        bif h then
         some (.stop (.stop (b,14)))
        else
         (bU .i64 (b+1)).bind fun k=>
         some (.next k)
      else
       some (.stop (.next ()))) aR (0:Int)) fun _=>
    some (0,0)
def M.i3 (a:T_LexSpec):Option Bool:=
 (M.k2 a 6 30).bind fun g=>
 bif (!g) then
  some false
 else
  bg (
   aT (fun (b:Int)=>
    bif (decide (b<(a.Defs.length:Int))) then
     (bo a.Defs b).bind fun h=>
     (M.c2 h).bind fun f=>
     (M.g1 aR f).bind fun e=>
     bif (decide (6<e)) then
      some (.stop (.stop false))
     else
      (bU .i64 (b+1)).bind fun c=>
      some (.next c)
    else
     some (.stop (.next ()))) aR (0:Int)) fun _=>
  (M.f4 a).bind fun d=>
  some (d.2 == 0)
def M.h9:Option T_LexSpec:=
 some (T_LexSpec.mk [(bL.mk [105,102] 3 [105,102] [105,102] []),(bL.mk [119,111,114,100] 1 [91,97,45,122,93,43] [120] []),(bL.mk [115,112,97,99,101] 2 [32,43] [32] []),(bL.mk [116,101,120,116] 1 [39,91,94,39,92,110,93,42,39] [39,39] [39])] false 4 6)
def M.k0:Option (List aQ):=
 some [(aQ.mk 1 0 [120] 2),(aQ.mk 2 1 [32] 2),(aQ.mk (-1) 2 [39] 6),(aQ.mk 1 3 [97,98] 3),(aQ.mk 2 5 [32] 2),(aQ.mk 1 6 [99] 2)]
def M.k9 (x1:Int) (c1:T_Regex) (c2:Int) (c3:Int):Option (T_Regex×Int×Int):=
 some ((T_Regex.mk 0 (az.zero 4) []),x1,3)
def M.a1 (p1:aB):Option Int:=
 bif (decide (p1.atv<(p1.s.length:Int))) then
  (fa p1.s p1.atv).bind fun c1=>
  some c1
 else
  some 0
def M.a2 (p1:aB):Option (Rt (Unit)):=
 some (.pan p1.atv)
def M.a3 (a:aB) (g:Int):Option (Rt (aB)):=
 bg (
  (
   bif (a.atv == (a.s.length:Int)) then
    some true
   else
    (fa a.s a.atv).bind fun f=>
    some (f != g)).bind fun (c:Bool)=>
  bif c then
   (M.a2 a).bind fun b=>b.on (fun h=>
    some (.next ())) (fun e=>some (.stop (.pan e)))
  else
   some (.next ())) fun _=>
 (bU .i64 (a.atv+1)).bind fun d=>
 some (.ret (aB.mk a.s d))
def M.e6 (a:Int):Option Bool:=
 (
  bif (decide (48≤a)) then
   bif (decide (a≤57)) then
    some true
   else
    bif (decide (97≤a)) then
     bif (decide (a≤122)) then
      some true
     else
      bif (decide (65≤a)) then
       some (decide (a≤90))
      else
       some false
    else
     bif (decide (65≤a)) then
      some (decide (a≤90))
     else
      some false
  else
   bif (decide (97≤a)) then
    bif (decide (a≤122)) then
     some true
    else
     bif (decide (65≤a)) then
      some (decide (a≤90))
     else
      some false
   else
    bif (decide (65≤a)) then
     some (decide (a≤90))
    else
     some false).bind fun (b:Bool)=>
 some b
def M.c8 (a:aB):Option (Rt (Int×aB)):=
 bg (
  bif (a.atv == (a.s.length:Int)) then
   (M.a2 a).bind fun b=>b.on (fun j=>
    some (.next ())) (fun g=>some (.stop (.pan g)))
  else
   some (.next ())) fun _=>
 (fa a.s a.atv).bind fun c1=>
 bg (
  bif (c1 == 110) then
   some (.next (10:Int))
  else
   bif (c1 == 116) then
    some (.next (9:Int))
   else
    (
     bif (decide (c1<32)) then
      some true
     else
      bif (decide (126<c1)) then
       some true
      else
       (M.e6 c1).bind fun e=>
       some e).bind fun (c:Bool)=>
    bif c then
     (M.a2 a).bind fun b=>b.on (fun i=>
      some (.next c1)) (fun f=>some (.stop (.pan f)))
    else
     some (.next c1)) fun (h:Int)=>
 (bU .i64 (a.atv+1)).bind fun d=>
 some (.ret (h,(aB.mk a.s d)))
def M.h1 (s:Str) (c:Int):Option Int:=some (Lib.indexByte s c.toNat.toUInt8)
def M.b0 (a:aB) (k:Str):Option (Rt (Int×aB)):=
 bg (
  bif (a.atv == (a.s.length:Int)) then
   (M.a2 a).bind fun b=>b.on (fun m=>
    some (.next ())) (fun j=>some (.stop (.pan j)))
  else
   some (.next ())) fun _=>
 (fa a.s a.atv).bind fun c1=>
 bif (c1 == 92) then
  (bU .i64 (a.atv+1)).bind fun f=>
  (M.c8 (aB.mk a.s f)).bind fun b=>b.on (fun c=>
   some (.ret (c.1,c.2))) (fun i=>some (.pan i))
 else
  bg (
   (
    bif (decide (c1<32)) then
     some true
    else
     bif (decide (126<c1)) then
      some true
     else
      (M.h1 k c1).bind fun g=>
      some (decide (0≤g))).bind fun (d:Bool)=>
   bif d then
    (M.a2 a).bind fun b=>b.on (fun l=>
     some (.next ())) (fun h=>some (.stop (.pan h)))
   else
    some (.next ())) fun _=>
  (bU .i64 (a.atv+1)).bind fun e=>
  some (.ret (c1,(aB.mk a.s e)))
def M.e9 (j:Int) (k:Int):Option (az 4):=
 (
  aT (fun (i:(az 4)×Int)=>match i with
  | (b,a)=>
   bif (decide (a≤(IntKind.i64.wrap k))) then
    (mN .i64 a 64).bind fun c=>
    (fU b c).bind fun l=>
    (jP a 64).bind fun h=>
    (sx .u64 1 h).bind fun g=>
    (my b c (bits .or .u64 l g)).bind fun e=>
    (bU .i64 (a+1)).bind fun f=>
    some (.next (e,f))
   else
    some (.stop b)) aR ((az.zero 4),(IntKind.i64.wrap j))).bind fun (d:(az 4))=>
 some d
def M.b4 (j:aB):Option (Rt ((az 4)×aB)):=
 (M.b0 j [93,92,45]).bind fun c=>c.on (fun a=>
  bg (
   (M.a1 a.2).bind fun f=>
   bif (f == 45) then
    (bU .i64 (a.2.atv+1)).bind fun d=>
    (M.b0 (aB.mk a.2.s d) [93,92,45]).bind fun c=>c.on (fun b=>
     bif (decide (b.1<a.1)) then
      (M.a2 (aB.mk b.2.s d)).bind fun c=>c.on (fun n=>
       some (.next (b.1,b.2.s,d))) (fun g=>some (.stop (.pan g)))
     else
      some (.next (b.1,b.2.s,b.2.atv))) (fun h=>some (.stop (.pan h)))
   else
    some (.next (a.1,a.2.s,a.2.atv))) fun (m,l,k)=>
  (M.e9 a.1 m).bind fun e=>
  some (.ret (e,(aB.mk l k)))) (fun i=>some (.pan i))
def M.g7 (j:(az 4)) (g:(az 4)):Option (az 4):=
 (
  aT (fun (d:(az 4)×Int)=>match d with
  | (b,a)=>
   bif (decide (a<4)) then
    (fU b a).bind fun f=>
    (fU g a).bind fun e=>
    (my b a (bits .or .u64 f e)).bind fun i=>
    (bU .i64 (a+1)).bind fun c=>
    some (.next (i,c))
   else
    some (.stop b)) aR (j,(0:Int))).bind fun (h:(az 4))=>
 some h
def M.c1 (s1:(az 4)):Option (az 4):=
 (
  aT (fun (st9:(az 4)×Int)=>match st9 with
  | (s11,xv5)=>
   bif (decide (xv5<4)) then
    (fU s11 xv5).bind fun c6=>
    (my s11 xv5 (kD .u64 c6)).bind fun s14=>
    (bU .i64 (xv5+1)).bind fun t6=>
    some (.next (s14,t6))
   else
    some (.stop s11)) aR (s1,(0:Int))).bind fun (s8:(az 4))=>
 some s8
def M.c4 (v:aB):Option (Rt ((az 4)×aB)):=
 (M.a3 v 91).bind fun a=>a.on (fun b=>
  (M.a1 b).bind fun i=>
  (
   bif (i == 94) then
    (bU .i64 (b.atv+1)).bind fun k=>
    some k
   else
    some b.atv).bind fun (t:Int)=>
  (M.b4 (aB.mk b.s t)).bind fun a=>a.on (fun c=>
   bg (
    aT (fun (l:Str×Int×(az 4))=>match l with
    | (f,e,g)=>
     (M.a1 (aB.mk f e)).bind fun o=>
     bif (o != 93) then
      (M.b4 (aB.mk f e)).bind fun a=>a.on (fun d=>
       (M.g7 g d.1).bind fun n=>
       some (.next (d.2.s,d.2.atv,n))) (fun p=>some (.stop (.stop (.pan p))))
     else
      some (.stop (.next (f,e,g)))) aR (c.2.s,c.2.atv,c.1)) fun (j,u,h)=>
   (bU .i64 (u+1)).bind fun t3=>
   bif (i == 94) then
    (M.c1 h).bind fun m=>
    some (.ret (m,(aB.mk j t3)))
   else
    some (.ret (h,(aB.mk j t3)))) (fun q=>some (.pan q))) (fun r=>some (.pan r))
def M.h4 (d:Str):Option (az 4):=
 (
  aT (fun (k:(az 4)×Int)=>match k with
  | (b,a)=>
   bif (decide (a<(d.length:Int))) then
    (fa d a).bind fun e=>
    (mN .u8 e 64).bind fun c=>
    (fU b c).bind fun l=>
    (jP e 64).bind fun j=>
    (sx .u64 1 j).bind fun i=>
    (my b c (bits .or .u64 l i)).bind fun f=>
    (bU .i64 (a+1)).bind fun h=>
    some (.next (f,h))
   else
    some (.stop b)) aR ((az.zero 4),(0:Int))).bind fun (g:(az 4))=>
 some g
def M.i6:Option (az 4):=
 (M.h4 [10]).bind fun rv1=>
 (M.c1 rv1).bind fun rv2=>
 some rv2
def M.h6 (kind1:Int) (l1:(List T_Regex)):Option T_Regex:=
 bif ((l1.length:Int) == 1) then
  (bo l1 0).bind fun e1=>
  some e1
 else
  some (T_Regex.mk kind1 (az.zero 4) l1)
mutual
def M.c6:Nat→aB→Option (Rt (T_Regex×aB))
| 0,_=>none
| fl+1,c=>
 (M.a1 c).bind fun b=>
 bif (b == 40) then
  (bU .i64 (c.atv+1)).bind fun F=>
  (M.b2 fl (aB.mk c.s F)).bind fun a=>a.on (fun v=>
   (M.a3 v.2 41).bind fun a=>a.on (fun I=>
    some (.ret (v.1,I))) (fun S=>some (.pan S))) (fun k=>some (.pan k))
 else
  bif (b == 91) then
   (M.c4 c).bind fun a=>a.on (fun u=>
    some (.ret ((T_Regex.mk 3 u.1 []),u.2))) (fun R=>some (.pan R))
  else
   bif (b == 46) then
    (bU .i64 (c.atv+1)).bind fun D=>
    (M.i6).bind fun H=>
    some (.ret ((T_Regex.mk 3 H []),(aB.mk c.s D)))
   else
    (M.b0 c [40,41,91,93,124,42,43,63,46,92]).bind fun a=>a.on (fun p=>
     (M.e9 p.1 p.1).bind fun i=>
     some (.ret ((T_Regex.mk 3 i []),p.2))) (fun Q=>some (.pan Q))
def M.b7:Nat→aB→Option (Rt (T_Regex×aB))
| 0,_=>none
| fl+1,c=>
 (M.c6 fl c).bind fun a=>a.on (fun b=>
  aT (fun (f:Int×Int×(az 4)×(List T_Regex))=>match f with
  | (o,h,g,j)=>
   bg (
    (M.a1 (aB.mk b.2.s o)).bind fun m=>
    bif (m == 42) then
     some (.next ((6:Int),([(T_Regex.mk h g j)]:(List T_Regex))))
    else
     bif (m == 43) then
      some (.next ((4:Int),([(T_Regex.mk h g j),(T_Regex.mk 6 (az.zero 4) [(T_Regex.mk h g j)])]:(List T_Regex))))
     else
      bif (m == 63) then
       some (.next ((5:Int),([(T_Regex.mk h g j),(T_Regex.mk 2 (az.zero 4) [])]:(List T_Regex))))
      else
       some (.stop (.stop (.ret ((T_Regex.mk h g j),(aB.mk b.2.s o)))))) fun (J,z)=>
   (bU .i64 (o+1)).bind fun t3=>
   some (.next (t3,J,(az.zero 4),z))) aR (b.2.atv,b.1.Kind,b.1.Set,b.1.Kids)) (fun k=>some (.pan k))
def M.a8:Nat→aB→Option (Rt (T_Regex×aB))
| 0,_=>none
| fl+1,c=>
 bg (
  aT (fun (f:Str×Int×(List T_Regex))=>match f with
  | (e,d,t)=>
   (
    bif (decide (d<(e.length:Int))) then
     (fa e d).bind fun x=>
     bif (x != 124) then
      some (x != 41)
     else
      some false
    else
     some false).bind fun (A:Bool)=>
   bif A then
    (M.b7 fl (aB.mk e d)).bind fun a=>a.on (fun i=>
     (cO 64 t [i.1]).bind fun U=>
     some (.next (i.2.s,i.2.atv,U))) (fun P=>some (.stop (.stop (.pan P))))
   else
    some (.stop (.next (t,e,d)))) aR (c.s,c.atv,([]:(List T_Regex)))) fun (q,w,l)=>
 bif ((q.length:Int) == 0) then
  some (.ret ((T_Regex.mk 2 (az.zero 4) []),(aB.mk w l)))
 else
  (M.h6 4 q).bind fun G=>
  some (.ret (G,(aB.mk w l)))
def M.b2:Nat→aB→Option (Rt (T_Regex×aB))
| 0,_=>none
| fl+1,c=>
 (M.a8 fl c).bind fun a=>a.on (fun b=>
  bg (
   aT (fun (f:Str×Int×(List T_Regex))=>match f with
   | (e,d,r)=>
    (M.a1 (aB.mk e d)).bind fun L=>
    bif (L == 124) then
     (bU .i64 (d+1)).bind fun B=>
     (M.a8 fl (aB.mk e B)).bind fun a=>a.on (fun n=>
      (cO 64 r [n.1]).bind fun T=>
      some (.next (n.2.s,n.2.atv,T))) (fun N=>some (.stop (.stop (.pan N))))
    else
     some (.stop (.next (r,e,d)))) aR (b.2.s,b.2.atv,([b.1]:(List T_Regex)))) fun (y,l,V)=>
  (M.h6 5 y).bind fun K=>
  some (.ret (K,(aB.mk l V)))) (fun k=>some (.pan k))
end
def M.c9:Nat→T_Regex→Int→Option Bool
| 0,_,_=>none
| fl+1,a,c=>
 (
  bif (c == 0) then
   some true
  else
   some ((a.Kind == 3) == (a.Set == (az.zero 4)))).bind fun (g:Bool)=>
 bif g then
  some false
 else
  bg (
   (
    bif (a.Kind == 1) then
     some (a.Kind == 1)
    else
     bif (a.Kind == 2) then
      some (a.Kind == 2)
     else
      some (a.Kind == 3)).bind fun (f:Bool)=>
   bif f then
    some (.next ((0:Int),(0:Int)))
   else
    (
     bif (a.Kind == 4) then
      some (a.Kind == 4)
     else
      some (a.Kind == 5)).bind fun (e:Bool)=>
    bif e then
     some (.next ((2:Int),(a.Kids.length:Int)))
    else
     bif (a.Kind == 6) then
      some (.next ((1:Int),(1:Int)))
     else
      some (.stop false)) fun (l,k)=>
  (
   bif (decide ((a.Kids.length:Int)<l)) then
    some true
   else
    some (decide (k<(a.Kids.length:Int)))).bind fun (d:Bool)=>
  bif d then
   some false
  else
   bg (
    aT (fun (b:Int)=>
     bif (decide (b<(a.Kids.length:Int))) then
      (bo a.Kids b).bind fun m=>
      (bU .i64 (c - 1)).bind fun i=>
      (M.c9 fl m i).bind fun j=>
      bif (!j) then
       some (.stop (.stop false))
      else
       (bU .i64 (b+1)).bind fun h=>
       some (.next h)
     else
      some (.stop (.next ()))) aR (0:Int)) fun _=>
   some true
def M.h7 (rv1:T_Regex):Option Bool:=
 (M.c9 aR rv1 30).bind fun rv2=>
 some rv2
def M.f0 (c:Str):Option (T_Regex×Int×Int):=
 (M.b2 aR (aB.mk c 0)).bind fun b=>b.on (fun a=>
  bg (
   bif (decide (a.2.atv<(c.length:Int))) then
    (M.a2 a.2).bind fun b=>b.on (fun g=>
     some (.next ())) (fun e=>some (.stop ((T_Regex.mk 0 (az.zero 4) []),e,3)))
   else
    some (.next ())) fun _=>
  (M.h7 a.1).bind fun d=>
  bif (!d) then
   some ((T_Regex.mk 0 (az.zero 4) []),0,11)
  else
   some (a.1,0,0)) (fun f=>some ((T_Regex.mk 0 (az.zero 4) []),f,3))
def M.i5 (s1:(az 4)) (b1:Int):Option Bool:=
 (mN .u8 b1 64).bind fun t1=>
 (fU s1 t1).bind fun c1=>
 (jP b1 64).bind fun t2=>
 (sw .u64 c1 t2).bind fun t3=>
 some ((bits .and .u64 t3 1) == 1)
def M.g3 (e:(List T_Regex)):Option T_Regex:=
 bg (
  aT (fun (g:(List T_Regex)×Int)=>match g with
  | (d,c)=>
   bif (decide (c<(e.length:Int))) then
    bg (
     (bo e c).bind fun b=>
     bif (b.Kind == 1) then
      some (.stop (.stop (.stop b)))
     else
      bif (b.Kind != 2) then
       (cO 64 d [b]).bind fun h=>
       some (.next h)
      else
       some (.next d)) fun (i:(List T_Regex))=>
    (bU .i64 (c+1)).bind fun f=>
    some (.next (i,f))
   else
    some (.stop (.next d))) aR (([]:(List T_Regex)),(0:Int))) fun (a:(List T_Regex))=>
 bif ((a.length:Int) == 0) then
  some (T_Regex.mk 2 (az.zero 4) [])
 else
  bif ((a.length:Int) == 1) then
   (bo a 0).bind fun j=>
   some j
  else
   some (T_Regex.mk 4 (az.zero 4) a)
def M.a5:Nat→T_Regex→Option Bool
| 0,_=>none
| fl+1,a=>
 bg (
  (
   bif (a.Kind == 2) then
    some (a.Kind == 2)
   else
    some (a.Kind == 6)).bind fun (d:Bool)=>
  bif d then
   some (.stop true)
  else
   bif (a.Kind == 4) then
    bg (
     aT (fun (c:Int)=>
      bif (decide (c<(a.Kids.length:Int))) then
       (bo a.Kids c).bind fun j=>
       (M.a5 fl j).bind fun h=>
       bif (!h) then
        some (.stop (.stop (.stop false)))
       else
        (bU .i64 (c+1)).bind fun f=>
        some (.next f)
      else
       some (.stop (.next ()))) aR (0:Int)) fun _=>
    some (.stop true)
   else
    bif (a.Kind == 5) then
     aT (fun (b:Int)=>
      bif (decide (b<(a.Kids.length:Int))) then
       (bo a.Kids b).bind fun i=>
       (M.a5 fl i).bind fun g=>
       bif g then
        some (.stop (.stop true))
       else
        (bU .i64 (b+1)).bind fun e=>
        some (.next e)
      else
       some (.stop (.next ()))) aR (0:Int)
    else
     some (.next ())) fun _=>
 some false
def M.e5:Nat→T_Regex→T_Regex→Option Bool
| 0,_,_=>none
| fl+1,a,c=>
 (
  bif (a.Kind != c.Kind) then
   some true
  else
   bif (a.Set != c.Set) then
    some true
   else
    some ((a.Kids.length:Int) != (c.Kids.length:Int))).bind fun (d:Bool)=>
 bif d then
  some false
 else
  bg (
   aT (fun (b:Int)=>
    bif (decide (b<(a.Kids.length:Int))) then
     (bo a.Kids b).bind fun h=>
     (bo c.Kids b).bind fun g=>
     (M.e5 fl h g).bind fun f=>
     bif (!f) then
      some (.stop (.stop false))
     else
      (bU .i64 (b+1)).bind fun e=>
      some (.next e)
    else
     some (.stop (.next ()))) aR (0:Int)) fun _=>
  some true
def M.g8 (k:(List T_Regex)):Option T_Regex:=
 (
  aT (fun (f:(List T_Regex)×Int)=>match f with
  | (i,e)=>
   bif (decide (e<(k.length:Int))) then
    (
     (bo k e).bind fun h=>
     (
      bif (h.Kind == 5) then
       some h.Kids
      else
       some ([h]:(List T_Regex))).bind fun (j:(List T_Regex))=>
     aT (fun (f:(List T_Regex)×Int)=>match f with
     | (a,d)=>
      bif (decide (d<(j.length:Int))) then
       (
        (bo j d).bind fun g=>
        bif (g.Kind == 1) then
         some a
        else
         bg (
          aT (fun (c:Int)=>
           bif (decide (c<(a.length:Int))) then
            (bo a c).bind fun t=>
            (M.e5 aR t g).bind fun q=>
            bif q then
             some (.stop (.stop a))
            else
             (bU .i64 (c+1)).bind fun p=>
             some (.next p)
           else
            some (.stop (.next ()))) aR (0:Int)) fun _=>
         (cO 64 a [g]).bind fun r=>
         some r).bind fun (l:(List T_Regex))=>
       (bU .i64 (d+1)).bind fun o=>
       some (.next (l,o))
      else
       some (.stop a)) aR (i,(0:Int))).bind fun (m:(List T_Regex))=>
    (bU .i64 (e+1)).bind fun n=>
    some (.next (m,n))
   else
    some (.stop i)) aR (([]:(List T_Regex)),(0:Int))).bind fun (b:(List T_Regex))=>
 bif ((b.length:Int) == 0) then
  some (T_Regex.mk 1 (az.zero 4) [])
 else
  bif ((b.length:Int) == 1) then
   (bo b 0).bind fun s=>
   some s
  else
   some (T_Regex.mk 5 (az.zero 4) b)
def M.a6:Nat→T_Regex→Int→Option T_Regex
| 0,_,_=>none
| fl+1,a,b=>
 bg (
  bif (a.Kind == 3) then
   (M.i5 a.Set b).bind fun x=>
   bif x then
    some (.stop (T_Regex.mk 2 (az.zero 4) []))
   else
    some (.next ())
  else
   bif (a.Kind == 4) then
    (
     aT (fun (e:(List T_Regex)×Int)=>match e with
     | (h,d)=>
      bif (decide (d<(a.Kids.length:Int))) then
       (bo a.Kids d).bind fun j=>
       (bU .i64 (d+1)).bind fun i=>
       (iS a.Kids i (a.Kids.length:Int)).bind fun y=>
       (M.a6 fl j b).bind fun w=>
       (cO 64 [w] y).bind fun l=>
       (M.g3 l).bind fun v=>
       (cO 64 h [v]).bind fun f=>
       (M.a5 aR j).bind fun u=>
       bif (!u) then
        some (.stop f)
       else
        some (.next (f,i))
      else
       some (.stop h)) aR (([]:(List T_Regex)),(0:Int))).bind fun (m:(List T_Regex))=>
    (M.g8 m).bind fun t=>
    some (.stop t)
   else
    bif (a.Kind == 5) then
     (
      aT (fun (e:(List T_Regex)×Int)=>match e with
      | (g,c)=>
       bif (decide (c<(a.Kids.length:Int))) then
        (bo a.Kids c).bind fun A=>
        (M.a6 fl A b).bind fun s=>
        (cO 64 g [s]).bind fun k=>
        (bU .i64 (c+1)).bind fun o=>
        some (.next (k,o))
       else
        some (.stop g)) aR (([]:(List T_Regex)),(0:Int))).bind fun (n:(List T_Regex))=>
     (M.g8 n).bind fun r=>
     some (.stop r)
    else
     bif (a.Kind == 6) then
      (bo a.Kids 0).bind fun z=>
      (M.a6 fl z b).bind fun q=>
      (M.g3 [q,a]).bind fun p=>
      some (.stop p)
     else
      some (.next ())) fun _=>
 some (T_Regex.mk 1 (az.zero 4) [])
def M.f1 (c:T_Regex) (d:Str):Option Bool:=
 (
  aT (fun (i:Int×(az 4)×(List T_Regex)×Int)=>match i with
  | (g,f,e,a)=>
   bif (decide (a<(d.length:Int))) then
    (fa d a).bind fun n=>
    (M.a6 aR (T_Regex.mk g f e) n).bind fun b=>
    (bU .i64 (a+1)).bind fun h=>
    some (.next (b.Kind,b.Set,b.Kids,h))
   else
    some (.stop (g,f,e))) aR (c.Kind,c.Set,c.Kids,(0:Int))).bind fun (m,l,k)=>
 (M.a5 aR (T_Regex.mk m l k)).bind fun j=>
 some j
def M.c0 (d:T_LexSpec) (a:bL) (f:Str):Option Bool:=
 (
  bif (decide (d.Unclosed≤0)) then
   some true
  else
   bif (a.Kind == 2) then
    some true
   else
    some (a.Close == [])).bind fun (c:Bool)=>
 bif c then
  some false
 else
  (M.f0 a.Pattern).bind fun b=>
  (
   bif (b.2.2 == 0) then
    (mR f a.Close).bind fun e=>
    (M.f1 b.1 e).bind fun g=>
    some g
   else
    some false).bind fun (h:Bool)=>
  some h
def M.e0 (c:Str) (c1:T_LexSpec):Option Bool:=
 bg (
  aT (fun (a:Int)=>
   bif (decide (a<(c1.Defs.length:Int))) then
    (bo c1.Defs a).bind fun e=>
    (M.c0 c1 e c).bind fun d=>
    bif d then
     some (.stop (.stop true))
    else
     (bU .i64 (a+1)).bind fun b=>
     some (.next b)
   else
    some (.stop (.next ()))) aR (0:Int)) fun _=>
 some false
def M.j8 (l1:(List aQ)):Option Str:=
 (
  aT (fun (st9:Str×Int)=>match st9 with
  | (s10,xv5)=>
   bif (decide (xv5<(l1.length:Int))) then
    (bo l1 xv5).bind fun e6=>
    (mR s10 e6.Text).bind fun s13=>
    (bU .i64 (xv5+1)).bind fun t6=>
    some (.next (s13,t6))
   else
    some (.stop s10)) aR (([]:Str),(0:Int))).bind fun (s7:Str)=>
 some s7
def M.d6 (s:Str) (sep:Str):Option Int:=match sep with|[c]=>some (Lib.indexByte s c)|_=>none
def M.c3 (s1:Str) (sep1:Str):Option (Str×Str×Bool):=
 (M.d6 s1 sep1).bind fun i1=>
 bif (decide (0≤i1)) then
  (iS s1 0 i1).bind fun s2=>
  (bU .i64 (i1+(sep1.length:Int))).bind fun t1=>
  (iS s1 t1 (s1.length:Int)).bind fun s3=>
  some (s2,s3,true)
 else
  some (s1,[],false)
def M.h5 (s1:Str) (sep1:Str):Option (Str×Str×Bool):=
 (M.c3 s1 sep1).bind fun rv1=>
 some (rv1.1,rv1.2.1,rv1.2.2)
def M.g2 (c:(List aQ)):Option (Str×Int):=
 (M.j8 c).bind fun i=>
 (M.h5 i [10]).bind fun b=>
 bg (
  aT (fun (g:Int×Int)=>match g with
  | (h,a)=>
   bif (decide (a<(c.length:Int))) then
    (bo c a).bind fun j=>
    (bU .i64 (h+(j.Text.length:Int))).bind fun d=>
    bif (d == (b.1.length:Int)) then
     (bU .i64 (a+1)).bind fun f=>
     some (.stop (.stop (b.1,f)))
    else
     (bU .i64 (a+1)).bind fun e=>
     some (.next (d,e))
   else
    some (.stop (.next ()))) aR ((0:Int),(0:Int))) fun _=>
 some (b.1,0)
def M.d7 (u:T_LexSpec) (t:(List aQ)):Option (List aQ):=
 (
  aT (fun (e:(List aQ)×(List aQ))=>match e with
  | (b,g)=>
   bif (decide (0<(b.length:Int))) then
    (bo b 0).bind fun a=>
    (
     bif (a.Kind == (-1)) then
      (M.g2 b).bind fun c=>
      (
       bif (decide (0<c.2)) then
        (M.e0 c.1 u).bind fun r=>
        some r
       else
        some false).bind fun (s:Bool)=>
      bif s then
       (iS b 0 c.2).bind fun h=>
       aT (fun (e:Int×Int)=>match e with
       | (f,d)=>
        bif (decide (d<(h.length:Int))) then
         (bo h d).bind fun i=>
         (bU .i64 (i.At+i.Look)).bind fun q=>
         (bU .i64 (q - a.At)).bind fun p=>
         (bU .i64 (d+1)).bind fun o=>
         some (.next ((ob f p),o))
        else
         some (.stop (c.1,f,c.2))) aR (a.Look,(0:Int))
      else
       some (a.Text,a.Look,(1:Int))
     else
      some (a.Text,a.Look,(1:Int))).bind fun (m,l,k)=>
    (cO 40 g [(aQ.mk a.Kind a.At m l)]).bind fun j=>
    (iS b k (b.length:Int)).bind fun v=>
    some (.next (v,j))
   else
    some (.stop g)) aR (t,([]:(List aQ)))).bind fun (n:(List aQ))=>
 some n
def M.d5 (g:Str) (c:Str):Option Int:=
 (
  (bU .i64 ((c.length:Int)+1)).bind fun v=>
  (nY 8 v (0:Int)).bind fun N=>
  some N).bind fun (i:(List Int))=>
 (
  aT (fun (d:(List Int)×Int)=>match d with
  | (l,e)=>
   bif (decide (e<(i.length:Int))) then
    (cZ l e e).bind fun o=>
    (bU .i64 (e+1)).bind fun u=>
    some (.next (o,u))
   else
    some (.stop l)) aR (i,(0:Int))).bind fun (K:(List Int))=>
 (
  aT (fun (d:(List Int)×(List Int)×(List Int)×Int)=>match d with
  | (L,m,h,b)=>
   bif (decide (b≤(g.length:Int))) then
    (
     (cZ L 0 b).bind fun r=>
     aT (fun (d:(List Int)×Int)=>match d with
     | (k,a)=>
      bif (decide (a≤(c.length:Int))) then
       (
        (bU .i64 (a - 1)).bind fun f=>
        (bo h f).bind fun n=>
        (
         (bU .i64 (b - 1)).bind fun I=>
         (fa g I).bind fun a1=>
         (fa c f).bind fun a0=>
         bif (a1 != a0) then
          (bU .i64 (n+1)).bind fun H=>
          some H
         else
          some n).bind fun (J:Int)=>
        (bo h a).bind fun U=>
        (bU .i64 (U+1)).bind fun G=>
        (bo k f).bind fun T=>
        (bU .i64 (T+1)).bind fun F=>
        (cZ k a (ye J G F)).bind fun j=>
        (
         bif (decide (1<b)) then
          bif (decide (1<a)) then
           (bU .i64 (b - 1)).bind fun D=>
           (fa g D).bind fun Y=>
           (bU .i64 (a - 2)).bind fun B=>
           (fa c B).bind fun X=>
           bif (Y == X) then
            (bU .i64 (b - 2)).bind fun A=>
            (fa g A).bind fun W=>
            (fa c f).bind fun V=>
            some (W == V)
           else
            some false
          else
           some false
         else
          some false).bind fun (t:Bool)=>
        bif t then
         (bo j a).bind fun S=>
         (bU .i64 (a - 2)).bind fun z=>
         (bo m z).bind fun R=>
         (bU .i64 (R+1)).bind fun y=>
         (cZ j a (tc S y)).bind fun p=>
         some p
        else
         some j).bind fun (q:(List Int))=>
       (bU .i64 (a+1)).bind fun x=>
       some (.next (q,x))
      else
       some (.stop k)) aR (r,(1:Int))).bind fun (s:(List Int))=>
    (bU .i64 (b+1)).bind fun w=>
    some (.next (m,h,s,w))
   else
    some (.stop h)) aR (i,i,K,(1:Int))).bind fun (P:(List Int))=>
 (bo P (c.length:Int)).bind fun Q=>
 some Q
def M.e1 (a:T_LexSpec) (c:aQ):Option (List bD):=
 (
  bif (decide (0≤c.Kind)) then
   bif (decide (c.Kind<(a.Defs.length:Int))) then
    (bo a.Defs c.Kind).bind fun r=>
    some (r.Kind == 1)
   else
    some false
  else
   some false).bind fun (m:Bool)=>
 (
  aT (fun (p:(List bD)×Int)=>match p with
  | (b,d)=>
   bif (decide (d<(a.Defs.length:Int))) then
    (
     (bo a.Defs d).bind fun f=>
     bif (c.Kind == (-1)) then
      (M.c0 a f c.Text).bind fun q=>
      bif q then
       (cO 16 b [(bD.mk d a.Unclosed)]).bind fun h=>
       some h
      else
       some b
     else
      (
       bif m then
        bif (decide (0<a.Misspelling)) then
         some (f.Kind == 3)
        else
         some false
       else
        some false).bind fun (k:Bool)=>
      bif k then
       (M.d5 c.Text f.Sample).bind fun e=>
       (
        bif (decide (1≤e)) then
         some (decide (e≤2))
        else
         some false).bind fun (j:Bool)=>
       bif j then
        (bU .i64 (a.Misspelling*e)).bind fun o=>
        (cO 16 b [(bD.mk d o)]).bind fun g=>
        some g
       else
        some b
      else
       some b).bind fun (i:(List bD))=>
    (bU .i64 (d+1)).bind fun n=>
    some (.next (i,n))
   else
    some (.stop b)) aR (([]:(List bD)),(0:Int))).bind fun (l:(List bD))=>
 some l
def M.k5 (b:(List bD)) (e:(List bD)):Option Bool:=
 bif ((b.length:Int) != (e.length:Int)) then
  some false
 else
  bg (
   aT (fun (a:Int)=>
    bif (decide (a<(b.length:Int))) then
     (bo b a).bind fun d=>
     (bo e a).bind fun c=>
     bif (!((d.Kind == c.Kind) && ((d.Price == c.Price) && true))) then
      some (.stop (.stop false))
     else
      (bU .i64 (a+1)).bind fun f=>
      some (.next f)
    else
     some (.stop (.next ()))) aR (0:Int)) fun _=>
  some true
def M.i4:Option Bool:=
 (M.h9).bind fun n=>
 (M.k0).bind fun d=>
 (M.d7 n d).bind fun b=>
 (
  bif ((b.length:Int) != 3) then
   some true
  else
   (bo b 2).bind fun a=>
   some (!((a.Kind == (-1)) && ((a.At == 2) && ((a.Text == [39,97,98,32,99]) && ((a.Look == 6) && true)))))).bind fun (c:Bool)=>
 bif c then
  some false
 else
  (
   (M.d5 [104,119,105,108,101] [119,104,105,108,101]).bind fun l=>
   bif (l == 1) then
    (M.d5 [99,97] [97,98,99]).bind fun k=>
    bif (k == 3) then
     (M.h9).bind fun j=>
     (bo b 2).bind fun o=>
     (M.e1 j o).bind fun i=>
     (M.k5 i [(bD.mk 3 6)]).bind fun h=>
     bif h then
      (M.h9).bind fun g=>
      (M.e1 g (aQ.mk 1 0 [102,105] 0)).bind fun f=>
      (M.k5 f [(bD.mk 0 4)]).bind fun e=>
      some e
     else
      some false
    else
     some false
   else
    some false).bind fun (m:Bool)=>
  some m
def M.i9 (e:(List aQ)) (k:Int):Option Str:=
 (
  aT (fun (h:Str×Int)=>match h with
  | (d,c)=>
   bif (decide (c<(e.length:Int))) then
    (bo e c).bind fun l=>
    (mR d l.Text).bind fun j=>
    (bU .i64 (c+1)).bind fun f=>
    some (.next (j,f))
   else
    some (.stop d)) aR (([]:Str),k)).bind fun (a:Str)=>
 bg (
  aT (fun (b:Int)=>
   bif (decide (b<(a.length:Int))) then
    (fa a b).bind fun m=>
    bif (m == 10) then
     (iS a 0 b).bind fun i=>
     some (.stop (.stop i))
    else
     (bU .i64 (b+1)).bind fun g=>
     some (.next g)
   else
    some (.stop (.next ()))) aR (0:Int)) fun _=>
 some a
def M.k1 (c:(List aQ)) (d:Int) (i:Str):Option Int:=
 bg (
  aT (fun (h:Int×Int)=>match h with
  | (j,a)=>
   bif (decide (a<(c.length:Int))) then
    (bo c a).bind fun k=>
    (bU .i64 (j+(k.Text.length:Int))).bind fun b=>
    bif (b == (i.length:Int)) then
     (bU .i64 (a+1)).bind fun g=>
     (bU .i64 (g - d)).bind fun f=>
     some (.stop (.stop f))
    else
     (bU .i64 (a+1)).bind fun e=>
     some (.next (b,e))
   else
    some (.stop (.next ()))) aR ((0:Int),d)) fun _=>
 some (-1)
def M.e3 (b:T_LexSpec) (h:Int) (g:Str):Option Bool:=
 (bo b.Defs h).bind fun a=>
 (
  bif (decide (0<b.Unclosed)) then
   bif (a.Kind != 2) then
    bif (a.Close != []) then
     (mR g a.Close).bind fun c=>
     (M.c2 a).bind fun e=>
     (M.g0 e c).bind fun d=>
     some d
    else
     some false
   else
    some false
  else
   some false).bind fun (f:Bool)=>
 some f
def M.h8 (k:T_LexSpec) (b:(List aQ)):Option (List aQ):=
 (
  aT (fun (c:(List aQ)×Int)=>match c with
  | (f,a)=>
   bif (decide (a<(b.length:Int))) then
    (
     (M.i9 b a).bind fun h=>
     (M.k1 b a h).bind fun g=>
     (
      aT (fun (c:Bool×Int)=>match c with
      | (j,d)=>
       bif (decide (d<(k.Defs.length:Int))) then
        bif j then
         (bU .i64 (d+1)).bind fun D=>
         some (.next (true,D))
        else
         (M.e3 k d h).bind fun F=>
         (bU .i64 (d+1)).bind fun B=>
         some (.next (F,B))
       else
        some (.stop j)) aR (false,(0:Int))).bind fun (r:Bool)=>
     (
      (bo b a).bind fun J=>
      bif (J.Kind != (-1)) then
       some true
      else
       bif (decide (g<1)) then
        some true
       else
        some (!r)).bind fun (q:Bool)=>
     bif q then
      (bo b a).bind fun I=>
      (cO 40 f [I]).bind fun n=>
      some (n,a)
     else
      (
       aT (fun (c:Int×Int)=>match c with
       | (i,e)=>
        (bU .i64 (a+g)).bind fun A=>
        bif (decide (e<A)) then
         (bo b e).bind fun l=>
         (bU .i64 (l.At+l.Look)).bind fun z=>
         (bo b a).bind fun H=>
         (bU .i64 (z - H.At)).bind fun y=>
         (bU .i64 (e+1)).bind fun x=>
         some (.next ((ob i y),x))
        else
         some (.stop i)) aR ((0:Int),a)).bind fun (p:Int)=>
      (bo b a).bind fun G=>
      (cO 40 f [(aQ.mk (-1) G.At h p)]).bind fun m=>
      (bU .i64 (a+g)).bind fun w=>
      (bU .i64 (w - 1)).bind fun v=>
      some (m,v)).bind fun (o,s)=>
    (bU .i64 (s+1)).bind fun u=>
    some (.next (o,u))
   else
    some (.stop f)) aR (([]:(List aQ)),(0:Int))).bind fun (t:(List aQ))=>
 some t
def M.j0 (d:(List aQ)) (e:(List aQ)):Option Bool:=
 bif ((d.length:Int) != (e.length:Int)) then
  some false
 else
  bg (
   aT (fun (a:Int)=>
    bif (decide (a<(d.length:Int))) then
     (bo d a).bind fun c=>
     (bo e a).bind fun b=>
     (some (!((c.Kind == b.Kind) && ((c.At == b.At) && ((c.Text == b.Text) && ((c.Look == b.Look) && true)))))).bind fun g=>
     bif g then
      some (.stop (.stop false))
     else
      (bU .i64 (a+1)).bind fun f=>
      some (.next f)
    else
     some (.stop (.next ()))) aR (0:Int)) fun _=>
  some true
def M.f2 (c:(List aQ)):Option Bool:=
 bg (
  aT (fun (a:Int)=>
   bif (decide (a<(c.length:Int))) then
    (
     (bo c a).bind fun b=>
     bif (decide (b.At<0)) then
      some true
     else
      bif (decide (10000<b.At)) then
       some true
      else
       bif (decide (b.Look<0)) then
        some true
       else
        bif (decide (10000<b.Look)) then
         some true
        else
         bif (decide (0<a)) then
          (bU .i64 (a - 1)).bind fun h=>
          (bo c h).bind fun d=>
          (bU .i64 (d.At+(d.Text.length:Int))).bind fun g=>
          some (b.At != g)
         else
          some false).bind fun (e:Bool)=>
    bif e then
     some (.stop (.stop false))
    else
     (bU .i64 (a+1)).bind fun f=>
     some (.next f)
   else
    some (.stop (.next ()))) aR (0:Int)) fun _=>
 some true
def M.k6 (l1:(List aQ)):Option Str:=
 (
  aT (fun (st9:Str×Int)=>match st9 with
  | (s10,i5)=>
   bif (decide (i5<(l1.length:Int))) then
    (bo l1 i5).bind fun e6=>
    (mR s10 e6.Text).bind fun s13=>
    (bU .i64 (i5+1)).bind fun t6=>
    some (.next (s13,t6))
   else
    some (.stop s10)) aR (([]:Str),(0:Int))).bind fun (s7:Str)=>
 some s7
def M.b1 (b:T_LexSpec) (a:(List aQ)):Option Bool:=
 (
  (M.i3 b).bind fun g=>
  bif (!g) then
   some true
  else
   bif (decide (12<(a.length:Int))) then
    some true
   else
    (M.f2 a).bind fun f=>
    bif (!f) then
     some true
    else
     (M.k6 a).bind fun e=>
     some (decide (20<(e.length:Int)))).bind fun (c:Bool)=>
 bif c then
  (M.i4).bind fun d=>
  some d
 else
  (
   (M.i4).bind fun k=>
   bif k then
    (M.d7 b a).bind fun j=>
    (M.h8 b a).bind fun i=>
    (M.j0 j i).bind fun h=>
    some h
   else
    some false).bind fun (l:Bool)=>
  some l
end Go.Proofs.YtlcdifnmkafcfaaGreat
namespace Go.Lx
open Go.RowKit
abbrev I6 (n:Int):Value:=Value.int .i64 n
abbrev U8 (n:Int):Value:=Value.int .u8 n
abbrev U6 (n:Int):Value:=Value.int .u64 n
abbrev Bo (b:Bool):Value:=Value.bool b
abbrev Z0:Value:=Value.slice none 0 0
abbrev P0 (b:Nat):Value:=Value.pointer (some ⟨b,0,none⟩)
abbrev Ag (l:List Value):Value:=Value.agg l.toArray
abbrev bx (b:Nat) (T:TypeId) (cs:List Value):Res:=.obj b (.cells cs.toArray T (0,0))
abbrev Sp (g0:Hp) (w0:World) (g:Hp) (w:World) (L:List Res):Prop:=Sep g0 w0 g w L
theorem si {α:Type} {a b:α} (h:some a=some b):a=b:=Option.some.inj h
theorem xx {t0 t1:Type} {a a':t0} {b b':t1} (h:(a,b)=(a',b')):a=a'∧b=b':=by simpa only [Prod.mk.injEq] using h
theorem mO {t0 t1:Type} {a a':t0} {b b':t1} (h:some (a,b)=some (a',b')):a=a'∧b=b':=xx (Option.some.inj h)
theorem Cb {t0 t1 t2:Type} {a a':t0} {b b':t1} {c c':t2} (h:(a,b,c)=(a',b',c')):a=a'∧b=b'∧c=c':=by simpa only [Prod.mk.injEq] using h
theorem Cd {t0 t1 t2:Type} {a a':t0} {b b':t1} {c c':t2} (h:some (a,b,c)=some (a',b',c')):a=a'∧b=b'∧c=c':=Cb (Option.some.inj h)
theorem Ca {t0 t1 t2 t3:Type} {a a':t0} {b b':t1} {c c':t2} {d d':t3} (h:(a,b,c,d)=(a',b',c',d')):a=a'∧b=b'∧c=c'∧d=d':=by simpa only [Prod.mk.injEq] using h
theorem Cg {t0 t1 t2 t3:Type} {a a':t0} {b b':t1} {c c':t2} {d d':t3} (h:some (a,b,c,d)=some (a',b',c',d')):a=a'∧b=b'∧c=c'∧d=d':=Ca (Option.some.inj h)
theorem Cf {t0 t1 t2 t3 t4:Type} {a a':t0} {b b':t1} {c c':t2} {d d':t3} {e e':t4} (h:(a,b,c,d,e)=(a',b',c',d',e')):a=a'∧b=b'∧c=c'∧d=d'∧e=e':=by simpa only [Prod.mk.injEq] using h
theorem Cc {t0 t1 t2 t3 t4:Type} {a a':t0} {b b':t1} {c c':t2} {d d':t3} {e e':t4} (h:some (a,b,c,d,e)=some (a',b',c',d',e')):a=a'∧b=b'∧c=c'∧d=d'∧e=e':=Cf (Option.some.inj h)
theorem bT:([]:List Deferred)=[]:=rfl
def AV:List Nat→Bool
  | []=>true
  | i::l=>!(l.elem i) && AV l
theorem pq:∀ {l:List Nat},AV l=true→l.Nodup
  | [],_=>List.nodup_nil
  | i::l,h=>by
    simp only [AV,Bool.and_eq_true,Bool.not_eq_true'] at h
    refine List.nodup_cons.2 ⟨fun hm=>?_,pq h.2⟩
    have:=List.elem_eq_true_of_mem hm
    rw [h.1] at this; cases this
def xO (A:List Res):List Nat→Option (List Res)
  | []=>some []
  | i::l=>match A[i]?,xO A l with
    | some r,some m=>some (r::m)
    | _,_=>none
theorem qS {A:List Res}:∀ {is:List Nat} {L:List Res},xO A is=some L→L.map some=is.map (A[·]?)
  | [],L,h=>by cases h; rfl
  | i::is,L,h=>by
    unfold xO at h
    split at h
    · rename_i r m h1 h2
      cases h
      rw [List.map_cons,List.map_cons,h1,qS h2]
    · cases h
def AC (n:Nat) (is:List Nat) (L:List Res):Option (List Res):=bif AV is then (match xO (L.take n) is with|some A=>some (A++L.drop n)|none=>none) else none
theorem Sep.sU {g0 g:Hp} {w0 w:World} {L L':List Res} (h:Sep g0 w0 g w L) (n:Nat) (is:List Nat) (hl:AC n is L=some L'):Sep g0 w0 g w L':=by
  unfold AC at hl
  cases hn:AV is with
  | false=>rw [hn] at hl; cases hl
  | true=>
    rw [hn,cond_true] at hl
    split at hl
    · rename_i A b
      cases hl
      have a:Sep g0 w0 g w (L.take n++L.drop n):=by rw [List.take_append_drop]; exact h
      exact a.selT is (pq hn) (qS b)
    · cases hl
section
variable {P:Program} {n:Fr} {Q:EPost} {E:Env} {w:World} {ops:Array Oper} {rest:List Oper} {op:Op} {ty:TypeId} {ps:String} {af:Array Edge} {g0 g:Hp} {w0:World} {L:List Res}
theorem SR {id:Nat} {l:List Oper} {y:Code} (h:OW P n l.toArray (pJ (WP P n y Q) Q) l E w):WP P n (.seq (.region id l.toArray false) y) Q E w:=av (ai h)
theorem NR {id:Nat} {l:List Oper} {y:Code} {Q':EPost} (h:OW P n l.toArray (pJ (WP P n y Q) Q) l E w):OW P n ops (pJ (WP P n (.seq (.region id l.toArray false) y) Q) Q') [] E w:=aa (SR h)
theorem Om {d:Tmp} {x:Operand} (v:Value) (h:(ev E x,Nat.blt d n.sz)=(v,true)) (k:OW P n ops Q rest (dD E d v) w):OW P n ops Q (⟨some d,.move x,ty,ps,af,none⟩::rest) E w:=O (cU (congrArg Prod.fst h)) (congrArg Prod.snd h) k
theorem Oa {d:Tmp} {x:Operand} (v:Value) (h:(ev E x,Nat.blt d n.sz)=(v,true)) (k:OW P n ops Q rest (dD E d v) w):OW P n ops Q (⟨some d,.assign x,ty,ps,af,none⟩::rest) E w:=O (nS (congrArg Prod.fst h)) (congrArg Prod.snd h) k
theorem Of {d:Tmp} {T ft:TypeId} {x:Operand} {f b o o':Nat} {fs:Array Field} {fd:Field} {agg:Bool} {size bytes:Nat} {z:Value} (hT:P.underlying T=some (.struct fs)) (ht:eb P ft agg size bytes z) (h:(fs[f]?,fd.type,Nat.blt 0 size,ev E x,o',Nat.blt d n.sz)=(some fd,ft,true,Value.pointer (some ⟨b,o,none⟩),o+fd.offset,true))
    (k:OW P n ops Q rest (dD E d (.pointer (some ⟨b,o',none⟩))) w):OW P n ops Q (⟨some d,.fieldAddr T x f,ty,ps,af,none⟩::rest) E w:=by
  obtain ⟨hf,he,a,hx,ho,hd⟩:fs[f]?=some fd∧fd.type=ft∧Nat.blt 0 size=true∧ev E x=.pointer (some ⟨b,o,none⟩)∧o'=o+fd.offset∧Nat.blt d n.sz=true:=by simpa only [Prod.mk.injEq] using h
  exact O (ao hT ht hf he a hx ho) hd k
theorem Ol {d:Tmp} {T:TypeId} {size bytes:Nat} {z:Value} {x:Operand} (v:Value) (ht:eb P T false size bytes z) (hs:Sep g0 w0 g w L) (i o:Nat) {b:Nat} {T':TypeId} {cs:List Value} (hx:ev E x=.pointer (some ⟨b,o,none⟩)) (hi:L[i]?=some (rV b T' cs)) (hv:cs[o]?=some v)
    (hd:Nat.blt d n.sz=true) (k:OW P n ops Q rest (dD E d v) w):OW P n ops Q (⟨some d,.load T x,ty,ps,af,none⟩::rest) E w:=O (aZ ht hx (hs.cell hi hv)) hd k
theorem On {d:Tmp} {T:TypeId} {size bytes:Nat} {z:Value} {x:Operand} {b:Nat} {T':TypeId} (cs:List Value) (ht:eb P T true size bytes z) (hl:cs.length=size) (hs:Sep g0 w0 g w L) (i:Nat) (hx:ev E x=.pointer (some ⟨b,0,none⟩)) (hi:L[i]?=some (rV b T' cs))
    (hd:Nat.blt d n.sz=true) (k:OW P n ops Q rest (dD E d (.agg cs.toArray)) w):OW P n ops Q (⟨some d,.load T x,ty,ps,af,none⟩::rest) E w:=O (cm ht hx hl (hs.cells hi)) hd k
theorem Oe {d:Tmp} {T:TypeId} {size bytes:Nat} {z:Value} {x:Operand} {b o:Nat} (cs:List Value) (ht:eb P T true size bytes z) (hl:cs.length=size) (hc:∀j u,cs[j]?=some u→w.cell? ⟨b,o+j,none⟩=some u) (hx:ev E x=.pointer (some ⟨b,o,none⟩))
    (hd:Nat.blt d n.sz=true) (k:OW P n ops Q rest (dD E d (.agg cs.toArray)) w):OW P n ops Q (⟨some d,.load T x,ty,ps,af,none⟩::rest) E w:=O (aS ht hx hl (.inl rfl) hc rfl) hd k
theorem Oc {d:Tmp} {T:TypeId} {bytes:Nat} {z:Value} {x:Operand} {b o:Nat} (v:Value) (ht:eb P T false 1 bytes z) (hc:∀j u,[v][j]?=some u→w.cell? ⟨b,o+j,none⟩=some u) (hx:ev E x=.pointer (some ⟨b,o,none⟩))
    (hd:Nat.blt d n.sz=true) (k:OW P n ops Q rest (dD E d v) w):OW P n ops Q (⟨some d,.load T x,ty,ps,af,none⟩::rest) E w:=O (aS (cs:=[v]) ht hx rfl (.inr rfl) hc rfl) hd k
theorem Ox {d:Tmp} {x:Operand} {vs:List Value} {i:Nat} (v:Value) (hx:ev E x=.tuple vs.toArray) (hi:vs[i]?=some v) (hd:Nat.blt d n.sz=true) (k:OW P n ops Q rest (dD E d v) w):OW P n ops Q (⟨some d,.extract x i,ty,ps,af,none⟩::rest) E w:=O (uR hx hi) hd k
theorem Ob {d:Tmp} {T:TypeId} {x:Operand} (zs:List Value) (hs:Sep g0 w0 g w L) (hx:ev E x=.agg zs.toArray) (hd:Nat.blt d n.sz=true)
    (k:∀b w',Sep g0 w0 g w' (rV b T zs::L)→OW P n ops Q rest (dD E d (.pointer (some ⟨b,0,none⟩))) w'):OW P n ops Q (⟨some d,.box T x,ty,ps,af,none⟩::rest) E w:=iE hx hs zs rfl hd k
theorem di {T T':TypeId} {x y:Operand} {b:Nat} {cs:List Value} {size bytes:Nat} {z:Value} (ht:eb P T true size bytes z) (hs:Sep g0 w0 g w L) (i:Nat) (vs:List Value) (hi:L[i]?=some (rV b T' cs))
    (hx:ev E x=.pointer (some ⟨b,0,none⟩)) (hy:ev E y=.agg vs.toArray) (a:∀v∈vs,v.oneCell'=true) (hl:vs.length=size) (hl':cs.length=vs.length)
    (k:∀w',Sep g0 w0 g w' (L.set i (rV b T' vs))→OW P n ops Q rest E w'):OW P n ops Q (⟨none,.store T x y,ty,ps,af,none⟩::rest) E w:=cy ht hs hi hx hy rfl a hl hl' k
theorem jU {l:List Value} (h:(l.all fun v=>v.oneCell')=true):∀v∈l,v.oneCell'=true:=fun v hv=>List.all_eq_true.1 h v hv
def kx (ops:Array Oper) (E:Env) (j:Nat):Option Value:=match ops[j]? with
  | some o=>match o.dst with
    | some d=>some (E d)
    | none=>none
  | none=>none
theorem ic {j:Nat} {v:Value} (h:kx ops E j=some v):∃oj d0,ops[j]?=some oj∧oj.dst=some d0∧ev E (.tmp d0)=v:=by
  unfold kx at h
  split at h
  · rename_i o h1
    split at h
    · rename_i d h2
      cases h
      exact ⟨o,d,h1,h2,rfl⟩
    · cases h
  · cases h
theorem OJ {d:Tmp} {j:Nat} {want b c:Bool} (hg:b=c) (h:(kx ops E j,c == want,Nat.blt d n.sz)=(some (.bool b),false,true)) (k:OW P n ops Q rest (dD E d undef) w):OW P n ops Q (⟨some d,op,ty,ps,af,some (j,want)⟩::rest) E w:=by
  obtain ⟨hj,hne,hd⟩:kx ops E j=some (.bool b)∧(c == want)=false∧Nat.blt d n.sz=true:=by simpa only [Prod.mk.injEq] using h
  obtain ⟨oj,g,f,e,a⟩:=ic hj
  exact OK f e a (by rw [hg]; exact hne) hd k
theorem OI {d:Tmp} {v:Value} {w':World} {j:Nat} {want b c:Bool} (hg:b=c) (h:(kx ops E j,c == want,Nat.blt d n.sz)=(some (.bool b),true,true)) (hr:cr P E ⟨some d,op,ty,ps,af,some (j,want)⟩ w v w') (k:OW P n ops Q rest (dD E d v) w'):OW P n ops Q (⟨some d,op,ty,ps,af,some (j,want)⟩::rest) E w:=by
  obtain ⟨hj,hne,hd⟩:kx ops E j=some (.bool b)∧(c == want)=true∧Nat.blt d n.sz=true:=by simpa only [Prod.mk.injEq] using h
  obtain ⟨oj,g,f,e,a⟩:=ic hj
  exact OG f e a (by rw [hg]; exact hne) hr hd k
theorem CI {d:Tmp} {f:FuncId} {xs:Array Operand} {ats:Array TypeId} {j:Nat} {want b c:Bool} (hg:b=c) (hj:kx ops E j=some (.bool b)) (hne:(c == want)=true) (args:List Value) {R:Value→World→Prop} (hf:CF P f) (ha:xs.toList.map (ev E)=args) (hc:bi P f args.toArray w R) (hd:Nat.blt d n.sz=true)
    (k:∀v w',R v w'→OW P n ops Q rest (dD E d v) w'):OW P n ops Q (⟨some d,.call { callee:=.value (.func f),args:=xs,argTypes:=ats },ty,ps,af,some (j,want)⟩::rest) E w:=by
  obtain ⟨oj,h,g,e,a⟩:=ic hj
  exact CG g e a (by rw [hg]; exact hne) args hf ha hc hd k
theorem SI {Q:Env→Prop} {d:Tmp} {v:Value} {j:Nat} {want b c:Bool} (hg:b=c) (hj:kx ops E j=some (.bool b)) (hne:(c == want)=true) (hr:cr P E ⟨some d,op,ty,ps,af,some (j,want)⟩ w v w) (hd:Nat.blt d n.sz=true) (k:SW P n ops w Q rest (dD E d v)):SW P n ops w Q (⟨some d,op,ty,ps,af,some (j,want)⟩::rest) E:=by
  obtain ⟨oj,g,f,e,a⟩:=ic hj
  exact SG f e a (by rw [hg]; exact hne) hr hd k
theorem SJ {Q:Env→Prop} {d:Tmp} {j:Nat} {want b c:Bool} (hg:b=c) (h:(kx ops E j,c == want,Nat.blt d n.sz)=(some (.bool b),false,true)) (k:SW P n ops w Q rest (dD E d undef)):SW P n ops w Q (⟨some d,op,ty,ps,af,some (j,want)⟩::rest) E:=by
  obtain ⟨hj,hne,hd⟩:kx ops E j=some (.bool b)∧(c == want)=false∧Nat.blt d n.sz=true:=by simpa only [Prod.mk.injEq] using h
  obtain ⟨oj,g,f,e,a⟩:=ic hj
  exact SK f e a (by rw [hg]; exact hne) hd k
theorem Ok {d:Tmp} {j:Nat} {want b:Bool} (h:(kx ops E j,b == want,Nat.blt d n.sz)=(some (.bool b),false,true)) (k:OW P n ops Q rest (dD E d undef) w):OW P n ops Q (⟨some d,op,ty,ps,af,some (j,want)⟩::rest) E w:=OJ rfl h k
theorem Sk {Q:Env→Prop} {d:Tmp} {j:Nat} {want b:Bool} (h:(kx ops E j,b == want,Nat.blt d n.sz)=(some (.bool b),false,true)) (k:SW P n ops w Q rest (dD E d undef)):SW P n ops w Q (⟨some d,op,ty,ps,af,some (j,want)⟩::rest) E:=SJ rfl h k
theorem Im {d:Tmp} {x:Operand} {j:Nat} {want b c:Bool} (hg:b=c) (v:Value) (h:(ev E x,kx ops E j,c == want,Nat.blt d n.sz)=(v,some (.bool b),true,true)) (k:OW P n ops Q rest (dD E d v) w):OW P n ops Q (⟨some d,.move x,ty,ps,af,some (j,want)⟩::rest) E w:=OI hg (congrArg Prod.snd h) (cU (congrArg Prod.fst h)) k
theorem Sm {Q:Env→Prop} {d:Tmp} {x:Operand} (v:Value) (h:(ev E x,Nat.blt d n.sz)=(v,true)) (k:SW P n ops w Q rest (dD E d v)):SW P n ops w Q (⟨some d,.move x,ty,ps,af,none⟩::rest) E:=S (cU (congrArg Prod.fst h)) (congrArg Prod.snd h) k
theorem Sa {Q:Env→Prop} {d:Tmp} {x:Operand} (v:Value) (h:(ev E x,Nat.blt d n.sz)=(v,true)) (k:SW P n ops w Q rest (dD E d v)):SW P n ops w Q (⟨some d,.assign x,ty,ps,af,none⟩::rest) E:=S (nS (congrArg Prod.fst h)) (congrArg Prod.snd h) k
theorem Jm {Q:Env→Prop} {d:Tmp} {x:Operand} {j:Nat} {want b c:Bool} (hg:b=c) (v:Value) (h:(ev E x,kx ops E j,c == want,Nat.blt d n.sz)=(v,some (.bool b),true,true)) (k:SW P n ops w Q rest (dD E d v)):SW P n ops w Q (⟨some d,.move x,ty,ps,af,some (j,want)⟩::rest) E:=by
  obtain ⟨hx,hj,hne,hd⟩:ev E x=v∧kx ops E j=some (.bool b)∧(c == want)=true∧Nat.blt d n.sz=true:=by simpa only [Prod.mk.injEq] using h
  exact SI hg hj hne (cU hx) hd k
theorem WA {id:Nat} {l:List Oper} (hs:Sep g0 w0 g w L) (t:OT) (hm:P.follows .mixedOrders=true) (hB:sV l.toArray t=true) [hP:eQ Q] (h:AT P n l.toArray Q (SS g0 w0 g L) t.qs t E w.drew):WP P n (.region id l.toArray true) Q E w:=mp t _ hm hB h
theorem Sep.ss (hs:Sep g0 w0 g w L):SS g0 w0 g L w:=⟨g,aY.refl _,hs⟩
end
def ru:Nat→List Res→List Res
  | _,[]=>[]
  | m,r::l=>bif Nat.beq (Nat.mod m 2) 1 then r::ru (Nat.div m 2) l else ru (Nat.div m 2) l
theorem me:∀(l:List Res) (m:Nat),List.Sublist (ru m l) l
  | [],_=>.slnil
  | r::l,m=>by
    unfold ru
    cases Nat.beq (Nat.mod m 2) 1
    · exact .cons _ (me l _)
    · exact .cons_cons _ (me l _)
theorem Sep.kp {g0 g:Hp} {w0 w:World} {L L':List Res} (h:Sep g0 w0 g w L) (m:Nat) (e:ru m L=L'):Sep g0 w0 g w L':=h.sub (e ▸ me L m)
theorem cI.oc {α:Type} {τ:Ty α} {g:Hp} {v:Value} {l:List α} (h:cI τ g v l):v.oneCell'=true:=ca h.shape
theorem Sep.oc {g0 g:Hp} {w0 w:World} {L:List Res} (h:Sep g0 w0 g w L) (i:Nat) {v:Value} {e:TypeId} {sz n:Nat} {xs:List Value} (hi:L[i]?=some (.row v e sz n xs)):v.oneCell'=true:=ca (h.rowShape hi)
section
variable {P:Program} {n:Fr} {Q:EPost} {E:Env} {w:World} {ops:Array Oper} {S:World→Prop} {qs:List Nat} {t:OT} {k:Nat} {d:Tmp} {ty:TypeId} {ps:String} {af:Array Edge}
theorem Am {x:Operand} (v:Value) (hS:S w) (h:(ops[k]?,ev E x,Nat.blt d n.sz)=(some ⟨some d,.move x,ty,ps,af,none⟩,v,true)) (hk:AT P n ops Q S qs t (dD E d v) w):AT P n ops Q S qs (.q k t) E w:=by
  obtain ⟨ho,hx,hd⟩:ops[k]?=some ⟨some d,.move x,ty,ps,af,none⟩∧ev E x=v∧Nat.blt d n.sz=true:=by simpa only [Prod.mk.injEq] using h
  exact A ho hS (fun _ _=>cU hx) hd hk
theorem Aa {x:Operand} (v:Value) (hS:S w) (h:(ops[k]?,ev E x,Nat.blt d n.sz)=(some ⟨some d,.assign x,ty,ps,af,none⟩,v,true)) (hk:AT P n ops Q S qs t (dD E d v) w):AT P n ops Q S qs (.q k t) E w:=by
  obtain ⟨ho,hx,hd⟩:ops[k]?=some ⟨some d,.assign x,ty,ps,af,none⟩∧ev E x=v∧Nat.blt d n.sz=true:=by simpa only [Prod.mk.injEq] using h
  exact A ho hS (fun _ _=>nS hx) hd hk
end
end Go.Lx
set_option linter.unusedVariables false
set_option linter.unusedSimpArgs false
namespace Go.Proofs.YtlcdifnmkafcfaaGreat
open Go.Lx Go.RowKit
theorem mo:Tryz.prog.follows .mixedOrders=true:=by kernel_rfl
theorem aW:eb Tryz.prog 3 false 1 8 (Value.int .i64 0):=dS (by kernel_rfl) (by kernel_rfl)
theorem cF:eb Tryz.prog 4 false 1 1 (Value.bool false):=dS (by kernel_rfl) (by kernel_rfl)
theorem AB:eb Tryz.prog 5 false 1 1 (Value.int .u8 0):=dS (by kernel_rfl) (by kernel_rfl)
theorem cT:eb Tryz.prog 9 false 1 16 (ah []):=dS (by kernel_rfl) (by kernel_rfl)
theorem dj:eb Tryz.prog 22 false 1 24 (.slice none 0 0):=dS (by kernel_rfl) (by kernel_rfl)
theorem ki:eb Tryz.prog 24 true 4 48 (Value.agg (List.toArray (α:=Value) [.slice none 0 0,Value.bool false,Value.int .i64 0,Value.int .i64 0])):=dS (by kernel_rfl) (by kernel_rfl)
theorem bX:eb Tryz.prog 27 false 1 24 (.slice none 0 0):=dS (by kernel_rfl) (by kernel_rfl)
theorem jO:eb Tryz.prog 28 false 1 24 (.slice none 0 0):=dS (by kernel_rfl) (by kernel_rfl)
theorem eG:eb Tryz.prog 30 true 3 72 (Value.agg (List.toArray (α:=Value) [.slice none 0 0,.slice none 0 0,.slice none 0 0])):=dS (by kernel_rfl) (by kernel_rfl)
theorem qO:eb Tryz.prog 31 false 1 8 (Value.int .i64 0):=dS (by kernel_rfl) (by kernel_rfl)
theorem db:eb Tryz.prog 43 true 4 40 (Value.agg (List.toArray (α:=Value) [Value.int .i64 0,Value.int .i64 0,ah [],Value.int .i64 0])):=dS (by kernel_rfl) (by kernel_rfl)
theorem fI:eb Tryz.prog 47 true 2 16 (Value.agg (List.toArray (α:=Value) [Value.int .i64 0,Value.int .i64 0])):=dS (by kernel_rfl) (by kernel_rfl)
theorem dV:eb Tryz.prog 52 false 1 8 (Value.int .u64 0):=dS (by kernel_rfl) (by kernel_rfl)
theorem cg:eb Tryz.prog 54 true 4 32 (cB .u64 (az.zero 4)):=dS (by kernel_rfl) (by kernel_rfl)
theorem cA:eb Tryz.prog 55 false 1 24 (.slice none 0 0):=dS (by kernel_rfl) (by kernel_rfl)
theorem aO:eb Tryz.prog 57 true 6 64 (Value.agg (List.toArray (α:=Value) (([Value.int .i64 0])++(((az.zero 4).1.map (Value.int .u64))++([.slice none 0 0]))))):=dS (by kernel_rfl) (by kernel_rfl)
theorem dU:eb Tryz.prog 60 true 5 72 (Value.agg (List.toArray (α:=Value) [ah [],Value.int .i64 0,ah [],ah [],ah []])):=dS (by kernel_rfl) (by kernel_rfl)
theorem fV:eb Tryz.prog 79 false 1 24 (.slice none 0 0):=dS (by kernel_rfl) (by kernel_rfl)
theorem iL:eb Tryz.prog 81 true 4 64 (Value.agg (List.toArray (α:=Value) [Value.int .i64 0,Value.int .i64 0,.slice none 0 0,.slice none 0 0])):=dS (by kernel_rfl) (by kernel_rfl)
theorem oJ:eb Tryz.prog 98 false 1 24 (.slice none 0 0):=dS (by kernel_rfl) (by kernel_rfl)
theorem oI:eb Tryz.prog 99 false 1 24 (.slice none 0 0):=dS (by kernel_rfl) (by kernel_rfl)
theorem eA:eb Tryz.prog 103 true 3 56 (Value.agg (List.toArray (α:=Value) [Value.bool false,.slice none 0 0,.slice none 0 0])):=dS (by kernel_rfl) (by kernel_rfl)
theorem eJ:eb Tryz.prog 106 false 1 24 (.slice none 0 0):=dS (by kernel_rfl) (by kernel_rfl)
theorem tF:eb Tryz.prog 107 true 2 16 (cB .i64 (az.zero 2)):=dS (by kernel_rfl) (by kernel_rfl)
theorem fv:eb Tryz.prog 109 true 7 56 (Value.agg (List.toArray (α:=Value) (([Value.int .i64 0])++(([Value.int .i64 0])++(([Value.bool false])++((az.zero 4).1.map (Value.int .u64))))))):=dS (by kernel_rfl) (by kernel_rfl)
theorem AW:Tryz.prog.eqGuardType Tryz.prog.depth 43=false:=by kernel_rfl
theorem Cj:Tryz.prog.eqGuardType Tryz.prog.depth 47=false:=by kernel_rfl
theorem wF:Tryz.prog.eqGuardType Tryz.prog.depth 54=false:=by kernel_rfl
theorem uq:Tryz.prog.concrete 122=true:=by kernel_rfl
theorem Dw:CF Tryz.prog 7:=bz Tryz.func7 rfl (by decide)
theorem Dt:CF Tryz.prog 8:=bz Tryz.func8 rfl (by decide)
theorem Dj:CF Tryz.prog 11:=bz Tryz.func11 rfl (by decide)
theorem BE:CF Tryz.prog 12:=bz Tryz.func12 rfl (by decide)
theorem Di:CF Tryz.prog 13:=bz Tryz.func13 rfl (by decide)
theorem Dh:CF Tryz.prog 14:=bz Tryz.func14 rfl (by decide)
theorem Dg:CF Tryz.prog 15:=bz Tryz.func15 rfl (by decide)
theorem kF:CF Tryz.prog 16:=bz Tryz.func16 rfl (by decide)
theorem kE:CF Tryz.prog 17:=bz Tryz.func17 rfl (by decide)
theorem Df:CF Tryz.prog 19:=bz Tryz.func19 rfl (by decide)
theorem Bz:CF Tryz.prog 20:=bz Tryz.func20 rfl (by decide)
theorem wP:CF Tryz.prog 21:=bz Tryz.func21 rfl (by decide)
theorem De:CF Tryz.prog 22:=bz Tryz.func22 rfl (by decide)
theorem oy:CF Tryz.prog 23:=bz Tryz.func23 rfl (by decide)
theorem Dd:CF Tryz.prog 24:=bz Tryz.func24 rfl (by decide)
theorem rS:CF Tryz.prog 25:=bz Tryz.func25 rfl (by decide)
theorem Dc:CF Tryz.prog 26:=bz Tryz.func26 rfl (by decide)
theorem Db:CF Tryz.prog 28:=bz Tryz.func28 rfl (by decide)
theorem By:CF Tryz.prog 29:=bz Tryz.func29 rfl (by decide)
theorem Da:CF Tryz.prog 30:=bz Tryz.func30 rfl (by decide)
theorem CZ:CF Tryz.prog 31:=bz Tryz.func31 rfl (by decide)
theorem CY:CF Tryz.prog 32:=bz Tryz.func32 rfl (by decide)
theorem CX:CF Tryz.prog 33:=bz Tryz.func33 rfl (by decide)
theorem Bx:CF Tryz.prog 35:=bz Tryz.func35 rfl (by decide)
theorem CW:CF Tryz.prog 36:=bz Tryz.func36 rfl (by decide)
theorem CV:CF Tryz.prog 37:=bz Tryz.func37 rfl (by decide)
theorem CU:CF Tryz.prog 38:=bz Tryz.func38 rfl (by decide)
theorem CT:CF Tryz.prog 39:=bz Tryz.func39 rfl (by decide)
theorem CR:CF Tryz.prog 40:=bz Tryz.func40 rfl (by decide)
theorem CQ:CF Tryz.prog 41:=bz Tryz.func41 rfl (by decide)
theorem CP:CF Tryz.prog 42:=bz Tryz.func42 rfl (by decide)
theorem CO:CF Tryz.prog 43:=bz Tryz.func43 rfl (by decide)
theorem CM:CF Tryz.prog 44:=bz Tryz.func44 rfl (by decide)
theorem CL:CF Tryz.prog 45:=bz Tryz.func45 rfl (by decide)
theorem Ah:CF Tryz.prog 46:=bz Tryz.func46 rfl (by decide)
theorem Bw:CF Tryz.prog 47:=bz Tryz.func47 rfl (by decide)
theorem Bv:CF Tryz.prog 48:=bz Tryz.func48 rfl (by decide)
theorem CK:CF Tryz.prog 49:=bz Tryz.func49 rfl (by decide)
theorem CJ:CF Tryz.prog 50:=bz Tryz.func50 rfl (by decide)
theorem CH:CF Tryz.prog 51:=bz Tryz.func51 rfl (by decide)
theorem yI:CF Tryz.prog 52:=bz Tryz.func52 rfl (by decide)
theorem CE:CF Tryz.prog 53:=bz Tryz.func53 rfl (by decide)
theorem yH:CF Tryz.prog 54:=bz Tryz.func54 rfl (by decide)
theorem Af:CF Tryz.prog 55:=bz Tryz.func55 rfl (by decide)
theorem CD:CF Tryz.prog 56:=bz Tryz.func56 rfl (by decide)
theorem CC:CF Tryz.prog 57:=bz Tryz.func57 rfl (by decide)
theorem CB:CF Tryz.prog 58:=bz Tryz.func58 rfl (by decide)
theorem yG:CF Tryz.prog 59:=bz Tryz.func59 rfl (by decide)
theorem CA:CF Tryz.prog 60:=bz Tryz.func60 rfl (by decide)
theorem Cz:CF Tryz.prog 61:=bz Tryz.func61 rfl (by decide)
theorem Cy:CF Tryz.prog 62:=bz Tryz.func62 rfl (by decide)
theorem Cx:CF Tryz.prog 63:=bz Tryz.func63 rfl (by decide)
theorem Ae:CF Tryz.prog 64:=bz Tryz.func64 rfl (by decide)
theorem Cw:CF Tryz.prog 65:=bz Tryz.func65 rfl (by decide)
theorem yF:CF Tryz.prog 66:=bz Tryz.func66 rfl (by decide)
theorem yE:CF Tryz.prog 67:=bz Tryz.func67 rfl (by decide)
theorem lu:CF Tryz.prog 68:=bz Tryz.func68 rfl (by decide)
theorem Cv:CF Tryz.prog 69:=bz Tryz.func69 rfl (by decide)
theorem yD:CF Tryz.prog 70:=bz Tryz.func70 rfl (by decide)
theorem yC:CF Tryz.prog 71:=bz Tryz.func71 rfl (by decide)
theorem Cu:CF Tryz.prog 72:=bz Tryz.func72 rfl (by decide)
theorem yB:CF Tryz.prog 73:=bz Tryz.func73 rfl (by decide)
theorem Bu:CF Tryz.prog 74:=bz Tryz.func74 rfl (by decide)
theorem mQ:CF Tryz.prog 75:=bz Tryz.func75 rfl (by decide)
theorem Br:CF Tryz.prog 76:=bz Tryz.func76 rfl (by decide)
theorem Bq:CF Tryz.prog 77:=bz Tryz.func77 rfl (by decide)
theorem Bn:CF Tryz.prog 78:=bz Tryz.func78 rfl (by decide)
theorem Ad:CF Tryz.prog 79:=bz Tryz.func79 rfl (by decide)
theorem Bm:CF Tryz.prog 80:=bz Tryz.func80 rfl (by decide)
theorem Bk:CF Tryz.prog 81:=bz Tryz.func81 rfl (by decide)
theorem Ct:CF Tryz.prog 82:=bz Tryz.func82 rfl (by decide)
theorem Cs:CF Tryz.prog 83:=bz Tryz.func83 rfl (by decide)
theorem Cr:CF Tryz.prog 84:=bz Tryz.func84 rfl (by decide)
theorem Ac:CF Tryz.prog 85:=bz Tryz.func85 rfl (by decide)
theorem Cq:CF Tryz.prog 86:=bz Tryz.func86 rfl (by decide)
theorem yA:CF Tryz.prog 87:=bz Tryz.func87 rfl (by decide)
theorem vq:CF Tryz.prog 88:=bz Tryz.func88 rfl (by decide)
theorem Bj:CF Tryz.prog 89:=bz Tryz.func89 rfl (by decide)
theorem Bi:CF Tryz.prog 90:=bz Tryz.func90 rfl (by decide)
theorem Cp:CF Tryz.prog 91:=bz Tryz.func91 rfl (by decide)
theorem Bh:CF Tryz.prog 92:=bz Tryz.func92 rfl (by decide)
theorem Bg:CF Tryz.prog 93:=bz Tryz.func93 rfl (by decide)
theorem Co:CF Tryz.prog 94:=bz Tryz.func94 rfl (by decide)
theorem Cm:CF Tryz.prog 95:=bz Tryz.func95 rfl (by decide)
theorem Bf:CF Tryz.prog 96:=bz Tryz.func96 rfl (by decide)
theorem Be:CF Tryz.prog 97:=bz Tryz.func97 rfl (by decide)
theorem BL:CF Tryz.prog 102:=bz Tryz.func102 rfl (by decide)
theorem zq:CF Tryz.prog 103:=bz Tryz.func103 rfl (by decide)
theorem zp:CF Tryz.prog 104:=bz Tryz.func104 rfl (by decide)
theorem BK:CF Tryz.prog 107:=bz Tryz.func107 rfl (by decide)
theorem BJ:CF Tryz.prog 108:=bz Tryz.func108 rfl (by decide)
theorem BI:CF Tryz.prog 109:=bz Tryz.func109 rfl (by decide)
theorem wR:CF Tryz.prog 110:=bz Tryz.func110 rfl (by decide)
theorem uv:CF Tryz.prog 111:=bz Tryz.func111 rfl (by decide)
theorem zo:CF Tryz.prog 112:=bz Tryz.func112 rfl (by decide)
theorem BH:CF Tryz.prog 113:=bz Tryz.func113 rfl (by decide)
theorem pF:CF Tryz.prog 114:=bz Tryz.func114 rfl (by decide)
theorem zn:CF Tryz.prog 115:=bz Tryz.func115 rfl (by decide)
theorem wQ:CF Tryz.prog 116:=bz Tryz.func116 rfl (by decide)
theorem zm:CF Tryz.prog 117:=bz Tryz.func117 rfl (by decide)
theorem BG:CF Tryz.prog 118:=bz Tryz.func118 rfl (by decide)
theorem BF:CF Tryz.prog 119:=bz Tryz.func119 rfl (by decide)
theorem uu:CF Tryz.prog 120:=bz Tryz.func120 rfl (by decide)
theorem BD:CF Tryz.prog 121:=bz Tryz.func121 rfl (by decide)
theorem zl:CF Tryz.prog 122:=bz Tryz.func122 rfl (by decide)
theorem BC:CF Tryz.prog 123:=bz Tryz.func123 rfl (by decide)
theorem zk:CF Tryz.prog 124:=bz Tryz.func124 rfl (by decide)
theorem BB:CF Tryz.prog 125:=bz Tryz.func125 rfl (by decide)
theorem BA:CF Tryz.prog 126:=bz Tryz.func126 rfl (by decide)
open Go.ChangeShapes Go.WideShapes Go.ChangeAt
def li (x:bL):Prop:=(fun s=>s.length≤maxLen) x.Name∧(uE .i64) x.Kind∧(fun s=>s.length≤maxLen) x.Pattern∧(fun s=>s.length≤maxLen) x.Sample∧(fun s=>s.length≤maxLen) x.Close
set_option maxRecDepth 100000 in
theorem mM:ik Tryz.prog 60 dN li:=by
  intro H enc w f cs x h
  obtain ⟨_,_,_,_,hl,hlen,hf⟩:=DataW.trod_struct DM h
  obtain ⟨e,l,r⟩:=dF (jA DC) hf hlen 0 rfl (o:=0) (s:=1) rfl (by kernel_rfl)
  obtain ⟨d,k,q⟩:=dF (fC DO) hf hlen 1 rfl (o:=1) (s:=1) rfl (by kernel_rfl)
  obtain ⟨c,j,p⟩:=dF (jA DC) hf hlen 2 rfl (o:=2) (s:=1) rfl (by kernel_rfl)
  obtain ⟨b,i,n⟩:=dF (jA DC) hf hlen 3 rfl (o:=3) (s:=1) rfl (by kernel_rfl)
  obtain ⟨a,g,m⟩:=dF (jA DC) hf hlen 4 rfl (o:=4) (s:=1) rfl (by kernel_rfl)
  have t:cs.length=5:=hl.trans (by kernel_rfl)
  refine ⟨⟨e,d,c,b,a⟩,⟨_,_,_,_,_,?_,l,k,j,i,g⟩,r,q,p,n,m⟩
  exact (pe cs 0 1).trans (congrArg (_++·) ((pe cs 1 1).trans (congrArg (_++·) ((pe cs 2 1).trans (congrArg (_++·) ((pe cs 3 1).trans (congrArg (_++·) (zY (o:=4) (s:=1) t))))))))
def ji (x:T_LexSpec):Prop:=(fun l=>(∀x∈l,li x)∧l.length≤maxLen) x.Defs∧(fun _=>True) x.Layout∧(uE .i64) x.Misspelling∧(uE .i64) x.Unclosed
set_option maxRecDepth 100000 in
theorem nP:ik Tryz.prog 24 cL ji:=by
  intro H enc w f cs x h
  obtain ⟨_,_,_,_,hl,hlen,hf⟩:=DataW.trod_struct DJ h
  obtain ⟨d,j,n⟩:=dF (qY DL (by kernel_rfl) (by decide) mM) hf hlen 0 rfl (o:=0) (s:=1) rfl (by kernel_rfl)
  obtain ⟨c,i,m⟩:=dF (sF Eb) hf hlen 1 rfl (o:=1) (s:=1) rfl (by kernel_rfl)
  obtain ⟨b,g,l⟩:=dF (fC DO) hf hlen 2 rfl (o:=2) (s:=1) rfl (by kernel_rfl)
  obtain ⟨a,e,k⟩:=dF (fC DO) hf hlen 3 rfl (o:=3) (s:=1) rfl (by kernel_rfl)
  have p:cs.length=4:=hl.trans (by kernel_rfl)
  refine ⟨⟨d,c,b,a⟩,⟨_,_,_,_,?_,j,i,g,e⟩,n,m,l,k⟩
  exact (pe cs 0 1).trans (congrArg (_++·) ((pe cs 1 1).trans (congrArg (_++·) ((pe cs 2 1).trans (congrArg (_++·) (zY (o:=3) (s:=1) p))))))
def hY (x:aQ):Prop:=(uE .i64) x.Kind∧(uE .i64) x.At∧(fun s=>s.length≤maxLen) x.Text∧(uE .i64) x.Look
end Go.Proofs.YtlcdifnmkafcfaaGreat
