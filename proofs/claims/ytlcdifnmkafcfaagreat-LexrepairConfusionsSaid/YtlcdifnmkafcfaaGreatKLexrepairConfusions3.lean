/- Part 3. -/
import Derived.Test.YtlcdifnmkafcfaaGreatProg
import Derived.Test.YtlcdifnmkafcfaaGreatRows
import Derived.Test.YtlcdifnmkafcfaaGreatKLexrepairConfusions2
set_option linter.unusedVariables false
set_option linter.unusedSimpArgs false
set_option maxRecDepth 100000
namespace Go.Proofs.YtlcdifnmkafcfaaGreat
open Go.Lx Go.RowKit
structure bM where
  Name:Str
  Kind:Int
  Pattern:Str
  Sample:Str
  Close:Str
instance:DecidableEq bM:=fun a b=>if h:a.Name=b.Name∧a.Kind=b.Kind∧a.Pattern=b.Pattern∧a.Sample=b.Sample∧a.Close=b.Close then isTrue (by cases a; cases b; simp_all) else isFalse (by intro e; subst e; simp at h)
structure T_LexSpec where
  Defs:(List bM)
  Layout:Bool
  Misspelling:Int
  Unclosed:Int
instance:DecidableEq T_LexSpec:=fun a b=>if h:a.Defs=b.Defs∧a.Layout=b.Layout∧a.Misspelling=b.Misspelling∧a.Unclosed=b.Unclosed then isTrue (by cases a; cases b; simp_all) else isFalse (by intro e; subst e; simp at h)
structure aF where
  s:Str
  atv:Int
  bad:Bool
instance:DecidableEq aF:=fun a b=>if h:a.s=b.s∧a.atv=b.atv∧a.bad=b.bad then isTrue (by cases a; cases b; simp_all) else isFalse (by intro e; subst e; simp at h)
structure T_Regex where
  Kind:Int
  Set:(aA 4)
  Kids:(List T_Regex)
instance:Inhabited T_Regex:=⟨⟨default,aA.zero 4,[]⟩⟩
structure bO where
  sets:(List (aA 4))
  pairs:(List (aA 2))
instance:DecidableEq bO:=fun a b=>if h:a.sets=b.sets∧a.pairs=b.pairs then isTrue (by cases a; cases b; simp_all) else isFalse (by intro e; subst e; simp at h)
structure cx where
  nullable:Bool
  first:(List Int)
  last:(List Int)
instance:DecidableEq cx:=fun a b=>if h:a.nullable=b.nullable∧a.first=b.first∧a.last=b.last then isTrue (by cases a; cases b; simp_all) else isFalse (by intro e; subst e; simp at h)
structure dm where
  From:Int
  To:Int
  Epsilon:Bool
  Set:(aA 4)
instance:DecidableEq dm:=fun a b=>if h:a.From=b.From∧a.To=b.To∧a.Epsilon=b.Epsilon∧a.Set=b.Set then isTrue (by cases a; cases b; simp_all) else isFalse (by intro e; subst e; simp at h)
structure T_NFA where
  States:Int
  Start:Int
  Arcs:(List dm)
  Accept:(List Int)
instance:DecidableEq T_NFA:=fun a b=>if h:a.States=b.States∧a.Start=b.Start∧a.Arcs=b.Arcs∧a.Accept=b.Accept then isTrue (by cases a; cases b; simp_all) else isFalse (by intro e; subst e; simp at h)
structure T_DFA where
  Class:(List Int)
  Next:(List (List Int))
  Accept:(List Int)
instance:DecidableEq T_DFA:=fun a b=>if h:a.Class=b.Class∧a.Next=b.Next∧a.Accept=b.Accept then isTrue (by cases a; cases b; simp_all) else isFalse (by intro e; subst e; simp at h)
structure T_Token where
  Kind:Int
  At:Int
  Text:Str
  Look:Int
instance:DecidableEq T_Token:=fun a b=>if h:a.Kind=b.Kind∧a.At=b.At∧a.Text=b.Text∧a.Look=b.Look then isTrue (by cases a; cases b; simp_all) else isFalse (by intro e; subst e; simp at h)
structure aC where
  s:Str
  atv:Int
instance:DecidableEq aC:=fun a b=>if h:a.s=b.s∧a.atv=b.atv then isTrue (by cases a; cases b; simp_all) else isFalse (by intro e; subst e; simp at h)
structure bh where
  Kind:Int
  Price:Int
instance:DecidableEq bh:=fun a b=>if h:a.Kind=b.Kind∧a.Price=b.Price then isTrue (by cases a; cases b; simp_all) else isFalse (by intro e; subst e; simp at h)
def dO:Ty bM:=⟨5,fun g cs x=>∃i c1 c2 c3 h,cs=i++(c1++(c2++(c3++(h))))∧cW.rel g i x.Name∧(aq .i64).rel g c1 x.Kind∧cW.rel g c2 x.Pattern∧cW.rel g c3 x.Sample∧cW.rel g h x.Close,
  fun hg ⟨i,c1,c2,c3,h,e,f,d,c,b,a⟩=>⟨i,c1,c2,c3,h,e,cW.mono hg f,(aq .i64).mono hg d,cW.mono hg c,cW.mono hg b,cW.mono hg a⟩,
  fun ⟨_,_,_,_,_,e,f,d,c,b,a⟩=>by rw [e]; simp [cW.len f,(aq .i64).len d,cW.len c,cW.len b,cW.len a,aq,cW],
  fun ⟨_,_,_,_,_,e,f,d,c,b,a⟩ v hv=>by
    subst e; simp only [List.mem_append] at hv; rcases hv with hv|hv|hv|hv|hv
    · exact cW.one f v hv
    · exact (aq .i64).one d v hv
    · exact cW.one c v hv
    · exact cW.one b v hv
    · exact cW.one a v hv⟩
def cO:Ty T_LexSpec:=⟨4,fun g cs x=>∃f c1 c2 c3,cs=f++(c1++(c2++(c3)))∧(cw dO).rel g f x.Defs∧aY.rel g c1 x.Layout∧(aq .i64).rel g c2 x.Misspelling∧(aq .i64).rel g c3 x.Unclosed,
  fun hg ⟨f,c1,c2,c3,e,d,c,b,a⟩=>⟨f,c1,c2,c3,e,(cw dO).mono hg d,aY.mono hg c,(aq .i64).mono hg b,(aq .i64).mono hg a⟩,
  fun ⟨_,_,_,_,e,d,c,b,a⟩=>by rw [e]; simp [(cw dO).len d,aY.len c,(aq .i64).len b,(aq .i64).len a,aY,aq,cw],
  fun ⟨_,_,_,_,e,d,c,b,a⟩ v hv=>by
    subst e; simp only [List.mem_append] at hv; rcases hv with hv|hv|hv|hv
    · exact (cw dO).one d v hv
    · exact aY.one c v hv
    · exact (aq .i64).one b v hv
    · exact (aq .i64).one a v hv⟩
def oV (τ:Ty T_Regex):Ty T_Regex:=⟨6,fun g cs x=>∃d c1 c2,cs=d++(c1++(c2))∧(aq .i64).rel g d x.Kind∧(bE 4 .u64).rel g c1 x.Set∧(cw τ).rel g c2 x.Kids,
  fun hg ⟨d,c1,c2,e,c,b,a⟩=>⟨d,c1,c2,e,(aq .i64).mono hg c,(bE 4 .u64).mono hg b,(cw τ).mono hg a⟩,
  fun ⟨_,_,_,e,c,b,a⟩=>by rw [e]; simp [(aq .i64).len c,(bE 4 .u64).len b,(cw τ).len a,aq,cw,bE],
  fun ⟨_,_,_,e,c,b,a⟩ v hv=>by
    subst e; simp only [List.mem_append] at hv; rcases hv with hv|hv|hv
    · exact (aq .i64).one c v hv
    · exact (bE 4 .u64).one b v hv
    · exact (cw τ).one a v hv⟩
def ec:ee T_Regex:=⟨6,oV,fun _=>rfl,fun ha hb h _ _ hh=>by obtain ⟨c0,c1,c2,e,h0,h1,h2⟩:=hh; exact ⟨c0,c1,c2,e,h0,h1,tz (ha.trans hb.symm) h h2⟩⟩
def aD:Ty T_Regex:=⟨6,fun g cs x=>∃n,(ec.iter n).rel g cs x,fun hg h=>ec.fix_mono hg h,fun h=>ec.fix_len h,fun h=>ec.fix_one h⟩
theorem ae {g:Hp} {cs:List Value} {x:T_Regex}:aD.rel g cs x↔(oV aD).rel g cs x:=by
  constructor
  · rintro ⟨n,h⟩
    cases n with
    | zero=>exact h.elim
    | succ n=>exact ec.mono (τ:=ec.iter n) (τ':=aD) (ec.iter_sz n) rfl (fun _ _ h=>⟨n,h⟩) _ _ h
  · rintro ⟨f,c1,c2,e,d,c,a⟩
    obtain ⟨b,a⟩:=ec.sup (fix:=aD) (fun _ _ _ h=>h) rfl a
    exact ⟨b+1,f,c1,c2,e,d,c,ec.leSl (Nat.le_refl _) a⟩
def fa:Ty cx:=⟨3,fun g cs x=>∃d c1 c2,cs=d++(c1++(c2))∧aY.rel g d x.nullable∧(cw (aq .i64)).rel g c1 x.first∧(cw (aq .i64)).rel g c2 x.last,
  fun hg ⟨d,c1,c2,e,c,b,a⟩=>⟨d,c1,c2,e,aY.mono hg c,(cw (aq .i64)).mono hg b,(cw (aq .i64)).mono hg a⟩,
  fun ⟨_,_,_,e,c,b,a⟩=>by rw [e]; simp [aY.len c,(cw (aq .i64)).len b,(cw (aq .i64)).len a,aY,cw],
  fun ⟨_,_,_,e,c,b,a⟩ v hv=>by
    subst e; simp only [List.mem_append] at hv; rcases hv with hv|hv|hv
    · exact aY.one c v hv
    · exact (cw (aq .i64)).one b v hv
    · exact (cw (aq .i64)).one a v hv⟩
def dg:Ty dm:=⟨7,fun g cs x=>∃f c1 c2 c3,cs=f++(c1++(c2++(c3)))∧(aq .i64).rel g f x.From∧(aq .i64).rel g c1 x.To∧aY.rel g c2 x.Epsilon∧(bE 4 .u64).rel g c3 x.Set,
  fun hg ⟨f,c1,c2,c3,e,d,c,b,a⟩=>⟨f,c1,c2,c3,e,(aq .i64).mono hg d,(aq .i64).mono hg c,aY.mono hg b,(bE 4 .u64).mono hg a⟩,
  fun ⟨_,_,_,_,e,d,c,b,a⟩=>by rw [e]; simp [(aq .i64).len d,(aq .i64).len c,aY.len b,(bE 4 .u64).len a,aY,aq,bE],
  fun ⟨_,_,_,_,e,d,c,b,a⟩ v hv=>by
    subst e; simp only [List.mem_append] at hv; rcases hv with hv|hv|hv|hv
    · exact (aq .i64).one d v hv
    · exact (aq .i64).one c v hv
    · exact aY.one b v hv
    · exact (bE 4 .u64).one a v hv⟩
def lA:Ty T_NFA:=⟨4,fun g cs x=>∃f c1 c2 c3,cs=f++(c1++(c2++(c3)))∧(aq .i64).rel g f x.States∧(aq .i64).rel g c1 x.Start∧(cw dg).rel g c2 x.Arcs∧(cw (aq .i64)).rel g c3 x.Accept,
  fun hg ⟨f,c1,c2,c3,e,d,c,b,a⟩=>⟨f,c1,c2,c3,e,(aq .i64).mono hg d,(aq .i64).mono hg c,(cw dg).mono hg b,(cw (aq .i64)).mono hg a⟩,
  fun ⟨_,_,_,_,e,d,c,b,a⟩=>by rw [e]; simp [(aq .i64).len d,(aq .i64).len c,(cw dg).len b,(cw (aq .i64)).len a,aq,cw],
  fun ⟨_,_,_,_,e,d,c,b,a⟩ v hv=>by
    subst e; simp only [List.mem_append] at hv; rcases hv with hv|hv|hv|hv
    · exact (aq .i64).one d v hv
    · exact (aq .i64).one c v hv
    · exact (cw dg).one b v hv
    · exact (cw (aq .i64)).one a v hv⟩
def kh:Ty T_DFA:=⟨3,fun g cs x=>∃d c1 c2,cs=d++(c1++(c2))∧(cw (aq .i64)).rel g d x.Class∧(cw (cw (aq .i64))).rel g c1 x.Next∧(cw (aq .i64)).rel g c2 x.Accept,
  fun hg ⟨d,c1,c2,e,c,b,a⟩=>⟨d,c1,c2,e,(cw (aq .i64)).mono hg c,(cw (cw (aq .i64))).mono hg b,(cw (aq .i64)).mono hg a⟩,
  fun ⟨_,_,_,e,c,b,a⟩=>by rw [e]; simp [(cw (aq .i64)).len c,(cw (cw (aq .i64))).len b,(cw (aq .i64)).len a,cw],
  fun ⟨_,_,_,e,c,b,a⟩ v hv=>by
    subst e; simp only [List.mem_append] at hv; rcases hv with hv|hv|hv
    · exact (cw (aq .i64)).one c v hv
    · exact (cw (cw (aq .i64))).one b v hv
    · exact (cw (aq .i64)).one a v hv⟩
def bY:Ty T_Token:=⟨4,fun g cs x=>∃f c1 c2 c3,cs=f++(c1++(c2++(c3)))∧(aq .i64).rel g f x.Kind∧(aq .i64).rel g c1 x.At∧cW.rel g c2 x.Text∧(aq .i64).rel g c3 x.Look,
  fun hg ⟨f,c1,c2,c3,e,d,c,b,a⟩=>⟨f,c1,c2,c3,e,(aq .i64).mono hg d,(aq .i64).mono hg c,cW.mono hg b,(aq .i64).mono hg a⟩,
  fun ⟨_,_,_,_,e,d,c,b,a⟩=>by rw [e]; simp [(aq .i64).len d,(aq .i64).len c,cW.len b,(aq .i64).len a,aq,cW],
  fun ⟨_,_,_,_,e,d,c,b,a⟩ v hv=>by
    subst e; simp only [List.mem_append] at hv; rcases hv with hv|hv|hv|hv
    · exact (aq .i64).one d v hv
    · exact (aq .i64).one c v hv
    · exact cW.one b v hv
    · exact (aq .i64).one a v hv⟩
def aZ:Ty bh:=⟨2,fun g cs x=>∃c c1,cs=c++(c1)∧(aq .i64).rel g c x.Kind∧(aq .i64).rel g c1 x.Price,
  fun hg ⟨c,c1,e,b,a⟩=>⟨c,c1,e,(aq .i64).mono hg b,(aq .i64).mono hg a⟩,
  fun ⟨_,_,e,b,a⟩=>by rw [e]; simp [(aq .i64).len b,(aq .i64).len a,aq],
  fun ⟨_,_,e,b,a⟩ v hv=>by
    subst e; simp only [List.mem_append] at hv; rcases hv with hv|hv
    · exact (aq .i64).one b v hv
    · exact (aq .i64).one a v hv⟩
def M.j8 (b:T_LexSpec) (g:Int) (d:Int):Option Bool:=
 bif (decide (g<(b.Defs.length:Int))) then
  some false
 else
  bk (
   bg (fun (c:Int)=>
    bif (decide (c<(b.Defs.length:Int))) then
     (bq b.Defs c).bind fun a=>
     (
      bif (decide (40<(a.Name.length:Int))) then
       some true
      else
       bif (decide (d<(a.Pattern.length:Int))) then
        some true
       else
        bif (decide (d<(a.Sample.length:Int))) then
         some true
        else
         some (decide (d<(a.Close.length:Int)))).bind fun (e:Bool)=>
     bif e then
      some (.stop (.stop false))
     else
      (bV .i64 (c+1)).bind fun f=>
      some (.next f)
    else
     some (.stop (.next ()))) aU (0:Int)) fun _=>
  some true
def M.a0 (p1:aF):Option Int:=
 bif (decide ((p1.s.length:Int)≤p1.atv)) then
  some (-1)
 else
  (eh p1.s p1.atv).bind fun c1=>
  some (IntKind.i64.wrap c1)
def M.h1 (a:Int):Option Bool:=
 (
  bif (decide (48≤a)) then
   bif (decide (a≤57)) then
    some true
   else
    bif (decide (97≤a)) then
     bif (decide (a≤122)) then
      some true
     else
      bif (decide (65≤a)) then
       some (decide (a≤90))
      else
       some false
    else
     bif (decide (65≤a)) then
      some (decide (a≤90))
     else
      some false
  else
   bif (decide (97≤a)) then
    bif (decide (a≤122)) then
     some true
    else
     bif (decide (65≤a)) then
      some (decide (a≤90))
     else
      some false
   else
    bif (decide (65≤a)) then
     some (decide (a≤90))
    else
     some false).bind fun (b:Bool)=>
 some b
def M.i0 (b:Int) (g:Bool):Option Bool:=
 (
  bif (decide (b<32)) then
   some true
  else
   some (decide (126<b))).bind fun (d:Bool)=>
 bif d then
  some false
 else
  (
   bif g then
    some ([93,92,45]:Str)
   else
    some ([40,41,91,93,124,42,43,63,46,92]:Str)).bind fun (c:Str)=>
  bk (
   bg (fun (a:Int)=>
    bif (decide (a<(c.length:Int))) then
     (eh c a).bind fun f=>
     bif ((IntKind.i64.wrap f) == b) then
      some (.stop (.stop false))
     else
      (bV .i64 (a+1)).bind fun e=>
      some (.next e)
    else
     some (.stop (.next ()))) aU (0:Int)) fun _=>
  some true
def M.a7 (a:aF) (i:Bool):Option (Int×aF):=
 (M.a0 a).bind fun d=>
 bif (d == 92) then
  (bV .i64 (a.atv+1)).bind fun c=>
  (M.a0 (aF.mk a.s c a.bad)).bind fun b=>
  bif (b == 110) then
   (bV .i64 (c+1)).bind fun f=>
   some (10,(aF.mk a.s f a.bad))
  else
   bif (b == 116) then
    (bV .i64 (c+1)).bind fun t3=>
    some (9,(aF.mk a.s t3 a.bad))
   else
    (
     bif (decide (32≤b)) then
      bif (decide (b≤126)) then
       (M.h1 b).bind fun h=>
       some (!h)
      else
       some false
     else
      some false).bind fun (e:Bool)=>
    bif e then
     (bV .i64 (c+1)).bind fun t4=>
     some (b,(aF.mk a.s t4 a.bad))
    else
     some (0,(aF.mk a.s c true))
 else
  (M.i0 d i).bind fun g=>
  bif (!g) then
   some (0,(aF.mk a.s a.atv true))
  else
   (bV .i64 (a.atv+1)).bind fun t5=>
   some (d,(aF.mk a.s t5 a.bad))
def M.e6 (s1:(aA 4)) (b1:Int):Option (aA 4):=
 (mD .i64 b1 64).bind fun t1=>
 (fU s1 t1).bind fun c1=>
 (jM b1 64).bind fun t2=>
 (sk .u64 1 (IntKind.u64.wrap t2)).bind fun t3=>
 (ml s1 t1 (bits .or .u64 c1 t3)).bind fun s2=>
 some s2
def M.k0 (s1:(aA 4)):Option (aA 4):=
 (
  bg (fun (st9:(aA 4)×Int)=>match st9 with
  | (s11,i5)=>
   bif (decide (i5<4)) then
    (fU s11 i5).bind fun c6=>
    (ml s11 i5 (ky .u64 c6)).bind fun s14=>
    (bV .i64 (i5+1)).bind fun t6=>
    some (.next (s14,t6))
   else
    some (.stop s11)) aU (s1,(0:Int))).bind fun (s8:(aA 4))=>
 some s8
def M.c1 (c:aF):Option (T_Regex×aF):=
 (M.a0 c).bind fun q=>
 (
  bif (q == 94) then
   (bV .i64 (c.atv+1)).bind fun t3=>
   some t3
  else
   some c.atv).bind fun (D:Int)=>
 (
  bg (fun (i:Str×Int×Bool×(aA 4)×Bool)=>match i with
  | (e,h,d,j,r)=>
   (
    bif (!d) then
     bif r then
      some true
     else
      (M.a0 (aF.mk e h d)).bind fun I=>
      some (I != 93)
    else
     some false).bind fun (z:Bool)=>
   bif z then
    (M.a7 (aF.mk e h d) true).bind fun a=>
    (
     (
      bif (!a.2.bad) then
       (M.a0 a.2).bind fun H=>
       some (H == 45)
      else
       some false).bind fun (w:Bool)=>
     bif w then
      (bV .i64 (a.2.atv+1)).bind fun o=>
      (M.a7 (aF.mk a.2.s o a.2.bad) true).bind fun b=>
      (
       bif (!b.2.bad) then
        some (decide (b.1<a.1))
       else
        some false).bind fun (v:Bool)=>
      bif v then
       some (b.2.s,o,true,b.1)
      else
       some (b.2.s,b.2.atv,b.2.bad,b.1)
     else
      some (a.2.s,a.2.atv,a.2.bad,a.1)).bind fun (y,B,n,x)=>
    bg (fun (i:(aA 4)×Int)=>match i with
    | (m,g)=>
     (
      bif (!n) then
       some (decide (g≤x))
      else
       some false).bind fun (u:Bool)=>
     bif u then
      (M.e6 m g).bind fun G=>
      (bV .i64 (g+1)).bind fun t46=>
      some (.next (G,t46))
     else
      some (.stop (.next (y,B,n,m,false)))) aU (j,a.1)
   else
    some (.stop (e,h,d,j))) aU (c.s,D,c.bad,(aA.zero 4),true)).bind fun (l,p,f,k)=>
 bif f then
  some ((T_Regex.mk 0 (aA.zero 4) []),(aF.mk l p f))
 else
  (bV .i64 (p+1)).bind fun A=>
  (
   bif (q == 94) then
    (M.k0 k).bind fun F=>
    some F
   else
    some k).bind fun (t:(aA 4))=>
  some ((T_Regex.mk 3 t []),(aF.mk l A f))
def M.k3:Option (aA 4):=
 (M.e6 (aA.zero 4) 10).bind fun rv1=>
 (M.k0 rv1).bind fun rv2=>
 some rv2
def M.j9 (b1:Int):Option T_Regex:=
 (M.e6 (aA.zero 4) b1).bind fun rv1=>
 some (T_Regex.mk 3 rv1 [])
def M.h3 (rv1:T_Regex):Option T_Regex:=
 some (T_Regex.mk 6 (aA.zero 4) [rv1])
mutual
def M.c8:Nat→aF→Option (T_Regex×aF)
| 0,_=>none
| fl+1,b=>
 (M.a0 b).bind fun a=>
 bif (a == 40) then
  (bV .i64 (b.atv+1)).bind fun H=>
  (M.b4 fl (aF.mk b.s H b.bad)).bind fun c=>
  bif c.2.bad then
   some (c.1,c.2)
  else
   (M.a0 c.2).bind fun R=>
   bif (R != 41) then
    some (c.1,(aF.mk c.2.s c.2.atv true))
   else
    (bV .i64 (c.2.atv+1)).bind fun G=>
    some (c.1,(aF.mk c.2.s G c.2.bad))
 else
  bif (a == 91) then
   (bV .i64 (b.atv+1)).bind fun t3=>
   (M.c1 (aF.mk b.s t3 b.bad)).bind fun D=>
   some (D.1,D.2)
  else
   bif (a == 46) then
    (bV .i64 (b.atv+1)).bind fun t4=>
    (M.k3).bind fun P=>
    some ((T_Regex.mk 3 P []),(aF.mk b.s t4 b.bad))
   else
    (M.a7 b false).bind fun B=>
    (M.j9 B.1).bind fun N=>
    some (N,B.2)
def M.b9:Nat→aF→Option (T_Regex×aF)
| 0,_=>none
| fl+1,b=>
 (M.c8 fl b).bind fun a=>
 bk (
  bg (fun (n:Int×Int×(aA 4)×(List T_Regex))=>match n with
  | (q,j,i,h)=>
   bif (!a.2.bad) then
    bk (
     (M.a0 (aF.mk a.2.s q a.2.bad)).bind fun v=>
     bif (v == 42) then
      (M.h3 (T_Regex.mk j i h)).bind fun u=>
      some (.next (u.Kind,u.Set,u.Kids))
     else
      bif (v == 43) then
       (M.h3 (T_Regex.mk j i h)).bind fun I=>
       some (.next ((4:Int),(aA.zero 4),([(T_Regex.mk j i h),I]:(List T_Regex))))
      else
       bif (v == 63) then
        some (.next ((5:Int),(aA.zero 4),([(T_Regex.mk j i h),(T_Regex.mk 2 (aA.zero 4) [])]:(List T_Regex))))
       else
        some (.stop (.stop (.stop ((T_Regex.mk j i h),(aF.mk a.2.s q a.2.bad)))))) fun (L,K,J)=>
    (bV .i64 (q+1)).bind fun t=>
    some (.next (t,L,K,J))
   else
    some (.stop (.next (j,i,h,q)))) aU (a.2.atv,a.1.Kind,a.1.Set,a.1.Kids)) fun (Q,y,x,w)=>
 some ((T_Regex.mk Q y x),(aF.mk a.2.s w a.2.bad))
def M.b1:Nat→aF→Option (T_Regex×aF)
| 0,_=>none
| fl+1,b=>
 (
  bg (fun (n:Str×Int×Bool×(List T_Regex))=>match n with
  | (f,e,d,m)=>
   (
    bif (!d) then
     (M.a0 (aF.mk f e d)).bind fun y=>
     bif (y != (-1)) then
      (M.a0 (aF.mk f e d)).bind fun x=>
      bif (x != 124) then
       (M.a0 (aF.mk f e d)).bind fun w=>
       some (w != 41)
      else
       some false
     else
      some false
    else
     some false).bind fun (r:Bool)=>
   bif r then
    (M.b9 fl (aF.mk f e d)).bind fun o=>
    (cP 64 m [o.1]).bind fun U=>
    some (.next (o.2.s,o.2.atv,o.2.bad,U))
   else
    some (.stop (m,f,e,d))) aU (b.s,b.atv,b.bad,([]:(List T_Regex)))).bind fun (g,z,l,k)=>
 bif ((g.length:Int) == 0) then
  some ((T_Regex.mk 2 (aA.zero 4) []),(aF.mk z l k))
 else
  bif ((g.length:Int) == 1) then
   (bq g 0).bind fun A=>
   some (A,(aF.mk z l k))
  else
   some ((T_Regex.mk 4 (aA.zero 4) g),(aF.mk z l k))
def M.b4:Nat→aF→Option (T_Regex×aF)
| 0,_=>none
| fl+1,b=>
 (M.b1 fl b).bind fun a=>
 (
  bg (fun (n:Str×Int×Bool×(List T_Regex))=>match n with
  | (f,e,d,m)=>
   (
    bif (!d) then
     (M.a0 (aF.mk f e d)).bind fun S=>
     some (S == 124)
    else
     some false).bind fun (r:Bool)=>
   bif r then
    (bV .i64 (e+1)).bind fun t=>
    (M.b1 fl (aF.mk f t d)).bind fun p=>
    (cP 64 m [p.1]).bind fun T=>
    some (.next (p.2.s,p.2.atv,p.2.bad,T))
   else
    some (.stop (m,f,e,d))) aU (a.2.s,a.2.atv,a.2.bad,([a.1]:(List T_Regex)))).bind fun (g,l,k,F)=>
 bif ((g.length:Int) == 1) then
  (bq g 0).bind fun A=>
  some (A,(aF.mk l k F))
 else
  some ((T_Regex.mk 5 (aA.zero 4) g),(aF.mk l k F))
end
def M.d4:Nat→T_Regex→Int→Option Bool
| 0,_,_=>none
| fl+1,a,c=>
 (
  bif (decide (30≤c)) then
   some true
  else
   bif (a.Kind != 3) then
    some (a.Set != (aA.zero 4))
   else
    some false).bind fun (g:Bool)=>
 bif g then
  some false
 else
  bk (
   (
    bif (a.Kind == 1) then
     some (a.Kind == 1)
    else
     some (a.Kind == 2)).bind fun (f:Bool)=>
   bif f then
    some (.stop ((a.Kids.length:Int) == 0))
   else
    bif (a.Kind == 3) then
     (
      bif ((a.Kids.length:Int) == 0) then
       some (a.Set != (aA.zero 4))
      else
       some false).bind fun (e:Bool)=>
     some (.stop e)
    else
     (
      bif (a.Kind == 4) then
       some (a.Kind == 4)
      else
       some (a.Kind == 5)).bind fun (d:Bool)=>
     bif d then
      bif (decide ((a.Kids.length:Int)<2)) then
       some (.stop false)
      else
       some (.next ())
     else
      bif (a.Kind == 6) then
       bif ((a.Kids.length:Int) != 1) then
        some (.stop false)
       else
        some (.next ())
      else
       some (.stop false)) fun _=>
  bk (
   bg (fun (b:Int)=>
    bif (decide (b<(a.Kids.length:Int))) then
     (bq a.Kids b).bind fun k=>
     (bV .i64 (c+1)).bind fun i=>
     (M.d4 fl k i).bind fun j=>
     bif (!j) then
      some (.stop (.stop false))
     else
      (bV .i64 (b+1)).bind fun h=>
      some (.next h)
    else
     some (.stop (.next ()))) aU (0:Int)) fun _=>
  some true
def M.f6 (rv1:T_Regex):Option Bool:=
 (M.d4 aU rv1 0).bind fun rv2=>
 some rv2
def M.f7 (b:Str):Option (T_Regex×Int×Int):=
 (M.b4 aU (aF.mk b 0 false)).bind fun a=>
 (
  bif a.2.bad then
   some true
  else
   some (decide (a.2.atv<(b.length:Int)))).bind fun (c:Bool)=>
 bif c then
  some ((T_Regex.mk 0 (aA.zero 4) []),a.2.atv,3)
 else
  (M.f6 a.1).bind fun d=>
  bif (!d) then
   some ((T_Regex.mk 0 (aA.zero 4) []),0,11)
  else
   some (a.1,0,0)
def M.c4 (d1:bM):Option T_Regex:=
 (M.f7 d1.Pattern).bind fun rv1=>
 some rv1.1
def M.g0:Nat→T_Regex→Option Int
| 0,_=>none
| fl+1,b=>
 (
  bg (fun (f:Int×Int)=>match f with
  | (c,a)=>
   bif (decide (a<(b.Kids.length:Int))) then
    (bq b.Kids a).bind fun i=>
    (M.g0 fl i).bind fun g=>
    (bV .i64 (a+1)).bind fun e=>
    some (.next ((sO c g),e))
   else
    some (.stop c)) aU ((0:Int),(0:Int))).bind fun (h:Int)=>
 (bV .i64 (h+1)).bind fun d=>
 some d
def M.g2 (b1:Int):Option Bool:=
 (
  bif (decide (97≤b1)) then
   bif (decide (b1≤122)) then
    some true
   else
    bif (decide (65≤b1)) then
     some (decide (b1≤90))
    else
     some false
  else
   bif (decide (65≤b1)) then
    some (decide (b1≤90))
   else
    some false).bind fun (xv1:Bool)=>
 some xv1
def M.i9 (a:Str):Option Bool:=
 (
  bif (decide ((a.length:Int)<1)) then
   some true
  else
   bif (decide (24<(a.length:Int))) then
    some true
   else
    (eh a 0).bind fun c2=>
    (M.g2 c2).bind fun g=>
    some (!g)).bind fun (e:Bool)=>
 bif e then
  some false
 else
  bk (
   bg (fun (c:Int)=>
    bif (decide (c<(a.length:Int))) then
     (
      (eh a c).bind fun b=>
      (M.g2 b).bind fun h=>
      bif (!h) then
       bif (decide (48≤b)) then
        bif (!(decide (b≤57))) then
         some (b != 95)
        else
         some false
       else
        bif (!false) then
         some (b != 95)
        else
         some false
      else
       some false).bind fun (d:Bool)=>
     bif d then
      some (.stop (.stop false))
     else
      (bV .i64 (c+1)).bind fun f=>
      some (.next f)
    else
     some (.stop (.next ()))) aU (0:Int)) fun _=>
  some true
def M.i7 (s1:(aA 4)) (b1:Int):Option Bool:=
 (mD .i64 b1 64).bind fun t1=>
 (fU s1 t1).bind fun c1=>
 (jM b1 64).bind fun t2=>
 (sj .u64 c1 (IntKind.u64.wrap t2)).bind fun t3=>
 some ((bits .and .u64 t3 1) == 1)
def M.d9:Nat→T_Regex→Str→(List Bool)→Option (List Bool)
| 0,_,_,_=>none
| fl+1,b,e,h=>
 (bV .i64 ((e.length:Int)+1)).bind fun L=>
 (mE 1 L (false:Bool)).bind fun f=>
 (
  bif (b.Kind == 2) then
   some (gm f h)
  else
   bif (b.Kind == 3) then
    bg (fun (a:(List Bool)×Int)=>match a with
    | (p,i)=>
     bif (decide (i<(e.length:Int))) then
      (bV .i64 (i+1)).bind fun j=>
      (bq h i).bind fun a1=>
      bif a1 then
       (eh e i).bind fun c6=>
       (M.i7 b.Set (IntKind.i64.wrap c6)).bind fun P=>
       (cK p j P).bind fun w=>
       some (.next (w,j))
      else
       (cK p j false).bind fun v=>
       some (.next (v,j))
     else
      some (.stop p)) aU (f,(0:Int))
   else
    bif (b.Kind == 4) then
     bg (fun (a:(List Bool)×Int)=>match a with
     | (q,m)=>
      bif (decide (m<(b.Kids.length:Int))) then
       (bq b.Kids m).bind fun a0=>
       (M.d9 fl a0 e q).bind fun N=>
       (bV .i64 (m+1)).bind fun F=>
       some (.next (N,F))
      else
       some (.stop q)) aU ((gm f h),(0:Int))
    else
     bif (b.Kind == 5) then
      bg (fun (a:(List Bool)×Int)=>match a with
      | (u,l)=>
       bif (decide (l<(b.Kids.length:Int))) then
        (
         (bq b.Kids l).bind fun Y=>
         (M.d9 fl Y e h).bind fun t=>
         bg (fun (a:(List Bool)×Int)=>match a with
         | (k,d)=>
          bif (decide (d<(t.length:Int))) then
           (bq k d).bind fun X=>
           bif X then
            (cK k d true).bind fun A=>
            (bV .i64 (d+1)).bind fun K=>
            some (.next (A,K))
           else
            (bq t d).bind fun W=>
            (cK k d W).bind fun z=>
            (bV .i64 (d+1)).bind fun J=>
            some (.next (z,J))
          else
           some (.stop k)) aU (u,(0:Int))).bind fun (Q:(List Bool))=>
        (bV .i64 (l+1)).bind fun I=>
        some (.next (Q,I))
       else
        some (.stop u)) aU (f,(0:Int))
     else
      bif (b.Kind == 6) then
       bg (fun (a:(List Bool)×Bool)=>match a with
       | (n,D)=>
        bif D then
         (bq b.Kids 0).bind fun V=>
         (M.d9 fl V e n).bind fun o=>
         bg (fun (a:(List Bool)×Bool×Int)=>match a with
         | (g,s,c)=>
          bif (decide (c<(o.length:Int))) then
           (
            bif s then
             some true
            else
             (bq o c).bind fun U=>
             bif U then
              (bq g c).bind fun T=>
              some (!T)
             else
              some false).bind fun (r:Bool)=>
           (bq g c).bind fun S=>
           bif S then
            (cK g c true).bind fun y=>
            (bV .i64 (c+1)).bind fun H=>
            some (.next (y,r,H))
           else
            (bq o c).bind fun R=>
            (cK g c R).bind fun x=>
            (bV .i64 (c+1)).bind fun G=>
            some (.next (x,r,G))
          else
           some (.stop (.next (g,s)))) aU (n,false,(0:Int))
        else
         some (.stop n)) aU ((gm f h),true)
      else
       some f).bind fun (B:(List Bool))=>
 some B
def M.f9 (rv1:T_Regex) (s1:Str):Option Bool:=
 (bV .i64 ((s1.length:Int)+1)).bind fun t1=>
 (mE 1 t1 (false:Bool)).bind fun fromv1=>
 (cK fromv1 0 true).bind fun fromv2=>
 (M.d9 aU rv1 s1 fromv2).bind fun l1=>
 (bq l1 (s1.length:Int)).bind fun e1=>
 some e1
def M.f8 (rv1:T_Regex):Option Bool:=
 (M.f9 rv1 []).bind fun rv2=>
 some rv2
def M.e7 (b:Str):Option Bool:=
 bk (
  bg (fun (a:Int)=>
   bif (decide (a<(b.length:Int))) then
    (
     (eh b a).bind fun c=>
     bif (decide (c<32)) then
      some true
     else
      some (decide (126<c))).bind fun (d:Bool)=>
    bif d then
     some (.stop (.stop false))
    else
     (bV .i64 (a+1)).bind fun e=>
     some (.next e)
   else
    some (.stop (.next ()))) aU (0:Int)) fun _=>
 some true
def M.e3 (e:T_LexSpec) (d:Int):Option Int:=
 (bq e.Defs d).bind fun a=>
 (
  (M.i9 a.Name).bind fun k=>
  bif (!k) then
   some true
  else
   bif (a.Name == [110,101,119,108,105,110,101]) then
    some true
   else
    bif (a.Name == [105,110,100,101,110,116]) then
     some true
    else
     some (a.Name == [100,101,100,101,110,116])).bind fun (g:Bool)=>
 bif g then
  some 4
 else
  bk (
   bg (fun (b:Int)=>
    bif (decide (b<d)) then
     (bq e.Defs b).bind fun l=>
     bif (l.Name == a.Name) then
      some (.stop (.stop 5))
     else
      (bV .i64 (b+1)).bind fun h=>
      some (.next h)
    else
     some (.stop (.next ()))) aU (0:Int)) fun _=>
  (
   bif (decide (a.Kind<1)) then
    some true
   else
    some (decide (3<a.Kind))).bind fun (f:Bool)=>
  bif f then
   some 1
  else
   (M.f7 a.Pattern).bind fun c=>
   bif (c.2.2 != 0) then
    some c.2.2
   else
    (M.f8 c.1).bind fun j=>
    bif j then
     some 10
    else
     (M.e7 a.Close).bind fun i=>
     bif (!i) then
      some 1
     else
      some 0
def M.d2:Nat→T_Regex→Option Int
| 0,_=>none
| fl+1,b=>
 (
  bg (fun (f:Int×Int)=>match f with
  | (c,a)=>
   bif (decide (a<(b.Kids.length:Int))) then
    (bq b.Kids a).bind fun i=>
    (M.d2 fl i).bind fun g=>
    (bV .i64 (c+g)).bind fun e=>
    (bV .i64 (a+1)).bind fun d=>
    some (.next (e,d))
   else
    some (.stop c)) aU ((1:Int),(0:Int))).bind fun (h:Int)=>
 some h
def M.h9 (c:(List T_Regex)):Option Int:=
 bk (
  bg (fun (h:Int×Int)=>match h with
  | (b,a)=>
   bif (decide (a<(c.length:Int))) then
    (bq c a).bind fun d=>
    (M.f6 d).bind fun j=>
    bif (!j) then
     some (.stop (.stop 1))
    else
     (M.d2 aU d).bind fun i=>
     (bV .i64 (b+i)).bind fun g=>
     (bV .i64 (a+1)).bind fun f=>
     some (.next (g,f))
   else
    some (.stop (.next b))) aU ((0:Int),(0:Int))) fun (e:Int)=>
 bif (decide (500<e)) then
  some 11
 else
  some 0
def M.b6 (h:bO) (f:(List Int)) (g:(List Int)):Option bO:=
 bg (fun (a:(List (aA 2))×Int)=>match a with
 | (d,c)=>
  bif (decide (c<(f.length:Int))) then
   (
    bg (fun (a:(List (aA 2))×Int)=>match a with
    | (e,b)=>
     bif (decide (b<(g.length:Int))) then
      (bq f c).bind fun n=>
      (bq g b).bind fun m=>
      (cP 16 e [(⟨[n,m],rfl⟩:aA 2)]).bind fun i=>
      (bV .i64 (b+1)).bind fun l=>
      some (.next (i,l))
     else
      some (.stop e)) aU (d,(0:Int))).bind fun (j:(List (aA 2)))=>
   (bV .i64 (c+1)).bind fun k=>
   some (.next (j,k))
  else
   some (.stop (bO.mk h.sets d))) aU (h.pairs,(0:Int))
def M.c6 (k:bO) (b:cx) (a:cx):Option (cx×bO):=
 (M.b6 k b.last a.first).bind fun g=>
 (
  bif b.nullable then
   some a.nullable
  else
   some false).bind fun (j:Bool)=>
 (
  bif b.nullable then
   (cP 8 [] b.first).bind fun f=>
   (cP 8 f a.first).bind fun e=>
   some e
  else
   some b.first).bind fun (i:(List Int))=>
 (
  bif a.nullable then
   (cP 8 [] b.last).bind fun d=>
   (cP 8 d a.last).bind fun c=>
   some c
  else
   some a.last).bind fun (h:(List Int))=>
 some ((cx.mk j i h),g)
def M.a4:Nat→bO→T_Regex→Option (cx×bO)
| 0,_,_=>none
| fl+1,b,a=>
 (
  bif (a.Kind == 2) then
   some (true,([]:(List Int)),([]:(List Int)),b.sets,b.pairs)
  else
   bif (a.Kind == 3) then
    (cP 32 b.sets [a.Set]).bind fun f=>
    some (false,([(f.length:Int)]:(List Int)),([(f.length:Int)]:(List Int)),f,b.pairs)
   else
    bif (a.Kind == 4) then
     bg (fun (i:(List (aA 4))×(List (aA 2))×Bool×(List Int)×(List Int)×Int)=>match i with
     | (q,p,o,u,t,h)=>
      bif (decide (h<(a.Kids.length:Int))) then
       (bq a.Kids h).bind fun K=>
       (M.a4 fl (bO.mk q p) K).bind fun s=>
       (M.c6 s.2 (cx.mk o u t) s.1).bind fun e=>
       (bV .i64 (h+1)).bind fun t9=>
       some (.next (e.2.sets,e.2.pairs,e.1.nullable,e.1.first,e.1.last,t9))
      else
       some (.stop (o,u,t,q,p))) aU (b.sets,b.pairs,true,([]:(List Int)),([]:(List Int)),(0:Int))
    else
     bif (a.Kind == 5) then
      bg (fun (i:(List (aA 4))×(List (aA 2))×Bool×(List Int)×(List Int)×Int)=>match i with
      | (n,m,l,k,j,g)=>
       bif (decide (g<(a.Kids.length:Int))) then
        (bq a.Kids g).bind fun J=>
        (M.a4 fl (bO.mk n m) J).bind fun d=>
        (
         bif l then
          some true
         else
          some d.1.nullable).bind fun (z:Bool)=>
        (cP 8 [] k).bind fun y=>
        (cP 8 y d.1.first).bind fun x=>
        (cP 8 [] j).bind fun w=>
        (cP 8 w d.1.last).bind fun v=>
        (bV .i64 (g+1)).bind fun F=>
        some (.next (d.2.sets,d.2.pairs,z,x,v,F))
       else
        some (.stop (l,k,j,n,m))) aU (b.sets,b.pairs,false,([]:(List Int)),([]:(List Int)),(0:Int))
     else
      bif (a.Kind == 6) then
       (bq a.Kids 0).bind fun I=>
       (M.a4 fl b I).bind fun c=>
       (M.b6 c.2 c.1.last c.1.first).bind fun r=>
       some (true,c.1.first,c.1.last,r.sets,r.pairs)
      else
       some (false,([]:(List Int)),([]:(List Int)),b.sets,b.pairs)).bind fun (D,H,G,B,A)=>
 some ((cx.mk D H G),(bO.mk B A))
def M.b7 (l:(List T_Regex)):Option (T_NFA×Int):=
 (M.h9 l).bind fun s=>
 bif (s != 0) then
  some ((T_NFA.mk 0 0 [] []),s)
 else
  (
   bg (fun (b:(List (aA 4))×(List (aA 2))×(List Int)×Int)=>match b with
   | (p,o,n,d)=>
    bif (decide (d<(l.length:Int))) then
     (
      (bq l d).bind fun a2=>
      (M.a4 aU (bO.mk p o) a2).bind fun f=>
      (M.b6 f.2 [0] f.1.first).bind fun e=>
      (
       bg (fun (k:(List Int))=>
        bif (decide ((k.length:Int)≤(e.sets.length:Int))) then
         (cP 8 k [(-1)]).bind fun B=>
         some (.next B)
        else
         some (.stop k)) aU n).bind fun (H:(List Int))=>
      (
       bg (fun (b:(List Int)×Int)=>match b with
       | (m,i)=>
        bif (decide (i<(f.1.last.length:Int))) then
         (bq f.1.last i).bind fun a1=>
         (cK m a1 d).bind fun A=>
         (bV .i64 (i+1)).bind fun S=>
         some (.next (A,S))
        else
         some (.stop m)) aU (H,(0:Int))).bind fun (j:(List Int))=>
      (
       bif f.1.nullable then
        (bq j 0).bind fun a0=>
        some (decide (a0<0))
       else
        some false).bind fun (G:Bool)=>
      bif G then
       (cK j 0 d).bind fun z=>
       some (e.sets,e.pairs,z)
      else
       some (e.sets,e.pairs,j)).bind fun (J,I,D)=>
     (bV .i64 (d+1)).bind fun R=>
     some (.next (J,I,D,R))
    else
     some (.stop (p,o,n))) aU (([]:(List (aA 4))),([]:(List (aA 2))),([(-1)]:(List Int)),(0:Int))).bind fun (K,q,a)=>
  (bV .i64 ((a.length:Int)*(a.length:Int))).bind fun Q=>
  (mE 1 Q (false:Bool)).bind fun W=>
  (
   bg (fun (b:(List Bool)×Int)=>match b with
   | (t,h)=>
    bif (decide (h<(q.length:Int))) then
     (bq q h).bind fun v=>
     (fU v 0).bind fun a4=>
     (bV .i64 (a4*(a.length:Int))).bind fun P=>
     (fU v 1).bind fun a3=>
     (bV .i64 (P+a3)).bind fun N=>
     (cK t N true).bind fun y=>
     (bV .i64 (h+1)).bind fun L=>
     some (.next (y,L))
    else
     some (.stop t)) aU (W,(0:Int))).bind fun (u:(List Bool))=>
  (
   bg (fun (b:(List dm)×Int)=>match b with
   | (g,c)=>
    bif (decide (c<(u.length:Int))) then
     (
      (bq u c).bind fun Y=>
      bif Y then
       (mD .i64 c (a.length:Int)).bind fun V=>
       (jM c (a.length:Int)).bind fun r=>
       (bV .i64 (r - 1)).bind fun U=>
       (bq K U).bind fun X=>
       (cP 56 g [(dm.mk V r false X)]).bind fun w=>
       some w
      else
       some g).bind fun (x:(List dm))=>
     (bV .i64 (c+1)).bind fun T=>
     some (.next (x,T))
    else
     some (.stop g)) aU (([]:(List dm)),(0:Int))).bind fun (F:(List dm))=>
  some ((T_NFA.mk (a.length:Int) 0 F a),0)
def M.g9 (a:T_NFA):Option Bool:=
 (
  bif (decide (a.States<1)) then
   some true
  else
   bif (decide (2000<a.States)) then
    some true
   else
    bif (decide (a.Start<0)) then
     some true
    else
     bif (decide (a.States≤a.Start)) then
      some true
     else
      some ((a.Accept.length:Int) != a.States)).bind fun (f:Bool)=>
 bif f then
  some false
 else
  bk (
   bg (fun (c:Int)=>
    bif (decide (c<(a.Accept.length:Int))) then
     (bq a.Accept c).bind fun i=>
     bif (decide (i<(-1))) then
      some (.stop (.stop false))
     else
      (bV .i64 (c+1)).bind fun g=>
      some (.next g)
    else
     some (.stop (.next ()))) aU (0:Int)) fun _=>
  bk (
   bg (fun (d:Int)=>
    bif (decide (d<(a.Arcs.length:Int))) then
     (bq a.Arcs d).bind fun b=>
     (
      bif (decide (b.From<0)) then
       some true
      else
       bif (decide (a.States≤b.From)) then
        some true
       else
        bif (decide (b.To<0)) then
         some true
        else
         bif (decide (a.States≤b.To)) then
          some true
         else
          bif b.Epsilon then
           some (b.Set != (aA.zero 4))
          else
           some false).bind fun (e:Bool)=>
     bif e then
      some (.stop (.stop false))
     else
      (bV .i64 (d+1)).bind fun h=>
      some (.next h)
    else
     some (.stop (.next ()))) aU (0:Int)) fun _=>
  some true
def M.g3 (s1:(aA 4)) (b1:Int):Option Bool:=
 (mD .u8 b1 64).bind fun t1=>
 (fU s1 t1).bind fun c1=>
 (jM b1 64).bind fun t2=>
 (sj .u64 c1 t2).bind fun t3=>
 some ((bits .and .u64 t3 1) == 1)
def M.d5 (b:(List (aA 4))) (h:Int) (g:Int):Option Bool:=
 bk (
  bg (fun (a:Int)=>
   bif (decide (a<(b.length:Int))) then
    (bq b a).bind fun c=>
    (M.g3 c h).bind fun f=>
    (M.g3 c g).bind fun e=>
    bif (!(f == e)) then
     some (.stop (.stop false))
    else
     (bV .i64 (a+1)).bind fun d=>
     some (.next d)
   else
    some (.stop (.next ()))) aU (0:Int)) fun _=>
 some true
def M.g4 (q:(List (aA 4))):Option (List Int):=
 (mE 8 256 (0:Int)).bind fun o=>
 (
  bg (fun (j:(List Int)×Int×Int)=>match j with
  | (f,b,a)=>
   bif (decide (a<256)) then
    (
     (cK f a b).bind fun e=>
     (
      bg (fun (c:Int)=>
       bif (decide (c<a)) then
        (M.d5 q (IntKind.u8.wrap c) (IntKind.u8.wrap a)).bind fun k=>
        bif k then
         (bq e c).bind fun s=>
         (cK e a s).bind fun m=>
         some (.stop m)
        else
         (bV .i64 (c+1)).bind fun i=>
         some (.next i)
       else
        some (.stop e)) aU (0:Int)).bind fun (d:(List Int))=>
     (bq d a).bind fun r=>
     bif (r == b) then
      (bV .i64 (b+1)).bind fun h=>
      some (d,h)
     else
      some (d,b)).bind fun (n,p)=>
    (bV .i64 (a+1)).bind fun g=>
    some (.next (n,p,g))
   else
    some (.stop f)) aU (o,(0:Int),(0:Int))).bind fun (l:(List Int))=>
 some l
def M.j6 (i:(List Int)):Option (List Int):=
 (
  bg (fun (e:(List Int)×Int)=>match e with
  | (a,b)=>
   bif (decide (b<256)) then
    (
     (bq i b).bind fun h=>
     bif (h == (a.length:Int)) then
      (cP 1 a [(IntKind.u8.wrap b)]).bind fun f=>
      some f
     else
      some a).bind fun (g:(List Int))=>
    (bV .i64 (b+1)).bind fun d=>
    some (.next (g,d))
   else
    some (.stop a)) aU (([]:(List Int)),(0:Int))).bind fun (c:(List Int))=>
 some c
def M.j2 (c:(List Bool)):Option (List Int):=
 (
  bg (fun (f:(List Int)×Int)=>match f with
  | (b,a)=>
   bif (decide (a<(c.length:Int))) then
    (
     (bq c a).bind fun i=>
     bif i then
      (cP 8 b [a]).bind fun g=>
      some g
     else
      some b).bind fun (h:(List Int))=>
    (bV .i64 (a+1)).bind fun e=>
    some (.next (h,e))
   else
    some (.stop b)) aU (([]:(List Int)),(0:Int))).bind fun (d:(List Int))=>
 some d
def M.d3 (d:T_NFA) (g:(List Int)):Option (List Int):=
 (mE 1 d.States (false:Bool)).bind fun y=>
 (
  bg (fun (a:(List Bool)×Int)=>match a with
  | (h,c)=>
   bif (decide (c<(g.length:Int))) then
    (
     (
      (bq g c).bind fun k=>
      bif (decide (0≤k)) then
       some (decide (k<d.States))
      else
       some false).bind fun (q:Bool)=>
     bif q then
      (bq g c).bind fun z=>
      (cK h z true).bind fun n=>
      some n
     else
      some h).bind fun (o:(List Bool))=>
    (bV .i64 (c+1)).bind fun t=>
    some (.next (o,t))
   else
    some (.stop h)) aU (y,(0:Int))).bind fun (w:(List Bool))=>
 (
  bg (fun (a:(List Bool)×Bool)=>match a with
  | (j,p)=>
   bif p then
    bg (fun (a:(List Bool)×Bool×Int)=>match a with
    | (b,i,f)=>
     bif (decide (f<(d.Arcs.length:Int))) then
      (
       (bq d.Arcs f).bind fun e=>
       (
        bif e.Epsilon then
         (bq b e.From).bind fun B=>
         bif B then
          (bq b e.To).bind fun A=>
          some (!A)
         else
          some false
        else
         some false).bind fun (r:Bool)=>
       bif r then
        (cK b e.To true).bind fun l=>
        some (l,true)
       else
        some (b,i)).bind fun (m,s)=>
      (bV .i64 (f+1)).bind fun u=>
      some (.next (m,s,u))
     else
      some (.stop (.next (b,i)))) aU (j,false,(0:Int))
   else
    some (.stop j)) aU (w,true)).bind fun (x:(List Bool))=>
 (M.j2 x).bind fun v=>
 some v
def M.j3 (a:T_NFA) (s:(List Int)) (r:Int):Option (List Int):=
 (mE 1 a.States (false:Bool)).bind fun u=>
 (M.d3 a s).bind fun g=>
 (
  bg (fun (f:(List Bool)×Int)=>match f with
  | (h,c)=>
   bif (decide (c<(g.length:Int))) then
    (bq g c).bind fun v=>
    (cK h v true).bind fun i=>
    (bV .i64 (c+1)).bind fun m=>
    some (.next (i,m))
   else
    some (.stop h)) aU (u,(0:Int))).bind fun (t:(List Bool))=>
 (
  bg (fun (f:(List Int)×Int)=>match f with
  | (e,d)=>
   bif (decide (d<(a.Arcs.length:Int))) then
    (
     (bq a.Arcs d).bind fun b=>
     (
      bif (!b.Epsilon) then
       (bq t b.From).bind fun w=>
       bif w then
        (M.g3 b.Set r).bind fun p=>
        some p
       else
        some false
      else
       some false).bind fun (q:Bool)=>
     bif q then
      (cP 8 e [b.To]).bind fun j=>
      some j
     else
      some e).bind fun (k:(List Int))=>
    (bV .i64 (d+1)).bind fun n=>
    some (.next (k,n))
   else
    some (.stop e)) aU (([]:(List Int)),(0:Int))).bind fun (l:(List Int))=>
 (M.d3 a l).bind fun o=>
 some o
def M.j4 (b:(List Int)) (c:(List Int)):Option Bool:=
 bif ((b.length:Int) != (c.length:Int)) then
  some false
 else
  bk (
   bg (fun (a:Int)=>
    bif (decide (a<(b.length:Int))) then
     (bq b a).bind fun f=>
     (bq c a).bind fun e=>
     bif (f != e) then
      some (.stop (.stop false))
     else
      (bV .i64 (a+1)).bind fun d=>
      some (.next d)
    else
     some (.stop (.next ()))) aU (0:Int)) fun _=>
  some true
def M.j0 (b:(List (List Int))) (d:(List Int)):Option Int:=
 bk (
  bg (fun (a:Int)=>
   bif (decide (a<(b.length:Int))) then
    (bq b a).bind fun f=>
    (M.j4 f d).bind fun e=>
    bif e then
     some (.stop (.stop a))
    else
     (bV .i64 (a+1)).bind fun c=>
     some (.next c)
   else
    some (.stop (.next ()))) aU (0:Int)) fun _=>
 some (-1)
def M.h8 (h:T_NFA) (d:(List Int)):Option Int:=
 (
  bg (fun (g:Int×Int)=>match g with
  | (a,b)=>
   bif (decide (b<(d.length:Int))) then
    (
     (bq d b).bind fun i=>
     (bq h.Accept i).bind fun c=>
     (
      bif (decide (0≤c)) then
       bif (decide (a<0)) then
        some true
       else
        some (decide (c<a))
      else
       some false).bind fun (e:Bool)=>
     bif e then
      some c
     else
      some a).bind fun (k:Int)=>
    (bV .i64 (b+1)).bind fun f=>
    some (.next (k,f))
   else
    some (.stop a)) aU (((-1):Int),(0:Int))).bind fun (j:Int)=>
 some j
def M.d8 (a:T_NFA):Option (T_DFA×Int):=
 (M.g9 a).bind fun T=>
 bif (!T) then
  some ((T_DFA.mk [] [] []),1)
 else
  (
   bg (fun (c:(List (aA 4))×Int)=>match c with
   | (i,h)=>
    bif (decide (h<(a.Arcs.length:Int))) then
     (
      (bq a.Arcs h).bind fun q=>
      bif (!q.Epsilon) then
       (cP 32 i [q.Set]).bind fun A=>
       some A
      else
       some i).bind fun (B:(List (aA 4)))=>
     (bV .i64 (h+1)).bind fun P=>
     some (.next (B,P))
    else
     some (.stop i)) aU (([]:(List (aA 4))),(0:Int))).bind fun (D:(List (aA 4)))=>
  (M.g4 D).bind fun p=>
  (M.j6 p).bind fun o=>
  (M.d3 a [a.Start]).bind fun S=>
  bk (
   bg (fun (c:(List (List Int))×(List (List Int))×(List Int)×Int)=>match c with
   | (m,l,k,d)=>
    bif (decide (d<(m.length:Int))) then
     bk (
      (
       bg (fun (c:(List (List Int))×(List Int)×Int)=>match c with
       | (b,f,e)=>
        bif (decide (e<(o.length:Int))) then
         (
          (bq b d).bind fun W=>
          (bq o e).bind fun V=>
          (M.j3 a W V).bind fun R=>
          (M.d3 a R).bind fun j=>
          bif ((j.length:Int) == 0) then
           (cP 8 f [(-1)]).bind fun w=>
           some (b,w)
          else
           (M.j0 b j).bind fun n=>
           (
            bif (decide (n<0)) then
             (cP 24 b [j]).bind fun u=>
             some (u,(b.length:Int))
            else
             some (b,n)).bind fun (v,F)=>
           (cP 8 f [F]).bind fun t=>
           some (v,t)).bind fun (G,x)=>
         (bV .i64 (e+1)).bind fun N=>
         some (.next (G,x,N))
        else
         some (.stop (b,f))) aU (m,([]:(List Int)),(0:Int))).bind fun (g,H)=>
      bif (decide (500<(g.length:Int))) then
       some (.stop (.stop (.stop ((T_DFA.mk [] [] []),11))))
      else
       (bq g d).bind fun U=>
       (cP 24 l [H]).bind fun s=>
       (M.h8 a U).bind fun Q=>
       (cP 8 k [Q]).bind fun r=>
       some (.next (g,s,r))) fun (I,z,y)=>
     (bV .i64 (d+1)).bind fun L=>
     some (.next (I,z,y,L))
    else
     some (.stop (.next (l,k)))) aU (([S]:(List (List Int))),([]:(List (List Int))),([]:(List Int)),(0:Int))) fun (K,J)=>
  some ((T_DFA.mk p K J),0)
def M.d7 (d1:T_DFA) (s1:Int):Option Int:=
 bif (decide (s1<0)) then
  some (d1.Next.length:Int)
 else
  some s1
def M.f4 (a:T_DFA):Option (List (List Bool)):=
 (bV .i64 ((a.Next.length:Int)+1)).bind fun o=>
 (mE 24 o ([]:List Bool)).bind fun l1=>
 (
  bg (fun (b:(List (List Bool))×Int)=>match b with
  | (s,f)=>
   bif (decide (f≤(a.Next.length:Int))) then
    (
     (mE 1 o (false:Bool)).bind fun Y=>
     (cK s f Y).bind fun y=>
     bg (fun (b:(List (List Bool))×Int)=>match b with
     | (i,g)=>
      bif (decide (g≤(a.Next.length:Int))) then
       (
        bif (decide (f<(a.Next.length:Int))) then
         (bq a.Accept f).bind fun b0=>
         some b0
        else
         some ((-1):Int)).bind fun (b1:Int)=>
       (
        bif (decide (g<(a.Next.length:Int))) then
         (bq a.Accept g).bind fun a8=>
         some a8
        else
         some ((-1):Int)).bind fun (a9:Int)=>
       (bq i f).bind fun a7=>
       (cK a7 g (b1 != a9)).bind fun x=>
       (cK i f x).bind fun w=>
       (bV .i64 (g+1)).bind fun R=>
       some (.next (w,R))
      else
       some (.stop i)) aU (y,(0:Int))).bind fun (z:(List (List Bool)))=>
    (bV .i64 (f+1)).bind fun Q=>
    some (.next (z,Q))
   else
    some (.stop s)) aU (l1,(0:Int))).bind fun (a3:(List (List Bool)))=>
 (bq a.Next 0).bind fun a6=>
 (mE 1 (a6.length:Int) (false:Bool)).bind fun X=>
 (
  bg (fun (b:(List Bool)×Int)=>match b with
  | (p,j)=>
   bif (decide (j<256)) then
    (bq a.Class j).bind fun a5=>
    (cK p a5 true).bind fun v=>
    (bV .i64 (j+1)).bind fun P=>
    some (.next (v,P))
   else
    some (.stop p)) aU (X,(0:Int))).bind fun (q:(List Bool))=>
 (
  bg (fun (b:(List (List Bool))×Bool)=>match b with
  | (u,J)=>
   bif J then
    bg (fun (b:(List (List Bool))×Bool×Int)=>match b with
    | (t,n,d)=>
     bif (decide (d≤(a.Next.length:Int))) then
      (
       bg (fun (b:(List (List Bool))×Bool×Int)=>match b with
       | (r,m,c)=>
        bif (decide (c<d)) then
         (
          bg (fun (b:(List (List Bool))×Bool×Int)=>match b with
          | (e,k,h)=>
           (
            bif (decide (h<(q.length:Int))) then
             (bq e d).bind fun c2=>
             (bq c2 c).bind fun c1=>
             some (!c1)
            else
             some false).bind fun (G:Bool)=>
           bif G then
            (
             (bq q h).bind fun c0=>
             bif (!c0) then
              some (e,k)
             else
              (
               bif (decide (d<(a.Next.length:Int))) then
                (bq a.Next d).bind fun b9=>
                (bq b9 h).bind fun b8=>
                (M.d7 a b8).bind fun U=>
                some U
               else
                some (a.Next.length:Int)).bind fun (V:Int)=>
              (
               bif (decide (c<(a.Next.length:Int))) then
                (bq a.Next c).bind fun b7=>
                (bq b7 h).bind fun b6=>
                (M.d7 a b6).bind fun S=>
                some S
               else
                some (a.Next.length:Int)).bind fun (T:Int)=>
              (bq e V).bind fun b5=>
              (bq b5 T).bind fun b4=>
              bif b4 then
               (bq e d).bind fun b3=>
               (bq e c).bind fun c3=>
               (cK b3 c true).bind fun D=>
               (cK e d D).bind fun l=>
               (bq l c).bind fun b2=>
               (cK b2 d true).bind fun B=>
               (cK l c B).bind fun A=>
               some (A,true)
              else
               some (e,k)).bind fun (a0,F)=>
            (bV .i64 (h+1)).bind fun N=>
            some (.next (a0,F,N))
           else
            some (.stop (e,k))) aU (r,m,(0:Int))).bind fun (a1,H)=>
         (bV .i64 (c+1)).bind fun L=>
         some (.next (a1,H,L))
        else
         some (.stop (r,m))) aU (t,n,(0:Int))).bind fun (a2,I)=>
      (bV .i64 (d+1)).bind fun K=>
      some (.next (a2,I,K))
     else
      some (.stop (.next (t,n)))) aU (u,false,(0:Int))
   else
    some (.stop u)) aU (a3,true)).bind fun (W:(List (List Bool)))=>
 some W
def M.j1 (d1:T_DFA) (s1:Int) (b1:Int):Option Int:=
 bif (decide (s1<0)) then
  some (-1)
 else
  (bq d1.Next s1).bind fun e1=>
  (bq d1.Class b1).bind fun e2=>
  (bq e1 e2).bind fun e3=>
  some e3
def M.f5 (b:T_DFA):Option T_DFA:=
 (M.f4 b).bind fun d8=>
 (bV .i64 ((b.Next.length:Int)+1)).bind fun t1=>
 (mE 8 t1 (0:Int)).bind fun l1=>
 (
  bg (fun (a:(List Int)×Int)=>match a with
  | (G,g)=>
   bif (decide (g≤(b.Next.length:Int))) then
    (
     (cK G g (b.Next.length:Int)).bind fun b2=>
     (bV .i64 ((b.Next.length:Int) - 1)).bind fun c5=>
     bg (fun (a:(List Int)×Int)=>match a with
     | (s,n)=>
      bif (decide (0≤n)) then
       (
        (
         (bq d8 g).bind fun N=>
         (bq N n).bind fun f5=>
         bif (!f5) then
          (bq N (b.Next.length:Int)).bind fun f4=>
          some f4
         else
          some false).bind fun (f6:Bool)=>
        bif f6 then
         (cK s g n).bind fun b0=>
         some b0
        else
         some s).bind fun (b1:(List Int))=>
       (bV .i64 (n - 1)).bind fun c4=>
       some (.next (b1,c4))
      else
       some (.stop s)) aU (b2,c5)).bind fun (b3:(List Int))=>
    (bV .i64 (g+1)).bind fun c3=>
    some (.next (b3,c3))
   else
    some (.stop G)) aU (l1,(0:Int))).bind fun (H:(List Int))=>
 (bq H 0).bind fun f3=>
 (
  bg (fun (a:(List Int)×(List (List Int))×Int)=>match a with
  | (u,z,t)=>
   bif (decide (t<(u.length:Int))) then
    (
     (mE 8 256 (0:Int)).bind fun d9=>
     (
      bg (fun (a:(List Int)×(List Int)×Int)=>match a with
      | (d,J,e)=>
       bif (decide (e<256)) then
        (
         (cK J e (-1)).bind fun r=>
         (bq d t).bind fun P=>
         bif (P == (b.Next.length:Int)) then
          some (d,r)
         else
          (M.j1 b P (IntKind.u8.wrap e)).bind fun d7=>
          (M.d7 b d7).bind fun d6=>
          (bq H d6).bind fun x=>
          bif (x == (b.Next.length:Int)) then
           some (d,r)
          else
           (
            bg (fun (a:(List Int)×Int)=>match a with
            | (p,m)=>
             bif (decide (m<(d.length:Int))) then
              (
               (bq d m).bind fun f8=>
               bif (f8 == x) then
                (cK p e m).bind fun a6=>
                some a6
               else
                some p).bind fun (a7:(List Int))=>
              (bV .i64 (m+1)).bind fun d4=>
              some (.next (a7,d4))
             else
              some (.stop p)) aU (r,(0:Int))).bind fun (q:(List Int))=>
           (bq q e).bind fun f7=>
           bif (decide (f7<0)) then
            (cK q e (d.length:Int)).bind fun a5=>
            (cP 8 d [x]).bind fun a4=>
            some (a4,a5)
           else
            some (d,q)).bind fun (c0,a8)=>
        (bV .i64 (e+1)).bind fun d3=>
        some (.next (c0,a8,d3))
       else
        some (.stop (d,J))) aU (u,d9,(0:Int))).bind fun (c1,e2)=>
     (cP 24 z [e2]).bind fun a3=>
     some (c1,a3)).bind fun (c2,a9)=>
    (bV .i64 (t+1)).bind fun d2=>
    some (.next (c2,a9,d2))
   else
    some (.stop (u,z))) aU (([f3]:(List Int)),([]:(List (List Int))),(0:Int))).bind fun (b4,i)=>
 (mE 8 256 (0:Int)).bind fun e1=>
 (
  bg (fun (a:(List Int)×(List Int)×Int)=>match a with
  | (I,f,c)=>
   bif (decide (c<256)) then
    (
     (cK I c (-1)).bind fun a0=>
     (
      bg (fun (a:(List Int)×Int)=>match a with
      | (h,l)=>
       (
        bif (decide (l<(f.length:Int))) then
         (bq h c).bind fun f2=>
         some (decide (f2<0))
        else
         some false).bind fun (b9:Bool)=>
       bif b9 then
        (
         (
          bg (fun (a:Bool×Int)=>match a with
          | (D,k)=>
           bif (decide (k<(i.length:Int))) then
            bif D then
             (bq i k).bind fun L=>
             (bq L c).bind fun f1=>
             (bq f l).bind fun f0=>
             (bq L f0).bind fun e9=>
             (bV .i64 (k+1)).bind fun d1=>
             some (.next ((f1 == e9),d1))
            else
             (bV .i64 (k+1)).bind fun d0=>
             some (.next (false,d0))
           else
            some (.stop D)) aU (true,(0:Int))).bind fun (b8:Bool)=>
         bif b8 then
          (cK h c l).bind fun X=>
          some X
         else
          some h).bind fun (Y:(List Int))=>
        (bV .i64 (l+1)).bind fun c9=>
        some (.next (Y,c9))
       else
        some (.stop h)) aU (a0,(0:Int))).bind fun (o:(List Int))=>
     (bq o c).bind fun e8=>
     bif (decide (e8<0)) then
      (cK o c (f.length:Int)).bind fun W=>
      (cP 8 f [c]).bind fun V=>
      some (W,V)
     else
      some (o,f)).bind fun (a2,a1)=>
    (bV .i64 (c+1)).bind fun c8=>
    some (.next (a2,a1,c8))
   else
    some (.stop (I,f))) aU (e1,([]:(List Int)),(0:Int))).bind fun (e0,F)=>
 (
  bg (fun (a:(List (List Int))×(List Int)×Int)=>match a with
  | (B,w,j)=>
   bif (decide (j<(i.length:Int))) then
    (
     (
      bg (fun (a:(List Int)×Int)=>match a with
      | (A,v)=>
       bif (decide (v<(F.length:Int))) then
        (bq i j).bind fun e7=>
        (bq F v).bind fun e6=>
        (bq e7 e6).bind fun e5=>
        (cP 8 A [e5]).bind fun S=>
        (bV .i64 (v+1)).bind fun c7=>
        some (.next (S,c7))
       else
        some (.stop A)) aU (([]:(List Int)),(0:Int))).bind fun (b5:(List Int))=>
     (cP 24 B [b5]).bind fun y=>
     (bq b4 j).bind fun K=>
     bif (K == (b.Next.length:Int)) then
      (cP 8 w [(-1)]).bind fun R=>
      some (y,R)
     else
      (bq b.Accept K).bind fun e4=>
      (cP 8 w [e4]).bind fun Q=>
      some (y,Q)).bind fun (U,T)=>
    (bV .i64 (j+1)).bind fun c6=>
    some (.next (U,T,c6))
   else
    some (.stop (B,w))) aU (([]:(List (List Int))),([]:(List Int)),(0:Int))).bind fun (b7,b6)=>
 some (T_DFA.mk e0 b7 b6)
def M.g8 (e:T_LexSpec):Option (T_DFA×Int):=
 (
  bg (fun (h:(List T_Regex)×Int)=>match h with
  | (d,c)=>
   bif (decide (c<(e.Defs.length:Int))) then
    (bq e.Defs c).bind fun l=>
    (M.c4 l).bind fun j=>
    (cP 64 d [j]).bind fun k=>
    (bV .i64 (c+1)).bind fun g=>
    some (.next (k,g))
   else
    some (.stop d)) aU (([]:(List T_Regex)),(0:Int))).bind fun (f:(List T_Regex))=>
 (M.b7 f).bind fun b=>
 bif (b.2 != 0) then
  some ((T_DFA.mk [] [] []),b.2)
 else
  (M.d8 b.1).bind fun a=>
  bif (a.2 != 0) then
   some ((T_DFA.mk [] [] []),a.2)
  else
   (M.f5 a.1).bind fun i=>
   some (i,0)
def M.k1 (b:T_LexSpec) (d:Str):Option Int:=
 bk (
  bg (fun (a:Int)=>
   bif (decide (a<(b.Defs.length:Int))) then
    (bq b.Defs a).bind fun g=>
    (M.c4 g).bind fun f=>
    (M.f9 f d).bind fun e=>
    bif e then
     some (.stop (.stop a))
    else
     (bV .i64 (a+1)).bind fun c=>
     some (.next c)
   else
    some (.stop (.next ()))) aU (0:Int)) fun _=>
 some (-1)
def M.f2 (l1:(List Str)):Option (List Str):=
 bif (decide (2<(l1.length:Int))) then
  (jL l1 0 2).bind fun l2=>
  some l2
 else
  some l1
def M.i6 (a:(List Str)) (c:Str):Option (List Str):=
 bk (
  bg (fun (b:Int)=>
   bif (decide (b<(a.length:Int))) then
    (bq a b).bind fun g=>
    bif (g == c) then
     some (.stop (.stop a))
    else
     (bV .i64 (b+1)).bind fun f=>
     some (.next f)
   else
    some (.stop (.next ()))) aU (0:Int)) fun _=>
 (cP 16 [] a).bind fun e=>
 (cP 16 e [c]).bind fun d=>
 some d
def M.d1:Nat→T_Regex→Option ((List Str)×Bool)
| 0,_=>none
| fl+1,b=>
 bif (b.Kind == 2) then
  some ([[]],true)
 else
  bif (b.Kind == 3) then
   (
    bg (fun (a:(List Str)×Int)=>match a with
    | (j,c)=>
     bif (decide (c<256)) then
      (
       (M.i7 b.Set c).bind fun Y=>
       bif Y then
        (cP 16 j [(kH [(IntKind.u8.wrap c)])]).bind fun z=>
        some z
       else
        some j).bind fun (A:(List Str))=>
      (bV .i64 (c+1)).bind fun Q=>
      some (.next (A,Q))
     else
      some (.stop j)) aU (([]:(List Str)),(0:Int))).bind fun (p:(List Str))=>
   (M.f2 p).bind fun X=>
   some (X,(decide ((p.length:Int)≤2)))
  else
   bif (b.Kind == 5) then
    (
     bg (fun (a:(List Str)×Bool×Int)=>match a with
     | (u,q,i)=>
      bif (decide (i<(b.Kids.length:Int))) then
       (
        (bq b.Kids i).bind fun a6=>
        (M.d1 fl a6).bind fun l=>
        (
         bif q then
          some l.2
         else
          some false).bind fun (G:Bool)=>
        bg (fun (a:(List Str)×Int)=>match a with
        | (t,h)=>
         bif (decide (h<(l.1.length:Int))) then
          (bq l.1 h).bind fun a5=>
          (M.i6 t a5).bind fun W=>
          (bV .i64 (h+1)).bind fun S=>
          some (.next (W,S))
         else
          some (.stop (t,G))) aU (u,(0:Int))).bind fun (a2,H)=>
       (bV .i64 (i+1)).bind fun R=>
       some (.next (a2,H,R))
      else
       some (.stop (u,q))) aU (([]:(List Str)),true,(0:Int))).bind fun (v,J)=>
    (
     (M.f2 v).bind fun s=>
     bif J then
      some (s,(decide ((v.length:Int)≤2)))
     else
      some (s,false)).bind fun (a1,F)=>
    some (a1,F)
   else
    bif (b.Kind == 4) then
     bk (
      bg (fun (a:(List Str)×Bool×Int)=>match a with
      | (m,o,g)=>
       bif (decide (g<(b.Kids.length:Int))) then
        bk (
         (bq b.Kids g).bind fun b0=>
         (M.d1 fl b0).bind fun k=>
         (
          bg (fun (a:(List Str)×Int)=>match a with
          | (x,f)=>
           bif (decide (f<(m.length:Int))) then
            (
             bg (fun (a:(List Str)×Int)=>match a with
             | (w,e)=>
              bif (decide (e<(k.1.length:Int))) then
               (bq m f).bind fun a9=>
               (bq k.1 e).bind fun a8=>
               (rJ a9 a8).bind fun T=>
               (M.i6 w T).bind fun V=>
               (bV .i64 (e+1)).bind fun P=>
               some (.next (V,P))
              else
               some (.stop w)) aU (x,(0:Int))).bind fun (a3:(List Str))=>
            (bV .i64 (f+1)).bind fun N=>
            some (.next (a3,N))
           else
            some (.stop x)) aU (([]:(List Str)),(0:Int))).bind fun (n:(List Str))=>
         bif ((n.length:Int) == 0) then
          some (.stop (.stop (.stop ([],true))))
         else
          (
           bif o then
            bif k.2 then
             some (decide ((n.length:Int)≤2))
            else
             some false
           else
            some false).bind fun (B:Bool)=>
          (M.f2 n).bind fun U=>
          some (.next (U,B))) fun (a4,D)=>
        (bV .i64 (g+1)).bind fun L=>
        some (.next (a4,D,L))
       else
        some (.stop (.next (m,o)))) aU (([[]]:(List Str)),true,(0:Int))) fun (a0,I)=>
     some (a0,I)
    else
     bif (b.Kind == 6) then
      (bq b.Kids 0).bind fun a7=>
      (M.d1 fl a7).bind fun r=>
      bk (
       bg (fun (d:Int)=>
        bif (decide (d<(r.1.length:Int))) then
         (bq r.1 d).bind fun y=>
         bif (y != []) then
          some (.stop (.stop ([[],y],false)))
         else
          (bV .i64 (d+1)).bind fun K=>
          some (.next K)
        else
         some (.stop (.next ()))) aU (0:Int)) fun _=>
      some ([[]],true)
     else
      some ([],true)
def M.i8 (rv1:T_Regex) (s1:Str):Option Bool:=
 (M.d1 aU rv1).bind fun rv2=>
 (
  bif rv2.2 then
   bif ((rv2.1.length:Int) == 1) then
    (bq rv2.1 0).bind fun e2=>
    some (e2 == s1)
   else
    some false
  else
   some false).bind fun (xv1:Bool)=>
 some xv1
def M.f3 (a:T_LexSpec):Option (Int×Int):=
 (
  bif (decide ((a.Defs.length:Int)<1)) then
   some true
  else
   some (decide (40<(a.Defs.length:Int)))).bind fun (i:Bool)=>
 bif i then
  some (0,11)
 else
  bk (
   bg (fun (c:Int)=>
    bif (decide (c<(a.Defs.length:Int))) then
     (M.e3 a c).bind fun f=>
     bif (f != 0) then
      some (.stop (.stop (c,f)))
     else
      (bV .i64 (c+1)).bind fun j=>
      some (.next j)
    else
     some (.stop (.next ()))) aU (0:Int)) fun _=>
  (
   bif (decide (a.Misspelling<0)) then
    some true
   else
    bif (decide (1000<a.Misspelling)) then
     some true
    else
     bif (decide (a.Unclosed<0)) then
      some true
     else
      some (decide (1000<a.Unclosed))).bind fun (g:Bool)=>
  bif g then
   some ((a.Defs.length:Int),1)
  else
   (M.g8 a).bind fun e=>
   bif (e.2 != 0) then
    some (0,e.2)
   else
    bk (
     bg (fun (b:Int)=>
      bif (decide (b<(a.Defs.length:Int))) then
       (bq a.Defs b).bind fun d=>
       (M.k1 a d.Sample).bind fun n=>
       bif (n != b) then
        some (.stop (.stop (b,13)))
       else
        (
         bif (d.Kind == 3) then
          (M.c4 d).bind fun m=>
          (M.i8 m d.Sample).bind fun l=>
          some (!l)
         else
          some false).bind fun (h:Bool)=>
        bif h then
         some (.stop (.stop (b,14)))
        else
         (bV .i64 (b+1)).bind fun k=>
         some (.next k)
      else
       some (.stop (.next ()))) aU (0:Int)) fun _=>
    some (0,0)
def M.i1 (a:T_LexSpec):Option Bool:=
 (M.j8 a 6 30).bind fun g=>
 bif (!g) then
  some false
 else
  bk (
   bg (fun (b:Int)=>
    bif (decide (b<(a.Defs.length:Int))) then
     (bq a.Defs b).bind fun h=>
     (M.c4 h).bind fun f=>
     (M.g0 aU f).bind fun e=>
     bif (decide (6<e)) then
      some (.stop (.stop false))
     else
      (bV .i64 (b+1)).bind fun c=>
      some (.next c)
    else
     some (.stop (.next ()))) aU (0:Int)) fun _=>
  (M.f3 a).bind fun d=>
  some (d.2 == 0)
def M.h7:Option T_LexSpec:=
 some (T_LexSpec.mk [(bM.mk [105,102] 3 [105,102] [105,102] []),(bM.mk [119,111,114,100] 1 [91,97,45,122,93,43] [120] []),(bM.mk [115,112,97,99,101] 2 [32,43] [32] []),(bM.mk [116,101,120,116] 1 [39,91,94,39,92,110,93,42,39] [39,39] [39])] false 4 6)
def M.j7:Option (List T_Token):=
 some [(T_Token.mk 1 0 [120] 2),(T_Token.mk 2 1 [32] 2),(T_Token.mk (-1) 2 [39] 6),(T_Token.mk 1 3 [97,98] 3),(T_Token.mk 2 5 [32] 2),(T_Token.mk 1 6 [99] 2)]
def M.k4 (x1:Int) (c1:T_Regex) (c2:Int) (c3:Int):Option (T_Regex×Int×Int):=
 some ((T_Regex.mk 0 (aA.zero 4) []),x1,3)
def M.a1 (p1:aC):Option Int:=
 bif (decide (p1.atv<(p1.s.length:Int))) then
  (eh p1.s p1.atv).bind fun c1=>
  some c1
 else
  some 0
def M.a2 (p1:aC):Option (Rt (Unit)):=
 some (.pan p1.atv)
def M.a3 (a:aC) (g:Int):Option (Rt (aC)):=
 bk (
  (
   bif (a.atv == (a.s.length:Int)) then
    some true
   else
    (eh a.s a.atv).bind fun f=>
    some (f != g)).bind fun (c:Bool)=>
  bif c then
   (M.a2 a).bind fun b=>b.on (fun h=>
    some (.next ())) (fun e=>some (.stop (.pan e)))
  else
   some (.next ())) fun _=>
 (bV .i64 (a.atv+1)).bind fun d=>
 some (.ret (aC.mk a.s d))
def M.e5 (a:Int):Option Bool:=
 (
  bif (decide (48≤a)) then
   bif (decide (a≤57)) then
    some true
   else
    bif (decide (97≤a)) then
     bif (decide (a≤122)) then
      some true
     else
      bif (decide (65≤a)) then
       some (decide (a≤90))
      else
       some false
    else
     bif (decide (65≤a)) then
      some (decide (a≤90))
     else
      some false
  else
   bif (decide (97≤a)) then
    bif (decide (a≤122)) then
     some true
    else
     bif (decide (65≤a)) then
      some (decide (a≤90))
     else
      some false
   else
    bif (decide (65≤a)) then
     some (decide (a≤90))
    else
     some false).bind fun (b:Bool)=>
 some b
def M.c9 (a:aC):Option (Rt (Int×aC)):=
 bk (
  bif (a.atv == (a.s.length:Int)) then
   (M.a2 a).bind fun b=>b.on (fun j=>
    some (.next ())) (fun g=>some (.stop (.pan g)))
  else
   some (.next ())) fun _=>
 (eh a.s a.atv).bind fun c1=>
 bk (
  bif (c1 == 110) then
   some (.next (10:Int))
  else
   bif (c1 == 116) then
    some (.next (9:Int))
   else
    (
     bif (decide (c1<32)) then
      some true
     else
      bif (decide (126<c1)) then
       some true
      else
       (M.e5 c1).bind fun e=>
       some e).bind fun (c:Bool)=>
    bif c then
     (M.a2 a).bind fun b=>b.on (fun i=>
      some (.next c1)) (fun f=>some (.stop (.pan f)))
    else
     some (.next c1)) fun (h:Int)=>
 (bV .i64 (a.atv+1)).bind fun d=>
 some (.ret (h,(aC.mk a.s d)))
def M.h0 (s:Str) (c:Int):Option Int:=some (Lib.indexByte s c.toNat.toUInt8)
def M.b2 (a:aC) (k:Str):Option (Rt (Int×aC)):=
 bk (
  bif (a.atv == (a.s.length:Int)) then
   (M.a2 a).bind fun b=>b.on (fun m=>
    some (.next ())) (fun j=>some (.stop (.pan j)))
  else
   some (.next ())) fun _=>
 (eh a.s a.atv).bind fun c1=>
 bif (c1 == 92) then
  (bV .i64 (a.atv+1)).bind fun f=>
  (M.c9 (aC.mk a.s f)).bind fun b=>b.on (fun c=>
   some (.ret (c.1,c.2))) (fun i=>some (.pan i))
 else
  bk (
   (
    bif (decide (c1<32)) then
     some true
    else
     bif (decide (126<c1)) then
      some true
     else
      (M.h0 k c1).bind fun g=>
      some (decide (0≤g))).bind fun (d:Bool)=>
   bif d then
    (M.a2 a).bind fun b=>b.on (fun l=>
     some (.next ())) (fun h=>some (.stop (.pan h)))
   else
    some (.next ())) fun _=>
  (bV .i64 (a.atv+1)).bind fun e=>
  some (.ret (c1,(aC.mk a.s e)))
def M.e8 (j:Int) (k:Int):Option (aA 4):=
 (
  bg (fun (i:(aA 4)×Int)=>match i with
  | (b,a)=>
   bif (decide (a≤(IntKind.i64.wrap k))) then
    (mD .i64 a 64).bind fun c=>
    (fU b c).bind fun l=>
    (jM a 64).bind fun h=>
    (sk .u64 1 h).bind fun g=>
    (ml b c (bits .or .u64 l g)).bind fun e=>
    (bV .i64 (a+1)).bind fun f=>
    some (.next (e,f))
   else
    some (.stop b)) aU ((aA.zero 4),(IntKind.i64.wrap j))).bind fun (d:(aA 4))=>
 some d
def M.b5 (j:aC):Option (Rt ((aA 4)×aC)):=
 (M.b2 j [93,92,45]).bind fun c=>c.on (fun a=>
  bk (
   (M.a1 a.2).bind fun f=>
   bif (f == 45) then
    (bV .i64 (a.2.atv+1)).bind fun d=>
    (M.b2 (aC.mk a.2.s d) [93,92,45]).bind fun c=>c.on (fun b=>
     bif (decide (b.1<a.1)) then
      (M.a2 (aC.mk b.2.s d)).bind fun c=>c.on (fun n=>
       some (.next (b.1,b.2.s,d))) (fun g=>some (.stop (.pan g)))
     else
      some (.next (b.1,b.2.s,b.2.atv))) (fun h=>some (.stop (.pan h)))
   else
    some (.next (a.1,a.2.s,a.2.atv))) fun (m,l,k)=>
  (M.e8 a.1 m).bind fun e=>
  some (.ret (e,(aC.mk l k)))) (fun i=>some (.pan i))
def M.g5 (j:(aA 4)) (g:(aA 4)):Option (aA 4):=
 (
  bg (fun (d:(aA 4)×Int)=>match d with
  | (b,a)=>
   bif (decide (a<4)) then
    (fU b a).bind fun f=>
    (fU g a).bind fun e=>
    (ml b a (bits .or .u64 f e)).bind fun i=>
    (bV .i64 (a+1)).bind fun c=>
    some (.next (i,c))
   else
    some (.stop b)) aU (j,(0:Int))).bind fun (h:(aA 4))=>
 some h
def M.c3 (s1:(aA 4)):Option (aA 4):=
 (
  bg (fun (st9:(aA 4)×Int)=>match st9 with
  | (s11,xv5)=>
   bif (decide (xv5<4)) then
    (fU s11 xv5).bind fun c6=>
    (ml s11 xv5 (ky .u64 c6)).bind fun s14=>
    (bV .i64 (xv5+1)).bind fun t6=>
    some (.next (s14,t6))
   else
    some (.stop s11)) aU (s1,(0:Int))).bind fun (s8:(aA 4))=>
 some s8
def M.c5 (v:aC):Option (Rt ((aA 4)×aC)):=
 (M.a3 v 91).bind fun a=>a.on (fun b=>
  (M.a1 b).bind fun i=>
  (
   bif (i == 94) then
    (bV .i64 (b.atv+1)).bind fun k=>
    some k
   else
    some b.atv).bind fun (t:Int)=>
  (M.b5 (aC.mk b.s t)).bind fun a=>a.on (fun c=>
   bk (
    bg (fun (l:Str×Int×(aA 4))=>match l with
    | (f,e,g)=>
     (M.a1 (aC.mk f e)).bind fun o=>
     bif (o != 93) then
      (M.b5 (aC.mk f e)).bind fun a=>a.on (fun d=>
       (M.g5 g d.1).bind fun n=>
       some (.next (d.2.s,d.2.atv,n))) (fun p=>some (.stop (.stop (.pan p))))
     else
      some (.stop (.next (f,e,g)))) aU (c.2.s,c.2.atv,c.1)) fun (j,u,h)=>
   (bV .i64 (u+1)).bind fun t3=>
   bif (i == 94) then
    (M.c3 h).bind fun m=>
    some (.ret (m,(aC.mk j t3)))
   else
    some (.ret (h,(aC.mk j t3)))) (fun q=>some (.pan q))) (fun r=>some (.pan r))
def M.h4 (d:Str):Option (aA 4):=
 (
  bg (fun (k:(aA 4)×Int)=>match k with
  | (b,a)=>
   bif (decide (a<(d.length:Int))) then
    (eh d a).bind fun e=>
    (mD .u8 e 64).bind fun c=>
    (fU b c).bind fun l=>
    (jM e 64).bind fun j=>
    (sk .u64 1 j).bind fun i=>
    (ml b c (bits .or .u64 l i)).bind fun f=>
    (bV .i64 (a+1)).bind fun h=>
    some (.next (f,h))
   else
    some (.stop b)) aU ((aA.zero 4),(0:Int))).bind fun (g:(aA 4))=>
 some g
def M.i5:Option (aA 4):=
 (M.h4 [10]).bind fun rv1=>
 (M.c3 rv1).bind fun rv2=>
 some rv2
def M.h5 (kind1:Int) (l1:(List T_Regex)):Option T_Regex:=
 bif ((l1.length:Int) == 1) then
  (bq l1 0).bind fun e1=>
  some e1
 else
  some (T_Regex.mk kind1 (aA.zero 4) l1)
mutual
def M.c7:Nat→aC→Option (Rt (T_Regex×aC))
| 0,_=>none
| fl+1,c=>
 (M.a1 c).bind fun b=>
 bif (b == 40) then
  (bV .i64 (c.atv+1)).bind fun F=>
  (M.b3 fl (aC.mk c.s F)).bind fun a=>a.on (fun v=>
   (M.a3 v.2 41).bind fun a=>a.on (fun I=>
    some (.ret (v.1,I))) (fun S=>some (.pan S))) (fun k=>some (.pan k))
 else
  bif (b == 91) then
   (M.c5 c).bind fun a=>a.on (fun u=>
    some (.ret ((T_Regex.mk 3 u.1 []),u.2))) (fun R=>some (.pan R))
  else
   bif (b == 46) then
    (bV .i64 (c.atv+1)).bind fun D=>
    (M.i5).bind fun H=>
    some (.ret ((T_Regex.mk 3 H []),(aC.mk c.s D)))
   else
    (M.b2 c [40,41,91,93,124,42,43,63,46,92]).bind fun a=>a.on (fun p=>
     (M.e8 p.1 p.1).bind fun i=>
     some (.ret ((T_Regex.mk 3 i []),p.2))) (fun Q=>some (.pan Q))
def M.b8:Nat→aC→Option (Rt (T_Regex×aC))
| 0,_=>none
| fl+1,c=>
 (M.c7 fl c).bind fun a=>a.on (fun b=>
  bg (fun (f:Int×Int×(aA 4)×(List T_Regex))=>match f with
  | (o,h,g,j)=>
   bk (
    (M.a1 (aC.mk b.2.s o)).bind fun m=>
    bif (m == 42) then
     some (.next ((6:Int),([(T_Regex.mk h g j)]:(List T_Regex))))
    else
     bif (m == 43) then
      some (.next ((4:Int),([(T_Regex.mk h g j),(T_Regex.mk 6 (aA.zero 4) [(T_Regex.mk h g j)])]:(List T_Regex))))
     else
      bif (m == 63) then
       some (.next ((5:Int),([(T_Regex.mk h g j),(T_Regex.mk 2 (aA.zero 4) [])]:(List T_Regex))))
      else
       some (.stop (.stop (.ret ((T_Regex.mk h g j),(aC.mk b.2.s o)))))) fun (J,z)=>
   (bV .i64 (o+1)).bind fun t3=>
   some (.next (t3,J,(aA.zero 4),z))) aU (b.2.atv,b.1.Kind,b.1.Set,b.1.Kids)) (fun k=>some (.pan k))
def M.b0:Nat→aC→Option (Rt (T_Regex×aC))
| 0,_=>none
| fl+1,c=>
 bk (
  bg (fun (f:Str×Int×(List T_Regex))=>match f with
  | (e,d,t)=>
   (
    bif (decide (d<(e.length:Int))) then
     (eh e d).bind fun x=>
     bif (x != 124) then
      some (x != 41)
     else
      some false
    else
     some false).bind fun (A:Bool)=>
   bif A then
    (M.b8 fl (aC.mk e d)).bind fun a=>a.on (fun i=>
     (cP 64 t [i.1]).bind fun U=>
     some (.next (i.2.s,i.2.atv,U))) (fun P=>some (.stop (.stop (.pan P))))
   else
    some (.stop (.next (t,e,d)))) aU (c.s,c.atv,([]:(List T_Regex)))) fun (q,w,l)=>
 bif ((q.length:Int) == 0) then
  some (.ret ((T_Regex.mk 2 (aA.zero 4) []),(aC.mk w l)))
 else
  (M.h5 4 q).bind fun G=>
  some (.ret (G,(aC.mk w l)))
def M.b3:Nat→aC→Option (Rt (T_Regex×aC))
| 0,_=>none
| fl+1,c=>
 (M.b0 fl c).bind fun a=>a.on (fun b=>
  bk (
   bg (fun (f:Str×Int×(List T_Regex))=>match f with
   | (e,d,r)=>
    (M.a1 (aC.mk e d)).bind fun L=>
    bif (L == 124) then
     (bV .i64 (d+1)).bind fun B=>
     (M.b0 fl (aC.mk e B)).bind fun a=>a.on (fun n=>
      (cP 64 r [n.1]).bind fun T=>
      some (.next (n.2.s,n.2.atv,T))) (fun N=>some (.stop (.stop (.pan N))))
    else
     some (.stop (.next (r,e,d)))) aU (b.2.s,b.2.atv,([b.1]:(List T_Regex)))) fun (y,l,V)=>
  (M.h5 5 y).bind fun K=>
  some (.ret (K,(aC.mk l V)))) (fun k=>some (.pan k))
end
def M.d0:Nat→T_Regex→Int→Option Bool
| 0,_,_=>none
| fl+1,a,c=>
 (
  bif (c == 0) then
   some true
  else
   some ((a.Kind == 3) == (a.Set == (aA.zero 4)))).bind fun (g:Bool)=>
 bif g then
  some false
 else
  bk (
   (
    bif (a.Kind == 1) then
     some (a.Kind == 1)
    else
     bif (a.Kind == 2) then
      some (a.Kind == 2)
     else
      some (a.Kind == 3)).bind fun (f:Bool)=>
   bif f then
    some (.next ((0:Int),(0:Int)))
   else
    (
     bif (a.Kind == 4) then
      some (a.Kind == 4)
     else
      some (a.Kind == 5)).bind fun (e:Bool)=>
    bif e then
     some (.next ((2:Int),(a.Kids.length:Int)))
    else
     bif (a.Kind == 6) then
      some (.next ((1:Int),(1:Int)))
     else
      some (.stop false)) fun (l,k)=>
  (
   bif (decide ((a.Kids.length:Int)<l)) then
    some true
   else
    some (decide (k<(a.Kids.length:Int)))).bind fun (d:Bool)=>
  bif d then
   some false
  else
   bk (
    bg (fun (b:Int)=>
     bif (decide (b<(a.Kids.length:Int))) then
      (bq a.Kids b).bind fun m=>
      (bV .i64 (c - 1)).bind fun i=>
      (M.d0 fl m i).bind fun j=>
      bif (!j) then
       some (.stop (.stop false))
      else
       (bV .i64 (b+1)).bind fun h=>
       some (.next h)
     else
      some (.stop (.next ()))) aU (0:Int)) fun _=>
   some true
def M.h6 (rv1:T_Regex):Option Bool:=
 (M.d0 aU rv1 30).bind fun rv2=>
 some rv2
def M.e9 (c:Str):Option (T_Regex×Int×Int):=
 (M.b3 aU (aC.mk c 0)).bind fun b=>b.on (fun a=>
  bk (
   bif (decide (a.2.atv<(c.length:Int))) then
    (M.a2 a.2).bind fun b=>b.on (fun g=>
     some (.next ())) (fun e=>some (.stop ((T_Regex.mk 0 (aA.zero 4) []),e,3)))
   else
    some (.next ())) fun _=>
  (M.h6 a.1).bind fun d=>
  bif (!d) then
   some ((T_Regex.mk 0 (aA.zero 4) []),0,11)
  else
   some (a.1,0,0)) (fun f=>some ((T_Regex.mk 0 (aA.zero 4) []),f,3))
def M.i3 (s1:(aA 4)) (b1:Int):Option Bool:=
 (mD .u8 b1 64).bind fun t1=>
 (fU s1 t1).bind fun c1=>
 (jM b1 64).bind fun t2=>
 (sj .u64 c1 t2).bind fun t3=>
 some ((bits .and .u64 t3 1) == 1)
def M.g1 (e:(List T_Regex)):Option T_Regex:=
 bk (
  bg (fun (g:(List T_Regex)×Int)=>match g with
  | (d,c)=>
   bif (decide (c<(e.length:Int))) then
    bk (
     (bq e c).bind fun b=>
     bif (b.Kind == 1) then
      some (.stop (.stop (.stop b)))
     else
      bif (b.Kind != 2) then
       (cP 64 d [b]).bind fun h=>
       some (.next h)
      else
       some (.next d)) fun (i:(List T_Regex))=>
    (bV .i64 (c+1)).bind fun f=>
    some (.next (i,f))
   else
    some (.stop (.next d))) aU (([]:(List T_Regex)),(0:Int))) fun (a:(List T_Regex))=>
 bif ((a.length:Int) == 0) then
  some (T_Regex.mk 2 (aA.zero 4) [])
 else
  bif ((a.length:Int) == 1) then
   (bq a 0).bind fun j=>
   some j
  else
   some (T_Regex.mk 4 (aA.zero 4) a)
def M.a5:Nat→T_Regex→Option Bool
| 0,_=>none
| fl+1,a=>
 bk (
  (
   bif (a.Kind == 2) then
    some (a.Kind == 2)
   else
    some (a.Kind == 6)).bind fun (d:Bool)=>
  bif d then
   some (.stop true)
  else
   bif (a.Kind == 4) then
    bk (
     bg (fun (c:Int)=>
      bif (decide (c<(a.Kids.length:Int))) then
       (bq a.Kids c).bind fun j=>
       (M.a5 fl j).bind fun h=>
       bif (!h) then
        some (.stop (.stop (.stop false)))
       else
        (bV .i64 (c+1)).bind fun f=>
        some (.next f)
      else
       some (.stop (.next ()))) aU (0:Int)) fun _=>
    some (.stop true)
   else
    bif (a.Kind == 5) then
     bg (fun (b:Int)=>
      bif (decide (b<(a.Kids.length:Int))) then
       (bq a.Kids b).bind fun i=>
       (M.a5 fl i).bind fun g=>
       bif g then
        some (.stop (.stop true))
       else
        (bV .i64 (b+1)).bind fun e=>
        some (.next e)
      else
       some (.stop (.next ()))) aU (0:Int)
    else
     some (.next ())) fun _=>
 some false
def M.e4:Nat→T_Regex→T_Regex→Option Bool
| 0,_,_=>none
| fl+1,a,c=>
 (
  bif (a.Kind != c.Kind) then
   some true
  else
   bif (a.Set != c.Set) then
    some true
   else
    some ((a.Kids.length:Int) != (c.Kids.length:Int))).bind fun (d:Bool)=>
 bif d then
  some false
 else
  bk (
   bg (fun (b:Int)=>
    bif (decide (b<(a.Kids.length:Int))) then
     (bq a.Kids b).bind fun h=>
     (bq c.Kids b).bind fun g=>
     (M.e4 fl h g).bind fun f=>
     bif (!f) then
      some (.stop (.stop false))
     else
      (bV .i64 (b+1)).bind fun e=>
      some (.next e)
    else
     some (.stop (.next ()))) aU (0:Int)) fun _=>
  some true
def M.g7 (k:(List T_Regex)):Option T_Regex:=
 (
  bg (fun (f:(List T_Regex)×Int)=>match f with
  | (i,e)=>
   bif (decide (e<(k.length:Int))) then
    (
     (bq k e).bind fun h=>
     (
      bif (h.Kind == 5) then
       some h.Kids
      else
       some ([h]:(List T_Regex))).bind fun (j:(List T_Regex))=>
     bg (fun (f:(List T_Regex)×Int)=>match f with
     | (a,d)=>
      bif (decide (d<(j.length:Int))) then
       (
        (bq j d).bind fun g=>
        bif (g.Kind == 1) then
         some a
        else
         bk (
          bg (fun (c:Int)=>
           bif (decide (c<(a.length:Int))) then
            (bq a c).bind fun t=>
            (M.e4 aU t g).bind fun q=>
            bif q then
             some (.stop (.stop a))
            else
             (bV .i64 (c+1)).bind fun p=>
             some (.next p)
           else
            some (.stop (.next ()))) aU (0:Int)) fun _=>
         (cP 64 a [g]).bind fun r=>
         some r).bind fun (l:(List T_Regex))=>
       (bV .i64 (d+1)).bind fun o=>
       some (.next (l,o))
      else
       some (.stop a)) aU (i,(0:Int))).bind fun (m:(List T_Regex))=>
    (bV .i64 (e+1)).bind fun n=>
    some (.next (m,n))
   else
    some (.stop i)) aU (([]:(List T_Regex)),(0:Int))).bind fun (b:(List T_Regex))=>
 bif ((b.length:Int) == 0) then
  some (T_Regex.mk 1 (aA.zero 4) [])
 else
  bif ((b.length:Int) == 1) then
   (bq b 0).bind fun s=>
   some s
  else
   some (T_Regex.mk 5 (aA.zero 4) b)
def M.a6:Nat→T_Regex→Int→Option T_Regex
| 0,_,_=>none
| fl+1,a,b=>
 bk (
  bif (a.Kind == 3) then
   (M.i3 a.Set b).bind fun x=>
   bif x then
    some (.stop (T_Regex.mk 2 (aA.zero 4) []))
   else
    some (.next ())
  else
   bif (a.Kind == 4) then
    (
     bg (fun (e:(List T_Regex)×Int)=>match e with
     | (h,d)=>
      bif (decide (d<(a.Kids.length:Int))) then
       (bq a.Kids d).bind fun j=>
       (bV .i64 (d+1)).bind fun i=>
       (jL a.Kids i (a.Kids.length:Int)).bind fun y=>
       (M.a6 fl j b).bind fun w=>
       (cP 64 [w] y).bind fun l=>
       (M.g1 l).bind fun v=>
       (cP 64 h [v]).bind fun f=>
       (M.a5 aU j).bind fun u=>
       bif (!u) then
        some (.stop f)
       else
        some (.next (f,i))
      else
       some (.stop h)) aU (([]:(List T_Regex)),(0:Int))).bind fun (m:(List T_Regex))=>
    (M.g7 m).bind fun t=>
    some (.stop t)
   else
    bif (a.Kind == 5) then
     (
      bg (fun (e:(List T_Regex)×Int)=>match e with
      | (g,c)=>
       bif (decide (c<(a.Kids.length:Int))) then
        (bq a.Kids c).bind fun A=>
        (M.a6 fl A b).bind fun s=>
        (cP 64 g [s]).bind fun k=>
        (bV .i64 (c+1)).bind fun o=>
        some (.next (k,o))
       else
        some (.stop g)) aU (([]:(List T_Regex)),(0:Int))).bind fun (n:(List T_Regex))=>
     (M.g7 n).bind fun r=>
     some (.stop r)
    else
     bif (a.Kind == 6) then
      (bq a.Kids 0).bind fun z=>
      (M.a6 fl z b).bind fun q=>
      (M.g1 [q,a]).bind fun p=>
      some (.stop p)
     else
      some (.next ())) fun _=>
 some (T_Regex.mk 1 (aA.zero 4) [])
def M.f0 (c:T_Regex) (d:Str):Option Bool:=
 (
  bg (fun (i:Int×(aA 4)×(List T_Regex)×Int)=>match i with
  | (g,f,e,a)=>
   bif (decide (a<(d.length:Int))) then
    (eh d a).bind fun n=>
    (M.a6 aU (T_Regex.mk g f e) n).bind fun b=>
    (bV .i64 (a+1)).bind fun h=>
    some (.next (b.Kind,b.Set,b.Kids,h))
   else
    some (.stop (g,f,e))) aU (c.Kind,c.Set,c.Kids,(0:Int))).bind fun (m,l,k)=>
 (M.a5 aU (T_Regex.mk m l k)).bind fun j=>
 some j
def M.c2 (d:T_LexSpec) (a:bM) (f:Str):Option Bool:=
 (
  bif (decide (d.Unclosed≤0)) then
   some true
  else
   bif (a.Kind == 2) then
    some true
   else
    some (a.Close == [])).bind fun (c:Bool)=>
 bif c then
  some false
 else
  (M.e9 a.Pattern).bind fun b=>
  (
   bif (b.2.2 == 0) then
    (rJ f a.Close).bind fun e=>
    (M.f0 b.1 e).bind fun g=>
    some g
   else
    some false).bind fun (h:Bool)=>
  some h
def M.h2 (c:Str) (c1:T_LexSpec):Option Bool:=
 bk (
  bg (fun (a:Int)=>
   bif (decide (a<(c1.Defs.length:Int))) then
    (bq c1.Defs a).bind fun e=>
    (M.c2 c1 e c).bind fun d=>
    bif d then
     some (.stop (.stop true))
    else
     (bV .i64 (a+1)).bind fun b=>
     some (.next b)
   else
    some (.stop (.next ()))) aU (0:Int)) fun _=>
 some false
def M.k5 (l1:(List T_Token)):Option Str:=
 (
  bg (fun (st9:Str×Int)=>match st9 with
  | (s10,xv5)=>
   bif (decide (xv5<(l1.length:Int))) then
    (bq l1 xv5).bind fun e6=>
    (rJ s10 e6.Text).bind fun s13=>
    (bV .i64 (xv5+1)).bind fun t6=>
    some (.next (s13,t6))
   else
    some (.stop s10)) aU (([]:Str),(0:Int))).bind fun (s7:Str)=>
 some s7
def M.d6 (s:Str) (sep:Str):Option Int:=match sep with|[c]=>some (Lib.indexByte s c)|_=>none
def M.e0 (s1:Str) (sep1:Str):Option (Str×Str×Bool):=
 (M.d6 s1 sep1).bind fun i1=>
 bif (decide (0≤i1)) then
  (jL s1 0 i1).bind fun s2=>
  (bV .i64 (i1+(sep1.length:Int))).bind fun t1=>
  (jL s1 t1 (s1.length:Int)).bind fun s3=>
  some (s2,s3,true)
 else
  some (s1,[],false)
def M.k2 (s1:Str) (sep1:Str):Option (Str×Str×Bool):=
 (M.e0 s1 sep1).bind fun rv1=>
 some (rv1.1,rv1.2.1,rv1.2.2)
def M.j5 (c:(List T_Token)):Option (Str×Int):=
 (M.k5 c).bind fun i=>
 (M.k2 i [10]).bind fun b=>
 bk (
  bg (fun (g:Int×Int)=>match g with
  | (h,a)=>
   bif (decide (a<(c.length:Int))) then
    (bq c a).bind fun j=>
    (bV .i64 (h+(j.Text.length:Int))).bind fun d=>
    bif (d == (b.1.length:Int)) then
     (bV .i64 (a+1)).bind fun f=>
     some (.stop (.stop (b.1,f)))
    else
     (bV .i64 (a+1)).bind fun e=>
     some (.next (d,e))
   else
    some (.stop (.next ()))) aU ((0:Int),(0:Int))) fun _=>
 some (b.1,0)
def M.i4 (u:T_LexSpec) (t:(List T_Token)):Option (List T_Token):=
 (
  bg (fun (e:(List T_Token)×(List T_Token))=>match e with
  | (b,g)=>
   bif (decide (0<(b.length:Int))) then
    (bq b 0).bind fun a=>
    (
     bif (a.Kind == (-1)) then
      (M.j5 b).bind fun c=>
      (
       bif (decide (0<c.2)) then
        (M.h2 c.1 u).bind fun r=>
        some r
       else
        some false).bind fun (s:Bool)=>
      bif s then
       (jL b 0 c.2).bind fun h=>
       bg (fun (e:Int×Int)=>match e with
       | (f,d)=>
        bif (decide (d<(h.length:Int))) then
         (bq h d).bind fun i=>
         (bV .i64 (i.At+i.Look)).bind fun q=>
         (bV .i64 (q - a.At)).bind fun p=>
         (bV .i64 (d+1)).bind fun o=>
         some (.next ((sO f p),o))
        else
         some (.stop (c.1,f,c.2))) aU (a.Look,(0:Int))
      else
       some (a.Text,a.Look,(1:Int))
     else
      some (a.Text,a.Look,(1:Int))).bind fun (m,l,k)=>
    (cP 40 g [(T_Token.mk a.Kind a.At m l)]).bind fun j=>
    (jL b k (b.length:Int)).bind fun v=>
    some (.next (v,j))
   else
    some (.stop g)) aU (t,([]:(List T_Token)))).bind fun (n:(List T_Token))=>
 some n
def M.a8 (g:Str) (c:Str):Option Int:=
 (
  (bV .i64 ((c.length:Int)+1)).bind fun v=>
  (mE 8 v (0:Int)).bind fun N=>
  some N).bind fun (i:(List Int))=>
 (
  bg (fun (d:(List Int)×Int)=>match d with
  | (l,e)=>
   bif (decide (e<(i.length:Int))) then
    (cK l e e).bind fun o=>
    (bV .i64 (e+1)).bind fun u=>
    some (.next (o,u))
   else
    some (.stop l)) aU (i,(0:Int))).bind fun (K:(List Int))=>
 (
  bg (fun (d:(List Int)×(List Int)×(List Int)×Int)=>match d with
  | (L,m,h,b)=>
   bif (decide (b≤(g.length:Int))) then
    (
     (cK L 0 b).bind fun r=>
     bg (fun (d:(List Int)×Int)=>match d with
     | (k,a)=>
      bif (decide (a≤(c.length:Int))) then
       (
        (bV .i64 (a - 1)).bind fun f=>
        (bq h f).bind fun n=>
        (
         (bV .i64 (b - 1)).bind fun I=>
         (eh g I).bind fun a1=>
         (eh c f).bind fun a0=>
         bif (a1 != a0) then
          (bV .i64 (n+1)).bind fun H=>
          some H
         else
          some n).bind fun (J:Int)=>
        (bq h a).bind fun U=>
        (bV .i64 (U+1)).bind fun G=>
        (bq k f).bind fun T=>
        (bV .i64 (T+1)).bind fun F=>
        (cK k a (nN J G F)).bind fun j=>
        (
         bif (decide (1<b)) then
          bif (decide (1<a)) then
           (bV .i64 (b - 1)).bind fun D=>
           (eh g D).bind fun Y=>
           (bV .i64 (a - 2)).bind fun B=>
           (eh c B).bind fun X=>
           bif (Y == X) then
            (bV .i64 (b - 2)).bind fun A=>
            (eh g A).bind fun W=>
            (eh c f).bind fun V=>
            some (W == V)
           else
            some false
          else
           some false
         else
          some false).bind fun (t:Bool)=>
        bif t then
         (bq j a).bind fun S=>
         (bV .i64 (a - 2)).bind fun z=>
         (bq m z).bind fun R=>
         (bV .i64 (R+1)).bind fun y=>
         (cK j a (mF S y)).bind fun p=>
         some p
        else
         some j).bind fun (q:(List Int))=>
       (bV .i64 (a+1)).bind fun x=>
       some (.next (q,x))
      else
       some (.stop k)) aU (r,(1:Int))).bind fun (s:(List Int))=>
    (bV .i64 (b+1)).bind fun w=>
    some (.next (m,h,s,w))
   else
    some (.stop h)) aU (i,i,K,(1:Int))).bind fun (P:(List Int))=>
 (bq P (c.length:Int)).bind fun Q=>
 some Q
def M.a9 (a:T_LexSpec) (c:T_Token):Option (List bh):=
 (
  bif (decide (0≤c.Kind)) then
   bif (decide (c.Kind<(a.Defs.length:Int))) then
    (bq a.Defs c.Kind).bind fun r=>
    some (r.Kind == 1)
   else
    some false
  else
   some false).bind fun (m:Bool)=>
 (
  bg (fun (p:(List bh)×Int)=>match p with
  | (b,d)=>
   bif (decide (d<(a.Defs.length:Int))) then
    (
     (bq a.Defs d).bind fun f=>
     bif (c.Kind == (-1)) then
      (M.c2 a f c.Text).bind fun q=>
      bif q then
       (cP 16 b [(bh.mk d a.Unclosed)]).bind fun h=>
       some h
      else
       some b
     else
      (
       bif m then
        bif (decide (0<a.Misspelling)) then
         some (f.Kind == 3)
        else
         some false
       else
        some false).bind fun (k:Bool)=>
      bif k then
       (M.a8 c.Text f.Sample).bind fun e=>
       (
        bif (decide (1≤e)) then
         some (decide (e≤2))
        else
         some false).bind fun (j:Bool)=>
       bif j then
        (bV .i64 (a.Misspelling*e)).bind fun o=>
        (cP 16 b [(bh.mk d o)]).bind fun g=>
        some g
       else
        some b
      else
       some b).bind fun (i:(List bh))=>
    (bV .i64 (d+1)).bind fun n=>
    some (.next (i,n))
   else
    some (.stop b)) aU (([]:(List bh)),(0:Int))).bind fun (l:(List bh))=>
 some l
def M.g6 (b:(List bh)) (e:(List bh)):Option Bool:=
 bif ((b.length:Int) != (e.length:Int)) then
  some false
 else
  bk (
   bg (fun (a:Int)=>
    bif (decide (a<(b.length:Int))) then
     (bq b a).bind fun d=>
     (bq e a).bind fun c=>
     bif (!((d.Kind == c.Kind) && ((d.Price == c.Price) && true))) then
      some (.stop (.stop false))
     else
      (bV .i64 (a+1)).bind fun f=>
      some (.next f)
    else
     some (.stop (.next ()))) aU (0:Int)) fun _=>
  some true
def M.i2:Option Bool:=
 (M.h7).bind fun n=>
 (M.j7).bind fun d=>
 (M.i4 n d).bind fun b=>
 (
  bif ((b.length:Int) != 3) then
   some true
  else
   (bq b 2).bind fun a=>
   some (!((a.Kind == (-1)) && ((a.At == 2) && ((a.Text == [39,97,98,32,99]) && ((a.Look == 6) && true)))))).bind fun (c:Bool)=>
 bif c then
  some false
 else
  (
   (M.a8 [104,119,105,108,101] [119,104,105,108,101]).bind fun l=>
   bif (l == 1) then
    (M.a8 [99,97] [97,98,99]).bind fun k=>
    bif (k == 3) then
     (M.h7).bind fun j=>
     (bq b 2).bind fun o=>
     (M.a9 j o).bind fun i=>
     (M.g6 i [(bh.mk 3 6)]).bind fun h=>
     bif h then
      (M.h7).bind fun g=>
      (M.a9 g (T_Token.mk 1 0 [102,105] 0)).bind fun f=>
      (M.g6 f [(bh.mk 0 4)]).bind fun e=>
      some e
     else
      some false
    else
     some false
   else
    some false).bind fun (m:Bool)=>
  some m
def M.f1 (b:T_LexSpec) (h:Int) (g:Str):Option Bool:=
 (bq b.Defs h).bind fun a=>
 (
  bif (decide (0<b.Unclosed)) then
   bif (a.Kind != 2) then
    bif (a.Close != []) then
     (rJ g a.Close).bind fun c=>
     (M.c4 a).bind fun e=>
     (M.f9 e c).bind fun d=>
     some d
    else
     some false
   else
    some false
  else
   some false).bind fun (f:Bool)=>
 some f
def M.e1 (e:Str) (d:Str):Option Int:=
 (bV .i64 ((e.length:Int)+1)).bind fun Q=>
 (mE 24 Q ([]:List Int)).bind fun T=>
 (
  bg (fun (h:(List (List Int))×Int)=>match h with
  | (j,a)=>
   bif (decide (a≤(e.length:Int))) then
    (
     (bV .i64 ((d.length:Int)+1)).bind fun P=>
     (mE 8 P (0:Int)).bind fun R=>
     (cK j a R).bind fun t=>
     bg (fun (h:(List (List Int))×Int)=>match h with
     | (c,b)=>
      bif (decide (b≤(d.length:Int))) then
       (
        (
         bif (a == 0) then
          some true
         else
          some (b == 0)).bind fun (x:Bool)=>
        bif x then
         (bq c a).bind fun a3=>
         (bV .i64 (a+b)).bind fun N=>
         (cK a3 b N).bind fun r=>
         (cK c a r).bind fun q=>
         some q
        else
         (
          (bV .i64 (a - 1)).bind fun L=>
          (eh e L).bind fun a9=>
          (bV .i64 (b - 1)).bind fun K=>
          (eh d K).bind fun a8=>
          bif (a9 == a8) then
           some (0:Int)
          else
           some (1:Int)).bind fun (w:Int)=>
         (bq c a).bind fun m=>
         (bV .i64 (a - 1)).bind fun i=>
         (bq c i).bind fun l=>
         (bq l b).bind fun a2=>
         (bV .i64 (a2+1)).bind fun J=>
         (bV .i64 (b - 1)).bind fun g=>
         (bq m g).bind fun a1=>
         (bV .i64 (a1+1)).bind fun I=>
         (bq l g).bind fun a0=>
         (bV .i64 (a0+w)).bind fun H=>
         (cK m b (nN J I H)).bind fun p=>
         (cK c a p).bind fun f=>
         (
          bif (decide (1<a)) then
           bif (decide (1<b)) then
            (eh e i).bind fun a7=>
            (bV .i64 (b - 2)).bind fun G=>
            (eh d G).bind fun a6=>
            bif (a7 == a6) then
             (bV .i64 (a - 2)).bind fun F=>
             (eh e F).bind fun a5=>
             (eh d g).bind fun a4=>
             some (a5 == a4)
            else
             some false
           else
            some false
          else
           some false).bind fun (v:Bool)=>
         bif v then
          (bq f a).bind fun k=>
          (bq k b).bind fun Y=>
          (bV .i64 (a - 2)).bind fun D=>
          (bq f D).bind fun X=>
          (bV .i64 (b - 2)).bind fun B=>
          (bq X B).bind fun W=>
          (bV .i64 (W+1)).bind fun A=>
          (cK k b (mF Y A)).bind fun o=>
          (cK f a o).bind fun n=>
          some n
         else
          some f).bind fun (s:(List (List Int)))=>
       (bV .i64 (b+1)).bind fun z=>
       some (.next (s,z))
      else
       some (.stop c)) aU (t,(0:Int))).bind fun (u:(List (List Int)))=>
    (bV .i64 (a+1)).bind fun y=>
    some (.next (u,y))
   else
    some (.stop j)) aU (T,(0:Int))).bind fun (S:(List (List Int)))=>
 (bq S (e.length:Int)).bind fun V=>
 (bq V (d.length:Int)).bind fun U=>
 some U
def M.e2 (a:T_LexSpec) (d:T_Token):Option (List bh):=
 (
  bg (fun (o:(List bh)×Int)=>match o with
  | (c,b)=>
   bif (decide (b<(a.Defs.length:Int))) then
    (
     bif (d.Kind == (-1)) then
      (
       (M.f1 a b d.Text).bind fun p=>
       bif p then
        (cP 16 c [(bh.mk b a.Unclosed)]).bind fun g=>
        some g
       else
        some c).bind fun (h:(List bh))=>
      some h
     else
      (
       bif (decide (d.Kind<0)) then
        some true
       else
        bif (decide ((a.Defs.length:Int)≤d.Kind)) then
         some true
        else
         bif (decide (a.Misspelling<1)) then
          some true
         else
          (bq a.Defs d.Kind).bind fun s=>
          bif (s.Kind != 1) then
           some true
          else
           (bq a.Defs b).bind fun r=>
           some (r.Kind != 3)).bind fun (k:Bool)=>
      bif k then
       some c
      else
       (bq a.Defs b).bind fun q=>
       (M.e1 d.Text q.Sample).bind fun e=>
       (
        bif (e == 1) then
         some true
        else
         some (e == 2)).bind fun (j:Bool)=>
       bif j then
        (bV .i64 (e*a.Misspelling)).bind fun n=>
        (cP 16 c [(bh.mk b n)]).bind fun f=>
        some f
       else
        some c).bind fun (i:(List bh))=>
    (bV .i64 (b+1)).bind fun m=>
    some (.next (i,m))
   else
    some (.stop c)) aU (([]:(List bh)),(0:Int))).bind fun (l:(List bh))=>
 some l
def M.c0 (d:T_LexSpec) (c:T_Token):Option Bool:=
 (
  (M.i1 d).bind fun m=>
  bif (!m) then
   some true
  else
   some (decide (20<(c.Text.length:Int)))).bind fun (g:Bool)=>
 bif g then
  (M.i2).bind fun l=>
  some l
 else
  (M.a9 d c).bind fun b=>
  bk (
   bg (fun (a:Int)=>
    bif (decide (a<(b.length:Int))) then
     (
      (bq b a).bind fun e=>
      bif (e.Kind == c.Kind) then
       some true
      else
       bif (decide (e.Price<1)) then
        some true
       else
        bif (decide (0<a)) then
         (bV .i64 (a - 1)).bind fun i=>
         (bq b i).bind fun p=>
         some (decide (e.Kind≤p.Kind))
        else
         some false).bind fun (f:Bool)=>
     bif f then
      some (.stop (.stop false))
     else
      (bV .i64 (a+1)).bind fun h=>
      some (.next h)
    else
     some (.stop (.next ()))) aU (0:Int)) fun _=>
  (
   (M.i2).bind fun j=>
   bif j then
    (M.e2 d c).bind fun o=>
    (M.g6 b o).bind fun n=>
    some n
   else
    some false).bind fun (k:Bool)=>
  some k
end Go.Proofs.YtlcdifnmkafcfaaGreat
namespace Go.Lx
open Go.RowKit
abbrev I6 (n:Int):Value:=Value.int .i64 n
abbrev U8 (n:Int):Value:=Value.int .u8 n
abbrev U6 (n:Int):Value:=Value.int .u64 n
abbrev Bo (b:Bool):Value:=Value.bool b
abbrev Z0:Value:=Value.slice none 0 0
abbrev P0 (b:Nat):Value:=Value.pointer (some ⟨b,0,none⟩)
abbrev Ag (l:List Value):Value:=Value.agg l.toArray
abbrev bx (b:Nat) (T:TypeId) (cs:List Value):Res:=.obj b (.cells cs.toArray T (0,0))
abbrev Sp (g0:Hp) (w0:World) (g:Hp) (w:World) (L:List Res):Prop:=Sep g0 w0 g w L
theorem si {α:Type} {a b:α} (h:some a=some b):a=b:=Option.some.inj h
theorem bX:([]:List Deferred)=[]:=rfl
def As:List Nat→Bool
  | []=>true
  | i::l=>!(l.elem i) && As l
theorem pc:∀ {l:List Nat},As l=true→l.Nodup
  | [],_=>List.nodup_nil
  | i::l,h=>by
    simp only [As,Bool.and_eq_true,Bool.not_eq_true'] at h
    refine List.nodup_cons.2 ⟨fun hm=>?_,pc h.2⟩
    have:=List.elem_eq_true_of_mem hm
    rw [h.1] at this; cases this
def xy (A:List Res):List Nat→Option (List Res)
  | []=>some []
  | i::l=>match A[i]?,xy A l with
    | some r,some m=>some (r::m)
    | _,_=>none
theorem qH {A:List Res}:∀ {is:List Nat} {L:List Res},xy A is=some L→L.map some=is.map (A[·]?)
  | [],L,h=>by cases h; rfl
  | i::is,L,h=>by
    unfold xy at h
    split at h
    · rename_i r m h1 h2
      cases h
      rw [List.map_cons,List.map_cons,h1,qH h2]
    · cases h
def Ad (n:Nat) (is:List Nat) (L:List Res):Option (List Res):=bif As is then (match xy (L.take n) is with|some A=>some (A++L.drop n)|none=>none) else none
theorem Sep.sU {g0 g:Hp} {w0 w:World} {L L':List Res} (h:Sep g0 w0 g w L) (n:Nat) (is:List Nat) (hl:Ad n is L=some L'):Sep g0 w0 g w L':=by
  unfold Ad at hl
  cases hn:As is with
  | false=>rw [hn] at hl; cases hl
  | true=>
    rw [hn,cond_true] at hl
    split at hl
    · rename_i A b
      cases hl
      have a:Sep g0 w0 g w (L.take n++L.drop n):=by rw [List.take_append_drop]; exact h
      exact a.selT is (pc hn) (qH b)
    · cases hl
section
variable {P:Program} {n:Fr} {Q:EPost} {E:Env} {w:World} {ops:Array Oper} {rest:List Oper} {op:Op} {ty:TypeId} {ps:String} {af:Array Edge} {g0 g:Hp} {w0:World} {L:List Res}
theorem SR {id:Nat} {l:List Oper} {y:Code} (h:OW P n l.toArray (px (WP P n y Q) Q) l E w):WP P n (.seq (.region id l.toArray false) y) Q E w:=ay (ai h)
theorem NR {id:Nat} {l:List Oper} {y:Code} {Q':EPost} (h:OW P n l.toArray (px (WP P n y Q) Q) l E w):OW P n ops (px (WP P n (.seq (.region id l.toArray false) y) Q) Q') [] E w:=aa (SR h)
theorem Om {d:Tmp} {x:Operand} (v:Value) (h:ev E x=v) (hd:Nat.blt d n.sz=true) (k:OW P n ops Q rest (dM E d v) w):OW P n ops Q (⟨some d,.move x,ty,ps,af,none⟩::rest) E w:=O (aj h) hd k
theorem Oa {d:Tmp} {x:Operand} (v:Value) (h:ev E x=v) (hd:Nat.blt d n.sz=true) (k:OW P n ops Q rest (dM E d v) w):OW P n ops Q (⟨some d,.assign x,ty,ps,af,none⟩::rest) E w:=O (ba h) hd k
theorem Of {d:Tmp} {T ft:TypeId} {x:Operand} {f b o o':Nat} {fs:Array Field} {fd:Field} {agg:Bool} {size bytes:Nat} {z:Value} (hT:P.underlying T=some (.struct fs)) (ht:eb P ft agg size bytes z) (hf:fs[f]?=some fd) (he:fd.type=ft) (a:Nat.blt 0 size=true)
    (hx:ev E x=.pointer (some ⟨b,o,none⟩)) (ho:o'=o+fd.offset) (hd:Nat.blt d n.sz=true) (k:OW P n ops Q rest (dM E d (.pointer (some ⟨b,o',none⟩))) w):OW P n ops Q (⟨some d,.fieldAddr T x f,ty,ps,af,none⟩::rest) E w:=
  O (ap hT ht hf he a hx ho) hd k
theorem Ol {d:Tmp} {T:TypeId} {size bytes:Nat} {z:Value} {x:Operand} (v:Value) (ht:eb P T false size bytes z) (hs:Sep g0 w0 g w L) (i o:Nat) {b:Nat} {T':TypeId} {cs:List Value} (hx:ev E x=.pointer (some ⟨b,o,none⟩)) (hi:L[i]?=some (rM b T' cs)) (hv:cs[o]?=some v)
    (hd:Nat.blt d n.sz=true) (k:OW P n ops Q rest (dM E d v) w):OW P n ops Q (⟨some d,.load T x,ty,ps,af,none⟩::rest) E w:=O (aV ht hx (hs.cell hi hv)) hd k
theorem On {d:Tmp} {T:TypeId} {size bytes:Nat} {z:Value} {x:Operand} {b:Nat} {T':TypeId} (cs:List Value) (ht:eb P T true size bytes z) (hl:cs.length=size) (hs:Sep g0 w0 g w L) (i:Nat) (hx:ev E x=.pointer (some ⟨b,0,none⟩)) (hi:L[i]?=some (rM b T' cs))
    (hd:Nat.blt d n.sz=true) (k:OW P n ops Q rest (dM E d (.agg cs.toArray)) w):OW P n ops Q (⟨some d,.load T x,ty,ps,af,none⟩::rest) E w:=O (cv ht hx hl (hs.cells hi)) hd k
theorem Oe {d:Tmp} {T:TypeId} {size bytes:Nat} {z:Value} {x:Operand} {b o:Nat} (cs:List Value) (ht:eb P T true size bytes z) (hl:cs.length=size) (hc:∀j u,cs[j]?=some u→w.cell? ⟨b,o+j,none⟩=some u) (hx:ev E x=.pointer (some ⟨b,o,none⟩))
    (hd:Nat.blt d n.sz=true) (k:OW P n ops Q rest (dM E d (.agg cs.toArray)) w):OW P n ops Q (⟨some d,.load T x,ty,ps,af,none⟩::rest) E w:=O (aQ ht hx hl (.inl rfl) hc rfl) hd k
theorem Oc {d:Tmp} {T:TypeId} {bytes:Nat} {z:Value} {x:Operand} {b o:Nat} (v:Value) (ht:eb P T false 1 bytes z) (hc:∀j u,[v][j]?=some u→w.cell? ⟨b,o+j,none⟩=some u) (hx:ev E x=.pointer (some ⟨b,o,none⟩))
    (hd:Nat.blt d n.sz=true) (k:OW P n ops Q rest (dM E d v) w):OW P n ops Q (⟨some d,.load T x,ty,ps,af,none⟩::rest) E w:=O (aQ (cs:=[v]) ht hx rfl (.inr rfl) hc rfl) hd k
theorem Ox {d:Tmp} {x:Operand} {vs:List Value} {i:Nat} (v:Value) (hx:ev E x=.tuple vs.toArray) (hi:vs[i]?=some v) (hd:Nat.blt d n.sz=true) (k:OW P n ops Q rest (dM E d v) w):OW P n ops Q (⟨some d,.extract x i,ty,ps,af,none⟩::rest) E w:=O (ux hx hi) hd k
theorem Ob {d:Tmp} {T:TypeId} {x:Operand} (zs:List Value) (hs:Sep g0 w0 g w L) (hx:ev E x=.agg zs.toArray) (hd:Nat.blt d n.sz=true)
    (k:∀b w',Sep g0 w0 g w' (rM b T zs::L)→OW P n ops Q rest (dM E d (.pointer (some ⟨b,0,none⟩))) w'):OW P n ops Q (⟨some d,.box T x,ty,ps,af,none⟩::rest) E w:=iB hx hs zs rfl hd k
theorem dn {T T':TypeId} {x y:Operand} {b:Nat} {cs:List Value} {size bytes:Nat} {z:Value} (ht:eb P T true size bytes z) (hs:Sep g0 w0 g w L) (i:Nat) (vs:List Value) (hi:L[i]?=some (rM b T' cs))
    (hx:ev E x=.pointer (some ⟨b,0,none⟩)) (hy:ev E y=.agg vs.toArray) (a:∀v∈vs,v.oneCell'=true) (hl:vs.length=size) (hl':cs.length=vs.length)
    (k:∀w',Sep g0 w0 g w' (L.set i (rM b T' vs))→OW P n ops Q rest E w'):OW P n ops Q (⟨none,.store T x y,ty,ps,af,none⟩::rest) E w:=cz ht hs hi hx hy rfl a hl hl' k
theorem jS {l:List Value} (h:(l.all fun v=>v.oneCell')=true):∀v∈l,v.oneCell'=true:=fun v hv=>List.all_eq_true.1 h v hv
def sW (ops:Array Oper) (E:Env) (j:Nat):Option Value:=match ops[j]? with
  | some o=>match o.dst with
    | some d=>some (E d)
    | none=>none
  | none=>none
theorem ib {j:Nat} {v:Value} (h:sW ops E j=some v):∃oj d0,ops[j]?=some oj∧oj.dst=some d0∧ev E (.tmp d0)=v:=by
  unfold sW at h
  split at h
  · rename_i o h1
    split at h
    · rename_i d h2
      cases h
      exact ⟨o,d,h1,h2,rfl⟩
    · cases h
  · cases h
theorem OJ {d:Tmp} {j:Nat} {want b c:Bool} (hg:b=c) (hj:sW ops E j=some (.bool b)) (hne:(c == want)=false) (hd:Nat.blt d n.sz=true) (k:OW P n ops Q rest (dM E d undef) w):OW P n ops Q (⟨some d,op,ty,ps,af,some (j,want)⟩::rest) E w:=by
  obtain ⟨oj,d0,h1,h2,h3⟩:=ib hj
  exact OK h1 h2 h3 (by rw [hg]; exact hne) hd k
theorem OI {d:Tmp} {v:Value} {w':World} {j:Nat} {want b c:Bool} (hg:b=c) (hj:sW ops E j=some (.bool b)) (hne:(c == want)=true) (hr:cy P E ⟨some d,op,ty,ps,af,some (j,want)⟩ w v w') (hd:Nat.blt d n.sz=true) (k:OW P n ops Q rest (dM E d v) w'):OW P n ops Q (⟨some d,op,ty,ps,af,some (j,want)⟩::rest) E w:=by
  obtain ⟨oj,g,f,e,a⟩:=ib hj
  exact OG f e a (by rw [hg]; exact hne) hr hd k
theorem CI {d:Tmp} {f:FuncId} {xs:Array Operand} {ats:Array TypeId} {j:Nat} {want b c:Bool} (hg:b=c) (hj:sW ops E j=some (.bool b)) (hne:(c == want)=true) (args:List Value) {R:Value→World→Prop} (hf:CF P f) (ha:xs.toList.map (ev E)=args) (hc:bl P f args.toArray w R) (hd:Nat.blt d n.sz=true)
    (k:∀v w',R v w'→OW P n ops Q rest (dM E d v) w'):OW P n ops Q (⟨some d,.call { callee:=.value (.func f),args:=xs,argTypes:=ats },ty,ps,af,some (j,want)⟩::rest) E w:=by
  obtain ⟨oj,h,g,e,a⟩:=ib hj
  exact CG g e a (by rw [hg]; exact hne) args hf ha hc hd k
theorem SI {Q:Env→Prop} {d:Tmp} {v:Value} {j:Nat} {want b c:Bool} (hg:b=c) (hj:sW ops E j=some (.bool b)) (hne:(c == want)=true) (hr:cy P E ⟨some d,op,ty,ps,af,some (j,want)⟩ w v w) (hd:Nat.blt d n.sz=true) (k:SW P n ops w Q rest (dM E d v)):SW P n ops w Q (⟨some d,op,ty,ps,af,some (j,want)⟩::rest) E:=by
  obtain ⟨oj,g,f,e,a⟩:=ib hj
  exact SG f e a (by rw [hg]; exact hne) hr hd k
theorem SJ {Q:Env→Prop} {d:Tmp} {j:Nat} {want b c:Bool} (hg:b=c) (hj:sW ops E j=some (.bool b)) (hne:(c == want)=false) (hd:Nat.blt d n.sz=true) (k:SW P n ops w Q rest (dM E d undef)):SW P n ops w Q (⟨some d,op,ty,ps,af,some (j,want)⟩::rest) E:=by
  obtain ⟨oj,d0,h1,h2,h3⟩:=ib hj
  exact SK h1 h2 h3 (by rw [hg]; exact hne) hd k
end
end Go.Lx
set_option linter.unusedVariables false
set_option linter.unusedSimpArgs false
namespace Go.Proofs.YtlcdifnmkafcfaaGreat
open Go.Lx Go.RowKit
theorem mo:Tryz.prog.follows .mixedOrders=true:=by kernel_rfl
theorem aW:eb Tryz.prog 3 false 1 8 (Value.int .i64 0):=dR (by kernel_rfl) (by kernel_rfl)
theorem cF:eb Tryz.prog 4 false 1 1 (Value.bool false):=dR (by kernel_rfl) (by kernel_rfl)
theorem Ac:eb Tryz.prog 5 false 1 1 (Value.int .u8 0):=dR (by kernel_rfl) (by kernel_rfl)
theorem db:eb Tryz.prog 9 false 1 16 (ah []):=dR (by kernel_rfl) (by kernel_rfl)
theorem cV:eb Tryz.prog 22 false 1 24 (.slice none 0 0):=dR (by kernel_rfl) (by kernel_rfl)
theorem kg:eb Tryz.prog 24 true 4 48 (Value.agg (List.toArray (α:=Value) [.slice none 0 0,Value.bool false,Value.int .i64 0,Value.int .i64 0])):=dR (by kernel_rfl) (by kernel_rfl)
theorem bP:eb Tryz.prog 27 false 1 24 (.slice none 0 0):=dR (by kernel_rfl) (by kernel_rfl)
theorem jK:eb Tryz.prog 28 false 1 24 (.slice none 0 0):=dR (by kernel_rfl) (by kernel_rfl)
theorem eH:eb Tryz.prog 30 true 3 72 (Value.agg (List.toArray (α:=Value) [.slice none 0 0,.slice none 0 0,.slice none 0 0])):=dR (by kernel_rfl) (by kernel_rfl)
theorem qE:eb Tryz.prog 31 false 1 8 (Value.int .i64 0):=dR (by kernel_rfl) (by kernel_rfl)
theorem ew:eb Tryz.prog 43 true 4 40 (Value.agg (List.toArray (α:=Value) [Value.int .i64 0,Value.int .i64 0,ah [],Value.int .i64 0])):=dR (by kernel_rfl) (by kernel_rfl)
theorem eu:eb Tryz.prog 47 true 2 16 (Value.agg (List.toArray (α:=Value) [Value.int .i64 0,Value.int .i64 0])):=dR (by kernel_rfl) (by kernel_rfl)
theorem dV:eb Tryz.prog 52 false 1 8 (Value.int .u64 0):=dR (by kernel_rfl) (by kernel_rfl)
theorem co:eb Tryz.prog 54 true 4 32 (cC .u64 (aA.zero 4)):=dR (by kernel_rfl) (by kernel_rfl)
theorem cA:eb Tryz.prog 55 false 1 24 (.slice none 0 0):=dR (by kernel_rfl) (by kernel_rfl)
theorem aP:eb Tryz.prog 57 true 6 64 (Value.agg (List.toArray (α:=Value) (([Value.int .i64 0])++(((aA.zero 4).1.map (Value.int .u64))++([.slice none 0 0]))))):=dR (by kernel_rfl) (by kernel_rfl)
theorem dN:eb Tryz.prog 60 true 5 72 (Value.agg (List.toArray (α:=Value) [ah [],Value.int .i64 0,ah [],ah [],ah []])):=dR (by kernel_rfl) (by kernel_rfl)
theorem fV:eb Tryz.prog 79 false 1 24 (.slice none 0 0):=dR (by kernel_rfl) (by kernel_rfl)
theorem iJ:eb Tryz.prog 81 true 4 64 (Value.agg (List.toArray (α:=Value) [Value.int .i64 0,Value.int .i64 0,.slice none 0 0,.slice none 0 0])):=dR (by kernel_rfl) (by kernel_rfl)
theorem oA:eb Tryz.prog 98 false 1 24 (.slice none 0 0):=dR (by kernel_rfl) (by kernel_rfl)
theorem oz:eb Tryz.prog 99 false 1 24 (.slice none 0 0):=dR (by kernel_rfl) (by kernel_rfl)
theorem eB:eb Tryz.prog 103 true 3 56 (Value.agg (List.toArray (α:=Value) [Value.bool false,.slice none 0 0,.slice none 0 0])):=dR (by kernel_rfl) (by kernel_rfl)
theorem eL:eb Tryz.prog 106 false 1 24 (.slice none 0 0):=dR (by kernel_rfl) (by kernel_rfl)
theorem tu:eb Tryz.prog 107 true 2 16 (cC .i64 (aA.zero 2)):=dR (by kernel_rfl) (by kernel_rfl)
theorem fx:eb Tryz.prog 109 true 7 56 (Value.agg (List.toArray (α:=Value) (([Value.int .i64 0])++(([Value.int .i64 0])++(([Value.bool false])++((aA.zero 4).1.map (Value.int .u64))))))):=dR (by kernel_rfl) (by kernel_rfl)
theorem BD:Tryz.prog.eqGuardType Tryz.prog.depth 43=false:=by kernel_rfl
theorem BC:Tryz.prog.eqGuardType Tryz.prog.depth 47=false:=by kernel_rfl
theorem wn:Tryz.prog.eqGuardType Tryz.prog.depth 54=false:=by kernel_rfl
theorem tT:Tryz.prog.concrete 122=true:=by kernel_rfl
theorem CM:CF Tryz.prog 7:=bG Tryz.func7 rfl (by decide)
theorem CJ:CF Tryz.prog 8:=bG Tryz.func8 rfl (by decide)
theorem Cx:CF Tryz.prog 12:=bG Tryz.func12 rfl (by decide)
theorem jU:CF Tryz.prog 16:=bG Tryz.func16 rfl (by decide)
theorem jT:CF Tryz.prog 17:=bG Tryz.func17 rfl (by decide)
theorem Cw:CF Tryz.prog 18:=bG Tryz.func18 rfl (by decide)
theorem Cv:CF Tryz.prog 19:=bG Tryz.func19 rfl (by decide)
theorem AV:CF Tryz.prog 20:=bG Tryz.func20 rfl (by decide)
theorem wz:CF Tryz.prog 21:=bG Tryz.func21 rfl (by decide)
theorem Cu:CF Tryz.prog 22:=bG Tryz.func22 rfl (by decide)
theorem oh:CF Tryz.prog 23:=bG Tryz.func23 rfl (by decide)
theorem Ct:CF Tryz.prog 24:=bG Tryz.func24 rfl (by decide)
theorem rI:CF Tryz.prog 25:=bG Tryz.func25 rfl (by decide)
theorem Cs:CF Tryz.prog 26:=bG Tryz.func26 rfl (by decide)
theorem Cr:CF Tryz.prog 28:=bG Tryz.func28 rfl (by decide)
theorem AU:CF Tryz.prog 29:=bG Tryz.func29 rfl (by decide)
theorem Cq:CF Tryz.prog 30:=bG Tryz.func30 rfl (by decide)
theorem Cp:CF Tryz.prog 33:=bG Tryz.func33 rfl (by decide)
theorem Co:CF Tryz.prog 34:=bG Tryz.func34 rfl (by decide)
theorem AS:CF Tryz.prog 35:=bG Tryz.func35 rfl (by decide)
theorem Cm:CF Tryz.prog 36:=bG Tryz.func36 rfl (by decide)
theorem Ck:CF Tryz.prog 37:=bG Tryz.func37 rfl (by decide)
theorem Cj:CF Tryz.prog 38:=bG Tryz.func38 rfl (by decide)
theorem Ci:CF Tryz.prog 39:=bG Tryz.func39 rfl (by decide)
theorem Ch:CF Tryz.prog 40:=bG Tryz.func40 rfl (by decide)
theorem Cg:CF Tryz.prog 41:=bG Tryz.func41 rfl (by decide)
theorem Cf:CF Tryz.prog 42:=bG Tryz.func42 rfl (by decide)
theorem Ce:CF Tryz.prog 43:=bG Tryz.func43 rfl (by decide)
theorem Cd:CF Tryz.prog 44:=bG Tryz.func44 rfl (by decide)
theorem Cc:CF Tryz.prog 45:=bG Tryz.func45 rfl (by decide)
theorem zI:CF Tryz.prog 46:=bG Tryz.func46 rfl (by decide)
theorem AR:CF Tryz.prog 47:=bG Tryz.func47 rfl (by decide)
theorem AP:CF Tryz.prog 48:=bG Tryz.func48 rfl (by decide)
theorem Cb:CF Tryz.prog 49:=bG Tryz.func49 rfl (by decide)
theorem Ca:CF Tryz.prog 50:=bG Tryz.func50 rfl (by decide)
theorem BZ:CF Tryz.prog 51:=bG Tryz.func51 rfl (by decide)
theorem yq:CF Tryz.prog 52:=bG Tryz.func52 rfl (by decide)
theorem BY:CF Tryz.prog 53:=bG Tryz.func53 rfl (by decide)
theorem yp:CF Tryz.prog 54:=bG Tryz.func54 rfl (by decide)
theorem zH:CF Tryz.prog 55:=bG Tryz.func55 rfl (by decide)
theorem BW:CF Tryz.prog 56:=bG Tryz.func56 rfl (by decide)
theorem BV:CF Tryz.prog 57:=bG Tryz.func57 rfl (by decide)
theorem BU:CF Tryz.prog 58:=bG Tryz.func58 rfl (by decide)
theorem yo:CF Tryz.prog 59:=bG Tryz.func59 rfl (by decide)
theorem BT:CF Tryz.prog 60:=bG Tryz.func60 rfl (by decide)
theorem BS:CF Tryz.prog 61:=bG Tryz.func61 rfl (by decide)
theorem BR:CF Tryz.prog 62:=bG Tryz.func62 rfl (by decide)
theorem BP:CF Tryz.prog 63:=bG Tryz.func63 rfl (by decide)
theorem zG:CF Tryz.prog 64:=bG Tryz.func64 rfl (by decide)
theorem BO:CF Tryz.prog 65:=bG Tryz.func65 rfl (by decide)
theorem yn:CF Tryz.prog 66:=bG Tryz.func66 rfl (by decide)
theorem ym:CF Tryz.prog 67:=bG Tryz.func67 rfl (by decide)
theorem ln:CF Tryz.prog 68:=bG Tryz.func68 rfl (by decide)
theorem BN:CF Tryz.prog 69:=bG Tryz.func69 rfl (by decide)
theorem yl:CF Tryz.prog 70:=bG Tryz.func70 rfl (by decide)
theorem yk:CF Tryz.prog 71:=bG Tryz.func71 rfl (by decide)
theorem BM:CF Tryz.prog 72:=bG Tryz.func72 rfl (by decide)
theorem yj:CF Tryz.prog 73:=bG Tryz.func73 rfl (by decide)
theorem AO:CF Tryz.prog 74:=bG Tryz.func74 rfl (by decide)
theorem mH:CF Tryz.prog 75:=bG Tryz.func75 rfl (by decide)
theorem AM:CF Tryz.prog 76:=bG Tryz.func76 rfl (by decide)
theorem AL:CF Tryz.prog 77:=bG Tryz.func77 rfl (by decide)
theorem AJ:CF Tryz.prog 78:=bG Tryz.func78 rfl (by decide)
theorem zF:CF Tryz.prog 79:=bG Tryz.func79 rfl (by decide)
theorem AI:CF Tryz.prog 80:=bG Tryz.func80 rfl (by decide)
theorem AH:CF Tryz.prog 81:=bG Tryz.func81 rfl (by decide)
theorem BL:CF Tryz.prog 82:=bG Tryz.func82 rfl (by decide)
theorem BK:CF Tryz.prog 83:=bG Tryz.func83 rfl (by decide)
theorem BJ:CF Tryz.prog 84:=bG Tryz.func84 rfl (by decide)
theorem zE:CF Tryz.prog 85:=bG Tryz.func85 rfl (by decide)
theorem BI:CF Tryz.prog 86:=bG Tryz.func86 rfl (by decide)
theorem yi:CF Tryz.prog 87:=bG Tryz.func87 rfl (by decide)
theorem uV:CF Tryz.prog 88:=bG Tryz.func88 rfl (by decide)
theorem AF:CF Tryz.prog 89:=bG Tryz.func89 rfl (by decide)
theorem AE:CF Tryz.prog 90:=bG Tryz.func90 rfl (by decide)
theorem BH:CF Tryz.prog 91:=bG Tryz.func91 rfl (by decide)
theorem AD:CF Tryz.prog 92:=bG Tryz.func92 rfl (by decide)
theorem AC:CF Tryz.prog 93:=bG Tryz.func93 rfl (by decide)
theorem BG:CF Tryz.prog 94:=bG Tryz.func94 rfl (by decide)
theorem BF:CF Tryz.prog 95:=bG Tryz.func95 rfl (by decide)
theorem AB:CF Tryz.prog 96:=bG Tryz.func96 rfl (by decide)
theorem AA:CF Tryz.prog 97:=bG Tryz.func97 rfl (by decide)
theorem Bh:CF Tryz.prog 102:=bG Tryz.func102 rfl (by decide)
theorem yZ:CF Tryz.prog 103:=bG Tryz.func103 rfl (by decide)
theorem yY:CF Tryz.prog 104:=bG Tryz.func104 rfl (by decide)
theorem Bg:CF Tryz.prog 107:=bG Tryz.func107 rfl (by decide)
theorem Bf:CF Tryz.prog 108:=bG Tryz.func108 rfl (by decide)
theorem Be:CF Tryz.prog 109:=bG Tryz.func109 rfl (by decide)
theorem wB:CF Tryz.prog 110:=bG Tryz.func110 rfl (by decide)
theorem tZ:CF Tryz.prog 111:=bG Tryz.func111 rfl (by decide)
theorem yX:CF Tryz.prog 112:=bG Tryz.func112 rfl (by decide)
theorem Bd:CF Tryz.prog 113:=bG Tryz.func113 rfl (by decide)
theorem pq:CF Tryz.prog 114:=bG Tryz.func114 rfl (by decide)
theorem yW:CF Tryz.prog 115:=bG Tryz.func115 rfl (by decide)
theorem wA:CF Tryz.prog 116:=bG Tryz.func116 rfl (by decide)
theorem yV:CF Tryz.prog 117:=bG Tryz.func117 rfl (by decide)
theorem Bc:CF Tryz.prog 118:=bG Tryz.func118 rfl (by decide)
theorem Bb:CF Tryz.prog 119:=bG Tryz.func119 rfl (by decide)
theorem tY:CF Tryz.prog 120:=bG Tryz.func120 rfl (by decide)
theorem Ba:CF Tryz.prog 121:=bG Tryz.func121 rfl (by decide)
theorem yU:CF Tryz.prog 122:=bG Tryz.func122 rfl (by decide)
theorem AZ:CF Tryz.prog 123:=bG Tryz.func123 rfl (by decide)
theorem yT:CF Tryz.prog 124:=bG Tryz.func124 rfl (by decide)
theorem AY:CF Tryz.prog 125:=bG Tryz.func125 rfl (by decide)
theorem AW:CF Tryz.prog 126:=bG Tryz.func126 rfl (by decide)
open Go.ChangeShapes Go.WideShapes Go.ChangeAt
def kZ (x:bM):Prop:=(fun s=>s.length≤maxLen) x.Name∧(uj .i64) x.Kind∧(fun s=>s.length≤maxLen) x.Pattern∧(fun s=>s.length≤maxLen) x.Sample∧(fun s=>s.length≤maxLen) x.Close
theorem mC:gr Tryz.prog 60 dO kZ:=by
  intro H enc w f cs x h
  obtain ⟨_,_,_,_,hl,hlen,hf⟩:=DataW.trod_struct Df h
  obtain ⟨e,l,r⟩:=cT (gY CV) hf hlen 0 rfl (o:=0) (s:=1) rfl (by kernel_rfl)
  obtain ⟨d,k,q⟩:=cT (fF Di) hf hlen 1 rfl (o:=1) (s:=1) rfl (by kernel_rfl)
  obtain ⟨c,j,p⟩:=cT (gY CV) hf hlen 2 rfl (o:=2) (s:=1) rfl (by kernel_rfl)
  obtain ⟨b,i,n⟩:=cT (gY CV) hf hlen 3 rfl (o:=3) (s:=1) rfl (by kernel_rfl)
  obtain ⟨a,g,m⟩:=cT (gY CV) hf hlen 4 rfl (o:=4) (s:=1) rfl (by kernel_rfl)
  have t:cs.length=5:=hl.trans (by kernel_rfl)
  refine ⟨⟨e,d,c,b,a⟩,⟨_,_,_,_,_,?_,l,k,j,i,g⟩,r,q,p,n,m⟩
  exact (oR cs 0 1).trans (congrArg (_++·) ((oR cs 1 1).trans (congrArg (_++·) ((oR cs 2 1).trans (congrArg (_++·) ((oR cs 3 1).trans (congrArg (_++·) (zC (o:=4) (s:=1) t))))))))
def jf (x:T_LexSpec):Prop:=(fun l=>(∀x∈l,kZ x)∧l.length≤maxLen) x.Defs∧(fun _=>True) x.Layout∧(uj .i64) x.Misspelling∧(uj .i64) x.Unclosed
theorem nD:gr Tryz.prog 24 cO jf:=by
  intro H enc w f cs x h
  obtain ⟨_,_,_,_,hl,hlen,hf⟩:=DataW.trod_struct Da h
  obtain ⟨d,j,n⟩:=cT (qN Dd (by kernel_rfl) (by decide) mC) hf hlen 0 rfl (o:=0) (s:=1) rfl (by kernel_rfl)
  obtain ⟨c,i,m⟩:=cT (su Du) hf hlen 1 rfl (o:=1) (s:=1) rfl (by kernel_rfl)
  obtain ⟨b,g,l⟩:=cT (fF Di) hf hlen 2 rfl (o:=2) (s:=1) rfl (by kernel_rfl)
  obtain ⟨a,e,k⟩:=cT (fF Di) hf hlen 3 rfl (o:=3) (s:=1) rfl (by kernel_rfl)
  have p:cs.length=4:=hl.trans (by kernel_rfl)
  refine ⟨⟨d,c,b,a⟩,⟨_,_,_,_,?_,j,i,g,e⟩,n,m,l,k⟩
  exact (oR cs 0 1).trans (congrArg (_++·) ((oR cs 1 1).trans (congrArg (_++·) ((oR cs 2 1).trans (congrArg (_++·) (zC (o:=3) (s:=1) p))))))
def pa (x:T_Token):Prop:=(uj .i64) x.Kind∧(uj .i64) x.At∧(fun s=>s.length≤maxLen) x.Text∧(uj .i64) x.Look
theorem pK:gr Tryz.prog 43 bY pa:=by
  intro H enc w f cs x h
  obtain ⟨_,_,_,_,hl,hlen,hf⟩:=DataW.trod_struct Dj h
  obtain ⟨d,j,n⟩:=cT (fF Di) hf hlen 0 rfl (o:=0) (s:=1) rfl (by kernel_rfl)
  obtain ⟨c,i,m⟩:=cT (fF Di) hf hlen 1 rfl (o:=1) (s:=1) rfl (by kernel_rfl)
  obtain ⟨b,g,l⟩:=cT (gY CV) hf hlen 2 rfl (o:=2) (s:=1) rfl (by kernel_rfl)
  obtain ⟨a,e,k⟩:=cT (fF Di) hf hlen 3 rfl (o:=3) (s:=1) rfl (by kernel_rfl)
  have p:cs.length=4:=hl.trans (by kernel_rfl)
  refine ⟨⟨d,c,b,a⟩,⟨_,_,_,_,?_,j,i,g,e⟩,n,m,l,k⟩
  exact (oR cs 0 1).trans (congrArg (_++·) ((oR cs 1 1).trans (congrArg (_++·) ((oR cs 2 1).trans (congrArg (_++·) (zC (o:=3) (s:=1) p))))))
end Go.Proofs.YtlcdifnmkafcfaaGreat
