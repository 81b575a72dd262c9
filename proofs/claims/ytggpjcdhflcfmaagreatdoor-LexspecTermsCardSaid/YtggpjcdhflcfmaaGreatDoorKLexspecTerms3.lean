/- Part 3 of what the law leans on: my own layer, printed walks, plain facts. -/
import Derived.Test.YtggpjcdhflcfmaaGreatDoorProg
import Derived.Test.YtggpjcdhflcfmaaGreatDoorRows
import Derived.Test.YtggpjcdhflcfmaaGreatDoorCards
import Derived.Test.YtggpjcdhflcfmaaGreatDoorTie
import Derived.SevenTiedAt
import Derived.ChangeVars
import Derived.LaidHandle
import Derived.Handed
import Derived.JoinedOf
import Derived.Test.YtggpjcdhflcfmaaGreatDoorKLexspecTerms2
set_option linter.unusedVariables false
set_option linter.unusedSimpArgs false
namespace Go.Proofs.YtggpjcdhflcfmaaGreatDoor
open Go.Lx Go.RowKit
structure T_TokenDef where
  Name:Str
  Kind:Int
  Pattern:Str
  Sample:Str
  Close:Str
instance:DecidableEq T_TokenDef:=fun a b=>if h:a.Name=b.Name∧a.Kind=b.Kind∧a.Pattern=b.Pattern∧a.Sample=b.Sample∧a.Close=b.Close then isTrue (by cases a; cases b; simp_all) else isFalse (by intro e; subst e; simp at h)
structure T_LexSpec where
  Defs:(List T_TokenDef)
  Layout:Bool
  Misspelling:Int
  Unclosed:Int
instance:DecidableEq T_LexSpec:=fun a b=>if h:a.Defs=b.Defs∧a.Layout=b.Layout∧a.Misspelling=b.Misspelling∧a.Unclosed=b.Unclosed then isTrue (by cases a; cases b; simp_all) else isFalse (by intro e; subst e; simp at h)
structure T_Regex where
  Kind:Int
  Set:(Vec 4)
  Kids:(List T_Regex)
instance:Inhabited T_Regex:=⟨⟨default,Vec.zero 4,[]⟩⟩
structure T_regex_reader where
  s:Str
  atv:Int
instance:DecidableEq T_regex_reader:=fun a b=>if h:a.s=b.s∧a.atv=b.atv then isTrue (by cases a; cases b; simp_all) else isFalse (by intro e; subst e; simp at h)
structure T_S105 where
  fails:(Option Bool)
  err:Int
instance:DecidableEq T_S105:=fun a b=>if h:a.fails=b.fails∧a.err=b.err then isTrue (by cases a; cases b; simp_all) else isFalse (by intro e; subst e; simp at h)
structure T_nfa_builder where
  sets:(List (Vec 4))
  behind:(List (List (Int×Bool)))
instance:DecidableEq T_nfa_builder:=fun a b=>if h:a.sets=b.sets∧a.behind=b.behind then isTrue (by cases a; cases b; simp_all) else isFalse (by intro e; subst e; simp at h)
structure T_nfa_part where
  nullable:Bool
  first:(List Int)
  last:(List Int)
instance:DecidableEq T_nfa_part:=fun a b=>if h:a.nullable=b.nullable∧a.first=b.first∧a.last=b.last then isTrue (by cases a; cases b; simp_all) else isFalse (by intro e; subst e; simp at h)
structure T_NFAArc where
  From:Int
  To:Int
  Epsilon:Bool
  Set:(Vec 4)
instance:DecidableEq T_NFAArc:=fun a b=>if h:a.From=b.From∧a.To=b.To∧a.Epsilon=b.Epsilon∧a.Set=b.Set then isTrue (by cases a; cases b; simp_all) else isFalse (by intro e; subst e; simp at h)
structure T_NFA where
  States:Int
  Start:Int
  Arcs:(List T_NFAArc)
  Accept:(List Int)
instance:DecidableEq T_NFA:=fun a b=>if h:a.States=b.States∧a.Start=b.Start∧a.Arcs=b.Arcs∧a.Accept=b.Accept then isTrue (by cases a; cases b; simp_all) else isFalse (by intro e; subst e; simp at h)
structure T_DFA where
  Class:(List Int)
  Next:(List (List Int))
  Accept:(List Int)
instance:DecidableEq T_DFA:=fun a b=>if h:a.Class=b.Class∧a.Next=b.Next∧a.Accept=b.Accept then isTrue (by cases a; cases b; simp_all) else isFalse (by intro e; subst e; simp at h)
structure T_dfa_pair where
  a:Int
  b:Int
instance:DecidableEq T_dfa_pair:=fun a b=>if h:a.a=b.a∧a.b=b.b then isTrue (by cases a; cases b; simp_all) else isFalse (by intro e; subst e; simp at h)
structure T_dfa_entry where
  atv:T_dfa_pair
  text:Str
instance:DecidableEq T_dfa_entry:=fun a b=>if h:a.atv=b.atv∧a.text=b.text then isTrue (by cases a; cases b; simp_all) else isFalse (by intro e; subst e; simp at h)
structure T_ref08_parser where
  s:Str
  atv:Int
  bad:Bool
instance:DecidableEq T_ref08_parser:=fun a b=>if h:a.s=b.s∧a.atv=b.atv∧a.bad=b.bad then isTrue (by cases a; cases b; simp_all) else isFalse (by intro e; subst e; simp at h)
structure T_ref09_builder where
  sets:(List (Vec 4))
  pairs:(List (Vec 2))
instance:DecidableEq T_ref09_builder:=fun a b=>if h:a.sets=b.sets∧a.pairs=b.pairs then isTrue (by cases a; cases b; simp_all) else isFalse (by intro e; subst e; simp at h)
structure T_ref09_part where
  nullable:Bool
  first:(List Int)
  last:(List Int)
instance:DecidableEq T_ref09_part:=fun a b=>if h:a.nullable=b.nullable∧a.first=b.first∧a.last=b.last then isTrue (by cases a; cases b; simp_all) else isFalse (by intro e; subst e; simp at h)
def tT_TokenDef:Ty T_TokenDef:=⟨5,fun g cs x=>∃c0 c1 c2 c3 c4,cs=c0++(c1++(c2++(c3++(c4))))∧tStr.rel g c0 x.Name∧(tInt .i64).rel g c1 x.Kind∧tStr.rel g c2 x.Pattern∧tStr.rel g c3 x.Sample∧tStr.rel g c4 x.Close,
  fun hg ⟨c0,c1,c2,c3,c4,e,h0,h1,h2,h3,h4⟩=>⟨c0,c1,c2,c3,c4,e,tStr.mono hg h0,(tInt .i64).mono hg h1,tStr.mono hg h2,tStr.mono hg h3,tStr.mono hg h4⟩,
  fun ⟨_,_,_,_,_,e,h0,h1,h2,h3,h4⟩=>by rw [e]; simp [tStr.len h0,(tInt .i64).len h1,tStr.len h2,tStr.len h3,tStr.len h4,tInt,tStr],
  fun ⟨_,_,_,_,_,e,h0,h1,h2,h3,h4⟩ v hv=>by
    subst e; simp only [List.mem_append] at hv; rcases hv with hv|hv|hv|hv|hv
    · exact tStr.one h0 v hv
    · exact (tInt .i64).one h1 v hv
    · exact tStr.one h2 v hv
    · exact tStr.one h3 v hv
    · exact tStr.one h4 v hv⟩
def tT_LexSpec:Ty T_LexSpec:=⟨4,fun g cs x=>∃c0 c1 c2 c3,cs=c0++(c1++(c2++(c3)))∧(tSl tT_TokenDef).rel g c0 x.Defs∧tBool.rel g c1 x.Layout∧(tInt .i64).rel g c2 x.Misspelling∧(tInt .i64).rel g c3 x.Unclosed,
  fun hg ⟨c0,c1,c2,c3,e,h0,h1,h2,h3⟩=>⟨c0,c1,c2,c3,e,(tSl tT_TokenDef).mono hg h0,tBool.mono hg h1,(tInt .i64).mono hg h2,(tInt .i64).mono hg h3⟩,
  fun ⟨_,_,_,_,e,h0,h1,h2,h3⟩=>by rw [e]; simp [(tSl tT_TokenDef).len h0,tBool.len h1,(tInt .i64).len h2,(tInt .i64).len h3,tBool,tInt,tSl],
  fun ⟨_,_,_,_,e,h0,h1,h2,h3⟩ v hv=>by
    subst e; simp only [List.mem_append] at hv; rcases hv with hv|hv|hv|hv
    · exact (tSl tT_TokenDef).one h0 v hv
    · exact tBool.one h1 v hv
    · exact (tInt .i64).one h2 v hv
    · exact (tInt .i64).one h3 v hv⟩
def tT_RegexF (τ:Ty T_Regex):Ty T_Regex:=⟨6,fun g cs x=>∃c0 c1 c2,cs=c0++(c1++(c2))∧(tInt .i64).rel g c0 x.Kind∧(tVec 4 .u64).rel g c1 x.Set∧(tSl τ).rel g c2 x.Kids,
  fun hg ⟨c0,c1,c2,e,h0,h1,h2⟩=>⟨c0,c1,c2,e,(tInt .i64).mono hg h0,(tVec 4 .u64).mono hg h1,(tSl τ).mono hg h2⟩,
  fun ⟨_,_,_,e,h0,h1,h2⟩=>by rw [e]; simp [(tInt .i64).len h0,(tVec 4 .u64).len h1,(tSl τ).len h2,tInt,tSl,tVec],
  fun ⟨_,_,_,e,h0,h1,h2⟩ v hv=>by
    subst e; simp only [List.mem_append] at hv; rcases hv with hv|hv|hv
    · exact (tInt .i64).one h0 v hv
    · exact (tVec 4 .u64).one h1 v hv
    · exact (tSl τ).one h2 v hv⟩
def tT_RegexR:TyFun T_Regex:=⟨6,tT_RegexF,fun _=>rfl,fun ha hb h _ _ hh=>by obtain ⟨c0,c1,c2,e,h0,h1,h2⟩:=hh; exact ⟨c0,c1,c2,e,h0,h1,tSl_imp (ha.trans hb.symm) h h2⟩⟩
def tT_Regex:Ty T_Regex:=⟨6,fun g cs x=>∃n,(tT_RegexR.iter n).rel g cs x,fun hg h=>tT_RegexR.fix_mono hg h,fun h=>tT_RegexR.fix_len h,fun h=>tT_RegexR.fix_one h⟩
theorem tT_Regex_iff {g:Hp} {cs:List Value} {x:T_Regex}:tT_Regex.rel g cs x↔(tT_RegexF tT_Regex).rel g cs x:=by
  constructor
  · rintro ⟨n,h⟩
    cases n with
    | zero=>exact h.elim
    | succ n=>exact tT_RegexR.mono (τ:=tT_RegexR.iter n) (τ':=tT_Regex) (tT_RegexR.iter_sz n) rfl (fun _ _ h=>⟨n,h⟩) _ _ h
  · rintro ⟨c0,c1,c2,e,h0,h1,h2⟩
    obtain ⟨n2,h2⟩:=tT_RegexR.sup (fix:=tT_Regex) (fun _ _ _ h=>h) rfl h2
    exact ⟨n2+1,c0,c1,c2,e,h0,h1,tT_RegexR.leSl (Nat.le_refl _) h2⟩
def tT_S105:Ty T_S105:=⟨2,fun g cs x=>∃c0 c1,cs=c0++(c1)∧(tFn0 Tryz.prog (VRd tBool false)).rel g c0 x.fails∧(tInt .i64).rel g c1 x.err,
  fun hg ⟨c0,c1,e,h0,h1⟩=>⟨c0,c1,e,(tFn0 Tryz.prog (VRd tBool false)).mono hg h0,(tInt .i64).mono hg h1⟩,
  fun ⟨_,_,e,h0,h1⟩=>by rw [e]; simp [(tFn0 Tryz.prog (VRd tBool false)).len h0,(tInt .i64).len h1,tFn0,tInt],
  fun ⟨_,_,e,h0,h1⟩ v hv=>by
    subst e; simp only [List.mem_append] at hv; rcases hv with hv|hv
    · exact (tFn0 Tryz.prog (VRd tBool false)).one h0 v hv
    · exact (tInt .i64).one h1 v hv⟩
def tT_nfa_part:Ty T_nfa_part:=⟨3,fun g cs x=>∃c0 c1 c2,cs=c0++(c1++(c2))∧tBool.rel g c0 x.nullable∧(tSl (tInt .i64)).rel g c1 x.first∧(tSl (tInt .i64)).rel g c2 x.last,
  fun hg ⟨c0,c1,c2,e,h0,h1,h2⟩=>⟨c0,c1,c2,e,tBool.mono hg h0,(tSl (tInt .i64)).mono hg h1,(tSl (tInt .i64)).mono hg h2⟩,
  fun ⟨_,_,_,e,h0,h1,h2⟩=>by rw [e]; simp [tBool.len h0,(tSl (tInt .i64)).len h1,(tSl (tInt .i64)).len h2,tBool,tSl],
  fun ⟨_,_,_,e,h0,h1,h2⟩ v hv=>by
    subst e; simp only [List.mem_append] at hv; rcases hv with hv|hv|hv
    · exact tBool.one h0 v hv
    · exact (tSl (tInt .i64)).one h1 v hv
    · exact (tSl (tInt .i64)).one h2 v hv⟩
def tT_NFAArc:Ty T_NFAArc:=⟨7,fun g cs x=>∃c0 c1 c2 c3,cs=c0++(c1++(c2++(c3)))∧(tInt .i64).rel g c0 x.From∧(tInt .i64).rel g c1 x.To∧tBool.rel g c2 x.Epsilon∧(tVec 4 .u64).rel g c3 x.Set,
  fun hg ⟨c0,c1,c2,c3,e,h0,h1,h2,h3⟩=>⟨c0,c1,c2,c3,e,(tInt .i64).mono hg h0,(tInt .i64).mono hg h1,tBool.mono hg h2,(tVec 4 .u64).mono hg h3⟩,
  fun ⟨_,_,_,_,e,h0,h1,h2,h3⟩=>by rw [e]; simp [(tInt .i64).len h0,(tInt .i64).len h1,tBool.len h2,(tVec 4 .u64).len h3,tBool,tInt,tVec],
  fun ⟨_,_,_,_,e,h0,h1,h2,h3⟩ v hv=>by
    subst e; simp only [List.mem_append] at hv; rcases hv with hv|hv|hv|hv
    · exact (tInt .i64).one h0 v hv
    · exact (tInt .i64).one h1 v hv
    · exact tBool.one h2 v hv
    · exact (tVec 4 .u64).one h3 v hv⟩
def tT_NFA:Ty T_NFA:=⟨4,fun g cs x=>∃c0 c1 c2 c3,cs=c0++(c1++(c2++(c3)))∧(tInt .i64).rel g c0 x.States∧(tInt .i64).rel g c1 x.Start∧(tSl tT_NFAArc).rel g c2 x.Arcs∧(tSl (tInt .i64)).rel g c3 x.Accept,
  fun hg ⟨c0,c1,c2,c3,e,h0,h1,h2,h3⟩=>⟨c0,c1,c2,c3,e,(tInt .i64).mono hg h0,(tInt .i64).mono hg h1,(tSl tT_NFAArc).mono hg h2,(tSl (tInt .i64)).mono hg h3⟩,
  fun ⟨_,_,_,_,e,h0,h1,h2,h3⟩=>by rw [e]; simp [(tInt .i64).len h0,(tInt .i64).len h1,(tSl tT_NFAArc).len h2,(tSl (tInt .i64)).len h3,tInt,tSl],
  fun ⟨_,_,_,_,e,h0,h1,h2,h3⟩ v hv=>by
    subst e; simp only [List.mem_append] at hv; rcases hv with hv|hv|hv|hv
    · exact (tInt .i64).one h0 v hv
    · exact (tInt .i64).one h1 v hv
    · exact (tSl tT_NFAArc).one h2 v hv
    · exact (tSl (tInt .i64)).one h3 v hv⟩
def tT_DFA:Ty T_DFA:=⟨3,fun g cs x=>∃c0 c1 c2,cs=c0++(c1++(c2))∧(tSl (tInt .i64)).rel g c0 x.Class∧(tSl (tSl (tInt .i64))).rel g c1 x.Next∧(tSl (tInt .i64)).rel g c2 x.Accept,
  fun hg ⟨c0,c1,c2,e,h0,h1,h2⟩=>⟨c0,c1,c2,e,(tSl (tInt .i64)).mono hg h0,(tSl (tSl (tInt .i64))).mono hg h1,(tSl (tInt .i64)).mono hg h2⟩,
  fun ⟨_,_,_,e,h0,h1,h2⟩=>by rw [e]; simp [(tSl (tInt .i64)).len h0,(tSl (tSl (tInt .i64))).len h1,(tSl (tInt .i64)).len h2,tSl],
  fun ⟨_,_,_,e,h0,h1,h2⟩ v hv=>by
    subst e; simp only [List.mem_append] at hv; rcases hv with hv|hv|hv
    · exact (tSl (tInt .i64)).one h0 v hv
    · exact (tSl (tSl (tInt .i64))).one h1 v hv
    · exact (tSl (tInt .i64)).one h2 v hv⟩
def tT_dfa_pair:Ty T_dfa_pair:=⟨2,fun g cs x=>∃c0 c1,cs=c0++(c1)∧(tInt .i64).rel g c0 x.a∧(tInt .i64).rel g c1 x.b,
  fun hg ⟨c0,c1,e,h0,h1⟩=>⟨c0,c1,e,(tInt .i64).mono hg h0,(tInt .i64).mono hg h1⟩,
  fun ⟨_,_,e,h0,h1⟩=>by rw [e]; simp [(tInt .i64).len h0,(tInt .i64).len h1,tInt],
  fun ⟨_,_,e,h0,h1⟩ v hv=>by
    subst e; simp only [List.mem_append] at hv; rcases hv with hv|hv
    · exact (tInt .i64).one h0 v hv
    · exact (tInt .i64).one h1 v hv⟩
def tT_dfa_entry:Ty T_dfa_entry:=⟨3,fun g cs x=>∃c0 c1,cs=c0++(c1)∧tT_dfa_pair.rel g c0 x.atv∧tStr.rel g c1 x.text,
  fun hg ⟨c0,c1,e,h0,h1⟩=>⟨c0,c1,e,tT_dfa_pair.mono hg h0,tStr.mono hg h1⟩,
  fun ⟨_,_,e,h0,h1⟩=>by rw [e]; simp [tT_dfa_pair.len h0,tStr.len h1,tStr,tT_dfa_pair],
  fun ⟨_,_,e,h0,h1⟩ v hv=>by
    subst e; simp only [List.mem_append] at hv; rcases hv with hv|hv
    · exact tT_dfa_pair.one h0 v hv
    · exact tStr.one h1 v hv⟩
def M.layoutTerms:List Str:=[[110,101,119,108,105,110,101],[105,110,100,101,110,116],[100,101,100,101,110,116]]
def M.ref11_Few (spec1:T_LexSpec) (defs1:Int) (bytes1:Int):Option Bool:=
 bif (decide (defs1<(spec1.Defs.length:Int))) then
  some false
 else
  bindStep (
   loopM (fun (i5:Int)=>
    bif (decide (i5<(spec1.Defs.length:Int))) then
     (idxL spec1.Defs i5).bind fun e6=>
     (
      bif (decide (40<(e6.Name.length:Int))) then
       some true
      else
       bif (decide (bytes1<(e6.Pattern.length:Int))) then
        some true
       else
        bif (decide (bytes1<(e6.Sample.length:Int))) then
         some true
        else
         some (decide (bytes1<(e6.Close.length:Int)))).bind fun (xv6:Bool)=>
     bif xv6 then
      some (.stop (.stop false))
     else
      (chk .i64 (i5+1)).bind fun t6=>
      some (.next t6)
    else
     some (.stop (.next ()))) fuel (0:Int)) fun _=>
  some true
def M.law11_swapped (keywordFirst1:Bool):Option T_LexSpec:=
 bif keywordFirst1 then
  some (T_LexSpec.mk [(T_TokenDef.mk [105,102] 3 [105,102] [105,102] []),(T_TokenDef.mk [119,111,114,100] 1 [91,97,45,122,93,43] [120] [])] false 0 0)
 else
  some (T_LexSpec.mk [(T_TokenDef.mk [119,111,114,100] 1 [91,97,45,122,93,43] [120] []),(T_TokenDef.mk [105,102] 3 [105,102] [105,102] [])] false 0 0)
def M.regex_Parse_1 (x1:Int) (c1:T_Regex) (c2:Int) (c3:Int):Option (T_Regex×Int×Int):=
 some ((T_Regex.mk 0 (Vec.zero 4) []),x1,3)
def M.regex_reader_peek (p1:T_regex_reader):Option Int:=
 bif (decide (p1.atv<(p1.s.length:Int))) then
  (idxS p1.s p1.atv).bind fun c1=>
  some c1
 else
  some 0
def M.regex_reader_fail (p1:T_regex_reader):Option (Rt (Unit)):=
 some (.pan p1.atv)
def M.regex_reader_expect (p1:T_regex_reader) (b2:Int):Option (Rt (T_regex_reader)):=
 bindStep (
  (
   bif (p1.atv == (p1.s.length:Int)) then
    some true
   else
    (idxS p1.s p1.atv).bind fun c4=>
    some (c4 != b2)).bind fun (xv2:Bool)=>
  bif xv2 then
   (M.regex_reader_fail p1).bind fun y9=>y9.on (fun rv2=>
    some (.next ())) (fun px2=>some (.stop (.pan px2)))
  else
   some (.next ())) fun _=>
 (chk .i64 (p1.atv+1)).bind fun t1=>
 some (.ret (T_regex_reader.mk p1.s t1))
def M.regex_alphanumeric (b1:Int):Option Bool:=
 (
  bif (decide (48≤b1)) then
   bif (decide (b1≤57)) then
    some true
   else
    bif (decide (97≤b1)) then
     bif (decide (b1≤122)) then
      some true
     else
      bif (decide (65≤b1)) then
       some (decide (b1≤90))
      else
       some false
    else
     bif (decide (65≤b1)) then
      some (decide (b1≤90))
     else
      some false
  else
   bif (decide (97≤b1)) then
    bif (decide (b1≤122)) then
     some true
    else
     bif (decide (65≤b1)) then
      some (decide (b1≤90))
     else
      some false
   else
    bif (decide (65≤b1)) then
     some (decide (b1≤90))
    else
     some false).bind fun (xv1:Bool)=>
 some xv1
def M.regex_reader_escape (p1:T_regex_reader):Option (Rt (Int×T_regex_reader)):=
 bindStep (
  bif (p1.atv == (p1.s.length:Int)) then
   (M.regex_reader_fail p1).bind fun y9=>y9.on (fun rv2=>
    some (.next ())) (fun px2=>some (.stop (.pan px2)))
  else
   some (.next ())) fun _=>
 (idxS p1.s p1.atv).bind fun c1=>
 bindStep (
  bif (c1 == 110) then
   some (.next (10:Int))
  else
   bif (c1 == 116) then
    some (.next (9:Int))
   else
    (
     bif (decide (c1<32)) then
      some true
     else
      bif (decide (126<c1)) then
       some true
      else
       (M.regex_alphanumeric c1).bind fun rv7=>
       some rv7).bind fun (xv2:Bool)=>
    bif xv2 then
     (M.regex_reader_fail p1).bind fun y9=>y9.on (fun rv8=>
      some (.next c1)) (fun px4=>some (.stop (.pan px4)))
    else
     some (.next c1)) fun (b2:Int)=>
 (chk .i64 (p1.atv+1)).bind fun t1=>
 some (.ret (b2,(T_regex_reader.mk p1.s t1)))
def M.strings_IndexByte (s:Str) (c:Int):Option Int:=some (Lib.indexByte s c.toNat.toUInt8)
def M.regex_reader_char (p1:T_regex_reader) (not1:Str):Option (Rt (Int×T_regex_reader)):=
 bindStep (
  bif (p1.atv == (p1.s.length:Int)) then
   (M.regex_reader_fail p1).bind fun y9=>y9.on (fun rv2=>
    some (.next ())) (fun px2=>some (.stop (.pan px2)))
  else
   some (.next ())) fun _=>
 (idxS p1.s p1.atv).bind fun c1=>
 bif (c1 == 92) then
  (chk .i64 (p1.atv+1)).bind fun t1=>
  (M.regex_reader_escape (T_regex_reader.mk p1.s t1)).bind fun y9=>y9.on (fun rv3=>
   some (.ret (rv3.1,rv3.2))) (fun px3=>some (.pan px3))
 else
  bindStep (
   (
    bif (decide (c1<32)) then
     some true
    else
     bif (decide (126<c1)) then
      some true
     else
      (M.strings_IndexByte not1 c1).bind fun rv8=>
      some (decide (0≤rv8))).bind fun (xv2:Bool)=>
   bif xv2 then
    (M.regex_reader_fail p1).bind fun y9=>y9.on (fun rv9=>
     some (.next ())) (fun px5=>some (.stop (.pan px5)))
   else
    some (.next ())) fun _=>
  (chk .i64 (p1.atv+1)).bind fun t2=>
  some (.ret (c1,(T_regex_reader.mk p1.s t2)))
def M.byteset_Range (lo1:Int) (hiv1:Int):Option (Vec 4):=
 (
  loopM (fun (st9:(Vec 4)×Int)=>match st9 with
  | (xv10,b7)=>
   bif (decide (b7≤(IntKind.i64.wrap hiv1))) then
    (quoM .i64 b7 64).bind fun t21=>
    (vget xv10 t21).bind fun c6=>
    (remM b7 64).bind fun t22=>
    (shlM .u64 1 t22).bind fun t23=>
    (vset xv10 t21 (bits .or .u64 c6 t23)).bind fun xv13=>
    (chk .i64 (b7+1)).bind fun t24=>
    some (.next (xv13,t24))
   else
    some (.stop xv10)) fuel ((Vec.zero 4),(IntKind.i64.wrap lo1))).bind fun (xv7:(Vec 4))=>
 some xv7
def M.regex_reader_element (p1:T_regex_reader):Option (Rt ((Vec 4)×T_regex_reader)):=
 (M.regex_reader_char p1 [93,92,45]).bind fun y9=>y9.on (fun lo1=>
  bindStep (
   (M.regex_reader_peek lo1.2).bind fun rv3=>
   bif (rv3 == 45) then
    (chk .i64 (lo1.2.atv+1)).bind fun t2=>
    (M.regex_reader_char (T_regex_reader.mk lo1.2.s t2) [93,92,45]).bind fun y9=>y9.on (fun hiv5=>
     bif (decide (hiv5.1<lo1.1)) then
      (M.regex_reader_fail (T_regex_reader.mk hiv5.2.s t2)).bind fun y9=>y9.on (fun rv4=>
       some (.next (hiv5.1,hiv5.2.s,t2))) (fun px5=>some (.stop (.pan px5)))
     else
      some (.next (hiv5.1,hiv5.2.s,hiv5.2.atv))) (fun px4=>some (.stop (.pan px4)))
   else
    some (.next (lo1.1,lo1.2.s,lo1.2.atv))) fun (hiv2,hiv3,hiv4)=>
  (M.byteset_Range lo1.1 hiv2).bind fun rv5=>
  some (.ret (rv5,(T_regex_reader.mk hiv3 hiv4)))) (fun px1=>some (.pan px1))
def M.byteset_Union (a1:(Vec 4)) (b1:(Vec 4)):Option (Vec 4):=
 (
  loopM (fun (st9:(Vec 4)×Int)=>match st9 with
  | (a11,xv5)=>
   bif (decide (xv5<4)) then
    (vget a11 xv5).bind fun c11=>
    (vget b1 xv5).bind fun c12=>
    (vset a11 xv5 (bits .or .u64 c11 c12)).bind fun a14=>
    (chk .i64 (xv5+1)).bind fun t6=>
    some (.next (a14,t6))
   else
    some (.stop a11)) fuel (a1,(0:Int))).bind fun (a8:(Vec 4))=>
 some a8
def M.byteset_Complement (s1:(Vec 4)):Option (Vec 4):=
 (
  loopM (fun (st9:(Vec 4)×Int)=>match st9 with
  | (s11,xv5)=>
   bif (decide (xv5<4)) then
    (vget s11 xv5).bind fun c6=>
    (vset s11 xv5 (complM .u64 c6)).bind fun s14=>
    (chk .i64 (xv5+1)).bind fun t6=>
    some (.next (s14,t6))
   else
    some (.stop s11)) fuel (s1,(0:Int))).bind fun (s8:(Vec 4))=>
 some s8
def M.regex_reader_bracket (p1:T_regex_reader):Option (Rt ((Vec 4)×T_regex_reader)):=
 (M.regex_reader_expect p1 91).bind fun y9=>y9.on (fun rv1=>
  (M.regex_reader_peek rv1).bind fun rv2=>
  (
   bif (rv2 == 94) then
    (chk .i64 (rv1.atv+1)).bind fun t2=>
    some t2
   else
    some rv1.atv).bind fun (p2:Int)=>
  (M.regex_reader_element (T_regex_reader.mk rv1.s p2)).bind fun y9=>y9.on (fun rv3=>
   bindStep (
    loopM (fun (st9:Str×Int×(Vec 4))=>match st9 with
    | (p13,p14,setv6)=>
     (M.regex_reader_peek (T_regex_reader.mk p13 p14)).bind fun rv19=>
     bif (rv19 != 93) then
      (M.regex_reader_element (T_regex_reader.mk p13 p14)).bind fun y9=>y9.on (fun rv20=>
       (M.byteset_Union setv6 rv20.1).bind fun rv21=>
       some (.next (rv20.2.s,rv20.2.atv,rv21))) (fun px8=>some (.stop (.stop (.pan px8))))
     else
      some (.stop (.next (p13,p14,setv6)))) fuel (rv3.2.s,rv3.2.atv,rv3.1)) fun (p9,p10,setv4)=>
   (chk .i64 (p10+1)).bind fun t3=>
   bif (rv2 == 94) then
    (M.byteset_Complement setv4).bind fun rv22=>
    some (.ret (rv22,(T_regex_reader.mk p9 t3)))
   else
    some (.ret (setv4,(T_regex_reader.mk p9 t3)))) (fun px2=>some (.pan px2))) (fun px1=>some (.pan px1))
def M.byteset_Of (s1:Str):Option (Vec 4):=
 (
  loopM (fun (st9:(Vec 4)×Int)=>match st9 with
  | (xv14,xv15)=>
   bif (decide (xv15<(s1.length:Int))) then
    (idxS s1 xv15).bind fun c11=>
    (quoM .u8 c11 64).bind fun t21=>
    (vget xv14 t21).bind fun c12=>
    (remM c11 64).bind fun t22=>
    (shlM .u64 1 t22).bind fun t23=>
    (vset xv14 t21 (bits .or .u64 c12 t23)).bind fun xv19=>
    (chk .i64 (xv15+1)).bind fun t24=>
    some (.next (xv19,t24))
   else
    some (.stop xv14)) fuel ((Vec.zero 4),(0:Int))).bind fun (xv10:(Vec 4))=>
 some xv10
def M.regex_dot:Option (Vec 4):=
 (M.byteset_Of [10]).bind fun rv1=>
 (M.byteset_Complement rv1).bind fun rv2=>
 some rv2
def M.regex_group (kind1:Int) (l1:(List T_Regex)):Option T_Regex:=
 bif ((l1.length:Int) == 1) then
  (idxL l1 0).bind fun e1=>
  some e1
 else
  some (T_Regex.mk kind1 (Vec.zero 4) l1)
mutual
def M.regex_reader_atom:Nat→T_regex_reader→Option (Rt (T_Regex×T_regex_reader))
| 0,_=>none
| fl+1,p1=>
 (M.regex_reader_peek p1).bind fun rv1=>
 bif (rv1 == 40) then
  (chk .i64 (p1.atv+1)).bind fun t1=>
  (M.regex_reader_regex fl (T_regex_reader.mk p1.s t1)).bind fun y9=>y9.on (fun rv2=>
   (M.regex_reader_expect rv2.2 41).bind fun y9=>y9.on (fun rv3=>
    some (.ret (rv2.1,rv3))) (fun px2=>some (.pan px2))) (fun px1=>some (.pan px1))
 else
  bif (rv1 == 91) then
   (M.regex_reader_bracket p1).bind fun y9=>y9.on (fun rv4=>
    some (.ret ((T_Regex.mk 3 rv4.1 []),rv4.2))) (fun px3=>some (.pan px3))
  else
   bif (rv1 == 46) then
    (chk .i64 (p1.atv+1)).bind fun t2=>
    (M.regex_dot).bind fun rv5=>
    some (.ret ((T_Regex.mk 3 rv5 []),(T_regex_reader.mk p1.s t2)))
   else
    (M.regex_reader_char p1 [40,41,91,93,124,42,43,63,46,92]).bind fun y9=>y9.on (fun b4=>
     (M.byteset_Range b4.1 b4.1).bind fun rv6=>
     some (.ret ((T_Regex.mk 3 rv6 []),b4.2))) (fun px4=>some (.pan px4))
def M.regex_reader_repeat:Nat→T_regex_reader→Option (Rt (T_Regex×T_regex_reader))
| 0,_=>none
| fl+1,p1=>
 (M.regex_reader_atom fl p1).bind fun y9=>y9.on (fun rv1=>
  loopM (fun (st9:Int×Int×(Vec 4)×(List T_Regex))=>match st9 with
  | (p3,rv8,rv9,rv10)=>
   bindStep (
    (M.regex_reader_peek (T_regex_reader.mk rv1.2.s p3)).bind fun rv19=>
    bif (rv19 == 42) then
     some (.next ((6:Int),([(T_Regex.mk rv8 rv9 rv10)]:(List T_Regex))))
    else
     bif (rv19 == 43) then
      some (.next ((4:Int),([(T_Regex.mk rv8 rv9 rv10),(T_Regex.mk 6 (Vec.zero 4) [(T_Regex.mk rv8 rv9 rv10)])]:(List T_Regex))))
     else
      bif (rv19 == 63) then
       some (.next ((5:Int),([(T_Regex.mk rv8 rv9 rv10),(T_Regex.mk 2 (Vec.zero 4) [])]:(List T_Regex))))
      else
       some (.stop (.stop (.ret ((T_Regex.mk rv8 rv9 rv10),(T_regex_reader.mk rv1.2.s p3)))))) fun (rv18,xv3)=>
   (chk .i64 (p3+1)).bind fun t3=>
   some (.next (t3,rv18,(Vec.zero 4),xv3))) fuel (rv1.2.atv,rv1.1.Kind,rv1.1.Set,rv1.1.Kids)) (fun px1=>some (.pan px1))
def M.regex_reader_branch:Nat→T_regex_reader→Option (Rt (T_Regex×T_regex_reader))
| 0,_=>none
| fl+1,p1=>
 bindStep (
  loopM (fun (st9:Str×Int×(List T_Regex))=>match st9 with
  | (p10,p11,xv10)=>
   (
    bif (decide (p11<(p10.length:Int))) then
     (idxS p10 p11).bind fun c12=>
     bif (c12 != 124) then
      some (c12 != 41)
     else
      some false
    else
     some false).bind fun (xv13:Bool)=>
   bif xv13 then
    (M.regex_reader_repeat fl (T_regex_reader.mk p10 p11)).bind fun y9=>y9.on (fun rv6=>
     (appM 64 xv10 [rv6.1]).bind fun l6=>
     some (.next (rv6.2.s,rv6.2.atv,l6))) (fun px6=>some (.stop (.stop (.pan px6))))
   else
    some (.stop (.next (xv10,p10,p11)))) fuel (p1.s,p1.atv,([]:(List T_Regex)))) fun (xv7,l3,l4)=>
 bif ((xv7.length:Int) == 0) then
  some (.ret ((T_Regex.mk 2 (Vec.zero 4) []),(T_regex_reader.mk l3 l4)))
 else
  (M.regex_group 4 xv7).bind fun rv7=>
  some (.ret (rv7,(T_regex_reader.mk l3 l4)))
def M.regex_reader_regex:Nat→T_regex_reader→Option (Rt (T_Regex×T_regex_reader))
| 0,_=>none
| fl+1,p1=>
 (M.regex_reader_branch fl p1).bind fun y9=>y9.on (fun rv1=>
  bindStep (
   loopM (fun (st9:Str×Int×(List T_Regex))=>match st9 with
   | (p10,p11,xv6)=>
    (M.regex_reader_peek (T_regex_reader.mk p10 p11)).bind fun rv12=>
    bif (rv12 == 124) then
     (chk .i64 (p11+1)).bind fun t6=>
     (M.regex_reader_branch fl (T_regex_reader.mk p10 t6)).bind fun y9=>y9.on (fun rv13=>
      (appM 64 xv6 [rv13.1]).bind fun l8=>
      some (.next (rv13.2.s,rv13.2.atv,l8))) (fun px7=>some (.stop (.stop (.pan px7))))
    else
     some (.stop (.next (xv6,p10,p11)))) fuel (rv1.2.s,rv1.2.atv,([rv1.1]:(List T_Regex)))) fun (xv4,l4,l5)=>
  (M.regex_group 5 xv4).bind fun rv14=>
  some (.ret (rv14,(T_regex_reader.mk l4 l5)))) (fun px1=>some (.pan px1))
end
def M.regex_valid:Nat→T_Regex→Int→Option Bool
| 0,_,_=>none
| fl+1,rv1,depth1=>
 (
  bif (depth1 == 0) then
   some true
  else
   some ((rv1.Kind == 3) == (rv1.Set == (Vec.zero 4)))).bind fun (xv1:Bool)=>
 bif xv1 then
  some false
 else
  bindStep (
   (
    bif (rv1.Kind == 1) then
     some (rv1.Kind == 1)
    else
     bif (rv1.Kind == 2) then
      some (rv1.Kind == 2)
     else
      some (rv1.Kind == 3)).bind fun (xv4:Bool)=>
   bif xv4 then
    some (.next ((0:Int),(0:Int)))
   else
    (
     bif (rv1.Kind == 4) then
      some (rv1.Kind == 4)
     else
      some (rv1.Kind == 5)).bind fun (xv5:Bool)=>
    bif xv5 then
     some (.next ((2:Int),(rv1.Kids.length:Int)))
    else
     bif (rv1.Kind == 6) then
      some (.next ((1:Int),(1:Int)))
     else
      some (.stop false)) fun (least1,most1)=>
  (
   bif (decide ((rv1.Kids.length:Int)<least1)) then
    some true
   else
    some (decide (most1<(rv1.Kids.length:Int)))).bind fun (xv6:Bool)=>
  bif xv6 then
   some false
  else
   bindStep (
    loopM (fun (xv11:Int)=>
     bif (decide (xv11<(rv1.Kids.length:Int))) then
      (idxL rv1.Kids xv11).bind fun e6=>
      (chk .i64 (depth1 - 1)).bind fun t11=>
      (M.regex_valid fl e6 t11).bind fun rv7=>
      bif (!rv7) then
       some (.stop (.stop false))
      else
       (chk .i64 (xv11+1)).bind fun t12=>
       some (.next t12)
     else
      some (.stop (.next ()))) fuel (0:Int)) fun _=>
   some true
def M.regex_Valid (rv1:T_Regex):Option Bool:=
 (M.regex_valid fuel rv1 30).bind fun rv2=>
 some rv2
def M.regex_Parse (s1:Str):Option (T_Regex×Int×Int):=
 (M.regex_reader_regex fuel (T_regex_reader.mk s1 0)).bind fun y9=>y9.on (fun rv1=>
  bindStep (
   bif (decide (rv1.2.atv<(s1.length:Int))) then
    (M.regex_reader_fail rv1.2).bind fun y9=>y9.on (fun rv3=>
     some (.next ())) (fun px3=>some (.stop ((T_Regex.mk 0 (Vec.zero 4) []),px3,3)))
   else
    some (.next ())) fun _=>
  (M.regex_Valid rv1.1).bind fun rv4=>
  bif (!rv4) then
   some ((T_Regex.mk 0 (Vec.zero 4) []),0,11)
  else
   some (rv1.1,0,0)) (fun px1=>some ((T_Regex.mk 0 (Vec.zero 4) []),px1,3))
def M.lexspec_definition_1 (c1:(List T_TokenDef)) (c2:Int) (c3:T_TokenDef):Option Bool:=
 bindStep (
  (subL c1 0 c2).bind fun l2=>
  loopM (fun (xv5:Int)=>
   bif (decide (xv5<(l2.length:Int))) then
    (idxL l2 xv5).bind fun e6=>
    bif (e6.Name == c3.Name) then
     some (.stop (.stop true))
    else
     (chk .i64 (xv5+1)).bind fun t6=>
     some (.next t6)
   else
    some (.stop (.next ()))) fuel (0:Int)) fun _=>
 some false
def M.lexspec_isName (p1:Str):Option Bool:=
 (
  bif (p1 == []) then
   some true
  else
   bif (decide (24<(p1.length:Int))) then
    some true
   else
    (idxL M.layoutTerms 0).bind fun s4=>
    bif (p1 == s4) then
     some true
    else
     (idxL M.layoutTerms 1).bind fun s5=>
     bif (p1 == s5) then
      some true
     else
      (idxL M.layoutTerms 2).bind fun s6=>
      some (p1 == s6)).bind fun (xv1:Bool)=>
 bif xv1 then
  some false
 else
  bindStep (
   loopM (fun (xv14:Int)=>
    bif (decide (xv14<(p1.length:Int))) then
     (idxS p1 xv14).bind fun c6=>
     (
      bif (decide (97≤c6)) then
       bif (decide (c6≤122)) then
        some true
       else
        bif (decide (65≤c6)) then
         some (decide (c6≤90))
        else
         some false
      else
       bif (decide (65≤c6)) then
        some (decide (c6≤90))
       else
        some false).bind fun (xv18:Bool)=>
     (
      bif (!xv18) then
       bif (xv14 == 0) then
        some true
       else
        bif (c6 != 95) then
         bif (decide (c6<48)) then
          some true
         else
          some (decide (57<c6))
        else
         some false
      else
       some false).bind fun (xv19:Bool)=>
     bif xv19 then
      some (.stop (.stop false))
     else
      (chk .i64 (xv14+1)).bind fun t6=>
      some (.next t6)
    else
     some (.stop (.next ()))) fuel (0:Int)) fun _=>
  some true
def M.lexspec_definition_2 (c1:T_TokenDef):Option Bool:=
 (M.lexspec_isName c1.Name).bind fun rv1=>
 some (!rv1)
def M.lexspec_definition_3 (c1:T_TokenDef):Option Bool:=
 (
  bif (decide (c1.Kind<1)) then
   some true
  else
   some (decide (3<c1.Kind))).bind fun (xv1:Bool)=>
 some xv1
def M.lexspec_definition_4 (c1:Int):Option Bool:=
 some (c1 != 0)
def M.regex_Nullable:Nat→T_Regex→Option Bool
| 0,_=>none
| fl+1,rv1=>
 bindStep (
  (
   bif (rv1.Kind == 2) then
    some (rv1.Kind == 2)
   else
    some (rv1.Kind == 6)).bind fun (xv11:Bool)=>
  bif xv11 then
   some (.stop true)
  else
   bif (rv1.Kind == 4) then
    bindStep (
     loopM (fun (xv16:Int)=>
      bif (decide (xv16<(rv1.Kids.length:Int))) then
       (idxL rv1.Kids xv16).bind fun e15=>
       (M.regex_Nullable fl e15).bind fun rv16=>
       bif (!rv16) then
        some (.stop (.stop (.stop false)))
       else
        (chk .i64 (xv16+1)).bind fun t15=>
        some (.next t15)
      else
       some (.stop (.next ()))) fuel (0:Int)) fun _=>
    some (.stop true)
   else
    bif (rv1.Kind == 5) then
     loopM (fun (xv19:Int)=>
      bif (decide (xv19<(rv1.Kids.length:Int))) then
       (idxL rv1.Kids xv19).bind fun e18=>
       (M.regex_Nullable fl e18).bind fun rv19=>
       bif rv19 then
        some (.stop (.stop true))
       else
        (chk .i64 (xv19+1)).bind fun t18=>
        some (.next t18)
      else
       some (.stop (.next ()))) fuel (0:Int)
    else
     some (.next ())) fun _=>
 some false
def M.lexspec_definition_5 (c1:T_Regex):Option Bool:=
 (M.regex_Nullable fuel c1).bind fun rv1=>
 some rv1
def M.lexspec_printable (s1:Str):Option Bool:=
 bindStep (
  loopM (fun (xv9:Int)=>
   bif (decide (xv9<(s1.length:Int))) then
    (
     (idxS s1 xv9).bind fun c12=>
     bif (decide (c12<32)) then
      some true
     else
      some (decide (126<c12))).bind fun (xv12:Bool)=>
    bif xv12 then
     some (.stop (.stop false))
    else
     (chk .i64 (xv9+1)).bind fun t6=>
     some (.next t6)
   else
    some (.stop (.next ()))) fuel (0:Int)) fun _=>
 some true
def M.lexspec_definition_6 (c1:T_TokenDef):Option Bool:=
 (M.lexspec_printable c1.Close).bind fun rv1=>
 some (!rv1)
def M.lexspec_definition (defs1:(List T_TokenDef)) (i1:Int):Option Int:=
 (idxL defs1 i1).bind fun e1=>
 (M.regex_Parse e1.Pattern).bind fun rv1=>
 bindStep (
  (some ([(T_S105.mk (M.lexspec_definition_2 e1) 4),(T_S105.mk (M.lexspec_definition_1 defs1 i1 e1) 5),(T_S105.mk (M.lexspec_definition_3 e1) 1),(T_S105.mk (M.lexspec_definition_4 rv1.2.2) rv1.2.2),(T_S105.mk (M.lexspec_definition_5 rv1.1) 10),(T_S105.mk (M.lexspec_definition_6 e1) 1)].length:Int)).bind fun t5=>
  loopM (fun (xv5:Int)=>
   bif (decide (xv5<t5)) then
    (idxL [(T_S105.mk (M.lexspec_definition_2 e1) 4),(T_S105.mk (M.lexspec_definition_1 defs1 i1 e1) 5),(T_S105.mk (M.lexspec_definition_3 e1) 1),(T_S105.mk (M.lexspec_definition_4 rv1.2.2) rv1.2.2),(T_S105.mk (M.lexspec_definition_5 rv1.1) 10),(T_S105.mk (M.lexspec_definition_6 e1) 1)] xv5).bind fun e7=>
    (e7.fails).bind fun rv7=>
    bif rv7 then
     some (.stop (.stop e7.err))
    else
     (chk .i64 (xv5+1)).bind fun t8=>
     some (.next t8)
   else
    some (.stop (.next ()))) fuel (0:Int)) fun _=>
 some 0
def M.nfa_nodes:Nat→T_Regex→Option Int
| 0,_=>none
| fl+1,rv1=>
 (
  loopM (fun (st9:Int×Int)=>match st9 with
  | (nv6,xv5)=>
   bif (decide (xv5<(rv1.Kids.length:Int))) then
    (idxL rv1.Kids xv5).bind fun e6=>
    (M.nfa_nodes fl e6).bind fun rv7=>
    (chk .i64 (nv6+rv7)).bind fun t11=>
    (chk .i64 (xv5+1)).bind fun t12=>
    some (.next (t11,t12))
   else
    some (.stop nv6)) fuel ((1:Int),(0:Int))).bind fun (nv4:Int)=>
 some nv4
def M.nfa_builder_none (b1:T_nfa_builder) (rv1:T_Regex):Option (T_nfa_part×T_nfa_builder):=
 some ((T_nfa_part.mk false [] []),b1)
def M.nfa_builder_empty (b1:T_nfa_builder) (rv1:T_Regex):Option (T_nfa_part×T_nfa_builder):=
 some ((T_nfa_part.mk true [] []),b1)
def M.nfa_builder_set (b1:T_nfa_builder) (rv1:T_Regex):Option (T_nfa_part×T_nfa_builder):=
 (appM 32 b1.sets [rv1.Set]).bind fun y1=>
 (appM 8 b1.behind [[]]).bind fun y2=>
 some ((T_nfa_part.mk false [(y1.length:Int)] [(y1.length:Int)]),(T_nfa_builder.mk y1 y2))
def M.nfa_builder_link (b1:T_nfa_builder) (fromv1:(List Int)) (tov1:(List Int)):Option T_nfa_builder:=
 loopM (fun (st9:(List (List (Int×Bool)))×Int)=>match st9 with
 | (xv16,xv17)=>
  bif (decide (xv17<(fromv1.length:Int))) then
   (
    (idxL fromv1 xv17).bind fun e36=>
    loopM (fun (st9:(List (List (Int×Bool)))×Int)=>match st9 with
    | (xv42,xv43)=>
     bif (decide (xv43<(tov1.length:Int))) then
      (idxL tov1 xv43).bind fun e41=>
      (idxL xv42 e36).bind fun e42=>
      (setL xv42 e36 (mset e42 e41 true)).bind fun y18=>
      (chk .i64 (xv43+1)).bind fun t20=>
      some (.next (y18,t20))
     else
      some (.stop xv42)) fuel (xv16,(0:Int))).bind fun (xv39:(List (List (Int×Bool))))=>
   (chk .i64 (xv17+1)).bind fun t21=>
   some (.next (xv39,t21))
  else
   some (.stop (T_nfa_builder.mk b1.sets xv16))) fuel (b1.behind,(0:Int))
def M.slices_Grow_int_int (l:List Int) (n:Int):Option (List Int):=growM l n
def M.slices_Concat_int_int (slices1:(List (List Int))):Option (List Int):=
 (
  loopM (fun (st9:Int×Int)=>match st9 with
  | (size10,xv5)=>
   bif (decide (xv5<(slices1.length:Int))) then
    (
     (idxL slices1 xv5).bind fun e12=>
     (chk .i64 (size10+(e12.length:Int))).bind fun t17=>
     bif (decide (t17<0)) then
      none
     else
      some t17).bind fun (size13:Int)=>
    (chk .i64 (xv5+1)).bind fun t18=>
    some (.next (size13,t18))
   else
    some (.stop size10)) fuel ((0:Int),(0:Int))).bind fun (size7:Int)=>
 (M.slices_Grow_int_int [] size7).bind fun newslice1=>
 (
  loopM (fun (st9:(List Int)×Int)=>match st9 with
  | (newslice11,xv11)=>
   bif (decide (xv11<(slices1.length:Int))) then
    (idxL slices1 xv11).bind fun e18=>
    (appM 8 newslice11 e18).bind fun newslice14=>
    (chk .i64 (xv11+1)).bind fun t24=>
    some (.next (newslice14,t24))
   else
    some (.stop newslice11)) fuel (newslice1,(0:Int))).bind fun (newslice8:(List Int))=>
 some newslice8
mutual
def M.nfa_builder_concat:Nat→T_nfa_builder→T_Regex→Option (T_nfa_part×T_nfa_builder)
| 0,_,_=>none
| fl+1,b1,rv1=>
 (
  loopM (fun (st9:(List (Vec 4))×(List (List (Int×Bool)))×Bool×(List Int)×(List Int)×Int)=>match st9 with
  | (xv38,xv39,xv40,xv41,xv42,xv43)=>
   bif (decide (xv43<(rv1.Kids.length:Int))) then
    (idxL rv1.Kids xv43).bind fun e6=>
    (M.nfa_builder_expr fl (T_nfa_builder.mk xv38 xv39) e6).bind fun rv32=>
    (M.nfa_builder_link rv32.2 xv42 rv32.1.first).bind fun rv33=>
    (
     bif xv40 then
      (M.slices_Concat_int_int [xv41,rv32.1.first]).bind fun rv35=>
      some rv35
     else
      some xv41).bind fun (xv52:(List Int))=>
    (
     bif rv32.1.nullable then
      (M.slices_Concat_int_int [xv42,rv32.1.last]).bind fun rv37=>
      some rv37
     else
      some rv32.1.last).bind fun (xv53:(List Int))=>
    bif xv40 then
     (chk .i64 (xv43+1)).bind fun t9=>
     some (.next (rv33.sets,rv33.behind,rv32.1.nullable,xv52,xv53,t9))
    else
     (chk .i64 (xv43+1)).bind fun t10=>
     some (.next (rv33.sets,rv33.behind,false,xv52,xv53,t10))
   else
    some (.stop (xv40,xv41,xv42,xv38,xv39))) fuel (b1.sets,b1.behind,true,([]:(List Int)),([]:(List Int)),(0:Int))).bind fun (xv25,xv26,xv27,xv28,xv29)=>
 some ((T_nfa_part.mk xv25 xv26 xv27),(T_nfa_builder.mk xv28 xv29))
def M.nfa_builder_union:Nat→T_nfa_builder→T_Regex→Option (T_nfa_part×T_nfa_builder)
| 0,_,_=>none
| fl+1,b1,rv1=>
 (
  loopM (fun (st9:(List (Vec 4))×(List (List (Int×Bool)))×Bool×(List Int)×(List Int)×Int)=>match st9 with
  | (xv30,xv31,xv32,xv33,xv34,xv35)=>
   bif (decide (xv35<(rv1.Kids.length:Int))) then
    (idxL rv1.Kids xv35).bind fun e6=>
    (M.nfa_builder_expr fl (T_nfa_builder.mk xv30 xv31) e6).bind fun rv23=>
    bif xv32 then
     (M.slices_Concat_int_int [xv33,rv23.1.first]).bind fun rv24=>
     (M.slices_Concat_int_int [xv34,rv23.1.last]).bind fun rv25=>
     (chk .i64 (xv35+1)).bind fun t9=>
     some (.next (rv23.2.sets,rv23.2.behind,true,rv24,rv25,t9))
    else
     (M.slices_Concat_int_int [xv33,rv23.1.first]).bind fun rv26=>
     (M.slices_Concat_int_int [xv34,rv23.1.last]).bind fun rv27=>
     (chk .i64 (xv35+1)).bind fun t10=>
     some (.next (rv23.2.sets,rv23.2.behind,rv23.1.nullable,rv26,rv27,t10))
   else
    some (.stop (xv32,xv33,xv34,xv30,xv31))) fuel (b1.sets,b1.behind,false,([]:(List Int)),([]:(List Int)),(0:Int))).bind fun (xv19,xv20,xv21,xv22,xv23)=>
 some ((T_nfa_part.mk xv19 xv20 xv21),(T_nfa_builder.mk xv22 xv23))
def M.nfa_builder_star:Nat→T_nfa_builder→T_Regex→Option (T_nfa_part×T_nfa_builder)
| 0,_,_=>none
| fl+1,b1,rv1=>
 (idxL rv1.Kids 0).bind fun e1=>
 (M.nfa_builder_expr fl b1 e1).bind fun rv2=>
 (M.nfa_builder_link rv2.2 rv2.1.last rv2.1.first).bind fun rv3=>
 some ((T_nfa_part.mk true rv2.1.first rv2.1.last),rv3)
def M.nfa_builder_expr:Nat→T_nfa_builder→T_Regex→Option (T_nfa_part×T_nfa_builder)
| 0,_,_=>none
| fl+1,b1,rv1=>
 bif (rv1.Kind == 6) then
  (M.nfa_builder_star fl b1 rv1).bind fun rv2=>
  some (rv2.1,rv2.2)
 else
  bif (rv1.Kind == 5) then
   (M.nfa_builder_union fl b1 rv1).bind fun rv3=>
   some (rv3.1,rv3.2)
  else
   bif (rv1.Kind == 4) then
    (M.nfa_builder_concat fl b1 rv1).bind fun rv4=>
    some (rv4.1,rv4.2)
   else
    bif (rv1.Kind == 3) then
     (M.nfa_builder_set b1 rv1).bind fun rv5=>
     some (rv5.1,rv5.2)
    else
     bif (rv1.Kind == 2) then
      (M.nfa_builder_empty b1 rv1).bind fun rv6=>
      some (rv6.1,rv6.2)
     else
      bif (rv1.Kind == 1) then
       (M.nfa_builder_none b1 rv1).bind fun rv7=>
       some (rv7.1,rv7.2)
      else
       none
end
def M.nfa_FromRegexes (p1:(List T_Regex)):Option (T_NFA×Int):=
 bindStep (
  loopM (fun (st9:Int×Int)=>match st9 with
  | (xv10,xv11)=>
   bif (decide (xv11<(p1.length:Int))) then
    (idxL p1 xv11).bind fun e6=>
    (M.regex_Valid e6).bind fun rv11=>
    bif (!rv11) then
     some (.stop (.stop ((T_NFA.mk 0 0 [] []),1)))
    else
     (M.nfa_nodes fuel e6).bind fun rv12=>
     (chk .i64 (xv10+rv12)).bind fun t11=>
     (chk .i64 (xv11+1)).bind fun t12=>
     some (.next (t11,t12))
   else
    some (.stop (.next xv10))) fuel ((0:Int),(0:Int))) fun (xv7:Int)=>
 bif (decide (500<xv7)) then
  some ((T_NFA.mk 0 0 [] []),11)
 else
  (
   loopM (fun (st9:(List (Vec 4))×(List (List (Int×Bool)))×(List Int)×Int)=>match st9 with
   | (xv209,xv210,xv211,xv212)=>
    bif (decide (xv212<(p1.length:Int))) then
     (
      (idxL p1 xv212).bind fun e106=>
      (M.nfa_builder_expr fuel (T_nfa_builder.mk xv209 xv210) e106).bind fun rv35=>
      (M.nfa_builder_link rv35.2 [0] rv35.1.first).bind fun rv36=>
      (
       loopM (fun (xv289:(List Int))=>
        bif (decide ((xv289.length:Int)≤(rv36.sets.length:Int))) then
         (appM 8 xv289 [(-1)]).bind fun y155=>
         some (.next y155)
        else
         some (.stop xv289)) fuel xv211).bind fun (xv287:(List Int))=>
      (
       loopM (fun (st9:(List Int)×Int)=>match st9 with
       | (xv300,xv301)=>
        bif (decide (xv301<(rv35.1.last.length:Int))) then
         (idxL rv35.1.last xv301).bind fun e112=>
         (setL xv300 e112 xv212).bind fun y161=>
         (chk .i64 (xv301+1)).bind fun t89=>
         some (.next (y161,t89))
        else
         some (.stop xv300)) fuel (xv287,(0:Int))).bind fun (xv297:(List Int))=>
      (
       bif rv35.1.nullable then
        (idxL xv297 0).bind fun e114=>
        some (decide (e114<0))
       else
        some false).bind fun (xv304:Bool)=>
      bif xv304 then
       (setL xv297 0 xv212).bind fun y162=>
       some (rv36.sets,rv36.behind,y162)
      else
       some (rv36.sets,rv36.behind,xv297)).bind fun (xv282,xv283,y149)=>
     (chk .i64 (xv212+1)).bind fun t90=>
     some (.next (xv282,xv283,y149,t90))
    else
     some (.stop (xv209,xv210,xv211))) fuel (([]:(List (Vec 4))),([[]]:(List (List (Int×Bool)))),([(-1)]:(List Int)),(0:Int))).bind fun (xv158,xv159,xv160)=>
  (
   loopM (fun (st9:(List T_NFAArc)×Int)=>match st9 with
   | (xv366,xv367)=>
    bif (decide (xv367<(xv159.length:Int))) then
     (
      (idxL xv159 xv367).bind fun e192=>
      (keysM e192).bind fun l12=>
      loopM (fun (st9:(List T_NFAArc)×Int)=>match st9 with
      | (xv392,xv393)=>
       bif (decide (xv393<(l12.length:Int))) then
        (idxL l12 xv393).bind fun e197=>
        (chk .i64 (e197 - 1)).bind fun t166=>
        (idxL xv158 t166).bind fun e198=>
        (appM 56 xv392 [(T_NFAArc.mk xv367 e197 false e198)]).bind fun y198=>
        (chk .i64 (xv393+1)).bind fun t167=>
        some (.next (y198,t167))
       else
        some (.stop xv392)) fuel (xv366,(0:Int))).bind fun (xv389:(List T_NFAArc))=>
     (chk .i64 (xv367+1)).bind fun t168=>
     some (.next (xv389,t168))
    else
     some (.stop xv366)) fuel (([]:(List T_NFAArc)),(0:Int))).bind fun (xv350:(List T_NFAArc))=>
  some ((T_NFA.mk (xv160.length:Int) 0 xv350 xv160),0)
def M.nfa_Valid_1 (s1:Int) (c1:T_NFA):Option Bool:=
 (
  bif (decide (0≤s1)) then
   some (decide (s1<c1.States))
  else
   some false).bind fun (xv1:Bool)=>
 some xv1
def M.slices_IndexFunc_int_int (s1:(List Int)) (f1:(Int→Option Bool)):Option Int:=
 bindStep (
  loopM (fun (xv5:Int)=>
   bif (decide (xv5<(s1.length:Int))) then
    (idxL s1 xv5).bind fun e6=>
    (f1 e6).bind fun rv6=>
    bif rv6 then
     some (.stop (.stop xv5))
    else
     (chk .i64 (xv5+1)).bind fun t6=>
     some (.next t6)
   else
    some (.stop (.next ()))) fuel (0:Int)) fun _=>
 some (-1)
def M.slices_ContainsFunc_int_int (s1:(List Int)) (f1:(Int→Option Bool)):Option Bool:=
 (M.slices_IndexFunc_int_int s1 f1).bind fun rv1=>
 some (decide (0≤rv1))
def M.nfa_Valid_2 (xv1:Int):Option Bool:=
 some (decide (xv1<(-1)))
def M.nfa_Valid (nv1:T_NFA):Option Bool:=
 (
  bif (decide (nv1.States<1)) then
   some true
  else
   bif (decide (2000<nv1.States)) then
    some true
   else
    (M.nfa_Valid_1 nv1.Start nv1).bind fun rv2=>
    bif (!rv2) then
     some true
    else
     some ((nv1.Accept.length:Int) != nv1.States)).bind fun (xv1:Bool)=>
 bif xv1 then
  some false
 else
  bindStep (
   loopM (fun (xv10:Int)=>
    bif (decide (xv10<(nv1.Arcs.length:Int))) then
     (idxL nv1.Arcs xv10).bind fun e6=>
     (
      (M.nfa_Valid_1 e6.From nv1).bind fun rv25=>
      bif (!rv25) then
       some true
      else
       (M.nfa_Valid_1 e6.To nv1).bind fun rv26=>
       bif (!rv26) then
        some true
       else
        bif e6.Epsilon then
         some (e6.Set != (Vec.zero 4))
        else
         some false).bind fun (xv13:Bool)=>
     bif xv13 then
      some (.stop (.stop false))
     else
      (chk .i64 (xv10+1)).bind fun t6=>
      some (.next t6)
    else
     some (.stop (.next ()))) fuel (0:Int)) fun _=>
  (M.slices_ContainsFunc_int_int nv1.Accept M.nfa_Valid_2).bind fun rv27=>
  some (!rv27)
def M.byteset_Has (s1:(Vec 4)) (b1:Int):Option Bool:=
 (quoM .u8 b1 64).bind fun t1=>
 (vget s1 t1).bind fun c1=>
 (remM b1 64).bind fun t2=>
 (shrM .u64 c1 t2).bind fun t3=>
 some ((bits .and .u64 t3 1) == 1)
def M.byteset_Classes (l1:(List (Vec 4))):Option (List Int):=
 (mkM 8 256 (0:Int)).bind fun out1=>
 (
  loopM (fun (st9:(List Int)×(List (Str×Int))×Int)=>match st9 with
  | (out19,m17,xv53)=>
   bif (decide (xv53<(out1.length:Int))) then
    (
     (mkM 1 (l1.length:Int) (0:Int)).bind fun key287=>
     (
      loopM (fun (st9:(List Int)×Int)=>match st9 with
      | (key305,xv77)=>
       bif (decide (xv77<(l1.length:Int))) then
        (
         (idxL l1 xv77).bind fun e144=>
         (M.byteset_Has e144 (IntKind.u8.wrap xv53)).bind fun rv144=>
         bif rv144 then
          (setL key305 xv77 1).bind fun key312=>
          some key312
         else
          some key305).bind fun (key311:(List Int))=>
        (chk .i64 (xv77+1)).bind fun t77=>
        some (.next (key311,t77))
       else
        some (.stop key305)) fuel (key287,(0:Int))).bind fun (key300:(List Int))=>
     (
      bif (!((mget m17 (toStr key300)).isSome)) then
       some ((mset m17 (toStr key300) (m17.length:Int)),(m17.length:Int))
      else
       some (m17,((mget m17 (toStr key300)).getD 0))).bind fun (m24,nv12)=>
     (setL out19 xv53 nv12).bind fun out26=>
     some (out26,m24)).bind fun (out25,m23)=>
    (chk .i64 (xv53+1)).bind fun t78=>
    some (.next (out25,m23,t78))
   else
    some (.stop out19)) fuel (out1,([]:(List (Str×Int))),(0:Int))).bind fun (out14:(List Int))=>
 some out14
def M.dfa_sample (classv1:(List Int)):Option (List Int):=
 (
  loopM (fun (st9:(List Int)×Int)=>match st9 with
  | (xv10,xv11)=>
   bif (decide (xv11<(classv1.length:Int))) then
    (
     (idxL classv1 xv11).bind fun e12=>
     bif (e12 == (xv10.length:Int)) then
      (appM 1 xv10 [(IntKind.u8.wrap xv11)]).bind fun l12=>
      some l12
     else
      some xv10).bind fun (l11:(List Int))=>
    (chk .i64 (xv11+1)).bind fun t6=>
    some (.next (l11,t6))
   else
    some (.stop xv10)) fuel (([]:(List Int)),(0:Int))).bind fun (xv7:(List Int))=>
 some xv7
def M.nfa_Closure_1 (s1:Int) (c1:T_NFA) (c2:(List Bool)) (c3:(List Int)):Option ((List Bool)×(List Int)):=
 (
  bif (decide (0≤s1)) then
   bif (decide (s1<c1.States)) then
    (idxL c2 s1).bind fun e2=>
    some (!e2)
   else
    some false
  else
   some false).bind fun (xv1:Bool)=>
 bif xv1 then
  (setL c2 s1 true).bind fun y1=>
  (appM 8 c3 [s1]).bind fun y2=>
  some (y1,y2)
 else
  some (c2,c3)
def M.nfa_sorted (is1:(List Bool)):Option (List Int):=
 (
  loopM (fun (st9:(List Int)×Int)=>match st9 with
  | (xv10,xv11)=>
   bif (decide (xv11<(is1.length:Int))) then
    (
     (idxL is1 xv11).bind fun e12=>
     bif e12 then
      (appM 8 xv10 [xv11]).bind fun l12=>
      some l12
     else
      some xv10).bind fun (l11:(List Int))=>
    (chk .i64 (xv11+1)).bind fun t6=>
    some (.next (l11,t6))
   else
    some (.stop xv10)) fuel (([]:(List Int)),(0:Int))).bind fun (xv7:(List Int))=>
 some xv7
def M.nfa_Closure (nv1:T_NFA) (states1:(List Int)):Option (List Int):=
 (mkM 1 nv1.States (false:Bool)).bind fun l1=>
 (
  loopM (fun (st9:(List Bool)×(List Int)×Int)=>match st9 with
  | (l7,xv10,xv11)=>
   bif (decide (xv11<(states1.length:Int))) then
    (idxL states1 xv11).bind fun e6=>
    (M.nfa_Closure_1 e6 nv1 l7 xv10).bind fun rv6=>
    (chk .i64 (xv11+1)).bind fun t6=>
    some (.next (rv6.1,rv6.2,t6))
   else
    some (.stop (l7,xv10))) fuel (l1,([]:(List Int)),(0:Int))).bind fun (l5,xv7)=>
 (
  loopM (fun (st9:(List Bool)×(List Int))=>match st9 with
  | (l42,xv78)=>
   bif (decide (0<(xv78.length:Int))) then
    (chk .i64 ((xv78.length:Int) - 1)).bind fun t27=>
    (idxL xv78 t27).bind fun e42=>
    (subL xv78 0 t27).bind fun l51=>
    loopM (fun (st9:(List Bool)×(List Int)×Int)=>match st9 with
    | (l54,l55,xv100)=>
     bif (decide (xv100<(nv1.Arcs.length:Int))) then
      (
       (idxL nv1.Arcs xv100).bind fun e48=>
       (
        bif e48.Epsilon then
         some (e48.From == e42)
        else
         some false).bind fun (xv109:Bool)=>
       bif xv109 then
        (M.nfa_Closure_1 e48.To nv1 l54 l55).bind fun rv42=>
        some (rv42.1,rv42.2)
       else
        some (l54,l55)).bind fun (xv107,xv108)=>
      (chk .i64 (xv100+1)).bind fun t30=>
      some (.next (xv107,xv108,t30))
     else
      some (.stop (.next (l54,l55)))) fuel (l42,l51,(0:Int))
   else
    some (.stop l42)) fuel (l5,xv7)).bind fun (l33:(List Bool))=>
 (M.nfa_sorted l33).bind fun rv43=>
 some rv43
def M.dfa_key (l1:(List Int)):Option Str:=
 (
  loopM (fun (st9:(List Int)×Int)=>match st9 with
  | (xv10,xv11)=>
   bif (decide (xv11<(l1.length:Int))) then
    (idxL l1 xv11).bind fun e6=>
    (shrM .i64 e6 8).bind fun t11=>
    (appM 1 xv10 [(IntKind.u8.wrap e6),(IntKind.u8.wrap t11)]).bind fun b10=>
    (chk .i64 (xv11+1)).bind fun t12=>
    some (.next (b10,t12))
   else
    some (.stop xv10)) fuel (([]:(List Int)),(0:Int))).bind fun (xv7:(List Int))=>
 some (toStr xv7)
def M.nfa_Step (nv1:T_NFA) (states1:(List Int)) (b1:Int):Option (List Int):=
 (mkM 1 nv1.States (false:Bool)).bind fun fromv1=>
 (
  (M.nfa_Closure nv1 states1).bind fun rv2=>
  loopM (fun (st9:(List Bool)×Int)=>match st9 with
  | (fromv11,xv5)=>
   bif (decide (xv5<(rv2.length:Int))) then
    (idxL rv2 xv5).bind fun e6=>
    (setL fromv11 e6 true).bind fun fromv14=>
    (chk .i64 (xv5+1)).bind fun t6=>
    some (.next (fromv14,t6))
   else
    some (.stop fromv11)) fuel (fromv1,(0:Int))).bind fun (fromv8:(List Bool))=>
 (
  loopM (fun (st9:(List Int)×Int)=>match st9 with
  | (xv16,xv17)=>
   bif (decide (xv17<(nv1.Arcs.length:Int))) then
    (
     (idxL nv1.Arcs xv17).bind fun e40=>
     (
      bif (!e40.Epsilon) then
       (idxL fromv8 e40.From).bind fun e42=>
       bif e42 then
        (M.byteset_Has e40.Set b1).bind fun rv38=>
        some rv38
       else
        some false
      else
       some false).bind fun (rv37:Bool)=>
     bif rv37 then
      (appM 8 xv16 [e40.To]).bind fun tov12=>
      some tov12
     else
      some xv16).bind fun (tov11:(List Int))=>
    (chk .i64 (xv17+1)).bind fun t12=>
    some (.next (tov11,t12))
   else
    some (.stop xv16)) fuel (([]:(List Int)),(0:Int))).bind fun (xv13:(List Int))=>
 (M.nfa_Closure nv1 xv13).bind fun rv39=>
 some rv39
def M.dfa_accepts (nv1:T_NFA) (l1:(List Int)):Option Int:=
 (
  loopM (fun (st9:Int×Int)=>match st9 with
  | (out10,xv13)=>
   bif (decide (xv13<(l1.length:Int))) then
    (
     (idxL l1 xv13).bind fun e23=>
     (idxL nv1.Accept e23).bind fun e24=>
     (
      bif (decide (0≤e24)) then
       bif (decide (out10<0)) then
        some true
       else
        some (decide (e24<out10))
      else
       some false).bind fun (xv18:Bool)=>
     bif xv18 then
      some e24
     else
      some out10).bind fun (out13:Int)=>
    (chk .i64 (xv13+1)).bind fun t6=>
    some (.next (out13,t6))
   else
    some (.stop out10)) fuel (((-1):Int),(0:Int))).bind fun (out7:Int)=>
 some out7
def M.dfa_Determinize (p1:T_NFA):Option (T_DFA×Int):=
 (M.nfa_Valid p1).bind fun rv1=>
 bif (!rv1) then
  some ((T_DFA.mk [] [] []),1)
 else
  (
   loopM (fun (st9:(List (Vec 4))×Int)=>match st9 with
   | (xv10,xv11)=>
    bif (decide (xv11<(p1.Arcs.length:Int))) then
     (idxL p1.Arcs xv11).bind fun e6=>
     (appM 32 xv10 [e6.Set]).bind fun y6=>
     (chk .i64 (xv11+1)).bind fun t6=>
     some (.next (y6,t6))
    else
     some (.stop xv10)) fuel (([]:(List (Vec 4))),(0:Int))).bind fun (xv7:(List (Vec 4)))=>
  (M.byteset_Classes xv7).bind fun rv2=>
  (M.dfa_sample rv2).bind fun rv3=>
  (M.nfa_Closure p1 [p1.Start]).bind fun rv4=>
  (idxL [rv4] 0).bind fun e7=>
  (M.dfa_key e7).bind fun rv5=>
  bindStep (
   loopM (fun (st9:(List (List Int))×(List Int)×(List (List Int))×(List (Str×Int))×Int)=>match st9 with
   | (xv284,xv285,xv286,m209,xv287)=>
    bif (decide (xv287<(xv286.length:Int))) then
     bindStep (
      (mkM 8 (rv3.length:Int) (0:Int)).bind fun l89=>
      bindStep (
       loopM (fun (st9:(List (List Int))×(List (Str×Int))×(List Int)×Int)=>match st9 with
       | (xv408,m305,l95,xv409)=>
        bif (decide (xv409<(rv3.length:Int))) then
         bindStep (
          (idxL rv3 xv409).bind fun e289=>
          (idxL xv408 xv287).bind fun e290=>
          (M.nfa_Step p1 e290 e289).bind fun rv589=>
          (setL l95 xv409 (-1)).bind fun y828=>
          bif ((rv589.length:Int) == 0) then
           some (.next (xv408,m305,y828))
          else
           (M.dfa_key rv589).bind fun rv590=>
           bindStep (
            bif (!((mget m305 rv590).isSome)) then
             bif ((xv408.length:Int) == 500) then
              some (.stop (.stop (.stop (.stop (.stop (.stop (.stop ((T_DFA.mk [] [] []),11))))))))
             else
              (M.dfa_key rv589).bind fun rv592=>
              (appM 24 xv408 [rv589]).bind fun y831=>
              some (.next (y831,(mset m305 rv592 (xv408.length:Int)),(xv408.length:Int)))
            else
             some (.next (xv408,m305,((mget m305 rv590).getD 0)))) fun (y830,m312,xv417)=>
           (setL y828 xv409 xv417).bind fun y832=>
           some (.next (y830,m312,y832))) fun (xv416,m311,y827)=>
         (chk .i64 (xv409+1)).bind fun t83=>
         some (.next (xv416,m311,y827,t83))
        else
         some (.stop (.next (xv408,m305,l95)))) fuel (xv286,m209,l89,(0:Int))) fun (xv402,m300,l93)=>
      (appM 24 xv284 [l93]).bind fun y833=>
      (idxL xv402 xv287).bind fun e291=>
      (M.dfa_accepts p1 e291).bind fun rv593=>
      (appM 8 xv285 [rv593]).bind fun y834=>
      some (.next (y833,y834,xv402,m300))) fun (y765,y766,xv386,m287)=>
     (chk .i64 (xv287+1)).bind fun t84=>
     some (.next (y765,y766,xv386,m287,t84))
    else
     some (.stop (.next (xv284,xv285)))) fuel (([]:(List (List Int))),([]:(List Int)),([rv4]:(List (List Int))),(mset [] rv5 0),(0:Int))) fun (xv215,xv216)=>
  some ((T_DFA.mk rv2 xv215 xv216),0)
def M.dfa_used (p1:T_DFA):Option T_DFA:=
 (
  (mkM 8 (p1.Class.length:Int) (0:Int)).bind fun l3=>
  some l3).bind fun (l2:(List Int))=>
 (
  loopM (fun (st9:(List (Int×Int))×(List Int)×(List Int)×Int)=>match st9 with
  | (m9,xv14,l9,xv15)=>
   bif (decide (xv15<(p1.Class.length:Int))) then
    (idxL p1.Class xv15).bind fun e6=>
    (
     bif (!((mget m9 e6).isSome)) then
      (appM 8 xv14 [e6]).bind fun y23=>
      some ((mset m9 e6 (xv14.length:Int)),y23,(xv14.length:Int))
     else
      some (m9,xv14,((mget m9 e6).getD 0))).bind fun (m12,y22,xv19)=>
    (setL l9 xv15 xv19).bind fun y24=>
    (chk .i64 (xv15+1)).bind fun t6=>
    some (.next (m12,y22,y24,t6))
   else
    some (.stop (xv14,l9))) fuel (([]:(List (Int×Int))),([]:(List Int)),l2,(0:Int))).bind fun (xv10,l7)=>
 (
  loopM (fun (st9:(List (List Int))×Int)=>match st9 with
  | (xv133,xv134)=>
   bif (decide (xv134<(p1.Next.length:Int))) then
    (
     (idxL p1.Next xv134).bind fun e150=>
     (
      loopM (fun (st9:(List Int)×Int)=>match st9 with
      | (xv185,xv186)=>
       bif (decide (xv186<(xv10.length:Int))) then
        (idxL xv10 xv186).bind fun e161=>
        (idxL e150 e161).bind fun e162=>
        (appM 8 xv185 [e162]).bind fun y113=>
        (chk .i64 (xv186+1)).bind fun t83=>
        some (.next (y113,t83))
       else
        some (.stop xv185)) fuel (([]:(List Int)),(0:Int))).bind fun (xv182:(List Int))=>
     (appM 24 xv133 [xv182]).bind fun y114=>
     some y114).bind fun (y107:(List (List Int)))=>
    (chk .i64 (xv134+1)).bind fun t84=>
    some (.next (y107,t84))
   else
    some (.stop xv133)) fuel (([]:(List (List Int))),(0:Int))).bind fun (xv104:(List (List Int)))=>
 some (T_DFA.mk l7 xv104 p1.Accept)
def M.dfa_live_1 (t1:Int) (c1:(List Bool)):Option Bool:=
 (
  bif (decide (0≤t1)) then
   (idxL c1 t1).bind fun e3=>
   some e3
  else
   some false).bind fun (e2:Bool)=>
 some e2
def M.dfa_live (d1:T_DFA):Option (List Bool):=
 (mkM 1 (d1.Next.length:Int) (false:Bool)).bind fun l1=>
 (
  loopM (fun (st9:(List Bool)×Int)=>match st9 with
  | (l7,xv5)=>
   bif (decide (xv5<(d1.Accept.length:Int))) then
    (idxL d1.Accept xv5).bind fun e6=>
    (setL l7 xv5 (decide (0≤e6))).bind fun y6=>
    (chk .i64 (xv5+1)).bind fun t6=>
    some (.next (y6,t6))
   else
    some (.stop l7)) fuel (l1,(0:Int))).bind fun (l5:(List Bool))=>
 (
  loopM (fun (st9:(List Bool)×Bool)=>match st9 with
  | (l26,more29)=>
   bif more29 then
    loopM (fun (st9:(List Bool)×Bool×Int)=>match st9 with
    | (l32,more39,xv23)=>
     bif (decide (xv23<(d1.Next.length:Int))) then
      (
       (idxL d1.Next xv23).bind fun e112=>
       (
        (idxL l32 xv23).bind fun e114=>
        bif (!e114) then
         (M.slices_ContainsFunc_int_int e112 (fun x901=>M.dfa_live_1 x901 l32)).bind fun rv108=>
         some rv108
        else
         some false).bind fun (rv107:Bool)=>
       bif rv107 then
        (setL l32 xv23 true).bind fun y60=>
        some (y60,true)
       else
        some (l32,more39)).bind fun (y59,more42)=>
      (chk .i64 (xv23+1)).bind fun t24=>
      some (.next (y59,more42,t24))
     else
      some (.stop (.next (l32,more39)))) fuel (l26,false,(0:Int))
   else
    some (.stop l26)) fuel (l5,true)).bind fun (l21:(List Bool))=>
 some l21
def M.slices_Clone_int_int (s1:(List Int)):Option (List Int):=
 (appM 8 [] s1).bind fun y1=>
 some y1
def M.dfa_pruned (d1:T_DFA):Option T_DFA:=
 (M.dfa_live d1).bind fun ok1=>
 (
  loopM (fun (st9:(List (List Int))×Int)=>match st9 with
  | (xv154,xv155)=>
   bif (decide (xv155<(d1.Next.length:Int))) then
    (
     (idxL d1.Next xv155).bind fun e408=>
     (M.slices_Clone_int_int e408).bind fun rv287=>
     (
      loopM (fun (st9:(List Int)×Int)=>match st9 with
      | (rv305,xv224)=>
       bif (decide (xv224<(rv287.length:Int))) then
        (
         (idxL rv305 xv224).bind fun e442=>
         (
          bif (decide (0≤e442)) then
           (idxL ok1 e442).bind fun e444=>
           some (!e444)
          else
           some false).bind fun (xv229:Bool)=>
         bif xv229 then
          (setL rv305 xv224 (-1)).bind fun rv312=>
          some rv312
         else
          some rv305).bind fun (rv311:(List Int))=>
        (chk .i64 (xv224+1)).bind fun t77=>
        some (.next (rv311,t77))
       else
        some (.stop rv305)) fuel (rv287,(0:Int))).bind fun (rv300:(List Int))=>
     (appM 24 xv154 [rv300]).bind fun next12=>
     some next12).bind fun (next11:(List (List Int)))=>
    (chk .i64 (xv155+1)).bind fun t78=>
    some (.next (next11,t78))
   else
    some (.stop xv154)) fuel (([]:(List (List Int))),(0:Int))).bind fun (xv115:(List (List Int)))=>
 some (T_DFA.mk d1.Class xv115 d1.Accept)
def M.dfa_wide (l1:(List Int)):Option Str:=
 (
  loopM (fun (st9:(List Int)×Int)=>match st9 with
  | (xv62,xv63)=>
   bif (decide (xv63<(l1.length:Int))) then
    (
     (idxL l1 xv63).bind fun e12=>
     loopM (fun (st9:(List Int)×Int)=>match st9 with
     | (xv88,xv89)=>
      bif (decide (xv89<8)) then
       (chk .i64 (8*xv89)).bind fun t111=>
       (shrM .i64 e12 t111).bind fun t112=>
       (appM 1 xv88 [(IntKind.u8.wrap t112)]).bind fun b44=>
       (chk .i64 (xv89+1)).bind fun t113=>
       some (.next (b44,t113))
      else
       some (.stop xv88)) fuel (xv62,(0:Int))).bind fun (xv85:(List Int))=>
    (chk .i64 (xv63+1)).bind fun t114=>
    some (.next (xv85,t114))
   else
    some (.stop xv62)) fuel (([]:(List Int)),(0:Int))).bind fun (xv46:(List Int))=>
 some (toStr xv46)
def M.dfa_partition (p1:T_DFA):Option (List Int):=
 (mkM 8 (p1.Next.length:Int) (0:Int)).bind fun l1=>
 loopM (fun (st9:(List Int)×Int)=>match st9 with
 | (l11,xv176)=>
  (mkM 8 (l11.length:Int) (0:Int)).bind fun l21=>
  (
   loopM (fun (st9:(List (Str×Int))×(List Int)×Int)=>match st9 with
   | (m68,l27,xv468)=>
    bif (decide (xv468<(p1.Next.length:Int))) then
     (
      (idxL p1.Next xv468).bind fun e946=>
      (idxL l11 xv468).bind fun e947=>
      (idxL p1.Accept xv468).bind fun e948=>
      (chk .i64 (e948+1)).bind fun t683=>
      (
       loopM (fun (st9:(List Int)×Int)=>match st9 with
       | (xv521,xv522)=>
        bif (decide (xv522<(e946.length:Int))) then
         (
          (idxL e946 xv522).bind fun e971=>
          bif (decide (e971<0)) then
           (appM 8 xv521 [0]).bind fun y1132=>
           some y1132
          else
           (idxL l11 e971).bind fun e972=>
           (chk .i64 (e972+1)).bind fun t700=>
           (appM 8 xv521 [t700]).bind fun y1133=>
           some y1133).bind fun (y1131:(List Int))=>
         (chk .i64 (xv522+1)).bind fun t701=>
         some (.next (y1131,t701))
        else
         some (.stop xv521)) fuel (([e947,t683]:(List Int)),(0:Int))).bind fun (xv518:(List Int))=>
      (M.dfa_wide xv518).bind fun rv106=>
      (
       bif (!((mget m68 rv106).isSome)) then
        (M.dfa_wide xv518).bind fun rv108=>
        some ((mset m68 rv108 (m68.length:Int)),(m68.length:Int))
       else
        some (m68,((mget m68 rv106).getD 0))).bind fun (m75,xv525)=>
      (setL l27 xv468 xv525).bind fun y1134=>
      some (m75,y1134)).bind fun (m74,y1103)=>
     (chk .i64 (xv468+1)).bind fun t702=>
     some (.next (m74,y1103,t702))
    else
     some (.stop (m68,l27))) fuel (([]:(List (Str×Int))),l21,(0:Int))).bind fun (m63,l25)=>
  bif ((m63.length:Int) == xv176) then
   some (.stop l25)
  else
   some (.next (l25,(m63.length:Int)))) fuel (l1,(0:Int))
def M.dfa_reached (d1:T_DFA) (part1:(List Int)):Option (List Int):=
 (mkM 1 (d1.Next.length:Int) (false:Bool)).bind fun seen1=>
 (idxL part1 0).bind fun e1=>
 (setL seen1 e1 true).bind fun seen2=>
 (
  loopM (fun (st9:(List Int)×(List Bool)×Int)=>match st9 with
  | (xv106,seen107,i5)=>
   bif (decide (i5<(xv106.length:Int))) then
    (
     (idxL xv106 i5).bind fun e420=>
     (idxL d1.Next e420).bind fun e421=>
     loopM (fun (st9:(List Int)×(List Bool)×Int)=>match st9 with
     | (xv150,seen151,xv151)=>
      bif (decide (xv151<(e421.length:Int))) then
       (
        (idxL e421 xv151).bind fun e452=>
        (
         bif (decide (0≤e452)) then
          (idxL part1 e452).bind fun e455=>
          (idxL seen151 e455).bind fun e456=>
          some (!e456)
         else
          some false).bind fun (xv157:Bool)=>
        bif xv157 then
         (idxL part1 e452).bind fun e457=>
         (setL seen151 e457 true).bind fun seen158=>
         (appM 8 xv150 [e452]).bind fun out108=>
         some (out108,seen158)
        else
         some (xv150,seen151)).bind fun (out107,seen157)=>
       (chk .i64 (xv151+1)).bind fun t41=>
       some (.next (out107,seen157,t41))
      else
       some (.stop (xv150,seen151))) fuel (xv106,seen107,(0:Int))).bind fun (xv145,seen146)=>
    (chk .i64 (i5+1)).bind fun t42=>
    some (.next (xv145,seen146,t42))
   else
    some (.stop xv106)) fuel (([0]:(List Int)),seen2,(0:Int))).bind fun (xv79:(List Int))=>
 some xv79
def M.dfa_step (d1:T_DFA) (s1:Int) (b1:Int):Option Int:=
 bif (decide (s1<0)) then
  some (-1)
 else
  (idxL d1.Next s1).bind fun e1=>
  (idxL d1.Class b1).bind fun e2=>
  (idxL e1 e2).bind fun e3=>
  some e3
def M.dfa_classes (p1:T_DFA) (p2:(List Int)) (p3:(List Int)):Option (List Int):=
 (mkM 8 256 (0:Int)).bind fun l1=>
 (
  loopM (fun (st9:(List Int)×(List (Str×Int))×Int)=>match st9 with
  | (l7,m17,xv117)=>
   bif (decide (xv117<(l1.length:Int))) then
    (
     (
      loopM (fun (st9:(List Int)×Int)=>match st9 with
      | (xv170,xv171)=>
       bif (decide (xv171<(p2.length:Int))) then
        (idxL p2 xv171).bind fun e285=>
        (M.dfa_step p1 e285 (IntKind.u8.wrap xv117)).bind fun rv105=>
        (
         bif (decide (0≤rv105)) then
          (idxL p3 rv105).bind fun e288=>
          some e288
         else
          some rv105).bind fun (e287:Int)=>
        (appM 8 xv170 [e287]).bind fun y89=>
        (chk .i64 (xv171+1)).bind fun t77=>
        some (.next (y89,t77))
       else
        some (.stop xv170)) fuel (([]:(List Int)),(0:Int))).bind fun (xv167:(List Int))=>
     (M.dfa_wide xv167).bind fun rv106=>
     (
      bif (!((mget m17 rv106).isSome)) then
       (M.dfa_wide xv167).bind fun rv108=>
       some ((mset m17 rv108 (m17.length:Int)),(m17.length:Int))
      else
       some (m17,((mget m17 rv106).getD 0))).bind fun (m24,xv174)=>
     (setL l7 xv117 xv174).bind fun y90=>
     some (y90,m24)).bind fun (y83,m23)=>
    (chk .i64 (xv117+1)).bind fun t78=>
    some (.next (y83,m23,t78))
   else
    some (.stop l7)) fuel (l1,([]:(List (Str×Int))),(0:Int))).bind fun (l5:(List Int))=>
 some l5
def M.dfa_Minimize (p1:T_DFA):Option T_DFA:=
 (M.dfa_used p1).bind fun rv1=>
 (M.dfa_pruned rv1).bind fun rv2=>
 (M.dfa_partition rv2).bind fun rv3=>
 (
  (M.dfa_reached rv2 rv3).bind fun rv7=>
  (M.dfa_classes rv2 rv7 rv3).bind fun rv8=>
  some rv8).bind fun (rv6:(List Int))=>
 (M.dfa_sample rv6).bind fun rv9=>
 (idxL rv3 0).bind fun e1=>
 (
  loopM (fun (st9:(List (List Int))×(List Int)×(List Int)×(List (Int×Int))×Int)=>match st9 with
  | (xv271,xv272,xv273,m209,xv274)=>
   bif (decide (xv274<(xv273.length:Int))) then
    (
     (mkM 8 (rv9.length:Int) (0:Int)).bind fun l89=>
     (
      loopM (fun (st9:(List Int)×(List (Int×Int))×(List Int)×Int)=>match st9 with
      | (xv395,m305,l95,xv396)=>
       bif (decide (xv396<(rv9.length:Int))) then
        (
         (idxL rv9 xv396).bind fun e453=>
         (idxL xv395 xv274).bind fun e454=>
         (M.dfa_step rv2 e454 e453).bind fun rv153=>
         (setL l95 xv396 (-1)).bind fun y822=>
         bif (decide (rv153<0)) then
          some (xv395,m305,y822)
         else
          (idxL rv3 rv153).bind fun e455=>
          (
           bif (!((mget m305 e455).isSome)) then
            (appM 8 xv395 [rv153]).bind fun y825=>
            some (y825,(mset m305 e455 (xv395.length:Int)),(xv395.length:Int))
           else
            some (xv395,m305,((mget m305 e455).getD 0))).bind fun (y824,m312,xv404)=>
          (setL y822 xv396 xv404).bind fun y826=>
          some (y824,m312,y826)).bind fun (xv403,m311,y821)=>
        (chk .i64 (xv396+1)).bind fun t77=>
        some (.next (xv403,m311,y821,t77))
       else
        some (.stop (xv395,m305,l95))) fuel (xv273,m209,l89,(0:Int))).bind fun (xv389,m300,l93)=>
     (appM 24 xv271 [l93]).bind fun y827=>
     (idxL xv389 xv274).bind fun e456=>
     (idxL rv2.Accept e456).bind fun e457=>
     (appM 8 xv272 [e457]).bind fun y828=>
     some (y827,y828,xv389,m300)).bind fun (y759,y760,xv373,m287)=>
    (chk .i64 (xv274+1)).bind fun t78=>
    some (.next (y759,y760,xv373,m287,t78))
   else
    some (.stop (xv271,xv272))) fuel (([]:(List (List Int))),([]:(List Int)),([0]:(List Int)),(mset [] e1 0),(0:Int))).bind fun (xv202,xv203)=>
 some (T_DFA.mk rv6 xv202 xv203)
def M.lexspec_build (l1:(List T_Regex)):Option (T_DFA×Int):=
 (M.nfa_FromRegexes l1).bind fun rv1=>
 bif (rv1.2 != 0) then
  some ((T_DFA.mk [] [] []),rv1.2)
 else
  (M.dfa_Determinize rv1.1).bind fun rv2=>
  bif (rv2.2 != 0) then
   some ((T_DFA.mk [] [] []),rv2.2)
  else
   (M.dfa_Minimize rv2.1).bind fun rv3=>
   some (rv3,0)
def M.dfa_result (d1:T_DFA) (s1:Int):Option Int:=
 bif (decide (s1<0)) then
  some (-1)
 else
  (idxL d1.Accept s1).bind fun e1=>
  some e1
def M.dfa_Run (d1:T_DFA) (s1:Str):Option Int:=
 (
  loopM (fun (st9:Int×Int)=>match st9 with
  | (state10,xv5)=>
   bif (decide (xv5<(s1.length:Int))) then
    (idxS s1 xv5).bind fun c6=>
    (M.dfa_step d1 state10 c6).bind fun state13=>
    (chk .i64 (xv5+1)).bind fun t6=>
    some (.next (state13,t6))
   else
    some (.stop state10)) fuel ((0:Int),(0:Int))).bind fun (state7:Int)=>
 (M.dfa_result d1 state7).bind fun rv1=>
 some rv1
def M.lexspec_literal (s1:Str):Option T_Regex:=
 (
  loopM (fun (st9:(List T_Regex)×Int)=>match st9 with
  | (xv10,xv11)=>
   bif (decide (xv11<(s1.length:Int))) then
    (idxS s1 xv11).bind fun c6=>
    (M.byteset_Range c6 c6).bind fun rv6=>
    (appM 64 xv10 [(T_Regex.mk 3 rv6 [])]).bind fun l4=>
    (chk .i64 (xv11+1)).bind fun t6=>
    some (.next (l4,t6))
   else
    some (.stop xv10)) fuel (([]:(List T_Regex)),(0:Int))).bind fun (xv7:(List T_Regex))=>
 bif ((xv7.length:Int) == 1) then
  (idxL xv7 0).bind fun e1=>
  some e1
 else
  some (T_Regex.mk 4 (Vec.zero 4) xv7)
def M.dfa_Difference (p1:T_DFA) (p2:T_DFA):Option (Str×Bool):=
 bindStep (
  loopM (fun (st9:(List T_dfa_entry)×(List (T_dfa_pair×Unit))×Int)=>match st9 with
  | (xv61,m57,xv62)=>
   bif (decide (xv62<(xv61.length:Int))) then
    bindStep (
     (idxL xv61 xv62).bind fun e12=>
     (M.dfa_result p1 e12.atv.a).bind fun rv419=>
     (M.dfa_result p2 e12.atv.b).bind fun rv420=>
     bif (rv419 != rv420) then
      some (.stop (.stop (.stop (e12.text,true))))
     else
      loopM (fun (st9:(List T_dfa_entry)×(List (T_dfa_pair×Unit))×Int)=>match st9 with
      | (xv87,m81,xv88)=>
       bif (decide (xv88<256)) then
        (
         (
          (M.dfa_step p1 e12.atv.a (IntKind.u8.wrap xv88)).bind fun rv455=>
          (M.dfa_step p2 e12.atv.b (IntKind.u8.wrap xv88)).bind fun rv456=>
          some (rv455,rv456)).bind fun (rv453,rv454)=>
         bif (!((mget m81 (T_dfa_pair.mk rv453 rv454)).isSome)) then
          (catS e12.text (toStr [(IntKind.u8.wrap xv88)])).bind fun s72=>
          (appM 32 xv87 [(T_dfa_entry.mk (T_dfa_pair.mk rv453 rv454) s72)]).bind fun y108=>
          some (y108,(mset m81 (T_dfa_pair.mk rv453 rv454) ()))
         else
          some (xv87,m81)).bind fun (y107,m84)=>
        (chk .i64 (xv88+1)).bind fun t41=>
        some (.next (y107,m84,t41))
       else
        some (.stop (.next (xv87,m81)))) fuel (xv61,m57,(0:Int))) fun (xv84,m78)=>
    (chk .i64 (xv62+1)).bind fun t42=>
    some (.next (xv84,m78,t42))
   else
    some (.stop (.next ()))) fuel (([(T_dfa_entry.mk (T_dfa_pair.mk 0 0) [])]:(List T_dfa_entry)),(mset [] (T_dfa_pair.mk 0 0) ()),(0:Int))) fun _=>
 some ([],false)
def M.lexspec_only (rv1:T_Regex) (s1:Str):Option Bool:=
 (M.lexspec_build [rv1]).bind fun rv2=>
 (M.lexspec_literal s1).bind fun rv3=>
 (M.lexspec_build [rv3]).bind fun rv4=>
 (
  bif (rv2.2 != 0) then
   some true
  else
   some (rv4.2 != 0)).bind fun (xv1:Bool)=>
 bif xv1 then
  some false
 else
  (M.dfa_Difference rv2.1 rv4.1).bind fun rv5=>
  some (!rv5.2)
def M.lexspec_compile (p1:T_LexSpec):Option (T_DFA×Int×Int):=
 (
  bif (decide ((p1.Defs.length:Int)<1)) then
   some true
  else
   some (decide (40<(p1.Defs.length:Int)))).bind fun (xv1:Bool)=>
 bif xv1 then
  some ((T_DFA.mk [] [] []),0,11)
 else
  bindStep (
   loopM (fun (st9:(List T_Regex)×Int)=>match st9 with
   | (xv11,xv12)=>
    bif (decide (xv12<(p1.Defs.length:Int))) then
     (idxL p1.Defs xv12).bind fun e6=>
     (M.lexspec_definition p1.Defs xv12).bind fun rv11=>
     bif (rv11 != 0) then
      some (.stop (.stop ((T_DFA.mk [] [] []),xv12,rv11)))
     else
      (M.regex_Parse e6.Pattern).bind fun rv12=>
      (appM 64 xv11 [rv12.1]).bind fun y6=>
      (chk .i64 (xv12+1)).bind fun t6=>
      some (.next (y6,t6))
    else
     some (.stop (.next xv11))) fuel (([]:(List T_Regex)),(0:Int))) fun (xv8:(List T_Regex))=>
  (
   bif (decide (p1.Misspelling<0)) then
    some true
   else
    bif (decide (1000<p1.Misspelling)) then
     some true
    else
     bif (decide (p1.Unclosed<0)) then
      some true
     else
      some (decide (1000<p1.Unclosed))).bind fun (xv15:Bool)=>
  bif xv15 then
   some ((T_DFA.mk [] [] []),(p1.Defs.length:Int),1)
  else
   (M.lexspec_build xv8).bind fun rv13=>
   bif (rv13.2 != 0) then
    some ((T_DFA.mk [] [] []),0,rv13.2)
   else
    bindStep (
     loopM (fun (xv24:Int)=>
      bif (decide (xv24<(p1.Defs.length:Int))) then
       (idxL p1.Defs xv24).bind fun e22=>
       (M.dfa_Run rv13.1 e22.Sample).bind fun rv29=>
       bif (rv29 != xv24) then
        some (.stop (.stop ((T_DFA.mk [] [] []),xv24,13)))
       else
        (
         bif (e22.Kind == 3) then
          (idxL xv8 xv24).bind fun e24=>
          (M.lexspec_only e24 e22.Sample).bind fun rv31=>
          some (!rv31)
         else
          some false).bind fun (xv27:Bool)=>
        bif xv27 then
         some (.stop (.stop ((T_DFA.mk [] [] []),xv24,14)))
        else
         (chk .i64 (xv24+1)).bind fun t12=>
         some (.next t12)
      else
       some (.stop (.next ()))) fuel (0:Int)) fun _=>
    some (rv13.1,0,0)
def M.lexspec_Check (spec1:T_LexSpec):Option (Int×Int):=
 (M.lexspec_compile spec1).bind fun rv1=>
 some (rv1.2.1,rv1.2.2)
def M.lexspec_Compile (spec1:T_LexSpec):Option (T_DFA×Int):=
 (M.lexspec_compile spec1).bind fun rv1=>
 some (rv1.1,rv1.2.2)
def M.ref11_Small:Option T_LexSpec:=
 some (T_LexSpec.mk [(T_TokenDef.mk [105,102] 3 [105,102] [105,102] []),(T_TokenDef.mk [119,111,114,100] 1 [91,97,45,122,93,43] [120] []),(T_TokenDef.mk [115,112,97,99,101] 2 [32,43] [32] []),(T_TokenDef.mk [116,101,120,116] 1 [39,91,94,39,92,110,93,42,39] [39,39] [39])] false 4 6)
def M.lexspec_Separator (spec1:T_LexSpec):Option (Str×Bool):=
 bindStep (
  loopM (fun (xv5:Int)=>
   bif (decide (xv5<(spec1.Defs.length:Int))) then
    (idxL spec1.Defs xv5).bind fun e6=>
    bif (e6.Kind == 2) then
     some (.stop (.stop (e6.Sample,true)))
    else
     (chk .i64 (xv5+1)).bind fun t6=>
     some (.next t6)
   else
    some (.stop (.next ()))) fuel (0:Int)) fun _=>
 some ([],false)
def M.ref10_Valid (p1:T_DFA):Option Bool:=
 (
  bif ((p1.Class.length:Int) != 256) then
   some true
  else
   bif (decide ((p1.Next.length:Int)<1)) then
    some true
   else
    bif (decide (500<(p1.Next.length:Int))) then
     some true
    else
     some ((p1.Accept.length:Int) != (p1.Next.length:Int))).bind fun (xv1:Bool)=>
 bif xv1 then
  some false
 else
  (idxL p1.Next 0).bind fun e1=>
  bif (decide ((e1.length:Int)<1)) then
   some false
  else
   bindStep (
    loopM (fun (xv10:Int)=>
     bif (decide (xv10<256)) then
      (
       (idxL p1.Class xv10).bind fun e13=>
       bif (decide (e13<0)) then
        some true
       else
        some (decide ((e1.length:Int)≤e13))).bind fun (xv13:Bool)=>
      bif xv13 then
       some (.stop (.stop false))
      else
       (chk .i64 (xv10+1)).bind fun t6=>
       some (.next t6)
     else
      some (.stop (.next ()))) fuel (0:Int)) fun _=>
   bindStep (
    loopM (fun (xv74:Int)=>
     bif (decide (xv74<(p1.Next.length:Int))) then
      bindStep (
       (
        (idxL p1.Next xv74).bind fun e160=>
        bif ((e160.length:Int) != (e1.length:Int)) then
         some true
        else
         (idxL p1.Accept xv74).bind fun e161=>
         some (decide (e161<(-1)))).bind fun (xv97:Bool)=>
       bif xv97 then
        some (.stop (.stop (.stop false)))
       else
        loopM (fun (xv100:Int)=>
         bif (decide (xv100<(e1.length:Int))) then
          (
           (idxL p1.Next xv74).bind fun e172=>
           (idxL e172 xv100).bind fun e173=>
           bif (decide (e173<(-1))) then
            some true
           else
            some (decide ((p1.Next.length:Int)≤e173))).bind fun (xv103:Bool)=>
          bif xv103 then
           some (.stop (.stop (.stop (.stop false))))
          else
           (chk .i64 (xv100+1)).bind fun t47=>
           some (.next t47)
         else
          some (.stop (.next ()))) fuel (0:Int)) fun _=>
      (chk .i64 (xv74+1)).bind fun t48=>
      some (.next t48)
     else
      some (.stop (.next ()))) fuel (0:Int)) fun _=>
   some true
def M.ref10_Step (d1:T_DFA) (s1:Int) (b1:Int):Option Int:=
 bif (decide (s1<0)) then
  some (-1)
 else
  (idxL d1.Next s1).bind fun e1=>
  (idxL d1.Class b1).bind fun e2=>
  (idxL e1 e2).bind fun e3=>
  some e3
def M.ref10_accept (d1:T_DFA) (s1:Int):Option Int:=
 bif (decide (s1<0)) then
  some (-1)
 else
  (idxL d1.Accept s1).bind fun e1=>
  some e1
def M.ref10_Run (d1:T_DFA) (s1:Str):Option Int:=
 (
  loopM (fun (st9:Int×Int)=>match st9 with
  | (atv10,i5)=>
   bif (decide (i5<(s1.length:Int))) then
    (idxS s1 i5).bind fun c6=>
    (M.ref10_Step d1 atv10 c6).bind fun atv13=>
    (chk .i64 (i5+1)).bind fun t6=>
    some (.next (atv13,t6))
   else
    some (.stop atv10)) fuel ((0:Int),(0:Int))).bind fun (atv7:Int)=>
 (M.ref10_accept d1 atv7).bind fun rv1=>
 some rv1
def M.lexspec_Sample (spec1:T_LexSpec) (kind1:Int):Option Str:=
 (
  bif (decide (kind1<0)) then
   some true
  else
   some (decide ((spec1.Defs.length:Int)≤kind1))).bind fun (xv1:Bool)=>
 bif xv1 then
  some []
 else
  (idxL spec1.Defs kind1).bind fun e1=>
  some e1.Sample
def M.lexspec_Terms (spec1:T_LexSpec):Option (List Str):=
 (
  loopM (fun (st9:(List Str)×Int)=>match st9 with
  | (xv10,xv11)=>
   bif (decide (xv11<(spec1.Defs.length:Int))) then
    (idxL spec1.Defs xv11).bind fun e6=>
    (appM 16 xv10 [e6.Name]).bind fun l4=>
    (chk .i64 (xv11+1)).bind fun t6=>
    some (.next (l4,t6))
   else
    some (.stop xv10)) fuel (([]:(List Str)),(0:Int))).bind fun (xv7:(List Str))=>
 (
  bif spec1.Layout then
   (appM 16 xv7 M.layoutTerms).bind fun l7=>
   some l7
  else
   some xv7).bind fun (l6:(List Str))=>
 some l6
def M.law11_awake:Option Bool:=
 (M.law11_swapped false).bind fun rv1=>
 (M.lexspec_Check rv1).bind fun rv2=>
 (M.law11_swapped true).bind fun rv3=>
 (M.lexspec_Check rv3).bind fun rv4=>
 (M.law11_swapped true).bind fun rv5=>
 (M.lexspec_Compile rv5).bind fun rv6=>
 (M.ref11_Small).bind fun rv7=>
 (M.lexspec_Separator rv7).bind fun rv8=>
 (
  bif (rv2.1 == 1) then
   bif (rv2.2 == 13) then
    bif (rv4.1 == 0) then
     bif (rv4.2 == 0) then
      bif (rv6.2 == 0) then
       (M.ref10_Valid rv6.1).bind fun rv16=>
       bif rv16 then
        (M.ref10_Run rv6.1 [105,102]).bind fun rv17=>
        bif (rv17 == 0) then
         (M.ref10_Run rv6.1 [105,116]).bind fun rv18=>
         bif (rv18 == 1) then
          (M.law11_swapped true).bind fun rv19=>
          (M.lexspec_Sample rv19 1).bind fun rv20=>
          bif (rv20 == [120]) then
           bif (rv8.1 == [32]) then
            bif rv8.2 then
             (M.law11_swapped true).bind fun rv21=>
             (M.lexspec_Terms rv21).bind fun rv22=>
             some ((rv22.length:Int) == 2)
            else
             some false
           else
            some false
          else
           some false
         else
          some false
        else
         some false
       else
        some false
      else
       some false
     else
      some false
    else
     some false
   else
    some false
  else
   some false).bind fun (xv1:Bool)=>
 some xv1
def M.ref11_Terms (spec1:T_LexSpec):Option (List Str):=
 (
  loopM (fun (st9:(List Str)×Int)=>match st9 with
  | (xv6,i5)=>
   bif (decide (i5<(spec1.Defs.length:Int))) then
    (idxL spec1.Defs i5).bind fun e6=>
    (appM 16 xv6 [e6.Name]).bind fun l4=>
    (chk .i64 (i5+1)).bind fun t6=>
    some (.next (l4,t6))
   else
    some (.stop xv6)) fuel (([]:(List Str)),(0:Int))).bind fun (xv4:(List Str))=>
 (
  bif spec1.Layout then
   (appM 16 xv4 [[110,101,119,108,105,110,101],[105,110,100,101,110,116],[100,101,100,101,110,116]]).bind fun l7=>
   some l7
  else
   some xv4).bind fun (l6:(List Str))=>
 some l6
def M.ref11_Separator (spec1:T_LexSpec):Option (Str×Bool):=
 bindStep (
  loopM (fun (i5:Int)=>
   bif (decide (i5<(spec1.Defs.length:Int))) then
    (idxL spec1.Defs i5).bind fun e6=>
    bif (e6.Kind == 2) then
     some (.stop (.stop (e6.Sample,true)))
    else
     (chk .i64 (i5+1)).bind fun t6=>
     some (.next t6)
   else
    some (.stop (.next ()))) fuel (0:Int)) fun _=>
 some ([],false)
def M.ref11_Sample (spec1:T_LexSpec) (kind1:Int):Option Str:=
 (
  bif (decide (kind1<0)) then
   some true
  else
   some (decide ((spec1.Defs.length:Int)≤kind1))).bind fun (xv1:Bool)=>
 bif xv1 then
  some []
 else
  (idxL spec1.Defs kind1).bind fun e1=>
  some e1.Sample
def M.law11_LexspecTerms (p1:T_LexSpec) (p2:Int):Option Bool:=
 (M.ref11_Few p1 50 100).bind fun rv1=>
 bif (!rv1) then
  (M.law11_awake).bind fun rv2=>
  some rv2
 else
  (M.lexspec_Terms p1).bind fun rv3=>
  (M.ref11_Terms p1).bind fun rv4=>
  bif ((rv3.length:Int) != (rv4.length:Int)) then
   some false
  else
   bindStep (
    loopM (fun (xv5:Int)=>
     bif (decide (xv5<(rv3.length:Int))) then
      (idxL rv3 xv5).bind fun e11=>
      (idxL rv4 xv5).bind fun e12=>
      bif (e11 != e12) then
       some (.stop (.stop false))
      else
       (chk .i64 (xv5+1)).bind fun t6=>
       some (.next t6)
     else
      some (.stop (.next ()))) fuel (0:Int)) fun _=>
   (M.lexspec_Separator p1).bind fun rv5=>
   (M.ref11_Separator p1).bind fun rv6=>
   (
    (M.law11_awake).bind fun rv10=>
    bif rv10 then
     bif (rv5.1 == rv6.1) then
      bif (rv5.2 == rv6.2) then
       (M.lexspec_Sample p1 p2).bind fun rv11=>
       (M.ref11_Sample p1 p2).bind fun rv12=>
       some (rv11 == rv12)
      else
       some false
     else
      some false
    else
     some false).bind fun (xv7:Bool)=>
   some xv7
end Go.Proofs.YtggpjcdhflcfmaaGreatDoor
set_option linter.unusedVariables false
set_option linter.unusedSimpArgs false
namespace Go.Proofs.YtggpjcdhflcfmaaGreatDoor
open Go.Lx Go.RowKit
theorem mo:Tryz.prog.follows .mixedOrders=true:=by kernel_rfl
theorem ti3:TyI Tryz.prog 3 false 1 8 (Value.int .i64 0):=ty_of (by kernel_rfl) (by kernel_rfl)
theorem ti4:TyI Tryz.prog 4 false 1 1 (Value.bool false):=ty_of (by kernel_rfl) (by kernel_rfl)
theorem ti5:TyI Tryz.prog 5 false 1 1 (Value.int .u8 0):=ty_of (by kernel_rfl) (by kernel_rfl)
theorem ti9:TyI Tryz.prog 9 false 1 16 (encS []):=ty_of (by kernel_rfl) (by kernel_rfl)
theorem ti22:TyI Tryz.prog 22 false 1 24 (.slice none 0 0):=ty_of (by kernel_rfl) (by kernel_rfl)
theorem ti24:TyI Tryz.prog 24 true 4 48 (Value.agg (List.toArray (α:=Value) [.slice none 0 0,Value.bool false,Value.int .i64 0,Value.int .i64 0])):=ty_of (by kernel_rfl) (by kernel_rfl)
theorem ti26:TyI Tryz.prog 26 false 1 8 (Value.nilFunc):=ty_of (by kernel_rfl) (by kernel_rfl)
theorem ti34:TyI Tryz.prog 34 false 1 24 (.slice none 0 0):=ty_of (by kernel_rfl) (by kernel_rfl)
theorem ti35:TyI Tryz.prog 35 false 1 24 (.slice none 0 0):=ty_of (by kernel_rfl) (by kernel_rfl)
theorem ti37:TyI Tryz.prog 37 true 3 72 (Value.agg (List.toArray (α:=Value) [.slice none 0 0,.slice none 0 0,.slice none 0 0])):=ty_of (by kernel_rfl) (by kernel_rfl)
theorem ti38:TyI Tryz.prog 38 false 1 8 (Value.int .i64 0):=ty_of (by kernel_rfl) (by kernel_rfl)
theorem ti46:TyI Tryz.prog 46 true 5 72 (Value.agg (List.toArray (α:=Value) [encS [],Value.int .i64 0,encS [],encS [],encS []])):=ty_of (by kernel_rfl) (by kernel_rfl)
theorem ti48:TyI Tryz.prog 48 false 1 8 (Value.int .u64 0):=ty_of (by kernel_rfl) (by kernel_rfl)
theorem ti50:TyI Tryz.prog 50 true 4 32 (encV .u64 (Vec.zero 4)):=ty_of (by kernel_rfl) (by kernel_rfl)
theorem ti51:TyI Tryz.prog 51 false 1 24 (.slice none 0 0):=ty_of (by kernel_rfl) (by kernel_rfl)
theorem ti53:TyI Tryz.prog 53 true 6 64 (Value.agg (List.toArray (α:=Value) (([Value.int .i64 0])++(((Vec.zero 4).1.map (Value.int .u64))++([.slice none 0 0]))))):=ty_of (by kernel_rfl) (by kernel_rfl)
theorem ti65:TyI Tryz.prog 65 false 1 24 (.slice none 0 0):=ty_of (by kernel_rfl) (by kernel_rfl)
theorem ti69:TyI Tryz.prog 69 false 1 24 (.slice none 0 0):=ty_of (by kernel_rfl) (by kernel_rfl)
theorem ti71:TyI Tryz.prog 71 true 4 64 (Value.agg (List.toArray (α:=Value) [Value.int .i64 0,Value.int .i64 0,.slice none 0 0,.slice none 0 0])):=ty_of (by kernel_rfl) (by kernel_rfl)
theorem ti85:TyI Tryz.prog 85 false 1 24 (.slice none 0 0):=ty_of (by kernel_rfl) (by kernel_rfl)
theorem ti95:TyI Tryz.prog 95 true 7 56 (Value.agg (List.toArray (α:=Value) (([Value.int .i64 0])++(([Value.int .i64 0])++(([Value.bool false])++((Vec.zero 4).1.map (Value.int .u64))))))):=ty_of (by kernel_rfl) (by kernel_rfl)
theorem ti105:TyI Tryz.prog 105 true 2 16 (Value.agg (List.toArray (α:=Value) [Value.nilFunc,Value.int .i64 0])):=ty_of (by kernel_rfl) (by kernel_rfl)
theorem ti125:TyI Tryz.prog 125 false 1 8 (Value.map none):=ty_of (by kernel_rfl) (by kernel_rfl)
theorem ti126:TyI Tryz.prog 126 false 1 24 (.slice none 0 0):=ty_of (by kernel_rfl) (by kernel_rfl)
theorem ti130:TyI Tryz.prog 130 true 3 56 (Value.agg (List.toArray (α:=Value) [Value.bool false,.slice none 0 0,.slice none 0 0])):=ty_of (by kernel_rfl) (by kernel_rfl)
theorem ti145:TyI Tryz.prog 145 true 2 16 (Value.agg (List.toArray (α:=Value) [Value.int .i64 0,Value.int .i64 0])):=ty_of (by kernel_rfl) (by kernel_rfl)
theorem ti147:TyI Tryz.prog 147 true 3 32 (Value.agg (List.toArray (α:=Value) (([Value.int .i64 0,Value.int .i64 0])++([encS []])))):=ty_of (by kernel_rfl) (by kernel_rfl)
theorem ti149:TyI Tryz.prog 149 true 0 0 (Value.agg (List.toArray (α:=Value) [])):=ty_of (by kernel_rfl) (by kernel_rfl)
theorem eg50:Tryz.prog.eqGuardType Tryz.prog.depth 50=false:=by kernel_rfl
theorem conc9:Tryz.prog.concrete 9=true:=by kernel_rfl
theorem conc107:Tryz.prog.concrete 107=true:=by kernel_rfl
theorem cf7:CF Tryz.prog 7:=cf_of Tryz.func7 rfl (by decide)
theorem cf8:CF Tryz.prog 8:=cf_of Tryz.func8 rfl (by decide)
theorem cf9:CF Tryz.prog 9:=cf_of Tryz.func9 rfl (by decide)
theorem cf10:CF Tryz.prog 10:=cf_of Tryz.func10 rfl (by decide)
theorem cf11:CF Tryz.prog 11:=cf_of Tryz.func11 rfl (by decide)
theorem cf12:CF Tryz.prog 12:=cf_of Tryz.func12 rfl (by decide)
theorem cf13:CF Tryz.prog 13:=cf_of Tryz.func13 rfl (by decide)
theorem cf14:CF Tryz.prog 14:=cf_of Tryz.func14 rfl (by decide)
theorem cf16:CF Tryz.prog 16:=cf_of Tryz.func16 rfl (by decide)
theorem cf17:CF Tryz.prog 17:=cf_of Tryz.func17 rfl (by decide)
theorem cf18:CF Tryz.prog 18:=cf_of Tryz.func18 rfl (by decide)
theorem cf19:CF Tryz.prog 19:=cf_of Tryz.func19 rfl (by decide)
theorem cf22:CF Tryz.prog 22:=cf_of Tryz.func22 rfl (by decide)
theorem cf23:CF Tryz.prog 23:=cf_of Tryz.func23 rfl (by decide)
theorem cf26:CF Tryz.prog 26:=cf_of Tryz.func26 rfl (by decide)
theorem cf27:CF Tryz.prog 27:=cf_of Tryz.func27 rfl (by decide)
theorem cf28:CF Tryz.prog 28:=cf_of Tryz.func28 rfl (by decide)
theorem cf33:CF Tryz.prog 33:=cf_of Tryz.func33 rfl (by decide)
theorem cf34:CF Tryz.prog 34:=cf_of Tryz.func34 rfl (by decide)
theorem cf35:CF Tryz.prog 35:=cf_of Tryz.func35 rfl (by decide)
theorem cf36:CF Tryz.prog 36:=cf_of Tryz.func36 rfl (by decide)
theorem cf37:CF Tryz.prog 37:=cf_of Tryz.func37 rfl (by decide)
theorem cf51:CF Tryz.prog 51:=cf_of Tryz.func51 rfl (by decide)
theorem cf52:CF Tryz.prog 52:=cf_of Tryz.func52 rfl (by decide)
theorem cf53:CF Tryz.prog 53:=cf_of Tryz.func53 rfl (by decide)
theorem cf54:CF Tryz.prog 54:=cf_of Tryz.func54 rfl (by decide)
theorem cf55:CF Tryz.prog 55:=cf_of Tryz.func55 rfl (by decide)
theorem cf56:CF Tryz.prog 56:=cf_of Tryz.func56 rfl (by decide)
theorem cf57:CF Tryz.prog 57:=cf_of Tryz.func57 rfl (by decide)
theorem cf58:CF Tryz.prog 58:=cf_of Tryz.func58 rfl (by decide)
theorem cf59:CF Tryz.prog 59:=cf_of Tryz.func59 rfl (by decide)
theorem cf60:CF Tryz.prog 60:=cf_of Tryz.func60 rfl (by decide)
theorem cf61:CF Tryz.prog 61:=cf_of Tryz.func61 rfl (by decide)
theorem cf62:CF Tryz.prog 62:=cf_of Tryz.func62 rfl (by decide)
theorem cf63:CF Tryz.prog 63:=cf_of Tryz.func63 rfl (by decide)
theorem cf64:CF Tryz.prog 64:=cf_of Tryz.func64 rfl (by decide)
theorem cf65:CF Tryz.prog 65:=cf_of Tryz.func65 rfl (by decide)
theorem cf66:CF Tryz.prog 66:=cf_of Tryz.func66 rfl (by decide)
theorem cf67:CF Tryz.prog 67:=cf_of Tryz.func67 rfl (by decide)
theorem cf68:CF Tryz.prog 68:=cf_of Tryz.func68 rfl (by decide)
theorem cf69:CF Tryz.prog 69:=cf_of Tryz.func69 rfl (by decide)
theorem cf70:CF Tryz.prog 70:=cf_of Tryz.func70 rfl (by decide)
theorem cf80:CF Tryz.prog 80:=cf_of Tryz.func80 rfl (by decide)
theorem cf81:CF Tryz.prog 81:=cf_of Tryz.func81 rfl (by decide)
theorem cf82:CF Tryz.prog 82:=cf_of Tryz.func82 rfl (by decide)
theorem cf83:CF Tryz.prog 83:=cf_of Tryz.func83 rfl (by decide)
theorem cf84:CF Tryz.prog 84:=cf_of Tryz.func84 rfl (by decide)
theorem cf85:CF Tryz.prog 85:=cf_of Tryz.func85 rfl (by decide)
theorem cf86:CF Tryz.prog 86:=cf_of Tryz.func86 rfl (by decide)
theorem cf87:CF Tryz.prog 87:=cf_of Tryz.func87 rfl (by decide)
theorem cf88:CF Tryz.prog 88:=cf_of Tryz.func88 rfl (by decide)
theorem cf89:CF Tryz.prog 89:=cf_of Tryz.func89 rfl (by decide)
theorem cf90:CF Tryz.prog 90:=cf_of Tryz.func90 rfl (by decide)
theorem cf91:CF Tryz.prog 91:=cf_of Tryz.func91 rfl (by decide)
theorem cf92:CF Tryz.prog 92:=cf_of Tryz.func92 rfl (by decide)
theorem cf93:CF Tryz.prog 93:=cf_of Tryz.func93 rfl (by decide)
theorem cf94:CF Tryz.prog 94:=cf_of Tryz.func94 rfl (by decide)
theorem cf95:CF Tryz.prog 95:=cf_of Tryz.func95 rfl (by decide)
theorem cf96:CF Tryz.prog 96:=cf_of Tryz.func96 rfl (by decide)
theorem cf97:CF Tryz.prog 97:=cf_of Tryz.func97 rfl (by decide)
theorem cf98:CF Tryz.prog 98:=cf_of Tryz.func98 rfl (by decide)
theorem cf99:CF Tryz.prog 99:=cf_of Tryz.func99 rfl (by decide)
theorem cf100:CF Tryz.prog 100:=cf_of Tryz.func100 rfl (by decide)
theorem cf101:CF Tryz.prog 101:=cf_of Tryz.func101 rfl (by decide)
theorem cf103:CF Tryz.prog 103:=cf_of Tryz.func103 rfl (by decide)
theorem cf104:CF Tryz.prog 104:=cf_of Tryz.func104 rfl (by decide)
theorem cf105:CF Tryz.prog 105:=cf_of Tryz.func105 rfl (by decide)
theorem cf106:CF Tryz.prog 106:=cf_of Tryz.func106 rfl (by decide)
theorem cf107:CF Tryz.prog 107:=cf_of Tryz.func107 rfl (by decide)
theorem cf108:CF Tryz.prog 108:=cf_of Tryz.func108 rfl (by decide)
theorem cf109:CF Tryz.prog 109:=cf_of Tryz.func109 rfl (by decide)
theorem cf113:CF Tryz.prog 113:=cf_of Tryz.func113 rfl (by decide)
theorem cf114:CF Tryz.prog 114:=cf_of Tryz.func114 rfl (by decide)
theorem cf115:CF Tryz.prog 115:=cf_of Tryz.func115 rfl (by decide)
theorem cf116:CF Tryz.prog 116:=cf_of Tryz.func116 rfl (by decide)
theorem cf117:CF Tryz.prog 117:=cf_of Tryz.func117 rfl (by decide)
theorem cf118:CF Tryz.prog 118:=cf_of Tryz.func118 rfl (by decide)
theorem cf119:CF Tryz.prog 119:=cf_of Tryz.func119 rfl (by decide)
theorem cf120:CF Tryz.prog 120:=cf_of Tryz.func120 rfl (by decide)
theorem cf121:CF Tryz.prog 121:=cf_of Tryz.func121 rfl (by decide)
theorem cf124:CF Tryz.prog 124:=cf_of Tryz.func124 rfl (by decide)
theorem cf125:CF Tryz.prog 125:=cf_of Tryz.func125 rfl (by decide)
theorem cf129:CF Tryz.prog 129:=cf_of Tryz.func129 rfl (by decide)
theorem cf130:CF Tryz.prog 130:=cf_of Tryz.func130 rfl (by decide)
theorem cf135:CF Tryz.prog 135:=cf_of Tryz.func135 rfl (by decide)
theorem cf136:CF Tryz.prog 136:=cf_of Tryz.func136 rfl (by decide)
theorem cf137:CF Tryz.prog 137:=cf_of Tryz.func137 rfl (by decide)
theorem cf138:CF Tryz.prog 138:=cf_of Tryz.func138 rfl (by decide)
theorem cf139:CF Tryz.prog 139:=cf_of Tryz.func139 rfl (by decide)
theorem cf155:CF Tryz.prog 155:=cf_of Tryz.func155 rfl (by decide)
theorem cf156:CF Tryz.prog 156:=cf_of Tryz.func156 rfl (by decide)
theorem cf157:CF Tryz.prog 157:=cf_of Tryz.func157 rfl (by decide)
theorem cf158:CF Tryz.prog 158:=cf_of Tryz.func158 rfl (by decide)
theorem cf159:CF Tryz.prog 159:=cf_of Tryz.func159 rfl (by decide)
theorem cf160:CF Tryz.prog 160:=cf_of Tryz.func160 rfl (by decide)
theorem cf167:CF Tryz.prog 167:=cf_of Tryz.func167 rfl (by decide)
open Go.ChangeShapes Go.WideShapes Go.ChangeAt
def okT_TokenDef (x:T_TokenDef):Prop:=(fun s=>s.length≤maxLen) x.Name∧(IOk .i64) x.Kind∧(fun s=>s.length≤maxLen) x.Pattern∧(fun s=>s.length≤maxLen) x.Sample∧(fun s=>s.length≤maxLen) x.Close
set_option maxRecDepth 100000 in
theorem readsT_TokenDef:Reads Tryz.prog 46 tT_TokenDef okT_TokenDef:=by
  intro H enc w f cs x h
  obtain ⟨_,_,_,_,hl,hlen,hf⟩:=DataW.trod_struct Tryz.underlying46 h
  obtain ⟨y0,r0,k0⟩:=field_reads (reads_str Tryz.underlying9) hf hlen 0 rfl (o:=0) (s:=1) rfl (by kernel_rfl)
  obtain ⟨y1,r1,k1⟩:=field_reads (reads_int Tryz.underlying3) hf hlen 1 rfl (o:=1) (s:=1) rfl (by kernel_rfl)
  obtain ⟨y2,r2,k2⟩:=field_reads (reads_str Tryz.underlying9) hf hlen 2 rfl (o:=2) (s:=1) rfl (by kernel_rfl)
  obtain ⟨y3,r3,k3⟩:=field_reads (reads_str Tryz.underlying9) hf hlen 3 rfl (o:=3) (s:=1) rfl (by kernel_rfl)
  obtain ⟨y4,r4,k4⟩:=field_reads (reads_str Tryz.underlying9) hf hlen 4 rfl (o:=4) (s:=1) rfl (by kernel_rfl)
  have hl2:cs.length=5:=hl.trans (by kernel_rfl)
  refine ⟨⟨y0,y1,y2,y3,y4⟩,⟨_,_,_,_,_,?_,r0,r1,r2,r3,r4⟩,k0,k1,k2,k3,k4⟩
  exact (cutc cs 0 1).trans (congrArg (_++·) ((cutc cs 1 1).trans (congrArg (_++·) ((cutc cs 2 1).trans (congrArg (_++·) ((cutc cs 3 1).trans (congrArg (_++·) (cutl (o:=4) (s:=1) hl2))))))))
def okT_LexSpec (x:T_LexSpec):Prop:=(fun l=>(∀x∈l,okT_TokenDef x)∧l.length≤maxLen) x.Defs∧(fun _=>True) x.Layout∧(IOk .i64) x.Misspelling∧(IOk .i64) x.Unclosed
set_option maxRecDepth 100000 in
theorem readsT_LexSpec:Reads Tryz.prog 24 tT_LexSpec okT_LexSpec:=by
  intro H enc w f cs x h
  obtain ⟨_,_,_,_,hl,hlen,hf⟩:=DataW.trod_struct Tryz.underlying24 h
  obtain ⟨y0,r0,k0⟩:=field_reads (reads_slice Tryz.underlying22 (by kernel_rfl) (by decide) readsT_TokenDef) hf hlen 0 rfl (o:=0) (s:=1) rfl (by kernel_rfl)
  obtain ⟨y1,r1,k1⟩:=field_reads (reads_bool Tryz.underlying4) hf hlen 1 rfl (o:=1) (s:=1) rfl (by kernel_rfl)
  obtain ⟨y2,r2,k2⟩:=field_reads (reads_int Tryz.underlying3) hf hlen 2 rfl (o:=2) (s:=1) rfl (by kernel_rfl)
  obtain ⟨y3,r3,k3⟩:=field_reads (reads_int Tryz.underlying3) hf hlen 3 rfl (o:=3) (s:=1) rfl (by kernel_rfl)
  have hl2:cs.length=4:=hl.trans (by kernel_rfl)
  refine ⟨⟨y0,y1,y2,y3⟩,⟨_,_,_,_,?_,r0,r1,r2,r3⟩,k0,k1,k2,k3⟩
  exact (cutc cs 0 1).trans (congrArg (_++·) ((cutc cs 1 1).trans (congrArg (_++·) ((cutc cs 2 1).trans (congrArg (_++·) (cutl (o:=3) (s:=1) hl2))))))
end Go.Proofs.YtggpjcdhflcfmaaGreatDoor
