/- The plain models of the functions, printed by a program of my own from the translation. -/
import Derived.Test.YtogpainomdfpnaaLxFn
import Derived.Test.YtogpainomdfpnaaLxRange
import Derived.Test.YtogpainomdfpnaaLxRec
import Derived.Test.YtogpainomdfpnaaLxRecover
import Derived.Test.YtogpainomdfpnaaLxEq
import Derived.Test.YtogpainomdfpnaaLxRangeX
set_option linter.unusedVariables false
set_option linter.unusedSimpArgs false
namespace Go.Proofs.Ytogpainomdfpnaa
open Go.Lx Go.RowKit
structure T_NFAArc where
  From : Int
  To : Int
  Epsilon : Bool
  Set : (Vec 4)

instance : DecidableEq T_NFAArc := fun a b => if h : a.From = b.From ∧ a.To = b.To ∧ a.Epsilon = b.Epsilon ∧ a.Set = b.Set then isTrue (by cases a; cases b; simp_all) else isFalse (by intro e; subst e; simp at h)

structure T_NFA where
  States : Int
  Start : Int
  Arcs : (List T_NFAArc)
  Accept : (List Int)

instance : DecidableEq T_NFA := fun a b => if h : a.States = b.States ∧ a.Start = b.Start ∧ a.Arcs = b.Arcs ∧ a.Accept = b.Accept then isTrue (by cases a; cases b; simp_all) else isFalse (by intro e; subst e; simp at h)

structure T_DFA where
  Class : (List Int)
  Next : (List (List Int))
  Accept : (List Int)

instance : DecidableEq T_DFA := fun a b => if h : a.Class = b.Class ∧ a.Next = b.Next ∧ a.Accept = b.Accept then isTrue (by cases a; cases b; simp_all) else isFalse (by intro e; subst e; simp at h)

structure T_dfa_pair where
  a : Int
  b : Int

instance : DecidableEq T_dfa_pair := fun a b => if h : a.a = b.a ∧ a.b = b.b then isTrue (by cases a; cases b; simp_all) else isFalse (by intro e; subst e; simp at h)

structure T_dfa_entry where
  atv : T_dfa_pair
  text : Str

instance : DecidableEq T_dfa_entry := fun a b => if h : a.atv = b.atv ∧ a.text = b.text then isTrue (by cases a; cases b; simp_all) else isFalse (by intro e; subst e; simp at h)
def tT_NFAArc : Ty T_NFAArc := ⟨7, fun g cs x => ∃ c0 c1 c2 c3, cs = c0 ++ (c1 ++ (c2 ++ (c3))) ∧ (tInt .i64).rel g c0 x.From ∧ (tInt .i64).rel g c1 x.To ∧ tBool.rel g c2 x.Epsilon ∧ (tVec 4 .u64).rel g c3 x.Set,
  fun hg ⟨c0, c1, c2, c3, e, h0, h1, h2, h3⟩ => ⟨c0, c1, c2, c3, e, (tInt .i64).mono hg h0, (tInt .i64).mono hg h1, tBool.mono hg h2, (tVec 4 .u64).mono hg h3⟩,
  fun ⟨_, _, _, _, e, h0, h1, h2, h3⟩ => by rw [e]; simp [(tInt .i64).len h0, (tInt .i64).len h1, tBool.len h2, (tVec 4 .u64).len h3, tBool, tInt, tVec],
  fun ⟨_, _, _, _, e, h0, h1, h2, h3⟩ v hv => by
    subst e; simp only [List.mem_append] at hv; rcases hv with hv | hv | hv | hv
    · exact (tInt .i64).one h0 v hv
    · exact (tInt .i64).one h1 v hv
    · exact tBool.one h2 v hv
    · exact (tVec 4 .u64).one h3 v hv⟩

def tT_NFA : Ty T_NFA := ⟨4, fun g cs x => ∃ c0 c1 c2 c3, cs = c0 ++ (c1 ++ (c2 ++ (c3))) ∧ (tInt .i64).rel g c0 x.States ∧ (tInt .i64).rel g c1 x.Start ∧ (tSl tT_NFAArc).rel g c2 x.Arcs ∧ (tSl (tInt .i64)).rel g c3 x.Accept,
  fun hg ⟨c0, c1, c2, c3, e, h0, h1, h2, h3⟩ => ⟨c0, c1, c2, c3, e, (tInt .i64).mono hg h0, (tInt .i64).mono hg h1, (tSl tT_NFAArc).mono hg h2, (tSl (tInt .i64)).mono hg h3⟩,
  fun ⟨_, _, _, _, e, h0, h1, h2, h3⟩ => by rw [e]; simp [(tInt .i64).len h0, (tInt .i64).len h1, (tSl tT_NFAArc).len h2, (tSl (tInt .i64)).len h3, tInt, tSl],
  fun ⟨_, _, _, _, e, h0, h1, h2, h3⟩ v hv => by
    subst e; simp only [List.mem_append] at hv; rcases hv with hv | hv | hv | hv
    · exact (tInt .i64).one h0 v hv
    · exact (tInt .i64).one h1 v hv
    · exact (tSl tT_NFAArc).one h2 v hv
    · exact (tSl (tInt .i64)).one h3 v hv⟩

def tT_DFA : Ty T_DFA := ⟨3, fun g cs x => ∃ c0 c1 c2, cs = c0 ++ (c1 ++ (c2)) ∧ (tSl (tInt .i64)).rel g c0 x.Class ∧ (tSl (tSl (tInt .i64))).rel g c1 x.Next ∧ (tSl (tInt .i64)).rel g c2 x.Accept,
  fun hg ⟨c0, c1, c2, e, h0, h1, h2⟩ => ⟨c0, c1, c2, e, (tSl (tInt .i64)).mono hg h0, (tSl (tSl (tInt .i64))).mono hg h1, (tSl (tInt .i64)).mono hg h2⟩,
  fun ⟨_, _, _, e, h0, h1, h2⟩ => by rw [e]; simp [(tSl (tInt .i64)).len h0, (tSl (tSl (tInt .i64))).len h1, (tSl (tInt .i64)).len h2, tSl],
  fun ⟨_, _, _, e, h0, h1, h2⟩ v hv => by
    subst e; simp only [List.mem_append] at hv; rcases hv with hv | hv | hv
    · exact (tSl (tInt .i64)).one h0 v hv
    · exact (tSl (tSl (tInt .i64))).one h1 v hv
    · exact (tSl (tInt .i64)).one h2 v hv⟩

def tT_dfa_pair : Ty T_dfa_pair := ⟨2, fun g cs x => ∃ c0 c1, cs = c0 ++ (c1) ∧ (tInt .i64).rel g c0 x.a ∧ (tInt .i64).rel g c1 x.b,
  fun hg ⟨c0, c1, e, h0, h1⟩ => ⟨c0, c1, e, (tInt .i64).mono hg h0, (tInt .i64).mono hg h1⟩,
  fun ⟨_, _, e, h0, h1⟩ => by rw [e]; simp [(tInt .i64).len h0, (tInt .i64).len h1, tInt],
  fun ⟨_, _, e, h0, h1⟩ v hv => by
    subst e; simp only [List.mem_append] at hv; rcases hv with hv | hv
    · exact (tInt .i64).one h0 v hv
    · exact (tInt .i64).one h1 v hv⟩

def tT_dfa_entry : Ty T_dfa_entry := ⟨3, fun g cs x => ∃ c0 c1, cs = c0 ++ (c1) ∧ tT_dfa_pair.rel g c0 x.atv ∧ tStr.rel g c1 x.text,
  fun hg ⟨c0, c1, e, h0, h1⟩ => ⟨c0, c1, e, tT_dfa_pair.mono hg h0, tStr.mono hg h1⟩,
  fun ⟨_, _, e, h0, h1⟩ => by rw [e]; simp [tT_dfa_pair.len h0, tStr.len h1, tStr, tT_dfa_pair],
  fun ⟨_, _, e, h0, h1⟩ v hv => by
    subst e; simp only [List.mem_append] at hv; rcases hv with hv | hv
    · exact tT_dfa_pair.one h0 v hv
    · exact tStr.one h1 v hv⟩
def M.law10_few (nv1 : T_NFA) : Option Bool :=
 (
  bif (decide (nv1.States ≤ 9)) then
   bif (decide ((nv1.Arcs.length : Int) ≤ 16)) then
    some (decide ((nv1.Accept.length : Int) ≤ 20))
   else
    some false
  else
   some false).bind fun (xv1 : Bool) =>
 some xv1

def M.law10_class (b1 : Int) : Option (List Int) :=
 (mkM 8 256 (0 : Int)).bind fun c1 =>
 (setL c1 b1 1).bind fun c2 =>
 some c2

def M.law10_plus : Option (T_DFA × T_DFA) :=
 (M.law10_class 97).bind fun rv1 =>
 (M.law10_class 97).bind fun rv2 =>
 some ((T_DFA.mk rv1 [[(-1), 1], [(-1), 1]] [(-1), 0]), (T_DFA.mk rv2 [[(-1), 1], [(-1), 2], [(-1), 1]] [(-1), 0, 0]))

def M.dfa_result (d1 : T_DFA) (s1 : Int) : Option Int :=
 bif (decide (s1 < 0)) then
  some (-1)
 else
  (idxL d1.Accept s1).bind fun e1 =>
  some e1

def M.dfa_step (d1 : T_DFA) (s1 : Int) (b1 : Int) : Option Int :=
 bif (decide (s1 < 0)) then
  some (-1)
 else
  (idxL d1.Next s1).bind fun e1 =>
  (idxL d1.Class b1).bind fun e2 =>
  (idxL e1 e2).bind fun e3 =>
  some e3

def M.dfa_Difference (p1 : T_DFA) (p2 : T_DFA) : Option (Str × Bool) :=
 bindStep (
  loopM (fun (st9 : (List T_dfa_entry) × (List (T_dfa_pair × Unit)) × Int) => match st9 with
  | (xv61, m57, xv62) =>
   bif (decide (xv62 < (xv61.length : Int))) then
    bindStep (
     (idxL xv61 xv62).bind fun e12 =>
     (M.dfa_result p1 e12.atv.a).bind fun rv419 =>
     (M.dfa_result p2 e12.atv.b).bind fun rv420 =>
     bif (rv419 != rv420) then
      some (.stop (.stop (.stop (e12.text, true))))
     else
      loopM (fun (st9 : (List T_dfa_entry) × (List (T_dfa_pair × Unit)) × Int) => match st9 with
      | (xv87, m81, xv88) =>
       bif (decide (xv88 < 256)) then
        (
         (
          (M.dfa_step p1 e12.atv.a (IntKind.u8.wrap xv88)).bind fun rv455 =>
          (M.dfa_step p2 e12.atv.b (IntKind.u8.wrap xv88)).bind fun rv456 =>
          some (rv455, rv456)).bind fun (rv453, rv454) =>
         bif (!((mget m81 (T_dfa_pair.mk rv453 rv454)).isSome)) then
          (catS e12.text (toStr [(IntKind.u8.wrap xv88)])).bind fun s72 =>
          (appM 32 xv87 [(T_dfa_entry.mk (T_dfa_pair.mk rv453 rv454) s72)]).bind fun y108 =>
          some (y108, (mset m81 (T_dfa_pair.mk rv453 rv454) ()))
         else
          some (xv87, m81)).bind fun (y107, m84) =>
        (chk .i64 (xv88 + 1)).bind fun t41 =>
        some (.next (y107, m84, t41))
       else
        some (.stop (.next (xv87, m81)))) fuel (xv61, m57, (0 : Int))) fun (xv84, m78) =>
    (chk .i64 (xv62 + 1)).bind fun t42 =>
    some (.next (xv84, m78, t42))
   else
    some (.stop (.next ()))) fuel (([(T_dfa_entry.mk (T_dfa_pair.mk 0 0) [])] : (List T_dfa_entry)), (mset [] (T_dfa_pair.mk 0 0) ()), (0 : Int))) fun _ =>
 some ([], false)

def M.dfa_between_1 (nv1 : Int) (c1 : Int) (c2 : Int) : Option Bool :=
 (
  bif (decide (nv1 < c1)) then
   some true
  else
   some (decide (c2 < nv1))).bind fun (xv1 : Bool) =>
 some xv1

def M.slices_IndexFunc_int_int (s1 : (List Int)) (f1 : (Int → Option Bool)) : Option Int :=
 bindStep (
  loopM (fun (xv5 : Int) =>
   bif (decide (xv5 < (s1.length : Int))) then
    (idxL s1 xv5).bind fun e6 =>
    (f1 e6).bind fun rv6 =>
    bif rv6 then
     some (.stop (.stop xv5))
    else
     (chk .i64 (xv5 + 1)).bind fun t6 =>
     some (.next t6)
   else
    some (.stop (.next ()))) fuel (0 : Int)) fun _ =>
 some (-1)

def M.slices_ContainsFunc_int_int (s1 : (List Int)) (f1 : (Int → Option Bool)) : Option Bool :=
 (M.slices_IndexFunc_int_int s1 f1).bind fun rv1 =>
 some (decide (0 ≤ rv1))

def M.dfa_between (l1 : (List Int)) (lo1 : Int) (hiv1 : Int) : Option Bool :=
 (M.slices_ContainsFunc_int_int l1 (fun x901 => M.dfa_between_1 x901 lo1 hiv1)).bind fun rv1 =>
 some (!rv1)

def M.dfa_Valid_1 (a1 : Int) : Option Bool :=
 some (decide (a1 < (-1)))

def M.dfa_Valid (p1 : T_DFA) : Option Bool :=
 (
  bif ((p1.Class.length : Int) != 256) then
   some true
  else
   bif (decide ((p1.Next.length : Int) < 1)) then
    some true
   else
    bif (decide (500 < (p1.Next.length : Int))) then
     some true
    else
     some ((p1.Accept.length : Int) != (p1.Next.length : Int))).bind fun (xv1 : Bool) =>
 bif xv1 then
  some false
 else
  (idxL p1.Next 0).bind fun e1 =>
  (
   bif (decide ((e1.length : Int) < 1)) then
    some true
   else
    (chk .i64 ((e1.length : Int) - 1)).bind fun t2 =>
    (M.dfa_between p1.Class 0 t2).bind fun rv2 =>
    some (!rv2)).bind fun (xv2 : Bool) =>
  bif xv2 then
   some false
  else
   bindStep (
    loopM (fun (xv11 : Int) =>
     bif (decide (xv11 < (p1.Next.length : Int))) then
      (idxL p1.Next xv11).bind fun e5 =>
      (
       bif ((e5.length : Int) != (e1.length : Int)) then
        some true
       else
        (chk .i64 ((p1.Next.length : Int) - 1)).bind fun t19 =>
        (M.dfa_between e5 (-1) t19).bind fun rv14 =>
        some (!rv14)).bind fun (xv14 : Bool) =>
      bif xv14 then
       some (.stop (.stop false))
      else
       (chk .i64 (xv11 + 1)).bind fun t20 =>
       some (.next t20)
     else
      some (.stop (.next ()))) fuel (0 : Int)) fun _ =>
   (M.slices_ContainsFunc_int_int p1.Accept M.dfa_Valid_1).bind fun rv15 =>
   some (!rv15)

def M.dfa_Run (d1 : T_DFA) (s1 : Str) : Option Int :=
 (
  loopM (fun (st9 : Int × Int) => match st9 with
  | (state10, xv5) =>
   bif (decide (xv5 < (s1.length : Int))) then
    (idxS s1 xv5).bind fun c6 =>
    (M.dfa_step d1 state10 c6).bind fun state13 =>
    (chk .i64 (xv5 + 1)).bind fun t6 =>
    some (.next (state13, t6))
   else
    some (.stop state10)) fuel ((0 : Int), (0 : Int))).bind fun (state7 : Int) =>
 (M.dfa_result d1 state7).bind fun rv1 =>
 some rv1

def M.dfa_used (p1 : T_DFA) : Option T_DFA :=
 (
  (mkM 8 (p1.Class.length : Int) (0 : Int)).bind fun l3 =>
  some l3).bind fun (l2 : (List Int)) =>
 (
  loopM (fun (st9 : (List (Int × Int)) × (List Int) × (List Int) × Int) => match st9 with
  | (m9, xv14, l9, xv15) =>
   bif (decide (xv15 < (p1.Class.length : Int))) then
    (idxL p1.Class xv15).bind fun e6 =>
    (
     bif (!((mget m9 e6).isSome)) then
      (appM 8 xv14 [e6]).bind fun y23 =>
      some ((mset m9 e6 (xv14.length : Int)), y23, (xv14.length : Int))
     else
      some (m9, xv14, ((mget m9 e6).getD 0))).bind fun (m12, y22, xv19) =>
    (setL l9 xv15 xv19).bind fun y24 =>
    (chk .i64 (xv15 + 1)).bind fun t6 =>
    some (.next (m12, y22, y24, t6))
   else
    some (.stop (xv14, l9))) fuel (([] : (List (Int × Int))), ([] : (List Int)), l2, (0 : Int))).bind fun (xv10, l7) =>
 (
  loopM (fun (st9 : (List (List Int)) × Int) => match st9 with
  | (xv133, xv134) =>
   bif (decide (xv134 < (p1.Next.length : Int))) then
    (
     (idxL p1.Next xv134).bind fun e150 =>
     (
      loopM (fun (st9 : (List Int) × Int) => match st9 with
      | (xv185, xv186) =>
       bif (decide (xv186 < (xv10.length : Int))) then
        (idxL xv10 xv186).bind fun e161 =>
        (idxL e150 e161).bind fun e162 =>
        (appM 8 xv185 [e162]).bind fun y113 =>
        (chk .i64 (xv186 + 1)).bind fun t83 =>
        some (.next (y113, t83))
       else
        some (.stop xv185)) fuel (([] : (List Int)), (0 : Int))).bind fun (xv182 : (List Int)) =>
     (appM 24 xv133 [xv182]).bind fun y114 =>
     some y114).bind fun (y107 : (List (List Int))) =>
    (chk .i64 (xv134 + 1)).bind fun t84 =>
    some (.next (y107, t84))
   else
    some (.stop xv133)) fuel (([] : (List (List Int))), (0 : Int))).bind fun (xv104 : (List (List Int))) =>
 some (T_DFA.mk l7 xv104 p1.Accept)

def M.dfa_live_1 (t1 : Int) (c1 : (List Bool)) : Option Bool :=
 (
  bif (decide (0 ≤ t1)) then
   (idxL c1 t1).bind fun e3 =>
   some e3
  else
   some false).bind fun (e2 : Bool) =>
 some e2

def M.dfa_live (d1 : T_DFA) : Option (List Bool) :=
 (mkM 1 (d1.Next.length : Int) (false : Bool)).bind fun l1 =>
 (
  loopM (fun (st9 : (List Bool) × Int) => match st9 with
  | (l7, xv5) =>
   bif (decide (xv5 < (d1.Accept.length : Int))) then
    (idxL d1.Accept xv5).bind fun e6 =>
    (setL l7 xv5 (decide (0 ≤ e6))).bind fun y6 =>
    (chk .i64 (xv5 + 1)).bind fun t6 =>
    some (.next (y6, t6))
   else
    some (.stop l7)) fuel (l1, (0 : Int))).bind fun (l5 : (List Bool)) =>
 (
  loopM (fun (st9 : (List Bool) × Bool) => match st9 with
  | (l26, more29) =>
   bif more29 then
    loopM (fun (st9 : (List Bool) × Bool × Int) => match st9 with
    | (l32, more39, xv23) =>
     bif (decide (xv23 < (d1.Next.length : Int))) then
      (
       (idxL d1.Next xv23).bind fun e112 =>
       (
        (idxL l32 xv23).bind fun e114 =>
        bif (!e114) then
         (M.slices_ContainsFunc_int_int e112 (fun x901 => M.dfa_live_1 x901 l32)).bind fun rv108 =>
         some rv108
        else
         some false).bind fun (rv107 : Bool) =>
       bif rv107 then
        (setL l32 xv23 true).bind fun y60 =>
        some (y60, true)
       else
        some (l32, more39)).bind fun (y59, more42) =>
      (chk .i64 (xv23 + 1)).bind fun t24 =>
      some (.next (y59, more42, t24))
     else
      some (.stop (.next (l32, more39)))) fuel (l26, false, (0 : Int))
   else
    some (.stop l26)) fuel (l5, true)).bind fun (l21 : (List Bool)) =>
 some l21

def M.slices_Clone_int_int (s1 : (List Int)) : Option (List Int) :=
 (appM 8 [] s1).bind fun y1 =>
 some y1

def M.dfa_pruned (d1 : T_DFA) : Option T_DFA :=
 (M.dfa_live d1).bind fun ok1 =>
 (
  loopM (fun (st9 : (List (List Int)) × Int) => match st9 with
  | (xv154, xv155) =>
   bif (decide (xv155 < (d1.Next.length : Int))) then
    (
     (idxL d1.Next xv155).bind fun e408 =>
     (M.slices_Clone_int_int e408).bind fun rv287 =>
     (
      loopM (fun (st9 : (List Int) × Int) => match st9 with
      | (rv305, xv224) =>
       bif (decide (xv224 < (rv287.length : Int))) then
        (
         (idxL rv305 xv224).bind fun e442 =>
         (
          bif (decide (0 ≤ e442)) then
           (idxL ok1 e442).bind fun e444 =>
           some (!e444)
          else
           some false).bind fun (xv229 : Bool) =>
         bif xv229 then
          (setL rv305 xv224 (-1)).bind fun rv312 =>
          some rv312
         else
          some rv305).bind fun (rv311 : (List Int)) =>
        (chk .i64 (xv224 + 1)).bind fun t77 =>
        some (.next (rv311, t77))
       else
        some (.stop rv305)) fuel (rv287, (0 : Int))).bind fun (rv300 : (List Int)) =>
     (appM 24 xv154 [rv300]).bind fun next12 =>
     some next12).bind fun (next11 : (List (List Int))) =>
    (chk .i64 (xv155 + 1)).bind fun t78 =>
    some (.next (next11, t78))
   else
    some (.stop xv154)) fuel (([] : (List (List Int))), (0 : Int))).bind fun (xv115 : (List (List Int))) =>
 some (T_DFA.mk d1.Class xv115 d1.Accept)

def M.dfa_wide (l1 : (List Int)) : Option Str :=
 (
  loopM (fun (st9 : (List Int) × Int) => match st9 with
  | (xv62, xv63) =>
   bif (decide (xv63 < (l1.length : Int))) then
    (
     (idxL l1 xv63).bind fun e12 =>
     loopM (fun (st9 : (List Int) × Int) => match st9 with
     | (xv88, xv89) =>
      bif (decide (xv89 < 8)) then
       (chk .i64 (8 * xv89)).bind fun t111 =>
       (shrM .i64 e12 t111).bind fun t112 =>
       (appM 1 xv88 [(IntKind.u8.wrap t112)]).bind fun b44 =>
       (chk .i64 (xv89 + 1)).bind fun t113 =>
       some (.next (b44, t113))
      else
       some (.stop xv88)) fuel (xv62, (0 : Int))).bind fun (xv85 : (List Int)) =>
    (chk .i64 (xv63 + 1)).bind fun t114 =>
    some (.next (xv85, t114))
   else
    some (.stop xv62)) fuel (([] : (List Int)), (0 : Int))).bind fun (xv46 : (List Int)) =>
 some (toStr xv46)

def M.dfa_partition (p1 : T_DFA) : Option (List Int) :=
 (mkM 8 (p1.Next.length : Int) (0 : Int)).bind fun l1 =>
 loopM (fun (st9 : (List Int) × Int) => match st9 with
 | (l11, xv176) =>
  (mkM 8 (l11.length : Int) (0 : Int)).bind fun l21 =>
  (
   loopM (fun (st9 : (List (Str × Int)) × (List Int) × Int) => match st9 with
   | (m68, l27, xv468) =>
    bif (decide (xv468 < (p1.Next.length : Int))) then
     (
      (idxL p1.Next xv468).bind fun e946 =>
      (idxL l11 xv468).bind fun e947 =>
      (idxL p1.Accept xv468).bind fun e948 =>
      (
       loopM (fun (st9 : (List Int) × Int) => match st9 with
       | (xv521, xv522) =>
        bif (decide (xv522 < (e946.length : Int))) then
         (
          (idxL e946 xv522).bind fun e971 =>
          bif (decide (e971 < 0)) then
           (appM 8 xv521 [0]).bind fun y1132 =>
           some y1132
          else
           (idxL l11 e971).bind fun e972 =>
           (chk .i64 (e972 + 1)).bind fun t664 =>
           (appM 8 xv521 [t664]).bind fun y1133 =>
           some y1133).bind fun (y1131 : (List Int)) =>
         (chk .i64 (xv522 + 1)).bind fun t665 =>
         some (.next (y1131, t665))
        else
         some (.stop xv521)) fuel (([e947, (IntKind.i64.wrap (e948 + 1))] : (List Int)), (0 : Int))).bind fun (xv518 : (List Int)) =>
      (M.dfa_wide xv518).bind fun rv106 =>
      (
       bif (!((mget m68 rv106).isSome)) then
        (M.dfa_wide xv518).bind fun rv108 =>
        some ((mset m68 rv108 (m68.length : Int)), (m68.length : Int))
       else
        some (m68, ((mget m68 rv106).getD 0))).bind fun (m75, xv525) =>
      (setL l27 xv468 xv525).bind fun y1134 =>
      some (m75, y1134)).bind fun (m74, y1103) =>
     (chk .i64 (xv468 + 1)).bind fun t666 =>
     some (.next (m74, y1103, t666))
    else
     some (.stop (m68, l27))) fuel (([] : (List (Str × Int))), l21, (0 : Int))).bind fun (m63, l25) =>
  bif ((m63.length : Int) == xv176) then
   some (.stop l25)
  else
   some (.next (l25, (m63.length : Int)))) fuel (l1, (0 : Int))

def M.dfa_reached (d1 : T_DFA) (part1 : (List Int)) : Option (List Int) :=
 (mkM 1 (d1.Next.length : Int) (false : Bool)).bind fun seen1 =>
 (idxL part1 0).bind fun e1 =>
 (setL seen1 e1 true).bind fun seen2 =>
 (
  loopM (fun (st9 : (List Int) × (List Bool) × Int) => match st9 with
  | (xv106, seen107, i5) =>
   bif (decide (i5 < (xv106.length : Int))) then
    (
     (idxL xv106 i5).bind fun e420 =>
     (idxL d1.Next e420).bind fun e421 =>
     loopM (fun (st9 : (List Int) × (List Bool) × Int) => match st9 with
     | (xv150, seen151, xv151) =>
      bif (decide (xv151 < (e421.length : Int))) then
       (
        (idxL e421 xv151).bind fun e452 =>
        (
         bif (decide (0 ≤ e452)) then
          (idxL part1 e452).bind fun e455 =>
          (idxL seen151 e455).bind fun e456 =>
          some (!e456)
         else
          some false).bind fun (xv157 : Bool) =>
        bif xv157 then
         (idxL part1 e452).bind fun e457 =>
         (setL seen151 e457 true).bind fun seen158 =>
         (appM 8 xv150 [e452]).bind fun out108 =>
         some (out108, seen158)
        else
         some (xv150, seen151)).bind fun (out107, seen157) =>
       (chk .i64 (xv151 + 1)).bind fun t41 =>
       some (.next (out107, seen157, t41))
      else
       some (.stop (xv150, seen151))) fuel (xv106, seen107, (0 : Int))).bind fun (xv145, seen146) =>
    (chk .i64 (i5 + 1)).bind fun t42 =>
    some (.next (xv145, seen146, t42))
   else
    some (.stop xv106)) fuel (([0] : (List Int)), seen2, (0 : Int))).bind fun (xv79 : (List Int)) =>
 some xv79

def M.dfa_classes (p1 : T_DFA) (p2 : (List Int)) (p3 : (List Int)) : Option (List Int) :=
 (mkM 8 256 (0 : Int)).bind fun l1 =>
 (
  loopM (fun (st9 : (List Int) × (List (Str × Int)) × Int) => match st9 with
  | (l7, m17, xv117) =>
   bif (decide (xv117 < (l1.length : Int))) then
    (
     (
      loopM (fun (st9 : (List Int) × Int) => match st9 with
      | (xv170, xv171) =>
       bif (decide (xv171 < (p2.length : Int))) then
        (idxL p2 xv171).bind fun e285 =>
        (M.dfa_step p1 e285 (IntKind.u8.wrap xv117)).bind fun rv105 =>
        (
         bif (decide (0 ≤ rv105)) then
          (idxL p3 rv105).bind fun e288 =>
          some e288
         else
          some rv105).bind fun (e287 : Int) =>
        (appM 8 xv170 [e287]).bind fun y89 =>
        (chk .i64 (xv171 + 1)).bind fun t77 =>
        some (.next (y89, t77))
       else
        some (.stop xv170)) fuel (([] : (List Int)), (0 : Int))).bind fun (xv167 : (List Int)) =>
     (M.dfa_wide xv167).bind fun rv106 =>
     (
      bif (!((mget m17 rv106).isSome)) then
       (M.dfa_wide xv167).bind fun rv108 =>
       some ((mset m17 rv108 (m17.length : Int)), (m17.length : Int))
      else
       some (m17, ((mget m17 rv106).getD 0))).bind fun (m24, xv174) =>
     (setL l7 xv117 xv174).bind fun y90 =>
     some (y90, m24)).bind fun (y83, m23) =>
    (chk .i64 (xv117 + 1)).bind fun t78 =>
    some (.next (y83, m23, t78))
   else
    some (.stop l7)) fuel (l1, ([] : (List (Str × Int))), (0 : Int))).bind fun (l5 : (List Int)) =>
 some l5

def M.dfa_sample (classv1 : (List Int)) : Option (List Int) :=
 (
  loopM (fun (st9 : (List Int) × Int) => match st9 with
  | (xv10, xv11) =>
   bif (decide (xv11 < (classv1.length : Int))) then
    (
     (idxL classv1 xv11).bind fun e12 =>
     bif (e12 == (xv10.length : Int)) then
      (appM 1 xv10 [(IntKind.u8.wrap xv11)]).bind fun l12 =>
      some l12
     else
      some xv10).bind fun (l11 : (List Int)) =>
    (chk .i64 (xv11 + 1)).bind fun t6 =>
    some (.next (l11, t6))
   else
    some (.stop xv10)) fuel (([] : (List Int)), (0 : Int))).bind fun (xv7 : (List Int)) =>
 some xv7

def M.dfa_Minimize (p1 : T_DFA) : Option T_DFA :=
 (M.dfa_used p1).bind fun rv1 =>
 (M.dfa_pruned rv1).bind fun rv2 =>
 (M.dfa_partition rv2).bind fun rv3 =>
 (
  (M.dfa_reached rv2 rv3).bind fun rv7 =>
  (M.dfa_classes rv2 rv7 rv3).bind fun rv8 =>
  some rv8).bind fun (rv6 : (List Int)) =>
 (M.dfa_sample rv6).bind fun rv9 =>
 (idxL rv3 0).bind fun e1 =>
 (
  loopM (fun (st9 : (List (List Int)) × (List Int) × (List Int) × (List (Int × Int)) × Int) => match st9 with
  | (xv271, xv272, xv273, m209, xv274) =>
   bif (decide (xv274 < (xv273.length : Int))) then
    (
     (mkM 8 (rv9.length : Int) (0 : Int)).bind fun l89 =>
     (
      loopM (fun (st9 : (List Int) × (List (Int × Int)) × (List Int) × Int) => match st9 with
      | (xv395, m305, l95, xv396) =>
       bif (decide (xv396 < (rv9.length : Int))) then
        (
         (idxL rv9 xv396).bind fun e453 =>
         (idxL xv395 xv274).bind fun e454 =>
         (M.dfa_step rv2 e454 e453).bind fun rv153 =>
         (setL l95 xv396 (-1)).bind fun y822 =>
         bif (decide (rv153 < 0)) then
          some (xv395, m305, y822)
         else
          (idxL rv3 rv153).bind fun e455 =>
          (
           bif (!((mget m305 e455).isSome)) then
            (appM 8 xv395 [rv153]).bind fun y825 =>
            some (y825, (mset m305 e455 (xv395.length : Int)), (xv395.length : Int))
           else
            some (xv395, m305, ((mget m305 e455).getD 0))).bind fun (y824, m312, xv404) =>
          (setL y822 xv396 xv404).bind fun y826 =>
          some (y824, m312, y826)).bind fun (xv403, m311, y821) =>
        (chk .i64 (xv396 + 1)).bind fun t77 =>
        some (.next (xv403, m311, y821, t77))
       else
        some (.stop (xv395, m305, l95))) fuel (xv273, m209, l89, (0 : Int))).bind fun (xv389, m300, l93) =>
     (appM 24 xv271 [l93]).bind fun y827 =>
     (idxL xv389 xv274).bind fun e456 =>
     (idxL rv2.Accept e456).bind fun e457 =>
     (appM 8 xv272 [e457]).bind fun y828 =>
     some (y827, y828, xv389, m300)).bind fun (y759, y760, xv373, m287) =>
    (chk .i64 (xv274 + 1)).bind fun t78 =>
    some (.next (y759, y760, xv373, m287, t78))
   else
    some (.stop (xv271, xv272))) fuel (([] : (List (List Int))), ([] : (List Int)), ([0] : (List Int)), (mset [] e1 0), (0 : Int))).bind fun (xv202, xv203) =>
 some (T_DFA.mk rv6 xv202 xv203)

def M.ref07_Ints (a1 : (List Int)) (b1 : (List Int)) : Option Bool :=
 bif ((a1.length : Int) != (b1.length : Int)) then
  some false
 else
  bindStep (
   loopM (fun (i5 : Int) =>
    bif (decide (i5 < (a1.length : Int))) then
     (idxL a1 i5).bind fun e11 =>
     (idxL b1 i5).bind fun e12 =>
     bif (e11 != e12) then
      some (.stop (.stop false))
     else
      (chk .i64 (i5 + 1)).bind fun t6 =>
      some (.next t6)
    else
     some (.stop (.next ()))) fuel (0 : Int)) fun _ =>
  some true

def M.ref10_Same (a1 : T_DFA) (b1 : T_DFA) : Option Bool :=
 (
  bif ((a1.Next.length : Int) != (b1.Next.length : Int)) then
   some true
  else
   (M.ref07_Ints a1.Class b1.Class).bind fun rv3 =>
   bif (!rv3) then
    some true
   else
    (M.ref07_Ints a1.Accept b1.Accept).bind fun rv4 =>
    some (!rv4)).bind fun (xv1 : Bool) =>
 bif xv1 then
  some false
 else
  bindStep (
   loopM (fun (i5 : Int) =>
    bif (decide (i5 < (a1.Next.length : Int))) then
     (idxL a1.Next i5).bind fun e11 =>
     (idxL b1.Next i5).bind fun e12 =>
     (M.ref07_Ints e11 e12).bind fun rv10 =>
     bif (!rv10) then
      some (.stop (.stop false))
     else
      (chk .i64 (i5 + 1)).bind fun t6 =>
      some (.next t6)
    else
     some (.stop (.next ()))) fuel (0 : Int)) fun _ =>
  some true

def M.law10_awake : Option Bool :=
 (M.law10_plus).bind fun rv1 =>
 (M.dfa_Difference rv1.1 rv1.2).bind fun rv2 =>
 (
  (M.law10_class 97).bind fun rv5 =>
  (M.dfa_Difference rv1.1 (T_DFA.mk rv5 [[(-1), (-1)]] [(-1)])).bind fun rv6 =>
  some (rv6.1, rv6.2)).bind fun (xv1, xv2) =>
 (
  (M.dfa_Valid rv1.1).bind fun rv16 =>
  bif rv16 then
   (M.dfa_Valid (T_DFA.mk [] [] [])).bind fun rv17 =>
   bif (!rv17) then
    (M.dfa_Run rv1.1 [97, 97]).bind fun rv18 =>
    bif (rv18 == 0) then
     (M.dfa_Run rv1.1 []).bind fun rv19 =>
     bif (rv19 == (-1)) then
      (M.dfa_Run rv1.1 [97, 98]).bind fun rv20 =>
      bif (rv20 == (-1)) then
       (M.dfa_Minimize rv1.2).bind fun rv21 =>
       (M.ref10_Same rv21 rv1.1).bind fun rv22 =>
       bif rv22 then
        (M.dfa_Minimize rv1.1).bind fun rv23 =>
        (M.ref10_Same rv23 rv1.1).bind fun rv24 =>
        bif rv24 then
         bif (!rv2.2) then
          bif xv2 then
           some (xv1 == [97])
          else
           some false
         else
          some false
        else
         some false
       else
        some false
      else
       some false
     else
      some false
    else
     some false
   else
    some false
  else
   some false).bind fun (xv3 : Bool) =>
 some xv3

def M.nfa_Valid_1 (s1 : Int) (c1 : T_NFA) : Option Bool :=
 (
  bif (decide (0 ≤ s1)) then
   some (decide (s1 < c1.States))
  else
   some false).bind fun (xv1 : Bool) =>
 some xv1

def M.nfa_Valid_2 (xv1 : Int) : Option Bool :=
 some (decide (xv1 < (-1)))

def M.nfa_Valid (nv1 : T_NFA) : Option Bool :=
 (
  bif (decide (nv1.States < 1)) then
   some true
  else
   bif (decide (2000 < nv1.States)) then
    some true
   else
    (M.nfa_Valid_1 nv1.Start nv1).bind fun rv2 =>
    bif (!rv2) then
     some true
    else
     some ((nv1.Accept.length : Int) != nv1.States)).bind fun (xv1 : Bool) =>
 bif xv1 then
  some false
 else
  bindStep (
   loopM (fun (xv10 : Int) =>
    bif (decide (xv10 < (nv1.Arcs.length : Int))) then
     (idxL nv1.Arcs xv10).bind fun e6 =>
     (
      (M.nfa_Valid_1 e6.From nv1).bind fun rv25 =>
      bif (!rv25) then
       some true
      else
       (M.nfa_Valid_1 e6.To nv1).bind fun rv26 =>
       bif (!rv26) then
        some true
       else
        bif e6.Epsilon then
         some (e6.Set != (Vec.zero 4))
        else
         some false).bind fun (xv13 : Bool) =>
     bif xv13 then
      some (.stop (.stop false))
     else
      (chk .i64 (xv10 + 1)).bind fun t6 =>
      some (.next t6)
    else
     some (.stop (.next ()))) fuel (0 : Int)) fun _ =>
  (M.slices_ContainsFunc_int_int nv1.Accept M.nfa_Valid_2).bind fun rv27 =>
  some (!rv27)

def M.byteset_Has (s1 : (Vec 4)) (b1 : Int) : Option Bool :=
 (quoM .u8 b1 64).bind fun t1 =>
 (vget s1 t1).bind fun c1 =>
 (remM b1 64).bind fun t2 =>
 (shrM .u64 c1 t2).bind fun t3 =>
 some ((bits .and .u64 t3 1) == 1)

def M.byteset_Classes (l1 : (List (Vec 4))) : Option (List Int) :=
 (mkM 8 256 (0 : Int)).bind fun out1 =>
 (
  loopM (fun (st9 : (List Int) × (List (Str × Int)) × Int) => match st9 with
  | (out19, m17, xv53) =>
   bif (decide (xv53 < (out1.length : Int))) then
    (
     (mkM 1 (l1.length : Int) (0 : Int)).bind fun key287 =>
     (
      loopM (fun (st9 : (List Int) × Int) => match st9 with
      | (key305, xv77) =>
       bif (decide (xv77 < (l1.length : Int))) then
        (
         (idxL l1 xv77).bind fun e144 =>
         (M.byteset_Has e144 (IntKind.u8.wrap xv53)).bind fun rv144 =>
         bif rv144 then
          (setL key305 xv77 1).bind fun key312 =>
          some key312
         else
          some key305).bind fun (key311 : (List Int)) =>
        (chk .i64 (xv77 + 1)).bind fun t77 =>
        some (.next (key311, t77))
       else
        some (.stop key305)) fuel (key287, (0 : Int))).bind fun (key300 : (List Int)) =>
     (
      bif (!((mget m17 (toStr key300)).isSome)) then
       some ((mset m17 (toStr key300) (m17.length : Int)), (m17.length : Int))
      else
       some (m17, ((mget m17 (toStr key300)).getD 0))).bind fun (m24, nv12) =>
     (setL out19 xv53 nv12).bind fun out26 =>
     some (out26, m24)).bind fun (out25, m23) =>
    (chk .i64 (xv53 + 1)).bind fun t78 =>
    some (.next (out25, m23, t78))
   else
    some (.stop out19)) fuel (out1, ([] : (List (Str × Int))), (0 : Int))).bind fun (out14 : (List Int)) =>
 some out14

def M.nfa_Closure_1 (s1 : Int) (c1 : T_NFA) (c2 : (List Bool)) (c3 : (List Int)) : Option ((List Bool) × (List Int)) :=
 (
  bif (decide (0 ≤ s1)) then
   bif (decide (s1 < c1.States)) then
    (idxL c2 s1).bind fun e2 =>
    some (!e2)
   else
    some false
  else
   some false).bind fun (xv1 : Bool) =>
 bif xv1 then
  (setL c2 s1 true).bind fun y1 =>
  (appM 8 c3 [s1]).bind fun y2 =>
  some (y1, y2)
 else
  some (c2, c3)

def M.nfa_sorted (is1 : (List Bool)) : Option (List Int) :=
 (
  loopM (fun (st9 : (List Int) × Int) => match st9 with
  | (xv10, xv11) =>
   bif (decide (xv11 < (is1.length : Int))) then
    (
     (idxL is1 xv11).bind fun e12 =>
     bif e12 then
      (appM 8 xv10 [xv11]).bind fun l12 =>
      some l12
     else
      some xv10).bind fun (l11 : (List Int)) =>
    (chk .i64 (xv11 + 1)).bind fun t6 =>
    some (.next (l11, t6))
   else
    some (.stop xv10)) fuel (([] : (List Int)), (0 : Int))).bind fun (xv7 : (List Int)) =>
 some xv7

def M.nfa_Closure (nv1 : T_NFA) (states1 : (List Int)) : Option (List Int) :=
 (mkM 1 nv1.States (false : Bool)).bind fun l1 =>
 (
  loopM (fun (st9 : (List Bool) × (List Int) × Int) => match st9 with
  | (l7, xv10, xv11) =>
   bif (decide (xv11 < (states1.length : Int))) then
    (idxL states1 xv11).bind fun e6 =>
    (M.nfa_Closure_1 e6 nv1 l7 xv10).bind fun rv6 =>
    (chk .i64 (xv11 + 1)).bind fun t6 =>
    some (.next (rv6.1, rv6.2, t6))
   else
    some (.stop (l7, xv10))) fuel (l1, ([] : (List Int)), (0 : Int))).bind fun (l5, xv7) =>
 (
  loopM (fun (st9 : (List Bool) × (List Int)) => match st9 with
  | (l42, xv78) =>
   bif (decide (0 < (xv78.length : Int))) then
    (chk .i64 ((xv78.length : Int) - 1)).bind fun t27 =>
    (idxL xv78 t27).bind fun e42 =>
    (subL xv78 0 t27).bind fun l51 =>
    loopM (fun (st9 : (List Bool) × (List Int) × Int) => match st9 with
    | (l54, l55, xv100) =>
     bif (decide (xv100 < (nv1.Arcs.length : Int))) then
      (
       (idxL nv1.Arcs xv100).bind fun e48 =>
       (
        bif e48.Epsilon then
         some (e48.From == e42)
        else
         some false).bind fun (xv109 : Bool) =>
       bif xv109 then
        (M.nfa_Closure_1 e48.To nv1 l54 l55).bind fun rv42 =>
        some (rv42.1, rv42.2)
       else
        some (l54, l55)).bind fun (xv107, xv108) =>
      (chk .i64 (xv100 + 1)).bind fun t30 =>
      some (.next (xv107, xv108, t30))
     else
      some (.stop (.next (l54, l55)))) fuel (l42, l51, (0 : Int))
   else
    some (.stop l42)) fuel (l5, xv7)).bind fun (l33 : (List Bool)) =>
 (M.nfa_sorted l33).bind fun rv43 =>
 some rv43

def M.dfa_key (l1 : (List Int)) : Option Str :=
 (
  loopM (fun (st9 : (List Int) × Int) => match st9 with
  | (xv10, xv11) =>
   bif (decide (xv11 < (l1.length : Int))) then
    (idxL l1 xv11).bind fun e6 =>
    (shrM .i64 e6 8).bind fun t11 =>
    (appM 1 xv10 [(IntKind.u8.wrap e6), (IntKind.u8.wrap t11)]).bind fun b10 =>
    (chk .i64 (xv11 + 1)).bind fun t12 =>
    some (.next (b10, t12))
   else
    some (.stop xv10)) fuel (([] : (List Int)), (0 : Int))).bind fun (xv7 : (List Int)) =>
 some (toStr xv7)

def M.nfa_Step (nv1 : T_NFA) (states1 : (List Int)) (b1 : Int) : Option (List Int) :=
 (mkM 1 nv1.States (false : Bool)).bind fun fromv1 =>
 (
  (M.nfa_Closure nv1 states1).bind fun rv2 =>
  loopM (fun (st9 : (List Bool) × Int) => match st9 with
  | (fromv11, xv5) =>
   bif (decide (xv5 < (rv2.length : Int))) then
    (idxL rv2 xv5).bind fun e6 =>
    (setL fromv11 e6 true).bind fun fromv14 =>
    (chk .i64 (xv5 + 1)).bind fun t6 =>
    some (.next (fromv14, t6))
   else
    some (.stop fromv11)) fuel (fromv1, (0 : Int))).bind fun (fromv8 : (List Bool)) =>
 (
  loopM (fun (st9 : (List Int) × Int) => match st9 with
  | (xv16, xv17) =>
   bif (decide (xv17 < (nv1.Arcs.length : Int))) then
    (
     (idxL nv1.Arcs xv17).bind fun e40 =>
     (
      bif (!e40.Epsilon) then
       (idxL fromv8 e40.From).bind fun e42 =>
       bif e42 then
        (M.byteset_Has e40.Set b1).bind fun rv38 =>
        some rv38
       else
        some false
      else
       some false).bind fun (rv37 : Bool) =>
     bif rv37 then
      (appM 8 xv16 [e40.To]).bind fun tov12 =>
      some tov12
     else
      some xv16).bind fun (tov11 : (List Int)) =>
    (chk .i64 (xv17 + 1)).bind fun t12 =>
    some (.next (tov11, t12))
   else
    some (.stop xv16)) fuel (([] : (List Int)), (0 : Int))).bind fun (xv13 : (List Int)) =>
 (M.nfa_Closure nv1 xv13).bind fun rv39 =>
 some rv39

def M.dfa_accepts (nv1 : T_NFA) (l1 : (List Int)) : Option Int :=
 (
  loopM (fun (st9 : Int × Int) => match st9 with
  | (out10, xv13) =>
   bif (decide (xv13 < (l1.length : Int))) then
    (
     (idxL l1 xv13).bind fun e23 =>
     (idxL nv1.Accept e23).bind fun e24 =>
     (
      bif (decide (0 ≤ e24)) then
       bif (decide (out10 < 0)) then
        some true
       else
        some (decide (e24 < out10))
      else
       some false).bind fun (xv18 : Bool) =>
     bif xv18 then
      some e24
     else
      some out10).bind fun (out13 : Int) =>
    (chk .i64 (xv13 + 1)).bind fun t6 =>
    some (.next (out13, t6))
   else
    some (.stop out10)) fuel (((-1) : Int), (0 : Int))).bind fun (out7 : Int) =>
 some out7

def M.dfa_Determinize (p1 : T_NFA) : Option (T_DFA × Int) :=
 (M.nfa_Valid p1).bind fun rv1 =>
 bif (!rv1) then
  some ((T_DFA.mk [] [] []), 1)
 else
  (
   loopM (fun (st9 : (List (Vec 4)) × Int) => match st9 with
   | (xv10, xv11) =>
    bif (decide (xv11 < (p1.Arcs.length : Int))) then
     (idxL p1.Arcs xv11).bind fun e6 =>
     (appM 32 xv10 [e6.Set]).bind fun y6 =>
     (chk .i64 (xv11 + 1)).bind fun t6 =>
     some (.next (y6, t6))
    else
     some (.stop xv10)) fuel (([] : (List (Vec 4))), (0 : Int))).bind fun (xv7 : (List (Vec 4))) =>
  (M.byteset_Classes xv7).bind fun rv2 =>
  (M.dfa_sample rv2).bind fun rv3 =>
  (M.nfa_Closure p1 [p1.Start]).bind fun rv4 =>
  (idxL [rv4] 0).bind fun e7 =>
  (M.dfa_key e7).bind fun rv5 =>
  bindStep (
   loopM (fun (st9 : (List (List Int)) × (List Int) × (List (List Int)) × (List (Str × Int)) × Int) => match st9 with
   | (xv284, xv285, xv286, m209, xv287) =>
    bif (decide (xv287 < (xv286.length : Int))) then
     bindStep (
      (mkM 8 (rv3.length : Int) (0 : Int)).bind fun l89 =>
      bindStep (
       loopM (fun (st9 : (List (List Int)) × (List (Str × Int)) × (List Int) × Int) => match st9 with
       | (xv408, m305, l95, xv409) =>
        bif (decide (xv409 < (rv3.length : Int))) then
         bindStep (
          (idxL rv3 xv409).bind fun e289 =>
          (idxL xv408 xv287).bind fun e290 =>
          (M.nfa_Step p1 e290 e289).bind fun rv589 =>
          (setL l95 xv409 (-1)).bind fun y828 =>
          bif ((rv589.length : Int) == 0) then
           some (.next (xv408, m305, y828))
          else
           (M.dfa_key rv589).bind fun rv590 =>
           bindStep (
            bif (!((mget m305 rv590).isSome)) then
             bif ((xv408.length : Int) == 500) then
              some (.stop (.stop (.stop (.stop (.stop (.stop (.stop ((T_DFA.mk [] [] []), 11))))))))
             else
              (M.dfa_key rv589).bind fun rv592 =>
              (appM 24 xv408 [rv589]).bind fun y831 =>
              some (.next (y831, (mset m305 rv592 (xv408.length : Int)), (xv408.length : Int)))
            else
             some (.next (xv408, m305, ((mget m305 rv590).getD 0)))) fun (y830, m312, xv417) =>
           (setL y828 xv409 xv417).bind fun y832 =>
           some (.next (y830, m312, y832))) fun (xv416, m311, y827) =>
         (chk .i64 (xv409 + 1)).bind fun t83 =>
         some (.next (xv416, m311, y827, t83))
        else
         some (.stop (.next (xv408, m305, l95)))) fuel (xv286, m209, l89, (0 : Int))) fun (xv402, m300, l93) =>
      (appM 24 xv284 [l93]).bind fun y833 =>
      (idxL xv402 xv287).bind fun e291 =>
      (M.dfa_accepts p1 e291).bind fun rv593 =>
      (appM 8 xv285 [rv593]).bind fun y834 =>
      some (.next (y833, y834, xv402, m300))) fun (y765, y766, xv386, m287) =>
     (chk .i64 (xv287 + 1)).bind fun t84 =>
     some (.next (y765, y766, xv386, m287, t84))
    else
     some (.stop (.next (xv284, xv285)))) fuel (([] : (List (List Int))), ([] : (List Int)), ([rv4] : (List (List Int))), (mset [] rv5 0), (0 : Int))) fun (xv215, xv216) =>
  some ((T_DFA.mk rv2 xv215 xv216), 0)

def M.ref09_Valid (p1 : T_NFA) : Option Bool :=
 (
  bif (decide (p1.States < 1)) then
   some true
  else
   bif (decide (2000 < p1.States)) then
    some true
   else
    bif (decide (p1.Start < 0)) then
     some true
    else
     bif (decide (p1.States ≤ p1.Start)) then
      some true
     else
      some ((p1.Accept.length : Int) != p1.States)).bind fun (xv1 : Bool) =>
 bif xv1 then
  some false
 else
  bindStep (
   loopM (fun (xv6 : Int) =>
    bif (decide (xv6 < (p1.Accept.length : Int))) then
     (idxL p1.Accept xv6).bind fun e6 =>
     bif (decide (e6 < (-1))) then
      some (.stop (.stop false))
     else
      (chk .i64 (xv6 + 1)).bind fun t6 =>
      some (.next t6)
    else
     some (.stop (.next ()))) fuel (0 : Int)) fun _ =>
  bindStep (
   loopM (fun (xv16 : Int) =>
    bif (decide (xv16 < (p1.Arcs.length : Int))) then
     (idxL p1.Arcs xv16).bind fun e12 =>
     (
      bif (decide (e12.From < 0)) then
       some true
      else
       bif (decide (p1.States ≤ e12.From)) then
        some true
       else
        bif (decide (e12.To < 0)) then
         some true
        else
         bif (decide (p1.States ≤ e12.To)) then
          some true
         else
          bif e12.Epsilon then
           some (e12.Set != (Vec.zero 4))
          else
           some false).bind fun (xv19 : Bool) =>
     bif xv19 then
      some (.stop (.stop false))
     else
      (chk .i64 (xv16 + 1)).bind fun t12 =>
      some (.next t12)
    else
     some (.stop (.next ()))) fuel (0 : Int)) fun _ =>
  some true

def M.ref07_Has (s1 : (Vec 4)) (b1 : Int) : Option Bool :=
 (quoM .u8 b1 64).bind fun t1 =>
 (vget s1 t1).bind fun c1 =>
 (remM b1 64).bind fun t2 =>
 (shrM .u64 c1 t2).bind fun t3 =>
 some ((bits .and .u64 t3 1) == 1)

def M.ref07_equivalent (l1 : (List (Vec 4))) (a1 : Int) (b1 : Int) : Option Bool :=
 bindStep (
  loopM (fun (i5 : Int) =>
   bif (decide (i5 < (l1.length : Int))) then
    (idxL l1 i5).bind fun e6 =>
    (M.ref07_Has e6 a1).bind fun rv11 =>
    (M.ref07_Has e6 b1).bind fun rv12 =>
    bif (!(rv11 == rv12)) then
     some (.stop (.stop false))
    else
     (chk .i64 (i5 + 1)).bind fun t6 =>
     some (.next t6)
   else
    some (.stop (.next ()))) fuel (0 : Int)) fun _ =>
 some true

def M.ref07_Classes (l1 : (List (Vec 4))) : Option (List Int) :=
 (mkM 8 256 (0 : Int)).bind fun out1 =>
 (
  loopM (fun (st9 : (List Int) × Int × Int) => match st9 with
  | (out75, nv9, b117) =>
   bif (decide (b117 < 256)) then
    (
     (setL out75 b117 nv9).bind fun out103 =>
     (
      loopM (fun (a71 : Int) =>
       bif (decide (a71 < b117)) then
        (M.ref07_equivalent l1 (IntKind.u8.wrap a71) (IntKind.u8.wrap b117)).bind fun rv72 =>
        bif rv72 then
         (idxL out103 a71).bind fun e83 =>
         (setL out103 b117 e83).bind fun out110 =>
         some (.stop out110)
        else
         (chk .i64 (a71 + 1)).bind fun t88 =>
         some (.next t88)
       else
        some (.stop out103)) fuel (0 : Int)).bind fun (out107 : (List Int)) =>
     (idxL out107 b117).bind fun e84 =>
     bif (e84 == nv9) then
      (chk .i64 (nv9 + 1)).bind fun t89 =>
      some (out107, t89)
     else
      some (out107, nv9)).bind fun (out102, nv12) =>
    (chk .i64 (b117 + 1)).bind fun t90 =>
    some (.next (out102, nv12, t90))
   else
    some (.stop out75)) fuel (out1, (0 : Int), (0 : Int))).bind fun (out56 : (List Int)) =>
 some out56

def M.ref10_first (classv1 : (List Int)) : Option (List Int) :=
 (
  loopM (fun (st9 : (List Int) × Int) => match st9 with
  | (xv6, b13) =>
   bif (decide (b13 < 256)) then
    (
     (idxL classv1 b13).bind fun e12 =>
     bif (e12 == (xv6.length : Int)) then
      (appM 1 xv6 [(IntKind.u8.wrap b13)]).bind fun out12 =>
      some out12
     else
      some xv6).bind fun (out11 : (List Int)) =>
    (chk .i64 (b13 + 1)).bind fun t6 =>
    some (.next (out11, t6))
   else
    some (.stop xv6)) fuel (([] : (List Int)), (0 : Int))).bind fun (xv4 : (List Int)) =>
 some xv4

def M.ref09_list (inv1 : (List Bool)) : Option (List Int) :=
 (
  loopM (fun (st9 : (List Int) × Int) => match st9 with
  | (xv6, i5) =>
   bif (decide (i5 < (inv1.length : Int))) then
    (
     (idxL inv1 i5).bind fun e12 =>
     bif e12 then
      (appM 8 xv6 [i5]).bind fun out12 =>
      some out12
     else
      some xv6).bind fun (out11 : (List Int)) =>
    (chk .i64 (i5 + 1)).bind fun t6 =>
    some (.next (out11, t6))
   else
    some (.stop xv6)) fuel (([] : (List Int)), (0 : Int))).bind fun (xv4 : (List Int)) =>
 some xv4

def M.ref09_Closure (p1 : T_NFA) (p2 : (List Int)) : Option (List Int) :=
 (mkM 1 p1.States (false : Bool)).bind fun l1 =>
 (
  loopM (fun (st9 : (List Bool) × Int) => match st9 with
  | (l7, xv13) =>
   bif (decide (xv13 < (p2.length : Int))) then
    (
     (
      (idxL p2 xv13).bind fun e35 =>
      bif (decide (0 ≤ e35)) then
       some (decide (e35 < p1.States))
      else
       some false).bind fun (xv18 : Bool) =>
     bif xv18 then
      (idxL p2 xv13).bind fun e36 =>
      (setL l7 e36 true).bind fun y18 =>
      some y18
     else
      some l7).bind fun (y17 : (List Bool)) =>
    (chk .i64 (xv13 + 1)).bind fun t6 =>
    some (.next (y17, t6))
   else
    some (.stop l7)) fuel (l1, (0 : Int))).bind fun (l5 : (List Bool)) =>
 (
  loopM (fun (st9 : (List Bool) × Bool) => match st9 with
  | (l26, xv83) =>
   bif xv83 then
    loopM (fun (st9 : (List Bool) × Bool × Int) => match st9 with
    | (l32, xv105, xv106) =>
     bif (decide (xv106 < (p1.Arcs.length : Int))) then
      (
       (idxL p1.Arcs xv106).bind fun e212 =>
       (
        bif e212.Epsilon then
         (idxL l32 e212.From).bind fun e215 =>
         bif e215 then
          (idxL l32 e212.To).bind fun e216 =>
          some (!e216)
         else
          some false
        else
         some false).bind fun (xv114 : Bool) =>
       bif xv114 then
        (setL l32 e212.To true).bind fun y72 =>
        some (y72, true)
       else
        some (l32, xv105)).bind fun (y71, xv113) =>
      (chk .i64 (xv106 + 1)).bind fun t24 =>
      some (.next (y71, xv113, t24))
     else
      some (.stop (.next (l32, xv105)))) fuel (l26, false, (0 : Int))
   else
    some (.stop l26)) fuel (l5, true)).bind fun (l21 : (List Bool)) =>
 (M.ref09_list l21).bind fun rv1 =>
 some rv1

def M.ref09_Step (p1 : T_NFA) (p2 : (List Int)) (p3 : Int) : Option (List Int) :=
 (mkM 1 p1.States (false : Bool)).bind fun l1 =>
 (M.ref09_Closure p1 p2).bind fun rv1 =>
 (
  loopM (fun (st9 : (List Bool) × Int) => match st9 with
  | (l7, xv5) =>
   bif (decide (xv5 < (rv1.length : Int))) then
    (idxL rv1 xv5).bind fun e6 =>
    (setL l7 e6 true).bind fun y6 =>
    (chk .i64 (xv5 + 1)).bind fun t6 =>
    some (.next (y6, t6))
   else
    some (.stop l7)) fuel (l1, (0 : Int))).bind fun (l5 : (List Bool)) =>
 (
  loopM (fun (st9 : (List Int) × Int) => match st9 with
  | (xv16, xv17) =>
   bif (decide (xv17 < (p1.Arcs.length : Int))) then
    (
     (idxL p1.Arcs xv17).bind fun e40 =>
     (
      bif (!e40.Epsilon) then
       (idxL l5 e40.From).bind fun e42 =>
       bif e42 then
        (M.ref07_Has e40.Set p3).bind fun rv37 =>
        some rv37
       else
        some false
      else
       some false).bind fun (rv36 : Bool) =>
     bif rv36 then
      (appM 8 xv16 [e40.To]).bind fun y24 =>
      some y24
     else
      some xv16).bind fun (y23 : (List Int)) =>
    (chk .i64 (xv17 + 1)).bind fun t12 =>
    some (.next (y23, t12))
   else
    some (.stop xv16)) fuel (([] : (List Int)), (0 : Int))).bind fun (xv13 : (List Int)) =>
 (M.ref09_Closure p1 xv13).bind fun rv38 =>
 some rv38

def M.ref10_find (l1 : (List (List Int))) (setv1 : (List Int)) : Option Int :=
 bindStep (
  loopM (fun (i5 : Int) =>
   bif (decide (i5 < (l1.length : Int))) then
    (idxL l1 i5).bind fun e6 =>
    (M.ref07_Ints e6 setv1).bind fun rv6 =>
    bif rv6 then
     some (.stop (.stop i5))
    else
     (chk .i64 (i5 + 1)).bind fun t6 =>
     some (.next t6)
   else
    some (.stop (.next ()))) fuel (0 : Int)) fun _ =>
 some (-1)

def M.ref10_least (nv1 : T_NFA) (setv1 : (List Int)) : Option Int :=
 (
  loopM (fun (st9 : Int × Int) => match st9 with
  | (best10, i5) =>
   bif (decide (i5 < (setv1.length : Int))) then
    (
     (idxL setv1 i5).bind fun e23 =>
     (idxL nv1.Accept e23).bind fun e24 =>
     (
      bif (decide (0 ≤ e24)) then
       bif (decide (best10 < 0)) then
        some true
       else
        some (decide (e24 < best10))
      else
       some false).bind fun (xv12 : Bool) =>
     bif xv12 then
      some e24
     else
      some best10).bind fun (best13 : Int) =>
    (chk .i64 (i5 + 1)).bind fun t6 =>
    some (.next (best13, t6))
   else
    some (.stop best10)) fuel (((-1) : Int), (0 : Int))).bind fun (best7 : Int) =>
 some best7

def M.ref10_Determinize (p1 : T_NFA) : Option (T_DFA × Int) :=
 (M.ref09_Valid p1).bind fun rv1 =>
 bif (!rv1) then
  some ((T_DFA.mk [] [] []), 1)
 else
  (
   loopM (fun (st9 : (List (Vec 4)) × Int) => match st9 with
   | (xv10, xv11) =>
    bif (decide (xv11 < (p1.Arcs.length : Int))) then
     (
      (idxL p1.Arcs xv11).bind fun e12 =>
      bif (!e12.Epsilon) then
       (appM 32 xv10 [e12.Set]).bind fun y18 =>
       some y18
      else
       some xv10).bind fun (y17 : (List (Vec 4))) =>
     (chk .i64 (xv11 + 1)).bind fun t6 =>
     some (.next (y17, t6))
    else
     some (.stop xv10)) fuel (([] : (List (Vec 4))), (0 : Int))).bind fun (xv7 : (List (Vec 4))) =>
  (M.ref07_Classes xv7).bind fun rv2 =>
  (M.ref10_first rv2).bind fun rv3 =>
  (M.ref09_Closure p1 [p1.Start]).bind fun rv4 =>
  bindStep (
   loopM (fun (st9 : (List (List Int)) × (List (List Int)) × (List Int) × Int) => match st9 with
   | (xv340, xv341, xv342, xv343) =>
    bif (decide (xv343 < (xv340.length : Int))) then
     bindStep (
      (
       loopM (fun (st9 : (List (List Int)) × (List Int) × Int) => match st9 with
       | (xv490, xv491, xv492) =>
        bif (decide (xv492 < (rv3.length : Int))) then
         (
          (idxL xv490 xv343).bind fun e321 =>
          (idxL rv3 xv492).bind fun e322 =>
          (M.ref09_Step p1 e321 e322).bind fun rv445 =>
          (M.ref09_Closure p1 rv445).bind fun rv446 =>
          bif ((rv446.length : Int) == 0) then
           (appM 8 xv491 [(-1)]).bind fun y840 =>
           some (xv490, y840)
          else
           (M.ref10_find xv490 rv446).bind fun rv447 =>
           (
            bif (decide (rv447 < 0)) then
             (appM 24 xv490 [rv446]).bind fun y843 =>
             some (y843, (xv490.length : Int))
            else
             some (xv490, rv447)).bind fun (y842, xv501) =>
           (appM 8 xv491 [xv501]).bind fun y844 =>
           some (y842, y844)).bind fun (xv500, y839) =>
         (chk .i64 (xv492 + 1)).bind fun t83 =>
         some (.next (xv500, y839, t83))
        else
         some (.stop (xv490, xv491))) fuel (xv340, ([] : (List Int)), (0 : Int))).bind fun (xv482, xv483) =>
      bif (decide (500 < (xv482.length : Int))) then
       some (.stop (.stop (.stop ((T_DFA.mk [] [] []), 11))))
      else
       (idxL xv482 xv343).bind fun e324 =>
       (appM 24 xv341 [xv483]).bind fun y845 =>
       (M.ref10_least p1 e324).bind fun rv448 =>
       (appM 8 xv342 [rv448]).bind fun y846 =>
       some (.next (xv482, y845, y846))) fun (xv463, y777, y778) =>
     (chk .i64 (xv343 + 1)).bind fun t84 =>
     some (.next (xv463, y777, y778, t84))
    else
     some (.stop (.next (xv341, xv342)))) fuel (([rv4] : (List (List Int))), ([] : (List (List Int))), ([] : (List Int)), (0 : Int))) fun (xv257, xv258) =>
  some ((T_DFA.mk rv2 xv257 xv258), 0)

def M.ref10_Valid (p1 : T_DFA) : Option Bool :=
 (
  bif ((p1.Class.length : Int) != 256) then
   some true
  else
   bif (decide ((p1.Next.length : Int) < 1)) then
    some true
   else
    bif (decide (500 < (p1.Next.length : Int))) then
     some true
    else
     some ((p1.Accept.length : Int) != (p1.Next.length : Int))).bind fun (xv1 : Bool) =>
 bif xv1 then
  some false
 else
  (idxL p1.Next 0).bind fun e1 =>
  bif (decide ((e1.length : Int) < 1)) then
   some false
  else
   bindStep (
    loopM (fun (xv10 : Int) =>
     bif (decide (xv10 < 256)) then
      (
       (idxL p1.Class xv10).bind fun e13 =>
       bif (decide (e13 < 0)) then
        some true
       else
        some (decide ((e1.length : Int) ≤ e13))).bind fun (xv13 : Bool) =>
      bif xv13 then
       some (.stop (.stop false))
      else
       (chk .i64 (xv10 + 1)).bind fun t6 =>
       some (.next t6)
     else
      some (.stop (.next ()))) fuel (0 : Int)) fun _ =>
   bindStep (
    loopM (fun (xv74 : Int) =>
     bif (decide (xv74 < (p1.Next.length : Int))) then
      bindStep (
       (
        (idxL p1.Next xv74).bind fun e160 =>
        bif ((e160.length : Int) != (e1.length : Int)) then
         some true
        else
         (idxL p1.Accept xv74).bind fun e161 =>
         some (decide (e161 < (-1)))).bind fun (xv97 : Bool) =>
       bif xv97 then
        some (.stop (.stop (.stop false)))
       else
        loopM (fun (xv100 : Int) =>
         bif (decide (xv100 < (e1.length : Int))) then
          (
           (idxL p1.Next xv74).bind fun e172 =>
           (idxL e172 xv100).bind fun e173 =>
           bif (decide (e173 < (-1))) then
            some true
           else
            some (decide ((p1.Next.length : Int) ≤ e173))).bind fun (xv103 : Bool) =>
          bif xv103 then
           some (.stop (.stop (.stop (.stop false))))
          else
           (chk .i64 (xv100 + 1)).bind fun t47 =>
           some (.next t47)
         else
          some (.stop (.next ()))) fuel (0 : Int)) fun _ =>
      (chk .i64 (xv74 + 1)).bind fun t48 =>
      some (.next t48)
     else
      some (.stop (.next ()))) fuel (0 : Int)) fun _ =>
   some true

def M.ref09_Accepted (nv1 : T_NFA) (l1 : (List Int)) : Option Int :=
 (
  loopM (fun (st9 : Int × Int) => match st9 with
  | (best10, i5) =>
   bif (decide (i5 < (l1.length : Int))) then
    (
     (idxL l1 i5).bind fun e23 =>
     (idxL nv1.Accept e23).bind fun e24 =>
     (
      bif (decide (0 ≤ e24)) then
       bif (decide (best10 < 0)) then
        some true
       else
        some (decide (e24 < best10))
      else
       some false).bind fun (xv12 : Bool) =>
     bif xv12 then
      some e24
     else
      some best10).bind fun (best13 : Int) =>
    (chk .i64 (i5 + 1)).bind fun t6 =>
    some (.next (best13, t6))
   else
    some (.stop best10)) fuel (((-1) : Int), (0 : Int))).bind fun (best7 : Int) =>
 some best7

def M.ref09_Run (nv1 : T_NFA) (s1 : Str) : Option Int :=
 (M.ref09_Closure nv1 [nv1.Start]).bind fun l1 =>
 (
  loopM (fun (st9 : (List Int) × Int) => match st9 with
  | (l11, i5) =>
   bif (decide (i5 < (s1.length : Int))) then
    (idxS s1 i5).bind fun c6 =>
    (M.ref09_Step nv1 l11 c6).bind fun l14 =>
    (chk .i64 (i5 + 1)).bind fun t6 =>
    some (.next (l14, t6))
   else
    some (.stop l11)) fuel (l1, (0 : Int))).bind fun (l8 : (List Int)) =>
 (M.ref09_Accepted nv1 l8).bind fun rv1 =>
 some rv1

def M.law10_DfaDeterminize (nv1 : T_NFA) (s1 : Str) : Option Bool :=
 (
  (M.law10_few nv1).bind fun rv2 =>
  bif (!rv2) then
   some true
  else
   some (decide (30 < (s1.length : Int)))).bind fun (xv1 : Bool) =>
 bif xv1 then
  (M.law10_awake).bind fun rv3 =>
  some rv3
 else
  (M.dfa_Determinize nv1).bind fun rv4 =>
  (M.ref10_Determinize nv1).bind fun rv5 =>
  bif (rv4.2 != rv5.2) then
   some false
  else
   bif (rv4.2 != 0) then
    (
     (M.law10_awake).bind fun rv7 =>
     bif rv7 then
      some ((rv4.1.Next.length : Int) == 0)
     else
      some false).bind fun (xv2 : Bool) =>
    some xv2
   else
    (
     (M.law10_awake).bind fun rv12 =>
     bif rv12 then
      (M.ref10_Valid rv4.1).bind fun rv13 =>
      bif rv13 then
       (M.dfa_Run rv4.1 s1).bind fun rv14 =>
       (M.ref09_Run nv1 s1).bind fun rv15 =>
       some (rv14 == rv15)
      else
       some false
     else
      some false).bind fun (xv3 : Bool) =>
    some xv3

end Go.Proofs.Ytogpainomdfpnaa
