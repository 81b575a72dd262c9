/- The plain models of the functions, printed by a program of my own from the translation. -/
import Derived.Test.YtajmekjcnbmaaaaLxFn
import Derived.Test.YtajmekjcnbmaaaaLxRange
import Derived.Test.YtajmekjcnbmaaaaLxRec
import Derived.Test.YtajmekjcnbmaaaaLxRecover
import Derived.Test.YtajmekjcnbmaaaaLxEq
import Derived.Test.YtajmekjcnbmaaaaLxRangeX
import Derived.Test.YtajmekjcnbmaaaaLxGrid
import Derived.Test.YtajmekjcnbmaaaaLxIter
import Derived.Test.YtajmekjcnbmaaaaLxKeys
import Derived.Test.YtajmekjcnbmaaaaLxUp
import Derived.Test.YtajmekjcnbmaaaaShelf
set_option linter.unusedVariables false
set_option linter.unusedSimpArgs false
namespace Go.Proofs.Ytajmekjcnbmaaaa
open Go.Lx Go.RowKit
structure T_Regex where
  Kind : Int
  Set : (Vec 4)
  Kids : (List T_Regex)

instance : Inhabited T_Regex := ⟨⟨default, Vec.zero 4, []⟩⟩

structure T_nfa_builder where
  sets : (List (Vec 4))
  behind : (List (List (Int × Bool)))

instance : DecidableEq T_nfa_builder := fun a b => if h : a.sets = b.sets ∧ a.behind = b.behind then isTrue (by cases a; cases b; simp_all) else isFalse (by intro e; subst e; simp at h)

structure T_nfa_part where
  nullable : Bool
  first : (List Int)
  last : (List Int)

instance : DecidableEq T_nfa_part := fun a b => if h : a.nullable = b.nullable ∧ a.first = b.first ∧ a.last = b.last then isTrue (by cases a; cases b; simp_all) else isFalse (by intro e; subst e; simp at h)

structure T_NFAArc where
  From : Int
  To : Int
  Epsilon : Bool
  Set : (Vec 4)

instance : DecidableEq T_NFAArc := fun a b => if h : a.From = b.From ∧ a.To = b.To ∧ a.Epsilon = b.Epsilon ∧ a.Set = b.Set then isTrue (by cases a; cases b; simp_all) else isFalse (by intro e; subst e; simp at h)

structure T_NFA where
  States : Int
  Start : Int
  Arcs : (List T_NFAArc)
  Accept : (List Int)

instance : DecidableEq T_NFA := fun a b => if h : a.States = b.States ∧ a.Start = b.Start ∧ a.Arcs = b.Arcs ∧ a.Accept = b.Accept then isTrue (by cases a; cases b; simp_all) else isFalse (by intro e; subst e; simp at h)

structure T_ref09_builder where
  sets : (List (Vec 4))
  pairs : (List (Vec 2))

instance : DecidableEq T_ref09_builder := fun a b => if h : a.sets = b.sets ∧ a.pairs = b.pairs then isTrue (by cases a; cases b; simp_all) else isFalse (by intro e; subst e; simp at h)

structure T_ref09_part where
  nullable : Bool
  first : (List Int)
  last : (List Int)

instance : DecidableEq T_ref09_part := fun a b => if h : a.nullable = b.nullable ∧ a.first = b.first ∧ a.last = b.last then isTrue (by cases a; cases b; simp_all) else isFalse (by intro e; subst e; simp at h)
def tT_RegexF (τ : Ty T_Regex) : Ty T_Regex := ⟨6, fun g cs x => ∃ c0 c1 c2, cs = c0 ++ (c1 ++ (c2)) ∧ (tInt .i64).rel g c0 x.Kind ∧ (tVec 4 .u64).rel g c1 x.Set ∧ (tSl τ).rel g c2 x.Kids,
  fun hg ⟨c0, c1, c2, e, h0, h1, h2⟩ => ⟨c0, c1, c2, e, (tInt .i64).mono hg h0, (tVec 4 .u64).mono hg h1, (tSl τ).mono hg h2⟩,
  fun ⟨_, _, _, e, h0, h1, h2⟩ => by rw [e]; simp [(tInt .i64).len h0, (tVec 4 .u64).len h1, (tSl τ).len h2, tInt, tSl, tVec],
  fun ⟨_, _, _, e, h0, h1, h2⟩ v hv => by
    subst e; simp only [List.mem_append] at hv; rcases hv with hv | hv | hv
    · exact (tInt .i64).one h0 v hv
    · exact (tVec 4 .u64).one h1 v hv
    · exact (tSl τ).one h2 v hv⟩

def tT_RegexR : TyFun T_Regex := ⟨6, tT_RegexF, fun _ => rfl, fun ha hb h _ _ hh => by obtain ⟨c0, c1, c2, e, h0, h1, h2⟩ := hh; exact ⟨c0, c1, c2, e, h0, h1, tSl_imp (ha.trans hb.symm) h h2⟩⟩
def tT_Regex : Ty T_Regex := ⟨6, fun g cs x => ∃ n, (tT_RegexR.iter n).rel g cs x, fun hg h => tT_RegexR.fix_mono hg h, fun h => tT_RegexR.fix_len h, fun h => tT_RegexR.fix_one h⟩
theorem tT_Regex_iff {g : Hp} {cs : List Value} {x : T_Regex} : tT_Regex.rel g cs x ↔ (tT_RegexF tT_Regex).rel g cs x := by
  constructor
  · rintro ⟨n, h⟩
    cases n with
    | zero => exact h.elim
    | succ n => exact tT_RegexR.mono (τ := tT_RegexR.iter n) (τ' := tT_Regex) (tT_RegexR.iter_sz n) rfl (fun _ _ h => ⟨n, h⟩) _ _ h
  · rintro ⟨c0, c1, c2, e, h0, h1, h2⟩
    obtain ⟨n2, h2⟩ := tT_RegexR.sup (fix := tT_Regex) (fun _ _ _ h => h) rfl h2
    exact ⟨n2 + 1, c0, c1, c2, e, h0, h1, tT_RegexR.leSl (Nat.le_refl _) h2⟩

def tT_nfa_part : Ty T_nfa_part := ⟨3, fun g cs x => ∃ c0 c1 c2, cs = c0 ++ (c1 ++ (c2)) ∧ tBool.rel g c0 x.nullable ∧ (tSl (tInt .i64)).rel g c1 x.first ∧ (tSl (tInt .i64)).rel g c2 x.last,
  fun hg ⟨c0, c1, c2, e, h0, h1, h2⟩ => ⟨c0, c1, c2, e, tBool.mono hg h0, (tSl (tInt .i64)).mono hg h1, (tSl (tInt .i64)).mono hg h2⟩,
  fun ⟨_, _, _, e, h0, h1, h2⟩ => by rw [e]; simp [tBool.len h0, (tSl (tInt .i64)).len h1, (tSl (tInt .i64)).len h2, tBool, tSl],
  fun ⟨_, _, _, e, h0, h1, h2⟩ v hv => by
    subst e; simp only [List.mem_append] at hv; rcases hv with hv | hv | hv
    · exact tBool.one h0 v hv
    · exact (tSl (tInt .i64)).one h1 v hv
    · exact (tSl (tInt .i64)).one h2 v hv⟩

def tT_NFAArc : Ty T_NFAArc := ⟨7, fun g cs x => ∃ c0 c1 c2 c3, cs = c0 ++ (c1 ++ (c2 ++ (c3))) ∧ (tInt .i64).rel g c0 x.From ∧ (tInt .i64).rel g c1 x.To ∧ tBool.rel g c2 x.Epsilon ∧ (tVec 4 .u64).rel g c3 x.Set,
  fun hg ⟨c0, c1, c2, c3, e, h0, h1, h2, h3⟩ => ⟨c0, c1, c2, c3, e, (tInt .i64).mono hg h0, (tInt .i64).mono hg h1, tBool.mono hg h2, (tVec 4 .u64).mono hg h3⟩,
  fun ⟨_, _, _, _, e, h0, h1, h2, h3⟩ => by rw [e]; simp [(tInt .i64).len h0, (tInt .i64).len h1, tBool.len h2, (tVec 4 .u64).len h3, tBool, tInt, tVec],
  fun ⟨_, _, _, _, e, h0, h1, h2, h3⟩ v hv => by
    subst e; simp only [List.mem_append] at hv; rcases hv with hv | hv | hv | hv
    · exact (tInt .i64).one h0 v hv
    · exact (tInt .i64).one h1 v hv
    · exact tBool.one h2 v hv
    · exact (tVec 4 .u64).one h3 v hv⟩

def tT_NFA : Ty T_NFA := ⟨4, fun g cs x => ∃ c0 c1 c2 c3, cs = c0 ++ (c1 ++ (c2 ++ (c3))) ∧ (tInt .i64).rel g c0 x.States ∧ (tInt .i64).rel g c1 x.Start ∧ (tSl tT_NFAArc).rel g c2 x.Arcs ∧ (tSl (tInt .i64)).rel g c3 x.Accept,
  fun hg ⟨c0, c1, c2, c3, e, h0, h1, h2, h3⟩ => ⟨c0, c1, c2, c3, e, (tInt .i64).mono hg h0, (tInt .i64).mono hg h1, (tSl tT_NFAArc).mono hg h2, (tSl (tInt .i64)).mono hg h3⟩,
  fun ⟨_, _, _, _, e, h0, h1, h2, h3⟩ => by rw [e]; simp [(tInt .i64).len h0, (tInt .i64).len h1, (tSl tT_NFAArc).len h2, (tSl (tInt .i64)).len h3, tInt, tSl],
  fun ⟨_, _, _, _, e, h0, h1, h2, h3⟩ v hv => by
    subst e; simp only [List.mem_append] at hv; rcases hv with hv | hv | hv | hv
    · exact (tInt .i64).one h0 v hv
    · exact (tInt .i64).one h1 v hv
    · exact (tSl tT_NFAArc).one h2 v hv
    · exact (tSl (tInt .i64)).one h3 v hv⟩

def tT_ref09_builder : Ty T_ref09_builder := ⟨2, fun g cs x => ∃ c0 c1, cs = c0 ++ (c1) ∧ (tSl (tVec 4 .u64)).rel g c0 x.sets ∧ (tSl (tVec 2 .i64)).rel g c1 x.pairs,
  fun hg ⟨c0, c1, e, h0, h1⟩ => ⟨c0, c1, e, (tSl (tVec 4 .u64)).mono hg h0, (tSl (tVec 2 .i64)).mono hg h1⟩,
  fun ⟨_, _, e, h0, h1⟩ => by rw [e]; simp [(tSl (tVec 4 .u64)).len h0, (tSl (tVec 2 .i64)).len h1, tSl],
  fun ⟨_, _, e, h0, h1⟩ v hv => by
    subst e; simp only [List.mem_append] at hv; rcases hv with hv | hv
    · exact (tSl (tVec 4 .u64)).one h0 v hv
    · exact (tSl (tVec 2 .i64)).one h1 v hv⟩

def tT_ref09_part : Ty T_ref09_part := ⟨3, fun g cs x => ∃ c0 c1 c2, cs = c0 ++ (c1 ++ (c2)) ∧ tBool.rel g c0 x.nullable ∧ (tSl (tInt .i64)).rel g c1 x.first ∧ (tSl (tInt .i64)).rel g c2 x.last,
  fun hg ⟨c0, c1, c2, e, h0, h1, h2⟩ => ⟨c0, c1, c2, e, tBool.mono hg h0, (tSl (tInt .i64)).mono hg h1, (tSl (tInt .i64)).mono hg h2⟩,
  fun ⟨_, _, _, e, h0, h1, h2⟩ => by rw [e]; simp [tBool.len h0, (tSl (tInt .i64)).len h1, (tSl (tInt .i64)).len h2, tBool, tSl],
  fun ⟨_, _, _, e, h0, h1, h2⟩ v hv => by
    subst e; simp only [List.mem_append] at hv; rcases hv with hv | hv | hv
    · exact tBool.one h0 v hv
    · exact (tSl (tInt .i64)).one h1 v hv
    · exact (tSl (tInt .i64)).one h2 v hv⟩
def M.law09_set (b1 : Int) : Option T_Regex :=
 (quoM .u8 b1 64).bind fun t1 =>
 (remM b1 64).bind fun t2 =>
 (shlM .u64 1 t2).bind fun t3 =>
 (vset (Vec.zero 4) t1 t3).bind fun s1 =>
 some (T_Regex.mk 3 s1 [])

def M.regex_valid : Nat → T_Regex → Int → Option Bool
| 0, _, _ => none
| fl + 1, rv1, depth1 =>
 (
  bif (depth1 == 0) then
   some true
  else
   some ((rv1.Kind == 3) == (rv1.Set == (Vec.zero 4)))).bind fun (xv1 : Bool) =>
 bif xv1 then
  some false
 else
  bindStep (
   (
    bif (rv1.Kind == 1) then
     some (rv1.Kind == 1)
    else
     bif (rv1.Kind == 2) then
      some (rv1.Kind == 2)
     else
      some (rv1.Kind == 3)).bind fun (xv4 : Bool) =>
   bif xv4 then
    some (.next ((0 : Int), (0 : Int)))
   else
    (
     bif (rv1.Kind == 4) then
      some (rv1.Kind == 4)
     else
      some (rv1.Kind == 5)).bind fun (xv5 : Bool) =>
    bif xv5 then
     some (.next ((2 : Int), (rv1.Kids.length : Int)))
    else
     bif (rv1.Kind == 6) then
      some (.next ((1 : Int), (1 : Int)))
     else
      some (.stop false)) fun (least1, most1) =>
  (
   bif (decide ((rv1.Kids.length : Int) < least1)) then
    some true
   else
    some (decide (most1 < (rv1.Kids.length : Int)))).bind fun (xv6 : Bool) =>
  bif xv6 then
   some false
  else
   bindStep (
    loopM (fun (xv11 : Int) =>
     bif (decide (xv11 < (rv1.Kids.length : Int))) then
      (idxL rv1.Kids xv11).bind fun e6 =>
      (chk .i64 (depth1 - 1)).bind fun t11 =>
      (M.regex_valid fl e6 t11).bind fun rv7 =>
      bif (!rv7) then
       some (.stop (.stop false))
      else
       (chk .i64 (xv11 + 1)).bind fun t12 =>
       some (.next t12)
     else
      some (.stop (.next ()))) fuel (0 : Int)) fun _ =>
   some true

def M.regex_Valid (rv1 : T_Regex) : Option Bool :=
 (M.regex_valid fuel rv1 30).bind fun rv2 =>
 some rv2

def M.nfa_nodes : Nat → T_Regex → Option Int
| 0, _ => none
| fl + 1, rv1 =>
 (
  loopM (fun (st9 : Int × Int) => match st9 with
  | (nv6, xv5) =>
   bif (decide (xv5 < (rv1.Kids.length : Int))) then
    (idxL rv1.Kids xv5).bind fun e6 =>
    (M.nfa_nodes fl e6).bind fun rv7 =>
    (chk .i64 (nv6 + rv7)).bind fun t11 =>
    (chk .i64 (xv5 + 1)).bind fun t12 =>
    some (.next (t11, t12))
   else
    some (.stop nv6)) fuel ((1 : Int), (0 : Int))).bind fun (nv4 : Int) =>
 some nv4

def M.nfa_builder_none (b1 : T_nfa_builder) (rv1 : T_Regex) : Option (T_nfa_part × T_nfa_builder) :=
 some ((T_nfa_part.mk false [] []), b1)

def M.nfa_builder_empty (b1 : T_nfa_builder) (rv1 : T_Regex) : Option (T_nfa_part × T_nfa_builder) :=
 some ((T_nfa_part.mk true [] []), b1)

def M.nfa_builder_set (b1 : T_nfa_builder) (rv1 : T_Regex) : Option (T_nfa_part × T_nfa_builder) :=
 (appM 32 b1.sets [rv1.Set]).bind fun y1 =>
 (appM 8 b1.behind [[]]).bind fun y2 =>
 some ((T_nfa_part.mk false [(y1.length : Int)] [(y1.length : Int)]), (T_nfa_builder.mk y1 y2))

def M.nfa_builder_link (b1 : T_nfa_builder) (fromv1 : (List Int)) (tov1 : (List Int)) : Option T_nfa_builder :=
 loopM (fun (st9 : (List (List (Int × Bool))) × Int) => match st9 with
 | (xv16, xv17) =>
  bif (decide (xv17 < (fromv1.length : Int))) then
   (
    (idxL fromv1 xv17).bind fun e36 =>
    loopM (fun (st9 : (List (List (Int × Bool))) × Int) => match st9 with
    | (xv42, xv43) =>
     bif (decide (xv43 < (tov1.length : Int))) then
      (idxL tov1 xv43).bind fun e41 =>
      (idxL xv42 e36).bind fun e42 =>
      (setL xv42 e36 (mset e42 e41 true)).bind fun y18 =>
      (chk .i64 (xv43 + 1)).bind fun t20 =>
      some (.next (y18, t20))
     else
      some (.stop xv42)) fuel (xv16, (0 : Int))).bind fun (xv39 : (List (List (Int × Bool)))) =>
   (chk .i64 (xv17 + 1)).bind fun t21 =>
   some (.next (xv39, t21))
  else
   some (.stop (T_nfa_builder.mk b1.sets xv16))) fuel (b1.behind, (0 : Int))

def M.slices_Grow_int_int (l : List Int) (n : Int) : Option (List Int) := growM l n

def M.slices_Concat_int_int (slices1 : (List (List Int))) : Option (List Int) :=
 (
  loopM (fun (st9 : Int × Int) => match st9 with
  | (size10, xv5) =>
   bif (decide (xv5 < (slices1.length : Int))) then
    (
     (idxL slices1 xv5).bind fun e12 =>
     (chk .i64 (size10 + (e12.length : Int))).bind fun t17 =>
     bif (decide (t17 < 0)) then
      none
     else
      some t17).bind fun (size13 : Int) =>
    (chk .i64 (xv5 + 1)).bind fun t18 =>
    some (.next (size13, t18))
   else
    some (.stop size10)) fuel ((0 : Int), (0 : Int))).bind fun (size7 : Int) =>
 (M.slices_Grow_int_int [] size7).bind fun newslice1 =>
 (
  loopM (fun (st9 : (List Int) × Int) => match st9 with
  | (newslice11, xv11) =>
   bif (decide (xv11 < (slices1.length : Int))) then
    (idxL slices1 xv11).bind fun e18 =>
    (appM 8 newslice11 e18).bind fun newslice14 =>
    (chk .i64 (xv11 + 1)).bind fun t24 =>
    some (.next (newslice14, t24))
   else
    some (.stop newslice11)) fuel (newslice1, (0 : Int))).bind fun (newslice8 : (List Int)) =>
 some newslice8

mutual
def M.nfa_builder_concat : Nat → T_nfa_builder → T_Regex → Option (T_nfa_part × T_nfa_builder)
| 0, _, _ => none
| fl + 1, b1, rv1 =>
 (
  loopM (fun (st9 : (List (Vec 4)) × (List (List (Int × Bool))) × Bool × (List Int) × (List Int) × Int) => match st9 with
  | (xv38, xv39, xv40, xv41, xv42, xv43) =>
   bif (decide (xv43 < (rv1.Kids.length : Int))) then
    (idxL rv1.Kids xv43).bind fun e6 =>
    (M.nfa_builder_expr fl (T_nfa_builder.mk xv38 xv39) e6).bind fun rv32 =>
    (M.nfa_builder_link rv32.2 xv42 rv32.1.first).bind fun rv33 =>
    (
     bif xv40 then
      (M.slices_Concat_int_int [xv41, rv32.1.first]).bind fun rv35 =>
      some rv35
     else
      some xv41).bind fun (xv52 : (List Int)) =>
    (
     bif rv32.1.nullable then
      (M.slices_Concat_int_int [xv42, rv32.1.last]).bind fun rv37 =>
      some rv37
     else
      some rv32.1.last).bind fun (xv53 : (List Int)) =>
    bif xv40 then
     (chk .i64 (xv43 + 1)).bind fun t9 =>
     some (.next (rv33.sets, rv33.behind, rv32.1.nullable, xv52, xv53, t9))
    else
     (chk .i64 (xv43 + 1)).bind fun t10 =>
     some (.next (rv33.sets, rv33.behind, false, xv52, xv53, t10))
   else
    some (.stop (xv40, xv41, xv42, xv38, xv39))) fuel (b1.sets, b1.behind, true, ([] : (List Int)), ([] : (List Int)), (0 : Int))).bind fun (xv25, xv26, xv27, xv28, xv29) =>
 some ((T_nfa_part.mk xv25 xv26 xv27), (T_nfa_builder.mk xv28 xv29))

def M.nfa_builder_union : Nat → T_nfa_builder → T_Regex → Option (T_nfa_part × T_nfa_builder)
| 0, _, _ => none
| fl + 1, b1, rv1 =>
 (
  loopM (fun (st9 : (List (Vec 4)) × (List (List (Int × Bool))) × Bool × (List Int) × (List Int) × Int) => match st9 with
  | (xv30, xv31, xv32, xv33, xv34, xv35) =>
   bif (decide (xv35 < (rv1.Kids.length : Int))) then
    (idxL rv1.Kids xv35).bind fun e6 =>
    (M.nfa_builder_expr fl (T_nfa_builder.mk xv30 xv31) e6).bind fun rv23 =>
    bif xv32 then
     (M.slices_Concat_int_int [xv33, rv23.1.first]).bind fun rv24 =>
     (M.slices_Concat_int_int [xv34, rv23.1.last]).bind fun rv25 =>
     (chk .i64 (xv35 + 1)).bind fun t9 =>
     some (.next (rv23.2.sets, rv23.2.behind, true, rv24, rv25, t9))
    else
     (M.slices_Concat_int_int [xv33, rv23.1.first]).bind fun rv26 =>
     (M.slices_Concat_int_int [xv34, rv23.1.last]).bind fun rv27 =>
     (chk .i64 (xv35 + 1)).bind fun t10 =>
     some (.next (rv23.2.sets, rv23.2.behind, rv23.1.nullable, rv26, rv27, t10))
   else
    some (.stop (xv32, xv33, xv34, xv30, xv31))) fuel (b1.sets, b1.behind, false, ([] : (List Int)), ([] : (List Int)), (0 : Int))).bind fun (xv19, xv20, xv21, xv22, xv23) =>
 some ((T_nfa_part.mk xv19 xv20 xv21), (T_nfa_builder.mk xv22 xv23))

def M.nfa_builder_star : Nat → T_nfa_builder → T_Regex → Option (T_nfa_part × T_nfa_builder)
| 0, _, _ => none
| fl + 1, b1, rv1 =>
 (idxL rv1.Kids 0).bind fun e1 =>
 (M.nfa_builder_expr fl b1 e1).bind fun rv2 =>
 (M.nfa_builder_link rv2.2 rv2.1.last rv2.1.first).bind fun rv3 =>
 some ((T_nfa_part.mk true rv2.1.first rv2.1.last), rv3)

def M.nfa_builder_expr : Nat → T_nfa_builder → T_Regex → Option (T_nfa_part × T_nfa_builder)
| 0, _, _ => none
| fl + 1, b1, rv1 =>
 bif (rv1.Kind == 6) then
  (M.nfa_builder_star fl b1 rv1).bind fun rv2 =>
  some (rv2.1, rv2.2)
 else
  bif (rv1.Kind == 5) then
   (M.nfa_builder_union fl b1 rv1).bind fun rv3 =>
   some (rv3.1, rv3.2)
  else
   bif (rv1.Kind == 4) then
    (M.nfa_builder_concat fl b1 rv1).bind fun rv4 =>
    some (rv4.1, rv4.2)
   else
    bif (rv1.Kind == 3) then
     (M.nfa_builder_set b1 rv1).bind fun rv5 =>
     some (rv5.1, rv5.2)
    else
     bif (rv1.Kind == 2) then
      (M.nfa_builder_empty b1 rv1).bind fun rv6 =>
      some (rv6.1, rv6.2)
     else
      bif (rv1.Kind == 1) then
       (M.nfa_builder_none b1 rv1).bind fun rv7 =>
       some (rv7.1, rv7.2)
      else
       none
end



def M.nfa_FromRegexes (p1 : (List T_Regex)) : Option (T_NFA × Int) :=
 bindStep (
  loopM (fun (st9 : Int × Int) => match st9 with
  | (xv10, xv11) =>
   bif (decide (xv11 < (p1.length : Int))) then
    (idxL p1 xv11).bind fun e6 =>
    (M.regex_Valid e6).bind fun rv11 =>
    bif (!rv11) then
     some (.stop (.stop ((T_NFA.mk 0 0 [] []), 1)))
    else
     (M.nfa_nodes fuel e6).bind fun rv12 =>
     (chk .i64 (xv10 + rv12)).bind fun t11 =>
     (chk .i64 (xv11 + 1)).bind fun t12 =>
     some (.next (t11, t12))
   else
    some (.stop (.next xv10))) fuel ((0 : Int), (0 : Int))) fun (xv7 : Int) =>
 bif (decide (500 < xv7)) then
  some ((T_NFA.mk 0 0 [] []), 11)
 else
  (
   loopM (fun (st9 : (List (Vec 4)) × (List (List (Int × Bool))) × (List Int) × Int) => match st9 with
   | (xv209, xv210, xv211, xv212) =>
    bif (decide (xv212 < (p1.length : Int))) then
     (
      (idxL p1 xv212).bind fun e106 =>
      (M.nfa_builder_expr fuel (T_nfa_builder.mk xv209 xv210) e106).bind fun rv35 =>
      (M.nfa_builder_link rv35.2 [0] rv35.1.first).bind fun rv36 =>
      (
       loopM (fun (xv289 : (List Int)) =>
        bif (decide ((xv289.length : Int) ≤ (rv36.sets.length : Int))) then
         (appM 8 xv289 [(-1)]).bind fun y155 =>
         some (.next y155)
        else
         some (.stop xv289)) fuel xv211).bind fun (xv287 : (List Int)) =>
      (
       loopM (fun (st9 : (List Int) × Int) => match st9 with
       | (xv300, xv301) =>
        bif (decide (xv301 < (rv35.1.last.length : Int))) then
         (idxL rv35.1.last xv301).bind fun e112 =>
         (setL xv300 e112 xv212).bind fun y161 =>
         (chk .i64 (xv301 + 1)).bind fun t89 =>
         some (.next (y161, t89))
        else
         some (.stop xv300)) fuel (xv287, (0 : Int))).bind fun (xv297 : (List Int)) =>
      (
       bif rv35.1.nullable then
        (idxL xv297 0).bind fun e114 =>
        some (decide (e114 < 0))
       else
        some false).bind fun (xv304 : Bool) =>
      bif xv304 then
       (setL xv297 0 xv212).bind fun y162 =>
       some (rv36.sets, rv36.behind, y162)
      else
       some (rv36.sets, rv36.behind, xv297)).bind fun (xv282, xv283, y149) =>
     (chk .i64 (xv212 + 1)).bind fun t90 =>
     some (.next (xv282, xv283, y149, t90))
    else
     some (.stop (xv209, xv210, xv211))) fuel (([] : (List (Vec 4))), ([[]] : (List (List (Int × Bool)))), ([(-1)] : (List Int)), (0 : Int))).bind fun (xv158, xv159, xv160) =>
  (
   loopM (fun (st9 : (List T_NFAArc) × Int) => match st9 with
   | (xv366, xv367) =>
    bif (decide (xv367 < (xv159.length : Int))) then
     (
      (idxL xv159 xv367).bind fun e192 =>
      (keysM e192).bind fun l12 =>
      loopM (fun (st9 : (List T_NFAArc) × Int) => match st9 with
      | (xv392, xv393) =>
       bif (decide (xv393 < (l12.length : Int))) then
        (idxL l12 xv393).bind fun e197 =>
        (chk .i64 (e197 - 1)).bind fun t166 =>
        (idxL xv158 t166).bind fun e198 =>
        (appM 56 xv392 [(T_NFAArc.mk xv367 e197 false e198)]).bind fun y198 =>
        (chk .i64 (xv393 + 1)).bind fun t167 =>
        some (.next (y198, t167))
       else
        some (.stop xv392)) fuel (xv366, (0 : Int))).bind fun (xv389 : (List T_NFAArc)) =>
     (chk .i64 (xv367 + 1)).bind fun t168 =>
     some (.next (xv389, t168))
    else
     some (.stop xv366)) fuel (([] : (List T_NFAArc)), (0 : Int))).bind fun (xv350 : (List T_NFAArc)) =>
  some ((T_NFA.mk (xv160.length : Int) 0 xv350 xv160), 0)

def M.nfa_Valid_1 (s1 : Int) (c1 : T_NFA) : Option Bool :=
 (
  bif (decide (0 ≤ s1)) then
   some (decide (s1 < c1.States))
  else
   some false).bind fun (xv1 : Bool) =>
 some xv1

def M.slices_IndexFunc_int_int (s1 : (List Int)) (f1 : (Int → Option Bool)) : Option Int :=
 bindStep (
  loopM (fun (xv5 : Int) =>
   bif (decide (xv5 < (s1.length : Int))) then
    (idxL s1 xv5).bind fun e6 =>
    (f1 e6).bind fun rv6 =>
    bif rv6 then
     some (.stop (.stop xv5))
    else
     (chk .i64 (xv5 + 1)).bind fun t6 =>
     some (.next t6)
   else
    some (.stop (.next ()))) fuel (0 : Int)) fun _ =>
 some (-1)

def M.slices_ContainsFunc_int_int (s1 : (List Int)) (f1 : (Int → Option Bool)) : Option Bool :=
 (M.slices_IndexFunc_int_int s1 f1).bind fun rv1 =>
 some (decide (0 ≤ rv1))

def M.nfa_Valid_2 (xv1 : Int) : Option Bool :=
 some (decide (xv1 < (-1)))

def M.nfa_Valid (nv1 : T_NFA) : Option Bool :=
 (
  bif (decide (nv1.States < 1)) then
   some true
  else
   bif (decide (2000 < nv1.States)) then
    some true
   else
    (M.nfa_Valid_1 nv1.Start nv1).bind fun rv2 =>
    bif (!rv2) then
     some true
    else
     some ((nv1.Accept.length : Int) != nv1.States)).bind fun (xv1 : Bool) =>
 bif xv1 then
  some false
 else
  bindStep (
   loopM (fun (xv10 : Int) =>
    bif (decide (xv10 < (nv1.Arcs.length : Int))) then
     (idxL nv1.Arcs xv10).bind fun e6 =>
     (
      (M.nfa_Valid_1 e6.From nv1).bind fun rv25 =>
      bif (!rv25) then
       some true
      else
       (M.nfa_Valid_1 e6.To nv1).bind fun rv26 =>
       bif (!rv26) then
        some true
       else
        bif e6.Epsilon then
         some (e6.Set != (Vec.zero 4))
        else
         some false).bind fun (xv13 : Bool) =>
     bif xv13 then
      some (.stop (.stop false))
     else
      (chk .i64 (xv10 + 1)).bind fun t6 =>
      some (.next t6)
    else
     some (.stop (.next ()))) fuel (0 : Int)) fun _ =>
  (M.slices_ContainsFunc_int_int nv1.Accept M.nfa_Valid_2).bind fun rv27 =>
  some (!rv27)

def M.nfa_Closure_1 (s1 : Int) (c1 : T_NFA) (c2 : (List Bool)) (c3 : (List Int)) : Option ((List Bool) × (List Int)) :=
 (
  bif (decide (0 ≤ s1)) then
   bif (decide (s1 < c1.States)) then
    (idxL c2 s1).bind fun e2 =>
    some (!e2)
   else
    some false
  else
   some false).bind fun (xv1 : Bool) =>
 bif xv1 then
  (setL c2 s1 true).bind fun y1 =>
  (appM 8 c3 [s1]).bind fun y2 =>
  some (y1, y2)
 else
  some (c2, c3)

def M.nfa_sorted (is1 : (List Bool)) : Option (List Int) :=
 (
  loopM (fun (st9 : (List Int) × Int) => match st9 with
  | (xv10, xv11) =>
   bif (decide (xv11 < (is1.length : Int))) then
    (
     (idxL is1 xv11).bind fun e12 =>
     bif e12 then
      (appM 8 xv10 [xv11]).bind fun l12 =>
      some l12
     else
      some xv10).bind fun (l11 : (List Int)) =>
    (chk .i64 (xv11 + 1)).bind fun t6 =>
    some (.next (l11, t6))
   else
    some (.stop xv10)) fuel (([] : (List Int)), (0 : Int))).bind fun (xv7 : (List Int)) =>
 some xv7

def M.nfa_Closure (nv1 : T_NFA) (states1 : (List Int)) : Option (List Int) :=
 (mkM 1 nv1.States (false : Bool)).bind fun l1 =>
 (
  loopM (fun (st9 : (List Bool) × (List Int) × Int) => match st9 with
  | (l7, xv10, xv11) =>
   bif (decide (xv11 < (states1.length : Int))) then
    (idxL states1 xv11).bind fun e6 =>
    (M.nfa_Closure_1 e6 nv1 l7 xv10).bind fun rv6 =>
    (chk .i64 (xv11 + 1)).bind fun t6 =>
    some (.next (rv6.1, rv6.2, t6))
   else
    some (.stop (l7, xv10))) fuel (l1, ([] : (List Int)), (0 : Int))).bind fun (l5, xv7) =>
 (
  loopM (fun (st9 : (List Bool) × (List Int)) => match st9 with
  | (l42, xv78) =>
   bif (decide (0 < (xv78.length : Int))) then
    (chk .i64 ((xv78.length : Int) - 1)).bind fun t27 =>
    (idxL xv78 t27).bind fun e42 =>
    (subL xv78 0 t27).bind fun l51 =>
    loopM (fun (st9 : (List Bool) × (List Int) × Int) => match st9 with
    | (l54, l55, xv100) =>
     bif (decide (xv100 < (nv1.Arcs.length : Int))) then
      (
       (idxL nv1.Arcs xv100).bind fun e48 =>
       (
        bif e48.Epsilon then
         some (e48.From == e42)
        else
         some false).bind fun (xv109 : Bool) =>
       bif xv109 then
        (M.nfa_Closure_1 e48.To nv1 l54 l55).bind fun rv42 =>
        some (rv42.1, rv42.2)
       else
        some (l54, l55)).bind fun (xv107, xv108) =>
      (chk .i64 (xv100 + 1)).bind fun t30 =>
      some (.next (xv107, xv108, t30))
     else
      some (.stop (.next (l54, l55)))) fuel (l42, l51, (0 : Int))
   else
    some (.stop l42)) fuel (l5, xv7)).bind fun (l33 : (List Bool)) =>
 (M.nfa_sorted l33).bind fun rv43 =>
 some rv43

def M.byteset_Has (s1 : (Vec 4)) (b1 : Int) : Option Bool :=
 (quoM .u8 b1 64).bind fun t1 =>
 (vget s1 t1).bind fun c1 =>
 (remM b1 64).bind fun t2 =>
 (shrM .u64 c1 t2).bind fun t3 =>
 some ((bits .and .u64 t3 1) == 1)

def M.nfa_Step (nv1 : T_NFA) (states1 : (List Int)) (b1 : Int) : Option (List Int) :=
 (mkM 1 nv1.States (false : Bool)).bind fun fromv1 =>
 (
  (M.nfa_Closure nv1 states1).bind fun rv2 =>
  loopM (fun (st9 : (List Bool) × Int) => match st9 with
  | (fromv11, xv5) =>
   bif (decide (xv5 < (rv2.length : Int))) then
    (idxL rv2 xv5).bind fun e6 =>
    (setL fromv11 e6 true).bind fun fromv14 =>
    (chk .i64 (xv5 + 1)).bind fun t6 =>
    some (.next (fromv14, t6))
   else
    some (.stop fromv11)) fuel (fromv1, (0 : Int))).bind fun (fromv8 : (List Bool)) =>
 (
  loopM (fun (st9 : (List Int) × Int) => match st9 with
  | (xv16, xv17) =>
   bif (decide (xv17 < (nv1.Arcs.length : Int))) then
    (
     (idxL nv1.Arcs xv17).bind fun e40 =>
     (
      bif (!e40.Epsilon) then
       (idxL fromv8 e40.From).bind fun e42 =>
       bif e42 then
        (M.byteset_Has e40.Set b1).bind fun rv38 =>
        some rv38
       else
        some false
      else
       some false).bind fun (rv37 : Bool) =>
     bif rv37 then
      (appM 8 xv16 [e40.To]).bind fun tov12 =>
      some tov12
     else
      some xv16).bind fun (tov11 : (List Int)) =>
    (chk .i64 (xv17 + 1)).bind fun t12 =>
    some (.next (tov11, t12))
   else
    some (.stop xv16)) fuel (([] : (List Int)), (0 : Int))).bind fun (xv13 : (List Int)) =>
 (M.nfa_Closure nv1 xv13).bind fun rv39 =>
 some rv39

def M.nfa_Run (nv1 : T_NFA) (s1 : Str) : Option Int :=
 (M.nfa_Closure nv1 [nv1.Start]).bind fun states1 =>
 (
  loopM (fun (st9 : (List Int) × Int) => match st9 with
  | (states11, xv5) =>
   bif (decide (xv5 < ((bytesL s1).length : Int))) then
    (idxL (bytesL s1) xv5).bind fun e6 =>
    (M.nfa_Step nv1 states11 e6).bind fun states14 =>
    (chk .i64 (xv5 + 1)).bind fun t6 =>
    some (.next (states14, t6))
   else
    some (.stop states11)) fuel (states1, (0 : Int))).bind fun (states8 : (List Int)) =>
 (
  loopM (fun (st9 : Int × Int) => match st9 with
  | (best10, xv19) =>
   bif (decide (xv19 < (states8.length : Int))) then
    (
     (idxL states8 xv19).bind fun e29 =>
     (idxL nv1.Accept e29).bind fun e30 =>
     (
      bif (decide (0 ≤ e30)) then
       bif (decide (best10 < 0)) then
        some true
       else
        some (decide (e30 < best10))
      else
       some false).bind fun (xv24 : Bool) =>
     bif xv24 then
      some e30
     else
      some best10).bind fun (best13 : Int) =>
    (chk .i64 (xv19 + 1)).bind fun t12 =>
    some (.next (best13, t12))
   else
    some (.stop best10)) fuel (((-1) : Int), (0 : Int))).bind fun (best7 : Int) =>
 some best7

def M.law09_awake : Option Bool :=
 (M.law09_set 97).bind fun rv1 =>
 (M.law09_set 97).bind fun rv2 =>
 (M.law09_set 98).bind fun rv3 =>
 (M.nfa_FromRegexes [(T_Regex.mk 6 (Vec.zero 4) [rv1]), (T_Regex.mk 4 (Vec.zero 4) [rv2, rv3])]).bind fun rv4 =>
 (
  bif (rv4.2 == 0) then
   (M.nfa_Valid rv4.1).bind fun rv10 =>
   bif rv10 then
    (M.nfa_Run rv4.1 [97, 97]).bind fun rv11 =>
    bif (rv11 == 0) then
     (M.nfa_Run rv4.1 [97, 98]).bind fun rv12 =>
     bif (rv12 == 1) then
      (M.nfa_Run rv4.1 [98]).bind fun rv13 =>
      bif (rv13 == (-1)) then
       (M.nfa_Valid (T_NFA.mk 0 0 [] [])).bind fun rv14 =>
       some (!rv14)
      else
       some false
     else
      some false
    else
     some false
   else
    some false
  else
   some false).bind fun (xv1 : Bool) =>
 some xv1

def M.ref09_Valid (p1 : T_NFA) : Option Bool :=
 (
  bif (decide (p1.States < 1)) then
   some true
  else
   bif (decide (2000 < p1.States)) then
    some true
   else
    bif (decide (p1.Start < 0)) then
     some true
    else
     bif (decide (p1.States ≤ p1.Start)) then
      some true
     else
      some ((p1.Accept.length : Int) != p1.States)).bind fun (xv1 : Bool) =>
 bif xv1 then
  some false
 else
  bindStep (
   loopM (fun (xv6 : Int) =>
    bif (decide (xv6 < (p1.Accept.length : Int))) then
     (idxL p1.Accept xv6).bind fun e6 =>
     bif (decide (e6 < (-1))) then
      some (.stop (.stop false))
     else
      (chk .i64 (xv6 + 1)).bind fun t6 =>
      some (.next t6)
    else
     some (.stop (.next ()))) fuel (0 : Int)) fun _ =>
  bindStep (
   loopM (fun (xv16 : Int) =>
    bif (decide (xv16 < (p1.Arcs.length : Int))) then
     (idxL p1.Arcs xv16).bind fun e12 =>
     (
      bif (decide (e12.From < 0)) then
       some true
      else
       bif (decide (p1.States ≤ e12.From)) then
        some true
       else
        bif (decide (e12.To < 0)) then
         some true
        else
         bif (decide (p1.States ≤ e12.To)) then
          some true
         else
          bif e12.Epsilon then
           some (e12.Set != (Vec.zero 4))
          else
           some false).bind fun (xv19 : Bool) =>
     bif xv19 then
      some (.stop (.stop false))
     else
      (chk .i64 (xv16 + 1)).bind fun t12 =>
      some (.next t12)
    else
     some (.stop (.next ()))) fuel (0 : Int)) fun _ =>
  some true

def M.law09_NfaValidMatchesReference (nv1 : T_NFA) : Option Bool :=
 (M.law09_awake).bind fun rv1 =>
 bif (!rv1) then
  some false
 else
  (
   bif (decide (2000 < (nv1.Arcs.length : Int))) then
    some true
   else
    (M.nfa_Valid nv1).bind fun rv4 =>
    (M.ref09_Valid nv1).bind fun rv5 =>
    some (rv4 == rv5)).bind fun (xv1 : Bool) =>
  some xv1

def M.law09_light (nv1 : T_NFA) : Option Bool :=
 (
  bif (decide ((nv1.Arcs.length : Int) ≤ 60)) then
   bif (decide (nv1.States ≤ 40)) then
    (M.ref09_Valid nv1).bind fun rv3 =>
    some rv3
   else
    some false
  else
   some false).bind fun (rv2 : Bool) =>
 some rv2

def M.ref09_list (inv1 : (List Bool)) : Option (List Int) :=
 (
  loopM (fun (st9 : (List Int) × Int) => match st9 with
  | (xv6, i5) =>
   bif (decide (i5 < (inv1.length : Int))) then
    (
     (idxL inv1 i5).bind fun e12 =>
     bif e12 then
      (appM 8 xv6 [i5]).bind fun out12 =>
      some out12
     else
      some xv6).bind fun (out11 : (List Int)) =>
    (chk .i64 (i5 + 1)).bind fun t6 =>
    some (.next (out11, t6))
   else
    some (.stop xv6)) fuel (([] : (List Int)), (0 : Int))).bind fun (xv4 : (List Int)) =>
 some xv4

def M.ref09_Closure (p1 : T_NFA) (p2 : (List Int)) : Option (List Int) :=
 (mkM 1 p1.States (false : Bool)).bind fun l1 =>
 (
  loopM (fun (st9 : (List Bool) × Int) => match st9 with
  | (l7, xv13) =>
   bif (decide (xv13 < (p2.length : Int))) then
    (
     (
      (idxL p2 xv13).bind fun e35 =>
      bif (decide (0 ≤ e35)) then
       some (decide (e35 < p1.States))
      else
       some false).bind fun (xv18 : Bool) =>
     bif xv18 then
      (idxL p2 xv13).bind fun e36 =>
      (setL l7 e36 true).bind fun y18 =>
      some y18
     else
      some l7).bind fun (y17 : (List Bool)) =>
    (chk .i64 (xv13 + 1)).bind fun t6 =>
    some (.next (y17, t6))
   else
    some (.stop l7)) fuel (l1, (0 : Int))).bind fun (l5 : (List Bool)) =>
 (
  loopM (fun (st9 : (List Bool) × Bool) => match st9 with
  | (l26, xv83) =>
   bif xv83 then
    loopM (fun (st9 : (List Bool) × Bool × Int) => match st9 with
    | (l32, xv105, xv106) =>
     bif (decide (xv106 < (p1.Arcs.length : Int))) then
      (
       (idxL p1.Arcs xv106).bind fun e212 =>
       (
        bif e212.Epsilon then
         (idxL l32 e212.From).bind fun e215 =>
         bif e215 then
          (idxL l32 e212.To).bind fun e216 =>
          some (!e216)
         else
          some false
        else
         some false).bind fun (xv114 : Bool) =>
       bif xv114 then
        (setL l32 e212.To true).bind fun y72 =>
        some (y72, true)
       else
        some (l32, xv105)).bind fun (y71, xv113) =>
      (chk .i64 (xv106 + 1)).bind fun t24 =>
      some (.next (y71, xv113, t24))
     else
      some (.stop (.next (l32, xv105)))) fuel (l26, false, (0 : Int))
   else
    some (.stop l26)) fuel (l5, true)).bind fun (l21 : (List Bool)) =>
 (M.ref09_list l21).bind fun rv1 =>
 some rv1

def M.ref09_Same (a1 : (List Int)) (b1 : (List Int)) : Option Bool :=
 bif ((a1.length : Int) != (b1.length : Int)) then
  some false
 else
  bindStep (
   loopM (fun (i5 : Int) =>
    bif (decide (i5 < (a1.length : Int))) then
     (idxL a1 i5).bind fun e11 =>
     (idxL b1 i5).bind fun e12 =>
     bif (e11 != e12) then
      some (.stop (.stop false))
     else
      (chk .i64 (i5 + 1)).bind fun t6 =>
      some (.next t6)
    else
     some (.stop (.next ()))) fuel (0 : Int)) fun _ =>
  some true

def M.law09_NfaClosureIsLeastFixpoint (nv1 : T_NFA) (states1 : (List Int)) : Option Bool :=
 (M.law09_awake).bind fun rv1 =>
 bif (!rv1) then
  some false
 else
  (
   (M.law09_light nv1).bind fun rv3 =>
   bif (!rv3) then
    some true
   else
    some (decide (60 < (states1.length : Int)))).bind fun (xv1 : Bool) =>
  bif xv1 then
   some true
  else
   (M.nfa_Closure nv1 states1).bind fun l1 =>
   (
    (M.ref09_Closure nv1 states1).bind fun rv9 =>
    (M.ref09_Same l1 rv9).bind fun rv10 =>
    bif rv10 then
     (M.nfa_Closure nv1 l1).bind fun rv11 =>
     (M.ref09_Same rv11 l1).bind fun rv12 =>
     some rv12
    else
     some false).bind fun (rv8 : Bool) =>
   some rv8

def M.ref07_Has (s1 : (Vec 4)) (b1 : Int) : Option Bool :=
 (quoM .u8 b1 64).bind fun t1 =>
 (vget s1 t1).bind fun c1 =>
 (remM b1 64).bind fun t2 =>
 (shrM .u64 c1 t2).bind fun t3 =>
 some ((bits .and .u64 t3 1) == 1)

def M.ref09_Step (p1 : T_NFA) (p2 : (List Int)) (p3 : Int) : Option (List Int) :=
 (mkM 1 p1.States (false : Bool)).bind fun l1 =>
 (M.ref09_Closure p1 p2).bind fun rv1 =>
 (
  loopM (fun (st9 : (List Bool) × Int) => match st9 with
  | (l7, xv5) =>
   bif (decide (xv5 < (rv1.length : Int))) then
    (idxL rv1 xv5).bind fun e6 =>
    (setL l7 e6 true).bind fun y6 =>
    (chk .i64 (xv5 + 1)).bind fun t6 =>
    some (.next (y6, t6))
   else
    some (.stop l7)) fuel (l1, (0 : Int))).bind fun (l5 : (List Bool)) =>
 (
  loopM (fun (st9 : (List Int) × Int) => match st9 with
  | (xv16, xv17) =>
   bif (decide (xv17 < (p1.Arcs.length : Int))) then
    (
     (idxL p1.Arcs xv17).bind fun e40 =>
     (
      bif (!e40.Epsilon) then
       (idxL l5 e40.From).bind fun e42 =>
       bif e42 then
        (M.ref07_Has e40.Set p3).bind fun rv37 =>
        some rv37
       else
        some false
      else
       some false).bind fun (rv36 : Bool) =>
     bif rv36 then
      (appM 8 xv16 [e40.To]).bind fun y24 =>
      some y24
     else
      some xv16).bind fun (y23 : (List Int)) =>
    (chk .i64 (xv17 + 1)).bind fun t12 =>
    some (.next (y23, t12))
   else
    some (.stop xv16)) fuel (([] : (List Int)), (0 : Int))).bind fun (xv13 : (List Int)) =>
 (M.ref09_Closure p1 xv13).bind fun rv38 =>
 some rv38

def M.law09_NfaStepMatchesReference (nv1 : T_NFA) (states1 : (List Int)) (b1 : Int) : Option Bool :=
 (M.law09_awake).bind fun rv1 =>
 bif (!rv1) then
  some false
 else
  (
   (M.law09_light nv1).bind fun rv3 =>
   bif (!rv3) then
    some true
   else
    some (decide (60 < (states1.length : Int)))).bind fun (xv1 : Bool) =>
  bif xv1 then
   some true
  else
   (M.nfa_Step nv1 states1 b1).bind fun rv4 =>
   (M.ref09_Step nv1 states1 b1).bind fun rv5 =>
   (M.ref09_Same rv4 rv5).bind fun rv6 =>
   some rv6

def M.law09_NfaStepIsMonotone (p1 : T_NFA) (p2 : (List Int)) (p3 : Int) : Option Bool :=
 (M.law09_awake).bind fun rv1 =>
 bif (!rv1) then
  some false
 else
  (
   (M.law09_light p1).bind fun rv3 =>
   bif (!rv3) then
    some true
   else
    bif (decide (60 < (p2.length : Int))) then
     some true
    else
     some ((p2.length : Int) == 0)).bind fun (xv1 : Bool) =>
  bif xv1 then
   some true
  else
   (subL p2 1 (p2.length : Int)).bind fun l1 =>
   (M.nfa_Step p1 p2 p3).bind fun rv4 =>
   (M.nfa_Step p1 l1 p3).bind fun rv5 =>
   bindStep (
    loopM (fun (st9 : Int × Int) => match st9 with
    | (xv126, xv127) =>
     bif (decide (xv127 < (rv5.length : Int))) then
      bindStep (
       (
        loopM (fun (xv183 : Int) =>
         (
          bif (decide (xv183 < (rv4.length : Int))) then
           (idxL rv4 xv183).bind fun e331 =>
           (idxL rv5 xv127).bind fun e332 =>
           some (decide (e331 < e332))
          else
           some false).bind fun (xv186 : Bool) =>
         bif xv186 then
          (chk .i64 (xv183 + 1)).bind fun t77 =>
          some (.next t77)
         else
          some (.stop xv183)) fuel xv126).bind fun (xv180 : Int) =>
       (
        bif (xv180 == (rv4.length : Int)) then
         some true
        else
         (idxL rv4 xv180).bind fun e335 =>
         (idxL rv5 xv127).bind fun e336 =>
         some (e335 != e336)).bind fun (xv187 : Bool) =>
       bif xv187 then
        some (.stop (.stop (.stop false)))
       else
        some (.next xv180)) fun (xv173 : Int) =>
      (chk .i64 (xv127 + 1)).bind fun t78 =>
      some (.next (xv173, t78))
     else
      some (.stop (.next ()))) fuel ((0 : Int), (0 : Int))) fun _ =>
   some true

def M.ref09_Accepted (nv1 : T_NFA) (l1 : (List Int)) : Option Int :=
 (
  loopM (fun (st9 : Int × Int) => match st9 with
  | (best10, i5) =>
   bif (decide (i5 < (l1.length : Int))) then
    (
     (idxL l1 i5).bind fun e23 =>
     (idxL nv1.Accept e23).bind fun e24 =>
     (
      bif (decide (0 ≤ e24)) then
       bif (decide (best10 < 0)) then
        some true
       else
        some (decide (e24 < best10))
      else
       some false).bind fun (xv12 : Bool) =>
     bif xv12 then
      some e24
     else
      some best10).bind fun (best13 : Int) =>
    (chk .i64 (i5 + 1)).bind fun t6 =>
    some (.next (best13, t6))
   else
    some (.stop best10)) fuel (((-1) : Int), (0 : Int))).bind fun (best7 : Int) =>
 some best7

def M.ref09_Run (nv1 : T_NFA) (s1 : Str) : Option Int :=
 (M.ref09_Closure nv1 [nv1.Start]).bind fun l1 =>
 (
  loopM (fun (st9 : (List Int) × Int) => match st9 with
  | (l11, i5) =>
   bif (decide (i5 < (s1.length : Int))) then
    (idxS s1 i5).bind fun c6 =>
    (M.ref09_Step nv1 l11 c6).bind fun l14 =>
    (chk .i64 (i5 + 1)).bind fun t6 =>
    some (.next (l14, t6))
   else
    some (.stop l11)) fuel (l1, (0 : Int))).bind fun (l8 : (List Int)) =>
 (M.ref09_Accepted nv1 l8).bind fun rv1 =>
 some rv1

def M.law09_NfaRunMatchesReference (nv1 : T_NFA) (s1 : Str) : Option Bool :=
 (M.law09_awake).bind fun rv1 =>
 bif (!rv1) then
  some false
 else
  (
   (M.law09_light nv1).bind fun rv3 =>
   bif (!rv3) then
    some true
   else
    some (decide (30 < (s1.length : Int)))).bind fun (xv1 : Bool) =>
  bif xv1 then
   some true
  else
   (M.nfa_Run nv1 s1).bind fun rv4 =>
   (M.ref09_Run nv1 s1).bind fun rv5 =>
   some (rv4 == rv5)

def M.law09_NfaRunIsCompositional (p1 : T_NFA) (p2 : Str) (p3 : Str) : Option Bool :=
 (M.law09_awake).bind fun rv1 =>
 bif (!rv1) then
  some false
 else
  (
   (M.law09_light p1).bind fun rv3 =>
   bif (!rv3) then
    some true
   else
    bif (decide (20 < (p2.length : Int))) then
     some true
    else
     some (decide (20 < (p3.length : Int)))).bind fun (xv1 : Bool) =>
  bif xv1 then
   some true
  else
   (M.nfa_Closure p1 [p1.Start]).bind fun rv4 =>
   (catS p2 p3).bind fun s1 =>
   (
    loopM (fun (st9 : (List Int) × Int) => match st9 with
    | (rv14, xv6) =>
     bif (decide (xv6 < (s1.length : Int))) then
      (idxS s1 xv6).bind fun c6 =>
      (M.nfa_Step p1 rv14 c6).bind fun rv17 =>
      (chk .i64 (xv6 + 1)).bind fun t6 =>
      some (.next (rv17, t6))
     else
      some (.stop rv14)) fuel (rv4, (0 : Int))).bind fun (rv11 : (List Int)) =>
   bindStep (
    loopM (fun (xv16 : Int) =>
     bif (decide (xv16 < (rv11.length : Int))) then
      (
       (idxL rv11 xv16).bind fun e12 =>
       bif (decide (e12 < 0)) then
        some true
       else
        some (decide (p1.States ≤ e12))).bind fun (xv19 : Bool) =>
      bif xv19 then
       some (.stop (.stop false))
      else
       (chk .i64 (xv16 + 1)).bind fun t12 =>
       some (.next t12)
     else
      some (.stop (.next ()))) fuel (0 : Int)) fun _ =>
   (M.nfa_Run p1 s1).bind fun rv18 =>
   (M.ref09_Accepted p1 rv11).bind fun rv19 =>
   some (rv18 == rv19)

def M.ref08_valid : Nat → T_Regex → Int → Option Bool
| 0, _, _ => none
| fl + 1, rv1, above1 =>
 (
  bif (decide (30 ≤ above1)) then
   some true
  else
   bif (rv1.Kind != 3) then
    some (rv1.Set != (Vec.zero 4))
   else
    some false).bind fun (xv1 : Bool) =>
 bif xv1 then
  some false
 else
  bindStep (
   (
    bif (rv1.Kind == 1) then
     some (rv1.Kind == 1)
    else
     some (rv1.Kind == 2)).bind fun (xv5 : Bool) =>
   bif xv5 then
    some (.stop ((rv1.Kids.length : Int) == 0))
   else
    bif (rv1.Kind == 3) then
     (
      bif ((rv1.Kids.length : Int) == 0) then
       some (rv1.Set != (Vec.zero 4))
      else
       some false).bind fun (xv6 : Bool) =>
     some (.stop xv6)
    else
     (
      bif (rv1.Kind == 4) then
       some (rv1.Kind == 4)
      else
       some (rv1.Kind == 5)).bind fun (xv7 : Bool) =>
     bif xv7 then
      bif (decide ((rv1.Kids.length : Int) < 2)) then
       some (.stop false)
      else
       some (.next ())
     else
      bif (rv1.Kind == 6) then
       bif ((rv1.Kids.length : Int) != 1) then
        some (.stop false)
       else
        some (.next ())
      else
       some (.stop false)) fun _ =>
  bindStep (
   loopM (fun (i5 : Int) =>
    bif (decide (i5 < (rv1.Kids.length : Int))) then
     (idxL rv1.Kids i5).bind fun e6 =>
     (chk .i64 (above1 + 1)).bind fun t11 =>
     (M.ref08_valid fl e6 t11).bind fun rv7 =>
     bif (!rv7) then
      some (.stop (.stop false))
     else
      (chk .i64 (i5 + 1)).bind fun t12 =>
      some (.next t12)
    else
     some (.stop (.next ()))) fuel (0 : Int)) fun _ =>
  some true

def M.ref08_Valid (rv1 : T_Regex) : Option Bool :=
 (M.ref08_valid fuel rv1 0).bind fun rv2 =>
 some rv2

def M.ref09_Nodes : Nat → T_Regex → Option Int
| 0, _ => none
| fl + 1, rv1 =>
 (
  loopM (fun (st9 : Int × Int) => match st9 with
  | (nv6, i5) =>
   bif (decide (i5 < (rv1.Kids.length : Int))) then
    (idxL rv1.Kids i5).bind fun e6 =>
    (M.ref09_Nodes fl e6).bind fun rv7 =>
    (chk .i64 (nv6 + rv7)).bind fun t11 =>
    (chk .i64 (i5 + 1)).bind fun t12 =>
    some (.next (t11, t12))
   else
    some (.stop nv6)) fuel ((1 : Int), (0 : Int))).bind fun (nv4 : Int) =>
 some nv4

def M.law09_few (l1 : (List T_Regex)) : Option Bool :=
 bif (decide (6 < (l1.length : Int))) then
  some false
 else
  bindStep (
   loopM (fun (i5 : Int) =>
    bif (decide (i5 < (l1.length : Int))) then
     (
      (idxL l1 i5).bind fun e12 =>
      (M.ref08_Valid e12).bind fun rv23 =>
      bif (!rv23) then
       some true
      else
       (M.ref09_Nodes fuel e12).bind fun rv24 =>
       some (decide (30 < rv24))).bind fun (xv6 : Bool) =>
     bif xv6 then
      some (.stop (.stop false))
     else
      (chk .i64 (i5 + 1)).bind fun t6 =>
      some (.next t6)
    else
     some (.stop (.next ()))) fuel (0 : Int)) fun _ =>
  some true

def M.ref09_Check (l1 : (List T_Regex)) : Option Int :=
 bindStep (
  loopM (fun (st9 : Int × Int) => match st9 with
  | (total6, i5) =>
   bif (decide (i5 < (l1.length : Int))) then
    (idxL l1 i5).bind fun e6 =>
    (M.ref08_Valid e6).bind fun rv11 =>
    bif (!rv11) then
     some (.stop (.stop 1))
    else
     (M.ref09_Nodes fuel e6).bind fun rv12 =>
     (chk .i64 (total6 + rv12)).bind fun t11 =>
     (chk .i64 (i5 + 1)).bind fun t12 =>
     some (.next (t11, t12))
   else
    some (.stop (.next total6))) fuel ((0 : Int), (0 : Int))) fun (total4 : Int) =>
 bif (decide (500 < total4)) then
  some 11
 else
  some 0

def M.ref09_builder_all (b1 : T_ref09_builder) (last1 : (List Int)) (first1 : (List Int)) : Option T_ref09_builder :=
 loopM (fun (st9 : (List (Vec 2)) × Int) => match st9 with
 | (xv9, i2) =>
  bif (decide (i2 < (last1.length : Int))) then
   (
    loopM (fun (st9 : (List (Vec 2)) × Int) => match st9 with
    | (xv23, k17) =>
     bif (decide (k17 < (first1.length : Int))) then
      (idxL last1 i2).bind fun e35 =>
      (idxL first1 k17).bind fun e36 =>
      (appM 16 xv23 [(⟨[e35, e36], rfl⟩ : Vec 2)]).bind fun y18 =>
      (chk .i64 (k17 + 1)).bind fun t20 =>
      some (.next (y18, t20))
     else
      some (.stop xv23)) fuel (xv9, (0 : Int))).bind fun (xv21 : (List (Vec 2))) =>
   (chk .i64 (i2 + 1)).bind fun t21 =>
   some (.next (xv21, t21))
  else
   some (.stop (T_ref09_builder.mk b1.sets xv9))) fuel (b1.pairs, (0 : Int))

def M.ref09_builder_concat (b1 : T_ref09_builder) (xv1 : T_ref09_part) (y1 : T_ref09_part) : Option (T_ref09_part × T_ref09_builder) :=
 (M.ref09_builder_all b1 xv1.last y1.first).bind fun rv1 =>
 (
  bif xv1.nullable then
   some y1.nullable
  else
   some false).bind fun (out1 : Bool) =>
 (
  bif xv1.nullable then
   (appM 8 [] xv1.first).bind fun y4 =>
   (appM 8 y4 y1.first).bind fun y5 =>
   some y5
  else
   some xv1.first).bind fun (out3 : (List Int)) =>
 (
  bif y1.nullable then
   (appM 8 [] xv1.last).bind fun y8 =>
   (appM 8 y8 y1.last).bind fun y9 =>
   some y9
  else
   some y1.last).bind fun (out5 : (List Int)) =>
 some ((T_ref09_part.mk out1 out3 out5), rv1)

def M.ref09_builder_build : Nat → T_ref09_builder → T_Regex → Option (T_ref09_part × T_ref09_builder)
| 0, _, _ => none
| fl + 1, p1, p2 =>
 (
  bif (p2.Kind == 2) then
   some (true, ([] : (List Int)), ([] : (List Int)), p1.sets, p1.pairs)
  else
   bif (p2.Kind == 3) then
    (appM 32 p1.sets [p2.Set]).bind fun y13 =>
    some (false, ([(y13.length : Int)] : (List Int)), ([(y13.length : Int)] : (List Int)), y13, p1.pairs)
   else
    bif (p2.Kind == 4) then
     loopM (fun (st9 : (List (Vec 4)) × (List (Vec 2)) × Bool × (List Int) × (List Int) × Int) => match st9 with
     | (xv40, xv41, xv42, l11, l12, xv43) =>
      bif (decide (xv43 < (p2.Kids.length : Int))) then
       (idxL p2.Kids xv43).bind fun e10 =>
       (M.ref09_builder_build fl (T_ref09_builder.mk xv40 xv41) e10).bind fun rv16 =>
       (M.ref09_builder_concat rv16.2 (T_ref09_part.mk xv42 l11 l12) rv16.1).bind fun rv17 =>
       (chk .i64 (xv43 + 1)).bind fun t9 =>
       some (.next (rv17.2.sets, rv17.2.pairs, rv17.1.nullable, rv17.1.first, rv17.1.last, t9))
      else
       some (.stop (xv42, l11, l12, xv40, xv41))) fuel (p1.sets, p1.pairs, true, ([] : (List Int)), ([] : (List Int)), (0 : Int))
    else
     bif (p2.Kind == 5) then
      loopM (fun (st9 : (List (Vec 4)) × (List (Vec 2)) × Bool × (List Int) × (List Int) × Int) => match st9 with
      | (xv54, xv55, xv56, xv57, xv58, xv59) =>
       bif (decide (xv59 < (p2.Kids.length : Int))) then
        (idxL p2.Kids xv59).bind fun e13 =>
        (M.ref09_builder_build fl (T_ref09_builder.mk xv54 xv55) e13).bind fun rv20 =>
        (
         bif xv56 then
          some true
         else
          some rv20.1.nullable).bind fun (xv67 : Bool) =>
        (appM 8 [] xv57).bind fun y21 =>
        (appM 8 y21 rv20.1.first).bind fun y22 =>
        (appM 8 [] xv58).bind fun y23 =>
        (appM 8 y23 rv20.1.last).bind fun y24 =>
        (chk .i64 (xv59 + 1)).bind fun t12 =>
        some (.next (rv20.2.sets, rv20.2.pairs, xv67, y22, y24, t12))
       else
        some (.stop (xv56, xv57, xv58, xv54, xv55))) fuel (p1.sets, p1.pairs, false, ([] : (List Int)), ([] : (List Int)), (0 : Int))
     else
      bif (p2.Kind == 6) then
       (idxL p2.Kids 0).bind fun e14 =>
       (M.ref09_builder_build fl p1 e14).bind fun rv21 =>
       (M.ref09_builder_all rv21.2 rv21.1.last rv21.1.first).bind fun rv22 =>
       some (true, rv21.1.first, rv21.1.last, rv22.sets, rv22.pairs)
      else
       some (false, ([] : (List Int)), ([] : (List Int)), p1.sets, p1.pairs)).bind fun (xv33, l7, l8, xv34, xv35) =>
 some ((T_ref09_part.mk xv33 l7 l8), (T_ref09_builder.mk xv34 xv35))

def M.ref09_FromRegexes (p1 : (List T_Regex)) : Option (T_NFA × Int) :=
 (M.ref09_Check p1).bind fun rv1 =>
 bif (rv1 != 0) then
  some ((T_NFA.mk 0 0 [] []), rv1)
 else
  (
   loopM (fun (st9 : (List (Vec 4)) × (List (Vec 2)) × (List Int) × Int) => match st9 with
   | (xv196, xv197, xv198, xv199) =>
    bif (decide (xv199 < (p1.length : Int))) then
     (
      (idxL p1 xv199).bind fun e100 =>
      (M.ref09_builder_build fuel (T_ref09_builder.mk xv196 xv197) e100).bind fun rv24 =>
      (M.ref09_builder_all rv24.2 [0] rv24.1.first).bind fun rv25 =>
      (
       loopM (fun (xv276 : (List Int)) =>
        bif (decide ((xv276.length : Int) ≤ (rv25.sets.length : Int))) then
         (appM 8 xv276 [(-1)]).bind fun y155 =>
         some (.next y155)
        else
         some (.stop xv276)) fuel xv198).bind fun (xv274 : (List Int)) =>
      (
       loopM (fun (st9 : (List Int) × Int) => match st9 with
       | (xv287, xv288) =>
        bif (decide (xv288 < (rv24.1.last.length : Int))) then
         (idxL rv24.1.last xv288).bind fun e106 =>
         (setL xv287 e106 xv199).bind fun y161 =>
         (chk .i64 (xv288 + 1)).bind fun t77 =>
         some (.next (y161, t77))
        else
         some (.stop xv287)) fuel (xv274, (0 : Int))).bind fun (xv284 : (List Int)) =>
      (
       bif rv24.1.nullable then
        (idxL xv284 0).bind fun e108 =>
        some (decide (e108 < 0))
       else
        some false).bind fun (xv291 : Bool) =>
      bif xv291 then
       (setL xv284 0 xv199).bind fun y162 =>
       some (rv25.sets, rv25.pairs, y162)
      else
       some (rv25.sets, rv25.pairs, xv284)).bind fun (xv269, xv270, y149) =>
     (chk .i64 (xv199 + 1)).bind fun t78 =>
     some (.next (xv269, xv270, y149, t78))
    else
     some (.stop (xv196, xv197, xv198))) fuel (([] : (List (Vec 4))), ([] : (List (Vec 2))), ([(-1)] : (List Int)), (0 : Int))).bind fun (xv145, xv146, xv147) =>
  (chk .i64 ((xv147.length : Int) * (xv147.length : Int))).bind fun t79 =>
  (mkM 1 t79 (false : Bool)).bind fun l1 =>
  (
   loopM (fun (st9 : (List Bool) × Int) => match st9 with
   | (l7, xv296) =>
    bif (decide (xv296 < (xv146.length : Int))) then
     (idxL xv146 xv296).bind fun e114 =>
     (vget e114 0).bind fun c11 =>
     (chk .i64 (c11 * (xv147.length : Int))).bind fun t95 =>
     (vget e114 1).bind fun c12 =>
     (chk .i64 (t95 + c12)).bind fun t96 =>
     (setL l7 t96 true).bind fun y168 =>
     (chk .i64 (xv296 + 1)).bind fun t97 =>
     some (.next (y168, t97))
    else
     some (.stop l7)) fuel (l1, (0 : Int))).bind fun (l5 : (List Bool)) =>
  (
   loopM (fun (st9 : (List T_NFAArc) × Int) => match st9 with
   | (xv307, xv308) =>
    bif (decide (xv308 < (l5.length : Int))) then
     (
      (idxL l5 xv308).bind fun e137 =>
      bif e137 then
       (quoM .i64 xv308 (xv147.length : Int)).bind fun t136 =>
       (remM xv308 (xv147.length : Int)).bind fun t137 =>
       (chk .i64 (t137 - 1)).bind fun t138 =>
       (idxL xv145 t138).bind fun e138 =>
       (appM 56 xv307 [(T_NFAArc.mk t136 t137 false e138)]).bind fun y186 =>
       some y186
      else
       some xv307).bind fun (y185 : (List T_NFAArc)) =>
     (chk .i64 (xv308 + 1)).bind fun t139 =>
     some (.next (y185, t139))
    else
     some (.stop xv307)) fuel (([] : (List T_NFAArc)), (0 : Int))).bind fun (xv304 : (List T_NFAArc)) =>
  some ((T_NFA.mk (xv147.length : Int) 0 xv304 xv147), 0)

def M.ref09_SameNFA (a1 : T_NFA) (b1 : T_NFA) : Option Bool :=
 (
  bif (a1.States != b1.States) then
   some true
  else
   bif (a1.Start != b1.Start) then
    some true
   else
    bif ((a1.Arcs.length : Int) != (b1.Arcs.length : Int)) then
     some true
    else
     (M.ref09_Same a1.Accept b1.Accept).bind fun rv2 =>
     some (!rv2)).bind fun (xv1 : Bool) =>
 bif xv1 then
  some false
 else
  bindStep (
   loopM (fun (i5 : Int) =>
    bif (decide (i5 < (a1.Arcs.length : Int))) then
     (idxL a1.Arcs i5).bind fun e11 =>
     (idxL b1.Arcs i5).bind fun e12 =>
     (some (!((e11.From == e12.From) && ((e11.To == e12.To) && ((e11.Epsilon == e12.Epsilon) && ((e11.Set == e12.Set) && true)))))).bind fun t11 =>
     bif t11 then
      some (.stop (.stop false))
     else
      (chk .i64 (i5 + 1)).bind fun t12 =>
      some (.next t12)
    else
     some (.stop (.next ()))) fuel (0 : Int)) fun _ =>
  some true

def M.ref08_Has (s1 : (Vec 4)) (b1 : Int) : Option Bool :=
 (quoM .i64 b1 64).bind fun t1 =>
 (vget s1 t1).bind fun c1 =>
 (remM b1 64).bind fun t2 =>
 (shrM .u64 c1 (IntKind.u64.wrap t2)).bind fun t3 =>
 some ((bits .and .u64 t3 1) == 1)

def M.ref08_ends : Nat → T_Regex → Str → (List Bool) → Option (List Bool)
| 0, _, _, _ => none
| fl + 1, p1, p2, p3 =>
 (chk .i64 ((p2.length : Int) + 1)).bind fun t1 =>
 (mkM 1 t1 (false : Bool)).bind fun l1 =>
 (
  bif (p1.Kind == 2) then
   some (copyL l1 p3)
  else
   bif (p1.Kind == 3) then
    loopM (fun (st9 : (List Bool) × Int) => match st9 with
    | (l30, xv75) =>
     bif (decide (xv75 < (p2.length : Int))) then
      (chk .i64 (xv75 + 1)).bind fun t67 =>
      (idxL p3 xv75).bind fun e111 =>
      bif e111 then
       (idxS p2 xv75).bind fun c6 =>
       (M.ref08_Has p1.Set (IntKind.i64.wrap c6)).bind fun rv18 =>
       (setL l30 t67 rv18).bind fun y65 =>
       some (.next (y65, t67))
      else
       (setL l30 t67 false).bind fun y66 =>
       some (.next (y66, t67))
     else
      some (.stop l30)) fuel (l1, (0 : Int))
   else
    bif (p1.Kind == 4) then
     loopM (fun (st9 : (List Bool) × Int) => match st9 with
     | (xv79, xv80) =>
      bif (decide (xv80 < (p1.Kids.length : Int))) then
       (idxL p1.Kids xv80).bind fun e114 =>
       (M.ref08_ends fl e114 p2 xv79).bind fun rv21 =>
       (chk .i64 (xv80 + 1)).bind fun t70 =>
       some (.next (rv21, t70))
      else
       some (.stop xv79)) fuel ((copyL l1 p3), (0 : Int))
    else
     bif (p1.Kind == 5) then
      loopM (fun (st9 : (List Bool) × Int) => match st9 with
      | (l40, xv90) =>
       bif (decide (xv90 < (p1.Kids.length : Int))) then
        (
         (idxL p1.Kids xv90).bind fun e150 =>
         (M.ref08_ends fl e150 p2 p3).bind fun rv27 =>
         loopM (fun (st9 : (List Bool) × Int) => match st9 with
         | (l54, xv102) =>
          bif (decide (xv102 < (rv27.length : Int))) then
           (idxL l54 xv102).bind fun e155 =>
           bif e155 then
            (setL l54 xv102 true).bind fun y101 =>
            (chk .i64 (xv102 + 1)).bind fun t107 =>
            some (.next (y101, t107))
           else
            (idxL rv27 xv102).bind fun e156 =>
            (setL l54 xv102 e156).bind fun y102 =>
            (chk .i64 (xv102 + 1)).bind fun t108 =>
            some (.next (y102, t108))
          else
           some (.stop l54)) fuel (l40, (0 : Int))).bind fun (l52 : (List Bool)) =>
        (chk .i64 (xv90 + 1)).bind fun t109 =>
        some (.next (l52, t109))
       else
        some (.stop l40)) fuel (l1, (0 : Int))
     else
      bif (p1.Kind == 6) then
       loopM (fun (st9 : (List Bool) × Bool) => match st9 with
       | (xv118, xv119) =>
        bif xv119 then
         (idxL p1.Kids 0).bind fun e197 =>
         (M.ref08_ends fl e197 p2 xv118).bind fun rv30 =>
         loopM (fun (st9 : (List Bool) × Bool × Int) => match st9 with
         | (xv138, xv139, xv140) =>
          bif (decide (xv140 < (rv30.length : Int))) then
           (
            bif xv139 then
             some true
            else
             (idxL rv30 xv140).bind fun e213 =>
             bif e213 then
              (idxL xv138 xv140).bind fun e214 =>
              some (!e214)
             else
              some false).bind fun (xv145 : Bool) =>
           (idxL xv138 xv140).bind fun e215 =>
           bif e215 then
            (setL xv138 xv140 true).bind fun y119 =>
            (chk .i64 (xv140 + 1)).bind fun t126 =>
            some (.next (y119, xv145, t126))
           else
            (idxL rv30 xv140).bind fun e216 =>
            (setL xv138 xv140 e216).bind fun y120 =>
            (chk .i64 (xv140 + 1)).bind fun t127 =>
            some (.next (y120, xv145, t127))
          else
           some (.stop (.next (xv138, xv139)))) fuel (xv118, false, (0 : Int))
        else
         some (.stop xv118)) fuel ((copyL l1 p3), true)
      else
       some l1).bind fun (xv73 : (List Bool)) =>
 some xv73

def M.ref08_Match (rv1 : T_Regex) (s1 : Str) : Option Bool :=
 (chk .i64 ((s1.length : Int) + 1)).bind fun t1 =>
 (mkM 1 t1 (false : Bool)).bind fun fromv1 =>
 (setL fromv1 0 true).bind fun fromv2 =>
 (M.ref08_ends fuel rv1 s1 fromv2).bind fun l1 =>
 (idxL l1 (s1.length : Int)).bind fun e1 =>
 some e1

def M.ref09_Match (l1 : (List T_Regex)) (s1 : Str) : Option Int :=
 bindStep (
  loopM (fun (i5 : Int) =>
   bif (decide (i5 < (l1.length : Int))) then
    (idxL l1 i5).bind fun e6 =>
    (M.ref08_Match e6 s1).bind fun rv6 =>
    bif rv6 then
     some (.stop (.stop i5))
    else
     (chk .i64 (i5 + 1)).bind fun t6 =>
     some (.next t6)
   else
    some (.stop (.next ()))) fuel (0 : Int)) fun _ =>
 some (-1)

def M.law09_NfaFromRegexesMatches (l1 : (List T_Regex)) (s1 : Str) : Option Bool :=
 (M.law09_awake).bind fun rv1 =>
 bif (!rv1) then
  some false
 else
  (
   (M.law09_few l1).bind fun rv3 =>
   bif (!rv3) then
    some true
   else
    some (decide (12 < (s1.length : Int)))).bind fun (xv1 : Bool) =>
  bif xv1 then
   some true
  else
   (M.nfa_FromRegexes l1).bind fun rv4 =>
   (M.ref09_FromRegexes l1).bind fun rv5 =>
   (
    bif (rv4.2 == 0) then
     (M.nfa_Valid rv4.1).bind fun rv10 =>
     bif rv10 then
      (M.ref09_SameNFA rv4.1 rv5.1).bind fun rv11 =>
      bif rv11 then
       (M.nfa_Run rv4.1 s1).bind fun rv12 =>
       (M.ref09_Match l1 s1).bind fun rv13 =>
       some (rv12 == rv13)
      else
       some false
     else
      some false
    else
     some false).bind fun (xv2 : Bool) =>
   some xv2

def M.law09_NfaFromRegexesErrors (l1 : (List T_Regex)) : Option Bool :=
 (M.law09_awake).bind fun rv1 =>
 bif (!rv1) then
  some false
 else
  bif (decide (40 < (l1.length : Int))) then
   some true
  else
   (M.nfa_FromRegexes l1).bind fun rv2 =>
   (M.ref09_Check l1).bind fun f1 =>
   (
    bif (rv2.2 == f1) then
     (M.nfa_Valid rv2.1).bind fun rv4 =>
     some ((rv2.2 == 0) == rv4)
    else
     some false).bind fun (xv1 : Bool) =>
   some xv1

end Go.Proofs.Ytajmekjcnbmaaaa
