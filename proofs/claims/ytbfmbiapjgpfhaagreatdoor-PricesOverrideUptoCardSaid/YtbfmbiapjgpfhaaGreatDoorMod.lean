/- The plain models of the functions, printed by a program of my own from the translation. -/
import Derived.Test.YtbfmbiapjgpfhaaGreatDoorProg
import Derived.Test.YtbfmbiapjgpfhaaGreatDoorLxFn
import Derived.Test.YtbfmbiapjgpfhaaGreatDoorLxRange
import Derived.Test.YtbfmbiapjgpfhaaGreatDoorLxRec
import Derived.Test.YtbfmbiapjgpfhaaGreatDoorLxRecover
import Derived.Test.YtbfmbiapjgpfhaaGreatDoorLxEq
import Derived.Test.YtbfmbiapjgpfhaaGreatDoorLxRangeX
import Derived.Test.YtbfmbiapjgpfhaaGreatDoorLxGrid
import Derived.Test.YtbfmbiapjgpfhaaGreatDoorLxIter
import Derived.Test.YtbfmbiapjgpfhaaGreatDoorLxText
import Derived.Test.YtbfmbiapjgpfhaaGreatDoorLxLibs
import Derived.Test.YtbfmbiapjgpfhaaGreatDoorShelf
set_option linter.unusedVariables false
set_option linter.unusedSimpArgs false
namespace Go.Proofs.YtbfmbiapjgpfhaaGreatDoor
open Go.Lx Go.RowKit
structure T_Prices where
  Insert : (List Int)
  Delete : (List Int)
  Replace : (List (List Int))
  Swap : Int
  Unknown : Int

instance : DecidableEq T_Prices := fun a b => if h : a.Insert = b.Insert ∧ a.Delete = b.Delete ∧ a.Replace = b.Replace ∧ a.Swap = b.Swap ∧ a.Unknown = b.Unknown then isTrue (by cases a; cases b; simp_all) else isFalse (by intro e; subst e; simp at h)

structure T_GExpr where
  Kind : Int
  Name : Str
  Kids : (List T_GExpr)

instance : Inhabited T_GExpr := ⟨⟨default, default, []⟩⟩

structure T_GAlternative where
  Body : T_GExpr
  Price : Int

instance : Inhabited T_GAlternative := ⟨⟨default, default⟩⟩

structure T_GRule where
  Name : Str
  Alternatives : (List T_GAlternative)

instance : Inhabited T_GRule := ⟨⟨default, []⟩⟩

structure T_GLevel where
  Assoc : Int
  Tokens : (List Str)

instance : DecidableEq T_GLevel := fun a b => if h : a.Assoc = b.Assoc ∧ a.Tokens = b.Tokens then isTrue (by cases a; cases b; simp_all) else isFalse (by intro e; subst e; simp at h)

structure T_GrammarFile where
  Start : Str
  Levels : (List T_GLevel)
  Rules : (List T_GRule)

instance : Inhabited T_GrammarFile := ⟨⟨default, [], []⟩⟩

structure T_strings_Builder where
  addr : Unit
  buf : (List Int)

instance : DecidableEq T_strings_Builder := fun a b => if h : a.addr = b.addr ∧ a.buf = b.buf then isTrue (by cases a; cases b; simp_all) else isFalse (by intro e; subst e; simp at h)
def tT_Prices : Ty T_Prices := ⟨5, fun g cs x => ∃ c0 c1 c2 c3 c4, cs = c0 ++ (c1 ++ (c2 ++ (c3 ++ (c4)))) ∧ (tSl (tInt .i64)).rel g c0 x.Insert ∧ (tSl (tInt .i64)).rel g c1 x.Delete ∧ (tSl (tSl (tInt .i64))).rel g c2 x.Replace ∧ (tInt .i64).rel g c3 x.Swap ∧ (tInt .i64).rel g c4 x.Unknown,
  fun hg ⟨c0, c1, c2, c3, c4, e, h0, h1, h2, h3, h4⟩ => ⟨c0, c1, c2, c3, c4, e, (tSl (tInt .i64)).mono hg h0, (tSl (tInt .i64)).mono hg h1, (tSl (tSl (tInt .i64))).mono hg h2, (tInt .i64).mono hg h3, (tInt .i64).mono hg h4⟩,
  fun ⟨_, _, _, _, _, e, h0, h1, h2, h3, h4⟩ => by rw [e]; simp [(tSl (tInt .i64)).len h0, (tSl (tInt .i64)).len h1, (tSl (tSl (tInt .i64))).len h2, (tInt .i64).len h3, (tInt .i64).len h4, tInt, tSl],
  fun ⟨_, _, _, _, _, e, h0, h1, h2, h3, h4⟩ v hv => by
    subst e; simp only [List.mem_append] at hv; rcases hv with hv | hv | hv | hv | hv
    · exact (tSl (tInt .i64)).one h0 v hv
    · exact (tSl (tInt .i64)).one h1 v hv
    · exact (tSl (tSl (tInt .i64))).one h2 v hv
    · exact (tInt .i64).one h3 v hv
    · exact (tInt .i64).one h4 v hv⟩

def tT_GExprF (τ : Ty T_GExpr) : Ty T_GExpr := ⟨3, fun g cs x => ∃ c0 c1 c2, cs = c0 ++ (c1 ++ (c2)) ∧ (tInt .i64).rel g c0 x.Kind ∧ tStr.rel g c1 x.Name ∧ (tSl τ).rel g c2 x.Kids,
  fun hg ⟨c0, c1, c2, e, h0, h1, h2⟩ => ⟨c0, c1, c2, e, (tInt .i64).mono hg h0, tStr.mono hg h1, (tSl τ).mono hg h2⟩,
  fun ⟨_, _, _, e, h0, h1, h2⟩ => by rw [e]; simp [(tInt .i64).len h0, tStr.len h1, (tSl τ).len h2, tInt, tSl, tStr],
  fun ⟨_, _, _, e, h0, h1, h2⟩ v hv => by
    subst e; simp only [List.mem_append] at hv; rcases hv with hv | hv | hv
    · exact (tInt .i64).one h0 v hv
    · exact tStr.one h1 v hv
    · exact (tSl τ).one h2 v hv⟩

def tT_GExprR : TyFun T_GExpr := ⟨3, tT_GExprF, fun _ => rfl, fun ha hb h _ _ hh => by obtain ⟨c0, c1, c2, e, h0, h1, h2⟩ := hh; exact ⟨c0, c1, c2, e, h0, h1, tSl_imp (ha.trans hb.symm) h h2⟩⟩
def tT_GExpr : Ty T_GExpr := ⟨3, fun g cs x => ∃ n, (tT_GExprR.iter n).rel g cs x, fun hg h => tT_GExprR.fix_mono hg h, fun h => tT_GExprR.fix_len h, fun h => tT_GExprR.fix_one h⟩
theorem tT_GExpr_iff {g : Hp} {cs : List Value} {x : T_GExpr} : tT_GExpr.rel g cs x ↔ (tT_GExprF tT_GExpr).rel g cs x := by
  constructor
  · rintro ⟨n, h⟩
    cases n with
    | zero => exact h.elim
    | succ n => exact tT_GExprR.mono (τ := tT_GExprR.iter n) (τ' := tT_GExpr) (tT_GExprR.iter_sz n) rfl (fun _ _ h => ⟨n, h⟩) _ _ h
  · rintro ⟨c0, c1, c2, e, h0, h1, h2⟩
    obtain ⟨n2, h2⟩ := tT_GExprR.sup (fix := tT_GExpr) (fun _ _ _ h => h) rfl h2
    exact ⟨n2 + 1, c0, c1, c2, e, h0, h1, tT_GExprR.leSl (Nat.le_refl _) h2⟩

def tT_GAlternative : Ty T_GAlternative := ⟨4, fun g cs x => ∃ c0 c1, cs = c0 ++ (c1) ∧ tT_GExpr.rel g c0 x.Body ∧ (tInt .i64).rel g c1 x.Price,
  fun hg ⟨c0, c1, e, h0, h1⟩ => ⟨c0, c1, e, tT_GExpr.mono hg h0, (tInt .i64).mono hg h1⟩,
  fun ⟨_, _, e, h0, h1⟩ => by rw [e]; simp [tT_GExpr.len h0, (tInt .i64).len h1, tInt, tT_GExpr],
  fun ⟨_, _, e, h0, h1⟩ v hv => by
    subst e; simp only [List.mem_append] at hv; rcases hv with hv | hv
    · exact tT_GExpr.one h0 v hv
    · exact (tInt .i64).one h1 v hv⟩

def tT_GRule : Ty T_GRule := ⟨2, fun g cs x => ∃ c0 c1, cs = c0 ++ (c1) ∧ tStr.rel g c0 x.Name ∧ (tSl tT_GAlternative).rel g c1 x.Alternatives,
  fun hg ⟨c0, c1, e, h0, h1⟩ => ⟨c0, c1, e, tStr.mono hg h0, (tSl tT_GAlternative).mono hg h1⟩,
  fun ⟨_, _, e, h0, h1⟩ => by rw [e]; simp [tStr.len h0, (tSl tT_GAlternative).len h1, tSl, tStr],
  fun ⟨_, _, e, h0, h1⟩ v hv => by
    subst e; simp only [List.mem_append] at hv; rcases hv with hv | hv
    · exact tStr.one h0 v hv
    · exact (tSl tT_GAlternative).one h1 v hv⟩

def tT_GLevel : Ty T_GLevel := ⟨2, fun g cs x => ∃ c0 c1, cs = c0 ++ (c1) ∧ (tInt .i64).rel g c0 x.Assoc ∧ (tSl tStr).rel g c1 x.Tokens,
  fun hg ⟨c0, c1, e, h0, h1⟩ => ⟨c0, c1, e, (tInt .i64).mono hg h0, (tSl tStr).mono hg h1⟩,
  fun ⟨_, _, e, h0, h1⟩ => by rw [e]; simp [(tInt .i64).len h0, (tSl tStr).len h1, tInt, tSl],
  fun ⟨_, _, e, h0, h1⟩ v hv => by
    subst e; simp only [List.mem_append] at hv; rcases hv with hv | hv
    · exact (tInt .i64).one h0 v hv
    · exact (tSl tStr).one h1 v hv⟩

def tT_GrammarFile : Ty T_GrammarFile := ⟨3, fun g cs x => ∃ c0 c1 c2, cs = c0 ++ (c1 ++ (c2)) ∧ tStr.rel g c0 x.Start ∧ (tSl tT_GLevel).rel g c1 x.Levels ∧ (tSl tT_GRule).rel g c2 x.Rules,
  fun hg ⟨c0, c1, c2, e, h0, h1, h2⟩ => ⟨c0, c1, c2, e, tStr.mono hg h0, (tSl tT_GLevel).mono hg h1, (tSl tT_GRule).mono hg h2⟩,
  fun ⟨_, _, _, e, h0, h1, h2⟩ => by rw [e]; simp [tStr.len h0, (tSl tT_GLevel).len h1, (tSl tT_GRule).len h2, tSl, tStr],
  fun ⟨_, _, _, e, h0, h1, h2⟩ v hv => by
    subst e; simp only [List.mem_append] at hv; rcases hv with hv | hv | hv
    · exact tStr.one h0 v hv
    · exact (tSl tT_GLevel).one h1 v hv
    · exact (tSl tT_GRule).one h2 v hv⟩
def M.pow10 : Vec 20 := ⟨Lib.pow10Tab, rfl⟩

def M.ref34_Few (p1 : T_Prices) (most1 : Int) : Option Bool :=
 (
  bif (decide (most1 < (p1.Insert.length : Int))) then
   some true
  else
   bif (decide (most1 < (p1.Delete.length : Int))) then
    some true
   else
    some (decide (most1 < (p1.Replace.length : Int)))).bind fun (xv1 : Bool) =>
 bif xv1 then
  some false
 else
  bindStep (
   loopM (fun (i5 : Int) =>
    bif (decide (i5 < (p1.Replace.length : Int))) then
     (idxL p1.Replace i5).bind fun e6 =>
     bif (decide (most1 < (e6.length : Int))) then
      some (.stop (.stop false))
     else
      (chk .i64 (i5 + 1)).bind fun t6 =>
      some (.next t6)
    else
     some (.stop (.next ()))) fuel (0 : Int)) fun _ =>
  some true

def M.slices_IndexFunc_api_GAlternative_api_GAlternative (s1 : (List T_GAlternative)) (f1 : (T_GAlternative → Option Bool)) : Option Int :=
 bindStep (
  loopM (fun (xv5 : Int) =>
   bif (decide (xv5 < (s1.length : Int))) then
    (idxL s1 xv5).bind fun e6 =>
    (f1 e6).bind fun rv6 =>
    bif rv6 then
     some (.stop (.stop xv5))
    else
     (chk .i64 (xv5 + 1)).bind fun t6 =>
     some (.next t6)
   else
    some (.stop (.next ()))) fuel (0 : Int)) fun _ =>
 some (-1)

def M.slices_ContainsFunc_api_GAlternative_api_GAlternative (s1 : (List T_GAlternative)) (f1 : (T_GAlternative → Option Bool)) : Option Bool :=
 (M.slices_IndexFunc_api_GAlternative_api_GAlternative s1 f1).bind fun rv1 =>
 some (decide (0 ≤ rv1))

def M.grammarfile_letter (c1 : Int) : Option Bool :=
 (
  bif (decide (97 ≤ c1)) then
   bif (decide (c1 ≤ 122)) then
    some true
   else
    bif (decide (65 ≤ c1)) then
     some (decide (c1 ≤ 90))
    else
     some false
  else
   bif (decide (65 ≤ c1)) then
    some (decide (c1 ≤ 90))
   else
    some false).bind fun (xv1 : Bool) =>
 some xv1

def M.slices_Index_string_string (s1 : (List Str)) (v2 : Str) : Option Int :=
 bindStep (
  loopM (fun (xv5 : Int) =>
   bif (decide (xv5 < (s1.length : Int))) then
    (idxL s1 xv5).bind fun e6 =>
    bif (v2 == e6) then
     some (.stop (.stop xv5))
    else
     (chk .i64 (xv5 + 1)).bind fun t6 =>
     some (.next t6)
   else
    some (.stop (.next ()))) fuel (0 : Int)) fun _ =>
 some (-1)

def M.slices_Contains_string_string (s1 : (List Str)) (v2 : Str) : Option Bool :=
 (M.slices_Index_string_string s1 v2).bind fun rv1 =>
 some (decide (0 ≤ rv1))

def M.grammarfile_name (s1 : Str) : Option Bool :=
 (
  bif (s1 == []) then
   some true
  else
   bif (decide (24 < (s1.length : Int))) then
    some true
   else
    (idxS s1 0).bind fun c2 =>
    (M.grammarfile_letter c2).bind fun rv3 =>
    bif (!rv3) then
     some true
    else
     (M.slices_Contains_string_string [[115, 116, 97, 114, 116], [108, 101, 102, 116], [114, 105, 103, 104, 116], [110, 111, 110, 101], [112, 114, 105, 99, 101]] s1).bind fun rv4 =>
     some rv4).bind fun (xv1 : Bool) =>
 bif xv1 then
  some false
 else
  bindStep (
   loopM (fun (xv10 : Int) =>
    bif (decide (xv10 < (s1.length : Int))) then
     (
      (idxS s1 xv10).bind fun c14 =>
      (M.grammarfile_letter c14).bind fun rv16 =>
      bif (!rv16) then
       bif (decide (48 ≤ c14)) then
        bif (!(decide (c14 ≤ 57))) then
         some (c14 != 95)
        else
         some false
       else
        bif (!false) then
         some (c14 != 95)
        else
         some false
      else
       some false).bind fun (xv13 : Bool) =>
     bif xv13 then
      some (.stop (.stop false))
     else
      (chk .i64 (xv10 + 1)).bind fun t6 =>
      some (.next t6)
    else
     some (.stop (.next ()))) fuel (0 : Int)) fun _ =>
  some true

def M.slices_IndexFunc_api_GExpr_api_GExpr (s1 : (List T_GExpr)) (f1 : (T_GExpr → Option Bool)) : Option Int :=
 bindStep (
  loopM (fun (xv5 : Int) =>
   bif (decide (xv5 < (s1.length : Int))) then
    (idxL s1 xv5).bind fun e6 =>
    (f1 e6).bind fun rv6 =>
    bif rv6 then
     some (.stop (.stop xv5))
    else
     (chk .i64 (xv5 + 1)).bind fun t6 =>
     some (.next t6)
   else
    some (.stop (.next ()))) fuel (0 : Int)) fun _ =>
 some (-1)

def M.slices_ContainsFunc_api_GExpr_api_GExpr (s1 : (List T_GExpr)) (f1 : (T_GExpr → Option Bool)) : Option Bool :=
 (M.slices_IndexFunc_api_GExpr_api_GExpr s1 f1).bind fun rv1 =>
 some (decide (0 ≤ rv1))

mutual
def M.grammarfile_expr_1 : Nat → T_GExpr → Int → Option Bool
| 0, _, _ => none
| fl + 1, k1, c1 =>
 (chk .i64 (c1 - 1)).bind fun t1 =>
 (M.grammarfile_expr fl k1 t1).bind fun rv1 =>
 some (!rv1)

def M.grammarfile_expr : Nat → T_GExpr → Int → Option Bool
| 0, _, _ => none
| fl + 1, e1, depth1 =>
 (
  bif (decide (depth1 < 1)) then
   some true
  else
   bif (e1.Kind != 1) then
    some (e1.Name != [])
   else
    some false).bind fun (xv1 : Bool) =>
 bif xv1 then
  some false
 else
  (
   bif (e1.Kind == 1) then
    (M.grammarfile_name e1.Name).bind fun rv2 =>
    bif rv2 then
     some ((e1.Kids.length : Int) == 0)
    else
     some false
   else
    bif (e1.Kind == 2) then
     some ((e1.Kids.length : Int) != 1)
    else
     bif (e1.Kind == 3) then
      some (decide (2 ≤ (e1.Kids.length : Int)))
     else
      (
       bif (e1.Kind == 4) then
        some (e1.Kind == 4)
       else
        bif (e1.Kind == 5) then
         some (e1.Kind == 5)
        else
         some (e1.Kind == 6)).bind fun (xv3 : Bool) =>
      bif xv3 then
       some ((e1.Kids.length : Int) == 1)
      else
       some false).bind fun (ok1 : Bool) =>
  (
   bif ok1 then
    (M.slices_ContainsFunc_api_GExpr_api_GExpr e1.Kids (fun x901 => M.grammarfile_expr_1 fl x901 depth1)).bind fun rv4 =>
    some (!rv4)
   else
    some false).bind fun (xv4 : Bool) =>
  some xv4
end

def M.grammarfile_rule_1 (a1 : T_GAlternative) : Option Bool :=
 (
  bif (decide (a1.Price < 0)) then
   some true
  else
   bif (decide (1000 < a1.Price)) then
    some true
   else
    (M.grammarfile_expr fuel a1.Body 30).bind fun rv2 =>
    some (!rv2)).bind fun (xv1 : Bool) =>
 some xv1

def M.grammarfile_rule (rv1 : T_GRule) : Option Bool :=
 (
  bif (decide (0 < (rv1.Alternatives.length : Int))) then
   (M.slices_ContainsFunc_api_GAlternative_api_GAlternative rv1.Alternatives M.grammarfile_rule_1).bind fun rv3 =>
   some (!rv3)
  else
   some false).bind fun (xv1 : Bool) =>
 some xv1

def M.grammarfile_distinct (l1 : (List Str)) : Option Bool :=
 bindStep (
  loopM (fun (xv9 : Int) =>
   bif (decide (xv9 < (l1.length : Int))) then
    (idxL l1 xv9).bind fun e6 =>
    (
     (M.grammarfile_name e6).bind fun rv23 =>
     bif (!rv23) then
      some true
     else
      (subL l1 0 xv9).bind fun l13 =>
      (M.slices_Contains_string_string l13 e6).bind fun rv24 =>
      some rv24).bind fun (xv12 : Bool) =>
    bif xv12 then
     some (.stop (.stop false))
    else
     (chk .i64 (xv9 + 1)).bind fun t6 =>
     some (.next t6)
   else
    some (.stop (.next ()))) fuel (0 : Int)) fun _ =>
 some true

def M.grammarfile_Valid (p1 : T_GrammarFile) : Option Bool :=
 (
  bif (decide ((p1.Rules.length : Int) < 1)) then
   some true
  else
   some (decide (120 < (p1.Rules.length : Int)))).bind fun (xv1 : Bool) =>
 bif xv1 then
  some false
 else
  bindStep (
   loopM (fun (st9 : (List Str) × Int) => match st9 with
   | (xv11, xv12) =>
    bif (decide (xv12 < (p1.Rules.length : Int))) then
     (idxL p1.Rules xv12).bind fun e6 =>
     (M.grammarfile_rule e6).bind fun rv6 =>
     bif (!rv6) then
      some (.stop (.stop false))
     else
      (appM 16 xv11 [e6.Name]).bind fun y6 =>
      (chk .i64 (xv12 + 1)).bind fun t6 =>
      some (.next (y6, t6))
    else
     some (.stop (.next xv11))) fuel (([] : (List Str)), (0 : Int))) fun (xv8 : (List Str)) =>
  bindStep (
   loopM (fun (st9 : (List Str) × Int) => match st9 with
   | (xv28, xv29) =>
    bif (decide (xv29 < (p1.Levels.length : Int))) then
     (idxL p1.Levels xv29).bind fun e12 =>
     (
      bif (decide (e12.Assoc < 1)) then
       some true
      else
       bif (decide (3 < e12.Assoc)) then
        some true
       else
        some ((e12.Tokens.length : Int) == 0)).bind fun (xv33 : Bool) =>
     bif xv33 then
      some (.stop (.stop false))
     else
      (appM 16 xv28 e12.Tokens).bind fun y12 =>
      (chk .i64 (xv29 + 1)).bind fun t12 =>
      some (.next (y12, t12))
    else
     some (.stop (.next xv28))) fuel (([] : (List Str)), (0 : Int))) fun (xv24 : (List Str)) =>
  (
   (M.grammarfile_distinct xv8).bind fun rv11 =>
   bif rv11 then
    (M.grammarfile_distinct xv24).bind fun rv12 =>
    bif rv12 then
     (M.slices_Contains_string_string xv8 p1.Start).bind fun rv13 =>
     some rv13
    else
     some false
   else
    some false).bind fun (rv10 : Bool) =>
  some rv10

def M.prices_names (terms1 : (List Str)) : Option Bool :=
 bif (decide (120 < (terms1.length : Int))) then
  some false
 else
  bindStep (
   loopM (fun (xv9 : Int) =>
    bif (decide (xv9 < (terms1.length : Int))) then
     (idxL terms1 xv9).bind fun e6 =>
     (
      (M.grammarfile_Valid (T_GrammarFile.mk e6 [] [(T_GRule.mk e6 [(T_GAlternative.mk (T_GExpr.mk 2 [] []) 0)])])).bind fun rv23 =>
      bif (!rv23) then
       some true
      else
       (subL terms1 0 xv9).bind fun l12 =>
       (M.slices_Contains_string_string l12 e6).bind fun rv24 =>
       some rv24).bind fun (xv12 : Bool) =>
     bif xv12 then
      some (.stop (.stop false))
     else
      (chk .i64 (xv9 + 1)).bind fun t6 =>
      some (.next t6)
    else
     some (.stop (.next ()))) fuel (0 : Int)) fun _ =>
  some true

def M.math_bits_Mul32 (xv1 : Int) (y1 : Int) : Option (Int × Int) :=
 (shrM .u64 (IntKind.u64.wrap ((IntKind.u64.wrap xv1) * (IntKind.u64.wrap y1))) 32).bind fun t1 =>
 some ((IntKind.u32.wrap t1), (IntKind.u32.wrap (IntKind.u64.wrap ((IntKind.u64.wrap xv1) * (IntKind.u64.wrap y1)))))

def M.math_bits_Mul64 (xv1 : Int) (y1 : Int) : Option (Int × Int) :=
 (shrM .u64 xv1 32).bind fun t1 =>
 (shrM .u64 y1 32).bind fun t2 =>
 (shrM .u64 (IntKind.u64.wrap ((bits .and .u64 xv1 4294967295) * (bits .and .u64 y1 4294967295))) 32).bind fun t3 =>
 (shrM .u64 (IntKind.u64.wrap ((IntKind.u64.wrap (t1 * (bits .and .u64 y1 4294967295))) + t3)) 32).bind fun t4 =>
 (some (IntKind.u64.wrap ((bits .and .u64 (IntKind.u64.wrap ((IntKind.u64.wrap (t1 * (bits .and .u64 y1 4294967295))) + t3)) 4294967295) + (IntKind.u64.wrap ((bits .and .u64 xv1 4294967295) * t2))))).bind fun t5 =>
 (shrM .u64 t5 32).bind fun t6 =>
 some ((IntKind.u64.wrap ((IntKind.u64.wrap ((IntKind.u64.wrap (t1 * t2)) + t4)) + t6)), (IntKind.u64.wrap (xv1 * y1)))

def M.math_bits_Mul (xv1 : Int) (y1 : Int) : Option (Int × Int) :=
 (M.math_bits_Mul64 xv1 y1).bind fun rv1 =>
 some (rv1.1, rv1.2)

def M.slices_Repeat_int_int (xv1 : (List Int)) (count1 : Int) : Option (List Int) :=
 (
  bif (decide (count1 < 0)) then
   none
  else
   some ()).bind fun _ =>
 (M.math_bits_Mul (IntKind.u64.wrap (xv1.length : Int)) (IntKind.u64.wrap count1)).bind fun rv1 =>
 (
  (
   bif (decide (0 < rv1.1)) then
    some true
   else
    some (decide (9223372036854775807 < rv1.2))).bind fun (xv3 : Bool) =>
  bif xv3 then
   none
  else
   some ()).bind fun _ =>
 (mkM 8 (IntKind.i64.wrap rv1.2) (0 : Int)).bind fun newslice1 =>
 (
  loopM (fun (st9 : (List Int) × Int) => match st9 with
  | (xv9, nv5) =>
   bif (decide (nv5 < (xv9.length : Int))) then
    (selfM xv9 nv5).bind fun l12 =>
    (chk .i64 (nv5 + ((min (xv9.length - (nv5).toNat) (nv5).toNat : Nat) : Int))).bind fun t6 =>
    some (.next (l12, t6))
   else
    some (.stop xv9)) fuel ((copyL newslice1 xv1), ((min newslice1.length xv1.length : Nat) : Int))).bind fun (xv7 : (List Int)) =>
 some xv7

def M.prices_Default (terms1 : Int) : Option T_Prices :=
 (M.slices_Repeat_int_int [10] terms1).bind fun rv1 =>
 (M.slices_Repeat_int_int [10] terms1).bind fun rv2 =>
 (
  loopM (fun (st9 : (List (List Int)) × Int) => match st9 with
  | (xv10, xv11) =>
   bif (decide (xv11 < terms1)) then
    (M.slices_Repeat_int_int [15] terms1).bind fun row11 =>
    (setL row11 xv11 0).bind fun row12 =>
    (appM 24 xv10 [row12]).bind fun y6 =>
    (chk .i64 (xv11 + 1)).bind fun t6 =>
    some (.next (y6, t6))
   else
    some (.stop xv10)) fuel (([] : (List (List Int))), (0 : Int))).bind fun (xv7 : (List (List Int))) =>
 some (T_Prices.mk rv1 rv2 xv7 12 8)

def M.strings_genSplit (s sep : Str) (save n : Int) : Option (List Str) := genSplitM s sep save n

def M.strings_Split (s1 : Str) (sep1 : Str) : Option (List Str) :=
 (M.strings_genSplit s1 sep1 0 (-1)).bind fun rv1 =>
 some rv1

def M.internal_stringslite_Index (s : Str) (sep : Str) : Option Int := match sep with | [c] => some (Lib.indexByte s c) | _ => none

def M.internal_stringslite_Cut (s1 : Str) (sep1 : Str) : Option (Str × Str × Bool) :=
 (M.internal_stringslite_Index s1 sep1).bind fun i1 =>
 bif (decide (0 ≤ i1)) then
  (subL s1 0 i1).bind fun s2 =>
  (chk .i64 (i1 + (sep1.length : Int))).bind fun t1 =>
  (subL s1 t1 (s1.length : Int)).bind fun s3 =>
  some (s2, s3, true)
 else
  some (s1, [], false)

def M.strings_Cut (s1 : Str) (sep1 : Str) : Option (Str × Str × Bool) :=
 (M.internal_stringslite_Cut s1 sep1).bind fun rv1 =>
 some (rv1.1, rv1.2.1, rv1.2.2)

def M.strings_FieldsFunc (s : Str) (f : Int → Option Bool) : Option (List Str) := fieldsFuncM s f

def M.prices_fields_1 (rv1 : Int) : Option Bool :=
 (
  bif (rv1 == 32) then
   some true
  else
   some (rv1 == 9)).bind fun (xv1 : Bool) =>
 some xv1

def M.prices_fields (line1 : Str) : Option (List Str) :=
 (M.strings_Cut line1 [35]).bind fun rv1 =>
 (M.strings_FieldsFunc rv1.1 M.prices_fields_1).bind fun rv2 =>
 some rv2

def M.strings_Trim (s cs : Str) : Option Str := trimM s cs

def M.strconv_Atoi (s : Str) : Option (Int × Unit) := atoiM s

def M.prices_number (s1 : Str) : Option (Int × Bool) :=
 (
  bif (decide ((s1.length : Int) < 1)) then
   some true
  else
   bif (decide (9 < (s1.length : Int))) then
    some true
   else
    (M.strings_Trim s1 [48, 49, 50, 51, 52, 53, 54, 55, 56, 57]).bind fun rv2 =>
    some (rv2 != [])).bind fun (xv1 : Bool) =>
 bif xv1 then
  some (0, false)
 else
  (M.strconv_Atoi s1).bind fun rv3 =>
  some (rv3.1, true)

def M.prices_form (l1 : (List Str)) : Option Bool :=
 (idxL l1 0).bind fun e1 =>
 (some ((mget (mset (mset (mset (mset (mset [] [105, 110, 115, 101, 114, 116] 3) [100, 101, 108, 101, 116, 101] 3) [114, 101, 112, 108, 97, 99, 101] 4) [115, 119, 97, 112] 2) [117, 110, 107, 110, 111, 119, 110] 2) e1).getD 0)).bind fun t1 =>
 bif (t1 != (l1.length : Int)) then
  some false
 else
  (chk .i64 ((l1.length : Int) - 1)).bind fun t2 =>
  (idxL l1 t2).bind fun e2 =>
  (M.prices_number e2).bind fun rv1 =>
  (
   bif rv1.2 then
    some true
   else
    bif (e1 == [114, 101, 112, 108, 97, 99, 101]) then
     some (e2 == [110, 101, 118, 101, 114])
    else
     some false).bind fun (xv1 : Bool) =>
  some xv1

def M.prices_in (nv1 : Int) (least1 : Int) : Option Bool :=
 (
  bif (decide (least1 ≤ nv1)) then
   some (decide (nv1 ≤ 1000))
  else
   some false).bind fun (xv1 : Bool) =>
 some xv1

def M.prices_apply (p1 : T_Prices) (p2 : (List Str)) (p3 : (List Str)) : Option (Int × T_Prices) :=
 bindStep (
  (chk .i64 ((p2.length : Int) - 1)).bind fun t5 =>
  (subL p2 1 t5).bind fun l2 =>
  loopM (fun (st9 : (List Int) × Int) => match st9 with
  | (xv10, xv11) =>
   bif (decide (xv11 < (l2.length : Int))) then
    (idxL l2 xv11).bind fun e6 =>
    (M.slices_Index_string_string p3 e6).bind fun rv6 =>
    bif (decide (rv6 < 0)) then
     some (.stop (.stop (4, p1)))
    else
     (appM 8 xv10 [rv6]).bind fun y6 =>
     (chk .i64 (xv11 + 1)).bind fun t8 =>
     some (.next (y6, t8))
   else
    some (.stop (.next xv10))) fuel (([] : (List Int)), (0 : Int))) fun (xv7 : (List Int)) =>
 (chk .i64 ((p2.length : Int) - 1)).bind fun t9 =>
 (idxL p2 t9).bind fun e7 =>
 (M.prices_number e7).bind fun rv7 =>
 (idxL p2 0).bind fun e8 =>
 bif (e8 == [105, 110, 115, 101, 114, 116]) then
  (idxL xv7 0).bind fun e9 =>
  (idxL p1.Insert e9).bind fun e10 =>
  bif (!rv7.2) then
   (setL p1.Insert e9 (-1)).bind fun y7 =>
   some (0, (T_Prices.mk y7 p1.Delete p1.Replace p1.Swap p1.Unknown))
  else
   (M.prices_in rv7.1 1).bind fun rv8 =>
   bif (!rv8) then
    some (2, p1)
   else
    (setL p1.Insert e9 rv7.1).bind fun y8 =>
    some (0, (T_Prices.mk y8 p1.Delete p1.Replace p1.Swap p1.Unknown))
 else
  bif (e8 == [100, 101, 108, 101, 116, 101]) then
   (idxL xv7 0).bind fun e11 =>
   (idxL p1.Delete e11).bind fun e12 =>
   bif (!rv7.2) then
    (setL p1.Delete e11 (-1)).bind fun y9 =>
    some (0, (T_Prices.mk p1.Insert y9 p1.Replace p1.Swap p1.Unknown))
   else
    (M.prices_in rv7.1 1).bind fun rv9 =>
    bif (!rv9) then
     some (2, p1)
    else
     (setL p1.Delete e11 rv7.1).bind fun y10 =>
     some (0, (T_Prices.mk p1.Insert y10 p1.Replace p1.Swap p1.Unknown))
  else
   bif (e8 == [114, 101, 112, 108, 97, 99, 101]) then
    (idxL xv7 0).bind fun e13 =>
    (idxL xv7 1).bind fun e14 =>
    bif (e13 == e14) then
     some (1, p1)
    else
     (idxL p1.Replace e13).bind fun e15 =>
     (idxL e15 e14).bind fun e16 =>
     bif (!rv7.2) then
      (setL e15 e14 (-1)).bind fun y11 =>
      (setL p1.Replace e13 y11).bind fun y12 =>
      some (0, (T_Prices.mk p1.Insert p1.Delete y12 p1.Swap p1.Unknown))
     else
      (M.prices_in rv7.1 1).bind fun rv11 =>
      bif (!rv11) then
       some (2, p1)
      else
       (setL e15 e14 rv7.1).bind fun y13 =>
       (setL p1.Replace e13 y13).bind fun y14 =>
       some (0, (T_Prices.mk p1.Insert p1.Delete y14 p1.Swap p1.Unknown))
   else
    bif (e8 == [115, 119, 97, 112]) then
     bif (!rv7.2) then
      some (0, (T_Prices.mk p1.Insert p1.Delete p1.Replace (-1) p1.Unknown))
     else
      (M.prices_in rv7.1 0).bind fun rv12 =>
      bif (!rv12) then
       some (2, p1)
      else
       some (0, (T_Prices.mk p1.Insert p1.Delete p1.Replace rv7.1 p1.Unknown))
    else
     bif (e8 == [117, 110, 107, 110, 111, 119, 110]) then
      bif (!rv7.2) then
       some (0, (T_Prices.mk p1.Insert p1.Delete p1.Replace p1.Swap (-1)))
      else
       (M.prices_in rv7.1 1).bind fun rv13 =>
       bif (!rv13) then
        some (2, p1)
       else
        some (0, (T_Prices.mk p1.Insert p1.Delete p1.Replace p1.Swap rv7.1))
     else
      bif (!rv7.2) then
       none
      else
       (M.prices_in rv7.1 1).bind fun rv14 =>
       bif (!rv14) then
        some (2, p1)
       else
        none

def M.prices_Parse (s1 : Str) (terms1 : (List Str)) : Option (T_Prices × Int × Int) :=
 (M.prices_names terms1).bind fun rv1 =>
 bif (!rv1) then
  some ((T_Prices.mk [] [] [] 0 0), 0, 1)
 else
  (M.prices_Default (terms1.length : Int)).bind fun rv2 =>
  bindStep (
   (M.strings_Split s1 [10]).bind fun rv10 =>
   loopM (fun (st9 : (List Int) × (List Int) × (List (List Int)) × Int × Int × Int) => match st9 with
   | (xv32, xv33, xv34, p19, p20, xv35) =>
    bif (decide (xv35 < (rv10.length : Int))) then
     bindStep (
      (idxL rv10 xv35).bind fun e23 =>
      (M.prices_fields e23).bind fun l12 =>
      bif ((l12.length : Int) == 0) then
       some (.next (xv32, xv33, xv34, p19, p20))
      else
       (M.prices_form l12).bind fun rv16 =>
       bif (!rv16) then
        (chk .i64 (xv35 + 1)).bind fun t28 =>
        some (.stop (.stop (.stop ((T_Prices.mk [] [] [] 0 0), t28, 3))))
       else
        (M.prices_apply (T_Prices.mk xv32 xv33 xv34 p19 p20) l12 terms1).bind fun e24 =>
        bif (e24.1 != 0) then
         (chk .i64 (xv35 + 1)).bind fun t29 =>
         some (.stop (.stop (.stop ((T_Prices.mk [] [] [] 0 0), t29, e24.1))))
        else
         some (.next (e24.2.Insert, e24.2.Delete, e24.2.Replace, e24.2.Swap, e24.2.Unknown))) fun (xv43, xv44, xv45, p25, p26) =>
     (chk .i64 (xv35 + 1)).bind fun t30 =>
     some (.next (xv43, xv44, xv45, p25, p26, t30))
    else
     some (.stop (.next (xv32, xv33, xv34, p19, p20)))) fuel (rv2.Insert, rv2.Delete, rv2.Replace, rv2.Swap, rv2.Unknown, (0 : Int))) fun (xv22, xv23, xv24, p13, p14) =>
  some ((T_Prices.mk xv22 xv23 xv24 p13 p14), 0, 0)

def M.prices_Valid (p1 : T_Prices) (p2 : Int) : Option Bool :=
 (
  bif (decide (p2 < 0)) then
   some true
  else
   bif ((p1.Insert.length : Int) != p2) then
    some true
   else
    bif ((p1.Delete.length : Int) != p2) then
     some true
    else
     bif ((p1.Replace.length : Int) != p2) then
      some true
     else
      (M.prices_in p1.Swap 0).bind fun rv3 =>
      bif (!rv3) then
       some true
      else
       (M.prices_in p1.Unknown 1).bind fun rv4 =>
       some (!rv4)).bind fun (xv1 : Bool) =>
 bif xv1 then
  some false
 else
  bindStep (
   loopM (fun (xv62 : Int) =>
    bif (decide (xv62 < p2)) then
     bindStep (
      (
       (idxL p1.Insert xv62).bind fun e114 =>
       (M.prices_in e114 1).bind fun rv183 =>
       bif (!rv183) then
        some true
       else
        (idxL p1.Delete xv62).bind fun e115 =>
        (M.prices_in e115 1).bind fun rv184 =>
        bif (!rv184) then
         some true
        else
         (idxL p1.Replace xv62).bind fun e116 =>
         some ((e116.length : Int) != p2)).bind fun (xv85 : Bool) =>
      bif xv85 then
       some (.stop (.stop (.stop false)))
      else
       (idxL p1.Replace xv62).bind fun e117 =>
       loopM (fun (xv88 : Int) =>
        bif (decide (xv88 < (e117.length : Int))) then
         (idxL e117 xv88).bind fun e120 =>
         (
          bif (xv62 == xv88) then
           bif (e120 != 0) then
            some true
           else
            bif (xv62 != xv88) then
             bif (e120 != (-1)) then
              (M.prices_in e120 1).bind fun rv195 =>
              some (!rv195)
             else
              some false
            else
             some false
          else
           bif (xv62 != xv88) then
            bif (e120 != (-1)) then
             (M.prices_in e120 1).bind fun rv196 =>
             some (!rv196)
            else
             some false
           else
            some false).bind fun (xv91 : Bool) =>
         bif xv91 then
          some (.stop (.stop (.stop (.stop false))))
         else
          (chk .i64 (xv88 + 1)).bind fun t41 =>
          some (.next t41)
        else
         some (.stop (.next ()))) fuel (0 : Int)) fun _ =>
     (chk .i64 (xv62 + 1)).bind fun t42 =>
     some (.next t42)
    else
     some (.stop (.next ()))) fuel (0 : Int)) fun _ =>
  some true

def M.strconv_Itoa (n : Int) : Option Str := itoaM n

def M.strings_Join (l : List Str) (sep : Str) : Option Str := if l.length ≤ 140737488355328 ∧ (Lib.join l sep).length ≤ 140737488355328 then some (Lib.join l sep) else none

def M.strings_Builder_copyCheck (b : T_strings_Builder) : Option T_strings_Builder := some b

def M.strings_Builder_WriteString (b1 : T_strings_Builder) (s1 : Str) : Option (Int × Unit × T_strings_Builder) :=
 (M.strings_Builder_copyCheck (T_strings_Builder.mk () b1.buf)).bind fun rv1 =>
 (appM 1 rv1.buf (bytesL s1)).bind fun l1 =>
 some ((s1.length : Int), (), (T_strings_Builder.mk () l1))

def M.prices_Format_1 (nv1 : Int) (usual1 : Int) (words1 : (List Str)) (c1 : T_strings_Builder) : Option T_strings_Builder :=
 bif (nv1 == usual1) then
  some (T_strings_Builder.mk () c1.buf)
 else
  (M.strconv_Itoa nv1).bind fun last1 =>
  (
   bif (decide (nv1 < 0)) then
    some ([110, 101, 118, 101, 114] : Str)
   else
    some last1).bind fun (last2 : Str) =>
  (appM 16 words1 [last2]).bind fun words2 =>
  (M.strings_Join words2 [32]).bind fun rv1 =>
  (catS rv1 [10]).bind fun s1 =>
  (M.strings_Builder_WriteString (T_strings_Builder.mk () c1.buf) s1).bind fun rv2 =>
  some (T_strings_Builder.mk () rv2.2.2.buf)

def M.strings_Builder_String (b : T_strings_Builder) : Option Str := if b.buf.all (fun n => decide (0 ≤ n ∧ n < 256)) = true then some (toStr b.buf) else none

def M.prices_Format (p1 : T_Prices) (p2 : (List Str)) : Option (Str × Int) :=
 (
  (M.prices_names p2).bind fun rv3 =>
  bif (!rv3) then
   some true
  else
   (M.prices_Valid p1 (p2.length : Int)).bind fun rv4 =>
   some (!rv4)).bind fun (xv1 : Bool) =>
 bif xv1 then
  some ([], 1)
 else
  (
   loopM (fun (st9 : (List Int) × Int) => match st9 with
   | (xv11, xv12) =>
    bif (decide (xv12 < (p1.Insert.length : Int))) then
     (idxL p1.Insert xv12).bind fun e11 =>
     (idxL p2 xv12).bind fun e12 =>
     (M.prices_Format_1 e11 10 [[105, 110, 115, 101, 114, 116], e12] (T_strings_Builder.mk () xv11)).bind fun rv10 =>
     (chk .i64 (xv12 + 1)).bind fun t6 =>
     some (.next (rv10.buf, t6))
    else
     some (.stop xv11)) fuel (([] : (List Int)), (0 : Int))).bind fun (xv8 : (List Int)) =>
  (
   loopM (fun (st9 : (List Int) × Int) => match st9 with
   | (xv24, xv25) =>
    bif (decide (xv25 < (p1.Delete.length : Int))) then
     (idxL p1.Delete xv25).bind fun e23 =>
     (idxL p2 xv25).bind fun e24 =>
     (M.prices_Format_1 e23 10 [[100, 101, 108, 101, 116, 101], e24] (T_strings_Builder.mk () xv24)).bind fun rv16 =>
     (chk .i64 (xv25 + 1)).bind fun t12 =>
     some (.next (rv16.buf, t12))
    else
     some (.stop xv24)) fuel (xv8, (0 : Int))).bind fun (xv21 : (List Int)) =>
  (
   loopM (fun (st9 : (List Int) × Int) => match st9 with
   | (xv113, xv114) =>
    bif (decide (xv114 < (p1.Replace.length : Int))) then
     (
      (idxL p1.Replace xv114).bind fun e226 =>
      loopM (fun (st9 : (List Int) × Int) => match st9 with
      | (xv149, xv150) =>
       bif (decide (xv150 < (e226.length : Int))) then
        (
         (idxL e226 xv150).bind fun e242 =>
         bif (xv114 != xv150) then
          (idxL p2 xv114).bind fun e243 =>
          (idxL p2 xv150).bind fun e244 =>
          (M.prices_Format_1 e242 15 [[114, 101, 112, 108, 97, 99, 101], e243, e244] (T_strings_Builder.mk () xv149)).bind fun rv88 =>
          some rv88.buf
         else
          some xv149).bind fun (xv154 : (List Int)) =>
        (chk .i64 (xv150 + 1)).bind fun t53 =>
        some (.next (xv154, t53))
       else
        some (.stop xv149)) fuel (xv113, (0 : Int))).bind fun (xv145 : (List Int)) =>
     (chk .i64 (xv114 + 1)).bind fun t54 =>
     some (.next (xv145, t54))
    else
     some (.stop xv113)) fuel (xv21, (0 : Int))).bind fun (xv91 : (List Int)) =>
  (M.prices_Format_1 p1.Swap 12 [[115, 119, 97, 112]] (T_strings_Builder.mk () xv91)).bind fun rv89 =>
  (M.prices_Format_1 p1.Unknown 8 [[117, 110, 107, 110, 111, 119, 110]] (T_strings_Builder.mk () rv89.buf)).bind fun rv90 =>
  (M.strings_Builder_String (T_strings_Builder.mk () rv90.buf)).bind fun s1 =>
  some (s1, 0)

def M.ref07_Ints (a1 : (List Int)) (b1 : (List Int)) : Option Bool :=
 bif ((a1.length : Int) != (b1.length : Int)) then
  some false
 else
  bindStep (
   loopM (fun (i5 : Int) =>
    bif (decide (i5 < (a1.length : Int))) then
     (idxL a1 i5).bind fun e11 =>
     (idxL b1 i5).bind fun e12 =>
     bif (e11 != e12) then
      some (.stop (.stop false))
     else
      (chk .i64 (i5 + 1)).bind fun t6 =>
      some (.next t6)
    else
     some (.stop (.next ()))) fuel (0 : Int)) fun _ =>
  some true

def M.ref34_Same (a1 : T_Prices) (b1 : T_Prices) : Option Bool :=
 (
  bif (a1.Swap != b1.Swap) then
   some true
  else
   bif (a1.Unknown != b1.Unknown) then
    some true
   else
    (M.ref07_Ints a1.Insert b1.Insert).bind fun rv3 =>
    bif (!rv3) then
     some true
    else
     (M.ref07_Ints a1.Delete b1.Delete).bind fun rv4 =>
     bif (!rv4) then
      some true
     else
      some ((a1.Replace.length : Int) != (b1.Replace.length : Int))).bind fun (xv1 : Bool) =>
 bif xv1 then
  some false
 else
  bindStep (
   loopM (fun (i5 : Int) =>
    bif (decide (i5 < (a1.Replace.length : Int))) then
     (idxL a1.Replace i5).bind fun e11 =>
     (idxL b1.Replace i5).bind fun e12 =>
     (M.ref07_Ints e11 e12).bind fun rv10 =>
     bif (!rv10) then
      some (.stop (.stop false))
     else
      (chk .i64 (i5 + 1)).bind fun t6 =>
      some (.next t6)
    else
     some (.stop (.next ()))) fuel (0 : Int)) fun _ =>
  some true

def M.law34_awake : Option Bool :=
 (M.prices_Parse [105, 110, 115, 101, 114, 116, 32, 97, 32, 51, 32, 35, 32, 99, 104, 101, 97, 112, 10, 10, 114, 101, 112, 108, 97, 99, 101, 32, 97, 32, 98, 32, 110, 101, 118, 101, 114, 10] [[97], [98]]).bind fun rv1 =>
 (M.prices_Format (T_Prices.mk [3, 10] [10, 10] [[0, (-1)], [15, 0]] 12 8) [[97], [98]]).bind fun rv2 =>
 (M.prices_Parse [115, 119, 97, 112, 32, 49, 10, 115, 119, 97, 112, 32, 120] [[97], [98]]).bind fun rv3 =>
 (M.prices_Parse [105, 110, 115, 101, 114, 116, 32, 99, 32, 50] [[97], [98]]).bind fun rv4 =>
 (
  bif (rv1.2.2 == 0) then
   bif (rv1.2.1 == 0) then
    (M.ref34_Same rv1.1 (T_Prices.mk [3, 10] [10, 10] [[0, (-1)], [15, 0]] 12 8)).bind fun rv11 =>
    bif rv11 then
     bif (rv2.2 == 0) then
      (some (rv2.1 == [105, 110, 115, 101, 114, 116, 32, 97, 32, 51, 10, 114, 101, 112, 108, 97, 99, 101, 32, 97, 32, 98, 32, 110, 101, 118, 101, 114, 10])).bind fun t2 =>
      bif t2 then
       bif (rv3.2.2 == 3) then
        bif (rv3.2.1 == 2) then
         bif (rv4.2.2 == 4) then
          bif (rv4.2.1 == 1) then
           (M.prices_Valid (T_Prices.mk [3, 10] [10, 10] [[0, (-1)], [15, 0]] 12 8) 2).bind fun rv12 =>
           bif rv12 then
            (M.prices_Valid (T_Prices.mk [3, 10] [10, 10] [[0, (-1)], [15, 0]] 12 8) 1).bind fun rv13 =>
            bif (!rv13) then
             (M.prices_Default 0).bind fun rv14 =>
             (M.ref34_Same rv14 (T_Prices.mk [] [] [] 12 8)).bind fun rv15 =>
             some rv15
            else
             some false
           else
            some false
          else
           some false
         else
          some false
        else
         some false
       else
        some false
      else
       some false
     else
      some false
    else
     some false
   else
    some false
  else
   some false).bind fun (rv10 : Bool) =>
 some rv10

def M.ref34_between (nv1 : Int) (lo1 : Int) (hiv1 : Int) : Option Bool :=
 (
  bif (decide (lo1 ≤ nv1)) then
   some (decide (nv1 ≤ hiv1))
  else
   some false).bind fun (xv1 : Bool) =>
 some xv1

def M.ref34_Valid (p1 : T_Prices) (p2 : Int) : Option Bool :=
 (
  bif ((p1.Insert.length : Int) != p2) then
   some true
  else
   bif ((p1.Delete.length : Int) != p2) then
    some true
   else
    bif ((p1.Replace.length : Int) != p2) then
     some true
    else
     (M.ref34_between p1.Swap 0 1000).bind fun rv3 =>
     bif (!rv3) then
      some true
     else
      (M.ref34_between p1.Unknown 1 1000).bind fun rv4 =>
      some (!rv4)).bind fun (xv1 : Bool) =>
 bif xv1 then
  some false
 else
  bindStep (
   loopM (fun (xv62 : Int) =>
    bif (decide (xv62 < p2)) then
     bindStep (
      (
       (idxL p1.Insert xv62).bind fun e136 =>
       (M.ref34_between e136 1 1000).bind fun rv183 =>
       bif (!rv183) then
        some true
       else
        (idxL p1.Delete xv62).bind fun e137 =>
        (M.ref34_between e137 1 1000).bind fun rv184 =>
        bif (!rv184) then
         some true
        else
         (idxL p1.Replace xv62).bind fun e138 =>
         some ((e138.length : Int) != p2)).bind fun (xv85 : Bool) =>
      bif xv85 then
       some (.stop (.stop (.stop false)))
      else
       loopM (fun (xv88 : Int) =>
        bif (decide (xv88 < p2)) then
         (idxL p1.Replace xv62).bind fun e143 =>
         (idxL e143 xv88).bind fun e144 =>
         (
          bif (xv62 == xv88) then
           bif (e144 != 0) then
            some true
           else
            bif (xv62 != xv88) then
             bif (e144 != (-1)) then
              (M.ref34_between e144 1 1000).bind fun rv195 =>
              some (!rv195)
             else
              some false
            else
             some false
          else
           bif (xv62 != xv88) then
            bif (e144 != (-1)) then
             (M.ref34_between e144 1 1000).bind fun rv196 =>
             some (!rv196)
            else
             some false
           else
            some false).bind fun (xv91 : Bool) =>
         bif xv91 then
          some (.stop (.stop (.stop (.stop false))))
         else
          (chk .i64 (xv88 + 1)).bind fun t41 =>
          some (.next t41)
        else
         some (.stop (.next ()))) fuel (0 : Int)) fun _ =>
     (chk .i64 (xv62 + 1)).bind fun t42 =>
     some (.next t42)
    else
     some (.stop (.next ()))) fuel (0 : Int)) fun _ =>
  some true

def M.ref34_Default (terms1 : Int) : Option T_Prices :=
 (
  loopM (fun (st9 : (List Int) × (List (List Int)) × Int) => match st9 with
  | (xv67, xv68, a5) =>
   bif (decide (a5 < terms1)) then
    (
     (appM 8 xv67 [10]).bind fun insert12 =>
     (
      loopM (fun (st9 : (List Int) × Int) => match st9 with
      | (xv97, b73) =>
       bif (decide (b73 < terms1)) then
        (
         bif (a5 == b73) then
          (appM 8 xv97 [0]).bind fun row239 =>
          some row239
         else
          (appM 8 xv97 [15]).bind fun row240 =>
          some row240).bind fun (row238 : (List Int)) =>
        (chk .i64 (b73 + 1)).bind fun t77 =>
        some (.next (row238, t77))
       else
        some (.stop xv97)) fuel (([] : (List Int)), (0 : Int))).bind fun (xv95 : (List Int)) =>
     (appM 24 xv68 [xv95]).bind fun replace12 =>
     some (insert12, replace12)).bind fun (insert11, replace11) =>
    (chk .i64 (a5 + 1)).bind fun t78 =>
    some (.next (insert11, replace11, t78))
   else
    some (.stop (xv67, xv68))) fuel (([] : (List Int)), ([] : (List (List Int))), (0 : Int))).bind fun (xv49, xv50) =>
 some (T_Prices.mk xv49 xv49 xv50 12 8)

def M.law34_PricesValid (p1 : T_Prices) (terms1 : Int) (nv1 : Int) : Option Bool :=
 (M.ref34_Few p1 10).bind fun rv1 =>
 bif (!rv1) then
  (M.law34_awake).bind fun rv2 =>
  some rv2
 else
  (remM nv1 20).bind fun t1 =>
  (M.prices_Default (IntKind.i64.wrap t1)).bind fun rv3 =>
  (
   (M.law34_awake).bind fun rv11 =>
   bif rv11 then
    (M.prices_Valid p1 terms1).bind fun rv12 =>
    (M.ref34_Valid p1 terms1).bind fun rv13 =>
    bif (rv12 == rv13) then
     (M.ref34_Default (IntKind.i64.wrap t1)).bind fun rv14 =>
     (M.ref34_Same rv3 rv14).bind fun rv15 =>
     bif rv15 then
      (M.prices_Valid rv3 (IntKind.i64.wrap t1)).bind fun rv16 =>
      some rv16
     else
      some false
    else
     some false
   else
    some false).bind fun (rv10 : Bool) =>
  some rv10

def M.law34_short (terms1 : (List Str)) : Option Bool :=
 bindStep (
  loopM (fun (i5 : Int) =>
   (
    bif (decide (i5 < (terms1.length : Int))) then
     some (decide (i5 < 8))
    else
     some false).bind fun (xv6 : Bool) =>
   bif xv6 then
    (idxL terms1 i5).bind fun e6 =>
    bif (decide (30 < (e6.length : Int))) then
     some (.stop (.stop false))
    else
     (chk .i64 (i5 + 1)).bind fun t6 =>
     some (.next t6)
   else
    some (.stop (.next ()))) fuel (0 : Int)) fun _ =>
 some (decide ((terms1.length : Int) ≤ 8))

def M.ref16_Name (p1 : Str) : Option Bool :=
 bindStep (
  loopM (fun (xv13 : Int) =>
   bif (decide (xv13 < (p1.length : Int))) then
    (
     (idxS p1 xv13).bind fun c22 =>
     bif (decide (97 ≤ c22)) then
      bif (decide (c22 ≤ 122)) then
       some true
      else
       bif (decide (65 ≤ c22)) then
        some (decide (c22 ≤ 90))
       else
        some false
     else
      bif (decide (65 ≤ c22)) then
       some (decide (c22 ≤ 90))
      else
       some false).bind fun (xv17 : Bool) =>
    (
     bif (!xv17) then
      bif (xv13 == 0) then
       some true
      else
       (idxS p1 xv13).bind fun c24 =>
       bif (decide (c24 < 48)) then
        some (c24 != 95)
       else
        bif (decide (57 < c24)) then
         some (c24 != 95)
        else
         some false
     else
      some false).bind fun (xv18 : Bool) =>
    bif xv18 then
     some (.stop (.stop false))
    else
     (chk .i64 (xv13 + 1)).bind fun t6 =>
     some (.next t6)
   else
    some (.stop (.next ()))) fuel (0 : Int)) fun _ =>
 (
  bif (p1 != []) then
   bif (decide ((p1.length : Int) ≤ 24)) then
    bif (p1 != [115, 116, 97, 114, 116]) then
     bif (p1 != [108, 101, 102, 116]) then
      bif (p1 != [114, 105, 103, 104, 116]) then
       bif (p1 != [110, 111, 110, 101]) then
        some (p1 != [112, 114, 105, 99, 101])
       else
        some false
      else
       some false
     else
      some false
    else
     some false
   else
    some false
  else
   some false).bind fun (xv19 : Bool) =>
 some xv19

def M.ref19_index (l1 : (List Str)) (s1 : Str) : Option Int :=
 bindStep (
  loopM (fun (i5 : Int) =>
   bif (decide (i5 < (l1.length : Int))) then
    (idxL l1 i5).bind fun e6 =>
    bif (e6 == s1) then
     some (.stop (.stop i5))
    else
     (chk .i64 (i5 + 1)).bind fun t6 =>
     some (.next t6)
   else
    some (.stop (.next ()))) fuel (0 : Int)) fun _ =>
 some (-1)

def M.ref19_Terms (l1 : (List Str)) : Option Bool :=
 bindStep (
  loopM (fun (i5 : Int) =>
   bif (decide (i5 < (l1.length : Int))) then
    (
     (idxL l1 i5).bind fun e12 =>
     (M.ref16_Name e12).bind fun rv23 =>
     bif (!rv23) then
      some true
     else
      (subL l1 0 i5).bind fun l13 =>
      (M.ref19_index l13 e12).bind fun rv24 =>
      some (decide (0 ≤ rv24))).bind fun (xv6 : Bool) =>
    bif xv6 then
     some (.stop (.stop false))
    else
     (chk .i64 (i5 + 1)).bind fun t6 =>
     some (.next t6)
   else
    some (.stop (.next ()))) fuel (0 : Int)) fun _ =>
 some true

def M.ref34_names (terms1 : (List Str)) : Option Bool :=
 (
  bif (decide ((terms1.length : Int) ≤ 120)) then
   (M.ref19_Terms terms1).bind fun rv3 =>
   some rv3
  else
   some false).bind fun (rv2 : Bool) =>
 some rv2

def M.ref34_fields (s1 : Str) : Option (List Str) :=
 (
  loopM (fun (st9 : (List Str) × Str × Int) => match st9 with
  | (xv14, word9, i5) =>
   bif (decide (i5 ≤ (s1.length : Int))) then
    (
     (
      bif (i5 == (s1.length : Int)) then
       some true
      else
       (idxS s1 i5).bind fun c24 =>
       bif (c24 == 32) then
        some true
       else
        some (c24 == 9)).bind fun (xv19 : Bool) =>
     bif xv19 then
      (
       bif (word9 != []) then
        (appM 16 xv14 [word9]).bind fun l28 =>
        some l28
       else
        some xv14).bind fun (l27 : (List Str)) =>
      some (l27, ([] : Str))
     else
      (chk .i64 (i5 + 1)).bind fun t17 =>
      (subL s1 i5 t17).bind fun s24 =>
      (catS word9 s24).bind fun s25 =>
      some (xv14, s25)).bind fun (l25, word12) =>
    (chk .i64 (i5 + 1)).bind fun t18 =>
    some (.next (l25, word12, t18))
   else
    some (.stop xv14)) fuel (([] : (List Str)), ([] : Str), (0 : Int))).bind fun (xv10 : (List Str)) =>
 some xv10

def M.ref34_number (s1 : Str) : Option Int :=
 (
  bif (decide ((s1.length : Int) < 1)) then
   some true
  else
   some (decide (9 < (s1.length : Int)))).bind fun (xv1 : Bool) =>
 bif xv1 then
  some (-1)
 else
  bindStep (
   loopM (fun (st9 : Int × Int) => match st9 with
   | (nv6, i5) =>
    bif (decide (i5 < (s1.length : Int))) then
     (
      (idxS s1 i5).bind fun c17 =>
      bif (decide (c17 < 48)) then
       some true
      else
       some (decide (57 < c17))).bind fun (xv7 : Bool) =>
     bif xv7 then
      some (.stop (.stop (-1)))
     else
      (chk .i64 (10 * nv6)).bind fun t16 =>
      (idxS s1 i5).bind fun c18 =>
      (chk .i64 (t16 + (IntKind.i64.wrap (IntKind.u8.wrap (c18 - 48))))).bind fun t17 =>
      (chk .i64 (i5 + 1)).bind fun t18 =>
      some (.next (t17, t18))
    else
     some (.stop (.next nv6))) fuel ((0 : Int), (0 : Int))) fun (nv4 : Int) =>
  some nv4

def M.ref34_index (l1 : (List Str)) (s1 : Str) : Option Int :=
 bindStep (
  loopM (fun (i5 : Int) =>
   bif (decide (i5 < (l1.length : Int))) then
    (idxL l1 i5).bind fun e6 =>
    bif (e6 == s1) then
     some (.stop (.stop i5))
    else
     (chk .i64 (i5 + 1)).bind fun t6 =>
     some (.next t6)
   else
    some (.stop (.next ()))) fuel (0 : Int)) fun _ =>
 some (-1)

def M.ref34_with (l1 : (List Int)) (i1 : Int) (xv1 : Int) : Option (List Int) :=
 (appM 8 [] l1).bind fun y1 =>
 (setL y1 i1 xv1).bind fun out1 =>
 some out1

def M.ref34_line (p1 : T_Prices) (p2 : (List Str)) (p3 : (List Str)) : Option (T_Prices × Int) :=
 bindStep (
  (idxL p2 0).bind fun e2 =>
  (
   bif (e2 == [105, 110, 115, 101, 114, 116]) then
    some (e2 == [105, 110, 115, 101, 114, 116])
   else
    some (e2 == [100, 101, 108, 101, 116, 101])).bind fun (xv4 : Bool) =>
  bif xv4 then
   some (.next ((1 : Int), (1 : Int)))
  else
   bif (e2 == [114, 101, 112, 108, 97, 99, 101]) then
    some (.next ((2 : Int), (1 : Int)))
   else
    bif (e2 == [115, 119, 97, 112]) then
     some (.next ((0 : Int), (0 : Int)))
    else
     bif (e2 == [117, 110, 107, 110, 111, 119, 110]) then
      some (.next ((0 : Int), (1 : Int)))
     else
      some (.stop (p1, 3))) fun (xv2, xv3) =>
 (chk .i64 (xv2 + 2)).bind fun t1 =>
 bif ((p2.length : Int) != t1) then
  some (p1, 3)
 else
  (chk .i64 (xv2 + 1)).bind fun t2 =>
  (idxL p2 t2).bind fun e3 =>
  (M.ref34_number e3).bind fun rv1 =>
  (
   (idxL p2 0).bind fun e5 =>
   bif (e5 == [114, 101, 112, 108, 97, 99, 101]) then
    some (e3 == [110, 101, 118, 101, 114])
   else
    some false).bind fun (xv5 : Bool) =>
  (
   bif (decide (rv1 < 0)) then
    some (!xv5)
   else
    some false).bind fun (xv6 : Bool) =>
  bif xv6 then
   some (p1, 3)
  else
   bindStep (
    loopM (fun (st9 : (List Int) × Int) => match st9 with
    | (xv16, xv17) =>
     bif (decide (xv17 < xv2)) then
      (chk .i64 (1 + xv17)).bind fun t13 =>
      (idxL p2 t13).bind fun e16 =>
      (M.ref34_index p3 e16).bind fun rv7 =>
      (setL xv16 xv17 rv7).bind fun y6 =>
      (idxL y6 xv17).bind fun e17 =>
      bif (decide (e17 < 0)) then
       some (.stop (.stop (p1, 4)))
      else
       (chk .i64 (xv17 + 1)).bind fun t14 =>
       some (.next (y6, t14))
     else
      some (.stop (.next xv16))) fuel (([0, 0] : (List Int)), (0 : Int))) fun (xv13 : (List Int)) =>
   (
    bif (xv2 == 2) then
     (idxL xv13 0).bind fun e20 =>
     (idxL xv13 1).bind fun e21 =>
     some (e20 == e21)
    else
     some false).bind fun (xv20 : Bool) =>
   bif xv20 then
    some (p1, 1)
   else
    (
     bif (!xv5) then
      (M.ref34_between rv1 xv3 1000).bind fun rv9 =>
      some (!rv9)
     else
      some false).bind fun (xv21 : Bool) =>
    bif xv21 then
     some (p1, 2)
    else
     (
      (idxL p2 0).bind fun e28 =>
      bif (e28 == [105, 110, 115, 101, 114, 116]) then
       (idxL xv13 0).bind fun e29 =>
       (M.ref34_with p1.Insert e29 rv1).bind fun rv13 =>
       some (rv13, p1.Delete, p1.Replace, p1.Swap, p1.Unknown)
      else
       bif (e28 == [100, 101, 108, 101, 116, 101]) then
        (idxL xv13 0).bind fun e30 =>
        (M.ref34_with p1.Delete e30 rv1).bind fun rv14 =>
        some (p1.Insert, rv14, p1.Replace, p1.Swap, p1.Unknown)
       else
        bif (e28 == [114, 101, 112, 108, 97, 99, 101]) then
         (appM 24 [] p1.Replace).bind fun y9 =>
         (idxL xv13 0).bind fun e31 =>
         (idxL y9 e31).bind fun e32 =>
         (idxL xv13 1).bind fun e33 =>
         (M.ref34_with e32 e33 rv1).bind fun rv15 =>
         (setL y9 e31 rv15).bind fun y10 =>
         some (p1.Insert, p1.Delete, y10, p1.Swap, p1.Unknown)
        else
         bif (e28 == [115, 119, 97, 112]) then
          some (p1.Insert, p1.Delete, p1.Replace, rv1, p1.Unknown)
         else
          some (p1.Insert, p1.Delete, p1.Replace, p1.Swap, rv1)).bind fun (l1, l2, l3, xv22, xv23) =>
     some ((T_Prices.mk l1 l2 l3 xv22 xv23), 0)

def M.ref34_Parse (p1 : Str) (p2 : (List Str)) : Option (T_Prices × Int × Int) :=
 (M.ref34_names p2).bind fun rv1 =>
 bif (!rv1) then
  some ((T_Prices.mk [] [] [] 0 0), 0, 1)
 else
  (M.ref34_Default (p2.length : Int)).bind fun rv2 =>
  bindStep (
   loopM (fun (st9 : (List Int) × (List Int) × (List (List Int)) × Int × Int × Str × Bool × Int × Int) => match st9 with
   | (l52, l53, l54, xv75, xv76, xv77, xv78, xv79, xv80) =>
    bif (decide (xv80 ≤ (p1.length : Int))) then
     bindStep (
      (
       bif (decide (xv80 < (p1.length : Int))) then
        (idxS p1 xv80).bind fun c50 =>
        some (c50 != 10)
       else
        some false).bind fun (xv107 : Bool) =>
      bif xv107 then
       (
        bif xv78 then
         some true
        else
         (idxS p1 xv80).bind fun c52 =>
         some (c52 == 35)).bind fun (xv108 : Bool) =>
       (
        bif (!xv108) then
         (chk .i64 (xv80 + 1)).bind fun t40 =>
         (subL p1 xv80 t40).bind fun s65 =>
         (catS xv77 s65).bind fun s66 =>
         some s66
        else
         some xv77).bind fun (s64 : Str) =>
       some (.next (l52, l53, l54, xv75, xv76, s64, xv108, xv79))
      else
       bindStep (
        (M.ref34_fields xv77).bind fun rv49 =>
        bif (decide (0 < (rv49.length : Int))) then
         (M.ref34_line (T_Prices.mk l52 l53 l54 xv75 xv76) rv49 p2).bind fun rv50 =>
         bif (rv50.2 != 0) then
          some (.stop (.stop (.stop (.stop ((T_Prices.mk [] [] [] 0 0), xv79, rv50.2)))))
         else
          some (.next (rv50.1.Insert, rv50.1.Delete, rv50.1.Replace, rv50.1.Swap, rv50.1.Unknown))
        else
         some (.next (l52, l53, l54, xv75, xv76))) fun (l73, l74, l75, xv109, xv110) =>
       (chk .i64 (xv79 + 1)).bind fun t41 =>
       some (.next (l73, l74, l75, xv109, xv110, ([] : Str), false, t41))) fun (l70, l71, l72, xv103, xv104, s61, xv105, xv106) =>
     (chk .i64 (xv80 + 1)).bind fun t42 =>
     some (.next (l70, l71, l72, xv103, xv104, s61, xv105, xv106, t42))
    else
     some (.stop (.next (l52, l53, l54, xv75, xv76)))) fuel (rv2.Insert, rv2.Delete, rv2.Replace, rv2.Swap, rv2.Unknown, ([] : Str), false, (1 : Int), (0 : Int))) fun (l37, l38, l39, xv55, xv56) =>
  some ((T_Prices.mk l37 l38 l39 xv55 xv56), 0, 0)

def M.law34_PricesParse (s1 : Str) (terms1 : (List Str)) : Option Bool :=
 (
  bif (decide (500 < (s1.length : Int))) then
   some true
  else
   (M.law34_short terms1).bind fun rv2 =>
   some (!rv2)).bind fun (xv1 : Bool) =>
 bif xv1 then
  (M.law34_awake).bind fun rv3 =>
  some rv3
 else
  (M.prices_Parse s1 terms1).bind fun rv4 =>
  (M.ref34_Parse s1 terms1).bind fun rv5 =>
  (
   (M.law34_awake).bind fun rv9 =>
   bif rv9 then
    bif (rv4.2.2 == rv5.2.2) then
     bif (rv4.2.1 == rv5.2.1) then
      (M.ref34_Same rv4.1 rv5.1).bind fun rv10 =>
      some rv10
     else
      some false
    else
     some false
   else
    some false).bind fun (rv8 : Bool) =>
  some rv8

def M.ref16_Decimal (nv1 : Int) : Option Str :=
 (remM nv1 10).bind fun t1 =>
 (chk .i64 (48 + t1)).bind fun t2 =>
 (
  (quoM .i64 nv1 10).bind fun t13 =>
  loopM (fun (st9 : Int × Str) => match st9 with
  | (nv6, s10) =>
   bif (decide (0 < nv6)) then
    (remM nv6 10).bind fun t20 =>
    (chk .i64 (48 + t20)).bind fun t21 =>
    (catS (toStr [(IntKind.u8.wrap t21)]) s10).bind fun s13 =>
    (quoM .i64 nv6 10).bind fun t22 =>
    some (.next (t22, s13))
   else
    some (.stop s10)) fuel (t13, (toStr [(IntKind.u8.wrap t2)]))).bind fun (s7 : Str) =>
 some s7

def M.ref34_Format (p1 : T_Prices) (p2 : (List Str)) : Option (Str × Int) :=
 (
  (M.ref34_names p2).bind fun rv3 =>
  bif (!rv3) then
   some true
  else
   (M.ref34_Valid p1 (p2.length : Int)).bind fun rv4 =>
   some (!rv4)).bind fun (xv1 : Bool) =>
 bif xv1 then
  some ([], 1)
 else
  (
   loopM (fun (st9 : Str × Int) => match st9 with
   | (xv11, xv12) =>
    bif (decide (xv12 < (p2.length : Int))) then
     (
      (idxL p1.Insert xv12).bind fun e23 =>
      bif (e23 != 10) then
       (catS xv11 [105, 110, 115, 101, 114, 116, 32]).bind fun s62 =>
       (idxL p2 xv12).bind fun e24 =>
       (catS s62 e24).bind fun s63 =>
       (catS s63 [32]).bind fun s64 =>
       (M.ref16_Decimal e23).bind fun rv16 =>
       (catS s64 rv16).bind fun s65 =>
       (catS s65 [10]).bind fun s66 =>
       some s66
      else
       some xv11).bind fun (s61 : Str) =>
     (chk .i64 (xv12 + 1)).bind fun t6 =>
     some (.next (s61, t6))
    else
     some (.stop xv11)) fuel (([] : Str), (0 : Int))).bind fun (xv8 : Str) =>
  (
   loopM (fun (st9 : Str × Int) => match st9 with
   | (xv24, xv25) =>
    bif (decide (xv25 < (p2.length : Int))) then
     (
      (idxL p1.Delete xv25).bind fun e47 =>
      bif (e47 != 10) then
       (catS xv24 [100, 101, 108, 101, 116, 101, 32]).bind fun s128 =>
       (idxL p2 xv25).bind fun e48 =>
       (catS s128 e48).bind fun s129 =>
       (catS s129 [32]).bind fun s130 =>
       (M.ref16_Decimal e47).bind fun rv28 =>
       (catS s130 rv28).bind fun s131 =>
       (catS s131 [10]).bind fun s132 =>
       some s132
      else
       some xv24).bind fun (s127 : Str) =>
     (chk .i64 (xv25 + 1)).bind fun t12 =>
     some (.next (s127, t12))
    else
     some (.stop xv24)) fuel (xv8, (0 : Int))).bind fun (xv21 : Str) =>
  (
   loopM (fun (st9 : Str × Int) => match st9 with
   | (xv161, xv162) =>
    bif (decide (xv162 < (p2.length : Int))) then
     (
      loopM (fun (st9 : Str × Int) => match st9 with
      | (xv217, xv218) =>
       bif (decide (xv218 < (p2.length : Int))) then
        (
         (
          bif (xv162 == xv218) then
           some true
          else
           (idxL p1.Replace xv162).bind fun e611 =>
           (idxL e611 xv218).bind fun e612 =>
           some (e612 == 15)).bind fun (xv226 : Bool) =>
         bif xv226 then
          some xv217
         else
          (catS xv217 [114, 101, 112, 108, 97, 99, 101, 32]).bind fun s701 =>
          (idxL p2 xv162).bind fun e613 =>
          (catS s701 e613).bind fun s702 =>
          (catS s702 [32]).bind fun s703 =>
          (idxL p2 xv218).bind fun e614 =>
          (catS s703 e614).bind fun s704 =>
          (catS s704 [32]).bind fun s705 =>
          (idxL p1.Replace xv162).bind fun e615 =>
          (idxL e615 xv218).bind fun e616 =>
          bif (decide (e616 < 0)) then
           (catS s705 [110, 101, 118, 101, 114, 10]).bind fun s706 =>
           some s706
          else
           (M.ref16_Decimal e616).bind fun rv100 =>
           (catS s705 rv100).bind fun s707 =>
           (catS s707 [10]).bind fun s708 =>
           some s708).bind fun (xv225 : Str) =>
        (chk .i64 (xv218 + 1)).bind fun t53 =>
        some (.next (xv225, t53))
       else
        some (.stop xv217)) fuel (xv161, (0 : Int))).bind fun (xv211 : Str) =>
     (chk .i64 (xv162 + 1)).bind fun t54 =>
     some (.next (xv211, t54))
    else
     some (.stop xv161)) fuel (xv21, (0 : Int))).bind fun (xv127 : Str) =>
  (
   bif (p1.Swap != 12) then
    (catS xv127 [115, 119, 97, 112, 32]).bind fun s713 =>
    (M.ref16_Decimal p1.Swap).bind fun rv102 =>
    (catS s713 rv102).bind fun s714 =>
    (catS s714 [10]).bind fun s715 =>
    some s715
   else
    some xv127).bind fun (s712 : Str) =>
  (
   bif (p1.Unknown != 8) then
    (catS s712 [117, 110, 107, 110, 111, 119, 110, 32]).bind fun s720 =>
    (M.ref16_Decimal p1.Unknown).bind fun rv104 =>
    (catS s720 rv104).bind fun s721 =>
    (catS s721 [10]).bind fun s722 =>
    some s722
   else
    some s712).bind fun (s719 : Str) =>
  some (s719, 0)

def M.law34_PricesFormat (p1 : T_Prices) (terms1 : (List Str)) : Option Bool :=
 (
  (M.ref34_Few p1 10).bind fun rv3 =>
  bif (!rv3) then
   some true
  else
   (M.law34_short terms1).bind fun rv4 =>
   some (!rv4)).bind fun (xv1 : Bool) =>
 bif xv1 then
  (M.law34_awake).bind fun rv5 =>
  some rv5
 else
  (M.prices_Format p1 terms1).bind fun rv6 =>
  (M.ref34_Format p1 terms1).bind fun rv7 =>
  (
   (M.law34_awake).bind fun rv9 =>
   bif rv9 then
    bif (rv6.1 == rv7.1) then
     some (rv6.2 == rv7.2)
    else
     some false
   else
    some false).bind fun (xv2 : Bool) =>
  some xv2

def M.law34_PricesRoundTrip (p1 : T_Prices) (p2 : (List Str)) (p3 : Str) : Option Bool :=
 (
  (M.ref34_Few p1 10).bind fun rv3 =>
  bif (!rv3) then
   some true
  else
   (M.law34_short p2).bind fun rv4 =>
   bif (!rv4) then
    some true
   else
    some (decide (500 < (p3.length : Int)))).bind fun (xv1 : Bool) =>
 bif xv1 then
  (M.law34_awake).bind fun rv5 =>
  some rv5
 else
  (M.prices_Parse p3 p2).bind fun rv6 =>
  (
   bif (rv6.2.2 == 0) then
    (M.prices_Valid rv6.1 (p2.length : Int)).bind fun rv8 =>
    some (!rv8)
   else
    some false).bind fun (xv2 : Bool) =>
  bif xv2 then
   some false
  else
   (M.prices_Format p1 p2).bind fun rv9 =>
   bif (rv9.2 != 0) then
    (
     (M.law34_awake).bind fun rv11 =>
     bif rv11 then
      some (rv9.1 == [])
     else
      some false).bind fun (xv3 : Bool) =>
    some xv3
   else
    (M.prices_Parse rv9.1 p2).bind fun rv12 =>
    (
     (M.law34_awake).bind fun rv16 =>
     bif rv16 then
      bif (rv12.2.2 == 0) then
       bif (rv12.2.1 == 0) then
        (M.ref34_Same rv12.1 p1).bind fun rv17 =>
        some rv17
       else
        some false
      else
       some false
     else
      some false).bind fun (rv15 : Bool) =>
    some rv15

def M.law34_PricesOverride (p1 : Str) (p2 : Int) (p3 : Int) : Option Bool :=
 (M.prices_Parse p1 [[97], [98], [99]]).bind fun rv1 =>
 (
  bif (decide (500 < (p1.length : Int))) then
   some true
  else
   bif (rv1.2.2 != 0) then
    some true
   else
    (M.prices_Valid rv1.1 3).bind fun rv3 =>
    some (!rv3)).bind fun (xv1 : Bool) =>
 bif xv1 then
  (M.law34_awake).bind fun rv4 =>
  some rv4
 else
  (remM (IntKind.i64.wrap p2) 3).bind fun t1 =>
  (remM (IntKind.i64.wrap p3) 1000).bind fun t2 =>
  (chk .i64 (1 + t2)).bind fun t3 =>
  (idxL [[97], [98], [99]] t1).bind fun e1 =>
  (catS [10, 105, 110, 115, 101, 114, 116, 32] e1).bind fun s1 =>
  (catS s1 [32]).bind fun s2 =>
  (chk .i64 (t1 + 1)).bind fun t4 =>
  (remM t4 3).bind fun t5 =>
  (idxL [[97], [98], [99]] t5).bind fun e2 =>
  (M.ref16_Decimal t3).bind fun rv5 =>
  (catS s2 rv5).bind fun s3 =>
  (catS s3 [10, 100, 101, 108, 101, 116, 101, 32]).bind fun s4 =>
  (catS s4 e1).bind fun s5 =>
  (catS s5 [32, 57, 10, 114, 101, 112, 108, 97, 99, 101, 32]).bind fun s6 =>
  (catS s6 e1).bind fun s7 =>
  (catS s7 [32]).bind fun s8 =>
  (catS s8 e2).bind fun s9 =>
  (catS s9 [32, 110, 101, 118, 101, 114, 10, 117, 110, 107, 110, 111, 119, 110, 32, 53]).bind fun s10 =>
  (catS p1 s10).bind fun s11 =>
  (M.prices_Parse s11 [[97], [98], [99]]).bind fun rv6 =>
  (
   bif (rv6.2.2 != 0) then
    some true
   else
    (M.prices_Valid rv6.1 3).bind fun rv8 =>
    some (!rv8)).bind fun (xv2 : Bool) =>
  bif xv2 then
   some false
  else
   bindStep (
    loopM (fun (xv111 : Int) =>
     bif (decide (xv111 < 3)) then
      bindStep (
       bindStep (
        loopM (fun (xv160 : Int) =>
         bif (decide (xv160 < 3)) then
          (
           bif (xv111 != t1) then
            (idxL rv6.1.Replace xv111).bind fun e1235 =>
            (idxL e1235 xv160).bind fun e1236 =>
            (idxL rv1.1.Replace xv111).bind fun e1237 =>
            (idxL e1237 xv160).bind fun e1238 =>
            some (e1236 != e1238)
           else
            bif (xv160 != t5) then
             (idxL rv6.1.Replace xv111).bind fun e1239 =>
             (idxL e1239 xv160).bind fun e1240 =>
             (idxL rv1.1.Replace xv111).bind fun e1241 =>
             (idxL e1241 xv160).bind fun e1242 =>
             some (e1240 != e1242)
            else
             some false).bind fun (xv163 : Bool) =>
          bif xv163 then
           some (.stop (.stop (.stop (.stop (.stop false)))))
          else
           (chk .i64 (xv160 + 1)).bind fun t82 =>
           some (.next t82)
         else
          some (.stop (.next ()))) fuel (0 : Int)) fun _ =>
       (
        bif (xv111 != t1) then
         (idxL rv6.1.Insert xv111).bind fun e1247 =>
         (idxL rv1.1.Insert xv111).bind fun e1248 =>
         bif (e1247 != e1248) then
          some true
         else
          (idxL rv6.1.Delete xv111).bind fun e1249 =>
          (idxL rv1.1.Delete xv111).bind fun e1250 =>
          some (e1249 != e1250)
        else
         some false).bind fun (xv164 : Bool) =>
       bif xv164 then
        some (.stop (.stop (.stop false)))
       else
        some (.next ())) fun _ =>
      (chk .i64 (xv111 + 1)).bind fun t83 =>
      some (.next t83)
     else
      some (.stop (.next ()))) fuel (0 : Int)) fun _ =>
   (
    (M.law34_awake).bind fun rv10 =>
    bif rv10 then
     (idxL rv6.1.Insert t1).bind fun e1255 =>
     bif (e1255 == t3) then
      (idxL rv6.1.Delete t1).bind fun e1256 =>
      bif (e1256 == 9) then
       (idxL rv6.1.Replace t1).bind fun e1257 =>
       (idxL e1257 t5).bind fun e1258 =>
       bif (e1258 == (-1)) then
        bif (rv6.1.Unknown == 5) then
         some (rv6.1.Swap == rv1.1.Swap)
        else
         some false
       else
        some false
      else
       some false
     else
      some false
    else
     some false).bind fun (xv165 : Bool) =>
   some xv165

def M.law34_PricesComments (p1 : Str) (p2 : Str) : Option Bool :=
 (
  bif (decide (300 < (p1.length : Int))) then
   some true
  else
   some (decide (50 < (p2.length : Int)))).bind fun (xv1 : Bool) =>
 bif xv1 then
  (M.law34_awake).bind fun rv1 =>
  some rv1
 else
  bindStep (
   loopM (fun (xv6 : Int) =>
    bif (decide (xv6 < (p2.length : Int))) then
     (idxS p2 xv6).bind fun c6 =>
     bif (c6 == 10) then
      (M.law34_awake).bind fun rv7 =>
      some (.stop (.stop rv7))
     else
      (chk .i64 (xv6 + 1)).bind fun t6 =>
      some (.next t6)
    else
     some (.stop (.next ()))) fuel (0 : Int)) fun _ =>
  (
   loopM (fun (st9 : Int × Int) => match st9 with
   | (xv17, xv18) =>
    bif (decide (xv18 < (p1.length : Int))) then
     (
      (idxS p1 xv18).bind fun c18 =>
      bif (c18 == 10) then
       (chk .i64 (xv17 + 1)).bind fun t29 =>
       some t29
      else
       some xv17).bind fun (t28 : Int) =>
     (chk .i64 (xv18 + 1)).bind fun t30 =>
     some (.next (t28, t30))
    else
     some (.stop xv17)) fuel ((1 : Int), (0 : Int))).bind fun (xv14 : Int) =>
  (M.prices_Parse p1 [[97], [98], [99]]).bind fun rv8 =>
  (catS [32, 9, 35] p2).bind fun s1 =>
  (catS s1 [10, 10]).bind fun s2 =>
  (catS s2 p1).bind fun s3 =>
  (catS s3 [10, 32, 32, 35, 32]).bind fun s4 =>
  (catS s4 p2).bind fun s5 =>
  (M.prices_Parse s5 [[97], [98], [99]]).bind fun rv9 =>
  (
   bif (rv8.2.2 != rv9.2.2) then
    some true
   else
    (M.ref34_Same rv8.1 rv9.1).bind fun rv11 =>
    some (!rv11)).bind fun (xv21 : Bool) =>
  bif xv21 then
   some false
  else
   (catS p1 [10, 112, 114, 105, 99, 101, 32, 97, 32, 49]).bind fun s6 =>
   (M.prices_Parse s6 [[97], [98], [99]]).bind fun rv12 =>
   (
    (M.law34_awake).bind fun rv14 =>
    bif rv14 then
     bif (rv8.2.2 != 0) then
      bif (rv12.2.2 == rv8.2.2) then
       some true
      else
       bif (rv8.2.2 == 0) then
        bif (rv12.2.2 == 3) then
         (chk .i64 (xv14 + 1)).bind fun t33 =>
         some (rv12.2.1 == t33)
        else
         some false
       else
        some false
     else
      bif (rv8.2.2 == 0) then
       bif (rv12.2.2 == 3) then
        (chk .i64 (xv14 + 1)).bind fun t34 =>
        some (rv12.2.1 == t34)
       else
        some false
      else
       some false
    else
     some false).bind fun (xv22 : Bool) =>
   some xv22

end Go.Proofs.YtbfmbiapjgpfhaaGreatDoor
