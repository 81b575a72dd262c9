/- The plain models of the functions, printed by a program of my own from the translation. -/
import Derived.Test.YtjdmfabmacdpgaaLxFn
import Derived.Test.YtjdmfabmacdpgaaLxRange
import Derived.Test.YtjdmfabmacdpgaaLxRec
import Derived.Test.YtjdmfabmacdpgaaLxRecover
import Derived.Test.YtjdmfabmacdpgaaLxEq
import Derived.Test.YtjdmfabmacdpgaaLxRangeX
import Derived.Test.YtjdmfabmacdpgaaLxGrid
import Derived.Test.YtjdmfabmacdpgaaShelf
set_option linter.unusedVariables false
set_option linter.unusedSimpArgs false
namespace Go.Proofs.Ytjdmfabmacdpgaa
open Go.Lx Go.RowKit
structure T_Regex where
  Kind : Int
  Set : (Vec 4)
  Kids : (List T_Regex)

instance : Inhabited T_Regex := ⟨⟨default, Vec.zero 4, []⟩⟩

structure T_regex_reader where
  s : Str
  atv : Int

instance : DecidableEq T_regex_reader := fun a b => if h : a.s = b.s ∧ a.atv = b.atv then isTrue (by cases a; cases b; simp_all) else isFalse (by intro e; subst e; simp at h)

structure T_TokenDef where
  Name : Str
  Kind : Int
  Pattern : Str
  Sample : Str
  Close : Str

instance : DecidableEq T_TokenDef := fun a b => if h : a.Name = b.Name ∧ a.Kind = b.Kind ∧ a.Pattern = b.Pattern ∧ a.Sample = b.Sample ∧ a.Close = b.Close then isTrue (by cases a; cases b; simp_all) else isFalse (by intro e; subst e; simp at h)

structure T_LexSpec where
  Defs : (List T_TokenDef)
  Layout : Bool
  Misspelling : Int
  Unclosed : Int

instance : DecidableEq T_LexSpec := fun a b => if h : a.Defs = b.Defs ∧ a.Layout = b.Layout ∧ a.Misspelling = b.Misspelling ∧ a.Unclosed = b.Unclosed then isTrue (by cases a; cases b; simp_all) else isFalse (by intro e; subst e; simp at h)

structure T_Token where
  Kind : Int
  At : Int
  Text : Str
  Look : Int

instance : DecidableEq T_Token := fun a b => if h : a.Kind = b.Kind ∧ a.At = b.At ∧ a.Text = b.Text ∧ a.Look = b.Look then isTrue (by cases a; cases b; simp_all) else isFalse (by intro e; subst e; simp at h)

structure T_Confusion where
  Kind : Int
  Price : Int

instance : DecidableEq T_Confusion := fun a b => if h : a.Kind = b.Kind ∧ a.Price = b.Price then isTrue (by cases a; cases b; simp_all) else isFalse (by intro e; subst e; simp at h)
def tT_RegexF (τ : Ty T_Regex) : Ty T_Regex := ⟨6, fun g cs x => ∃ c0 c1 c2, cs = c0 ++ (c1 ++ (c2)) ∧ (tInt .i64).rel g c0 x.Kind ∧ (tVec 4 .u64).rel g c1 x.Set ∧ (tSl τ).rel g c2 x.Kids,
  fun hg ⟨c0, c1, c2, e, h0, h1, h2⟩ => ⟨c0, c1, c2, e, (tInt .i64).mono hg h0, (tVec 4 .u64).mono hg h1, (tSl τ).mono hg h2⟩,
  fun ⟨_, _, _, e, h0, h1, h2⟩ => by rw [e]; simp [(tInt .i64).len h0, (tVec 4 .u64).len h1, (tSl τ).len h2, tInt, tSl, tVec],
  fun ⟨_, _, _, e, h0, h1, h2⟩ v hv => by
    subst e; simp only [List.mem_append] at hv; rcases hv with hv | hv | hv
    · exact (tInt .i64).one h0 v hv
    · exact (tVec 4 .u64).one h1 v hv
    · exact (tSl τ).one h2 v hv⟩

def tT_RegexR : TyFun T_Regex := ⟨6, tT_RegexF, fun _ => rfl, fun ha hb h _ _ hh => by obtain ⟨c0, c1, c2, e, h0, h1, h2⟩ := hh; exact ⟨c0, c1, c2, e, h0, h1, tSl_imp (ha.trans hb.symm) h h2⟩⟩
def tT_Regex : Ty T_Regex := ⟨6, fun g cs x => ∃ n, (tT_RegexR.iter n).rel g cs x, fun hg h => tT_RegexR.fix_mono hg h, fun h => tT_RegexR.fix_len h, fun h => tT_RegexR.fix_one h⟩
theorem tT_Regex_iff {g : Hp} {cs : List Value} {x : T_Regex} : tT_Regex.rel g cs x ↔ (tT_RegexF tT_Regex).rel g cs x := by
  constructor
  · rintro ⟨n, h⟩
    cases n with
    | zero => exact h.elim
    | succ n => exact tT_RegexR.mono (τ := tT_RegexR.iter n) (τ' := tT_Regex) (tT_RegexR.iter_sz n) rfl (fun _ _ h => ⟨n, h⟩) _ _ h
  · rintro ⟨c0, c1, c2, e, h0, h1, h2⟩
    obtain ⟨n2, h2⟩ := tT_RegexR.sup (fix := tT_Regex) (fun _ _ _ h => h) rfl h2
    exact ⟨n2 + 1, c0, c1, c2, e, h0, h1, tT_RegexR.leSl (Nat.le_refl _) h2⟩

def tT_regex_reader : Ty T_regex_reader := ⟨2, fun g cs x => ∃ c0 c1, cs = c0 ++ (c1) ∧ tStr.rel g c0 x.s ∧ (tInt .i64).rel g c1 x.atv,
  fun hg ⟨c0, c1, e, h0, h1⟩ => ⟨c0, c1, e, tStr.mono hg h0, (tInt .i64).mono hg h1⟩,
  fun ⟨_, _, e, h0, h1⟩ => by rw [e]; simp [tStr.len h0, (tInt .i64).len h1, tInt, tStr],
  fun ⟨_, _, e, h0, h1⟩ v hv => by
    subst e; simp only [List.mem_append] at hv; rcases hv with hv | hv
    · exact tStr.one h0 v hv
    · exact (tInt .i64).one h1 v hv⟩

def tT_TokenDef : Ty T_TokenDef := ⟨5, fun g cs x => ∃ c0 c1 c2 c3 c4, cs = c0 ++ (c1 ++ (c2 ++ (c3 ++ (c4)))) ∧ tStr.rel g c0 x.Name ∧ (tInt .i64).rel g c1 x.Kind ∧ tStr.rel g c2 x.Pattern ∧ tStr.rel g c3 x.Sample ∧ tStr.rel g c4 x.Close,
  fun hg ⟨c0, c1, c2, c3, c4, e, h0, h1, h2, h3, h4⟩ => ⟨c0, c1, c2, c3, c4, e, tStr.mono hg h0, (tInt .i64).mono hg h1, tStr.mono hg h2, tStr.mono hg h3, tStr.mono hg h4⟩,
  fun ⟨_, _, _, _, _, e, h0, h1, h2, h3, h4⟩ => by rw [e]; simp [tStr.len h0, (tInt .i64).len h1, tStr.len h2, tStr.len h3, tStr.len h4, tInt, tStr],
  fun ⟨_, _, _, _, _, e, h0, h1, h2, h3, h4⟩ v hv => by
    subst e; simp only [List.mem_append] at hv; rcases hv with hv | hv | hv | hv | hv
    · exact tStr.one h0 v hv
    · exact (tInt .i64).one h1 v hv
    · exact tStr.one h2 v hv
    · exact tStr.one h3 v hv
    · exact tStr.one h4 v hv⟩

def tT_LexSpec : Ty T_LexSpec := ⟨4, fun g cs x => ∃ c0 c1 c2 c3, cs = c0 ++ (c1 ++ (c2 ++ (c3))) ∧ (tSl tT_TokenDef).rel g c0 x.Defs ∧ tBool.rel g c1 x.Layout ∧ (tInt .i64).rel g c2 x.Misspelling ∧ (tInt .i64).rel g c3 x.Unclosed,
  fun hg ⟨c0, c1, c2, c3, e, h0, h1, h2, h3⟩ => ⟨c0, c1, c2, c3, e, (tSl tT_TokenDef).mono hg h0, tBool.mono hg h1, (tInt .i64).mono hg h2, (tInt .i64).mono hg h3⟩,
  fun ⟨_, _, _, _, e, h0, h1, h2, h3⟩ => by rw [e]; simp [(tSl tT_TokenDef).len h0, tBool.len h1, (tInt .i64).len h2, (tInt .i64).len h3, tBool, tInt, tSl],
  fun ⟨_, _, _, _, e, h0, h1, h2, h3⟩ v hv => by
    subst e; simp only [List.mem_append] at hv; rcases hv with hv | hv | hv | hv
    · exact (tSl tT_TokenDef).one h0 v hv
    · exact tBool.one h1 v hv
    · exact (tInt .i64).one h2 v hv
    · exact (tInt .i64).one h3 v hv⟩

def tT_Token : Ty T_Token := ⟨4, fun g cs x => ∃ c0 c1 c2 c3, cs = c0 ++ (c1 ++ (c2 ++ (c3))) ∧ (tInt .i64).rel g c0 x.Kind ∧ (tInt .i64).rel g c1 x.At ∧ tStr.rel g c2 x.Text ∧ (tInt .i64).rel g c3 x.Look,
  fun hg ⟨c0, c1, c2, c3, e, h0, h1, h2, h3⟩ => ⟨c0, c1, c2, c3, e, (tInt .i64).mono hg h0, (tInt .i64).mono hg h1, tStr.mono hg h2, (tInt .i64).mono hg h3⟩,
  fun ⟨_, _, _, _, e, h0, h1, h2, h3⟩ => by rw [e]; simp [(tInt .i64).len h0, (tInt .i64).len h1, tStr.len h2, (tInt .i64).len h3, tInt, tStr],
  fun ⟨_, _, _, _, e, h0, h1, h2, h3⟩ v hv => by
    subst e; simp only [List.mem_append] at hv; rcases hv with hv | hv | hv | hv
    · exact (tInt .i64).one h0 v hv
    · exact (tInt .i64).one h1 v hv
    · exact tStr.one h2 v hv
    · exact (tInt .i64).one h3 v hv⟩

def tT_Confusion : Ty T_Confusion := ⟨2, fun g cs x => ∃ c0 c1, cs = c0 ++ (c1) ∧ (tInt .i64).rel g c0 x.Kind ∧ (tInt .i64).rel g c1 x.Price,
  fun hg ⟨c0, c1, e, h0, h1⟩ => ⟨c0, c1, e, (tInt .i64).mono hg h0, (tInt .i64).mono hg h1⟩,
  fun ⟨_, _, e, h0, h1⟩ => by rw [e]; simp [(tInt .i64).len h0, (tInt .i64).len h1, tInt],
  fun ⟨_, _, e, h0, h1⟩ v hv => by
    subst e; simp only [List.mem_append] at hv; rcases hv with hv | hv
    · exact (tInt .i64).one h0 v hv
    · exact (tInt .i64).one h1 v hv⟩
def M.strings_IndexByte (s : Str) (c : Int) : Option Int := some (Lib.indexByte s c.toNat.toUInt8)

def M.internal_stringslite_Index (s : Str) (sep : Str) : Option Int := match sep with | [c] => some (Lib.indexByte s c) | _ => none

def M.internal_stringslite_Cut (s1 : Str) (sep1 : Str) : Option (Str × Str × Bool) :=
 (M.internal_stringslite_Index s1 sep1).bind fun i1 =>
 bif (decide (0 ≤ i1)) then
  (subL s1 0 i1).bind fun s2 =>
  (chk .i64 (i1 + (sep1.length : Int))).bind fun t1 =>
  (subL s1 t1 (s1.length : Int)).bind fun s3 =>
  some (s2, s3, true)
 else
  some (s1, [], false)

def M.strings_Cut (s1 : Str) (sep1 : Str) : Option (Str × Str × Bool) :=
 (M.internal_stringslite_Cut s1 sep1).bind fun rv1 =>
 some (rv1.1, rv1.2.1, rv1.2.2)

def M.byteset_Of (s1 : Str) : Option (Vec 4) :=
 (
  loopM (fun (st9 : (Vec 4) × Int) => match st9 with
  | (xv14, xv15) =>
   bif (decide (xv15 < (s1.length : Int))) then
    (idxS s1 xv15).bind fun c11 =>
    (quoM .u8 c11 64).bind fun t21 =>
    (vget xv14 t21).bind fun c12 =>
    (remM c11 64).bind fun t22 =>
    (shlM .u64 1 t22).bind fun t23 =>
    (vset xv14 t21 (bits .or .u64 c12 t23)).bind fun xv19 =>
    (chk .i64 (xv15 + 1)).bind fun t24 =>
    some (.next (xv19, t24))
   else
    some (.stop xv14)) fuel ((Vec.zero 4), (0 : Int))).bind fun (xv10 : (Vec 4)) =>
 some xv10

def M.byteset_Range (lo1 : Int) (hiv1 : Int) : Option (Vec 4) :=
 (
  loopM (fun (st9 : (Vec 4) × Int) => match st9 with
  | (xv10, b7) =>
   bif (decide (b7 ≤ (IntKind.i64.wrap hiv1))) then
    (quoM .i64 b7 64).bind fun t21 =>
    (vget xv10 t21).bind fun c6 =>
    (remM b7 64).bind fun t22 =>
    (shlM .u64 1 t22).bind fun t23 =>
    (vset xv10 t21 (bits .or .u64 c6 t23)).bind fun xv13 =>
    (chk .i64 (b7 + 1)).bind fun t24 =>
    some (.next (xv13, t24))
   else
    some (.stop xv10)) fuel ((Vec.zero 4), (IntKind.i64.wrap lo1))).bind fun (xv7 : (Vec 4)) =>
 some xv7

def M.byteset_Has (s1 : (Vec 4)) (b1 : Int) : Option Bool :=
 (quoM .u8 b1 64).bind fun t1 =>
 (vget s1 t1).bind fun c1 =>
 (remM b1 64).bind fun t2 =>
 (shrM .u64 c1 t2).bind fun t3 =>
 some ((bits .and .u64 t3 1) == 1)

def M.byteset_Union (a1 : (Vec 4)) (b1 : (Vec 4)) : Option (Vec 4) :=
 (
  loopM (fun (st9 : (Vec 4) × Int) => match st9 with
  | (a11, xv5) =>
   bif (decide (xv5 < 4)) then
    (vget a11 xv5).bind fun c11 =>
    (vget b1 xv5).bind fun c12 =>
    (vset a11 xv5 (bits .or .u64 c11 c12)).bind fun a14 =>
    (chk .i64 (xv5 + 1)).bind fun t6 =>
    some (.next (a14, t6))
   else
    some (.stop a11)) fuel (a1, (0 : Int))).bind fun (a8 : (Vec 4)) =>
 some a8

def M.byteset_Complement (s1 : (Vec 4)) : Option (Vec 4) :=
 (
  loopM (fun (st9 : (Vec 4) × Int) => match st9 with
  | (s11, xv5) =>
   bif (decide (xv5 < 4)) then
    (vget s11 xv5).bind fun c6 =>
    (vset s11 xv5 (complM .u64 c6)).bind fun s14 =>
    (chk .i64 (xv5 + 1)).bind fun t6 =>
    some (.next (s14, t6))
   else
    some (.stop s11)) fuel (s1, (0 : Int))).bind fun (s8 : (Vec 4)) =>
 some s8

def M.regex_valid : Nat → T_Regex → Int → Option Bool
| 0, _, _ => none
| fl + 1, rv1, depth1 =>
 (
  bif (depth1 == 0) then
   some true
  else
   some ((rv1.Kind == 3) == (rv1.Set == (Vec.zero 4)))).bind fun (xv1 : Bool) =>
 bif xv1 then
  some false
 else
  bindStep (
   (
    bif (rv1.Kind == 1) then
     some (rv1.Kind == 1)
    else
     bif (rv1.Kind == 2) then
      some (rv1.Kind == 2)
     else
      some (rv1.Kind == 3)).bind fun (xv4 : Bool) =>
   bif xv4 then
    some (.next ((0 : Int), (0 : Int)))
   else
    (
     bif (rv1.Kind == 4) then
      some (rv1.Kind == 4)
     else
      some (rv1.Kind == 5)).bind fun (xv5 : Bool) =>
    bif xv5 then
     some (.next ((2 : Int), (rv1.Kids.length : Int)))
    else
     bif (rv1.Kind == 6) then
      some (.next ((1 : Int), (1 : Int)))
     else
      some (.stop false)) fun (least1, most1) =>
  (
   bif (decide ((rv1.Kids.length : Int) < least1)) then
    some true
   else
    some (decide (most1 < (rv1.Kids.length : Int)))).bind fun (xv6 : Bool) =>
  bif xv6 then
   some false
  else
   bindStep (
    loopM (fun (xv11 : Int) =>
     bif (decide (xv11 < (rv1.Kids.length : Int))) then
      (idxL rv1.Kids xv11).bind fun e6 =>
      (chk .i64 (depth1 - 1)).bind fun t11 =>
      (M.regex_valid fl e6 t11).bind fun rv7 =>
      bif (!rv7) then
       some (.stop (.stop false))
      else
       (chk .i64 (xv11 + 1)).bind fun t12 =>
       some (.next t12)
     else
      some (.stop (.next ()))) fuel (0 : Int)) fun _ =>
   some true

def M.regex_Valid (rv1 : T_Regex) : Option Bool :=
 (M.regex_valid fuel rv1 30).bind fun rv2 =>
 some rv2

def M.regex_Nullable : Nat → T_Regex → Option Bool
| 0, _ => none
| fl + 1, rv1 =>
 bindStep (
  (
   bif (rv1.Kind == 2) then
    some (rv1.Kind == 2)
   else
    some (rv1.Kind == 6)).bind fun (xv11 : Bool) =>
  bif xv11 then
   some (.stop true)
  else
   bif (rv1.Kind == 4) then
    bindStep (
     loopM (fun (xv16 : Int) =>
      bif (decide (xv16 < (rv1.Kids.length : Int))) then
       (idxL rv1.Kids xv16).bind fun e15 =>
       (M.regex_Nullable fl e15).bind fun rv16 =>
       bif (!rv16) then
        some (.stop (.stop (.stop false)))
       else
        (chk .i64 (xv16 + 1)).bind fun t15 =>
        some (.next t15)
      else
       some (.stop (.next ()))) fuel (0 : Int)) fun _ =>
    some (.stop true)
   else
    bif (rv1.Kind == 5) then
     loopM (fun (xv19 : Int) =>
      bif (decide (xv19 < (rv1.Kids.length : Int))) then
       (idxL rv1.Kids xv19).bind fun e18 =>
       (M.regex_Nullable fl e18).bind fun rv19 =>
       bif rv19 then
        some (.stop (.stop true))
       else
        (chk .i64 (xv19 + 1)).bind fun t18 =>
        some (.next t18)
      else
       some (.stop (.next ()))) fuel (0 : Int)
    else
     some (.next ())) fun _ =>
 some false

def M.regex_equal : Nat → T_Regex → T_Regex → Option Bool
| 0, _, _ => none
| fl + 1, a1, b1 =>
 (
  bif (a1.Kind != b1.Kind) then
   some true
  else
   bif (a1.Set != b1.Set) then
    some true
   else
    some ((a1.Kids.length : Int) != (b1.Kids.length : Int))).bind fun (xv1 : Bool) =>
 bif xv1 then
  some false
 else
  bindStep (
   loopM (fun (xv6 : Int) =>
    bif (decide (xv6 < (a1.Kids.length : Int))) then
     (idxL a1.Kids xv6).bind fun e11 =>
     (idxL b1.Kids xv6).bind fun e12 =>
     (M.regex_equal fl e11 e12).bind fun rv6 =>
     bif (!rv6) then
      some (.stop (.stop false))
     else
      (chk .i64 (xv6 + 1)).bind fun t6 =>
      some (.next t6)
    else
     some (.stop (.next ()))) fuel (0 : Int)) fun _ =>
  some true

def M.regex_union (l1 : (List T_Regex)) : Option T_Regex :=
 (
  loopM (fun (st9 : (List T_Regex) × Int) => match st9 with
  | (xv374, xv375) =>
   bif (decide (xv375 < (l1.length : Int))) then
    (
     (idxL l1 xv375).bind fun e474 =>
     (
      bif (e474.Kind == 5) then
       some e474.Kids
      else
       some ([e474] : (List T_Regex))).bind fun (more24 : (List T_Regex)) =>
     loopM (fun (st9 : (List T_Regex) × Int) => match st9 with
     | (xv530, xv531) =>
      bif (decide (xv531 < (more24.length : Int))) then
       (
        (idxL more24 xv531).bind fun e510 =>
        bif (e510.Kind == 1) then
         some xv530
        else
         bindStep (
          loopM (fun (xv558 : Int) =>
           bif (decide (xv558 < (xv530.length : Int))) then
            (idxL xv530 xv558).bind fun e516 =>
            (M.regex_equal fuel e516 e510).bind fun rv432 =>
            bif rv432 then
             some (.stop (.stop xv530))
            else
             (chk .i64 (xv558 + 1)).bind fun t472 =>
             some (.next t472)
           else
            some (.stop (.next ()))) fuel (0 : Int)) fun _ =>
         (appM 64 xv530 [e510]).bind fun kids64 =>
         some kids64).bind fun (xv553 : (List T_Regex)) =>
       (chk .i64 (xv531 + 1)).bind fun t473 =>
       some (.next (xv553, t473))
      else
       some (.stop xv530)) fuel (xv374, (0 : Int))).bind fun (xv514 : (List T_Regex)) =>
    (chk .i64 (xv375 + 1)).bind fun t474 =>
    some (.next (xv514, t474))
   else
    some (.stop xv374)) fuel (([] : (List T_Regex)), (0 : Int))).bind fun (xv280 : (List T_Regex)) =>
 bif ((xv280.length : Int) == 0) then
  some (T_Regex.mk 1 (Vec.zero 4) [])
 else
  bif ((xv280.length : Int) == 1) then
   (idxL xv280 0).bind fun e517 =>
   some e517
  else
   some (T_Regex.mk 5 (Vec.zero 4) xv280)

def M.regex_concat (l1 : (List T_Regex)) : Option T_Regex :=
 bindStep (
  loopM (fun (st9 : (List T_Regex) × Int) => match st9 with
  | (xv10, xv11) =>
   bif (decide (xv11 < (l1.length : Int))) then
    bindStep (
     (idxL l1 xv11).bind fun e12 =>
     bif (e12.Kind == 1) then
      some (.stop (.stop (.stop e12)))
     else
      bif (e12.Kind != 2) then
       (appM 64 xv10 [e12]).bind fun kids12 =>
       some (.next kids12)
      else
       some (.next xv10)) fun (kids11 : (List T_Regex)) =>
    (chk .i64 (xv11 + 1)).bind fun t6 =>
    some (.next (kids11, t6))
   else
    some (.stop (.next xv10))) fuel (([] : (List T_Regex)), (0 : Int))) fun (xv7 : (List T_Regex)) =>
 bif ((xv7.length : Int) == 0) then
  some (T_Regex.mk 2 (Vec.zero 4) [])
 else
  bif ((xv7.length : Int) == 1) then
   (idxL xv7 0).bind fun e13 =>
   some e13
  else
   some (T_Regex.mk 4 (Vec.zero 4) xv7)

def M.regex_Derive : Nat → T_Regex → Int → Option T_Regex
| 0, _, _ => none
| fl + 1, p1, p2 =>
 bindStep (
  bif (p1.Kind == 3) then
   (M.byteset_Has p1.Set p2).bind fun rv30 =>
   bif rv30 then
    some (.stop (T_Regex.mk 2 (Vec.zero 4) []))
   else
    some (.next ())
  else
   bif (p1.Kind == 4) then
    (
     loopM (fun (st9 : (List T_Regex) × Int) => match st9 with
     | (xv34, xv35) =>
      bif (decide (xv35 < (p1.Kids.length : Int))) then
       (idxL p1.Kids xv35).bind fun e19 =>
       (chk .i64 (xv35 + 1)).bind fun t18 =>
       (subL p1.Kids t18 (p1.Kids.length : Int)).bind fun l12 =>
       (M.regex_Derive fl e19 p2).bind fun rv46 =>
       (appM 64 [rv46] l12).bind fun y31 =>
       (M.regex_concat y31).bind fun rv47 =>
       (appM 64 xv34 [rv47]).bind fun y32 =>
       (M.regex_Nullable fuel e19).bind fun rv48 =>
       bif (!rv48) then
        some (.stop y32)
       else
        some (.next (y32, t18))
      else
       some (.stop xv34)) fuel (([] : (List T_Regex)), (0 : Int))).bind fun (y26 : (List T_Regex)) =>
    (M.regex_union y26).bind fun rv49 =>
    some (.stop rv49)
   else
    bif (p1.Kind == 5) then
     (
      loopM (fun (st9 : (List T_Regex) × Int) => match st9 with
      | (xv47, xv48) =>
       bif (decide (xv48 < (p1.Kids.length : Int))) then
        (idxL p1.Kids xv48).bind fun e25 =>
        (M.regex_Derive fl e25 p2).bind fun rv55 =>
        (appM 64 xv47 [rv55]).bind fun y38 =>
        (chk .i64 (xv48 + 1)).bind fun t24 =>
        some (.next (y38, t24))
       else
        some (.stop xv47)) fuel (([] : (List T_Regex)), (0 : Int))).bind fun (xv44 : (List T_Regex)) =>
     (M.regex_union xv44).bind fun rv56 =>
     some (.stop rv56)
    else
     bif (p1.Kind == 6) then
      (idxL p1.Kids 0).bind fun e26 =>
      (M.regex_Derive fl e26 p2).bind fun rv57 =>
      (M.regex_concat [rv57, p1]).bind fun rv58 =>
      some (.stop rv58)
     else
      some (.next ())) fun _ =>
 some (T_Regex.mk 1 (Vec.zero 4) [])

def M.regex_Match (rv1 : T_Regex) (s1 : Str) : Option Bool :=
 (
  loopM (fun (st9 : Int × (Vec 4) × (List T_Regex) × Int) => match st9 with
  | (rv21, rv22, rv23, xv5) =>
   bif (decide (xv5 < (s1.length : Int))) then
    (idxS s1 xv5).bind fun c6 =>
    (M.regex_Derive fuel (T_Regex.mk rv21 rv22 rv23) c6).bind fun rv28 =>
    (chk .i64 (xv5 + 1)).bind fun t6 =>
    some (.next (rv28.Kind, rv28.Set, rv28.Kids, t6))
   else
    some (.stop (rv21, rv22, rv23))) fuel (rv1.Kind, rv1.Set, rv1.Kids, (0 : Int))).bind fun (rv14, rv15, rv16) =>
 (M.regex_Nullable fuel (T_Regex.mk rv14 rv15 rv16)).bind fun rv29 =>
 some rv29

def M.regex_dot : Option (Vec 4) :=
 (M.byteset_Of [10]).bind fun rv1 =>
 (M.byteset_Complement rv1).bind fun rv2 =>
 some rv2

def M.regex_reader_peek (p1 : T_regex_reader) : Option Int :=
 bif (decide (p1.atv < (p1.s.length : Int))) then
  (idxS p1.s p1.atv).bind fun c1 =>
  some c1
 else
  some 0

def M.regex_reader_fail (p1 : T_regex_reader) : Option (Rt (Unit)) :=
 some (.pan p1.atv)

def M.regex_reader_expect (p1 : T_regex_reader) (b2 : Int) : Option (Rt (T_regex_reader)) :=
 bindStep (
  (
   bif (p1.atv == (p1.s.length : Int)) then
    some true
   else
    (idxS p1.s p1.atv).bind fun c4 =>
    some (c4 != b2)).bind fun (xv2 : Bool) =>
  bif xv2 then
   (M.regex_reader_fail p1).bind fun y9 => y9.on (fun rv2 =>
    some (.next ())) (fun px2 => some (.stop (.pan px2)))
  else
   some (.next ())) fun _ =>
 (chk .i64 (p1.atv + 1)).bind fun t1 =>
 some (.ret (T_regex_reader.mk p1.s t1))

def M.regex_group (kind1 : Int) (l1 : (List T_Regex)) : Option T_Regex :=
 bif ((l1.length : Int) == 1) then
  (idxL l1 0).bind fun e1 =>
  some e1
 else
  some (T_Regex.mk kind1 (Vec.zero 4) l1)

def M.regex_alphanumeric (b1 : Int) : Option Bool :=
 (
  bif (decide (48 ≤ b1)) then
   bif (decide (b1 ≤ 57)) then
    some true
   else
    bif (decide (97 ≤ b1)) then
     bif (decide (b1 ≤ 122)) then
      some true
     else
      bif (decide (65 ≤ b1)) then
       some (decide (b1 ≤ 90))
      else
       some false
    else
     bif (decide (65 ≤ b1)) then
      some (decide (b1 ≤ 90))
     else
      some false
  else
   bif (decide (97 ≤ b1)) then
    bif (decide (b1 ≤ 122)) then
     some true
    else
     bif (decide (65 ≤ b1)) then
      some (decide (b1 ≤ 90))
     else
      some false
   else
    bif (decide (65 ≤ b1)) then
     some (decide (b1 ≤ 90))
    else
     some false).bind fun (xv1 : Bool) =>
 some xv1

def M.regex_reader_escape (p1 : T_regex_reader) : Option (Rt (Int × T_regex_reader)) :=
 bindStep (
  bif (p1.atv == (p1.s.length : Int)) then
   (M.regex_reader_fail p1).bind fun y9 => y9.on (fun rv2 =>
    some (.next ())) (fun px2 => some (.stop (.pan px2)))
  else
   some (.next ())) fun _ =>
 (idxS p1.s p1.atv).bind fun c1 =>
 bindStep (
  bif (c1 == 110) then
   some (.next (10 : Int))
  else
   bif (c1 == 116) then
    some (.next (9 : Int))
   else
    (
     bif (decide (c1 < 32)) then
      some true
     else
      bif (decide (126 < c1)) then
       some true
      else
       (M.regex_alphanumeric c1).bind fun rv7 =>
       some rv7).bind fun (xv2 : Bool) =>
    bif xv2 then
     (M.regex_reader_fail p1).bind fun y9 => y9.on (fun rv8 =>
      some (.next c1)) (fun px4 => some (.stop (.pan px4)))
    else
     some (.next c1)) fun (b2 : Int) =>
 (chk .i64 (p1.atv + 1)).bind fun t1 =>
 some (.ret (b2, (T_regex_reader.mk p1.s t1)))

def M.regex_reader_char (p1 : T_regex_reader) (not1 : Str) : Option (Rt (Int × T_regex_reader)) :=
 bindStep (
  bif (p1.atv == (p1.s.length : Int)) then
   (M.regex_reader_fail p1).bind fun y9 => y9.on (fun rv2 =>
    some (.next ())) (fun px2 => some (.stop (.pan px2)))
  else
   some (.next ())) fun _ =>
 (idxS p1.s p1.atv).bind fun c1 =>
 bif (c1 == 92) then
  (chk .i64 (p1.atv + 1)).bind fun t1 =>
  (M.regex_reader_escape (T_regex_reader.mk p1.s t1)).bind fun y9 => y9.on (fun rv3 =>
   some (.ret (rv3.1, rv3.2))) (fun px3 => some (.pan px3))
 else
  bindStep (
   (
    bif (decide (c1 < 32)) then
     some true
    else
     bif (decide (126 < c1)) then
      some true
     else
      (M.strings_IndexByte not1 c1).bind fun rv8 =>
      some (decide (0 ≤ rv8))).bind fun (xv2 : Bool) =>
   bif xv2 then
    (M.regex_reader_fail p1).bind fun y9 => y9.on (fun rv9 =>
     some (.next ())) (fun px5 => some (.stop (.pan px5)))
   else
    some (.next ())) fun _ =>
  (chk .i64 (p1.atv + 1)).bind fun t2 =>
  some (.ret (c1, (T_regex_reader.mk p1.s t2)))

def M.regex_reader_element (p1 : T_regex_reader) : Option (Rt ((Vec 4) × T_regex_reader)) :=
 (M.regex_reader_char p1 [93, 92, 45]).bind fun y9 => y9.on (fun lo1 =>
  bindStep (
   (M.regex_reader_peek lo1.2).bind fun rv3 =>
   bif (rv3 == 45) then
    (chk .i64 (lo1.2.atv + 1)).bind fun t2 =>
    (M.regex_reader_char (T_regex_reader.mk lo1.2.s t2) [93, 92, 45]).bind fun y9 => y9.on (fun hiv5 =>
     bif (decide (hiv5.1 < lo1.1)) then
      (M.regex_reader_fail (T_regex_reader.mk hiv5.2.s t2)).bind fun y9 => y9.on (fun rv4 =>
       some (.next (hiv5.1, hiv5.2.s, t2))) (fun px5 => some (.stop (.pan px5)))
     else
      some (.next (hiv5.1, hiv5.2.s, hiv5.2.atv))) (fun px4 => some (.stop (.pan px4)))
   else
    some (.next (lo1.1, lo1.2.s, lo1.2.atv))) fun (hiv2, hiv3, hiv4) =>
  (M.byteset_Range lo1.1 hiv2).bind fun rv5 =>
  some (.ret (rv5, (T_regex_reader.mk hiv3 hiv4)))) (fun px1 => some (.pan px1))

def M.regex_reader_bracket (p1 : T_regex_reader) : Option (Rt ((Vec 4) × T_regex_reader)) :=
 (M.regex_reader_expect p1 91).bind fun y9 => y9.on (fun rv1 =>
  (M.regex_reader_peek rv1).bind fun rv2 =>
  (
   bif (rv2 == 94) then
    (chk .i64 (rv1.atv + 1)).bind fun t2 =>
    some t2
   else
    some rv1.atv).bind fun (p2 : Int) =>
  (M.regex_reader_element (T_regex_reader.mk rv1.s p2)).bind fun y9 => y9.on (fun rv3 =>
   bindStep (
    loopM (fun (st9 : Str × Int × (Vec 4)) => match st9 with
    | (p13, p14, setv6) =>
     (M.regex_reader_peek (T_regex_reader.mk p13 p14)).bind fun rv19 =>
     bif (rv19 != 93) then
      (M.regex_reader_element (T_regex_reader.mk p13 p14)).bind fun y9 => y9.on (fun rv20 =>
       (M.byteset_Union setv6 rv20.1).bind fun rv21 =>
       some (.next (rv20.2.s, rv20.2.atv, rv21))) (fun px8 => some (.stop (.stop (.pan px8))))
     else
      some (.stop (.next (p13, p14, setv6)))) fuel (rv3.2.s, rv3.2.atv, rv3.1)) fun (p9, p10, setv4) =>
   (chk .i64 (p10 + 1)).bind fun t3 =>
   bif (rv2 == 94) then
    (M.byteset_Complement setv4).bind fun rv22 =>
    some (.ret (rv22, (T_regex_reader.mk p9 t3)))
   else
    some (.ret (setv4, (T_regex_reader.mk p9 t3)))) (fun px2 => some (.pan px2))) (fun px1 => some (.pan px1))

mutual
def M.regex_reader_atom : Nat → T_regex_reader → Option (Rt (T_Regex × T_regex_reader))
| 0, _ => none
| fl + 1, p1 =>
 (M.regex_reader_peek p1).bind fun rv1 =>
 bif (rv1 == 40) then
  (chk .i64 (p1.atv + 1)).bind fun t1 =>
  (M.regex_reader_regex fl (T_regex_reader.mk p1.s t1)).bind fun y9 => y9.on (fun rv2 =>
   (M.regex_reader_expect rv2.2 41).bind fun y9 => y9.on (fun rv3 =>
    some (.ret (rv2.1, rv3))) (fun px2 => some (.pan px2))) (fun px1 => some (.pan px1))
 else
  bif (rv1 == 91) then
   (M.regex_reader_bracket p1).bind fun y9 => y9.on (fun rv4 =>
    some (.ret ((T_Regex.mk 3 rv4.1 []), rv4.2))) (fun px3 => some (.pan px3))
  else
   bif (rv1 == 46) then
    (chk .i64 (p1.atv + 1)).bind fun t2 =>
    (M.regex_dot).bind fun rv5 =>
    some (.ret ((T_Regex.mk 3 rv5 []), (T_regex_reader.mk p1.s t2)))
   else
    (M.regex_reader_char p1 [40, 41, 91, 93, 124, 42, 43, 63, 46, 92]).bind fun y9 => y9.on (fun b4 =>
     (M.byteset_Range b4.1 b4.1).bind fun rv6 =>
     some (.ret ((T_Regex.mk 3 rv6 []), b4.2))) (fun px4 => some (.pan px4))

def M.regex_reader_repeat : Nat → T_regex_reader → Option (Rt (T_Regex × T_regex_reader))
| 0, _ => none
| fl + 1, p1 =>
 (M.regex_reader_atom fl p1).bind fun y9 => y9.on (fun rv1 =>
  loopM (fun (st9 : Int × Int × (Vec 4) × (List T_Regex)) => match st9 with
  | (p3, rv8, rv9, rv10) =>
   bindStep (
    (M.regex_reader_peek (T_regex_reader.mk rv1.2.s p3)).bind fun rv19 =>
    bif (rv19 == 42) then
     some (.next ((6 : Int), ([(T_Regex.mk rv8 rv9 rv10)] : (List T_Regex))))
    else
     bif (rv19 == 43) then
      some (.next ((4 : Int), ([(T_Regex.mk rv8 rv9 rv10), (T_Regex.mk 6 (Vec.zero 4) [(T_Regex.mk rv8 rv9 rv10)])] : (List T_Regex))))
     else
      bif (rv19 == 63) then
       some (.next ((5 : Int), ([(T_Regex.mk rv8 rv9 rv10), (T_Regex.mk 2 (Vec.zero 4) [])] : (List T_Regex))))
      else
       some (.stop (.stop (.ret ((T_Regex.mk rv8 rv9 rv10), (T_regex_reader.mk rv1.2.s p3)))))) fun (rv18, xv3) =>
   (chk .i64 (p3 + 1)).bind fun t3 =>
   some (.next (t3, rv18, (Vec.zero 4), xv3))) fuel (rv1.2.atv, rv1.1.Kind, rv1.1.Set, rv1.1.Kids)) (fun px1 => some (.pan px1))

def M.regex_reader_branch : Nat → T_regex_reader → Option (Rt (T_Regex × T_regex_reader))
| 0, _ => none
| fl + 1, p1 =>
 bindStep (
  loopM (fun (st9 : Str × Int × (List T_Regex)) => match st9 with
  | (p10, p11, xv10) =>
   (
    bif (decide (p11 < (p10.length : Int))) then
     (idxS p10 p11).bind fun c12 =>
     bif (c12 != 124) then
      some (c12 != 41)
     else
      some false
    else
     some false).bind fun (xv13 : Bool) =>
   bif xv13 then
    (M.regex_reader_repeat fl (T_regex_reader.mk p10 p11)).bind fun y9 => y9.on (fun rv6 =>
     (appM 64 xv10 [rv6.1]).bind fun l6 =>
     some (.next (rv6.2.s, rv6.2.atv, l6))) (fun px6 => some (.stop (.stop (.pan px6))))
   else
    some (.stop (.next (xv10, p10, p11)))) fuel (p1.s, p1.atv, ([] : (List T_Regex)))) fun (xv7, l3, l4) =>
 bif ((xv7.length : Int) == 0) then
  some (.ret ((T_Regex.mk 2 (Vec.zero 4) []), (T_regex_reader.mk l3 l4)))
 else
  (M.regex_group 4 xv7).bind fun rv7 =>
  some (.ret (rv7, (T_regex_reader.mk l3 l4)))

def M.regex_reader_regex : Nat → T_regex_reader → Option (Rt (T_Regex × T_regex_reader))
| 0, _ => none
| fl + 1, p1 =>
 (M.regex_reader_branch fl p1).bind fun y9 => y9.on (fun rv1 =>
  bindStep (
   loopM (fun (st9 : Str × Int × (List T_Regex)) => match st9 with
   | (p10, p11, xv6) =>
    (M.regex_reader_peek (T_regex_reader.mk p10 p11)).bind fun rv12 =>
    bif (rv12 == 124) then
     (chk .i64 (p11 + 1)).bind fun t6 =>
     (M.regex_reader_branch fl (T_regex_reader.mk p10 t6)).bind fun y9 => y9.on (fun rv13 =>
      (appM 64 xv6 [rv13.1]).bind fun l8 =>
      some (.next (rv13.2.s, rv13.2.atv, l8))) (fun px7 => some (.stop (.stop (.pan px7))))
    else
     some (.stop (.next (xv6, p10, p11)))) fuel (rv1.2.s, rv1.2.atv, ([rv1.1] : (List T_Regex)))) fun (xv4, l4, l5) =>
  (M.regex_group 5 xv4).bind fun rv14 =>
  some (.ret (rv14, (T_regex_reader.mk l4 l5)))) (fun px1 => some (.pan px1))
end

def M.regex_Parse_1 (x1 : Int) (c1 : T_Regex) (c2 : Int) (c3 : Int) : Option (T_Regex × Int × Int) :=
 some ((T_Regex.mk 0 (Vec.zero 4) []), x1, 3)

def M.regex_Parse (s1 : Str) : Option (T_Regex × Int × Int) :=
 (M.regex_reader_regex fuel (T_regex_reader.mk s1 0)).bind fun y9 => y9.on (fun rv1 =>
  bindStep (
   bif (decide (rv1.2.atv < (s1.length : Int))) then
    (M.regex_reader_fail rv1.2).bind fun y9 => y9.on (fun rv3 =>
     some (.next ())) (fun px3 => some (.stop ((T_Regex.mk 0 (Vec.zero 4) []), px3, 3)))
   else
    some (.next ())) fun _ =>
  (M.regex_Valid rv1.1).bind fun rv4 =>
  bif (!rv4) then
   some ((T_Regex.mk 0 (Vec.zero 4) []), 0, 11)
  else
   some (rv1.1, 0, 0)) (fun px1 => some ((T_Regex.mk 0 (Vec.zero 4) []), px1, 3))

def M.lexrepair_closable (spec1 : T_LexSpec) (d1 : T_TokenDef) (s1 : Str) : Option Bool :=
 (
  bif (decide (spec1.Unclosed ≤ 0)) then
   some true
  else
   bif (d1.Kind == 2) then
    some true
   else
    some (d1.Close == [])).bind fun (xv1 : Bool) =>
 bif xv1 then
  some false
 else
  (M.regex_Parse d1.Pattern).bind fun rv1 =>
  (
   bif (rv1.2.2 == 0) then
    (catS s1 d1.Close).bind fun s3 =>
    (M.regex_Match rv1.1 s3).bind fun rv4 =>
    some rv4
   else
    some false).bind fun (rv3 : Bool) =>
  some rv3

def M.lexrepair_Merge_1 (s1 : Str) (c1 : T_LexSpec) : Option Bool :=
 bindStep (
  loopM (fun (xv5 : Int) =>
   bif (decide (xv5 < (c1.Defs.length : Int))) then
    (idxL c1.Defs xv5).bind fun e6 =>
    (M.lexrepair_closable c1 e6 s1).bind fun rv6 =>
    bif rv6 then
     some (.stop (.stop true))
    else
     (chk .i64 (xv5 + 1)).bind fun t6 =>
     some (.next t6)
   else
    some (.stop (.next ()))) fuel (0 : Int)) fun _ =>
 some false

def M.lexer_Text (l1 : (List T_Token)) : Option Str :=
 (
  loopM (fun (st9 : Str × Int) => match st9 with
  | (s10, xv5) =>
   bif (decide (xv5 < (l1.length : Int))) then
    (idxL l1 xv5).bind fun e6 =>
    (catS s10 e6.Text).bind fun s13 =>
    (chk .i64 (xv5 + 1)).bind fun t6 =>
    some (.next (s13, t6))
   else
    some (.stop s10)) fuel (([] : Str), (0 : Int))).bind fun (s7 : Str) =>
 some s7

def M.lexrepair_rest (l1 : (List T_Token)) : Option (Str × Int) :=
 (M.lexer_Text l1).bind fun rv1 =>
 (M.strings_Cut rv1 [10]).bind fun rv2 =>
 bindStep (
  loopM (fun (st9 : Int × Int) => match st9 with
  | (size5, xv5) =>
   bif (decide (xv5 < (l1.length : Int))) then
    (idxL l1 xv5).bind fun e6 =>
    (chk .i64 (size5 + (e6.Text.length : Int))).bind fun t16 =>
    bif (t16 == (rv2.1.length : Int)) then
     (chk .i64 (xv5 + 1)).bind fun t17 =>
     some (.stop (.stop (rv2.1, t17)))
    else
     (chk .i64 (xv5 + 1)).bind fun t18 =>
     some (.next (t16, t18))
   else
    some (.stop (.next ()))) fuel ((0 : Int), (0 : Int))) fun _ =>
 some (rv2.1, 0)

def M.lexrepair_Merge (p1 : T_LexSpec) (p2 : (List T_Token)) : Option (List T_Token) :=
 (
  loopM (fun (st9 : (List T_Token) × (List T_Token)) => match st9 with
  | (l17, xv66) =>
   bif (decide (0 < (l17.length : Int))) then
    (idxL l17 0).bind fun e36 =>
    (
     bif (e36.Kind == (-1)) then
      (M.lexrepair_rest l17).bind fun rv45 =>
      (
       bif (decide (0 < rv45.2)) then
        (M.lexrepair_Merge_1 rv45.1 p1).bind fun rv48 =>
        some rv48
       else
        some false).bind fun (rv47 : Bool) =>
      bif rv47 then
       (subL l17 0 rv45.2).bind fun l23 =>
       loopM (fun (st9 : Int × Int) => match st9 with
       | (xv94, xv95) =>
        bif (decide (xv95 < (l23.length : Int))) then
         (idxL l23 xv95).bind fun e42 =>
         (chk .i64 (e42.At + e42.Look)).bind fun t106 =>
         (chk .i64 (t106 - e36.At)).bind fun t107 =>
         (chk .i64 (xv95 + 1)).bind fun t108 =>
         some (.next ((max2 xv94 t107), t108))
        else
         some (.stop (rv45.1, xv94, rv45.2))) fuel (e36.Look, (0 : Int))
      else
       some (e36.Text, e36.Look, (1 : Int))
     else
      some (e36.Text, e36.Look, (1 : Int))).bind fun (xv89, xv90, xv91) =>
    (appM 40 xv66 [(T_Token.mk e36.Kind e36.At xv89 xv90)]).bind fun y6 =>
    (subL l17 xv91 (l17.length : Int)).bind fun l24 =>
    some (.next (l24, y6))
   else
    some (.stop xv66)) fuel (p2, ([] : (List T_Token)))).bind fun (xv49 : (List T_Token)) =>
 some xv49

def M.lexrepair_Distance (p1 : Str) (p2 : Str) : Option Int :=
 (
  (chk .i64 ((p2.length : Int) + 1)).bind fun t2 =>
  (mkM 8 t2 (0 : Int)).bind fun l3 =>
  some l3).bind fun (l2 : (List Int)) =>
 (
  loopM (fun (st9 : (List Int) × Int) => match st9 with
  | (l9, xv5) =>
   bif (decide (xv5 < (l2.length : Int))) then
    (setL l9 xv5 xv5).bind fun y6 =>
    (chk .i64 (xv5 + 1)).bind fun t8 =>
    some (.next (y6, t8))
   else
    some (.stop l9)) fuel (l2, (0 : Int))).bind fun (l7 : (List Int)) =>
 (
  loopM (fun (st9 : (List Int) × (List Int) × (List Int) × Int) => match st9 with
  | (l32, l33, l34, xv123) =>
   bif (decide (xv123 ≤ (p1.length : Int))) then
    (
     (setL l32 0 xv123).bind fun y300 =>
     loopM (fun (st9 : (List Int) × Int) => match st9 with
     | (y307, xv155) =>
      bif (decide (xv155 ≤ (p2.length : Int))) then
       (
        (chk .i64 (xv155 - 1)).bind fun t1535 =>
        (idxL l34 t1535).bind fun e476 =>
        (
         (chk .i64 (xv123 - 1)).bind fun t1539 =>
         (idxS p1 t1539).bind fun c1143 =>
         (idxS p2 t1535).bind fun c1144 =>
         bif (c1143 != c1144) then
          (chk .i64 (e476 + 1)).bind fun t1540 =>
          some t1540
         else
          some e476).bind fun (t1538 : Int) =>
        (idxL l34 xv155).bind fun e477 =>
        (chk .i64 (e477 + 1)).bind fun t1541 =>
        (idxL y307 t1535).bind fun e478 =>
        (chk .i64 (e478 + 1)).bind fun t1542 =>
        (setL y307 xv155 (min3 t1538 t1541 t1542)).bind fun y317 =>
        (
         bif (decide (1 < xv123)) then
          bif (decide (1 < xv155)) then
           (chk .i64 (xv123 - 1)).bind fun t1546 =>
           (idxS p1 t1546).bind fun c1149 =>
           (chk .i64 (xv155 - 2)).bind fun t1547 =>
           (idxS p2 t1547).bind fun c1150 =>
           bif (c1149 == c1150) then
            (chk .i64 (xv123 - 2)).bind fun t1548 =>
            (idxS p1 t1548).bind fun c1151 =>
            (idxS p2 t1535).bind fun c1152 =>
            some (c1151 == c1152)
           else
            some false
          else
           some false
         else
          some false).bind fun (xv160 : Bool) =>
        bif xv160 then
         (idxL y317 xv155).bind fun e479 =>
         (chk .i64 (xv155 - 2)).bind fun t1549 =>
         (idxL l33 t1549).bind fun e480 =>
         (chk .i64 (e480 + 1)).bind fun t1550 =>
         (setL y317 xv155 (min2 e479 t1550)).bind fun y318 =>
         some y318
        else
         some y317).bind fun (y316 : (List Int)) =>
       (chk .i64 (xv155 + 1)).bind fun t1551 =>
       some (.next (y316, t1551))
      else
       some (.stop y307)) fuel (y300, (1 : Int))).bind fun (y299 : (List Int)) =>
    (chk .i64 (xv123 + 1)).bind fun t1552 =>
    some (.next (l33, l34, y299, t1552))
   else
    some (.stop l34)) fuel (l2, l2, l7, (1 : Int))).bind fun (l24 : (List Int)) =>
 (idxL l24 (p2.length : Int)).bind fun e481 =>
 some e481

def M.lexrepair_Confusions (p1 : T_LexSpec) (p2 : T_Token) : Option (List T_Confusion) :=
 (
  bif (decide (0 ≤ p2.Kind)) then
   bif (decide (p2.Kind < (p1.Defs.length : Int))) then
    (idxL p1.Defs p2.Kind).bind fun e2 =>
    some (e2.Kind == 1)
   else
    some false
  else
   some false).bind fun (xv1 : Bool) =>
 (
  loopM (fun (st9 : (List T_Confusion) × Int) => match st9 with
  | (xv27, xv28) =>
   bif (decide (xv28 < (p1.Defs.length : Int))) then
    (
     (idxL p1.Defs xv28).bind fun e14 =>
     bif (p2.Kind == (-1)) then
      (M.lexrepair_closable p1 e14 p2.Text).bind fun rv23 =>
      bif rv23 then
       (appM 16 xv27 [(T_Confusion.mk xv28 p1.Unclosed)]).bind fun y29 =>
       some y29
      else
       some xv27
     else
      (
       bif xv1 then
        bif (decide (0 < p1.Misspelling)) then
         some (e14.Kind == 3)
        else
         some false
       else
        some false).bind fun (xv37 : Bool) =>
      bif xv37 then
       (M.lexrepair_Distance p2.Text e14.Sample).bind fun rv24 =>
       (
        bif (decide (1 ≤ rv24)) then
         some (decide (rv24 ≤ 2))
        else
         some false).bind fun (xv38 : Bool) =>
       bif xv38 then
        (chk .i64 (p1.Misspelling * rv24)).bind fun t17 =>
        (appM 16 xv27 [(T_Confusion.mk xv28 t17)]).bind fun y30 =>
        some y30
       else
        some xv27
      else
       some xv27).bind fun (y28 : (List T_Confusion)) =>
    (chk .i64 (xv28 + 1)).bind fun t18 =>
    some (.next (y28, t18))
   else
    some (.stop xv27)) fuel (([] : (List T_Confusion)), (0 : Int))).bind fun (xv20 : (List T_Confusion)) =>
 some xv20

def M.ref11_Small : Option T_LexSpec :=
 some (T_LexSpec.mk [(T_TokenDef.mk [105, 102] 3 [105, 102] [105, 102] []), (T_TokenDef.mk [119, 111, 114, 100] 1 [91, 97, 45, 122, 93, 43] [120] []), (T_TokenDef.mk [115, 112, 97, 99, 101] 2 [32, 43] [32] []), (T_TokenDef.mk [116, 101, 120, 116] 1 [39, 91, 94, 39, 92, 110, 93, 42, 39] [39, 39] [39])] false 4 6)

def M.law14_example : Option (List T_Token) :=
 some [(T_Token.mk 1 0 [120] 2), (T_Token.mk 2 1 [32] 2), (T_Token.mk (-1) 2 [39] 6), (T_Token.mk 1 3 [97, 98] 3), (T_Token.mk 2 5 [32] 2), (T_Token.mk 1 6 [99] 2)]

def M.ref14_Same (a1 : (List T_Confusion)) (b1 : (List T_Confusion)) : Option Bool :=
 bif ((a1.length : Int) != (b1.length : Int)) then
  some false
 else
  bindStep (
   loopM (fun (i5 : Int) =>
    bif (decide (i5 < (a1.length : Int))) then
     (idxL a1 i5).bind fun e11 =>
     (idxL b1 i5).bind fun e12 =>
     bif (!((e11.Kind == e12.Kind) && ((e11.Price == e12.Price) && true))) then
      some (.stop (.stop false))
     else
      (chk .i64 (i5 + 1)).bind fun t6 =>
      some (.next t6)
    else
     some (.stop (.next ()))) fuel (0 : Int)) fun _ =>
  some true

def M.law14_awake : Option Bool :=
 (M.ref11_Small).bind fun rv1 =>
 (M.law14_example).bind fun rv2 =>
 (M.lexrepair_Merge rv1 rv2).bind fun l1 =>
 (
  bif ((l1.length : Int) != 3) then
   some true
  else
   (idxL l1 2).bind fun e2 =>
   some (!((e2.Kind == (-1)) && ((e2.At == 2) && ((e2.Text == [39, 97, 98, 32, 99]) && ((e2.Look == 6) && true)))))).bind fun (xv1 : Bool) =>
 bif xv1 then
  some false
 else
  (
   (M.lexrepair_Distance [104, 119, 105, 108, 101] [119, 104, 105, 108, 101]).bind fun rv12 =>
   bif (rv12 == 1) then
    (M.lexrepair_Distance [99, 97] [97, 98, 99]).bind fun rv13 =>
    bif (rv13 == 3) then
     (M.ref11_Small).bind fun rv14 =>
     (idxL l1 2).bind fun e4 =>
     (M.lexrepair_Confusions rv14 e4).bind fun rv15 =>
     (M.ref14_Same rv15 [(T_Confusion.mk 3 6)]).bind fun rv16 =>
     bif rv16 then
      (M.ref11_Small).bind fun rv17 =>
      (M.lexrepair_Confusions rv17 (T_Token.mk 1 0 [102, 105] 0)).bind fun rv18 =>
      (M.ref14_Same rv18 [(T_Confusion.mk 0 4)]).bind fun rv19 =>
      some rv19
     else
      some false
    else
     some false
   else
    some false).bind fun (rv11 : Bool) =>
  some rv11

def M.ref14_Distance (p1 : Str) (p2 : Str) : Option Int :=
 (chk .i64 ((p1.length : Int) + 1)).bind fun t1 =>
 (mkM 24 t1 ([] : List Int)).bind fun l1 =>
 (
  loopM (fun (st9 : (List (List Int)) × Int) => match st9 with
  | (l15, xv173) =>
   bif (decide (xv173 ≤ (p1.length : Int))) then
    (
     (chk .i64 ((p2.length : Int) + 1)).bind fun t1125 =>
     (mkM 8 t1125 (0 : Int)).bind fun l20 =>
     (setL l15 xv173 l20).bind fun y480 =>
     loopM (fun (st9 : (List (List Int)) × Int) => match st9 with
     | (y495, xv245) =>
      bif (decide (xv245 ≤ (p2.length : Int))) then
       (
        (
         bif (xv173 == 0) then
          some true
         else
          some (xv245 == 0)).bind fun (xv256 : Bool) =>
        bif xv256 then
         (idxL y495 xv173).bind fun e711 =>
         (chk .i64 (xv173 + xv245)).bind fun t1213 =>
         (setL e711 xv245 t1213).bind fun y517 =>
         (setL y495 xv173 y517).bind fun y518 =>
         some y518
        else
         (
          (chk .i64 (xv173 - 1)).bind fun t1216 =>
          (idxS p1 t1216).bind fun c855 =>
          (chk .i64 (xv245 - 1)).bind fun t1217 =>
          (idxS p2 t1217).bind fun c856 =>
          bif (c855 == c856) then
           some (0 : Int)
          else
           some (1 : Int)).bind fun (xv257 : Int) =>
         (idxL y495 xv173).bind fun e712 =>
         (chk .i64 (xv173 - 1)).bind fun t1218 =>
         (idxL y495 t1218).bind fun e713 =>
         (idxL e713 xv245).bind fun e714 =>
         (chk .i64 (e714 + 1)).bind fun t1219 =>
         (chk .i64 (xv245 - 1)).bind fun t1220 =>
         (idxL e712 t1220).bind fun e715 =>
         (chk .i64 (e715 + 1)).bind fun t1221 =>
         (idxL e713 t1220).bind fun e716 =>
         (chk .i64 (e716 + xv257)).bind fun t1222 =>
         (setL e712 xv245 (min3 t1219 t1221 t1222)).bind fun y519 =>
         (setL y495 xv173 y519).bind fun y520 =>
         (
          bif (decide (1 < xv173)) then
           bif (decide (1 < xv245)) then
            (idxS p1 t1218).bind fun c861 =>
            (chk .i64 (xv245 - 2)).bind fun t1225 =>
            (idxS p2 t1225).bind fun c862 =>
            bif (c861 == c862) then
             (chk .i64 (xv173 - 2)).bind fun t1226 =>
             (idxS p1 t1226).bind fun c863 =>
             (idxS p2 t1220).bind fun c864 =>
             some (c863 == c864)
            else
             some false
           else
            some false
          else
           some false).bind fun (xv258 : Bool) =>
         bif xv258 then
          (idxL y520 xv173).bind fun e717 =>
          (idxL e717 xv245).bind fun e718 =>
          (chk .i64 (xv173 - 2)).bind fun t1227 =>
          (idxL y520 t1227).bind fun e719 =>
          (chk .i64 (xv245 - 2)).bind fun t1228 =>
          (idxL e719 t1228).bind fun e720 =>
          (chk .i64 (e720 + 1)).bind fun t1229 =>
          (setL e717 xv245 (min2 e718 t1229)).bind fun y521 =>
          (setL y520 xv173 y521).bind fun y522 =>
          some y522
         else
          some y520).bind fun (y516 : (List (List Int))) =>
       (chk .i64 (xv245 + 1)).bind fun t1230 =>
       some (.next (y516, t1230))
      else
       some (.stop y495)) fuel (y480, (0 : Int))).bind fun (y479 : (List (List Int))) =>
    (chk .i64 (xv173 + 1)).bind fun t1231 =>
    some (.next (y479, t1231))
   else
    some (.stop l15)) fuel (l1, (0 : Int))).bind fun (l11 : (List (List Int))) =>
 (idxL l11 (p1.length : Int)).bind fun e721 =>
 (idxL e721 (p2.length : Int)).bind fun e722 =>
 some e722

def M.law14_LexrepairDistance (a1 : Str) (b1 : Str) : Option Bool :=
 (
  bif (decide (30 < (a1.length : Int))) then
   some true
  else
   some (decide (30 < (b1.length : Int)))).bind fun (xv1 : Bool) =>
 bif xv1 then
  (M.law14_awake).bind fun rv1 =>
  some rv1
 else
  (
   (M.law14_awake).bind fun rv5 =>
   bif rv5 then
    (M.lexrepair_Distance a1 b1).bind fun rv6 =>
    (M.ref14_Distance a1 b1).bind fun rv7 =>
    some (rv6 == rv7)
   else
    some false).bind fun (xv2 : Bool) =>
  some xv2

def M.law14_LexrepairDistanceBounds (a1 : Str) (b1 : Str) : Option Bool :=
 (
  bif (decide (30 < (a1.length : Int))) then
   some true
  else
   some (decide (30 < (b1.length : Int)))).bind fun (xv1 : Bool) =>
 bif xv1 then
  (M.law14_awake).bind fun rv1 =>
  some rv1
 else
  (M.lexrepair_Distance a1 b1).bind fun d1 =>
  (
   (M.law14_awake).bind fun rv4 =>
   bif rv4 then
    (M.lexrepair_Distance b1 a1).bind fun rv5 =>
    bif (d1 == rv5) then
     bif ((d1 == 0) == (a1 == b1)) then
      (chk .i64 ((a1.length : Int) - (b1.length : Int))).bind fun t3 =>
      bif (decide (t3 ≤ d1)) then
       (chk .i64 ((b1.length : Int) - (a1.length : Int))).bind fun t4 =>
       bif (decide (t4 ≤ d1)) then
        some (decide (d1 ≤ (max2 (a1.length : Int) (b1.length : Int))))
       else
        some false
      else
       some false
     else
      some false
    else
     some false
   else
    some false).bind fun (xv2 : Bool) =>
  some xv2

def M.law14_LexrepairSingleEdit (p1 : Str) (p2 : Int) (p3 : Int) : Option Bool :=
 (
  bif (decide ((p1.length : Int) < 2)) then
   some true
  else
   some (decide (30 < (p1.length : Int)))).bind fun (xv1 : Bool) =>
 bif xv1 then
  (M.law14_awake).bind fun rv1 =>
  some rv1
 else
  (chk .i64 ((p1.length : Int) - 1)).bind fun t1 =>
  (remM (IntKind.i64.wrap p2) t1).bind fun t2 =>
  (subL p1 0 t2).bind fun s1 =>
  (catS s1 (toStr [p3])).bind fun s2 =>
  (subL p1 t2 (p1.length : Int)).bind fun s3 =>
  (catS s2 s3).bind fun s4 =>
  (chk .i64 (t2 + 1)).bind fun t3 =>
  (subL p1 t3 (p1.length : Int)).bind fun s5 =>
  (catS s1 s5).bind fun s6 =>
  (chk .i64 (t2 + 2)).bind fun t4 =>
  (subL p1 t3 t4).bind fun s7 =>
  (catS s1 s7).bind fun s8 =>
  (subL p1 t2 t3).bind fun s9 =>
  (catS s8 s9).bind fun s10 =>
  (subL p1 t4 (p1.length : Int)).bind fun s11 =>
  (catS s10 s11).bind fun s12 =>
  (catS s2 s5).bind fun s13 =>
  (
   (M.law14_awake).bind fun rv8 =>
   bif rv8 then
    (M.lexrepair_Distance p1 s4).bind fun rv9 =>
    bif (rv9 == 1) then
     (M.lexrepair_Distance p1 s6).bind fun rv10 =>
     bif (rv10 == 1) then
      (M.lexrepair_Distance p1 s12).bind fun rv11 =>
      bif (decide (rv11 ≤ 1)) then
       (M.lexrepair_Distance p1 s13).bind fun rv12 =>
       bif (decide (rv12 ≤ 1)) then
        (idxS p1 t2).bind fun c2 =>
        (M.lexrepair_Distance p1 s13).bind fun rv13 =>
        some ((rv13 == 0) == (p3 == c2))
       else
        some false
      else
       some false
     else
      some false
    else
     some false
   else
    some false).bind fun (xv2 : Bool) =>
  some xv2

end Go.Proofs.Ytjdmfabmacdpgaa
