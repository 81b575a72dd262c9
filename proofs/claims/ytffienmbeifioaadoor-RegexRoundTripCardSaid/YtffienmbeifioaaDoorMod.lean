/- The plain models of the functions, printed by a program of my own from the translation. -/
import Derived.Test.YtffienmbeifioaaDoorLxFn
import Derived.Test.YtffienmbeifioaaDoorLxRange
import Derived.Test.YtffienmbeifioaaDoorLxRec
import Derived.Test.YtffienmbeifioaaDoorLxRecover
import Derived.Test.YtffienmbeifioaaDoorShelf
set_option linter.unusedVariables false
set_option linter.unusedSimpArgs false
namespace Go.Proofs.YtffienmbeifioaaDoor
open Go.Lx Go.RowKit
structure T_Regex where
  Kind : Int
  Set : (Vec 4)
  Kids : (List T_Regex)

instance : Inhabited T_Regex := ⟨⟨default, Vec.zero 4, []⟩⟩

structure T_regex_reader where
  s : Str
  atv : Int

instance : DecidableEq T_regex_reader := fun a b => if h : a.s = b.s ∧ a.atv = b.atv then isTrue (by cases a; cases b; simp_all) else isFalse (by intro e; subst e; simp at h)

structure T_ref08_parser where
  s : Str
  atv : Int
  bad : Bool

instance : DecidableEq T_ref08_parser := fun a b => if h : a.s = b.s ∧ a.atv = b.atv ∧ a.bad = b.bad then isTrue (by cases a; cases b; simp_all) else isFalse (by intro e; subst e; simp at h)
def tT_RegexF (τ : Ty T_Regex) : Ty T_Regex := ⟨6, fun g cs x => ∃ c0 c1 c2, cs = c0 ++ (c1 ++ (c2)) ∧ (tInt .i64).rel g c0 x.Kind ∧ (tVec 4 .u64).rel g c1 x.Set ∧ (tSl τ).rel g c2 x.Kids,
  fun hg ⟨c0, c1, c2, e, h0, h1, h2⟩ => ⟨c0, c1, c2, e, (tInt .i64).mono hg h0, (tVec 4 .u64).mono hg h1, (tSl τ).mono hg h2⟩,
  fun ⟨_, _, _, e, h0, h1, h2⟩ => by rw [e]; simp [(tInt .i64).len h0, (tVec 4 .u64).len h1, (tSl τ).len h2, tInt, tSl, tVec],
  fun ⟨_, _, _, e, h0, h1, h2⟩ v hv => by
    subst e; simp only [List.mem_append] at hv; rcases hv with hv | hv | hv
    · exact (tInt .i64).one h0 v hv
    · exact (tVec 4 .u64).one h1 v hv
    · exact (tSl τ).one h2 v hv⟩

def tT_RegexR : TyFun T_Regex := ⟨6, tT_RegexF, fun _ => rfl, fun ha hb h _ _ hh => by obtain ⟨c0, c1, c2, e, h0, h1, h2⟩ := hh; exact ⟨c0, c1, c2, e, h0, h1, tSl_imp (ha.trans hb.symm) h h2⟩⟩
def tT_Regex : Ty T_Regex := ⟨6, fun g cs x => ∃ n, (tT_RegexR.iter n).rel g cs x, fun hg h => tT_RegexR.fix_mono hg h, fun h => tT_RegexR.fix_len h, fun h => tT_RegexR.fix_one h⟩
theorem tT_Regex_iff {g : Hp} {cs : List Value} {x : T_Regex} : tT_Regex.rel g cs x ↔ (tT_RegexF tT_Regex).rel g cs x := by
  constructor
  · rintro ⟨n, h⟩
    cases n with
    | zero => exact h.elim
    | succ n => exact tT_RegexR.mono (τ := tT_RegexR.iter n) (τ' := tT_Regex) (tT_RegexR.iter_sz n) rfl (fun _ _ h => ⟨n, h⟩) _ _ h
  · rintro ⟨c0, c1, c2, e, h0, h1, h2⟩
    obtain ⟨n2, h2⟩ := tT_RegexR.sup (fix := tT_Regex) (fun _ _ _ h => h) rfl h2
    exact ⟨n2 + 1, c0, c1, c2, e, h0, h1, tT_RegexR.leSl (Nat.le_refl _) h2⟩

def tT_regex_reader : Ty T_regex_reader := ⟨2, fun g cs x => ∃ c0 c1, cs = c0 ++ (c1) ∧ tStr.rel g c0 x.s ∧ (tInt .i64).rel g c1 x.atv,
  fun hg ⟨c0, c1, e, h0, h1⟩ => ⟨c0, c1, e, tStr.mono hg h0, (tInt .i64).mono hg h1⟩,
  fun ⟨_, _, e, h0, h1⟩ => by rw [e]; simp [tStr.len h0, (tInt .i64).len h1, tInt, tStr],
  fun ⟨_, _, e, h0, h1⟩ v hv => by
    subst e; simp only [List.mem_append] at hv; rcases hv with hv | hv
    · exact tStr.one h0 v hv
    · exact (tInt .i64).one h1 v hv⟩

def tT_ref08_parser : Ty T_ref08_parser := ⟨3, fun g cs x => ∃ c0 c1 c2, cs = c0 ++ (c1 ++ (c2)) ∧ tStr.rel g c0 x.s ∧ (tInt .i64).rel g c1 x.atv ∧ tBool.rel g c2 x.bad,
  fun hg ⟨c0, c1, c2, e, h0, h1, h2⟩ => ⟨c0, c1, c2, e, tStr.mono hg h0, (tInt .i64).mono hg h1, tBool.mono hg h2⟩,
  fun ⟨_, _, _, e, h0, h1, h2⟩ => by rw [e]; simp [tStr.len h0, (tInt .i64).len h1, tBool.len h2, tBool, tInt, tStr],
  fun ⟨_, _, _, e, h0, h1, h2⟩ v hv => by
    subst e; simp only [List.mem_append] at hv; rcases hv with hv | hv | hv
    · exact tStr.one h0 v hv
    · exact (tInt .i64).one h1 v hv
    · exact tBool.one h2 v hv⟩
def M.deBruijn : Vec 64 := ⟨[0, 1, 56, 2, 57, 49, 28, 3, 61, 58, 42, 50, 38, 29, 17, 4, 62, 47, 59, 36, 45, 43, 51, 22, 53, 39, 33, 30, 24, 18, 12, 5, 63, 55, 48, 27, 60, 41, 37, 16, 46, 35, 44, 21, 52, 32, 23, 11, 54, 26, 40, 15, 34, 20, 31, 10, 25, 14, 19, 9, 13, 8, 7, 6], rfl⟩

def M.strings_IndexByte (s : Str) (c : Int) : Option Int := some (Lib.indexByte s c.toNat.toUInt8)

def M.strings_Join (l : List Str) (sep : Str) : Option Str := if l.length ≤ 140737488355328 ∧ (Lib.join l sep).length ≤ 140737488355328 then some (Lib.join l sep) else none

def M.byteset_Of (s1 : Str) : Option (Vec 4) :=
 (
  loopM (fun (st9 : (Vec 4) × Int) => match st9 with
  | (xv14, xv15) =>
   bif (decide (xv15 < (s1.length : Int))) then
    (idxS s1 xv15).bind fun c11 =>
    (quoM .u8 c11 64).bind fun t21 =>
    (vget xv14 t21).bind fun c12 =>
    (remM c11 64).bind fun t22 =>
    (shlM .u64 1 t22).bind fun t23 =>
    (vset xv14 t21 (bits .or .u64 c12 t23)).bind fun xv19 =>
    (chk .i64 (xv15 + 1)).bind fun t24 =>
    some (.next (xv19, t24))
   else
    some (.stop xv14)) fuel ((Vec.zero 4), (0 : Int))).bind fun (xv10 : (Vec 4)) =>
 some xv10

def M.byteset_Range (lo1 : Int) (hiv1 : Int) : Option (Vec 4) :=
 (
  loopM (fun (st9 : (Vec 4) × Int) => match st9 with
  | (xv10, b7) =>
   bif (decide (b7 ≤ (IntKind.i64.wrap hiv1))) then
    (quoM .i64 b7 64).bind fun t21 =>
    (vget xv10 t21).bind fun c6 =>
    (remM b7 64).bind fun t22 =>
    (shlM .u64 1 t22).bind fun t23 =>
    (vset xv10 t21 (bits .or .u64 c6 t23)).bind fun xv13 =>
    (chk .i64 (b7 + 1)).bind fun t24 =>
    some (.next (xv13, t24))
   else
    some (.stop xv10)) fuel ((Vec.zero 4), (IntKind.i64.wrap lo1))).bind fun (xv7 : (Vec 4)) =>
 some xv7

def M.byteset_Has (s1 : (Vec 4)) (b1 : Int) : Option Bool :=
 (quoM .u8 b1 64).bind fun t1 =>
 (vget s1 t1).bind fun c1 =>
 (remM b1 64).bind fun t2 =>
 (shrM .u64 c1 t2).bind fun t3 =>
 some ((bits .and .u64 t3 1) == 1)

def M.byteset_Union (a1 : (Vec 4)) (b1 : (Vec 4)) : Option (Vec 4) :=
 (
  loopM (fun (st9 : (Vec 4) × Int) => match st9 with
  | (a11, xv5) =>
   bif (decide (xv5 < 4)) then
    (vget a11 xv5).bind fun c11 =>
    (vget b1 xv5).bind fun c12 =>
    (vset a11 xv5 (bits .or .u64 c11 c12)).bind fun a14 =>
    (chk .i64 (xv5 + 1)).bind fun t6 =>
    some (.next (a14, t6))
   else
    some (.stop a11)) fuel (a1, (0 : Int))).bind fun (a8 : (Vec 4)) =>
 some a8

def M.byteset_Complement (s1 : (Vec 4)) : Option (Vec 4) :=
 (
  loopM (fun (st9 : (Vec 4) × Int) => match st9 with
  | (s11, xv5) =>
   bif (decide (xv5 < 4)) then
    (vget s11 xv5).bind fun c6 =>
    (vset s11 xv5 (complM .u64 c6)).bind fun s14 =>
    (chk .i64 (xv5 + 1)).bind fun t6 =>
    some (.next (s14, t6))
   else
    some (.stop s11)) fuel (s1, (0 : Int))).bind fun (s8 : (Vec 4)) =>
 some s8

def M.math_bits_TrailingZeros64 (xv1 : Int) : Option Int :=
 bif (xv1 == 0) then
  some 64
 else
  (shrM .u64 (IntKind.u64.wrap ((bits .and .u64 xv1 (IntKind.u64.wrap (-xv1))) * 285870213051353865)) 58).bind fun t1 =>
  (vget M.deBruijn t1).bind fun c1 =>
  some (IntKind.i64.wrap c1)

def M.byteset_All_1 {σ : Type} (yield1 : Int → σ → Option (Bool × σ)) (c1 : (Vec 4)) (s0 : σ) : Option σ :=
 loopM (fun (st9 : Int × σ) => match st9 with
 | (xv2, s9) =>
  bif (decide (xv2 < 4)) then
   bindStep (
    (vget c1 xv2).bind fun c7 =>
    loopM (fun (st9 : Int × σ) => match st9 with
    | (wv49, s23) =>
     bif (wv49 != 0) then
      (chk .i64 (64 * xv2)).bind fun t37 =>
      (M.math_bits_TrailingZeros64 wv49).bind fun rv18 =>
      (chk .i64 (t37 + rv18)).bind fun t38 =>
      (yield1 (IntKind.u8.wrap t38) s23).bind fun y18 =>
      bif (!y18.1) then
       some (.stop (.stop (.stop y18.2)))
      else
       some (.next ((bits .and .u64 wv49 (IntKind.u64.wrap (wv49 - 1))), y18.2))
     else
      some (.stop (.next s23))) fuel (c7, s9)) fun (s21 : σ) =>
   (chk .i64 (xv2 + 1)).bind fun t39 =>
   some (.next (t39, s21))
  else
   some (.stop s9)) fuel ((0 : Int), s0)

def M.byteset_All (s1 : (Vec 4)) : Option Unit :=
 some ()

def M.regex_valid : Nat → T_Regex → Int → Option Bool
| 0, _, _ => none
| fl + 1, rv1, depth1 =>
 (
  bif (depth1 == 0) then
   some true
  else
   some ((rv1.Kind == 3) == (rv1.Set == (Vec.zero 4)))).bind fun (xv1 : Bool) =>
 bif xv1 then
  some false
 else
  bindStep (
   (
    bif (rv1.Kind == 1) then
     some (rv1.Kind == 1)
    else
     bif (rv1.Kind == 2) then
      some (rv1.Kind == 2)
     else
      some (rv1.Kind == 3)).bind fun (xv4 : Bool) =>
   bif xv4 then
    some (.next ((0 : Int), (0 : Int)))
   else
    (
     bif (rv1.Kind == 4) then
      some (rv1.Kind == 4)
     else
      some (rv1.Kind == 5)).bind fun (xv5 : Bool) =>
    bif xv5 then
     some (.next ((2 : Int), (rv1.Kids.length : Int)))
    else
     bif (rv1.Kind == 6) then
      some (.next ((1 : Int), (1 : Int)))
     else
      some (.stop false)) fun (least1, most1) =>
  (
   bif (decide ((rv1.Kids.length : Int) < least1)) then
    some true
   else
    some (decide (most1 < (rv1.Kids.length : Int)))).bind fun (xv6 : Bool) =>
  bif xv6 then
   some false
  else
   bindStep (
    loopM (fun (xv11 : Int) =>
     bif (decide (xv11 < (rv1.Kids.length : Int))) then
      (idxL rv1.Kids xv11).bind fun e6 =>
      (chk .i64 (depth1 - 1)).bind fun t11 =>
      (M.regex_valid fl e6 t11).bind fun rv7 =>
      bif (!rv7) then
       some (.stop (.stop false))
      else
       (chk .i64 (xv11 + 1)).bind fun t12 =>
       some (.next t12)
     else
      some (.stop (.next ()))) fuel (0 : Int)) fun _ =>
   some true

def M.regex_Valid (rv1 : T_Regex) : Option Bool :=
 (M.regex_valid fuel rv1 30).bind fun rv2 =>
 some rv2

def M.regex_Nullable : Nat → T_Regex → Option Bool
| 0, _ => none
| fl + 1, rv1 =>
 bindStep (
  (
   bif (rv1.Kind == 2) then
    some (rv1.Kind == 2)
   else
    some (rv1.Kind == 6)).bind fun (xv11 : Bool) =>
  bif xv11 then
   some (.stop true)
  else
   bif (rv1.Kind == 4) then
    bindStep (
     loopM (fun (xv16 : Int) =>
      bif (decide (xv16 < (rv1.Kids.length : Int))) then
       (idxL rv1.Kids xv16).bind fun e15 =>
       (M.regex_Nullable fl e15).bind fun rv16 =>
       bif (!rv16) then
        some (.stop (.stop (.stop false)))
       else
        (chk .i64 (xv16 + 1)).bind fun t15 =>
        some (.next t15)
      else
       some (.stop (.next ()))) fuel (0 : Int)) fun _ =>
    some (.stop true)
   else
    bif (rv1.Kind == 5) then
     loopM (fun (xv19 : Int) =>
      bif (decide (xv19 < (rv1.Kids.length : Int))) then
       (idxL rv1.Kids xv19).bind fun e18 =>
       (M.regex_Nullable fl e18).bind fun rv19 =>
       bif rv19 then
        some (.stop (.stop true))
       else
        (chk .i64 (xv19 + 1)).bind fun t18 =>
        some (.next t18)
      else
       some (.stop (.next ()))) fuel (0 : Int)
    else
     some (.next ())) fun _ =>
 some false

def M.regex_equal : Nat → T_Regex → T_Regex → Option Bool
| 0, _, _ => none
| fl + 1, a1, b1 =>
 (
  bif (a1.Kind != b1.Kind) then
   some true
  else
   bif (a1.Set != b1.Set) then
    some true
   else
    some ((a1.Kids.length : Int) != (b1.Kids.length : Int))).bind fun (xv1 : Bool) =>
 bif xv1 then
  some false
 else
  bindStep (
   loopM (fun (xv6 : Int) =>
    bif (decide (xv6 < (a1.Kids.length : Int))) then
     (idxL a1.Kids xv6).bind fun e11 =>
     (idxL b1.Kids xv6).bind fun e12 =>
     (M.regex_equal fl e11 e12).bind fun rv6 =>
     bif (!rv6) then
      some (.stop (.stop false))
     else
      (chk .i64 (xv6 + 1)).bind fun t6 =>
      some (.next t6)
    else
     some (.stop (.next ()))) fuel (0 : Int)) fun _ =>
  some true

def M.regex_union (l1 : (List T_Regex)) : Option T_Regex :=
 (
  loopM (fun (st9 : (List T_Regex) × Int) => match st9 with
  | (xv374, xv375) =>
   bif (decide (xv375 < (l1.length : Int))) then
    (
     (idxL l1 xv375).bind fun e474 =>
     (
      bif (e474.Kind == 5) then
       some e474.Kids
      else
       some ([e474] : (List T_Regex))).bind fun (more24 : (List T_Regex)) =>
     loopM (fun (st9 : (List T_Regex) × Int) => match st9 with
     | (xv530, xv531) =>
      bif (decide (xv531 < (more24.length : Int))) then
       (
        (idxL more24 xv531).bind fun e510 =>
        bif (e510.Kind == 1) then
         some xv530
        else
         bindStep (
          loopM (fun (xv558 : Int) =>
           bif (decide (xv558 < (xv530.length : Int))) then
            (idxL xv530 xv558).bind fun e516 =>
            (M.regex_equal fuel e516 e510).bind fun rv432 =>
            bif rv432 then
             some (.stop (.stop xv530))
            else
             (chk .i64 (xv558 + 1)).bind fun t472 =>
             some (.next t472)
           else
            some (.stop (.next ()))) fuel (0 : Int)) fun _ =>
         (appM 64 xv530 [e510]).bind fun kids64 =>
         some kids64).bind fun (xv553 : (List T_Regex)) =>
       (chk .i64 (xv531 + 1)).bind fun t473 =>
       some (.next (xv553, t473))
      else
       some (.stop xv530)) fuel (xv374, (0 : Int))).bind fun (xv514 : (List T_Regex)) =>
    (chk .i64 (xv375 + 1)).bind fun t474 =>
    some (.next (xv514, t474))
   else
    some (.stop xv374)) fuel (([] : (List T_Regex)), (0 : Int))).bind fun (xv280 : (List T_Regex)) =>
 bif ((xv280.length : Int) == 0) then
  some (T_Regex.mk 1 (Vec.zero 4) [])
 else
  bif ((xv280.length : Int) == 1) then
   (idxL xv280 0).bind fun e517 =>
   some e517
  else
   some (T_Regex.mk 5 (Vec.zero 4) xv280)

def M.regex_concat (l1 : (List T_Regex)) : Option T_Regex :=
 bindStep (
  loopM (fun (st9 : (List T_Regex) × Int) => match st9 with
  | (xv10, xv11) =>
   bif (decide (xv11 < (l1.length : Int))) then
    bindStep (
     (idxL l1 xv11).bind fun e12 =>
     bif (e12.Kind == 1) then
      some (.stop (.stop (.stop e12)))
     else
      bif (e12.Kind != 2) then
       (appM 64 xv10 [e12]).bind fun kids12 =>
       some (.next kids12)
      else
       some (.next xv10)) fun (kids11 : (List T_Regex)) =>
    (chk .i64 (xv11 + 1)).bind fun t6 =>
    some (.next (kids11, t6))
   else
    some (.stop (.next xv10))) fuel (([] : (List T_Regex)), (0 : Int))) fun (xv7 : (List T_Regex)) =>
 bif ((xv7.length : Int) == 0) then
  some (T_Regex.mk 2 (Vec.zero 4) [])
 else
  bif ((xv7.length : Int) == 1) then
   (idxL xv7 0).bind fun e13 =>
   some e13
  else
   some (T_Regex.mk 4 (Vec.zero 4) xv7)

def M.regex_Derive : Nat → T_Regex → Int → Option T_Regex
| 0, _, _ => none
| fl + 1, p1, p2 =>
 bindStep (
  bif (p1.Kind == 3) then
   (M.byteset_Has p1.Set p2).bind fun rv30 =>
   bif rv30 then
    some (.stop (T_Regex.mk 2 (Vec.zero 4) []))
   else
    some (.next ())
  else
   bif (p1.Kind == 4) then
    (
     loopM (fun (st9 : (List T_Regex) × Int) => match st9 with
     | (xv34, xv35) =>
      bif (decide (xv35 < (p1.Kids.length : Int))) then
       (idxL p1.Kids xv35).bind fun e19 =>
       (chk .i64 (xv35 + 1)).bind fun t18 =>
       (subL p1.Kids t18 (p1.Kids.length : Int)).bind fun l12 =>
       (M.regex_Derive fl e19 p2).bind fun rv46 =>
       (appM 64 [rv46] l12).bind fun y31 =>
       (M.regex_concat y31).bind fun rv47 =>
       (appM 64 xv34 [rv47]).bind fun y32 =>
       (M.regex_Nullable fuel e19).bind fun rv48 =>
       bif (!rv48) then
        some (.stop y32)
       else
        some (.next (y32, t18))
      else
       some (.stop xv34)) fuel (([] : (List T_Regex)), (0 : Int))).bind fun (y26 : (List T_Regex)) =>
    (M.regex_union y26).bind fun rv49 =>
    some (.stop rv49)
   else
    bif (p1.Kind == 5) then
     (
      loopM (fun (st9 : (List T_Regex) × Int) => match st9 with
      | (xv47, xv48) =>
       bif (decide (xv48 < (p1.Kids.length : Int))) then
        (idxL p1.Kids xv48).bind fun e25 =>
        (M.regex_Derive fl e25 p2).bind fun rv55 =>
        (appM 64 xv47 [rv55]).bind fun y38 =>
        (chk .i64 (xv48 + 1)).bind fun t24 =>
        some (.next (y38, t24))
       else
        some (.stop xv47)) fuel (([] : (List T_Regex)), (0 : Int))).bind fun (xv44 : (List T_Regex)) =>
     (M.regex_union xv44).bind fun rv56 =>
     some (.stop rv56)
    else
     bif (p1.Kind == 6) then
      (idxL p1.Kids 0).bind fun e26 =>
      (M.regex_Derive fl e26 p2).bind fun rv57 =>
      (M.regex_concat [rv57, p1]).bind fun rv58 =>
      some (.stop rv58)
     else
      some (.next ())) fun _ =>
 some (T_Regex.mk 1 (Vec.zero 4) [])

def M.regex_Match (rv1 : T_Regex) (s1 : Str) : Option Bool :=
 (
  loopM (fun (st9 : Int × (Vec 4) × (List T_Regex) × Int) => match st9 with
  | (rv21, rv22, rv23, xv5) =>
   bif (decide (xv5 < (s1.length : Int))) then
    (idxS s1 xv5).bind fun c6 =>
    (M.regex_Derive fuel (T_Regex.mk rv21 rv22 rv23) c6).bind fun rv28 =>
    (chk .i64 (xv5 + 1)).bind fun t6 =>
    some (.next (rv28.Kind, rv28.Set, rv28.Kids, t6))
   else
    some (.stop (rv21, rv22, rv23))) fuel (rv1.Kind, rv1.Set, rv1.Kids, (0 : Int))).bind fun (rv14, rv15, rv16) =>
 (M.regex_Nullable fuel (T_Regex.mk rv14 rv15 rv16)).bind fun rv29 =>
 some rv29

def M.regex_dot : Option (Vec 4) :=
 (M.byteset_Of [10]).bind fun rv1 =>
 (M.byteset_Complement rv1).bind fun rv2 =>
 some rv2

def M.regex_reader_peek (p1 : T_regex_reader) : Option Int :=
 bif (decide (p1.atv < (p1.s.length : Int))) then
  (idxS p1.s p1.atv).bind fun c1 =>
  some c1
 else
  some 0

def M.regex_reader_fail (p1 : T_regex_reader) : Option (Rt (Unit)) :=
 some (.pan p1.atv)

def M.regex_reader_expect (p1 : T_regex_reader) (b2 : Int) : Option (Rt (T_regex_reader)) :=
 bindStep (
  (
   bif (p1.atv == (p1.s.length : Int)) then
    some true
   else
    (idxS p1.s p1.atv).bind fun c4 =>
    some (c4 != b2)).bind fun (xv2 : Bool) =>
  bif xv2 then
   (M.regex_reader_fail p1).bind fun y9 => y9.on (fun rv2 =>
    some (.next ())) (fun px2 => some (.stop (.pan px2)))
  else
   some (.next ())) fun _ =>
 (chk .i64 (p1.atv + 1)).bind fun t1 =>
 some (.ret (T_regex_reader.mk p1.s t1))

def M.regex_group (kind1 : Int) (l1 : (List T_Regex)) : Option T_Regex :=
 bif ((l1.length : Int) == 1) then
  (idxL l1 0).bind fun e1 =>
  some e1
 else
  some (T_Regex.mk kind1 (Vec.zero 4) l1)

def M.regex_alphanumeric (b1 : Int) : Option Bool :=
 (
  bif (decide (48 ≤ b1)) then
   bif (decide (b1 ≤ 57)) then
    some true
   else
    bif (decide (97 ≤ b1)) then
     bif (decide (b1 ≤ 122)) then
      some true
     else
      bif (decide (65 ≤ b1)) then
       some (decide (b1 ≤ 90))
      else
       some false
    else
     bif (decide (65 ≤ b1)) then
      some (decide (b1 ≤ 90))
     else
      some false
  else
   bif (decide (97 ≤ b1)) then
    bif (decide (b1 ≤ 122)) then
     some true
    else
     bif (decide (65 ≤ b1)) then
      some (decide (b1 ≤ 90))
     else
      some false
   else
    bif (decide (65 ≤ b1)) then
     some (decide (b1 ≤ 90))
    else
     some false).bind fun (xv1 : Bool) =>
 some xv1

def M.regex_reader_escape (p1 : T_regex_reader) : Option (Rt (Int × T_regex_reader)) :=
 bindStep (
  bif (p1.atv == (p1.s.length : Int)) then
   (M.regex_reader_fail p1).bind fun y9 => y9.on (fun rv2 =>
    some (.next ())) (fun px2 => some (.stop (.pan px2)))
  else
   some (.next ())) fun _ =>
 (idxS p1.s p1.atv).bind fun c1 =>
 bindStep (
  bif (c1 == 110) then
   some (.next (10 : Int))
  else
   bif (c1 == 116) then
    some (.next (9 : Int))
   else
    (
     bif (decide (c1 < 32)) then
      some true
     else
      bif (decide (126 < c1)) then
       some true
      else
       (M.regex_alphanumeric c1).bind fun rv7 =>
       some rv7).bind fun (xv2 : Bool) =>
    bif xv2 then
     (M.regex_reader_fail p1).bind fun y9 => y9.on (fun rv8 =>
      some (.next c1)) (fun px4 => some (.stop (.pan px4)))
    else
     some (.next c1)) fun (b2 : Int) =>
 (chk .i64 (p1.atv + 1)).bind fun t1 =>
 some (.ret (b2, (T_regex_reader.mk p1.s t1)))

def M.regex_reader_char (p1 : T_regex_reader) (not1 : Str) : Option (Rt (Int × T_regex_reader)) :=
 bindStep (
  bif (p1.atv == (p1.s.length : Int)) then
   (M.regex_reader_fail p1).bind fun y9 => y9.on (fun rv2 =>
    some (.next ())) (fun px2 => some (.stop (.pan px2)))
  else
   some (.next ())) fun _ =>
 (idxS p1.s p1.atv).bind fun c1 =>
 bif (c1 == 92) then
  (chk .i64 (p1.atv + 1)).bind fun t1 =>
  (M.regex_reader_escape (T_regex_reader.mk p1.s t1)).bind fun y9 => y9.on (fun rv3 =>
   some (.ret (rv3.1, rv3.2))) (fun px3 => some (.pan px3))
 else
  bindStep (
   (
    bif (decide (c1 < 32)) then
     some true
    else
     bif (decide (126 < c1)) then
      some true
     else
      (M.strings_IndexByte not1 c1).bind fun rv8 =>
      some (decide (0 ≤ rv8))).bind fun (xv2 : Bool) =>
   bif xv2 then
    (M.regex_reader_fail p1).bind fun y9 => y9.on (fun rv9 =>
     some (.next ())) (fun px5 => some (.stop (.pan px5)))
   else
    some (.next ())) fun _ =>
  (chk .i64 (p1.atv + 1)).bind fun t2 =>
  some (.ret (c1, (T_regex_reader.mk p1.s t2)))

def M.regex_reader_element (p1 : T_regex_reader) : Option (Rt ((Vec 4) × T_regex_reader)) :=
 (M.regex_reader_char p1 [93, 92, 45]).bind fun y9 => y9.on (fun lo1 =>
  bindStep (
   (M.regex_reader_peek lo1.2).bind fun rv3 =>
   bif (rv3 == 45) then
    (chk .i64 (lo1.2.atv + 1)).bind fun t2 =>
    (M.regex_reader_char (T_regex_reader.mk lo1.2.s t2) [93, 92, 45]).bind fun y9 => y9.on (fun hiv5 =>
     bif (decide (hiv5.1 < lo1.1)) then
      (M.regex_reader_fail (T_regex_reader.mk hiv5.2.s t2)).bind fun y9 => y9.on (fun rv4 =>
       some (.next (hiv5.1, hiv5.2.s, t2))) (fun px5 => some (.stop (.pan px5)))
     else
      some (.next (hiv5.1, hiv5.2.s, hiv5.2.atv))) (fun px4 => some (.stop (.pan px4)))
   else
    some (.next (lo1.1, lo1.2.s, lo1.2.atv))) fun (hiv2, hiv3, hiv4) =>
  (M.byteset_Range lo1.1 hiv2).bind fun rv5 =>
  some (.ret (rv5, (T_regex_reader.mk hiv3 hiv4)))) (fun px1 => some (.pan px1))

def M.regex_reader_bracket (p1 : T_regex_reader) : Option (Rt ((Vec 4) × T_regex_reader)) :=
 (M.regex_reader_expect p1 91).bind fun y9 => y9.on (fun rv1 =>
  (M.regex_reader_peek rv1).bind fun rv2 =>
  (
   bif (rv2 == 94) then
    (chk .i64 (rv1.atv + 1)).bind fun t2 =>
    some t2
   else
    some rv1.atv).bind fun (p2 : Int) =>
  (M.regex_reader_element (T_regex_reader.mk rv1.s p2)).bind fun y9 => y9.on (fun rv3 =>
   bindStep (
    loopM (fun (st9 : Str × Int × (Vec 4)) => match st9 with
    | (p13, p14, setv6) =>
     (M.regex_reader_peek (T_regex_reader.mk p13 p14)).bind fun rv19 =>
     bif (rv19 != 93) then
      (M.regex_reader_element (T_regex_reader.mk p13 p14)).bind fun y9 => y9.on (fun rv20 =>
       (M.byteset_Union setv6 rv20.1).bind fun rv21 =>
       some (.next (rv20.2.s, rv20.2.atv, rv21))) (fun px8 => some (.stop (.stop (.pan px8))))
     else
      some (.stop (.next (p13, p14, setv6)))) fuel (rv3.2.s, rv3.2.atv, rv3.1)) fun (p9, p10, setv4) =>
   (chk .i64 (p10 + 1)).bind fun t3 =>
   bif (rv2 == 94) then
    (M.byteset_Complement setv4).bind fun rv22 =>
    some (.ret (rv22, (T_regex_reader.mk p9 t3)))
   else
    some (.ret (setv4, (T_regex_reader.mk p9 t3)))) (fun px2 => some (.pan px2))) (fun px1 => some (.pan px1))

mutual
def M.regex_reader_atom : Nat → T_regex_reader → Option (Rt (T_Regex × T_regex_reader))
| 0, _ => none
| fl + 1, p1 =>
 (M.regex_reader_peek p1).bind fun rv1 =>
 bif (rv1 == 40) then
  (chk .i64 (p1.atv + 1)).bind fun t1 =>
  (M.regex_reader_regex fl (T_regex_reader.mk p1.s t1)).bind fun y9 => y9.on (fun rv2 =>
   (M.regex_reader_expect rv2.2 41).bind fun y9 => y9.on (fun rv3 =>
    some (.ret (rv2.1, rv3))) (fun px2 => some (.pan px2))) (fun px1 => some (.pan px1))
 else
  bif (rv1 == 91) then
   (M.regex_reader_bracket p1).bind fun y9 => y9.on (fun rv4 =>
    some (.ret ((T_Regex.mk 3 rv4.1 []), rv4.2))) (fun px3 => some (.pan px3))
  else
   bif (rv1 == 46) then
    (chk .i64 (p1.atv + 1)).bind fun t2 =>
    (M.regex_dot).bind fun rv5 =>
    some (.ret ((T_Regex.mk 3 rv5 []), (T_regex_reader.mk p1.s t2)))
   else
    (M.regex_reader_char p1 [40, 41, 91, 93, 124, 42, 43, 63, 46, 92]).bind fun y9 => y9.on (fun b4 =>
     (M.byteset_Range b4.1 b4.1).bind fun rv6 =>
     some (.ret ((T_Regex.mk 3 rv6 []), b4.2))) (fun px4 => some (.pan px4))

def M.regex_reader_repeat : Nat → T_regex_reader → Option (Rt (T_Regex × T_regex_reader))
| 0, _ => none
| fl + 1, p1 =>
 (M.regex_reader_atom fl p1).bind fun y9 => y9.on (fun rv1 =>
  loopM (fun (st9 : Int × Int × (Vec 4) × (List T_Regex)) => match st9 with
  | (p3, rv8, rv9, rv10) =>
   bindStep (
    (M.regex_reader_peek (T_regex_reader.mk rv1.2.s p3)).bind fun rv19 =>
    bif (rv19 == 42) then
     some (.next ((6 : Int), ([(T_Regex.mk rv8 rv9 rv10)] : (List T_Regex))))
    else
     bif (rv19 == 43) then
      some (.next ((4 : Int), ([(T_Regex.mk rv8 rv9 rv10), (T_Regex.mk 6 (Vec.zero 4) [(T_Regex.mk rv8 rv9 rv10)])] : (List T_Regex))))
     else
      bif (rv19 == 63) then
       some (.next ((5 : Int), ([(T_Regex.mk rv8 rv9 rv10), (T_Regex.mk 2 (Vec.zero 4) [])] : (List T_Regex))))
      else
       some (.stop (.stop (.ret ((T_Regex.mk rv8 rv9 rv10), (T_regex_reader.mk rv1.2.s p3)))))) fun (rv18, xv3) =>
   (chk .i64 (p3 + 1)).bind fun t3 =>
   some (.next (t3, rv18, (Vec.zero 4), xv3))) fuel (rv1.2.atv, rv1.1.Kind, rv1.1.Set, rv1.1.Kids)) (fun px1 => some (.pan px1))

def M.regex_reader_branch : Nat → T_regex_reader → Option (Rt (T_Regex × T_regex_reader))
| 0, _ => none
| fl + 1, p1 =>
 bindStep (
  loopM (fun (st9 : Str × Int × (List T_Regex)) => match st9 with
  | (p10, p11, xv10) =>
   (
    bif (decide (p11 < (p10.length : Int))) then
     (idxS p10 p11).bind fun c12 =>
     bif (c12 != 124) then
      some (c12 != 41)
     else
      some false
    else
     some false).bind fun (xv13 : Bool) =>
   bif xv13 then
    (M.regex_reader_repeat fl (T_regex_reader.mk p10 p11)).bind fun y9 => y9.on (fun rv6 =>
     (appM 64 xv10 [rv6.1]).bind fun l6 =>
     some (.next (rv6.2.s, rv6.2.atv, l6))) (fun px6 => some (.stop (.stop (.pan px6))))
   else
    some (.stop (.next (xv10, p10, p11)))) fuel (p1.s, p1.atv, ([] : (List T_Regex)))) fun (xv7, l3, l4) =>
 bif ((xv7.length : Int) == 0) then
  some (.ret ((T_Regex.mk 2 (Vec.zero 4) []), (T_regex_reader.mk l3 l4)))
 else
  (M.regex_group 4 xv7).bind fun rv7 =>
  some (.ret (rv7, (T_regex_reader.mk l3 l4)))

def M.regex_reader_regex : Nat → T_regex_reader → Option (Rt (T_Regex × T_regex_reader))
| 0, _ => none
| fl + 1, p1 =>
 (M.regex_reader_branch fl p1).bind fun y9 => y9.on (fun rv1 =>
  bindStep (
   loopM (fun (st9 : Str × Int × (List T_Regex)) => match st9 with
   | (p10, p11, xv6) =>
    (M.regex_reader_peek (T_regex_reader.mk p10 p11)).bind fun rv12 =>
    bif (rv12 == 124) then
     (chk .i64 (p11 + 1)).bind fun t6 =>
     (M.regex_reader_branch fl (T_regex_reader.mk p10 t6)).bind fun y9 => y9.on (fun rv13 =>
      (appM 64 xv6 [rv13.1]).bind fun l8 =>
      some (.next (rv13.2.s, rv13.2.atv, l8))) (fun px7 => some (.stop (.stop (.pan px7))))
    else
     some (.stop (.next (xv6, p10, p11)))) fuel (rv1.2.s, rv1.2.atv, ([rv1.1] : (List T_Regex)))) fun (xv4, l4, l5) =>
  (M.regex_group 5 xv4).bind fun rv14 =>
  some (.ret (rv14, (T_regex_reader.mk l4 l5)))) (fun px1 => some (.pan px1))
end

def M.regex_Parse_1 (x1 : Int) (c1 : T_Regex) (c2 : Int) (c3 : Int) : Option (T_Regex × Int × Int) :=
 some ((T_Regex.mk 0 (Vec.zero 4) []), x1, 3)

def M.regex_Parse (s1 : Str) : Option (T_Regex × Int × Int) :=
 (M.regex_reader_regex fuel (T_regex_reader.mk s1 0)).bind fun y9 => y9.on (fun rv1 =>
  bindStep (
   bif (decide (rv1.2.atv < (s1.length : Int))) then
    (M.regex_reader_fail rv1.2).bind fun y9 => y9.on (fun rv3 =>
     some (.next ())) (fun px3 => some (.stop ((T_Regex.mk 0 (Vec.zero 4) []), px3, 3)))
   else
    some (.next ())) fun _ =>
  (M.regex_Valid rv1.1).bind fun rv4 =>
  bif (!rv4) then
   some ((T_Regex.mk 0 (Vec.zero 4) []), 0, 11)
  else
   some (rv1.1, 0, 0)) (fun px1 => some ((T_Regex.mk 0 (Vec.zero 4) []), px1, 3))

def M.regex_writable (b1 : Int) : Option Bool :=
 (
  bif (decide (32 ≤ b1)) then
   bif (decide (b1 ≤ 126)) then
    some true
   else
    bif (b1 == 9) then
     some true
    else
     some (b1 == 10)
  else
   bif (b1 == 9) then
    some true
   else
    some (b1 == 10)).bind fun (xv1 : Bool) =>
 some xv1

def M.regex_char (b1 : Int) (escaped1 : Str) : Option Str :=
 bif (b1 == 10) then
  some [92, 110]
 else
  bif (b1 == 9) then
   some [92, 116]
  else
   (M.strings_IndexByte escaped1 b1).bind fun rv1 =>
   bif (decide (0 ≤ rv1)) then
    (catS [92] (runeS (IntKind.i32.wrap b1))).bind fun s1 =>
    some s1
   else
    some (runeS (IntKind.i32.wrap b1))

def M.regex_bytes (s1 : (Vec 4)) : Option (List Int) :=
 (
  (M.byteset_All s1).bind fun u2 =>
  (M.byteset_All_1 (goOn (fun (x : Int) (xv6 : (List Int)) =>
   (appM 1 xv6 [x]).bind fun y6 =>
   some y6)) s1 ([] : (List Int))).bind fun xv6 =>
  some xv6).bind fun (xv4 : (List Int)) =>
 some xv4

def M.regex_formatSet (p1 : (Vec 4)) : Option Str :=
 (M.regex_dot).bind fun rv1 =>
 bif (p1 == rv1) then
  some [46]
 else
  (M.regex_bytes p1).bind fun rv2 =>
  (
   bif ((rv2.length : Int) == 1) then
    (idxL rv2 0).bind fun e2 =>
    (M.regex_writable e2).bind fun rv5 =>
    some rv5
   else
    some false).bind fun (rv4 : Bool) =>
  bif rv4 then
   (idxL rv2 0).bind fun e3 =>
   (M.regex_char e3 [40, 41, 91, 93, 124, 42, 43, 63, 46, 92]).bind fun rv6 =>
   some rv6
  else
   (
    loopM (fun (xv6 : Int) =>
     bif (decide (xv6 < (rv2.length : Int))) then
      (idxL rv2 xv6).bind fun e9 =>
      (M.regex_writable e9).bind fun rv23 =>
      bif (!rv23) then
       (M.byteset_Complement p1).bind fun rv24 =>
       (M.regex_bytes rv24).bind fun rv25 =>
       some (.stop (rv25, ([91, 94] : Str)))
      else
       (chk .i64 (xv6 + 1)).bind fun t6 =>
       some (.next t6)
     else
      some (.stop (rv2, ([91] : Str)))) fuel (0 : Int)).bind fun (rv16, xv4) =>
   (
    loopM (fun (st9 : Str × Int) => match st9 with
    | (xv41, xv42) =>
     bif (decide (xv42 < (rv16.length : Int))) then
      (chk .i64 (xv42 + 1)).bind fun t147 =>
      (
       loopM (fun (t165 : Int) =>
        (
         bif (decide (t165 < (rv16.length : Int))) then
          (idxL rv16 xv42).bind fun e238 =>
          bif (decide (32 ≤ e238)) then
           (idxL rv16 t165).bind fun e239 =>
           (chk .i64 (t165 - 1)).bind fun t171 =>
           (idxL rv16 t171).bind fun e240 =>
           some (e239 == (IntKind.u8.wrap (e240 + 1)))
          else
           some false
         else
          some false).bind fun (xv56 : Bool) =>
        bif xv56 then
         (chk .i64 (t165 + 1)).bind fun t172 =>
         some (.next t172)
        else
         some (.stop t165)) fuel t147).bind fun (t160 : Int) =>
      (chk .i64 (t160 - xv42)).bind fun t173 =>
      bif (decide (3 ≤ t173)) then
       (idxL rv16 xv42).bind fun e241 =>
       (chk .i64 (t160 - 1)).bind fun t174 =>
       (idxL rv16 t174).bind fun e242 =>
       (M.regex_char e241 [93, 92, 45, 94]).bind fun rv41 =>
       (catS rv41 [45]).bind fun s21 =>
       (M.regex_char e242 [93, 92, 45, 94]).bind fun rv42 =>
       (catS s21 rv42).bind fun s22 =>
       (catS xv41 s22).bind fun s23 =>
       some (.next (s23, t160))
      else
       (idxL rv16 xv42).bind fun e243 =>
       (M.regex_char e243 [93, 92, 45, 94]).bind fun rv43 =>
       (catS xv41 rv43).bind fun s24 =>
       some (.next (s24, t147))
     else
      some (.stop xv41)) fuel (xv4, (0 : Int))).bind fun (xv32 : Str) =>
   (catS xv32 [93]).bind fun s25 =>
   some s25

mutual
def M.regex_Format_1 : Nat → T_Regex → (List Int) → Option Str
| 0, _, _ => none
| fl + 1, k1, kinds1 =>
 bindStep (
  loopM (fun (xv5 : Int) =>
   bif (decide (xv5 < (kinds1.length : Int))) then
    (idxL kinds1 xv5).bind fun e6 =>
    bif (k1.Kind == e6) then
     (M.regex_Format fl k1).bind fun rv6 =>
     (catS [40] rv6).bind fun s11 =>
     (catS s11 [41]).bind fun s12 =>
     some (.stop (.stop s12))
    else
     (chk .i64 (xv5 + 1)).bind fun t6 =>
     some (.next t6)
   else
    some (.stop (.next ()))) fuel (0 : Int)) fun _ =>
 (M.regex_Format fl k1).bind fun rv7 =>
 some rv7

def M.regex_Format : Nat → T_Regex → Option Str
| 0, _ => none
| fl + 1, rv1 =>
 bif (rv1.Kind == 3) then
  (M.regex_formatSet rv1.Set).bind fun rv2 =>
  some rv2
 else
  bif (rv1.Kind == 6) then
   (idxL rv1.Kids 0).bind fun e1 =>
   (M.regex_Format_1 fl e1 [2, 4, 5, 6]).bind fun rv3 =>
   (catS rv3 [42]).bind fun s1 =>
   some s1
  else
   bif (rv1.Kind == 4) then
    (
     loopM (fun (st9 : (List Str) × Int) => match st9 with
     | (xv10, xv11) =>
      bif (decide (xv11 < (rv1.Kids.length : Int))) then
       (idxL rv1.Kids xv11).bind fun e7 =>
       (M.regex_Format_1 fl e7 [4, 5]).bind fun rv9 =>
       (appM 16 xv10 [rv9]).bind fun l4 =>
       (chk .i64 (xv11 + 1)).bind fun t6 =>
       some (.next (l4, t6))
      else
       some (.stop xv10)) fuel (([] : (List Str)), (0 : Int))).bind fun (xv7 : (List Str)) =>
    (M.strings_Join xv7 []).bind fun rv10 =>
    some rv10
   else
    bif (rv1.Kind == 5) then
     (
      loopM (fun (st9 : (List Str) × Int) => match st9 with
      | (xv23, xv24) =>
       bif (decide (xv24 < (rv1.Kids.length : Int))) then
        (idxL rv1.Kids xv24).bind fun e13 =>
        (M.regex_Format_1 fl e13 [5]).bind fun rv16 =>
        (appM 16 xv23 [rv16]).bind fun l8 =>
        (chk .i64 (xv24 + 1)).bind fun t12 =>
        some (.next (l8, t12))
       else
        some (.stop xv23)) fuel (([] : (List Str)), (0 : Int))).bind fun (xv20 : (List Str)) =>
     (M.strings_Join xv20 [124]).bind fun rv17 =>
     some rv17
    else
     some [40, 41]
end

def M.ref08_Has (s1 : (Vec 4)) (b1 : Int) : Option Bool :=
 (quoM .i64 b1 64).bind fun t1 =>
 (vget s1 t1).bind fun c1 =>
 (remM b1 64).bind fun t2 =>
 (shrM .u64 c1 (IntKind.u64.wrap t2)).bind fun t3 =>
 some ((bits .and .u64 t3 1) == 1)

def M.ref08_With (s1 : (Vec 4)) (b1 : Int) : Option (Vec 4) :=
 (quoM .i64 b1 64).bind fun t1 =>
 (vget s1 t1).bind fun c1 =>
 (remM b1 64).bind fun t2 =>
 (shlM .u64 1 (IntKind.u64.wrap t2)).bind fun t3 =>
 (vset s1 t1 (bits .or .u64 c1 t3)).bind fun s2 =>
 some s2

def M.ref08_Not (s1 : (Vec 4)) : Option (Vec 4) :=
 (
  loopM (fun (st9 : (Vec 4) × Int) => match st9 with
  | (s11, i5) =>
   bif (decide (i5 < 4)) then
    (vget s11 i5).bind fun c6 =>
    (vset s11 i5 (complM .u64 c6)).bind fun s14 =>
    (chk .i64 (i5 + 1)).bind fun t6 =>
    some (.next (s14, t6))
   else
    some (.stop s11)) fuel (s1, (0 : Int))).bind fun (s8 : (Vec 4)) =>
 some s8

def M.ref08_Dot : Option (Vec 4) :=
 (M.ref08_With (Vec.zero 4) 10).bind fun rv1 =>
 (M.ref08_Not rv1).bind fun rv2 =>
 some rv2

def M.ref08_One (b1 : Int) : Option T_Regex :=
 (M.ref08_With (Vec.zero 4) b1).bind fun rv1 =>
 some (T_Regex.mk 3 rv1 [])

def M.ref08_valid : Nat → T_Regex → Int → Option Bool
| 0, _, _ => none
| fl + 1, rv1, above1 =>
 (
  bif (decide (30 ≤ above1)) then
   some true
  else
   bif (rv1.Kind != 3) then
    some (rv1.Set != (Vec.zero 4))
   else
    some false).bind fun (xv1 : Bool) =>
 bif xv1 then
  some false
 else
  bindStep (
   (
    bif (rv1.Kind == 1) then
     some (rv1.Kind == 1)
    else
     some (rv1.Kind == 2)).bind fun (xv5 : Bool) =>
   bif xv5 then
    some (.stop ((rv1.Kids.length : Int) == 0))
   else
    bif (rv1.Kind == 3) then
     (
      bif ((rv1.Kids.length : Int) == 0) then
       some (rv1.Set != (Vec.zero 4))
      else
       some false).bind fun (xv6 : Bool) =>
     some (.stop xv6)
    else
     (
      bif (rv1.Kind == 4) then
       some (rv1.Kind == 4)
      else
       some (rv1.Kind == 5)).bind fun (xv7 : Bool) =>
     bif xv7 then
      bif (decide ((rv1.Kids.length : Int) < 2)) then
       some (.stop false)
      else
       some (.next ())
     else
      bif (rv1.Kind == 6) then
       bif ((rv1.Kids.length : Int) != 1) then
        some (.stop false)
       else
        some (.next ())
      else
       some (.stop false)) fun _ =>
  bindStep (
   loopM (fun (i5 : Int) =>
    bif (decide (i5 < (rv1.Kids.length : Int))) then
     (idxL rv1.Kids i5).bind fun e6 =>
     (chk .i64 (above1 + 1)).bind fun t11 =>
     (M.ref08_valid fl e6 t11).bind fun rv7 =>
     bif (!rv7) then
      some (.stop (.stop false))
     else
      (chk .i64 (i5 + 1)).bind fun t12 =>
      some (.next t12)
    else
     some (.stop (.next ()))) fuel (0 : Int)) fun _ =>
  some true

def M.ref08_Valid (rv1 : T_Regex) : Option Bool :=
 (M.ref08_valid fuel rv1 0).bind fun rv2 =>
 some rv2

def M.ref08_Equal : Nat → T_Regex → T_Regex → Option Bool
| 0, _, _ => none
| fl + 1, a1, b1 =>
 (
  bif (a1.Kind != b1.Kind) then
   some true
  else
   bif (a1.Set != b1.Set) then
    some true
   else
    some ((a1.Kids.length : Int) != (b1.Kids.length : Int))).bind fun (xv1 : Bool) =>
 bif xv1 then
  some false
 else
  bindStep (
   loopM (fun (i5 : Int) =>
    bif (decide (i5 < (a1.Kids.length : Int))) then
     (idxL a1.Kids i5).bind fun e11 =>
     (idxL b1.Kids i5).bind fun e12 =>
     (M.ref08_Equal fl e11 e12).bind fun rv6 =>
     bif (!rv6) then
      some (.stop (.stop false))
     else
      (chk .i64 (i5 + 1)).bind fun t6 =>
      some (.next t6)
    else
     some (.stop (.next ()))) fuel (0 : Int)) fun _ =>
  some true

def M.ref08_ends : Nat → T_Regex → Str → (List Bool) → Option (List Bool)
| 0, _, _, _ => none
| fl + 1, p1, p2, p3 =>
 (chk .i64 ((p2.length : Int) + 1)).bind fun t1 =>
 (mkM 1 t1 (false : Bool)).bind fun l1 =>
 (
  bif (p1.Kind == 2) then
   some (copyL l1 p3)
  else
   bif (p1.Kind == 3) then
    loopM (fun (st9 : (List Bool) × Int) => match st9 with
    | (l30, xv75) =>
     bif (decide (xv75 < (p2.length : Int))) then
      (chk .i64 (xv75 + 1)).bind fun t67 =>
      (idxL p3 xv75).bind fun e111 =>
      bif e111 then
       (idxS p2 xv75).bind fun c6 =>
       (M.ref08_Has p1.Set (IntKind.i64.wrap c6)).bind fun rv18 =>
       (setL l30 t67 rv18).bind fun y65 =>
       some (.next (y65, t67))
      else
       (setL l30 t67 false).bind fun y66 =>
       some (.next (y66, t67))
     else
      some (.stop l30)) fuel (l1, (0 : Int))
   else
    bif (p1.Kind == 4) then
     loopM (fun (st9 : (List Bool) × Int) => match st9 with
     | (xv79, xv80) =>
      bif (decide (xv80 < (p1.Kids.length : Int))) then
       (idxL p1.Kids xv80).bind fun e114 =>
       (M.ref08_ends fl e114 p2 xv79).bind fun rv21 =>
       (chk .i64 (xv80 + 1)).bind fun t70 =>
       some (.next (rv21, t70))
      else
       some (.stop xv79)) fuel ((copyL l1 p3), (0 : Int))
    else
     bif (p1.Kind == 5) then
      loopM (fun (st9 : (List Bool) × Int) => match st9 with
      | (l40, xv90) =>
       bif (decide (xv90 < (p1.Kids.length : Int))) then
        (
         (idxL p1.Kids xv90).bind fun e150 =>
         (M.ref08_ends fl e150 p2 p3).bind fun rv27 =>
         loopM (fun (st9 : (List Bool) × Int) => match st9 with
         | (l54, xv102) =>
          bif (decide (xv102 < (rv27.length : Int))) then
           (idxL l54 xv102).bind fun e155 =>
           bif e155 then
            (setL l54 xv102 true).bind fun y101 =>
            (chk .i64 (xv102 + 1)).bind fun t107 =>
            some (.next (y101, t107))
           else
            (idxL rv27 xv102).bind fun e156 =>
            (setL l54 xv102 e156).bind fun y102 =>
            (chk .i64 (xv102 + 1)).bind fun t108 =>
            some (.next (y102, t108))
          else
           some (.stop l54)) fuel (l40, (0 : Int))).bind fun (l52 : (List Bool)) =>
        (chk .i64 (xv90 + 1)).bind fun t109 =>
        some (.next (l52, t109))
       else
        some (.stop l40)) fuel (l1, (0 : Int))
     else
      bif (p1.Kind == 6) then
       loopM (fun (st9 : (List Bool) × Bool) => match st9 with
       | (xv118, xv119) =>
        bif xv119 then
         (idxL p1.Kids 0).bind fun e197 =>
         (M.ref08_ends fl e197 p2 xv118).bind fun rv30 =>
         loopM (fun (st9 : (List Bool) × Bool × Int) => match st9 with
         | (xv138, xv139, xv140) =>
          bif (decide (xv140 < (rv30.length : Int))) then
           (
            bif xv139 then
             some true
            else
             (idxL rv30 xv140).bind fun e213 =>
             bif e213 then
              (idxL xv138 xv140).bind fun e214 =>
              some (!e214)
             else
              some false).bind fun (xv145 : Bool) =>
           (idxL xv138 xv140).bind fun e215 =>
           bif e215 then
            (setL xv138 xv140 true).bind fun y119 =>
            (chk .i64 (xv140 + 1)).bind fun t126 =>
            some (.next (y119, xv145, t126))
           else
            (idxL rv30 xv140).bind fun e216 =>
            (setL xv138 xv140 e216).bind fun y120 =>
            (chk .i64 (xv140 + 1)).bind fun t127 =>
            some (.next (y120, xv145, t127))
          else
           some (.stop (.next (xv138, xv139)))) fuel (xv118, false, (0 : Int))
        else
         some (.stop xv118)) fuel ((copyL l1 p3), true)
      else
       some l1).bind fun (xv73 : (List Bool)) =>
 some xv73

def M.ref08_Match (rv1 : T_Regex) (s1 : Str) : Option Bool :=
 (chk .i64 ((s1.length : Int) + 1)).bind fun t1 =>
 (mkM 1 t1 (false : Bool)).bind fun fromv1 =>
 (setL fromv1 0 true).bind fun fromv2 =>
 (M.ref08_ends fuel rv1 s1 fromv2).bind fun l1 =>
 (idxL l1 (s1.length : Int)).bind fun e1 =>
 some e1

def M.ref08_parser_next (p1 : T_ref08_parser) : Option Int :=
 bif (decide ((p1.s.length : Int) ≤ p1.atv)) then
  some (-1)
 else
  (idxS p1.s p1.atv).bind fun c1 =>
  some (IntKind.i64.wrap c1)

def M.ref08_plain (b1 : Int) (brackets1 : Bool) : Option Bool :=
 (
  bif (decide (b1 < 32)) then
   some true
  else
   some (decide (126 < b1))).bind fun (xv1 : Bool) =>
 bif xv1 then
  some false
 else
  (
   bif brackets1 then
    some ([93, 92, 45] : Str)
   else
    some ([40, 41, 91, 93, 124, 42, 43, 63, 46, 92] : Str)).bind fun (special1 : Str) =>
  bindStep (
   loopM (fun (i5 : Int) =>
    bif (decide (i5 < (special1.length : Int))) then
     (idxS special1 i5).bind fun c6 =>
     bif ((IntKind.i64.wrap c6) == b1) then
      some (.stop (.stop false))
     else
      (chk .i64 (i5 + 1)).bind fun t6 =>
      some (.next t6)
    else
     some (.stop (.next ()))) fuel (0 : Int)) fun _ =>
  some true

def M.ref08_letter (b1 : Int) : Option Bool :=
 (
  bif (decide (48 ≤ b1)) then
   bif (decide (b1 ≤ 57)) then
    some true
   else
    bif (decide (97 ≤ b1)) then
     bif (decide (b1 ≤ 122)) then
      some true
     else
      bif (decide (65 ≤ b1)) then
       some (decide (b1 ≤ 90))
      else
       some false
    else
     bif (decide (65 ≤ b1)) then
      some (decide (b1 ≤ 90))
     else
      some false
  else
   bif (decide (97 ≤ b1)) then
    bif (decide (b1 ≤ 122)) then
     some true
    else
     bif (decide (65 ≤ b1)) then
      some (decide (b1 ≤ 90))
     else
      some false
   else
    bif (decide (65 ≤ b1)) then
     some (decide (b1 ≤ 90))
    else
     some false).bind fun (xv1 : Bool) =>
 some xv1

def M.ref08_parser_char (p1 : T_ref08_parser) (p2 : Bool) : Option (Int × T_ref08_parser) :=
 (M.ref08_parser_next p1).bind fun rv1 =>
 bif (rv1 == 92) then
  (chk .i64 (p1.atv + 1)).bind fun t1 =>
  (M.ref08_parser_next (T_ref08_parser.mk p1.s t1 p1.bad)).bind fun rv2 =>
  bif (rv2 == 110) then
   (chk .i64 (t1 + 1)).bind fun t2 =>
   some (10, (T_ref08_parser.mk p1.s t2 p1.bad))
  else
   bif (rv2 == 116) then
    (chk .i64 (t1 + 1)).bind fun t3 =>
    some (9, (T_ref08_parser.mk p1.s t3 p1.bad))
   else
    (
     bif (decide (32 ≤ rv2)) then
      bif (decide (rv2 ≤ 126)) then
       (M.ref08_letter rv2).bind fun rv4 =>
       some (!rv4)
      else
       some false
     else
      some false).bind fun (xv1 : Bool) =>
    bif xv1 then
     (chk .i64 (t1 + 1)).bind fun t4 =>
     some (rv2, (T_ref08_parser.mk p1.s t4 p1.bad))
    else
     some (0, (T_ref08_parser.mk p1.s t1 true))
 else
  (M.ref08_plain rv1 p2).bind fun rv5 =>
  bif (!rv5) then
   some (0, (T_ref08_parser.mk p1.s p1.atv true))
  else
   (chk .i64 (p1.atv + 1)).bind fun t5 =>
   some (rv1, (T_ref08_parser.mk p1.s t5 p1.bad))

def M.ref08_parser_brackets (p1 : T_ref08_parser) : Option (T_Regex × T_ref08_parser) :=
 (M.ref08_parser_next p1).bind fun rv1 =>
 (
  bif (rv1 == 94) then
   (chk .i64 (p1.atv + 1)).bind fun t3 =>
   some t3
  else
   some p1.atv).bind fun (t2 : Int) =>
 (
  loopM (fun (st9 : Str × Int × Bool × (Vec 4) × Bool) => match st9 with
  | (xv88, t33, xv89, xv90, xv91) =>
   (
    bif (!xv89) then
     bif xv91 then
      some true
     else
      (M.ref08_parser_next (T_ref08_parser.mk xv88 t33 xv89)).bind fun rv59 =>
      some (rv59 != 93)
    else
     some false).bind fun (xv113 : Bool) =>
   bif xv113 then
    (M.ref08_parser_char (T_ref08_parser.mk xv88 t33 xv89) true).bind fun rv60 =>
    (
     (
      bif (!rv60.2.bad) then
       (M.ref08_parser_next rv60.2).bind fun rv65 =>
       some (rv65 == 45)
      else
       some false).bind fun (xv119 : Bool) =>
     bif xv119 then
      (chk .i64 (rv60.2.atv + 1)).bind fun t43 =>
      (M.ref08_parser_char (T_ref08_parser.mk rv60.2.s t43 rv60.2.bad) true).bind fun rv66 =>
      (
       bif (!rv66.2.bad) then
        some (decide (rv66.1 < rv60.1))
       else
        some false).bind fun (xv120 : Bool) =>
      bif xv120 then
       some (rv66.2.s, t43, true, rv66.1)
      else
       some (rv66.2.s, rv66.2.atv, rv66.2.bad, rv66.1)
     else
      some (rv60.2.s, rv60.2.atv, rv60.2.bad, rv60.1)).bind fun (xv116, t42, xv117, xv118) =>
    loopM (fun (st9 : (Vec 4) × Int) => match st9 with
    | (xv124, xv125) =>
     (
      bif (!xv117) then
       some (decide (xv125 ≤ xv118))
      else
       some false).bind fun (xv129 : Bool) =>
     bif xv129 then
      (M.ref08_With xv124 xv125).bind fun rv69 =>
      (chk .i64 (xv125 + 1)).bind fun t46 =>
      some (.next (rv69, t46))
     else
      some (.stop (.next (xv116, t42, xv117, xv124, false)))) fuel (xv90, rv60.1)
   else
    some (.stop (xv88, t33, xv89, xv90))) fuel (p1.s, t2, p1.bad, (Vec.zero 4), true)).bind fun (xv64, t25, xv65, xv66) =>
 bif xv65 then
  some ((T_Regex.mk 0 (Vec.zero 4) []), (T_ref08_parser.mk xv64 t25 xv65))
 else
  (chk .i64 (t25 + 1)).bind fun t47 =>
  (
   bif (rv1 == 94) then
    (M.ref08_Not xv66).bind fun rv71 =>
    some rv71
   else
    some xv66).bind fun (xv130 : (Vec 4)) =>
  some ((T_Regex.mk 3 xv130 []), (T_ref08_parser.mk xv64 t47 xv65))

def M.ref08_star (rv1 : T_Regex) : Option T_Regex :=
 some (T_Regex.mk 6 (Vec.zero 4) [rv1])

mutual
def M.ref08_parser_atom : Nat → T_ref08_parser → Option (T_Regex × T_ref08_parser)
| 0, _ => none
| fl + 1, p1 =>
 (M.ref08_parser_next p1).bind fun rv1 =>
 bif (rv1 == 40) then
  (chk .i64 (p1.atv + 1)).bind fun t1 =>
  (M.ref08_parser_regex fl (T_ref08_parser.mk p1.s t1 p1.bad)).bind fun rv2 =>
  bif rv2.2.bad then
   some (rv2.1, rv2.2)
  else
   (M.ref08_parser_next rv2.2).bind fun rv3 =>
   bif (rv3 != 41) then
    some (rv2.1, (T_ref08_parser.mk rv2.2.s rv2.2.atv true))
   else
    (chk .i64 (rv2.2.atv + 1)).bind fun t2 =>
    some (rv2.1, (T_ref08_parser.mk rv2.2.s t2 rv2.2.bad))
 else
  bif (rv1 == 91) then
   (chk .i64 (p1.atv + 1)).bind fun t3 =>
   (M.ref08_parser_brackets (T_ref08_parser.mk p1.s t3 p1.bad)).bind fun rv4 =>
   some (rv4.1, rv4.2)
  else
   bif (rv1 == 46) then
    (chk .i64 (p1.atv + 1)).bind fun t4 =>
    (M.ref08_Dot).bind fun rv5 =>
    some ((T_Regex.mk 3 rv5 []), (T_ref08_parser.mk p1.s t4 p1.bad))
   else
    (M.ref08_parser_char p1 false).bind fun rv6 =>
    (M.ref08_One rv6.1).bind fun rv7 =>
    some (rv7, rv6.2)

def M.ref08_parser_repeat : Nat → T_ref08_parser → Option (T_Regex × T_ref08_parser)
| 0, _ => none
| fl + 1, p1 =>
 (M.ref08_parser_atom fl p1).bind fun rv1 =>
 bindStep (
  loopM (fun (st9 : Int × Int × (Vec 4) × (List T_Regex)) => match st9 with
  | (p6, rv54, rv55, rv56) =>
   bif (!rv1.2.bad) then
    bindStep (
     (M.ref08_parser_next (T_ref08_parser.mk rv1.2.s p6 rv1.2.bad)).bind fun rv75 =>
     bif (rv75 == 42) then
      (M.ref08_star (T_Regex.mk rv54 rv55 rv56)).bind fun rv76 =>
      some (.next (rv76.Kind, rv76.Set, rv76.Kids))
     else
      bif (rv75 == 43) then
       (M.ref08_star (T_Regex.mk rv54 rv55 rv56)).bind fun rv77 =>
       some (.next ((4 : Int), (Vec.zero 4), ([(T_Regex.mk rv54 rv55 rv56), rv77] : (List T_Regex))))
      else
       bif (rv75 == 63) then
        some (.next ((5 : Int), (Vec.zero 4), ([(T_Regex.mk rv54 rv55 rv56), (T_Regex.mk 2 (Vec.zero 4) [])] : (List T_Regex))))
       else
        some (.stop (.stop (.stop ((T_Regex.mk rv54 rv55 rv56), (T_ref08_parser.mk rv1.2.s p6 rv1.2.bad)))))) fun (rv72, rv73, rv74) =>
    (chk .i64 (p6 + 1)).bind fun t6 =>
    some (.next (t6, rv72, rv73, rv74))
   else
    some (.stop (.next (rv54, rv55, rv56, p6)))) fuel (rv1.2.atv, rv1.1.Kind, rv1.1.Set, rv1.1.Kids)) fun (rv38, rv39, rv40, rv41) =>
 some ((T_Regex.mk rv38 rv39 rv40), (T_ref08_parser.mk rv1.2.s rv41 rv1.2.bad))

def M.ref08_parser_branch : Nat → T_ref08_parser → Option (T_Regex × T_ref08_parser)
| 0, _ => none
| fl + 1, p1 =>
 (
  loopM (fun (st9 : Str × Int × Bool × (List T_Regex)) => match st9 with
  | (p14, p15, p16, xv10) =>
   (
    bif (!p16) then
     (M.ref08_parser_next (T_ref08_parser.mk p14 p15 p16)).bind fun rv39 =>
     bif (rv39 != (-1)) then
      (M.ref08_parser_next (T_ref08_parser.mk p14 p15 p16)).bind fun rv40 =>
      bif (rv40 != 124) then
       (M.ref08_parser_next (T_ref08_parser.mk p14 p15 p16)).bind fun rv41 =>
       some (rv41 != 41)
      else
       some false
     else
      some false
    else
     some false).bind fun (xv13 : Bool) =>
   bif xv13 then
    (M.ref08_parser_repeat fl (T_ref08_parser.mk p14 p15 p16)).bind fun rv42 =>
    (appM 64 xv10 [rv42.1]).bind fun l7 =>
    some (.next (rv42.2.s, rv42.2.atv, rv42.2.bad, l7))
   else
    some (.stop (xv10, p14, p15, p16))) fuel (p1.s, p1.atv, p1.bad, ([] : (List T_Regex)))).bind fun (xv7, l3, l4, l5) =>
 bif ((xv7.length : Int) == 0) then
  some ((T_Regex.mk 2 (Vec.zero 4) []), (T_ref08_parser.mk l3 l4 l5))
 else
  bif ((xv7.length : Int) == 1) then
   (idxL xv7 0).bind fun e1 =>
   some (e1, (T_ref08_parser.mk l3 l4 l5))
  else
   some ((T_Regex.mk 4 (Vec.zero 4) xv7), (T_ref08_parser.mk l3 l4 l5))

def M.ref08_parser_regex : Nat → T_ref08_parser → Option (T_Regex × T_ref08_parser)
| 0, _ => none
| fl + 1, p1 =>
 (M.ref08_parser_branch fl p1).bind fun rv1 =>
 (
  loopM (fun (st9 : Str × Int × Bool × (List T_Regex)) => match st9 with
  | (p14, p15, p16, xv10) =>
   (
    bif (!p16) then
     (M.ref08_parser_next (T_ref08_parser.mk p14 p15 p16)).bind fun rv18 =>
     some (rv18 == 124)
    else
     some false).bind fun (xv13 : Bool) =>
   bif xv13 then
    (chk .i64 (p15 + 1)).bind fun t6 =>
    (M.ref08_parser_branch fl (T_ref08_parser.mk p14 t6 p16)).bind fun rv19 =>
    (appM 64 xv10 [rv19.1]).bind fun l9 =>
    some (.next (rv19.2.s, rv19.2.atv, rv19.2.bad, l9))
   else
    some (.stop (xv10, p14, p15, p16))) fuel (rv1.2.s, rv1.2.atv, rv1.2.bad, ([rv1.1] : (List T_Regex)))).bind fun (xv7, l4, l5, l6) =>
 bif ((xv7.length : Int) == 1) then
  (idxL xv7 0).bind fun e1 =>
  some (e1, (T_ref08_parser.mk l4 l5 l6))
 else
  some ((T_Regex.mk 5 (Vec.zero 4) xv7), (T_ref08_parser.mk l4 l5 l6))
end

def M.ref08_Parse (s1 : Str) : Option (T_Regex × Int × Int) :=
 (M.ref08_parser_regex fuel (T_ref08_parser.mk s1 0 false)).bind fun rv1 =>
 (
  bif rv1.2.bad then
   some true
  else
   some (decide (rv1.2.atv < (s1.length : Int)))).bind fun (xv1 : Bool) =>
 bif xv1 then
  some ((T_Regex.mk 0 (Vec.zero 4) []), rv1.2.atv, 3)
 else
  (M.ref08_Valid rv1.1).bind fun rv2 =>
  bif (!rv2) then
   some ((T_Regex.mk 0 (Vec.zero 4) []), 0, 11)
  else
   some (rv1.1, 0, 0)

def M.ref08_writable (s1 : (Vec 4)) : Option Bool :=
 bindStep (
  loopM (fun (b6 : Int) =>
   bif (decide (b6 < 256)) then
    (
     (M.ref08_Has s1 b6).bind fun rv12 =>
     bif rv12 then
      bif (decide (b6 < 32)) then
       bif (b6 != 10) then
        some (b6 != 9)
       else
        some false
      else
       bif (decide (126 < b6)) then
        bif (b6 != 10) then
         some (b6 != 9)
        else
         some false
       else
        some false
     else
      some false).bind fun (xv6 : Bool) =>
    bif xv6 then
     some (.stop (.stop false))
    else
     (chk .i64 (b6 + 1)).bind fun t6 =>
     some (.next t6)
   else
    some (.stop (.next ()))) fuel (0 : Int)) fun _ =>
 some (s1 != (Vec.zero 4))

def M.ref08_Printable : Nat → T_Regex → Option Bool
| 0, _ => none
| fl + 1, rv1 =>
 (
  bif (rv1.Kind == 1) then
   some true
  else
   bif (rv1.Kind == 3) then
    (M.ref08_writable rv1.Set).bind fun rv5 =>
    bif (!rv5) then
     (M.ref08_Not rv1.Set).bind fun rv6 =>
     (M.ref08_writable rv6).bind fun rv7 =>
     some (!rv7)
    else
     some false
   else
    some false).bind fun (xv1 : Bool) =>
 bif xv1 then
  some false
 else
  bindStep (
   loopM (fun (i5 : Int) =>
    bif (decide (i5 < (rv1.Kids.length : Int))) then
     (idxL rv1.Kids i5).bind fun e6 =>
     (M.ref08_Printable fl e6).bind fun rv13 =>
     bif (!rv13) then
      some (.stop (.stop false))
     else
      (chk .i64 (i5 + 1)).bind fun t6 =>
      some (.next t6)
    else
     some (.stop (.next ()))) fuel (0 : Int)) fun _ =>
  some true

def M.ref08_written (b1 : Int) (brackets1 : Bool) : Option Str :=
 bif (b1 == 10) then
  some [92, 110]
 else
  bif (b1 == 9) then
   some [92, 116]
  else
   (
    (M.ref08_plain b1 brackets1).bind fun rv2 =>
    bif (!rv2) then
     some true
    else
     bif brackets1 then
      some (b1 == 94)
     else
      some false).bind fun (xv1 : Bool) =>
   bif xv1 then
    (catS [92] (toStr [(IntKind.u8.wrap b1)])).bind fun s1 =>
    some s1
   else
    some (toStr [(IntKind.u8.wrap b1)])

def M.ref08_elements (s1 : (Vec 4)) : Option Str :=
 (
  loopM (fun (st9 : Str × Int) => match st9 with
  | (out10, b10) =>
   bif (decide (b10 < 256)) then
    (
     (M.ref08_Has s1 b10).bind fun rv243 =>
     bif (!rv243) then
      some (out10, b10)
     else
      (
       loopM (fun (last83 : Int) =>
        (
         bif (decide (32 ≤ b10)) then
          bif (decide (last83 < 126)) then
           (chk .i64 (last83 + 1)).bind fun t231 =>
           (M.ref08_Has s1 t231).bind fun rv261 =>
           some rv261
          else
           some false
         else
          some false).bind fun (rv260 : Bool) =>
        bif rv260 then
         (chk .i64 (last83 + 1)).bind fun t232 =>
         some (.next t232)
        else
         some (.stop last83)) fuel b10).bind fun (last81 : Int) =>
      (chk .i64 (last81 - b10)).bind fun t233 =>
      bif (decide (2 ≤ t233)) then
       (M.ref08_written b10 true).bind fun rv262 =>
       (catS out10 rv262).bind fun s46 =>
       (catS s46 [45]).bind fun s47 =>
       (M.ref08_written last81 true).bind fun rv263 =>
       (catS s47 rv263).bind fun s48 =>
       some (s48, last81)
      else
       (M.ref08_written b10 true).bind fun rv264 =>
       (catS out10 rv264).bind fun s49 =>
       some (s49, b10)).bind fun (out13, b13) =>
    (chk .i64 (b13 + 1)).bind fun t234 =>
    some (.next (out13, t234))
   else
    some (.stop out10)) fuel (([] : Str), (0 : Int))).bind fun (out7 : Str) =>
 some out7

def M.ref08_set (s1 : (Vec 4)) : Option Str :=
 (M.ref08_Dot).bind fun rv1 =>
 bif (s1 == rv1) then
  some [46]
 else
  (
   loopM (fun (st9 : Int × Int × Int) => match st9 with
   | (nv16, only10, b10) =>
    bif (decide (b10 < 256)) then
     (
      (M.ref08_Has s1 b10).bind fun rv17 =>
      bif rv17 then
       (chk .i64 (nv16 + 1)).bind fun t23 =>
       some (t23, b10)
      else
       some (nv16, only10)).bind fun (nv19, only13) =>
     (chk .i64 (b10 + 1)).bind fun t24 =>
     some (.next (nv19, only13, t24))
    else
     some (.stop (nv16, only10))) fuel ((0 : Int), (0 : Int), (0 : Int))).bind fun (nv10, only7) =>
  (
   bif (nv10 == 1) then
    (M.ref08_writable s1).bind fun rv20 =>
    some rv20
   else
    some false).bind fun (rv19 : Bool) =>
  bif rv19 then
   (M.ref08_written only7 false).bind fun rv21 =>
   some rv21
  else
   (M.ref08_writable s1).bind fun rv22 =>
   bif rv22 then
    (M.ref08_elements s1).bind fun rv23 =>
    (catS [91] rv23).bind fun s2 =>
    (catS s2 [93]).bind fun s3 =>
    some s3
   else
    (M.ref08_Not s1).bind fun rv24 =>
    (M.ref08_elements rv24).bind fun rv25 =>
    (catS [91, 94] rv25).bind fun s4 =>
    (catS s4 [93]).bind fun s5 =>
    some s5

mutual
def M.ref08_group : Nat → T_Regex → Bool → Option Str
| 0, _, _ => none
| fl + 1, rv1, required1 =>
 bif required1 then
  (M.ref08_Format fl rv1).bind fun rv2 =>
  (catS [40] rv2).bind fun s1 =>
  (catS s1 [41]).bind fun s2 =>
  some s2
 else
  (M.ref08_Format fl rv1).bind fun rv3 =>
  some rv3

def M.ref08_Format : Nat → T_Regex → Option Str
| 0, _ => none
| fl + 1, p1 =>
 bif (p1.Kind == 2) then
  some [40, 41]
 else
  bif (p1.Kind == 3) then
   (M.ref08_set p1.Set).bind fun rv1 =>
   some rv1
  else
   bif (p1.Kind == 6) then
    (idxL p1.Kids 0).bind fun e1 =>
    (M.ref08_group fl e1 (e1.Kind != 3)).bind fun rv2 =>
    (catS rv2 [42]).bind fun s1 =>
    some s1
   else
    (
     loopM (fun (st9 : Str × Int) => match st9 with
     | (xv10, xv11) =>
      bif (decide (xv11 < (p1.Kids.length : Int))) then
       (
        (idxL p1.Kids xv11).bind fun e13 =>
        bif (p1.Kind == 5) then
         (
          bif (decide (0 < xv11)) then
           (catS xv10 [124]).bind fun s76 =>
           some s76
          else
           some xv10).bind fun (s75 : Str) =>
         (M.ref08_group fl e13 (e13.Kind == 5)).bind fun rv36 =>
         (catS s75 rv36).bind fun s77 =>
         some s77
        else
         bif (e13.Kind == 5) then
          (M.ref08_group fl e13 true).bind fun rv37 =>
          (catS xv10 rv37).bind fun s78 =>
          some s78
         else
          (M.ref08_group fl e13 (e13.Kind == 4)).bind fun rv38 =>
          (catS xv10 rv38).bind fun s79 =>
          some s79).bind fun (s73 : Str) =>
       (chk .i64 (xv11 + 1)).bind fun t6 =>
       some (.next (s73, t6))
      else
       some (.stop xv10)) fuel (([] : Str), (0 : Int))).bind fun (xv7 : Str) =>
    some xv7
end

def M.ref08_shallow : Nat → T_Regex → Int → Int → Option Int
| 0, _, _, _ => none
| fl + 1, rv1, level1, left1 =>
 (
  bif (decide (50 < level1)) then
   some true
  else
   some (decide (left1 ≤ 0))).bind fun (xv1 : Bool) =>
 bif xv1 then
  some (-1)
 else
  (chk .i64 (left1 - 1)).bind fun t1 =>
  (
   loopM (fun (st9 : Int × Int) => match st9 with
   | (left11, i5) =>
    (
     bif (decide (i5 < (rv1.Kids.length : Int))) then
      some (decide (0 ≤ left11))
     else
      some false).bind fun (xv7 : Bool) =>
    bif xv7 then
     (idxL rv1.Kids i5).bind fun e6 =>
     (chk .i64 (level1 + 1)).bind fun t12 =>
     (M.ref08_shallow fl e6 t12 left11).bind fun left14 =>
     (chk .i64 (i5 + 1)).bind fun t13 =>
     some (.next (left14, t13))
    else
     some (.stop left11)) fuel (t1, (0 : Int))).bind fun (left8 : Int) =>
  some left8

def M.ref08_Depth : Nat → T_Regex → Option Int
| 0, _ => none
| fl + 1, rv1 =>
 (
  loopM (fun (st9 : Int × Int) => match st9 with
  | (nv6, i5) =>
   bif (decide (i5 < (rv1.Kids.length : Int))) then
    (idxL rv1.Kids i5).bind fun e6 =>
    (M.ref08_Depth fl e6).bind fun rv7 =>
    (chk .i64 (i5 + 1)).bind fun t6 =>
    some (.next ((max2 nv6 rv7), t6))
   else
    some (.stop nv6)) fuel ((0 : Int), (0 : Int))).bind fun (nv4 : Int) =>
 (chk .i64 (nv4 + 1)).bind fun t7 =>
 some t7

def M.ref08_Few (rv1 : T_Regex) (most1 : Int) : Option Bool :=
 (chk .i64 (most1 + 1)).bind fun t1 =>
 (M.ref08_shallow fuel rv1 0 t1).bind fun rv2 =>
 some (decide (0 ≤ rv2))

def M.law08_awake : Option Bool :=
 (M.regex_Parse [97, 40, 98, 124, 99, 41, 42]).bind fun rv1 =>
 (M.regex_Parse [97, 43]).bind fun rv2 =>
 (M.regex_Parse [91, 97, 45, 99, 120, 93, 63]).bind fun rv3 =>
 (M.regex_Parse [97, 41]).bind fun rv4 =>
 (M.regex_Parse [91, 97]).bind fun rv5 =>
 (
  bif (rv1.2.2 != 0) then
   some true
  else
   bif (rv2.2.2 != 0) then
    some true
   else
    bif (rv3.2.2 != 0) then
     some true
    else
     bif (rv4.2.2 != 3) then
      some true
     else
      bif (rv4.2.1 != 1) then
       some true
      else
       bif (rv5.2.2 != 3) then
        some true
       else
        some (rv5.2.1 != 2)).bind fun (xv1 : Bool) =>
 bif xv1 then
  some false
 else
  (
   bif (rv1.1.Kind == 4) then
    bif ((rv1.1.Kids.length : Int) == 2) then
     (M.regex_Match rv1.1 [97, 98, 99, 98]).bind fun rv16 =>
     bif rv16 then
      (M.regex_Match rv1.1 [98, 97]).bind fun rv17 =>
      bif (!rv17) then
       (M.regex_Format fuel rv2.1).bind fun rv18 =>
       bif (rv18 == [97, 97, 42]) then
        (M.regex_Format fuel rv3.1).bind fun rv19 =>
        bif (rv19 == [91, 97, 45, 99, 120, 93, 124, 40, 41]) then
         (M.regex_Valid rv1.1).bind fun rv20 =>
         bif rv20 then
          (M.regex_Nullable fuel rv1.1).bind fun rv21 =>
          bif (!rv21) then
           (M.regex_Derive fuel rv1.1 97).bind fun rv22 =>
           (M.regex_Match rv22 [99, 98]).bind fun rv23 =>
           bif rv23 then
            (M.regex_Derive fuel rv1.1 98).bind fun rv24 =>
            (M.regex_Match rv24 []).bind fun rv25 =>
            some (!rv25)
           else
            some false
          else
           some false
         else
          some false
        else
         some false
       else
        some false
      else
       some false
     else
      some false
    else
     some false
   else
    some false).bind fun (xv2 : Bool) =>
  some xv2

def M.law08_small (rv1 : T_Regex) (most1 : Int) : Option Bool :=
 (
  (M.ref08_Few rv1 most1).bind fun rv5 =>
  bif rv5 then
   (M.ref08_Valid rv1).bind fun rv6 =>
   bif rv6 then
    (M.ref08_Depth fuel rv1).bind fun rv7 =>
    some (decide (rv7 ≤ 8))
   else
    some false
  else
   some false).bind fun (xv1 : Bool) =>
 some xv1

def M.law08_RegexValid (rv1 : T_Regex) : Option Bool :=
 (M.ref08_Few rv1 100).bind fun rv2 =>
 bif (!rv2) then
  (M.law08_awake).bind fun rv3 =>
  some rv3
 else
  (
   (M.law08_awake).bind fun rv7 =>
   bif rv7 then
    (M.regex_Valid rv1).bind fun rv8 =>
    (M.ref08_Valid rv1).bind fun rv9 =>
    some (rv8 == rv9)
   else
    some false).bind fun (xv1 : Bool) =>
  some xv1

def M.law08_RegexParse (s1 : Str) : Option Bool :=
 bif (decide (120 < (s1.length : Int))) then
  (M.law08_awake).bind fun rv1 =>
  some rv1
 else
  (M.regex_Parse s1).bind fun rv2 =>
  (M.ref08_Parse s1).bind fun rv3 =>
  (
   (M.law08_awake).bind fun rv7 =>
   bif rv7 then
    bif (rv2.2.2 == rv3.2.2) then
     bif (rv2.2.1 == rv3.2.1) then
      (M.ref08_Equal fuel rv2.1 rv3.1).bind fun rv8 =>
      some rv8
     else
      some false
    else
     some false
   else
    some false).bind fun (rv6 : Bool) =>
  some rv6

def M.law08_RegexFormat (rv1 : T_Regex) : Option Bool :=
 (
  (M.law08_small rv1 60).bind fun rv4 =>
  bif (!rv4) then
   some true
  else
   (M.ref08_Printable fuel rv1).bind fun rv5 =>
   some (!rv5)).bind fun (xv1 : Bool) =>
 bif xv1 then
  (M.law08_awake).bind fun rv6 =>
  some rv6
 else
  (
   (M.law08_awake).bind fun rv10 =>
   bif rv10 then
    (M.regex_Format fuel rv1).bind fun rv11 =>
    (M.ref08_Format fuel rv1).bind fun rv12 =>
    some (rv11 == rv12)
   else
    some false).bind fun (xv2 : Bool) =>
  some xv2

def M.law08_RegexRoundTrip (rv1 : T_Regex) (s1 : Str) : Option Bool :=
 (
  (M.law08_small rv1 40).bind fun rv4 =>
  bif (!rv4) then
   some true
  else
   (M.ref08_Printable fuel rv1).bind fun rv5 =>
   bif (!rv5) then
    some true
   else
    some (decide (12 < (s1.length : Int)))).bind fun (xv1 : Bool) =>
 bif xv1 then
  (M.law08_awake).bind fun rv6 =>
  some rv6
 else
  (M.regex_Format fuel rv1).bind fun t1 =>
  (M.regex_Parse t1).bind fun rv7 =>
  bif (rv7.2.2 == 11) then
   (M.law08_awake).bind fun rv8 =>
   some rv8
  else
   (
    (M.law08_awake).bind fun rv13 =>
    bif rv13 then
     bif (rv7.2.2 == 0) then
      (M.regex_Format fuel rv7.1).bind fun rv14 =>
      bif (rv14 == t1) then
       (M.regex_Match rv7.1 s1).bind fun rv15 =>
       (M.regex_Match rv1 s1).bind fun rv16 =>
       some (rv15 == rv16)
      else
       some false
     else
      some false
    else
     some false).bind fun (xv2 : Bool) =>
   some xv2

def M.law08_RegexMatch (rv1 : T_Regex) (s1 : Str) : Option Bool :=
 (
  (M.law08_small rv1 40).bind fun rv3 =>
  bif (!rv3) then
   some true
  else
   some (decide (12 < (s1.length : Int)))).bind fun (xv1 : Bool) =>
 bif xv1 then
  (M.law08_awake).bind fun rv4 =>
  some rv4
 else
  (
   (M.law08_awake).bind fun rv10 =>
   bif rv10 then
    (M.regex_Match rv1 s1).bind fun rv11 =>
    (M.ref08_Match rv1 s1).bind fun rv12 =>
    bif (rv11 == rv12) then
     (M.regex_Nullable fuel rv1).bind fun rv13 =>
     (M.ref08_Match rv1 []).bind fun rv14 =>
     some (rv13 == rv14)
    else
     some false
   else
    some false).bind fun (xv2 : Bool) =>
  some xv2

def M.law08_RegexDerive (rv1 : T_Regex) (b1 : Int) (s1 : Str) : Option Bool :=
 (
  (M.law08_small rv1 25).bind fun rv3 =>
  bif (!rv3) then
   some true
  else
   some (decide (8 < (s1.length : Int)))).bind fun (xv1 : Bool) =>
 bif xv1 then
  (M.law08_awake).bind fun rv4 =>
  some rv4
 else
  (M.regex_Derive fuel rv1 b1).bind fun rv5 =>
  (
   (M.law08_awake).bind fun rv11 =>
   bif rv11 then
    (M.regex_Match rv5 s1).bind fun rv12 =>
    (catS (toStr [b1]) s1).bind fun s3 =>
    (M.ref08_Match rv1 s3).bind fun rv13 =>
    bif (rv12 == rv13) then
     (M.regex_Nullable fuel rv5).bind fun rv14 =>
     (M.ref08_Match rv1 (toStr [b1])).bind fun rv15 =>
     some (rv14 == rv15)
    else
     some false
   else
    some false).bind fun (xv2 : Bool) =>
  some xv2

def M.law08_RegexDeriveAll (rv1 : T_Regex) (s1 : Str) : Option Bool :=
 (
  (M.law08_small rv1 20).bind fun rv3 =>
  bif (!rv3) then
   some true
  else
   some (decide (6 < (s1.length : Int)))).bind fun (xv1 : Bool) =>
 bif xv1 then
  (M.law08_awake).bind fun rv4 =>
  some rv4
 else
  (
   loopM (fun (st9 : Int × (Vec 4) × (List T_Regex) × Int) => match st9 with
   | (d16, d17, d18, i5) =>
    bif (decide (i5 < (s1.length : Int))) then
     (idxS s1 i5).bind fun c6 =>
     (M.regex_Derive fuel (T_Regex.mk d16 d17 d18) c6).bind fun rv10 =>
     (chk .i64 (i5 + 1)).bind fun t6 =>
     some (.next (rv10.Kind, rv10.Set, rv10.Kids, t6))
    else
     some (.stop (d16, d17, d18))) fuel (rv1.Kind, rv1.Set, rv1.Kids, (0 : Int))).bind fun (d10, d11, d12) =>
  (
   (M.law08_awake).bind fun rv14 =>
   bif rv14 then
    (M.regex_Nullable fuel (T_Regex.mk d10 d11 d12)).bind fun rv15 =>
    (M.ref08_Match rv1 s1).bind fun rv16 =>
    some (rv15 == rv16)
   else
    some false).bind fun (xv2 : Bool) =>
  some xv2

def M.law08_RegexAlgebra (p1 : T_Regex) (p2 : T_Regex) (p3 : Str) : Option Bool :=
 (
  (M.law08_small p1 15).bind fun rv3 =>
  bif (!rv3) then
   some true
  else
   (M.law08_small p2 15).bind fun rv4 =>
   bif (!rv4) then
    some true
   else
    some (decide (8 < (p3.length : Int)))).bind fun (xv1 : Bool) =>
 bif xv1 then
  (M.law08_awake).bind fun rv5 =>
  some rv5
 else
  (
   (M.ref08_Valid (T_Regex.mk 4 (Vec.zero 4) [p1, p2])).bind fun rv8 =>
   bif (!rv8) then
    some true
   else
    (M.ref08_Valid (T_Regex.mk 6 (Vec.zero 4) [p1])).bind fun rv9 =>
    some (!rv9)).bind fun (xv2 : Bool) =>
  bif xv2 then
   (M.law08_awake).bind fun rv10 =>
   some rv10
  else
   (
    loopM (fun (st9 : Bool × Bool × Int) => match st9 with
    | (xv19, xv20, xv21) =>
     bif (decide (xv21 ≤ (p3.length : Int))) then
      (
       bif xv19 then
        some true
       else
        (subL p3 0 xv21).bind fun s35 =>
        (M.regex_Match p1 s35).bind fun rv47 =>
        bif rv47 then
         (subL p3 xv21 (p3.length : Int)).bind fun s36 =>
         (M.regex_Match p2 s36).bind fun rv48 =>
         some rv48
        else
         some false).bind fun (xv26 : Bool) =>
      bif xv20 then
       (chk .i64 (xv21 + 1)).bind fun t21 =>
       some (.next (xv26, true, t21))
      else
       bif (decide (0 < xv21)) then
        (subL p3 0 xv21).bind fun s37 =>
        (M.regex_Match p1 s37).bind fun rv49 =>
        bif rv49 then
         (subL p3 xv21 (p3.length : Int)).bind fun s38 =>
         (M.regex_Match (T_Regex.mk 6 (Vec.zero 4) [p1]) s38).bind fun rv50 =>
         (chk .i64 (xv21 + 1)).bind fun t22 =>
         some (.next (xv26, rv50, t22))
        else
         (chk .i64 (xv21 + 1)).bind fun t23 =>
         some (.next (xv26, false, t23))
       else
        (chk .i64 (xv21 + 1)).bind fun t24 =>
        some (.next (xv26, false, t24))
     else
      some (.stop (xv19, xv20))) fuel (false, (p3 == []), (0 : Int))).bind fun (xv14, xv15) =>
   (
    (M.law08_awake).bind fun rv58 =>
    bif rv58 then
     (M.regex_Match (T_Regex.mk 4 (Vec.zero 4) [p1, p2]) p3).bind fun rv59 =>
     bif (rv59 == xv14) then
      (M.regex_Match (T_Regex.mk 5 (Vec.zero 4) [p1, p2]) p3).bind fun rv60 =>
      (M.regex_Match p1 p3).bind fun rv61 =>
      bif rv61 then
       bif (rv60 == true) then
        (M.regex_Match (T_Regex.mk 6 (Vec.zero 4) [p1]) p3).bind fun rv62 =>
        some (rv62 == xv15)
       else
        some false
      else
       (M.regex_Match p2 p3).bind fun rv63 =>
       bif (rv60 == rv63) then
        (M.regex_Match (T_Regex.mk 6 (Vec.zero 4) [p1]) p3).bind fun rv64 =>
        some (rv64 == xv15)
       else
        some false
     else
      some false
    else
     some false).bind fun (xv27 : Bool) =>
   some xv27

def M.law08_nested (nv1 : Int) : Option Str :=
 (
  loopM (fun (st9 : Str × Int) => match st9 with
  | (s14, i5) =>
   bif (decide (i5 < nv1)) then
    (catS [40] s14).bind fun s18 =>
    (catS s18 [41, 42]).bind fun s19 =>
    (chk .i64 (i5 + 1)).bind fun t6 =>
    some (.next (s19, t6))
   else
    some (.stop s14)) fuel (([97] : Str), (0 : Int))).bind fun (s10 : Str) =>
 some s10

def M.law08_RegexNesting (nv1 : Int) : Option Bool :=
 (remM nv1 40).bind fun t1 =>
 (M.law08_nested (IntKind.i64.wrap t1)).bind fun rv1 =>
 (M.regex_Parse rv1).bind fun rv2 =>
 (chk .i64 ((IntKind.i64.wrap t1) + 1)).bind fun t2 =>
 bif (decide (30 < t2)) then
  (
   (M.law08_awake).bind fun rv4 =>
   bif rv4 then
    bif (rv2.2.2 == 11) then
     some (rv2.2.1 == 0)
    else
     some false
   else
    some false).bind fun (xv1 : Bool) =>
  some xv1
 else
  (
   (M.law08_awake).bind fun rv9 =>
   bif rv9 then
    bif (rv2.2.2 == 0) then
     (M.regex_Valid rv2.1).bind fun rv10 =>
     bif rv10 then
      (M.regex_Match rv2.1 [97]).bind fun rv11 =>
      some rv11
     else
      some false
    else
     some false
   else
    some false).bind fun (rv8 : Bool) =>
  some rv8

end Go.Proofs.YtffienmbeifioaaDoor
