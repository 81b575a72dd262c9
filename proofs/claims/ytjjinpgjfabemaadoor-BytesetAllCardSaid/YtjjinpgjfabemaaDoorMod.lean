/- The plain models of the functions, printed by a program of my own from the translation. -/
import Derived.Test.YtjjinpgjfabemaaDoorLxFn
import Derived.Test.YtjjinpgjfabemaaDoorLxRange
import Derived.Test.YtjjinpgjfabemaaDoorLxRec
import Derived.Test.YtjjinpgjfabemaaDoorLxRecover
import Derived.Test.YtjjinpgjfabemaaDoorLxEq
import Derived.Test.YtjjinpgjfabemaaDoorLxRangeX
set_option linter.unusedVariables false
set_option linter.unusedSimpArgs false
namespace Go.Proofs.YtjjinpgjfabemaaDoor
open Go.Lx Go.RowKit
def M.deBruijn : Vec 64 := ⟨[0, 1, 56, 2, 57, 49, 28, 3, 61, 58, 42, 50, 38, 29, 17, 4, 62, 47, 59, 36, 45, 43, 51, 22, 53, 39, 33, 30, 24, 18, 12, 5, 63, 55, 48, 27, 60, 41, 37, 16, 46, 35, 44, 21, 52, 32, 23, 11, 54, 26, 40, 15, 34, 20, 31, 10, 25, 14, 19, 9, 13, 8, 7, 6], rfl⟩

def M.math_bits_TrailingZeros64 (xv1 : Int) : Option Int :=
 bif (xv1 == 0) then
  some 64
 else
  (shrM .u64 (IntKind.u64.wrap ((bits .and .u64 xv1 (IntKind.u64.wrap (-xv1))) * 285870213051353865)) 58).bind fun t1 =>
  (vget M.deBruijn t1).bind fun c1 =>
  some (IntKind.i64.wrap c1)

def M.byteset_All_1 {σ : Type} (yield1 : Int → σ → Option (Bool × σ)) (c1 : (Vec 4)) (s0 : σ) : Option σ :=
 loopM (fun (st9 : Int × σ) => match st9 with
 | (xv2, s9) =>
  bif (decide (xv2 < 4)) then
   bindStep (
    (vget c1 xv2).bind fun c7 =>
    loopM (fun (st9 : Int × σ) => match st9 with
    | (wv49, s23) =>
     bif (wv49 != 0) then
      (chk .i64 (64 * xv2)).bind fun t37 =>
      (M.math_bits_TrailingZeros64 wv49).bind fun rv18 =>
      (chk .i64 (t37 + rv18)).bind fun t38 =>
      (yield1 (IntKind.u8.wrap t38) s23).bind fun y18 =>
      bif (!y18.1) then
       some (.stop (.stop (.stop y18.2)))
      else
       some (.next ((bits .and .u64 wv49 (IntKind.u64.wrap (wv49 - 1))), y18.2))
     else
      some (.stop (.next s23))) fuel (c7, s9)) fun (s21 : σ) =>
   (chk .i64 (xv2 + 1)).bind fun t39 =>
   some (.next (t39, s21))
  else
   some (.stop s9)) fuel ((0 : Int), s0)

def M.byteset_All (s1 : (Vec 4)) : Option Unit :=
 some ()

def M.law07_elements (s1 : (Vec 4)) : Option ((List Int) × Bool) :=
 (M.byteset_All s1).bind fun u1 =>
 bindStep (
  (M.byteset_All_1 (stepOn (ρ := ((List Int))) (fun (x : Int) (xv7 : (List Int)) =>
   bif (decide (300 ≤ (xv7.length : Int))) then
    some (.stop xv7)
   else
    (appM 1 xv7 [x]).bind fun y6 =>
    some (.next y6))) s1 (.next ([] : (List Int)))).bind fun rx9 => match rx9 with
  | .next xv7 =>
   some (.next xv7)
  | .stop xv9 =>
   some (.stop ([], false))) fun (xv5 : (List Int)) =>
 some (xv5, true)

def M.math_bits_OnesCount64 (xv1 : Int) : Option Int :=
 (shrM .u64 xv1 1).bind fun t1 =>
 (shrM .u64 (IntKind.u64.wrap ((bits .and .u64 t1 6148914691236517205) + (bits .and .u64 xv1 6148914691236517205))) 2).bind fun t2 =>
 (some (bits .and .u64 (IntKind.u64.wrap ((bits .and .u64 t1 6148914691236517205) + (bits .and .u64 xv1 6148914691236517205))) 3689348814741910323)).bind fun t3 =>
 (shrM .u64 (IntKind.u64.wrap ((bits .and .u64 t2 3689348814741910323) + t3)) 4).bind fun t4 =>
 (some (bits .and .u64 (IntKind.u64.wrap (t4 + (IntKind.u64.wrap ((bits .and .u64 t2 3689348814741910323) + t3)))) 1085102592571150095)).bind fun t5 =>
 (shrM .u64 t5 8).bind fun t6 =>
 (shrM .u64 (IntKind.u64.wrap (t5 + t6)) 16).bind fun t7 =>
 (shrM .u64 (IntKind.u64.wrap ((IntKind.u64.wrap (t5 + t6)) + t7)) 32).bind fun t8 =>
 (some (bits .and .i64 (IntKind.i64.wrap (IntKind.u64.wrap ((IntKind.u64.wrap ((IntKind.u64.wrap (t5 + t6)) + t7)) + t8))) 127)).bind fun t9 =>
 some t9

def M.byteset_Len (s1 : (Vec 4)) : Option Int :=
 (
  loopM (fun (st9 : Int × Int) => match st9 with
  | (nv6, xv5) =>
   bif (decide (xv5 < 4)) then
    (vget s1 xv5).bind fun c6 =>
    (M.math_bits_OnesCount64 c6).bind fun rv6 =>
    (chk .i64 (nv6 + rv6)).bind fun t11 =>
    (chk .i64 (xv5 + 1)).bind fun t12 =>
    some (.next (t11, t12))
   else
    some (.stop nv6)) fuel ((0 : Int), (0 : Int))).bind fun (nv4 : Int) =>
 some nv4

def M.ref07_Has (s1 : (Vec 4)) (b1 : Int) : Option Bool :=
 (quoM .u8 b1 64).bind fun t1 =>
 (vget s1 t1).bind fun c1 =>
 (remM b1 64).bind fun t2 =>
 (shrM .u64 c1 t2).bind fun t3 =>
 some ((bits .and .u64 t3 1) == 1)

def M.byteset_Range (lo1 : Int) (hiv1 : Int) : Option (Vec 4) :=
 (
  loopM (fun (st9 : (Vec 4) × Int) => match st9 with
  | (xv10, b7) =>
   bif (decide (b7 ≤ (IntKind.i64.wrap hiv1))) then
    (quoM .i64 b7 64).bind fun t21 =>
    (vget xv10 t21).bind fun c6 =>
    (remM b7 64).bind fun t22 =>
    (shlM .u64 1 t22).bind fun t23 =>
    (vset xv10 t21 (bits .or .u64 c6 t23)).bind fun xv13 =>
    (chk .i64 (b7 + 1)).bind fun t24 =>
    some (.next (xv13, t24))
   else
    some (.stop xv10)) fuel ((Vec.zero 4), (IntKind.i64.wrap lo1))).bind fun (xv7 : (Vec 4)) =>
 some xv7

def M.byteset_Of (s1 : Str) : Option (Vec 4) :=
 (
  loopM (fun (st9 : (Vec 4) × Int) => match st9 with
  | (xv14, xv15) =>
   bif (decide (xv15 < (s1.length : Int))) then
    (idxS s1 xv15).bind fun c11 =>
    (quoM .u8 c11 64).bind fun t21 =>
    (vget xv14 t21).bind fun c12 =>
    (remM c11 64).bind fun t22 =>
    (shlM .u64 1 t22).bind fun t23 =>
    (vset xv14 t21 (bits .or .u64 c12 t23)).bind fun xv19 =>
    (chk .i64 (xv15 + 1)).bind fun t24 =>
    some (.next (xv19, t24))
   else
    some (.stop xv14)) fuel ((Vec.zero 4), (0 : Int))).bind fun (xv10 : (Vec 4)) =>
 some xv10

def M.byteset_Has (s1 : (Vec 4)) (b1 : Int) : Option Bool :=
 (quoM .u8 b1 64).bind fun t1 =>
 (vget s1 t1).bind fun c1 =>
 (remM b1 64).bind fun t2 =>
 (shrM .u64 c1 t2).bind fun t3 =>
 some ((bits .and .u64 t3 1) == 1)

def M.byteset_Classes (l1 : (List (Vec 4))) : Option (List Int) :=
 (mkM 8 256 (0 : Int)).bind fun out1 =>
 (
  loopM (fun (st9 : (List Int) × (List (Str × Int)) × Int) => match st9 with
  | (out19, m17, xv53) =>
   bif (decide (xv53 < (out1.length : Int))) then
    (
     (mkM 1 (l1.length : Int) (0 : Int)).bind fun key287 =>
     (
      loopM (fun (st9 : (List Int) × Int) => match st9 with
      | (key305, xv77) =>
       bif (decide (xv77 < (l1.length : Int))) then
        (
         (idxL l1 xv77).bind fun e144 =>
         (M.byteset_Has e144 (IntKind.u8.wrap xv53)).bind fun rv144 =>
         bif rv144 then
          (setL key305 xv77 1).bind fun key312 =>
          some key312
         else
          some key305).bind fun (key311 : (List Int)) =>
        (chk .i64 (xv77 + 1)).bind fun t77 =>
        some (.next (key311, t77))
       else
        some (.stop key305)) fuel (key287, (0 : Int))).bind fun (key300 : (List Int)) =>
     (
      bif (!((mget m17 (toStr key300)).isSome)) then
       some ((mset m17 (toStr key300) (m17.length : Int)), (m17.length : Int))
      else
       some (m17, ((mget m17 (toStr key300)).getD 0))).bind fun (m24, nv12) =>
     (setL out19 xv53 nv12).bind fun out26 =>
     some (out26, m24)).bind fun (out25, m23) =>
    (chk .i64 (xv53 + 1)).bind fun t78 =>
    some (.next (out25, m23, t78))
   else
    some (.stop out19)) fuel (out1, ([] : (List (Str × Int))), (0 : Int))).bind fun (out14 : (List Int)) =>
 some out14

def M.law07_awake : Option Bool :=
 (M.byteset_Range 97 99).bind fun rv1 =>
 (M.byteset_Of [97, 98]).bind fun rv2 =>
 (M.byteset_Of [98, 99]).bind fun rv3 =>
 (M.byteset_Classes [rv2, rv3]).bind fun c1 =>
 (
  (M.byteset_Len rv1).bind fun rv9 =>
  bif (rv9 == 3) then
   (M.byteset_Has rv1 98).bind fun rv10 =>
   bif rv10 then
    (M.byteset_Has rv1 100).bind fun rv11 =>
    bif (!rv11) then
     (M.byteset_Range 99 97).bind fun rv12 =>
     (M.byteset_Len rv12).bind fun rv13 =>
     bif (rv13 == 0) then
      bif ((c1.length : Int) == 256) then
       (idxL c1 0).bind fun e6 =>
       bif (e6 == 0) then
        (idxL c1 97).bind fun e7 =>
        bif (e7 == 1) then
         (idxL c1 98).bind fun e8 =>
         bif (e8 == 2) then
          (idxL c1 99).bind fun e9 =>
          bif (e9 == 3) then
           (idxL c1 100).bind fun e10 =>
           some (e10 == 0)
          else
           some false
         else
          some false
        else
         some false
       else
        some false
      else
       some false
     else
      some false
    else
     some false
   else
    some false
  else
   some false).bind fun (xv1 : Bool) =>
 some xv1

def M.law07_BytesetAll (p1 : (Vec 4)) (p2 : Int) : Option Bool :=
 (M.law07_elements p1).bind fun rv1 =>
 (
  bif (!rv1.2) then
   some true
  else
   (M.byteset_Len p1).bind fun rv3 =>
   some ((rv1.1.length : Int) != rv3)).bind fun (xv1 : Bool) =>
 bif xv1 then
  some false
 else
  bindStep (
   loopM (fun (xv10 : Int) =>
    bif (decide (xv10 < (rv1.1.length : Int))) then
     (
      (idxL rv1.1 xv10).bind fun e23 =>
      (M.ref07_Has p1 e23).bind fun rv15 =>
      bif (!rv15) then
       some true
      else
       bif (decide (0 < xv10)) then
        (chk .i64 (xv10 - 1)).bind fun t17 =>
        (idxL rv1.1 t17).bind fun e24 =>
        some (decide (e23 ≤ e24))
       else
        some false).bind fun (xv13 : Bool) =>
     bif xv13 then
      some (.stop (.stop false))
     else
      (chk .i64 (xv10 + 1)).bind fun t18 =>
      some (.next t18)
    else
     some (.stop (.next ()))) fuel (0 : Int)) fun _ =>
  bindStep (
   (M.byteset_All p1).bind fun u2 =>
   (M.byteset_All_1 (stepOn (ρ := (Int) ⊕ (Int)) (fun (x : Int) (xv24 : Int) =>
    (
     bif (decide ((rv1.1.length : Int) ≤ xv24)) then
      some true
     else
      (idxL rv1.1 xv24).bind fun e36 =>
      some (x != e36)).bind fun (xv28 : Bool) =>
    bif xv28 then
     some (.stop (.inr xv24))
    else
     (chk .i64 (xv24 + 1)).bind fun t26 =>
     bif (decide ((IntKind.i64.wrap p2) < t26)) then
      some (.stop (.inl t26))
     else
      some (.next t26))) p1 (.next (0 : Int))).bind fun rx9 => match rx9 with
   | .next xv24 =>
    some (.next xv24)
   | .stop (.inl t25) =>
    some (.next t25)
   | .stop (.inr xv27) =>
    some (.stop false)) fun (xv21 : Int) =>
  (
   (M.law07_awake).bind fun rv17 =>
   bif rv17 then
    (chk .i64 ((IntKind.i64.wrap p2) + 1)).bind fun t28 =>
    some (xv21 == (min2 (rv1.1.length : Int) t28))
   else
    some false).bind fun (xv29 : Bool) =>
  some xv29

end Go.Proofs.YtjjinpgjfabemaaDoor
