/- The plain models of the functions, printed by a program of my own from the translation. -/
import Derived.Test.YtjjinpgjfabemaaLxMisc
set_option linter.unusedVariables false
namespace Go.Proofs.Ytjjinpgjfabemaa
open Go.Lx Go.RowKit
def M.byteset_Of (s1 : Str) : Option (Vec 4) :=
 (
  loopM (fun (st9 : (Vec 4) × Int) => match st9 with
  | (xv14, xv15) =>
   bif (decide (xv15 < (s1.length : Int))) then
    (idxS s1 xv15).bind fun c11 =>
    (quoM .u8 c11 64).bind fun t21 =>
    (vget xv14 t21).bind fun c12 =>
    (remM c11 64).bind fun t22 =>
    (shlM .u64 1 t22).bind fun t23 =>
    (vset xv14 t21 (bits .or .u64 c12 t23)).bind fun xv19 =>
    (chk .i64 (xv15 + 1)).bind fun t24 =>
    some (.next (xv19, t24))
   else
    some (.stop xv14)) fuel ((Vec.zero 4), (0 : Int))).bind fun (xv10 : (Vec 4)) =>
 some xv10

def M.byteset_Range (lo1 : Int) (hiv1 : Int) : Option (Vec 4) :=
 (
  loopM (fun (st9 : (Vec 4) × Int) => match st9 with
  | (xv10, b7) =>
   bif (decide (b7 ≤ (IntKind.i64.wrap hiv1))) then
    (quoM .i64 b7 64).bind fun t21 =>
    (vget xv10 t21).bind fun c6 =>
    (remM b7 64).bind fun t22 =>
    (shlM .u64 1 t22).bind fun t23 =>
    (vset xv10 t21 (bits .or .u64 c6 t23)).bind fun xv13 =>
    (chk .i64 (b7 + 1)).bind fun t24 =>
    some (.next (xv13, t24))
   else
    some (.stop xv10)) fuel ((Vec.zero 4), (IntKind.i64.wrap lo1))).bind fun (xv7 : (Vec 4)) =>
 some xv7

def M.byteset_Has (s1 : (Vec 4)) (b1 : Int) : Option Bool :=
 (quoM .u8 b1 64).bind fun t1 =>
 (vget s1 t1).bind fun c1 =>
 (remM b1 64).bind fun t2 =>
 (shrM .u64 c1 t2).bind fun t3 =>
 some ((bits .and .u64 t3 1) == 1)

def M.ref07_Has (s1 : (Vec 4)) (b1 : Int) : Option Bool :=
 (quoM .u8 b1 64).bind fun t1 =>
 (vget s1 t1).bind fun c1 =>
 (remM b1 64).bind fun t2 =>
 (shrM .u64 c1 t2).bind fun t3 =>
 some ((bits .and .u64 t3 1) == 1)

def M.ref07_with (s1 : (Vec 4)) (b1 : Int) : Option (Vec 4) :=
 (quoM .u8 b1 64).bind fun t1 =>
 (vget s1 t1).bind fun c1 =>
 (remM b1 64).bind fun t2 =>
 (shlM .u64 1 t2).bind fun t3 =>
 (vset s1 t1 (bits .or .u64 c1 t3)).bind fun s2 =>
 some s2

def M.ref07_Of (xv1 : Str) : Option (Vec 4) :=
 (
  loopM (fun (st9 : (Vec 4) × Int) => match st9 with
  | (s6, i5) =>
   bif (decide (i5 < (xv1.length : Int))) then
    (idxS xv1 i5).bind fun c6 =>
    (M.ref07_with s6 c6).bind fun rv6 =>
    (chk .i64 (i5 + 1)).bind fun t6 =>
    some (.next (rv6, t6))
   else
    some (.stop s6)) fuel ((Vec.zero 4), (0 : Int))).bind fun (s4 : (Vec 4)) =>
 some s4

def M.ref07_Range (lo1 : Int) (hiv1 : Int) : Option (Vec 4) :=
 (
  loopM (fun (st9 : (Vec 4) × Int) => match st9 with
  | (s6, b7) =>
   bif (decide (b7 ≤ (IntKind.i64.wrap hiv1))) then
    (M.ref07_with s6 (IntKind.u8.wrap b7)).bind fun rv6 =>
    (chk .i64 (b7 + 1)).bind fun t6 =>
    some (.next (rv6, t6))
   else
    some (.stop s6)) fuel ((Vec.zero 4), (IntKind.i64.wrap lo1))).bind fun (s4 : (Vec 4)) =>
 some s4

def M.byteset_Union (a1 : (Vec 4)) (b1 : (Vec 4)) : Option (Vec 4) :=
 (
  loopM (fun (st9 : (Vec 4) × Int) => match st9 with
  | (a11, xv5) =>
   bif (decide (xv5 < 4)) then
    (vget a11 xv5).bind fun c11 =>
    (vget b1 xv5).bind fun c12 =>
    (vset a11 xv5 (bits .or .u64 c11 c12)).bind fun a14 =>
    (chk .i64 (xv5 + 1)).bind fun t6 =>
    some (.next (a14, t6))
   else
    some (.stop a11)) fuel (a1, (0 : Int))).bind fun (a8 : (Vec 4)) =>
 some a8

def M.byteset_Intersect (a1 : (Vec 4)) (b1 : (Vec 4)) : Option (Vec 4) :=
 (
  loopM (fun (st9 : (Vec 4) × Int) => match st9 with
  | (a11, xv5) =>
   bif (decide (xv5 < 4)) then
    (vget a11 xv5).bind fun c11 =>
    (vget b1 xv5).bind fun c12 =>
    (vset a11 xv5 (bits .and .u64 c11 c12)).bind fun a14 =>
    (chk .i64 (xv5 + 1)).bind fun t6 =>
    some (.next (a14, t6))
   else
    some (.stop a11)) fuel (a1, (0 : Int))).bind fun (a8 : (Vec 4)) =>
 some a8

def M.byteset_Complement (s1 : (Vec 4)) : Option (Vec 4) :=
 (
  loopM (fun (st9 : (Vec 4) × Int) => match st9 with
  | (s11, xv5) =>
   bif (decide (xv5 < 4)) then
    (vget s11 xv5).bind fun c6 =>
    (vset s11 xv5 (complM .u64 c6)).bind fun s14 =>
    (chk .i64 (xv5 + 1)).bind fun t6 =>
    some (.next (s14, t6))
   else
    some (.stop s11)) fuel (s1, (0 : Int))).bind fun (s8 : (Vec 4)) =>
 some s8

def M.ref07_Union (a1 : (Vec 4)) (b1 : (Vec 4)) : Option (Vec 4) :=
 (
  loopM (fun (st9 : (Vec 4) × Int) => match st9 with
  | (s10, i5) =>
   bif (decide (i5 < 256)) then
    (
     (
      (M.ref07_Has a1 (IntKind.u8.wrap i5)).bind fun rv58 =>
      bif rv58 then
       some true
      else
       (M.ref07_Has b1 (IntKind.u8.wrap i5)).bind fun rv59 =>
       some rv59).bind fun (xv12 : Bool) =>
     bif xv12 then
      (M.ref07_with s10 (IntKind.u8.wrap i5)).bind fun rv60 =>
      some rv60
     else
      some s10).bind fun (s13 : (Vec 4)) =>
    (chk .i64 (i5 + 1)).bind fun t6 =>
    some (.next (s13, t6))
   else
    some (.stop s10)) fuel ((Vec.zero 4), (0 : Int))).bind fun (s7 : (Vec 4)) =>
 some s7

def M.ref07_Intersect (a1 : (Vec 4)) (b1 : (Vec 4)) : Option (Vec 4) :=
 (
  loopM (fun (st9 : (Vec 4) × Int) => match st9 with
  | (s10, i5) =>
   bif (decide (i5 < 256)) then
    (
     (
      (M.ref07_Has a1 (IntKind.u8.wrap i5)).bind fun rv70 =>
      bif rv70 then
       (M.ref07_Has b1 (IntKind.u8.wrap i5)).bind fun rv71 =>
       some rv71
      else
       some false).bind fun (rv69 : Bool) =>
     bif rv69 then
      (M.ref07_with s10 (IntKind.u8.wrap i5)).bind fun rv72 =>
      some rv72
     else
      some s10).bind fun (s13 : (Vec 4)) =>
    (chk .i64 (i5 + 1)).bind fun t6 =>
    some (.next (s13, t6))
   else
    some (.stop s10)) fuel ((Vec.zero 4), (0 : Int))).bind fun (s7 : (Vec 4)) =>
 some s7

def M.ref07_Complement (a1 : (Vec 4)) : Option (Vec 4) :=
 (
  loopM (fun (st9 : (Vec 4) × Int) => match st9 with
  | (s10, i5) =>
   bif (decide (i5 < 256)) then
    (
     (M.ref07_Has a1 (IntKind.u8.wrap i5)).bind fun rv23 =>
     bif (!rv23) then
      (M.ref07_with s10 (IntKind.u8.wrap i5)).bind fun rv24 =>
      some rv24
     else
      some s10).bind fun (s13 : (Vec 4)) =>
    (chk .i64 (i5 + 1)).bind fun t6 =>
    some (.next (s13, t6))
   else
    some (.stop s10)) fuel ((Vec.zero 4), (0 : Int))).bind fun (s7 : (Vec 4)) =>
 some s7

def M.ref07_List (s1 : (Vec 4)) : Option (List Int) :=
 (
  loopM (fun (st9 : (List Int) × Int) => match st9 with
  | (xv6, i5) =>
   bif (decide (i5 < 256)) then
    (
     (M.ref07_Has s1 (IntKind.u8.wrap i5)).bind fun rv12 =>
     bif rv12 then
      (appM 1 xv6 [(IntKind.u8.wrap i5)]).bind fun l12 =>
      some l12
     else
      some xv6).bind fun (l11 : (List Int)) =>
    (chk .i64 (i5 + 1)).bind fun t6 =>
    some (.next (l11, t6))
   else
    some (.stop xv6)) fuel (([] : (List Int)), (0 : Int))).bind fun (xv4 : (List Int)) =>
 some xv4

def M.ref07_Len (s1 : (Vec 4)) : Option Int :=
 (M.ref07_List s1).bind fun rv1 =>
 some (rv1.length : Int)

def M.ref07_equivalent (l1 : (List (Vec 4))) (a1 : Int) (b1 : Int) : Option Bool :=
 bindStep (
  loopM (fun (i5 : Int) =>
   bif (decide (i5 < (l1.length : Int))) then
    (idxL l1 i5).bind fun e6 =>
    (M.ref07_Has e6 a1).bind fun rv11 =>
    (M.ref07_Has e6 b1).bind fun rv12 =>
    bif (!(rv11 == rv12)) then
     some (.stop (.stop false))
    else
     (chk .i64 (i5 + 1)).bind fun t6 =>
     some (.next t6)
   else
    some (.stop (.next ()))) fuel (0 : Int)) fun _ =>
 some true

def M.ref07_Ints (a1 : (List Int)) (b1 : (List Int)) : Option Bool :=
 bif ((a1.length : Int) != (b1.length : Int)) then
  some false
 else
  bindStep (
   loopM (fun (i5 : Int) =>
    bif (decide (i5 < (a1.length : Int))) then
     (idxL a1 i5).bind fun e11 =>
     (idxL b1 i5).bind fun e12 =>
     bif (e11 != e12) then
      some (.stop (.stop false))
     else
      (chk .i64 (i5 + 1)).bind fun t6 =>
      some (.next t6)
    else
     some (.stop (.next ()))) fuel (0 : Int)) fun _ =>
  some true

def M.ref07_Classes (l1 : (List (Vec 4))) : Option (List Int) :=
 (mkM 8 256 (0 : Int)).bind fun out1 =>
 (
  loopM (fun (st9 : (List Int) × Int × Int) => match st9 with
  | (out75, nv9, b117) =>
   bif (decide (b117 < 256)) then
    (
     (setL out75 b117 nv9).bind fun out103 =>
     (
      loopM (fun (a71 : Int) =>
       bif (decide (a71 < b117)) then
        (M.ref07_equivalent l1 (IntKind.u8.wrap a71) (IntKind.u8.wrap b117)).bind fun rv72 =>
        bif rv72 then
         (idxL out103 a71).bind fun e83 =>
         (setL out103 b117 e83).bind fun out110 =>
         some (.stop out110)
        else
         (chk .i64 (a71 + 1)).bind fun t88 =>
         some (.next t88)
       else
        some (.stop out103)) fuel (0 : Int)).bind fun (out107 : (List Int)) =>
     (idxL out107 b117).bind fun e84 =>
     bif (e84 == nv9) then
      (chk .i64 (nv9 + 1)).bind fun t89 =>
      some (out107, t89)
     else
      some (out107, nv9)).bind fun (out102, nv12) =>
    (chk .i64 (b117 + 1)).bind fun t90 =>
    some (.next (out102, nv12, t90))
   else
    some (.stop out75)) fuel (out1, (0 : Int), (0 : Int))).bind fun (out56 : (List Int)) =>
 some out56

def M.byteset_Classes (l1 : (List (Vec 4))) : Option (List Int) :=
 (mkM 8 256 (0 : Int)).bind fun out1 =>
 (
  loopM (fun (st9 : (List Int) × (List (Str × Int)) × Int) => match st9 with
  | (out19, m17, xv53) =>
   bif (decide (xv53 < (out1.length : Int))) then
    (
     (mkM 1 (l1.length : Int) (0 : Int)).bind fun key287 =>
     (
      loopM (fun (st9 : (List Int) × Int) => match st9 with
      | (key305, xv77) =>
       bif (decide (xv77 < (l1.length : Int))) then
        (
         (idxL l1 xv77).bind fun e144 =>
         (M.byteset_Has e144 (IntKind.u8.wrap xv53)).bind fun rv144 =>
         bif rv144 then
          (setL key305 xv77 1).bind fun key312 =>
          some key312
         else
          some key305).bind fun (key311 : (List Int)) =>
        (chk .i64 (xv77 + 1)).bind fun t77 =>
        some (.next (key311, t77))
       else
        some (.stop key305)) fuel (key287, (0 : Int))).bind fun (key300 : (List Int)) =>
     (
      bif (!((mget m17 (toStr key300)).isSome)) then
       some ((mset m17 (toStr key300) (m17.length : Int)), (m17.length : Int))
      else
       some (m17, ((mget m17 (toStr key300)).getD 0))).bind fun (m24, nv12) =>
     (setL out19 xv53 nv12).bind fun out26 =>
     some (out26, m24)).bind fun (out25, m23) =>
    (chk .i64 (xv53 + 1)).bind fun t78 =>
    some (.next (out25, m23, t78))
   else
    some (.stop out19)) fuel (out1, ([] : (List (Str × Int))), (0 : Int))).bind fun (out14 : (List Int)) =>
 some out14

def M.math_bits_OnesCount64 (xv1 : Int) : Option Int :=
 (shrM .u64 xv1 1).bind fun t1 =>
 (shrM .u64 (IntKind.u64.wrap ((bits .and .u64 t1 6148914691236517205) + (bits .and .u64 xv1 6148914691236517205))) 2).bind fun t2 =>
 (some (bits .and .u64 (IntKind.u64.wrap ((bits .and .u64 t1 6148914691236517205) + (bits .and .u64 xv1 6148914691236517205))) 3689348814741910323)).bind fun t3 =>
 (shrM .u64 (IntKind.u64.wrap ((bits .and .u64 t2 3689348814741910323) + t3)) 4).bind fun t4 =>
 (some (bits .and .u64 (IntKind.u64.wrap (t4 + (IntKind.u64.wrap ((bits .and .u64 t2 3689348814741910323) + t3)))) 1085102592571150095)).bind fun t5 =>
 (shrM .u64 t5 8).bind fun t6 =>
 (shrM .u64 (IntKind.u64.wrap (t5 + t6)) 16).bind fun t7 =>
 (shrM .u64 (IntKind.u64.wrap ((IntKind.u64.wrap (t5 + t6)) + t7)) 32).bind fun t8 =>
 (some (bits .and .i64 (IntKind.i64.wrap (IntKind.u64.wrap ((IntKind.u64.wrap ((IntKind.u64.wrap (t5 + t6)) + t7)) + t8))) 127)).bind fun t9 =>
 some t9

def M.byteset_Len (s1 : (Vec 4)) : Option Int :=
 (
  loopM (fun (st9 : Int × Int) => match st9 with
  | (nv6, xv5) =>
   bif (decide (xv5 < 4)) then
    (vget s1 xv5).bind fun c6 =>
    (M.math_bits_OnesCount64 c6).bind fun rv6 =>
    (chk .i64 (nv6 + rv6)).bind fun t11 =>
    (chk .i64 (xv5 + 1)).bind fun t12 =>
    some (.next (t11, t12))
   else
    some (.stop nv6)) fuel ((0 : Int), (0 : Int))).bind fun (nv4 : Int) =>
 some nv4

def M.law07_awake : Option Bool :=
 (M.byteset_Range 97 99).bind fun rv1 =>
 (M.byteset_Of [97, 98]).bind fun rv2 =>
 (M.byteset_Of [98, 99]).bind fun rv3 =>
 (M.byteset_Classes [rv2, rv3]).bind fun c1 =>
 (
  (M.byteset_Len rv1).bind fun rv9 =>
  bif (rv9 == 3) then
   (M.byteset_Has rv1 98).bind fun rv10 =>
   bif rv10 then
    (M.byteset_Has rv1 100).bind fun rv11 =>
    bif (!rv11) then
     (M.byteset_Range 99 97).bind fun rv12 =>
     (M.byteset_Len rv12).bind fun rv13 =>
     bif (rv13 == 0) then
      bif ((c1.length : Int) == 256) then
       (idxL c1 0).bind fun e6 =>
       bif (e6 == 0) then
        (idxL c1 97).bind fun e7 =>
        bif (e7 == 1) then
         (idxL c1 98).bind fun e8 =>
         bif (e8 == 2) then
          (idxL c1 99).bind fun e9 =>
          bif (e9 == 3) then
           (idxL c1 100).bind fun e10 =>
           some (e10 == 0)
          else
           some false
         else
          some false
        else
         some false
       else
        some false
      else
       some false
     else
      some false
    else
     some false
   else
    some false
  else
   some false).bind fun (xv1 : Bool) =>
 some xv1

def M.law07_BytesetOf (s1 : Str) (lo1 : Int) (hiv1 : Int) : Option Bool :=
 bif (decide (600 < (s1.length : Int))) then
  (M.law07_awake).bind fun rv1 =>
  some rv1
 else
  (M.byteset_Of s1).bind fun rv2 =>
  (M.byteset_Range lo1 hiv1).bind fun rv3 =>
  (
   (M.law07_awake).bind fun rv10 =>
   bif rv10 then
    (M.ref07_Of s1).bind fun rv11 =>
    bif (rv2 == rv11) then
     (M.ref07_Range lo1 hiv1).bind fun rv12 =>
     bif (rv3 == rv12) then
      (M.byteset_Has rv2 lo1).bind fun rv13 =>
      (M.ref07_Has rv2 lo1).bind fun rv14 =>
      bif (rv13 == rv14) then
       (M.byteset_Has rv3 hiv1).bind fun rv15 =>
       some (rv15 == (decide (lo1 ≤ hiv1)))
      else
       some false
     else
      some false
    else
     some false
   else
    some false).bind fun (xv1 : Bool) =>
  some xv1

def M.law07_BytesetClasses (l1 : (List (Vec 4))) : Option Bool :=
 bif (decide (12 < (l1.length : Int))) then
  (M.law07_awake).bind fun rv1 =>
  some rv1
 else
  (
   (M.law07_awake).bind fun rv7 =>
   bif rv7 then
    (M.byteset_Classes l1).bind fun rv8 =>
    (M.ref07_Classes l1).bind fun rv9 =>
    (M.ref07_Ints rv8 rv9).bind fun rv10 =>
    some rv10
   else
    some false).bind fun (rv6 : Bool) =>
  some rv6

def M.law07_BytesetRefines (p1 : (List (Vec 4))) (p2 : (Vec 4)) (p3 : (Vec 2)) : Option Bool :=
 bif (decide (12 < (p1.length : Int))) then
  (M.law07_awake).bind fun rv1 =>
  some rv1
 else
  (
   (M.byteset_Classes p1).bind fun rv4 =>
   (appM 32 [] p1).bind fun y3 =>
   (appM 32 y3 [p2]).bind fun y4 =>
   (M.byteset_Classes y4).bind fun rv5 =>
   some (rv4, rv5)).bind fun (l1, l2) =>
  (
   bif ((l1.length : Int) != 256) then
    some true
   else
    some ((l2.length : Int) != 256)).bind fun (xv1 : Bool) =>
  bif xv1 then
   some false
  else
   (vget p3 0).bind fun c1 =>
   (vget p3 1).bind fun c2 =>
   (
    loopM (fun (st9 : Bool × Int) => match st9 with
    | (xv11, xv12) =>
     bif (decide (xv12 < (p1.length : Int))) then
      bif xv11 then
       (idxL p1 xv12).bind fun e6 =>
       (M.byteset_Has e6 c1).bind fun rv16 =>
       (M.byteset_Has e6 c2).bind fun rv17 =>
       (chk .i64 (xv12 + 1)).bind fun t9 =>
       some (.next ((rv16 == rv17), t9))
      else
       (chk .i64 (xv12 + 1)).bind fun t10 =>
       some (.next (false, t10))
     else
      some (.stop xv11)) fuel (true, (0 : Int))).bind fun (xv8 : Bool) =>
   bindStep (
    loopM (fun (st9 : Int × Int) => match st9 with
    | (xv31, xv32) =>
     bif (decide (xv32 < 256)) then
      bindStep (
       (
        (idxL l1 xv32).bind fun e41 =>
        bif (decide (xv31 < e41)) then
         some true
        else
         some (decide (e41 < 0))).bind fun (xv38 : Bool) =>
       bif xv38 then
        some (.stop (.stop (.stop false)))
       else
        (idxL l1 xv32).bind fun e42 =>
        bif (e42 == xv31) then
         (chk .i64 (xv31 + 1)).bind fun t33 =>
         some (.next t33)
        else
         some (.next xv31)) fun (t32 : Int) =>
      (chk .i64 (xv32 + 1)).bind fun t34 =>
      some (.next (t32, t34))
     else
      some (.stop (.next ()))) fuel ((0 : Int), (0 : Int))) fun _ =>
   (
    (M.law07_awake).bind fun rv21 =>
    bif rv21 then
     (idxL l1 c1).bind fun e47 =>
     (idxL l1 c2).bind fun e48 =>
     bif ((e47 == e48) == xv8) then
      (idxL l2 c1).bind fun e49 =>
      (idxL l2 c2).bind fun e50 =>
      bif xv8 then
       (M.byteset_Has p2 c1).bind fun rv22 =>
       (M.byteset_Has p2 c2).bind fun rv23 =>
       some ((e49 == e50) == (rv22 == rv23))
      else
       some ((e49 == e50) == false)
     else
      some false
    else
     some false).bind fun (xv39 : Bool) =>
   some xv39

def M.law07_BytesetOperations (a1 : (Vec 4)) (b1 : (Vec 4)) : Option Bool :=
 (
  (M.law07_awake).bind fun rv10 =>
  bif rv10 then
   (M.byteset_Union a1 b1).bind fun rv11 =>
   (M.ref07_Union a1 b1).bind fun rv12 =>
   bif (rv11 == rv12) then
    (M.byteset_Intersect a1 b1).bind fun rv13 =>
    (M.ref07_Intersect a1 b1).bind fun rv14 =>
    bif (rv13 == rv14) then
     (M.byteset_Complement a1).bind fun rv15 =>
     (M.ref07_Complement a1).bind fun rv16 =>
     bif (rv15 == rv16) then
      (M.byteset_Len a1).bind fun rv17 =>
      (M.ref07_Len a1).bind fun rv18 =>
      some (rv17 == rv18)
     else
      some false
    else
     some false
   else
    some false
  else
   some false).bind fun (xv1 : Bool) =>
 some xv1

def M.law07_BytesetAlgebra (p1 : (Vec 4)) (p2 : (Vec 4)) (p3 : (Vec 4)) : Option Bool :=
 (M.byteset_Complement p1).bind fun rv1 =>
 (
  (M.byteset_Complement rv1).bind fun rv9 =>
  bif (rv9 != p1) then
   some true
  else
   (M.byteset_Len rv1).bind fun rv10 =>
   (M.byteset_Len p1).bind fun rv11 =>
   (chk .i64 (256 - rv11)).bind fun t2 =>
   bif (rv10 != t2) then
    some true
   else
    (M.byteset_Union p1 rv1).bind fun rv12 =>
    (M.byteset_Range 0 255).bind fun rv13 =>
    bif (rv12 != rv13) then
     some true
    else
     (M.byteset_Intersect p1 rv1).bind fun rv14 =>
     (M.byteset_Len rv14).bind fun rv15 =>
     some (rv15 != 0)).bind fun (xv1 : Bool) =>
 bif xv1 then
  some false
 else
  (M.byteset_Union p1 p2).bind fun rv16 =>
  (M.byteset_Complement rv16).bind fun rv17 =>
  (M.byteset_Complement p2).bind fun rv18 =>
  (M.byteset_Intersect rv1 rv18).bind fun rv19 =>
  (M.byteset_Union p2 p3).bind fun rv20 =>
  (M.byteset_Intersect p1 rv20).bind fun rv21 =>
  (M.byteset_Intersect p1 p2).bind fun rv22 =>
  (M.byteset_Intersect p1 p3).bind fun rv23 =>
  (M.byteset_Union rv22 rv23).bind fun rv24 =>
  (
   (M.law07_awake).bind fun rv32 =>
   bif rv32 then
    bif (rv17 == rv19) then
     bif (rv21 == rv24) then
      (M.byteset_Len p1).bind fun rv33 =>
      (M.byteset_Len p2).bind fun rv34 =>
      (chk .i64 (rv33 + rv34)).bind fun t5 =>
      (M.byteset_Union p1 p2).bind fun rv35 =>
      (M.byteset_Len rv35).bind fun rv36 =>
      (M.byteset_Intersect p1 p2).bind fun rv37 =>
      (M.byteset_Len rv37).bind fun rv38 =>
      (chk .i64 (rv36 + rv38)).bind fun t6 =>
      some (t5 == t6)
     else
      some false
    else
     some false
   else
    some false).bind fun (xv2 : Bool) =>
  some xv2

end Go.Proofs.Ytjjinpgjfabemaa
