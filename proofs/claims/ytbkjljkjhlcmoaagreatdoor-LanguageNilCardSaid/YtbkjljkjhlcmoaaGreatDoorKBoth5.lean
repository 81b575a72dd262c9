/- Part 5. -/
import Derived.Test.YtbkjljkjhlcmoaaGreatDoorKBoth4
set_option linter.unusedVariables false
set_option linter.unusedSimpArgs false
set_option maxRecDepth 100000
namespace Go.Proofs.YtbkjljkjhlcmoaaGreatDoor
open Go.Lx
def DC:cg:=⟨[⟨[97],1,[97],[97],[]⟩],false,0,0⟩
def Gm:bB:=⟨List.replicate 97 0++List.replicate 1 1++List.replicate 158 0,[[-1,1],[-1,-1]],[-1,0]⟩
def DH:cg:=⟨[⟨[111,112,101,110],1,[92,40],[40],[]⟩,⟨[99,108,111,115,101],1,[92,41],[41],[]⟩,⟨[115,112,97,99,101],2,[91,32,92,110,93,43],[32],[]⟩],false,0,0⟩
def Gs:bB:=⟨List.replicate 10 0++List.replicate 1 1++List.replicate 21 0++List.replicate 1 1++List.replicate 7 0++List.replicate 1 2++List.replicate 1 3++List.replicate 214 0,[[-1,1,2,3],[-1,1,-1,-1],[-1,-1,-1,-1],[-1,-1,-1,-1]],[-1,2,0,1]⟩
def spec1:cg:=⟨[⟨[110,117,109],1,[91,48,45,57,93,43],[48],[]⟩,⟨[112,108,117,115],1,[92,43],[43],[]⟩,⟨[116,105,109,101,115],1,[92,42],[42],[]⟩,⟨[111,112,101,110],1,[92,40],[40],[]⟩,⟨[99,108,111,115,101],1,[92,41],[41],[]⟩,⟨[115,112,97,99,101],2,[91,32,92,110,93,43],[32],[]⟩],false,0,0⟩
def Gr:bB:=⟨List.replicate 10 0++List.replicate 1 1++List.replicate 21 0++List.replicate 1 1++List.replicate 7 0++List.replicate 1 2++List.replicate 1 3++List.replicate 1 4++List.replicate 1 5++List.replicate 4 0++List.replicate 10 6++List.replicate 198 0,[[-1,1,2,3,4,5,6],[-1,1,-1,-1,-1,-1,-1],[-1,-1,-1,-1,-1,-1,-1],[-1,-1,-1,-1,-1,-1,-1],[-1,-1,-1,-1,-1,-1,-1],[-1,-1,-1,-1,-1,-1,-1],[-1,-1,-1,-1,-1,-1,6]],[-1,5,3,4,2,1,0]⟩
def wV:cg:=⟨[⟨[105,102],3,[105,102],[105,102],[]⟩,⟨[116,104,101,110],3,[116,104,101,110],[116,104,101,110],[]⟩,⟨[101,110,100],3,[101,110,100],[101,110,100],[]⟩,⟨[110,97,109,101],1,[91,97,45,122,93,43],[120],[]⟩,⟨[105,115],1,[61],[61],[]⟩,⟨[115,112,97,99,101],2,[91,32,92,110,93,43],[32],[]⟩],false,3,0⟩
def AP:bB:=⟨List.replicate 10 0++List.replicate 1 1++List.replicate 21 0++List.replicate 1 1++List.replicate 28 0++List.replicate 1 2++List.replicate 35 0++List.replicate 3 3++List.replicate 1 4++List.replicate 1 5++List.replicate 1 6++List.replicate 1 3++List.replicate 1 7++List.replicate 1 8++List.replicate 4 3++List.replicate 1 9++List.replicate 5 3++List.replicate 1 10++List.replicate 6 3++List.replicate 133 0,[[-1,1,2,3,3,4,3,3,5,3,6],[-1,1,-1,-1,-1,-1,-1,-1,-1,-1,-1],[-1,-1,-1,-1,-1,-1,-1,-1,-1,-1,-1],[-1,-1,-1,3,3,3,3,3,3,3,3],[-1,-1,-1,3,3,3,3,3,3,7,3],[-1,-1,-1,3,3,3,8,3,3,3,3],[-1,-1,-1,3,3,3,3,9,3,3,3],[-1,-1,-1,3,10,3,3,3,3,3,3],[-1,-1,-1,3,3,3,3,3,3,3,3],[-1,-1,-1,3,3,11,3,3,3,3,3],[-1,-1,-1,3,3,3,3,3,3,3,3],[-1,-1,-1,3,3,3,3,3,3,12,3],[-1,-1,-1,3,3,3,3,3,3,3,3]],[-1,5,4,3,3,3,3,3,0,3,2,3,1]⟩
def DG:cg:=⟨[⟨[105,116,101,109],1,[91,97,45,122,93,43],[97],[]⟩,⟨[99,111,108,111,110],1,[58],[58],[]⟩,⟨[115,112,97,99,101],2,[91,32,92,110,93,43],[32],[]⟩],true,0,0⟩
def Gq:bB:=⟨List.replicate 10 0++List.replicate 1 1++List.replicate 21 0++List.replicate 1 1++List.replicate 25 0++List.replicate 1 2++List.replicate 38 0++List.replicate 26 3++List.replicate 133 0,[[-1,1,2,3],[-1,1,-1,-1],[-1,-1,-1,-1],[-1,-1,-1,3]],[-1,2,1,0]⟩
def DF:cg:=⟨[⟨[115,116,114],1,[39,91,97,45,122,32,93,42,39],[39,39],[39]⟩,⟨[99,111,109,109,97],1,[44],[44],[]⟩,⟨[110,97,109,101],1,[91,97,45,122,93,43],[120],[]⟩,⟨[115,112,97,99,101],2,[91,32,92,110,93,43],[32],[]⟩],false,0,4⟩
def Gp:bB:=⟨List.replicate 10 0++List.replicate 1 1++List.replicate 21 0++List.replicate 1 2++List.replicate 6 0++List.replicate 1 3++List.replicate 4 0++List.replicate 1 4++List.replicate 52 0++List.replicate 26 5++List.replicate 133 0,[[-1,1,1,2,3,4],[-1,1,1,-1,-1,-1],[-1,-1,2,5,-1,2],[-1,-1,-1,-1,-1,-1],[-1,-1,-1,-1,-1,4],[-1,-1,-1,-1,-1,-1]],[-1,3,-1,1,2,0]⟩
def DD:cg:=⟨[⟨[97],1,[97],[97],[]⟩,⟨[98],1,[98],[98],[]⟩,⟨[115,112,97,99,101],2,[91,32,92,110,93,43],[32],[]⟩],false,0,0⟩
def Gn:bB:=⟨List.replicate 10 0++List.replicate 1 1++List.replicate 21 0++List.replicate 1 1++List.replicate 64 0++List.replicate 1 2++List.replicate 1 3++List.replicate 157 0,[[-1,1,2,3],[-1,1,-1,-1],[-1,-1,-1,-1],[-1,-1,-1,-1]],[-1,2,0,1]⟩
theorem Is:M.a1 DC=some (Gm,0):=by decide +kernel
theorem Iy:M.a1 DH=some (Gs,0):=by decide +kernel
theorem Ix:M.a1 spec1=some (Gr,0):=by decide +kernel
theorem Iv:M.a1 DG=some (Gq,0):=by decide +kernel
theorem Iu:M.a1 DF=some (Gp,0):=by decide +kernel
theorem It:M.a1 DD=some (Gn,0):=by decide +kernel
mutual
def HU:aw→aw→Bool
 | ⟨k,s,l⟩,⟨k',s',l'⟩=>decide (k=k') && (decide (s.1=s'.1) && eqRs l l')
def eqRs:List aw→List aw→Bool
 | [],[]=>true
 | a::l,b::m=>HU a b && eqRs l m
 | _,_=>false
end
mutual
theorem Ff:∀(a b:aw),HU a b=true→a=b
 | ⟨k,s,l⟩,⟨k',s',l'⟩,h=>by
  simp only [HU,Bool.and_eq_true,decide_eq_true_eq] at h;obtain ⟨e,d,c⟩:=h;rw [e,Subtype.ext d,eqRs_ok _ _ c]
theorem eqRs_ok:∀(l m:List aw),eqRs l m=true→l=m
 | [],[],_=>rfl
 | a::l,b::m,h=>by simp only [eqRs,Bool.and_eq_true] at h; rw [Ff _ _ h.1,eqRs_ok _ _ h.2]
 | [],_::_,h=>by simp [eqRs] at h
 | _::_,[],h=>by simp [eqRs] at h
end
def eC {α:Type} (o o':Option α):Prop:=∀v,o=some v→o'=some v
theorem eC.refl {α:Type} (o:Option α):eC o o:=fun _ h=>h
theorem eC.bind {α β:Type} {o o':Option α} {f f':α→Option β} (h:eC o o') (k:∀x,eC (f x) (f' x)):eC (o.bind f) (o'.bind f'):=fun v hv=>by
 obtain ⟨x,h1,h2⟩:=Option.bind_eq_some_iff.1 hv;rw [h x h1];exact k x v h2
theorem eC.step {σ ρ:Type} {o o':Option (nG σ ρ)} {f f':σ→Option ρ} (h:eC o o') (k:∀x,eC (f x) (f' x)):eC (bH o f) (bH o' f'):=fun v hv=>by
 cases ho:o with
 | none=>rw [ho] at hv; cases hv
 | some x=>
  rw [ho] at hv;rw [h x ho];cases x with
  | next s=>exact k s v hv
  | stop r=>exact hv
theorem eC.loop {σ ρ:Type} {b b':σ→Option (nG σ ρ)} (h:∀s,eC (b s) (b' s)):∀(k:Nat) (s:σ),eC (bE b k s) (bE b' k s)
 | 0,_=>fun _ h=>h
 | k+1,s=>fun v hv=>by
  simp only [bE] at hv ⊢;cases hb:b s with
  | none=>rw [hb] at hv; cases hv
  | some x=>
   rw [hb] at hv;rw [h s x hb];cases x with
   | next s'=>exact eC.loop h k s' v hv
   | stop r=>exact hv
theorem eC.cond {α:Type} {c:Bool} {x y x' y':Option α} (h:eC x x') (k:eC y y'):eC (bif c then x else y) (bif c then x' else y'):=by cases c <;> assumption
def xj (B:List aw→Option (bB×Int)) (rv1:aw) (s1:Str):Option Bool:=
 (B [rv1]).bind fun rv2=>
 (M.d2 s1).bind fun rv3=>
 (B [rv3]).bind fun rv4=>
 (
  bif (rv2.2 != 0) then
   some true
  else
   some (rv4.2 != 0)).bind fun (xv1:Bool)=>
 bif xv1 then
  some false
 else
  (M.d8 rv2.1 rv4.1).bind fun rv5=>
  some (!rv5.2)
def uU (B:List aw→Option (bB×Int)) (spec1:cg):Option (bB×Int×Int):=
 (
  bif (decide ((spec1.Defs.length:Int)<1)) then
   some true
  else
   some (decide (40<(spec1.Defs.length:Int)))).bind fun (j:Bool)=>
 bif j then
  some ((bB.mk [] [] []),0,11)
 else
  bH (
   bE (fun (m:(List aw)×Int)=>match m with
   | (f,b)=>
    bif (decide (b<(spec1.Defs.length:Int))) then
     (bK spec1.Defs b).bind fun r=>
     (M.c6 spec1.Defs b).bind fun g=>
     bif (g != 0) then
      some (.stop (.stop ((bB.mk [] [] []),b,g)))
     else
      (M.e1 r.Pattern).bind fun n=>
      (dz 64 f [n.1]).bind fun q=>
      (dt .i64 (b+1)).bind fun k=>
      some (.next (q,k))
    else
     some (.stop (.next f))) fuel (([]:(List aw)),(0:Int))) fun (e:(List aw))=>
  (
   bif (decide (spec1.Misspelling<0)) then
    some true
   else
    bif (decide (1000<spec1.Misspelling)) then
     some true
    else
     bif (decide (spec1.Unclosed<0)) then
      some true
     else
      some (decide (1000<spec1.Unclosed))).bind fun (i:Bool)=>
  bif i then
   some ((bB.mk [] [] []),(spec1.Defs.length:Int),1)
  else
   (B e).bind fun c=>
   bif (c.2 != 0) then
    some ((bB.mk [] [] []),0,c.2)
   else
    bH (
     bE (fun (a:Int)=>
      bif (decide (a<(spec1.Defs.length:Int))) then
       (bK spec1.Defs a).bind fun d=>
       (M.h7 c.1 d.Sample).bind fun p=>
       bif (p != a) then
        some (.stop (.stop ((bB.mk [] [] []),a,13)))
       else
        (
         bif (d.Kind == 3) then
          (bK e a).bind fun s=>
          (xj B s d.Sample).bind fun o=>
          some (!o)
         else
          some false).bind fun (h:Bool)=>
        bif h then
         some (.stop (.stop ((bB.mk [] [] []),a,14)))
        else
         (dt .i64 (a+1)).bind fun l=>
         some (.next l)
      else
       some (.stop (.next ()))) fuel (0:Int)) fun _=>
    some (c.1,0,0)
theorem vI {B B':List aw→Option (bB×Int)} (h:∀l,eC (B l) (B' l)) (r:aw) (s:Str):eC (xj B r s) (xj B' r s):=by
 unfold xj;exact eC.bind (h _) fun _=>eC.bind (eC.refl _) fun _=>eC.bind (h _) fun _=>eC.bind (eC.refl _) fun _=>eC.cond (eC.refl _) (eC.refl _)
theorem wA {B B':List aw→Option (bB×Int)} (h:∀l,eC (B l) (B' l)) (x:cg):eC (uU B x) (uU B' x):=by
 unfold uU;refine eC.bind (eC.refl _) fun _=>eC.cond (eC.refl _) (eC.step (eC.refl _) fun _=>eC.bind (eC.refl _) fun _=>eC.cond (eC.refl _) (eC.bind (h _) fun _=>eC.cond (eC.refl _) (eC.step (eC.loop (fun _=>eC.cond ?_ (eC.refl _)) _ _) fun _=>eC.refl _)))
 exact eC.bind (eC.refl _) fun _=>eC.bind (eC.refl _) fun _=>eC.cond (eC.refl _) (eC.bind (eC.cond (eC.bind (eC.refl _) fun _=>eC.bind (vI h _ _) fun _=>eC.refl _) (eC.refl _)) fun _=>eC.refl _)
theorem De (x:cg):M.d3 x=uU M.b0 x:=rfl
def HQ:aw:=⟨4,⟨[0,0,0,0],rfl⟩,[⟨3,⟨[0,2199023255552,0,0],rfl⟩,[]⟩,⟨3,⟨[0,274877906944,0,0],rfl⟩,[]⟩]⟩
def Gl:bB:=⟨List.replicate 102 0++List.replicate 1 1++List.replicate 2 0++List.replicate 1 2++List.replicate 150 0,[[-1,-1,1],[-1,2,-1],[-1,-1,-1]],[-1,-1,0]⟩
theorem HZ:M.b0 [HQ]=some (Gl,0):=by decide +kernel
def HP:aw:=⟨4,⟨[0,0,0,0],rfl⟩,[⟨3,⟨[0,4503599627370496,0,0],rfl⟩,[]⟩,⟨3,⟨[0,1099511627776,0,0],rfl⟩,[]⟩,⟨3,⟨[0,137438953472,0,0],rfl⟩,[]⟩,⟨3,⟨[0,70368744177664,0,0],rfl⟩,[]⟩]⟩
def Gk:bB:=⟨List.replicate 101 0++List.replicate 1 1++List.replicate 2 0++List.replicate 1 2++List.replicate 5 0++List.replicate 1 3++List.replicate 5 0++List.replicate 1 4++List.replicate 139 0,[[-1,-1,-1,-1,1],[-1,-1,2,-1,-1],[-1,3,-1,-1,-1],[-1,-1,-1,4,-1],[-1,-1,-1,-1,-1]],[-1,-1,-1,-1,0]⟩
theorem HY:M.b0 [HP]=some (Gk,0):=by decide +kernel
def HO:aw:=⟨4,⟨[0,0,0,0],rfl⟩,[⟨3,⟨[0,137438953472,0,0],rfl⟩,[]⟩,⟨3,⟨[0,70368744177664,0,0],rfl⟩,[]⟩,⟨3,⟨[0,68719476736,0,0],rfl⟩,[]⟩]⟩
def Gj:bB:=⟨List.replicate 100 0++List.replicate 1 1++List.replicate 1 2++List.replicate 8 0++List.replicate 1 3++List.replicate 145 0,[[-1,-1,1,-1],[-1,-1,-1,2],[-1,3,-1,-1],[-1,-1,-1,-1]],[-1,-1,-1,0]⟩
theorem HX:M.b0 [HO]=some (Gj,0):=by decide +kernel
def zO:List aw:=[⟨4,⟨[0,0,0,0],rfl⟩,[⟨3,⟨[0,2199023255552,0,0],rfl⟩,[]⟩,⟨3,⟨[0,274877906944,0,0],rfl⟩,[]⟩]⟩,⟨4,⟨[0,0,0,0],rfl⟩,[⟨3,⟨[0,4503599627370496,0,0],rfl⟩,[]⟩,⟨3,⟨[0,1099511627776,0,0],rfl⟩,[]⟩,⟨3,⟨[0,137438953472,0,0],rfl⟩,[]⟩,⟨3,⟨[0,70368744177664,0,0],rfl⟩,[]⟩]⟩,⟨4,⟨[0,0,0,0],rfl⟩,[⟨3,⟨[0,137438953472,0,0],rfl⟩,[]⟩,⟨3,⟨[0,70368744177664,0,0],rfl⟩,[]⟩,⟨3,⟨[0,68719476736,0,0],rfl⟩,[]⟩]⟩,⟨4,⟨[0,0,0,0],rfl⟩,[⟨3,⟨[0,576460743713488896,0,0],rfl⟩,[]⟩,⟨6,⟨[0,0,0,0],rfl⟩,[⟨3,⟨[0,576460743713488896,0,0],rfl⟩,[]⟩]⟩]⟩,⟨3,⟨[2305843009213693952,0,0,0],rfl⟩,[]⟩,⟨4,⟨[0,0,0,0],rfl⟩,[⟨3,⟨[4294968320,0,0,0],rfl⟩,[]⟩,⟨6,⟨[0,0,0,0],rfl⟩,[⟨3,⟨[4294968320,0,0,0],rfl⟩,[]⟩]⟩]⟩]
theorem Fh:M.b0 zO=some (AP,0):=by decide +kernel
def Es (l:List aw):Option (bB×Int):=bif eqRs l [HQ] then some (Gl,0) else bif eqRs l [HP] then some (Gk,0) else bif eqRs l [HO] then some (Gj,0) else bif eqRs l zO then some (AP,0) else none
theorem BW (l:List aw):eC (Es l) (M.b0 l):=fun v h=>by
 unfold Es at h;cases a:eqRs l [HQ] with
 | true=>rw [a] at h; rw [eqRs_ok _ _ a,HZ]; exact h
 | false=>
  cases b:eqRs l [HP] with
  | true=>rw [a,b] at h; rw [eqRs_ok _ _ b,HY]; exact h
  | false=>
   cases c:eqRs l [HO] with
   | true=>rw [a,b,c] at h; rw [eqRs_ok _ _ c,HX]; exact h
   | false=>
    cases d:eqRs l zO with
    | true=>rw [a,b,c,d] at h; rw [eqRs_ok _ _ d,Fh]; exact h
    | false=>rw [a,b,c,d] at h; cases h
theorem Ir:uU Es wV=some (AP,0,0):=by decide +kernel
theorem Iw:M.a1 wV=some (AP,0):=by
 unfold M.a1;rw [De,wA BW wV _ Ir];rfl
end Go.Proofs.YtbkjljkjhlcmoaaGreatDoor
