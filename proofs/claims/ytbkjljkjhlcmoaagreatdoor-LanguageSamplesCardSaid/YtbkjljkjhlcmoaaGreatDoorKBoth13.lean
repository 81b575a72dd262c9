/- Part 13. -/
import Derived.Test.YtbkjljkjhlcmoaaGreatDoorKBoth12
set_option linter.unusedVariables false
set_option linter.unusedSimpArgs false
namespace Go.Lx
open Go.RowKit
noncomputable def fL (ops:List Oper) (g:Option (Nat×Bool)):Option (Option (CW (FrT→AV)×Bool)):=match g with
 | none=>some none
 | some (j,want)=>match me ops j with
  | some ⟨some d,_,_,_,_,_⟩=>some (some (gO d,want))
  | _=>none
def uD (want:Bool) (yes no:OR):AV→OR
 | .bool b=>bif (b == want) then yes else no
 | .tup []=>no
 | _=>.bad
def xX (yes no:OR):AV→OR
 | .bool true=>yes
 | .bool false=>no
 | _=>.bad
def AR (k:DSs→OR) (ds:DSs):AV→OR
 | .fn f [] cap=>k (.fn f cap::ds)
 | _=>.bad
noncomputable def If (put:FrT→AV→FrT) (a:KO):CW ot:=KO.casesOn a
 (fun _ g=>.mk fun _ s t n ds k=>OR.casesOn (g s t) .bad (fun v=>k (put s v) t n ds) (fun _ _ _=>.bad))
 (fun g=>.mk fun _ s t n ds k=>OR.casesOn (g s t n) .bad (fun _=>.bad) (fun v t n=>k (put s v) t n ds))
 (fun g=>.mk fun call s t n ds k=>OR.casesOn (g call s t n) .bad (fun _=>.bad) (fun v t n=>k (put s v) t n ds))
 (fun g=>.mk fun call s t n ds k=>OR.casesOn (g call s t n) .bad (fun _=>.bad) (fun _ t n=>k s t n ds))
def KO.isU:KO→Bool
 | .u _=>true
 | _=>false
noncomputable def wz (c:Call) (d:Option Tmp):Option (CW ot):=match c.callee,c.args.toList,d with
 | .value x,[],none=>Option.casesOn (bc x) none fun f=>CW.casesOn f fun f=>some (.mk fun _ s t n ds k=>AR (fun ds=>k s t n ds) ds (f s))
 | _,_,_=>none
noncomputable def pn (P:Program) (df:Bool) (m:Nat) (o:Oper):Option (CW ot):=match o.op with
 | .defer c=>bif df then wz c o.dst else none
 | op=>match mR m o.dst,sk P op with
  | some put,some ko=>bif ko.isU && o.dst.isSome then none else CW.casesOn put fun put=>some (If put ko)
  | _,_=>none
noncomputable def fP (P:Program) (df:Bool) (m:Nat) (ops:List Oper) (o:Oper):Option (CW ot):=match fL ops o.guard,mR m o.dst,pn P df m o with
 | some none,_,some f=>some f
 | some (some (g,want)),some put,some f=>CW.casesOn g fun g=>CW.casesOn put fun put=>CW.casesOn f fun f=>some (.mk fun call s t n ds k=>uD want (f call s t n ds k) (k (put s bV) t n ds) (g s))
 | _,_,_=>none
noncomputable def nT (f:Option (CW ot)):CW ot:=Option.casesOn f (.mk fun _ _ _ _ _ _=>.bad) id
noncomputable def tT (P:Program) (df:Bool) (m:Nat) (ops:List Oper) (l:List Oper):CW ot:=
 List.rec (.mk fun _ s t n ds k=>k s t n ds) (fun o _ ih=>CW.casesOn (nT (fP P df m ops o)) fun f=>CW.casesOn ih fun g=>.mk fun call s t n ds k=>f call s t n ds fun s t n ds=>g call s t n ds k) l
noncomputable def vc (acc:List Nat) (l:List Edge):Nat:=List.rec 0 (fun e _ ih=>bif Region.binds .any e then Nat.lor ih (Nat.lor (Nat.shiftLeft 1 e.on) (Option.casesOn (me acc e.on) 0 id)) else ih) l
noncomputable def qk (ops:List Oper):List Nat→List Nat:=List.rec (fun acc=>acc) (fun o _ ih acc=>ih (acc++[vc acc o.after.toList])) ops
noncomputable def cm (a i:Nat):Bool:=Nat.beq (Nat.land (Nat.shiftRight a i) 1) 1
def iM (o:Oper) (ko:Option KO):Nat:=match ko with
 | some (.v rd _)=>bif rd && o.dst.isNone then 2 else 0
 | some (.a _)=>if o.guard.isSome then 2 else 1
 | _=>2
noncomputable def kC (ops:List Oper):Nat→Bool:=List.rec (fun _=>true) (fun o _ ih j=>List.rec true (fun e _ ih=>bif Region.binds .any e then Nat.blt e.on j && ih else ih) o.after.toList && ih (Nat.succ j)) ops
noncomputable def Av (o:Op):Bool:=match o with
 | .defer _=>true
 | _=>false
noncomputable def pz (l:List Oper):Bool:=List.rec true (fun o _ ih=>!(Av o.op) && ih) l
noncomputable def iE (ks:List Nat):Nat→Nat:=List.rec (fun _=>0) (fun k _ ih j=>bif Nat.beq k 0 then ih (Nat.succ j) else Nat.lor (Nat.shiftLeft 1 j) (ih (Nat.succ j))) ks
noncomputable def kf (a j:Nat):Nat:=Nat.land a (Nat.sub (Nat.shiftLeft 1 j) 1)
noncomputable def vn (a b:Nat):Bool:=Nat.beq (Nat.land a b) a
noncomputable def vP (loud a:Nat) (ks:List Nat):Nat→Bool:=List.rec (fun _=>true) (fun k _ ih j=>(bif Nat.beq k 1 && cm a j then vn (kf loud j) a else true) && ih (Nat.succ j)) ks
noncomputable def pr (ks0:List Nat) (loud:Nat) (ks:List Nat):List Nat→Nat→Bool:=List.rec (fun _ _=>true) (fun k _ ih anc j=>List.casesOn anc false fun a anc=>(Nat.casesOn k (vP loud a ks0 0) fun k=>Nat.casesOn k (vP loud a ks0 0) fun _=>vn (kf loud j) a) && ih anc (Nat.succ j)) ks
noncomputable def uM (ops:List Oper):Nat→TR Nat→Option (TR Nat):=List.rec (fun _ t=>some t) (fun o _ ih j t=>Option.casesOn o.dst (ih (Nat.succ j) t) fun d=>Nat.casesOn (t.at 0 d) (ih (Nat.succ j) (t.set 0 d (Nat.succ j))) fun _=>none) ops
structure UX where
  ix:TR Nat
  anc:List Nat
  loud:Nat
  i:Nat
  a:Nat
noncomputable def cJ (u:UX) (x:Operand):Bool:=match x with
 | .tmp d=>Nat.casesOn (u.ix.at 0 d) true fun k=>cm u.a k || (Nat.beq (Nat.shiftRight u.loud (Nat.succ k)) 0 && Option.casesOn (me u.anc k) false fun b=>cm b u.i)
 | _=>true
noncomputable def tv (u:UX) (l:List Operand):Bool:=List.rec true (fun x _ ih=>cJ u x && ih) l
noncomputable def BU (u:UX) (l:List (Nat×Operand)):Bool:=List.rec true (fun x _ ih=>cJ u x.2 && ih) l
noncomputable def vm (u:UX) (x:Option Operand):Bool:=Option.casesOn x true fun x=>cJ u x
noncomputable def En (u:UX) (c:Call):Bool:=match c.callee with
 | .value f=>cJ u f && tv u c.args.toList
 | .builtin _=>tv u c.args.toList
 | _=>false
noncomputable def qN (u:UX) (o:Op):Bool:=match o with
 | .alloc _=>true
 | .move x=>cJ u x
 | .assign x=>cJ u x
 | .box _ x=>cJ u x
 | .load _ x=>cJ u x
 | .nilCheck x=>cJ u x
 | .unOp _ _ x=>cJ u x
 | .convert _ _ x=>cJ u x
 | .fieldAddr _ x _=>cJ u x
 | .field _ x _=>cJ u x
 | .range _ x=>cJ u x
 | .next x _=>cJ u x
 | .entry x=>cJ u x
 | .typeAssert x _ _ _=>cJ u x
 | .extract x _=>cJ u x
 | .pick c x y=>cJ u c && (cJ u x && cJ u y)
 | .build _ ps=>BU u ps.toList
 | .buildSlice _ _ ps=>BU u ps.toList
 | .store _ x y=>cJ u x && cJ u y
 | .binOp _ _ x y _=>cJ u x && cJ u y
 | .makeSlice _ x y=>cJ u x && cJ u y
 | .indexAddr _ x y=>cJ u x && cJ u y
 | .index _ x y=>cJ u x && cJ u y
 | .lookup _ x y _=>cJ u x && cJ u y
 | .mapEntry _ x y=>cJ u x && cJ u y
 | .makeFunc _ x y=>tv u x.toList && tv u y.toList
 | .makeMap _ r=>vm u r
 | .slice _ x l h m=>cJ u x && (vm u l && (vm u h && vm u m))
 | .mapUpdate _ x y z=>cJ u x && (cJ u y && cJ u z)
 | .entryStore _ x y z=>cJ u x && (cJ u y && cJ u z)
 | .insert _ x y z=>cJ u x && (cJ u y && cJ u z)
 | .call c=>En u c
 | _=>false
noncomputable def zp (u:UX) (ops:List Oper) (g:Option (Nat×Bool)):Bool:=match g with
 | none=>true
 | some (j,_)=>match me ops j with
  | some o=>Option.casesOn o.dst true fun d=>cJ u (.tmp d)
  | none=>true
noncomputable def ue (ix:TR Nat) (anc0:List Nat) (loud:Nat) (ops0 ops:List Oper):List Nat→Nat→Bool:=List.rec (fun _ _=>true) (fun o _ ih anc i=>List.casesOn anc false fun a anc=>qN ⟨ix,anc0,loud,i,a⟩ o.op && (zp ⟨ix,anc0,loud,i,a⟩ ops0 o.guard && ih anc (Nat.succ i))) ops
noncomputable def fG (a j:Nat) (ks:List Nat):Nat→List Bool→List Bool:=List.rec (fun _ acc=>acc) (fun k _ ih i acc=>bif Nat.blt i j && !(Nat.beq k 0) then ih (Nat.succ i) ((!(cm a i))::acc) else ih (Nat.succ i) acc) ks
noncomputable def Dq (l:List Bool):Bool:=List.rec false (fun b _ ih=>b || ih) l
noncomputable def pR {α:Type} (a j:Nat) (gs:List (Option α)):Nat→List α:=List.rec (fun _=>[]) (fun g _ ih i=>bif Nat.blt i j && !(cm a i) then Option.casesOn g (ih (Nat.succ i)) fun g=>g::ih (Nat.succ i) else ih (Nat.succ i)) gs
mutual
def cN:AV→AV→Bool
 | .int k a,.int k' b=>decide (k=k') && AJ a b
 | .bool a,.bool b=>a == b
 | .str a,.str b=>a == b
 | .ptr0,.ptr0=>true
 | .ptr a b,.ptr c d=>Nat.beq a c && Nat.beq b d
 | .sl0,.sl0=>true
 | .sl a b c d,.sl a' b' c' d'=>Nat.beq a a' && (Nat.beq b b' && (Nat.beq c c' && Nat.beq d d'))
 | .slz a b c d,.slz a' b' c' d'=>Nat.beq a a' && (Nat.beq b b' && (Nat.beq c c' && Nat.beq d d'))
 | .mp0,.mp0=>true
 | .mp a,.mp b=>Nat.beq a b
 | .fn0,.fn0=>true
 | .fn f a c,.fn f' a' c'=>Nat.beq f f' && (sameL a a' && sameL c c')
 | .yld a,.yld b=>Nat.beq a b
 | .if0,.if0=>true
 | .iface t a,.iface t' a'=>Nat.beq t t' && cN a a'
 | .agg l,.agg m=>sameL l m
 | .tup l,.tup m=>sameL l m
 | _,_=>false
def sameL:List AV→List AV→Bool
 | [],[]=>true
 | a::l,b::m=>cN a b && sameL l m
 | _,_=>false
end
def fH (a:AV):OR→Bool
 | .val b=>cN a b
 | _=>false
noncomputable def rX (g:HpT→OR) (a:AV) (bs:List Bool):List HpT→Bool:=List.rec (fun _=>true) (fun b _ ih hs=>List.casesOn hs false fun h r=>(bif b then fH a (g h) else true) && ih r) bs
abbrev Hw:=CallY→List HpT→FrT→HpT→Nat→DSs→KZ→OR
abbrev yg:=(FrT→HpT→OR)×(FrT→AV)
noncomputable def wb (l:List yg) (s:FrT) (t:HpT):Bool:=List.rec true (fun p _ ih=>fH (p.2 s) (p.1 s t) && ih) l
noncomputable def Fb (ops:List Oper) (o:Oper) (ko:Option KO):Option yg:=match ko,o.dst,fL ops o.guard with
 | some (.v true g),some d,some none=>CW.casesOn (gO d) fun f=>some (g,f)
 | some (.v true g),some d,some (some (h,want))=>CW.casesOn (gO d) fun f=>CW.casesOn h fun h=>some (fun s t=>uD want (g s t) (.val bV) (h s),f)
 | _,_,_=>none
noncomputable def rW (P:Program) (df:Bool) (m:Nat) (ops:List Oper) (ks:List Nat) (i:List (Option yg)) (j k a:Nat) (g:Option yg) (o:Oper) (c:Hw):CW Hw:=CW.casesOn (nT (fP P df m ops o)) fun f=>match k with
 | 0=>match g with
  | none=>.mk fun call b s t n ds k=>f call s t n ds fun s t n ds=>c call b s t n ds k
  | some (g,sel)=>match fG a j ks 0 [] with
   | bs=>bif Dq bs then .mk fun call b s t n ds k=>f call s t n ds fun s t n ds=>bif rX (g s) (sel s) bs b then c call b s t n ds k else .bad
    else .mk fun call b s t n ds k=>f call s t n ds fun s t n ds=>c call b s t n ds k
 | _=>match pR a j i 0 with
  | []=>.mk fun call b s t n ds k=>f call s t n ds fun s' d e h=>c call (t::b) s' d e h k
  | l=>.mk fun call b s t n ds k=>f call s t n ds fun s' d e h=>bif wb l s' d then c call (t::b) s' d e h k else .bad
noncomputable def qf (P:Program) (df:Bool) (m:Nat) (ops:List Oper) (ks:List Nat) (e:List (Option yg)) (l:List Oper):Nat→List Nat→List Nat→List (Option yg)→CW Hw:=
 List.rec (fun _ _ _ _=>.mk fun _ _ s t n ds k=>k s t n ds) (fun o _ ih j b anc c=>match b,anc,c with
  | k::b,a::anc,g::c=>CW.casesOn (ih (Nat.succ j) b anc c) fun d=>rW P df m ops ks e j k a g o d
  | _,_,_=>.mk fun _ _ _ _ _ _ _=>.bad) l
noncomputable def jQ (P:Program) (ops:List Oper):List (Option KO):=List.rec [] (fun o _ ih=>(match o.op with
 | .defer _=>none
 | op=>sk P op)::ih) ops
noncomputable def xE (ops:List Oper):List (Option KO)→List Nat:=List.rec (fun _=>[]) (fun o _ ih l=>List.casesOn l [] fun k l=>iM o k::ih l) ops
noncomputable def Fc (ops0 ops:List Oper):List (Option KO)→List (Option yg):=List.rec (fun _=>[]) (fun o _ ih l=>List.casesOn l [] fun k l=>Fb ops0 o k::ih l) ops
noncomputable def uO (P:Program) (df:Bool) (m:Nat) (ops:List Oper):CW ot:=match jQ P ops with
 | kos=>match xE ops kos,qk ops [],Fc ops ops kos,uM ops 0 .nil with
  | ks,anc,gs,some ix=>bif kC ops 0 && (pr ks (iE ks 0) ks anc 0 && (ue ix anc (iE ks 0) ops ops anc 0 && pz ops)) then
   CW.casesOn (qf P df m ops ks gs ops 0 ks anc gs) fun f=>.mk fun call s t n ds k=>f call [] s t n ds k
   else .mk fun _ _ _ _ _ _=>.bad
  | _,_,_,none=>.mk fun _ _ _ _ _ _=>.bad
noncomputable def uq (f:FrT→HpT→Nat→DSs→KZ→OR) (fuel:Nat):KZ:=Nat.rec (fun _ _ _ _=>.bad) (fun _ ih s t n ds=>f s t n ds ih) fuel
noncomputable def yD (f:Nat) (ps:List Tmp):Bool:=List.rec true (fun t _ ih=>Nat.blt t f && ih) ps
def Ht (P:Program) (g:FuncId):Bool:=match P.funcs[g]? with
 | some fn=>fn.body.isSome && !(fn.name == "runtime.NumGoroutine")
 | none=>false
noncomputable def mw (P:Program) (df:Bool) (call:CallY) (m:Nat) (ps:List Tmp) (c b:Code) (s:FrT) (t:HpT) (n:Nat) (ds:DSs) (a:KZ):AV→OR
 | .fn g [] cap=>bif df && (yD m ps && (Nat.beq (cG ps) 1 && Ht P g)) then (match call (.fn g) (.yld (Nat.succ n)::cap) ((t.put n (.other .defs)).put (Nat.succ n) (.loop m ps c b s)) (Nat.succ (Nat.succ n)) with
  | .mem _ t' n'=>match t'.get n,t'.get (Nat.succ n) with
   | .other .defs,.loop _ _ _ _ _=>a s (t'.put (Nat.succ n) .dead) n' (.mark n::ds)
   | _,_=>.bad
  | _=>.bad) else .bad
 | _=>.bad
noncomputable def za:CW fQ:=.mk fun _ _ _ _ _ _ _ _=>.bad
noncomputable def dO (P:Program) (df:Bool) (m fuel:Nat) (c:Code):CW fQ:=
 Code.rec (.mk fun _ s t n ds a _ _=>a s t n ds)
  (fun _ ops l=>CW.casesOn (bif l then uO P df m ops.toList else tT P df m ops.toList ops.toList) fun f=>.mk fun call s t n ds a _ _=>f call s t n ds a)
  (fun _ _ h e=>CW.casesOn h fun f=>CW.casesOn e fun g=>.mk fun call s t n ds a d b=>f call s t n ds (fun s t n ds=>g call s t n ds a d b) d b)
  (fun c _ _ h e=>Option.casesOn (bc c) za fun x=>CW.casesOn x fun x=>CW.casesOn h fun f=>CW.casesOn e fun g=>.mk fun call s t n ds a d b=>xX (f call s t n ds a d b) (g call s t n ds a d b) (x s))
  (fun i _ ih=>CW.casesOn ih fun f=>.mk fun call s t n ds a d b=>f call s t n ds a (fun j s t n ds=>bif Nat.beq j i then a s t n ds else d j s t n ds) b)
  (fun _ ih=>CW.casesOn ih fun f=>.mk fun call s t n ds _ d b=>uq (fun s t n ds k=>f call s t n ds k d b) fuel s t n ds)
  (fun f ps p o _ _=>Option.casesOn (bc f) za fun x=>CW.casesOn x fun x=>.mk fun call s t n ds a _ _=>mw P df call m ps.toList p o s t n ds a (x s))
  (fun i=>.mk fun _ s t n ds _ d _=>d i s t n ds) (fun _ ih=>ih) (fun _=>.mk fun _ s t n ds a _ _=>a s t n ds) (fun _=>za) (.mk fun _ s t n ds _ _ b=>b s t n ds) (fun _=>za) c
noncomputable def tQ (P:Program):ResultVar→Option (CW (FrT→HpT→OR))
 | .tmp t=>CW.casesOn (gO t) fun f=>some (.mk fun s _=>.val (f s))
 | .cell a T=>CW.casesOn (gO a) fun f=>match js P T with
  | some (true,size,_,_)=>some (.mk fun s t=>Cz size t (f s))
  | some (false,_,_,_)=>some (.mk fun s t=>CA t (f s))
  | none=>none
noncomputable def il (P:Program) (l:List ResultVar):Option (CW (FrT→HpT→(List AV→OR)→OR)):=
 List.rec (some (.mk fun _ _ k=>k [])) (fun r _ ih=>Option.casesOn (tQ P r) none fun f=>Option.casesOn ih none fun g=>CW.casesOn f fun f=>CW.casesOn g fun g=>some (.mk fun s t k=>OR.casesOn (f s t) .bad (fun v=>g s t fun l=>k (v::l)) (fun _ _ _=>.bad))) l
def sc:List Oper→Option (Tmp×Tmp)
 | [o1,o2]=>match o1.op,o1.dst,o1.guard,o2.op,o2.dst,o2.guard with
  | .call c,some a,none,.assign (.tmp a'),some b,none=>match c.callee,c.args.toList with
   | .builtin .recover,[]=>bif Nat.beq a a' then some (a,b) else none
   | _,_=>none
  | _,_,_,_,_,_=>none
 | _=>none
noncomputable def AO (P:Program) (fuel:Nat) (f:FuncId):CW (CallY→List AV→HpT→Nat→OR):=match P.funcs[f]? with
 | some fn=>match fn.body,bif fn.name == "runtime.NumGoroutine" then none else some fn.results.toList with
  | some (.seq (.region _ ops false) rest),some []=>match sc ops.toList with
   | some (a,b)=>bif Nat.blt a fn.ntmps && Nat.blt b fn.ntmps then CW.casesOn (dO P true fn.ntmps fuel rest) fun F=>.mk fun call xs t n=>bif Nat.ble (cG xs) fn.ntmps then F call (((jr xs 0 .nil).set bV a .if0).set bV b .if0) t n [] (fun _ t n ds=>List.casesOn ds (.mem bV t n) fun _ _=>.bad) (fun _ _ _ _ _=>.bad) (fun _ t n ds=>List.casesOn ds (.mem bV t n) fun _ _=>.bad) else .bad else .mk fun _ _ _ _=>.bad
   | none=>.mk fun _ _ _ _=>.bad
  | _,_=>.mk fun _ _ _ _=>.bad
 | none=>.mk fun _ _ _ _=>.bad
noncomputable def xc (P:Program) (fuel:Nat) (call:CallY) (ds:DSs):HpT→Nat→(HpT→Nat→OR)→OR:=List.rec (fun t n k=>k t n) (fun d _ ih t n k=>DE.casesOn d (fun f cap=>CW.casesOn (AO P fuel f) fun F=>OR.casesOn (F call cap t n) .bad (fun _=>.bad) (fun _ t n=>ih t n k)) (fun b=>match t.get b with
 | .other .defs=>ih (t.put b .dead) n k
 | _=>.bad)) ds
noncomputable def mP (P:Program) (fuel:Nat) (R:FrT→HpT→(List AV→OR)→OR) (call:CallY) (s:FrT) (t:HpT) (n:Nat) (ds:DSs):OR:=xc P fuel call ds t n fun t n=>R s t fun l=>.mem (Ex l) t n
noncomputable def Ge (P:Program) (fuel:Nat) (f:FuncId):CW (CallY→List AV→HpT→Nat→OR):=match P.funcs[f]? with
 | none=>.mk fun _ _ _ _=>.bad
 | some fn=>match fn.body,bif fn.name == "runtime.NumGoroutine" then none else il P fn.results.toList with
  | some c,some R=>CW.casesOn (dO P true fn.ntmps fuel c) fun F=>CW.casesOn R fun R=>.mk fun call xs t n=>bif Nat.ble (cG xs) fn.ntmps then
   F call (jr xs 0 .nil) t n [] (mP P fuel R call) (fun _ _ _ _ _=>.bad) (mP P fuel R call) else .bad
  | _,_=>.mk fun _ _ _ _=>.bad
noncomputable def zw (ts:List Tmp):FrT→List AV→FrT:=List.rec (fun s _=>s) (fun t _ ih s vs=>List.casesOn vs s fun v vs=>ih (s.set bV t v) vs) ts
noncomputable def Cf (P:Program) (fuel:Nat) (call:CallY) (b:Nat) (xs:List AV) (h:HpT) (n:Nat):OR:=match h.get b with
 | .loop f ps asg body s=>CW.casesOn (dO P false f fuel asg) fun A=>CW.casesOn (dO P false f fuel body) fun B=>
  bif !(Nat.beq (cG xs) (cG ps) && yD f ps) then .bad else A call (zw ps s xs) (h.put b .dead) n [] (fun a t n ds=>B call a t n ds (fun _ t n ds=>.mem (.bool true) (t.put b (.loop f ps asg body s)) n) (fun _ _ _ _ _=>.bad) (fun _ _ _ _=>.bad)) (fun _ _ _ _ _=>.bad) (fun _ _ _ _=>.bad)
 | _=>.bad
abbrev zh:=FuncId→Option (CW (List AV→HpT→Nat→OR))
noncomputable def yq (P:Program) (lib:zh) (fuel:Nat) (d:Nat):CallY:=
 Nat.rec (fun _ _ _ _=>.bad) (fun _ ih t=>CT.casesOn t (fun f=>match lib f with
  | some g=>CW.casesOn g fun g=>g
  | none=>CW.casesOn (Ge P fuel f) fun F=>F ih) (fun b xs h n=>Cf P fuel ih b xs h n)) d
theorem iL (m:Nat):Nat.land m 1=m % 2:=Nat.and_one_is_mod m
theorem mg (m:Nat):Nat.shiftRight m 1=m / 2:=by
 show m >>> 1=m / 2;rw [Nat.shiftRight_eq_div_pow]
section
variable {α:Type} {d:α}
theorem TR.at_nil (n:Nat):TR.at d .nil n=d:=rfl
theorem TR.at_succ (x:α) (l r:TR α) (m:Nat):TR.at d (.node x l r) (m+1)=if m % 2=0 then TR.at d l (m / 2) else TR.at d r (m / 2):=by
 show (Nat.casesOn (Nat.land m 1) (TR.at d l (Nat.shiftRight m 1)) fun _=>TR.at d r (Nat.shiftRight m 1):α)=_;rw [iL,mg];rcases Nat.mod_two_eq_zero_or_one m with h|h <;> rw [h] <;> rfl
theorem TR.new_zero (k:Nat) (v:α):TR.new d (k+1) 0 v=.node v .nil .nil:=rfl
theorem TR.new_succ (k m:Nat) (v:α):TR.new d (k+1) (m+1) v=if m % 2=0 then .node d (TR.new d k (m / 2) v) .nil else .node d .nil (TR.new d k (m / 2) v):=by
 show (Nat.casesOn (Nat.land m 1) (TR.node d (TR.new d k (Nat.shiftRight m 1) v) .nil) fun _=>TR.node d .nil (TR.new d k (Nat.shiftRight m 1) v):TR α)=_;rw [iL,mg];rcases Nat.mod_two_eq_zero_or_one m with h|h <;> rw [h] <;> rfl
theorem TR.at_new:∀(k n m:Nat) (v:α),n<k→TR.at d (TR.new d k n v) m=if m=n then v else d
 | 0,n,m,v,h=>by omega
 | k+1,0,m,v,h=>by
  rw [TR.new_zero];cases m with
  | zero=>rfl
  | succ m=>rw [TR.at_succ]; simp [TR.at_nil]
 | k+1,n+1,m,v,h=>by
  rw [TR.new_succ];have a:n / 2<k:=by omega
  cases m with
  | zero=>
   have b:¬ (0=n+1):=by omega
   simp only [b,if_false];split <;> rfl
  | succ m=>
   split
   ·rename_i hn;rw [TR.at_succ];split
    ·rename_i hm;rw [TR.at_new k (n / 2) (m / 2) v a]
     by_cases e:m=n
     ·subst e; simp
     ·rw [if_neg (by omega),if_neg (by omega)]
    ·rename_i hm;rw [TR.at_nil,if_neg (by omega)]
   ·rename_i hn;rw [TR.at_succ];split
    ·rename_i hm;rw [TR.at_nil,if_neg (by omega)]
    ·rename_i hm;rw [TR.at_new k (n / 2) (m / 2) v a]
     by_cases e:m=n
     ·subst e; simp
     ·rw [if_neg (by omega),if_neg (by omega)]
theorem TR.set_nil (n:Nat) (v:α):TR.set d .nil n v=TR.new d (n+1) n v:=rfl
theorem TR.set_zero (x:α) (l r:TR α) (v:α):TR.set d (.node x l r) 0 v=.node v l r:=rfl
theorem TR.set_succ (x:α) (l r:TR α) (m:Nat) (v:α):TR.set d (.node x l r) (m+1) v=if m % 2=0 then .node x (TR.set d l (m / 2) v) r else .node x l (TR.set d r (m / 2) v):=by
 show (Nat.casesOn (Nat.land m 1) (TR.node x (TR.set d l (Nat.shiftRight m 1) v) r) fun _=>TR.node x l (TR.set d r (Nat.shiftRight m 1) v):TR α)=_;rw [iL,mg];rcases Nat.mod_two_eq_zero_or_one m with h|h <;> rw [h] <;> rfl
theorem TR.at_set:∀(t:TR α) (n m:Nat) (v:α),TR.at d (TR.set d t n v) m=if m=n then v else TR.at d t m
 | .nil,n,m,v=>by rw [TR.set_nil,TR.at_new _ _ _ _ (Nat.lt_succ_self n),TR.at_nil]
 | .node x l r,0,m,v=>by
  rw [TR.set_zero];cases m with
  | zero=>rfl
  | succ m=>rw [if_neg (by omega),TR.at_succ,TR.at_succ]
 | .node x l r,n+1,m,v=>by
  rw [TR.set_succ];cases m with
  | zero=>
   have a:¬ (0=n+1):=by omega
   simp only [a,if_false];split <;> rfl
  | succ m=>
   split
   ·rename_i hn;rw [TR.at_succ,TR.at_succ];split
    ·rename_i hm;rw [TR.at_set l (n / 2) (m / 2) v]
     by_cases e:m=n
     ·subst e; simp
     ·rw [if_neg (by omega),if_neg (by omega)]
    ·rw [if_neg (by omega)]
   ·rename_i hn;rw [TR.at_succ,TR.at_succ];split
    ·rw [if_neg (by omega)]
    ·rename_i hm;rw [TR.at_set r (n / 2) (m / 2) v]
     by_cases e:m=n
     ·subst e; simp
     ·rw [if_neg (by omega),if_neg (by omega)]
end
theorem Cd (s:FrT):zC s=s.at bV 0:=by cases s <;> rfl
theorem Cy (s:FrT) (m:Nat) (h:m % 2=0):(rn s).at bV (m / 2)=s.at bV (m+1):=by
 cases s with
 | nil=>rfl
 | node x l r=>rw [TR.at_succ,if_pos h]; rfl
theorem zD (s:FrT) (m:Nat) (h:¬ m % 2=0):(nc s).at bV (m / 2)=s.at bV (m+1):=by
 cases s with
 | nil=>rfl
 | node x l r=>rw [TR.at_succ,if_neg h]; rfl
theorem zy (k m:Nat):vu (k+1) (m+1)=if m % 2=0 then CW.casesOn (vu k (m / 2)) (fun f=>.mk fun s=>f (rn s)) else CW.casesOn (vu k (m / 2)) (fun f=>.mk fun s=>f (nc s)):=by
 show (Nat.casesOn (Nat.land m 1) (CW.casesOn (vu k (Nat.shiftRight m 1)) (fun f=>.mk fun s=>f (rn s))) fun _=>CW.casesOn (vu k (Nat.shiftRight m 1)) (fun f=>.mk fun s=>f (nc s)):CW (FrT→AV))=_;rw [iL,mg];rcases Nat.mod_two_eq_zero_or_one m with h|h <;> rw [h] <;> rfl
theorem wY:∀(k n:Nat),n<k→∃f,vu k n=.mk f∧∀s,f s=s.at bV n
 | 0,n,h=>by omega
 | k+1,0,_=>⟨zC,rfl,Cd⟩
 | k+1,n+1,h=>by
  obtain ⟨f,b,a⟩:=wY k (n / 2) (by omega);rw [zy];split
  ·rename_i hn;exact ⟨fun s=>f (rn s),by rw [b],fun s=>by show f (rn s)=_; rw [a,Cy s n hn]⟩
  ·rename_i hn;exact ⟨fun s=>f (nc s),by rw [b],fun s=>by show f (nc s)=_; rw [a,zD s n hn]⟩
theorem gm (t:Nat) {f:FrT→AV} (h:gO t=.mk f) (s:FrT):f s=s.at bV t:=by
 obtain ⟨g,hg,hs⟩:=wY (t+1) t (Nat.lt_succ_self t);unfold gO at h;rw [show Nat.succ t=t+1 from rfl,hg] at h;cases h
 exact hs s
theorem zL (k m:Nat):tW (k+1) (m+1)=if m % 2=0 then CW.casesOn (tW k (m / 2)) (fun f=>.mk (mh f)) else CW.casesOn (tW k (m / 2)) (fun f=>.mk (kx f)):=by
 show (Nat.casesOn (Nat.land m 1) (CW.casesOn (tW k (Nat.shiftRight m 1)) (fun f=>.mk (mh f))) fun _=>CW.casesOn (tW k (Nat.shiftRight m 1)) (fun f=>.mk (kx f)):CW (FrT→AV→FrT))=_;rw [iL,mg];rcases Nat.mod_two_eq_zero_or_one m with h|h <;> rw [h] <;> rfl
theorem xh:∀(k n:Nat),n<k→∃f,tW k n=.mk f∧∀s v m,(f s v).at bV m=if m=n then v else s.at bV m
 | 0,n,h=>by omega
 | k+1,0,_=>⟨tK,rfl,fun s v m=>by
  cases s with
  | nil=>cases m with
   | zero=>rfl
   | succ m=>show TR.at bV (.node v .nil .nil) (m+1)=_; rw [if_neg (by omega),TR.at_succ]; simp [TR.at_nil]
  | node x l r=>cases m with
   | zero=>rfl
   | succ m=>show TR.at bV (.node v l r) (m+1)=_; rw [if_neg (by omega),TR.at_succ,TR.at_succ]⟩
 | k+1,n+1,h=>by
  obtain ⟨f,b,a⟩:=xh k (n / 2) (by omega);rw [zL];split
  ·rename_i hn;refine ⟨mh f,by rw [b],fun s v m=>?_⟩;cases s with
   | nil=>
    show TR.at bV (.node bV (f .nil v) .nil) m=_;cases m with
    | zero=>rw [if_neg (by omega)]; rfl
    | succ m=>
     rw [TR.at_succ];split
     ·rename_i hm;rw [a]
      by_cases e:m=n
      ·subst e; simp
      ·rw [if_neg (by omega),if_neg (by omega)]; rfl
     ·rw [if_neg (by omega)]; rfl
   | node x l r=>
    show TR.at bV (.node x (f l v) r) m=_;cases m with
    | zero=>rw [if_neg (by omega)]; rfl
    | succ m=>
     rw [TR.at_succ,TR.at_succ];split
     ·rename_i hm;rw [a]
      by_cases e:m=n
      ·subst e; simp
      ·rw [if_neg (by omega),if_neg (by omega)]
     ·rw [if_neg (by omega)]
  ·rename_i hn;refine ⟨kx f,by rw [b],fun s v m=>?_⟩;cases s with
   | nil=>
    show TR.at bV (.node bV .nil (f .nil v)) m=_;cases m with
    | zero=>rw [if_neg (by omega)]; rfl
    | succ m=>
     rw [TR.at_succ];split
     ·rw [if_neg (by omega)]; rfl
     ·rename_i hm;rw [a]
      by_cases e:m=n
      ·subst e; simp
      ·rw [if_neg (by omega),if_neg (by omega)]; rfl
   | node x l r=>
    show TR.at bV (.node x l (f r v)) m=_;cases m with
    | zero=>rw [if_neg (by omega)]; rfl
    | succ m=>
     rw [TR.at_succ,TR.at_succ];split
     ·rw [if_neg (by omega)]
     ·rename_i hm;rw [a]
      by_cases e:m=n
      ·subst e; simp
      ·rw [if_neg (by omega),if_neg (by omega)]
theorem sT {m:Nat} {d:Option Tmp} {f:FrT→AV→FrT} (h:mR m d=some (.mk f)):(∀x,d=some x→x<m)∧∀s v k,(f s v).at bV k=match d with
 | some x=>if k=x then v else s.at bV k
 | none=>s.at bV k:=by
 cases d with
 | none=>
  have h:some (CW.mk fun (s:FrT) (_:AV)=>s)=some (.mk f):=h;cases h
  exact ⟨by simp,fun _ _ _=>rfl⟩
 | some x=>
  have h:(bif Nat.blt x m then some (tW (Nat.succ x) x) else none)=some (.mk f):=h;cases hb:Nat.blt x m with
  | false=>rw [hb] at h; cases h
  | true=>
   rw [hb,cond_true] at h;have b:x<m:=Nat.le_of_ble_eq_true hb;obtain ⟨g,c,a⟩:=xh (x+1) x (Nat.lt_succ_self x);rw [show Nat.succ x=x+1 from rfl,c] at h;cases h
   exact ⟨fun y hy=>by cases hy; exact b,fun s v k=>a s v k⟩
theorem cQ {α:Type}:∀(l:List α),cG l=l.length
 | []=>rfl
 | x::r=>by show Nat.succ (cG r)=_; rw [cQ r]; rfl
theorem fS {α:Type}:∀(l:List α) (i:Nat),me l i=l[i]?
 | [],i=>by simp [me]
 | x::r,0=>rfl
 | x::r,i+1=>by show me r i=_; rw [fS r i]; simp
theorem uN {α:Type}:∀(l:List α) (i:Nat),xM l i=l.drop i
 | [],i=>by simp [xM]
 | x::r,0=>rfl
 | x::r,i+1=>by show xM r i=_; rw [uN r i]; rfl
theorem tA {α:Type}:∀(l:List α) (i:Nat),wP l i=l.take i
 | [],i=>by simp [wP]
 | x::r,0=>rfl
 | x::r,i+1=>by show x::wP r i=_; rw [tA r i]; rfl
theorem iy:∀(l:List AV),mC l=l.all jc
 | []=>rfl
 | x::r=>by show (jc x && mC r)=_; rw [iy r]; rfl
theorem pj (t:TR AV) (k o:Nat):qX t (k+1) o=t.at bV o::qX t k (o+1):=rfl
theorem mr (t:TR AV):∀(k o:Nat),(qX t k o).length=k
 | 0,o=>rfl
 | k+1,o=>by rw [pj,List.length_cons,mr t k]
theorem ow (t:TR AV):∀(k o i:Nat),(qX t k o)[i]?=if i<k then some (t.at bV (o+i)) else none
 | 0,o,i=>by show ([]:List AV)[i]?=_; simp
 | k+1,o,0=>by rw [pj]; simp
 | k+1,o,i+1=>by
  rw [pj,List.getElem?_cons_succ,ow t k (o+1) i]
  by_cases h:i<k
  ·rw [if_pos h,if_pos (by omega),show o+1+i=o+(i+1) by omega]
  ·rw [if_neg h,if_neg (by omega)]
theorem fy (t:TR AV) (n i:Nat):(tx t n)[i]?=if i<n then some (t.at bV i) else none:=by
 unfold tx; rw [ow]; simp
theorem eu (t:TR AV) (n:Nat):(tx t n).length=n:=mr t n 0
theorem mq (t:TR AV) (n k o:Nat) (h:o+k≤n):qX t k o=((tx t n).drop o).take k:=by
 refine List.ext_getElem? fun i=>?_
 rw [ow,List.getElem?_take,List.getElem?_drop,fy]
 by_cases hi:i<k
 ·rw [if_pos hi,if_pos hi,if_pos (by omega)]
 ·rw [if_neg hi,if_neg hi]
theorem oP:∀(vs:List AV) (o:Nat) (t:TR AV) (m:Nat),(jr vs o t).at bV m=if m<o then t.at bV m else (match vs[m - o]? with|some v=>v|none=>t.at bV m)
 | [],o,t,m=>by simp [jr]
 | v::vs,o,t,m=>by
  show (jr vs (o+1) (t.set bV o v)).at bV m=_;rw [oP vs (o+1) _ m,TR.at_set]
  by_cases h:m<o
  ·rw [if_pos (by omega),if_pos h,if_neg (by omega)]
  ·by_cases a:m=o
   ·subst a; simp
   ·rw [if_neg (by omega),if_neg h,if_neg a,show m - o=(m - (o+1))+1 by omega,List.getElem?_cons_succ]
theorem oO (vs:List AV) (o n:Nat) (t:TR AV) (h:o+vs.length≤n):tx (jr vs o t) n=(tx t n).take o++vs++(tx t n).drop (o+vs.length):=by
 refine List.ext_getElem? fun i=>?_
 rw [fy,oP];have a:=eu t n
 by_cases b:i<o
 ·rw [if_pos (by omega),if_pos b,Jv,Jw (by rw [JG]; omega),List.getElem?_take_of_lt b,fy,if_pos (by omega)]
 ·rw [if_neg b]
  by_cases d:i<o+vs.length
  ·rw [if_pos (by omega),Jv,JK (by rw [JG]; omega),JG,a,Nat.min_eq_left (by omega),Jw (by omega)];have c:i - o<vs.length:=by omega
   rw [Jn c]
  ·rw [JK (by simp [a]; omega),Jr,JG,a,Nat.min_eq_left (by omega),List.getElem?_drop,fy,show o+vs.length+(i - (o+vs.length))=i by omega,JH (by omega)]
theorem fR (vs:List AV):tx (jr vs 0 .nil) (cG vs)=vs:=by
 rw [cQ,oO vs 0 vs.length .nil (by omega)];simp [eu]
theorem BT (vs:List AV) (k n:Nat) (t:TR AV) (h:k≤n):tx (jr vs k t) (k+cG vs)=(tx t n).take k++vs:=by
 rw [cQ];refine List.ext_getElem? fun i=>?_
 rw [fy,oP];have b:=eu t n
 by_cases a:i<k
 ·rw [if_pos (by omega),if_pos a,Jw (by rw [JG]; omega),List.getElem?_take_of_lt a,fy,if_pos (by omega)]
 ·rw [if_neg a,JK (by rw [JG]; omega),JG,b,Nat.min_eq_left h]
  by_cases c:i - k<vs.length
  ·rw [if_pos (by omega),Jn c]
  ·rw [if_neg (by omega),JH (by omega)]
theorem cH (h:HpT) (n:Nat):(co h n).length=n:=by simp [co]
theorem kD (h:HpT) (n b:Nat):(co h n)[b]?=if b<n then some (h.get b).ab else none:=by
 by_cases h1:b<n <;> simp [co,h1]
theorem mJ (h:HpT) (b c:Nat) (x:XB):(h.put b x).get c=if c=b then x else h.get c:=TR.at_set h b c x
theorem dp (h:HpT) (n b:Nat) (x:XB):co (h.put b x) n=(co h n).set b x.ab:=by
 refine List.ext_getElem? fun i=>?_
 rw [kD,JM,kD,cH,mJ]
 by_cases hb:b=i
 ·subst hb; simp
 ·rw [if_neg (Ne.symm hb),if_neg hb]
theorem dq (h:HpT) (n:Nat) (x:XB):co (h.put n x) (n+1)=co h n++[x.ab]:=by
 refine List.ext_getElem? fun i=>?_
 rw [kD,mJ]
 by_cases a:i<n
 ·rw [Jw (by rw [cH]; exact a),kD,if_pos (by omega),if_neg (by omega),if_pos a]
 ·rw [JK (by rw [cH]; omega),cH]
  by_cases b:i=n
  ·subst b; simp
  ·rw [if_neg (by omega),JH (by simp; omega)]
theorem AE {h:HpT} {n b:Nat} {x:AB} (hb:(h.get b).ab=x) (hn:b<n):(co h n)[b]?=some x:=by rw [kD,if_pos hn,hb]
section
variable {P:Program} {E:Env} {w:World} {w0:Frm} {d:Option Tmp} {ty:TypeId} {ps:String} {af:Array Edge} {gd:Option (Nat×Bool)} {ρ:List Place} {h:List AB} {s:Nat→AV}
theorem HR.newRow (hr:HR w0 ρ h w) {l:List AV} {cs:Array Value} {e c:Nat} (d:concL ρ l=some cs.toList) (T:TypeId) (k:0<e) (b:l.length=c*e) (o:c≤maxLen) (n:Nat) :
 HR w0 (ρ++[⟨w.heap.size,0,l.length⟩]) (h++[.cells l T e true]) (w.alloc (.cells cs T))∧aD (ρ++[⟨w.heap.size,0,l.length⟩]) (.sl h.length 0 n e)=some (.slice (some ⟨w.heap.size,0,none⟩) n c):=by
 have m:l.length / e=c:=by rw [b]; exact Nat.mul_div_cancel _ k
 constructor
 ·refine hr.alloc _ ?_;have g:=bI d;refine ⟨cs,T,(0,0),heap_alloc_new w _,fun _=>⟨rfl,rfl,rfl,by show l.length % e=0; rw [b]; exact Nat.mul_mod_left _ _,by show l.length / e≤maxLen; omega,by show cs.size=0+l.length; rw [←g]; simp⟩,Nat.le_refl _,fun i a j=>?_⟩
  ·obtain ⟨v,f,b⟩:=di d j;refine ⟨v,?_,bS (bj.app _ _) a v b⟩;show cs[0+i]?=some v;rw [Nat.zero_add]; simpa using f
 ·simp only [aD];rw [←hr.len,List.getElem?_concat_length];simp only [Nat.sub_zero,m,Nat.add_zero]
theorem gz {T el:TypeId} (h:jV P T=some el):P.underlying T=some (.slice el):=by
 unfold jV at h;split at h
 ·rename_i e hT; cases h; exact hT
 ·cases h
theorem Ca (hr:HR w0 ρ h w) {e:Nat} {a:AV} {v:Value} {m:Nat} {ys:List AV} (d:aD ρ a=some v) (c:tF h e none a=some (m,ys)) (n:∀s,a≠.str s) :
 ∃us,concL ρ ys=some us∧Dt w v m us∧us.length=m*e:=by
 cases a with
 | sl0=>
  simp only [tF,Option.some.injEq,Prod.mk.injEq] at c;obtain ⟨rfl,rfl⟩:=c;cases d
  exact ⟨[],rfl,.inl ⟨rfl,rfl,rfl⟩,by simp⟩
 | slz b o l e'=>
  simp only [tF,Option.some.injEq,Prod.mk.injEq] at c;obtain ⟨rfl,rfl⟩:=c;simp only [aD] at d;split at d
  ·cases d; exact ⟨[],rfl,.inr ⟨_,_,rfl,by simp⟩,by simp⟩
  ·cases d
 | str s=>exact absurd rfl (n _)
 | sl b o l e'=>
  simp only [tF] at c;split at c
  ·rename_i he;subst he;split at c
   ·rename_i cs T' e'' own hb;obtain ⟨p,k,rfl⟩:=dK d;split at c
    ·rename_i hle;simp only [Option.some.injEq,Prod.mk.injEq] at c;obtain ⟨rfl,rfl⟩:=c;obtain ⟨vs,g,q⟩:=gD (ρ:=ρ) (l:=(cs.drop o).take (l*e')) (fun i=>w.cell? ⟨p.b,p.o+o+i,none⟩) (fun i a f=>by
      rw [List.getElem?_take] at f;split at f
      ·rw [List.getElem?_drop] at f;obtain ⟨v,d,r⟩:=hr.cell k hb f;exact ⟨v,by rw [Nat.add_assoc]; exact d,r⟩
      ·cases f)
     refine ⟨vs,g,.inr ⟨_,_,rfl,fun j y hy=>?_⟩,?_⟩
     ·rw [Addr.add_lit]; exact q j y hy
     ·rw [bI g,JG,JQ]; omega
    ·cases c
   ·cases c
  ·cases c
 | _=>simp only [tF] at c; cases c
theorem HR.keep (hr:HR w0 ρ h w) {w':World} (hg:w.grownBy w' none):HR w0 ρ h w':=by
 have hs:=hr.below.size;refine ⟨hr.below.grown hg (fun k hk e=>by cases e),hr.len,fun b p x hp hx=>?_,hr.fresh,hr.apart,hr.off⟩;have h1:=hr.at_ b p x hp hx;exact h1.kept fun hl=>hg.block _ (h1.lt hl) (fun e=>by cases e)
theorem HR.appendNil (hr:HR w0 ρ h w) (t ty T:TypeId) {agg:Bool} {size p:Nat} {z:Value} (B:P.underlying t=some (.slice T)) (R:dF P T agg size p z) (s:z.cells.size=size) (hsz:0<size)
 {m:Nat} {ys:List AV} {u:Value} {c:List Value} (x:Dt w u m c) (l:concL ρ ys=some c) (H:c.length=m*size) (Z:∀y∈c,y.oneCell'=true) (hm:0<m) (a3:m≤maxLen) (W:m*p≤140737488355328) :
 ∃j w' q,(Builtin.append_ #[t,t] ty #[.slice none 0 0,u]).run P w=.ok j w'∧HR w0 (ρ++[q]) (h++[.cells ys T size true]) w'∧aD (ρ++[q]) (.sl h.length 0 m size)=some j:=by
 obtain ⟨j,w',D,n,Q,X,_⟩:=fB (P:=P) t ty T B R s hsz (World.ownsRow_nil w 0 T size) x H Z (by omega) (by rw [Nat.zero_add]; exact W);simp only [Nat.zero_add,Jx] at n;rcases n.2 with ⟨_,h0⟩|⟨g,cap,a0,rfl,_,K,F,U,S,A⟩
 ·omega
 have N:w.grownBy w' none:=Q;have I:=hr.keep N;have o:cap*size / size=cap:=Nat.mul_div_cancel _ hsz;have L:w.heap.size≤g:=by
  rcases X g rfl with f|f
  ·simp [Value.ownBlock] at f
  ·exact f
 refine ⟨_,w',⟨g,0,cap*size⟩,D,?_,?_⟩
 ·refine I.add (q:=⟨g,0,cap*size⟩) ?_ ?_ ?_
  ·refine ⟨a0,T,(0,0),K,fun _=>⟨rfl,rfl,rfl,Nat.mul_mod_left _ _,by show cap*size / size≤maxLen; rw [o]; exact U,by simpa using S⟩,?_,fun i a J=>?_⟩
   ·have:=bI l;have a2:m*size≤cap*size:=JD _ F;show ys.length≤cap*size;omega
   ·obtain ⟨v,e,V⟩:=di l J;refine ⟨v,?_,bS (bj.app _ _) a v V⟩;rw [←A,List.getElem?_take] at e;split at e
    ·rw [Nat.zero_add]; simpa using e
    ·cases e
  ·exact fun k=>Nat.lt_irrefl _ (Nat.lt_of_lt_of_le (hr.below.lt k) L)
  ·intro d r y k hy G;have f:=(hr.at_ d r y k hy).lt G;show r.b≠g;omega
 ·simp only [aD];rw [←hr.len,List.getElem?_concat_length];simp only [Nat.zero_add,Nat.sub_zero];rw [o]
def wL (P:Program) (E:Env) (w0:Frm) (ρ:List Place) (o:Oper) (w:World) (a:AV) (h':List AB):Prop:=∃ρ' v w',bj ρ ρ'∧aD ρ' a=some v∧HR w0 ρ' h' w'∧bo P E o w v w'
theorem fF {o:Oper} {a:AV} (hr:HR w0 ρ h w) (hh:∃v,aD ρ a=some v∧bo P E o w v w):wL P E w0 ρ o w a h:=by
 obtain ⟨v,h1,h2⟩:=hh;exact ⟨ρ,v,w,bj.refl _,h1,hr,h2⟩
theorem tG {n:Nat} (h:Nat.ble n 1000000=true):n≤maxLen:=by have:=Nat.le_of_ble_eq_true h; simp only [maxLen]; omega
theorem nQ {n b:Nat} (h:Nat.ble n 1000000=true) (hb:Nat.ble b 10000=true):n*b≤140737488355328:=by
 have h1:=Nat.le_of_ble_eq_true h;have h2:=Nat.le_of_ble_eq_true hb;exact Nat.le_trans (Nat.mul_le_mul h1 h2) (by decide)
theorem wG (hr:HR w0 ρ h w) (hf:FR ρ s E) {T:TypeId} {x y:Operand} {a b c:AV} {h':List AB} (hx:cW s x=some a) (hy:cW s y=some b) (f:mW P h T a b=some (c,h')) :
 wL P E w0 ρ ⟨d,.call { callee:=.builtin .append,args:=#[x,y],argTypes:=#[T,T] },ty,ps,af,gd⟩ w c h':=by
 have g:=aV hf hx;have h2:=aV hf hy;unfold mW at f;split at f
 ·cases f
 rename_i el hel;have u:=gz hel;split at f
 ·cases f
 rename_i agg size bytes z hty;have t:=cR hty;split at f
 ·cases f
 rename_i m ys hsrc;split at f
 ·rename_i hcond;simp only [Bool.and_eq_true] at hcond;obtain ⟨a8,b1,D,hsz,a2⟩:=hcond;have D:=Nat.eq_of_beq_eq_true D;have hsz:0<size:=Nat.le_of_ble_eq_true hsz;have b2:∀W,b≠.str W:=fun W e=>by subst e; simp [Et] at a8
  obtain ⟨V,I,F,X⟩:=Ca hr h2 hsrc b2;have a0:=oy b1 I;split at f
  ·simp only [aD,Option.some.injEq] at g;split at f
   ·rename_i B;have B:=Nat.eq_of_beq_eq_true B;subst B;cases f
    refine fF hr ⟨.slice none 0 0,rfl,.inl ?_⟩;have H:V=[]:=JP (by omega);subst H;rcases F with ⟨k,_,_⟩|⟨ua,uc,k,_⟩
    ·simp [execOp,resolve,invoke,builtin,←g,k,ey T ty el u t none 0 0 (Nat.le_refl _) (fun _=>rfl)]
    ·obtain ⟨i,N,a6,a9,b4⟩:=t.info;simp [execOp,resolve,invoke,builtin,←g,k,Builtin.append_,run_underlying u,sizeOf,typeInfo,N,Builtin.lenOf,Builtin.firstCells,loadCells,loadCellsFrom]
   ·rename_i B;split at f
    ·rename_i A;cases f
     have L:0<m:=by
      rcases Nat.eq_zero_or_pos m with j|j
      ·subst j; simp at B
      ·exact j
     obtain ⟨G,w',q,r,J,R⟩:=hr.appendNil (P:=P) T ty el u t D hsz F I X a0 L (tG A) (nQ A a2);refine ⟨_,G,w',bj.app _ _,R,J,.inl ?_⟩;simp [execOp,resolve,invoke,builtin,←g,r]
    ·cases f
  ·rename_i bb o n e;split at f
   ·rename_i j;have j:=Nat.eq_of_beq_eq_true j;have b3:n=0:=by omega
    have L:m=0:=by omega
    subst b3 L;cases f
    obtain ⟨p,Z,v⟩:=dK g;refine fF hr ⟨_,g,.inl ?_⟩;have H:V=[]:=JP (by omega);subst H;rcases F with ⟨k,_,_⟩|⟨ua,uc,k,_⟩
    ·have r:=ey (w:=w) T ty el u t (some ⟨p.b,p.o+o,none⟩) 0 ((p.n - o) / e) (Nat.zero_le _) (fun h=>by cases h);simp only [execOp,resolve,invoke,builtin,v,k];simp [Deferred.ofValue,v,k,r]
    ·obtain ⟨i,N,a6,a9,b4⟩:=t.info;simp [execOp,resolve,invoke,builtin,v,k,Builtin.append_,run_underlying u,sizeOf,typeInfo,N,Builtin.lenOf,Builtin.firstCells,loadCells,loadCellsFrom,storeCells]
   rename_i j;split at f
   ·rename_i hcond;simp only [Bool.and_eq_true] at hcond;obtain ⟨K,Q,A⟩:=hcond;have b0:0<n+m:=by
     rcases Nat.eq_zero_or_pos (n+m) with g|g
     ·rw [g] at j; simp at j
     ·exact g
    have K:=Nat.eq_of_beq_eq_true K;have Q:=Nat.eq_of_beq_eq_true Q;subst K Q;split at f
    ·rename_i l T' e' hb;split at f
     ·rename_i hcond;simp only [Bool.and_eq_true] at hcond;obtain ⟨U,S,g3⟩:=hcond;have U:=Nat.eq_of_beq_eq_true U;have S:=Nat.eq_of_beq_eq_true S;subst U S;cases f
      obtain ⟨p,Z,v⟩:=dK g;obtain ⟨G,w',q,r,J,R⟩:=hr.append (P:=P) T ty T' u t D hsz Z hb (Nat.le_of_ble_eq_true g3) F I X a0 b0 (tG A) (nQ A a2);refine ⟨_,G,w',bj.app _ _,R,J,.inl ?_⟩;have a7:ev E x=.slice (some ⟨p.b,p.o,none⟩) n (p.n / e'):=by rw [v]; rfl
      rw [Nat.add_zero] at r;simp [execOp,resolve,invoke,builtin,a7,r]
     ·cases f
    ·cases f
   ·cases f
  ·cases f
 ·cases f
theorem Ai (f:FR ρ s E) {c:Option Operand} {l:Option AV} {i:Int} (b:nj s c=some l) (d:Fp l=some i):(c.map (ev E)=none∧i=0)∨∃k,c.map (ev E)=some (.int k i):=by
 cases c with
 | none=>cases b; cases d; exact .inl ⟨rfl,rfl⟩
 | some x=>
  simp only [nj] at b;cases hx:cW s x with
  | none=>rw [hx] at b; cases b
  | some a=>
   rw [hx] at b;cases b
   have e:=aV f hx;cases a <;> simp only [Fp,intOf] at d <;> first|(cases d; done)|skip
   cases d
   simp only [aD,Option.some.injEq] at e;exact .inr ⟨_,by rw [Option.map_some,←e]⟩
theorem AA (f:FR ρ s E) {c:Option Operand} {l:Option AV} {i:Int} {n:Nat} (b:nj s c=some l) (d:Fq n l=some i):(c.map (ev E)=none∧i=n)∨∃k,c.map (ev E)=some (.int k i):=by
 cases c with
 | none=>cases b; cases d; exact .inl ⟨rfl,rfl⟩
 | some x=>
  simp only [nj] at b;cases hx:cW s x with
  | none=>rw [hx] at b; cases b
  | some a=>
   rw [hx] at b;cases b
   have e:=aV f hx;cases a <;> simp only [Fq,intOf] at d <;> first|(cases d; done)|skip
   cases d
   simp only [aD,Option.some.injEq] at e;exact .inr ⟨_,by rw [Option.map_some,←e]⟩
theorem rZ {T:TypeId} (c:P.underlying T=some .string) {a b:Str} {d e:Option Value} {i j:Int} (l:(d=none∧i=0)∨∃k,d=some (.int k i)) (m:(e=none∧j=a.length)∨∃k,e=some (.int k j)) (h:qt a i j=some b) :
 (Instr.sliceAt T (ao a) d e none).run P w=.ok (ao b) w:=by
 obtain ⟨g,f,n,rfl⟩:=km h;rcases l with ⟨rfl,rfl⟩|⟨k,rfl⟩ <;> rcases m with ⟨rfl,rfl⟩|⟨k',rfl⟩
 ·rw [run_sliceAt_string _ _ _ _ _ _ c];simp [Instr.slice,run_underlying c,Instr.sliceBounds,ao,eA,eQ]
 ·rw [run_sliceAt_string _ _ _ _ _ _ c,ao,run_slice_string_h w T _ c k' j f (by rw [eQ]; omega),eA]; rfl
 ·rw [run_sliceAt_string _ _ _ _ _ _ c,ao,run_slice_string_l w T _ c k i g (by rw [eQ]; omega),eA,eQ,JE]; rfl
 ·rw [run_sliceAt_string _ _ _ _ _ _ c,ao,run_slice_string w T _ k k' i j c g f (by rw [eQ]; omega),eA]; rfl
theorem qS (hr:HR w0 ρ h w) (k:FR ρ s E) {T:TypeId} {x:Operand} {y B:Option Operand} {a c:AV} {l j:Option AV} (hx:cW s x=some a) (t:nj s y=some l) (u:nj s B=some j) (f:fi P h T a l j=some c) :
 ∃v,aD ρ c=some v∧bo P E ⟨d,.slice T x y B none,ty,ps,af,gd⟩ w v w:=by
 have r:=aV k hx;unfold fi at f;split at f
 ·rename_i st;simp only [aD,Option.some.injEq] at r;split at f
  ·rename_i i jj q hi' hj';cases hs:qt st i jj with
   | none=>rw [hs] at f; cases f
   | some b=>
    rw [hs] at f;cases f
    refine ⟨_,rfl,.inl ?_⟩;simp only [execOp,←r,Option.map_none,Sem.run_bind,rZ q (Ai k t hi') (AA k u hj') hs];rfl
  ·cases f
 ·simp only [aD,Option.some.injEq] at r;split at f
  ·cases f
  rename_i el hel;have q:=gz hel;split at f
  ·rename_i ty' i jj hty hi' hj';obtain ⟨agg,size,H,z⟩:=ty';split at f
   ·rename_i hc;obtain ⟨rfl,rfl⟩:=hc;cases f
    refine ⟨_,rfl,.inl ?_⟩;simp only [execOp,←r,Option.map_none,Sem.run_bind,kw q (cR hty) (Ai k t hi') (AA k u hj') (Int.le_refl _) (Int.le_refl _) (Int.le_refl _) (Nat.le_refl _)];rfl
   ·cases f
  ·cases f
 ·rename_i b o n e;split at f
  ·cases f
  rename_i el hel;have q:=gz hel;split at f
  ·rename_i agg size H z cs T' e' own i jj hty hb hi' hj';obtain ⟨p,m,D⟩:=dK r;split at f
   ·rename_i hc;simp only [Bool.and_eq_true] at hc;obtain ⟨c1,c2,c3⟩:=hc;have c1:=Nat.eq_of_beq_eq_true c1;subst c1;have c2:0<e:=Nat.le_of_ble_eq_true c2;have c3:=Nat.le_of_ble_eq_true c3;obtain ⟨_,_,_,_,_,Z,_⟩:=hr.at_ b p _ m hb;have V:n≤(p.n - o) / e:=by rw [Nat.le_div_iff_mul_le c2]; omega
    split at f
    ·rename_i hij;obtain ⟨Q,N,L⟩:=hij;have A:=kw (w:=w) (a:=some ⟨p.b,p.o+o,none⟩) (cap:=(p.n - o) / e) q (cR hty) (Ai k t hi') (AA k u hj') Q N L V;split at f
     ·rename_i G;subst G;cases f
      refine ⟨.slice (some ⟨p.b,p.o+o,none⟩) jj.toNat ((p.n - o) / e),by simp only [aD,m],.inl ?_⟩;simp only [execOp,D,Option.map_none,Sem.run_bind,A];simp [sliced,Addr.add]
     ·rename_i G;split at f
      ·rename_i hin;cases f
       refine ⟨.slice (some ⟨p.b,p.o+(o+i.toNat*e),none⟩) (jj - i).toNat ((p.n - (o+i.toNat*e)) / e),by simp only [aD,m],.inl ?_⟩;simp only [execOp,D,Option.map_none,Sem.run_bind,A];have I:¬ (p.n - o) / e=i.toNat:=by omega
       have R:i.toNat*e≠0:=Nat.mul_ne_zero (by omega) (by omega);have U:(p.n - (o+i.toNat*e)) / e=(p.n - o) / e - i.toNat:=by
        rw [←Nat.sub_sub,Nat.mul_comm i.toNat e,Nat.sub_mul_div]
       simp [sliced,I,Addr.add,R,U,Nat.add_assoc];omega
      ·rename_i hin;cases f
       have X:i.toNat=n:=by omega
       have W:jj.toNat=n:=by omega
       rw [X,W] at A;refine ⟨sliced (some ⟨p.b,p.o+o,none⟩) n n ((p.n - o) / e) e,?_,.inl ?_⟩
       ·simp only [aD,m,sliced,Nat.sub_self];have J:n*e≠0:=Nat.mul_ne_zero (by omega) (by omega);split <;> simp [Addr.add,J]
       ·simp only [execOp,D,Option.map_none,Sem.run_bind,A];rfl
    ·cases f
   ·cases f
  ·cases f
 ·rename_i b o;split at f
  ·rename_i n el q;split at f
   ·rename_i agg size H z hty;split at f
    ·rename_i hc;simp only [Bool.and_eq_true] at hc;obtain ⟨c1,c2,c3,F⟩:=hc;have c1:=Nat.eq_of_beq_eq_true c1;have c2:b<gN:=Nat.le_of_ble_eq_true c2;have c3:0<size:=Nat.le_of_ble_eq_true c3;have F:=Nat.eq_of_beq_eq_true F;subst c1;cases f
     have m:=k.g b c2;have K:y=none:=by cases y with
      | none=>rfl
      | some x=>simp only [nj] at t; cases hx:cW s x <;> rw [hx] at t <;> cases t
     have S:B=none:=by cases B with
      | none=>rfl
      | some x=>simp only [nj] at u; cases hx:cW s x <;> rw [hx] at u <;> cases u
     subst K S;simp only [aD,m,Option.some.injEq] at r;refine ⟨.slice (some ⟨b,0,none⟩) n n,?_,vC q (cR hty) r.symm⟩;simp only [aD,m,Nat.sub_zero,←F,Nat.mul_div_cancel _ c3]
    ·cases f
   ·cases f
  ·cases f
 ·cases f
theorem im {zs:List AV} {us:List Value} (hz:concL ρ zs=some us):∀n,concL ρ (jt zs n)=some (jt us n)
 | 0=>rfl
 | n+1=>by simp only [jt]; exact fv hz (im hz n)
theorem ml {α:Type} (l:List α):∀n,(jt l n).length=n*l.length
 | 0=>by simp [jt]
 | n+1=>by simp only [jt,Jr,ml l n]; rw [Nat.succ_mul]; omega
theorem tS {α:Type} (l:List α):∀(n i:Nat),i<n*l.length→(jt l n)[i]?=l[i % l.length]?
 | 0,i,h=>by omega
 | n+1,i,h=>by
  simp only [jt]
  by_cases hi:i<l.length
  ·rw [Jw hi,Nat.mod_eq_of_lt hi]
  ·have h':i - l.length<n*l.length:=by rw [Nat.succ_mul] at h; omega
   rw [JK (by omega),tS l n _ h',←Nat.mod_eq_sub_mod (by omega)]
theorem qW (a:List Value) (n:Nat):jt a n=(madeCells a.toArray (n*a.length)).toList:=by
 refine List.ext_getElem? fun i=>?_
 by_cases hi:i<n*a.length
 ·rw [tS a n i hi];have c:0<a.length:=by
   rcases Nat.eq_zero_or_pos a.length with b|b
   ·rw [b,Nat.mul_zero] at hi; omega
   ·exact b
  have d:i % a.length<a.length:=Nat.mod_lt _ c;simp [madeCells,hi,d]
 ·rw [JH (by rw [ml]; omega),JH (by simp [madeCells]; omega)]
def PV (ρ:List Place):List (Nat×AV)→List (Nat×Value)→Prop
 | [],[]=>True
 | (i,a)::r,(j,v)::l=>i=j∧aD ρ a=some v∧PV ρ r l
 | _,_=>False
theorem sQ (d:FR ρ s E):∀ {l:List (Nat×Operand)} {ps:List (Nat×AV)},AH s l=some ps→PV ρ ps (l.map fun p=>(p.1,ev E p.2))
 | [],ps,h=>by cases h; trivial
 | (i,x)::r,ps,h=>by
  simp only [AH] at h;cases b:cW s x with
  | none=>rw [b] at h; cases h
  | some a=>
   cases c:AH s r with
   | none=>rw [b,c] at h; cases h
   | some l=>
    rw [b,c] at h;cases h
    exact ⟨rfl,aV d b,sQ d c⟩
theorem mM {f:Nat→Option (Nat×Nat)}:∀ {ps:List (Nat×AV)} {e:List (Nat×Value)} {cs d:List AV} {b:List Value},PV ρ ps e→concL ρ cs=some b→mN f cs ps=some d→
 ∃c,Instr.fill f b.toArray e=some c.toArray∧concL ρ d=some c∧c.length=b.length
 | [],[],cs,d,b,_,hc,h=>by cases h; exact ⟨b,rfl,hc,rfl⟩
 | [],_::_,_,_,_,hp,_,_=>hp.elim
 | _::_,[],_,_,_,hp,_,_=>hp.elim
 | (i,a)::r,(j,v)::l,cs,d,b,⟨hij,hav,hr⟩,hc,h=>by
  subst hij;simp only [mN] at h;split at h
  ·cases h
  rename_i off size hpl;split at h
  ·rename_i hcond;simp only [Bool.and_eq_true] at hcond;obtain ⟨c1,c2,c3⟩:=hcond;have c1:=Nat.eq_of_beq_eq_true c1;have c3:=Nat.le_of_ble_eq_true c3;have g:=kG hav c2;have q:=bI hc;have p:=bI g;have k:=fv (lP off hc) (fv g (lQ (off+size) hc));obtain ⟨c,o,n,m⟩:=mM hr k h;refine ⟨c,?_,n,?_⟩
   ·refine aO (b.take off) ((b.drop off).take size) (b.drop (off+size)) v.cells.toList hpl ?_ rfl ?_ ?_ ?_ o
    ·rw [←List.drop_drop,List.take_append_drop,List.take_append_drop]
    ·rw [JG]; omega
    ·rw [JG,JQ]; omega
    ·omega
   ·rw [m];simp only [Jr,JG,JQ];omega
  ·cases h
theorem yW (o:FR ρ s E) {T:TypeId} {h:Array (Nat×Operand)} {ps:List (Nat×AV)} {c:AV} (m:AH s h.toList=some ps) (a:wD P T ps=some c) {i:String} :
 ∃v,aD ρ c=some v∧bo P E ⟨d,.build T h,ty,i,af,gd⟩ w v w:=by
 have l:=sQ o m;have j:∀ {f:Nat→Option (Nat×Nat)} {z:Value} {zs:List AV},absL z.cells.toList=some zs→(mN f zs ps).map AV.agg=some c→(∀vs,P.built T vs=Instr.fill f z.cells vs)→
  ∃v,aD ρ c=some v∧bo P E ⟨d,.build T h,ty,i,af,gd⟩ w v w:=by
  intro f z zs b g p;cases hfi:mN f zs ps with
  | none=>rw [hfi] at g; cases g
  | some cs=>
   rw [hfi] at g;cases g
   obtain ⟨k,r,q,_⟩:=mM l (absL_ok ρ _ _ b) hfi;refine ⟨.agg k.toArray,by simp only [aD,q],bi rfl ?_⟩;rw [p,←r,Array.toArray_toList]
 unfold wD at a;split at a
 ·rename_i it n e hi hT;split at a
  ·rename_i z ie b hie;split at a
   ·rename_i zs hzs;exact j hzs a fun vs=>by simp only [Program.built,hi,hT,b,hie]
   ·cases a
  ·cases a
 ·rename_i it fields hi hT;split at a
  ·rename_i z places b hpl;split at a
   ·rename_i zs hzs;exact j hzs a fun vs=>by simp only [Program.built,hi,hT,b,hpl,List.getElem?_toArray]
   ·cases a
  ·cases a
 ·cases a
theorem qz (hr:HR w0 ρ h w) (l:FR ρ s E) {T:TypeId} {x y:Operand} {a b c:AV} {p:List AB} (hx:cW s x=some a) (hy:cW s y=some b) (e:ly P h T a b=some (c,p)) :
 wL P E w0 ρ ⟨d,.makeSlice T x y,ty,ps,af,gd⟩ w c p:=by
 have o:=aV l hx;have m:=aV l hy;unfold ly at e;split at e
 ·rename_i k n k' q;simp only [aD,Option.some.injEq] at o m;split at e
  ·cases e
  rename_i el hel;have I:=gz hel;split at e
  ·cases e
  rename_i agg size bytes z hty;obtain ⟨i,D,r,t,G⟩:=(cR hty).info;split at e
  ·cases e
  rename_i zs hzs;split at e
  ·rename_i hcond;simp only [Bool.and_eq_true,decide_eq_true_eq] at hcond;obtain ⟨c1,c2,c3,f,N,L⟩:=hcond;have c1:=Nat.eq_of_beq_eq_true c1;have c2:0<size:=Nat.le_of_ble_eq_true c2;have c3:=Nat.le_of_ble_eq_true c3;have f:=Nat.le_of_ble_eq_true f;cases e
   have H:(i.bytes:Int)*q≤281474976710656:=by
    have K:((bytes*q.toNat:Nat):Int)≤((10000*1000000:Nat):Int):=Int.ofNat_le.2 (Nat.mul_le_mul c3 f);rw [G];have J:(q.toNat:Int)=q:=Int.toNat_of_nonneg (by omega);rw [Int.natCast_mul,J] at K;omega
   have u:=run_make (P:=P) w T el i z I D r k k' n q N L H (by omega);have g:=absL_ok ρ _ _ hzs;have A:=bI g;have j:=im g q.toNat;rw [qW,Array.toArray_toList,Array.length_toList,c1,←t] at j;have B:(jt zs q.toNat).length=q.toNat*size:=by rw [ml,←A,Array.length_toList,c1]
   obtain ⟨v,F⟩:=hr.newRow j el c2 B (by simp only [maxLen]; omega) n.toNat;refine ⟨_,_,_,bj.app _ _,F,v,.inl ?_⟩;simp [execOp,←o,←m,u]
  ·cases e
 ·cases e
theorem qh (hr:HR w0 ρ h w) (F:FR ρ s E) {T:TypeId} {len:Nat} {b:Array (Nat×Operand)} {ps:List (Nat×AV)} {c:AV} {o:List AB} (A:AH s b.toList=some ps) (a:kc P h T len ps=some (c,o)) {r:String} :
 wL P E w0 ρ ⟨d,.buildSlice T len b,ty,r,af,gd⟩ w c o:=by
 have u:=sQ F A;unfold kc at a;split at a
 ·cases a
 rename_i el hel;have I:=gz hel;split at a
 ·cases a
 rename_i agg size bytes z hty;have m:=cR hty;split at a
 ·cases a
 rename_i zs hzs;split at a
 ·rename_i hcond;simp only [Bool.and_eq_true] at hcond;obtain ⟨c1,c2,c3,q⟩:=hcond;have c1:=Nat.eq_of_beq_eq_true c1;have c2:0<size:=Nat.le_of_ble_eq_true c2;have c3:=Nat.le_of_ble_eq_true c3;have q:=Nat.le_of_ble_eq_true q;split at a
  ·cases a
  rename_i cs hfi;cases a
  have k:=absL_ok ρ _ _ hzs;have K:=bI k;have l:=im k len;rw [qW,Array.toArray_toList,Array.length_toList,c1] at l;obtain ⟨j,e,n,J⟩:=mM u l hfi;rw [Array.toArray_toList] at e;have D:cs.length=len*size:=by rw [←bI n,J,Array.length_toList,size_madeCells]
  obtain ⟨t,G⟩:=hr.newRow (cs:=j.toArray) (by simpa using n) el c2 D (by simp only [maxLen]; omega) len;refine ⟨_,_,_,bj.app _ _,G,t,.inl ?_⟩;have B:¬ (len*size > 2 ^ 24):=by omega
  have y:(b.map fun x=>(x.1,ev E x.2))=(b.toList.map fun p=>(p.1,ev E p.2)).toArray:=by apply Array.ext'; rw [Array.toList_map]
  have H:(Instr.buildSlice T len ((b.toList.map fun p=>(p.1,ev E p.2)).toArray)).run P w=.ok (.slice (some ⟨w.heap.size,0,none⟩) len len) (w.alloc (.cells j.toArray el)):=by
   unfold Instr.buildSlice;simp only [Sem.run_bind,run_underlying I,Jz,bX m,if_neg B]
   by_cases f:len*size=0
   ·rw [f] at e;simp only [f,if_true,Sem.run_bind,Sem.run_pure,Jz];have g:(Array.range 0).map (fun x=>(#[]:Array Value)[x % (#[]:Array Value).size]!)=madeCells z.cells 0:=by simp [madeCells]
    rw [g,e];simp [newRow]
   ·simp only [f,if_false,Sem.run_bind,dv m,Sem.run_pure,Jz];have g:(Array.range (len*size)).map (fun x=>z.cells[x % z.cells.size]!)=madeCells z.cells (len*size):=rfl;rw [g,e];simp [newRow]
  have v:(b.map fun (i,x)=>(i,ev E x))=(b.toList.map fun p=>(p.1,ev E p.2)).toArray:=y;simp only [execOp,Sem.run_bind,v,H,Jz,Sem.run_pure]
 ·cases a
end
section
variable {P:Program} {E:Env} {w:World} {w0:Frm} {d:Option Tmp} {ty:TypeId} {ps:String} {af:Array Edge} {gd:Option (Nat×Bool)} {ρ:List Place} {h:List AB} {s:Nat→AV}
theorem wk {T:TypeId} {f:TypeDesc→Bool} (h:sL P T f=true):∃D,P.underlying T=some D∧f D=true:=by
 unfold sL at h;split at h
 ·rename_i D hD; exact ⟨D,hD,h⟩
 ·cases h
def fK:Value→Bool
 | .pointer _=>true
 | .slice _ _ _=>true
 | .map _=>true
 | .func _ _ _=>true
 | .nilFunc=>true
 | .bool _=>true
 | _=>false
theorem rb {op:BinOp} {T T':TypeId} {x y:Operand} {b:Bool} {u v:Value} (hx:ev E x=u) (hy:ev E y=v) (c:fK u=true) (a:fK v=true) (h:(Op.equalIn 10000 T u v).run P w=.ok b w) :
 (op=.eql→bo P E ⟨d,.binOp op T x y T',ty,ps,af,gd⟩ w (.bool b) w)∧(op=.neq→bo P E ⟨d,.binOp op T x y T',ty,ps,af,gd⟩ w (.bool (!b)) w):=by
 have e:(Op.equal T u v).run P w=.ok b w:=h;constructor
 ·rintro rfl;refine aR ?_ ?_
  ·rw [hx,hy];cases u <;> simp only [fK,Bool.false_eq_true] at c <;> cases v <;> simp only [fK,Bool.false_eq_true] at a <;> rfl
  ·rw [hx,hy];cases u <;> simp only [fK,Bool.false_eq_true] at c <;> cases v <;> simp only [fK,Bool.false_eq_true] at a <;>
    simp only [binOp,Sem.run_bind,e,Jz,Sem.run_pure]
 ·rintro rfl;refine aR ?_ ?_
  ·rw [hx,hy];cases u <;> simp only [fK,Bool.false_eq_true] at c <;> cases v <;> simp only [fK,Bool.false_eq_true] at a <;> rfl
  ·rw [hx,hy];cases u <;> simp only [fK,Bool.false_eq_true] at c <;> cases v <;> simp only [fK,Bool.false_eq_true] at a <;>
    simp only [binOp,Sem.run_bind,e,Jz,Sem.run_pure]
theorem rD {b o:Nat} {v:Value} (hc:aD ρ (.ptr b o)=some v):∃a,v=.pointer (some a):=by
 obtain ⟨p,_,h⟩:=eW hc;exact ⟨_,h⟩
theorem Bb {b o l e:Nat} {v:Value} (hc:aD ρ (.sl b o l e)=some v):∃a n c,v=.slice (some a) n c:=by
 obtain ⟨p,_,h⟩:=dK hc;exact ⟨_,_,_,h⟩
theorem yQ {b o l e:Nat} {v:Value} (hc:aD ρ (.slz b o l e)=some v):∃a n c,v=.slice (some a) n c:=by
 simp only [aD] at hc;split at hc
 ·cases hc; exact ⟨_,_,_,rfl⟩
 ·cases hc
theorem Bc {b:Nat} {v:Value} (hc:aD ρ (.mp b)=some v):∃r,v=.map (some r):=by
 simp only [aD] at hc;split at hc
 ·cases hc; exact ⟨_,rfl⟩
 ·cases hc
theorem Bd {f:FuncId} {a c:List AV} {v:Value} (hc:aD ρ (.fn f a c)=some v):∃g x y,v=.func g x y:=by
 simp only [aD] at hc;split at hc
 ·cases hc; exact ⟨_,_,_,rfl⟩
 ·cases hc
theorem uj {T:TypeId} {a b:AV} {u v:Value} {r:Bool} (c:aD ρ a=some u) (e:aD ρ b=some v) (d:ri P T a b=some r):fK u=true∧fK v=true∧(Op.equalIn 10000 T u v).run P w=.ok r w:=by
 unfold ri at d;split at d <;> first|(cases d; done)|skip
 all_goals
  split at d
  ·rename_i hd;cases d
   obtain ⟨D,g,f⟩:=wk hd
   try (obtain ⟨_,rfl⟩:=rD c)
   try (obtain ⟨_,rfl⟩:=rD e)
   try (obtain ⟨_,_,_,rfl⟩:=Bb c)
   try (obtain ⟨_,_,_,rfl⟩:=yQ c)
   try (obtain ⟨_,rfl⟩:=Bc c)
   try (obtain ⟨_,_,_,rfl⟩:=Bd c)
   try (simp only [aD,Option.some.injEq] at c; subst c)
   try (simp only [aD,Option.some.injEq] at e; subst e)
   cases D <;> simp only [xH,CH,Au,Fa,Aw,Bool.false_eq_true] at f
   refine ⟨rfl,rfl,?_⟩;rw [Op.equalIn];simp [run_underlying g]
  ·cases d
theorem Df (i:FR ρ s E) {op:BinOp} {T T':TypeId} {x y:Operand} {a b c:AV} (hx:cW s x=some a) (hy:cW s y=some b) (e:Fg P op T a b=some c) :
 ∃v,aD ρ c=some v∧bo P E ⟨d,.binOp op T x y T',ty,ps,af,gd⟩ w v w:=by
 have k:=aV i hx;have j:=aV i hy;unfold Fg at e;split at e
 ·cases hn:ri P T a b with
  | none=>rw [hn] at e; cases e
  | some r=>
   rw [hn] at e;cases e
   obtain ⟨h,g,f⟩:=uj (P:=P) (w:=w) k j hn;exact ⟨_,rfl,(rb rfl rfl h g f).1 rfl⟩
 ·cases hn:ri P T a b with
  | none=>rw [hn] at e; cases e
  | some r=>
   rw [hn] at e;cases e
   obtain ⟨h,g,f⟩:=uj (P:=P) (w:=w) k j hn;exact ⟨_,rfl,(rb rfl rfl h g f).2 rfl⟩
 ·cases e
theorem yK {T:TypeId} {a b:AV} {u v:Value} {r:Bool} (e:aD ρ a=some u) (d:aD ρ b=some v) (c:ia P T a b=some r) (D:Nat):BS P (D+1) T u v r:=by
 unfold ia at c;split at c
 ·simp only [aD,Option.some.injEq] at e d;subst e d;split at c
  ·rename_i hT;split at c
   ·rename_i hk; obtain ⟨g,f⟩:=hk; subst g f; cases c; exact CU hT _ _
   ·cases c
  ·cases c
 ·simp only [aD,Option.some.injEq] at e d;subst e d;split at c
  ·rename_i hT; cases c; exact CS hT _ _
  ·cases c
 ·simp only [aD,Option.some.injEq] at e d;subst e d;split at c
  ·rename_i hT; cases c; exact AI hT _ _
  ·cases c
 ·cases c
theorem xL {l m:List AV} {xs ys:List Value} (hx:concL ρ l=some xs) (hy:concL ρ m=some ys) (D:Nat):∀ {c:List Field} {r:Bool},CY P l m c=some r→zi P (D+1) xs ys c r
 | [],r,h=>by cases h; exact .nil
 | f::c,r,h=>by
  simp only [CY] at h;split at h
  ·cases h
  rename_i hn;split at h
  ·rename_i bytes z a b hty ha hb;split at h
   ·rename_i x y k j;cases h
    obtain ⟨u,e,i⟩:=di hx ha;obtain ⟨v,d,g⟩:=di hy hb;exact .cons hn (sh (cR hty) e) (sh (cR hty) d) (yK i g k D) (xL hx hy D j)
   ·cases h
  ·cases h
theorem iN {k:IntKind}:∀ {l:List AV} {x:List Int},jS k l=some x→concL ρ l=some (x.map (Value.int k))
 | [],x,h=>by cases h; rfl
 | a::r,x,h=>by
  cases a <;> simp only [jS] at h <;> first|(cases h; done)|skip
  split at h
  ·rename_i hk;subst hk;cases hr:jS _ r with
   | none=>rw [hr] at h; cases h
   | some l=>
    rw [hr] at h;cases h
    simp only [concL,aD,iN hr,List.map_cons]
  ·cases h
theorem pV {T:TypeId} {l m:List AV} {xs ys:List Value} {r:Bool} (hx:concL ρ l=some xs) (hy:concL ρ m=some ys) (c:oa P T l m=some r) (D:Nat):BS P (D+2) T (.agg xs.toArray) (.agg ys.toArray) r:=by
 unfold oa at c;split at c
 ·rename_i fs hT;split at c
  ·cases c
  ·rename_i hs;exact wu hT (by simpa using hs) (xL hx hy D c)
 ·rename_i n el hT;split at c
  ·rename_i k bytes z hE hty;split at c
   ·rename_i a b ha hb;split at c
    ·rename_i hn;cases c
     have f:=iN (ρ:=ρ) ha;have d:=iN (ρ:=ρ) hb;rw [hx] at f;rw [hy] at d;obtain rfl:=Option.some.inj f;obtain rfl:=Option.some.inj d;have h:=CR (D:=D) hT hE (cR hty) ⟨a,hn.1⟩ ⟨b,hn.2⟩;have e:((⟨a,hn.1⟩:bM n) == ⟨b,hn.2⟩)=(a == b):=by
      rw [Bool.eq_iff_iff];simp only [beq_iff_eq];exact ⟨fun h=>congrArg Subtype.val h,fun h=>Subtype.ext h⟩
     rw [e] at h;exact h
    ·cases c
   ·cases c
  ·cases c
 ·cases c
theorem gC {l:List AV} {v:Value} (h:aD ρ (.agg l)=some v):∃xs,concL ρ l=some xs∧v=.agg xs.toArray:=by
 simp only [aD] at h;cases h1:concL ρ l with
 | none=>rw [h1] at h; cases h
 | some xs=>rw [h1] at h; cases h; exact ⟨xs,rfl,rfl⟩
theorem BD (e:FR ρ s E) {op:BinOp} {T T':TypeId} {x y:Operand} {l m:List AV} {c:AV} (hx:cW s x=some (.agg l)) (hy:cW s y=some (.agg m)) (a:BE P op T l m=some c) :
 ∃v,aD ρ c=some v∧bo P E ⟨d,.binOp op T x y T',ty,ps,af,gd⟩ w v w:=by
 obtain ⟨xs,i,h⟩:=gC (aV e hx);obtain ⟨ys,g,f⟩:=gC (aV e hy);unfold BE at a;split at a
 ·cases a
 rename_i b;have b:P.eqGuardType P.depth T=false:=by simpa using b
 split at a
 ·cases hr:oa P T l m with
  | none=>rw [hr] at a; cases a
  | some r=>rw [hr] at a; cases a; exact ⟨_,rfl,EN h f b (pV i g hr 9998)⟩
 ·cases hr:oa P T l m with
  | none=>rw [hr] at a; cases a
  | some r=>rw [hr] at a; cases a; exact ⟨_,rfl,EC h f b (pV i g hr 9998)⟩
 ·cases a
theorem Ay (g:FR ρ s E) {op:BinOp} {T T':TypeId} {x:Operand} {a c:AV} (hx:cW s x=some a) (e:Az P op T a=some c):∃v,aD ρ c=some v∧bo P E ⟨d,.binOp op T x (.const .nilIface) T',ty,ps,af,gd⟩ w v w:=by
 have b:=aV g hx;unfold Az at e;split at e
 ·rename_i hd;obtain ⟨D,f,i⟩:=wk hd;cases D <;> simp only [CJ,Bool.false_eq_true] at i
  rename_i ms;split at e
  ·simp only [aD,Option.some.injEq] at b;cases e
   refine ⟨_,rfl,aR ?_ ?_⟩
   ·rw [←b]; simp [eqGuard,ev]
   ·rw [←b];have h:(Op.equal T .nilIface .nilIface).run P w=.ok true w:=rz f 9999;simp only [ev,binOp,Sem.run_bind,h,Jz,Sem.run_pure]
  ·simp only [aD,Option.some.injEq] at b;cases e
   exact ⟨_,rfl,qY f b.symm rfl⟩
  ·rename_i t u;simp only [aD] at b;split at b
   ·rename_i uv hu;simp only [Option.some.injEq] at b;cases e
    refine ⟨_,rfl,aR ?_ ?_⟩
    ·rw [←b]; rfl
    ·rw [←b];have h:(Op.equal T (.iface t uv) .nilIface).run P w=.ok false w:=rA f t uv 9999;simp only [ev,binOp,Sem.run_bind,h,Jz,Sem.run_pure]
   ·cases b
  ·rename_i t u;simp only [aD] at b;split at b
   ·rename_i uv hu;simp only [Option.some.injEq] at b;cases e
    exact ⟨_,rfl,qZ f b.symm rfl⟩
   ·cases b
  ·cases e
 ·cases e
theorem EO {T T':TypeId} {x y:Operand} {k:IntKind} {a b:Int} (hx:ev E x=.int k a) (hy:ev E y=.int k b) (hb:b≠0):bo P E ⟨d,.binOp .quo T x y T',ty,ps,af,gd⟩ w (.int k (k.wrap (a.tdiv b))) w:=aR (by rw [hx]; exact bG) (by rw [hx,hy]; simp [binOp,Op.intDiv,hb])
theorem Bx {op:BinOp} {T T':TypeId} {x y:Operand} {k k':IntKind} {a b:Int} {c:AV} (hx:ev E x=.int k a) (hy:ev E y=.int k' b) (h:By op k k' a b=some c):∃v,aD ρ c=some v∧bo P E ⟨d,.binOp op T x y T',ty,ps,af,gd⟩ w v w:=by
 cases op <;> simp only [By] at h <;> first|(cases h; done)|skip
 case quo=>
  split at h
  ·rename_i hk;subst hk;split at h
   ·cases h
   ·rename_i hb; cases h; exact ⟨_,rfl,EO hx hy hb⟩
  ·cases h
 case shl=>
  cases hm:ym k a b with
  | none=>rw [hm] at h; cases h
  | some m=>rw [hm] at h; cases h; exact ⟨_,rfl,vD hx hy hm⟩
 case shr=>
  cases hm:vt k a b with
  | none=>rw [hm] at h; cases h
  | some m=>rw [hm] at h; cases h; exact ⟨_,rfl,se hx hy hm⟩
theorem Dl (f:FR ρ s E) {op:BinOp} {T T':TypeId} {x y:Operand} {a b c:AV} (hx:cW s x=some a) (hy:cW s y=some b) (e:qJ P op T a b=some c) :
 ∃v,aD ρ c=some v∧bo P E ⟨d,.binOp op T x y T',ty,ps,af,gd⟩ w v w:=by
 have h:=aV f hx;have g:=aV f hy;unfold qJ at e;split at e
 ·split at e
  ·rename_i v hv;cases e
   exact Dn f hx hy hv
  ·simp only [aD,Option.some.injEq] at h g;exact Bx h.symm g.symm e
 ·simp only [aD,Option.some.injEq] at h g;exact xY h.symm g.symm e
 ·exact BD f hx hy e
 ·exact Df f hx hy e
theorem Ep (f:FR ρ s E) {op:UnOp} {T:TypeId} {x:Operand} {a c:AV} (hx:cW s x=some a) (b:Hq op a=some c):∃v,aD ρ c=some v∧bo P E ⟨d,.unOp op T x,ty,ps,af,gd⟩ w v w:=by
 have e:=aV f hx;unfold Hq at b;split at b
 ·simp only [aD,Option.some.injEq] at e;cases b; exact ⟨_,rfl,dC e.symm⟩
 ·simp only [aD,Option.some.injEq] at e;cases b; exact ⟨_,rfl,FI e.symm⟩
 ·simp only [aD,Option.some.injEq] at e;cases b; exact ⟨_,rfl,xf e.symm⟩
 ·cases b
end
section
variable {P:Program} {E:Env} {w:World} {w0:Frm} {d:Option Tmp} {ty:TypeId} {ps:String} {af:Array Edge} {gd:Option (Nat×Bool)} {ρ:List Place} {h:List AB} {s:Nat→AV}
theorem gu {T k e:TypeId} (h:iD P T=some (k,e)):P.underlying T=some (.map k e):=by
 unfold iD at h;split at h
 ·rename_i k' e' hT; cases h; exact hT
 ·cases h
theorem oD {T:TypeId} {k:AV} {a:Value} (b:aD ρ k=some a) (h:mH P T k=true) :
 (∃D,P.underlying T=some D∧MapKept.IsKey D a∧∀l,k≠.agg l)∨∃n el kk bytes z l x,P.underlying T=some (.array n el)∧P.underlying el=some (.int kk)∧js P el=some (false,1,bytes,z)∧k=.agg l∧jS kk l=some x∧x.length=n∧a=.agg (x.map (Value.int kk)).toArray:=by
 unfold mH at h;split at h
 ·split at h
  ·rename_i hT;have h:=of_decide_eq_true h;subst h;cases b
   exact .inl ⟨_,hT,rfl,by simp⟩
  ·cases h
 ·split at h
  ·rename_i hT;cases b
   exact .inl ⟨_,hT,trivial,by simp⟩
  ·cases h
 ·rename_i l;split at h
  ·rename_i n el hT;split at h
   ·rename_i kk bytes z hE hty;split at h
    ·rename_i x hx;have h:=Nat.eq_of_beq_eq_true h;obtain ⟨xs,c,d⟩:=gC b;rw [iN hx] at c;obtain rfl:=Option.some.inj c;exact .inr ⟨n,el,kk,bytes,z,l,x,hT,hE,hty,rfl,hx,h,d⟩
    ·cases h
   ·cases h
  ·cases h
 ·cases h
theorem jF {α:Type} (f:α→PUnit→Sem (ForInStep PUnit)):∀(l:List α),(∀i∈l,(f i ⟨⟩).run P w=.ok (.yield ⟨⟩) w)→(forIn l PUnit.unit f).run P w=.ok ⟨⟩ w
 | [],_=>by simp [Sem.run_pure]
 | i::l,h=>by
  rw [List.forIn_cons,Sem.run_bind,h i (by simp)];simp only [Jz];exact jF f l (fun j hj=>h j (by simp [hj]))
theorem yv {el:TypeId} {bytes:Nat} {z:Value} (ht:dF P el false 1 bytes z) {kk:IntKind} {x:List Int} {i:Nat} (hi:i<x.length):(part el (x.map (Value.int kk)).toArray (i*1)).run P w=.ok (.int kk (x[i]'hi)) w:=by
 have:=sh ht (cs:=x.map (Value.int kk)) (o:=i*1) (v:=.int kk (x[i]'hi)) (by simp [hi]) w;exact this
theorem cE {T:TypeId} {k:AV} {b:Value} (g:aD ρ k=some b) (h:mH P T k=true) (e:Bool):(Instr.checkKey e 10000 T b).run P w=.ok () w:=by
 rcases oD g h with ⟨D,p,a,_⟩|⟨n,el,kk,r,z,l,x,m,o,c,rfl,hx,q,rfl⟩
 ·exact MapKept.run_checkKey p a e 9999
 ·unfold Instr.checkKey;simp only [Sem.run_bind,run_underlying m,Jz];rw [Std.Legacy.Range.forIn_eq_forIn_range'];rw [jF (P:=P) (w:=w)]
  ·rfl
  intro i a;have d:i<x.length:=by simp [List.mem_range',Std.Legacy.Range.size] at a; omega
  have f:=yv (w:=w) (cR c) (kk:=kk) d;have j:=MapKept.run_checkKey (w:=w) o (k:=.int kk (x[i]'d)) rfl e 9998;simp only [Sem.run_bind,bX (cR c),Jz,f,j,Sem.run_pure]
theorem yo {T:TypeId} {k:AV} {c:Value} (f:aD ρ k=some c) (h:mH P T k=true):Instr.sameBits 10000 c c=true:=by
 rcases oD f h with ⟨D,p,b,_⟩|⟨n,el,kk,q,z,l,x,m,o,g,rfl,hx,j,rfl⟩
 ·exact MapKept.sameBits_self b 10000
 ·unfold Instr.sameBits;simp only [List.size_toArray,beq_self_eq_true,Bool.true_and,List.toList_toArray,List.all_eq_true];rintro ⟨u,v⟩ d;have:u=v∧∃n,u=.int kk n:=by
   rw [List.mem_iff_getElem?] at d;obtain ⟨i,b⟩:=d;rw [List.getElem?_zip_eq_some] at b;obtain ⟨a,e⟩:=b;rw [a] at e;cases e
   rw [JL] at a;cases hx:x[i]? with
   | none=>rw [hx] at a; cases a
   | some n=>rw [hx] at a; cases a; exact ⟨rfl,n,rfl⟩
  obtain ⟨rfl,n,rfl⟩:=this;simp [Instr.sameBits]
theorem uL {T:TypeId} {k k':AV} {u v:Value} (e:aD ρ k=some u) (d:aD ρ k'=some v) (o:mH P T k=true) (h:CX P T k k'=some true):u=v:=by
 rcases oD e o with ⟨D,t,s,j⟩|⟨n,el,kk,w,z,l,x,p,q,i,rfl,hx,r,rfl⟩
 ·have c:ia P T k k'=some true:=by
   unfold CX at h;split at h
   ·exact absurd rfl (j _)
   ·exact h
  unfold ia at c;split at c
  ·cases e; cases d
   split at c
   ·split at c
    ·rename_i hkk;obtain ⟨_,rfl⟩:=hkk;have:=Option.some.inj c;simp only [beq_iff_eq] at this;rw [this]
    ·cases c
   ·cases c
  ·cases e; cases d
   split at c
   ·have:=Option.some.inj c;simp only [beq_iff_eq] at this;rw [this]
   ·cases c
  ·cases e; cases d
   split at c
   ·have:=Option.some.inj c;simp only [beq_iff_eq] at this;rw [this]
   ·cases c
  ·cases c
 ·cases k' with
  | agg m=>
   simp only [CX,oa,p,q,i] at h;split at h
   ·rename_i a b ha c;split at h
    ·have f:=Option.some.inj h;simp only [beq_iff_eq] at f;subst f;rw [hx] at ha;obtain rfl:=Option.some.inj ha;obtain ⟨ys,g,rfl⟩:=gC d;rw [iN c] at g;obtain rfl:=Option.some.inj g;rfl
    ·cases h
   ·cases h
  | _=>simp only [CX,ia] at h; cases h
def rK (ρ:List Place) (es:List (AV×AV×Nat)) (en:List MapEntry) (i:Nat) (kv:Value):Option (Nat×AV×Nat)→Option (Nat×Value)→Prop
 | none,o=>o=none
 | some (j,a,n),o=>∃q k' m,j=i+q∧es[q]?=some (k',a,n)∧en[q]?=some m∧m.key=kv∧aD ρ a=some m.val∧m.born=n∧o=some (j,m.val)
theorem rK.next {es:List (AV×AV×Nat)} {en:List MapEntry} {i:Nat} {kv:Value} {e:AV×AV×Nat} {m:MapEntry}:∀ {r:Option (Nat×AV×Nat)} {o:Option (Nat×Value)},rK ρ es en (i+1) kv r o→rK ρ (e::es) (m::en) i kv r o
 | none,o,h=>h
 | some (j,a,n),o,⟨q,k',m,h1,h2,h3,h4⟩=>⟨q+1,k',m,by omega,by simpa using h2,by simpa using h3,h4⟩
theorem vx {T:TypeId} {D:TypeDesc} (c:P.underlying T=some D) {k k':AV} {u v:Value} {x:Bool} (b:aD ρ k=some u) (a:aD ρ k'=some v) (d:MapKept.IsKey D u) (h:ia P T k k'=some x):Instr.sameNow D u v=some x:=by
 unfold ia at h;split at h
 ·cases b; cases a
  split at h
  ·rename_i hT;rw [c] at hT;cases hT
   split at h
   ·rename_i hkk;obtain ⟨_,rfl⟩:=hkk;cases h
    simp [Instr.sameNow]
   ·cases h
  ·cases h
 ·cases b; cases a
  split at h
  ·rename_i hT;rw [c] at hT;cases hT
   cases h
   simp only [ao,Instr.sameNow];rw [pY]
  ·cases h
 ·cases b; cases a
  split at h
  ·rename_i hT;rw [c] at hT;cases hT
   cases h
   simp [Instr.sameNow]
  ·cases h
 ·cases h
theorem uF {T:TypeId} {D:TypeDesc} (j:P.underlying T=some D) {k:AV} {b:Value} (c:aD ρ k=some b) (e:mH P T k=true) (f:MapKept.IsKey D b) (d:∀l,k≠.agg l):∀ {es:List (AV×AV×Nat)} {en:List MapEntry} {i:Nat} {r:Option (Nat×AV×Nat)},MR ρ es en→kX P T k es i=some r→
 ∃o,Instr.findNow D b en i=some o∧rK ρ es en i b r o
 | [],[],i,r,_,h=>by cases h; exact ⟨none,rfl,rfl⟩
 | [],_::_,_,_,h,_=>h.elim
 | _::_,[],_,_,h,_=>h.elim
 | (k',a,n)::es,m::en,i,r,⟨p,v,u,t⟩,h=>by
  simp only [kX] at h;have g:∀x,CX P T k k'=some x→Instr.sameNow D b m.key=some x:=fun x hx=>by
   refine vx j c p f ?_;unfold CX at hx;split at hx
   ·exact absurd rfl (d _)
   ·exact hx
  split at h
  ·rename_i he;cases h
   refine ⟨some (i,m.val),by simp only [Instr.findNow,g _ he],0,k',m,rfl,rfl,rfl,(uL c p e he).symm,v,u,rfl⟩
  ·rename_i he;obtain ⟨o,q,s⟩:=uF j c e f d t h;exact ⟨o,by simp only [Instr.findNow,g _ he,q],s.next⟩
  ·cases h
theorem uG {T:TypeId} {k:AV} {b:Value} (c:aD ρ k=some b) (e:mH P T k=true) {l:List AV} (d:k=.agg l):∀ {es:List (AV×AV×Nat)} {en:List MapEntry} {i:Nat} {r:Option (Nat×AV×Nat)},MR ρ es en→kX P T k es i=some r→
 ∃o,(Instr.findAsking T b en i).run P w=.ok o w∧rK ρ es en i b r o
 | [],[],i,r,_,h=>by cases h; exact ⟨none,rfl,rfl⟩
 | [],_::_,_,_,h,_=>h.elim
 | _::_,[],_,_,h,_=>h.elim
 | (k',a,n)::es,m::en,i,r,⟨g,t,s,q⟩,h=>by
  simp only [kX] at h;have f:∀x,CX P T k k'=some x→(Op.equal T b m.key).run P w=.ok x w:=fun x hx=>by
   subst d;cases k' with
   | agg l'=>
    obtain ⟨xs,y,rfl⟩:=gC c;obtain ⟨ys,v,u⟩:=gC g;rw [u];exact pV y v hx 9998 w
   | _=>simp only [CX,ia] at hx; cases hx
  split at h
  ·rename_i he;cases h
   refine ⟨some (i,m.val),by simp [Instr.findAsking,f _ he],0,k',m,rfl,rfl,rfl,(uL c g e he).symm,t,s,rfl⟩
  ·rename_i he;obtain ⟨o,j,p⟩:=uG c e d q h;exact ⟨o,by simp [Instr.findAsking,f _ he,j],p.next⟩
  ·cases h
theorem dW {T:TypeId} {k:AV} {b:Value} (d:aD ρ k=some b) (c:mH P T k=true) {es:List (AV×AV×Nat)} {en:List MapEntry} {r:Option (Nat×AV×Nat)} (f:MR ρ es en) (h:kX P T k es 0=some r) :
 ∃o,(Instr.findKey T b en).run P w=.ok o w∧rK ρ es en 0 b r o:=by
 rcases oD d c with ⟨D,g,p,i⟩|⟨n,el,kk,y,z,l,x,q,v,s,j,hx,t,u⟩
 ·obtain ⟨o,a,e⟩:=uF g d c p i f h;exact ⟨o,MapKept.run_findKey g a,e⟩
 ·obtain ⟨o,a,e⟩:=uG (w:=w) d c j f h;refine ⟨o,?_,e⟩;simp only [Instr.findKey,Sem.run_bind,run_underlying q,Jz];cases en with
  | nil=>simp [Instr.findNow,Instr.findAsking] at a ⊢; exact a
  | cons m en=>
   have:Instr.findNow (.array n el) b (m::en) 0=none:=by simp [Instr.findNow,Instr.sameNow]
   simp only [this];exact a
theorem HR.mapBlk (hr:HR w0 ρ h w) {b:Nat} {v:Value} {es:List (AV×AV×Nat)} {clock:Nat} (hc:aD ρ (.mp b)=some v) (hb:h[b]?=some (.map es clock)):∃p en,ρ[b]?=some p∧v=.map (some p.b)∧w.heap[p.b]?=some (.map en clock)∧MR ρ es en.toList:=by
 simp only [aD] at hc;split at hc
 ·rename_i p hp;cases hc
  obtain ⟨en,h1,h2⟩:=hr.at_ b p _ hp hb;exact ⟨p,en,hp,rfl,h1,h2⟩
 ·cases hc
theorem HR.updMap (hr:HR w0 ρ h w) {b:Nat} {p:Place} {es a:List (AV×AV×Nat)} {c clock':Nat} {en en':Array MapEntry} (f:ρ[b]?=some p) (l:h[b]?=some (.map es c)) (d:w.heap[p.b]?=some (.map en c)) (g:MR ρ a en'.toList) :
 HR w0 ρ (h.set b (.map a clock')) (w.putObj p.b (.map en' clock')):=by
 have i:p.b<w.heap.size:=(Array.getElem?_eq_some_iff.1 d).1;refine hr.upd f l rfl (w':=w.putObj p.b _) ⟨rfl,rfl,rfl,by simp,fun k _ j=>World.putObj_heap_other (fun e=>j (by simp [e]))⟩ ?_ rfl;exact ⟨en',World.putObj_heap_same i,g⟩
theorem MR.app:∀ {es:List (AV×AV×Nat)} {en:List MapEntry} {e:AV×AV×Nat} {m:MapEntry},MR ρ es en→MR ρ [e] [m]→MR ρ (es++[e]) (en++[m])
 | [],[],_,_,_,h=>h
 | (k,a,n)::r,m::l,_,_,⟨h1,h2,h3,h4⟩,h=>⟨h1,h2,h3,h4.app h⟩
 | [],_::_,_,_,h,_=>h.elim
 | _::_,[],_,_,h,_=>h.elim
theorem MR.set:∀ {es:List (AV×AV×Nat)} {en:List MapEntry} {i:Nat} {e:AV×AV×Nat} {m:MapEntry},MR ρ es en→MR ρ [e] [m]→MR ρ (es.set i e) (en.set i m)
 | [],[],_,_,_,_,h=>trivial
 | (k,a,n)::r,m::l,0,(k',a',n'),_,⟨h1,h2,h3,h4⟩,⟨g1,g2,g3,_⟩=>⟨g1,g2,g3,h4⟩
 | (k,a,n)::r,m::l,i+1,_,_,⟨h1,h2,h3,h4⟩,h=>⟨h1,h2,h3,h4.set h⟩
 | [],_::_,_,_,_,h,_=>h.elim
 | _::_,[],_,_,_,h,_=>h.elim
theorem MR.erase:∀ {es:List (AV×AV×Nat)} {en:List MapEntry} {i:Nat},MR ρ es en→MR ρ (es.eraseIdx i) (en.eraseIdx i)
 | [],[],_,h=>trivial
 | (k,a,n)::r,m::l,0,⟨h1,h2,h3,h4⟩=>h4
 | (k,a,n)::r,m::l,i+1,⟨h1,h2,h3,h4⟩=>⟨h1,h2,h3,h4.erase⟩
 | [],_::_,_,h=>h.elim
 | _::_,[],_,h=>h.elim
theorem MR.len:∀ {es:List (AV×AV×Nat)} {en:List MapEntry},MR ρ es en→en.length=es.length
 | [],[],_=>rfl
 | _::r,_::l,⟨_,_,_,h4⟩=>by simp [h4.len]
 | [],_::_,h=>h.elim
 | _::_,[],h=>h.elim
theorem lw {en:Array MapEntry} {i:Nat} {m:MapEntry} (b:en.toList[i]?=some m) (f:MapEntry→MapEntry):(en.modify i f).toList=en.toList.set i (f m):=by
 rw [Array.toList_modify];refine List.ext_getElem? fun j=>?_
 rw [List.getElem?_modify,JM]
 by_cases hj:i=j
 ·subst hj;have d:=(Jo.1 b).1;have c:i<en.size:=by simpa using d
  have a:en[i]?=some m:=by simpa using b
  have e:en[i]=m:=(Array.getElem?_eq_some_iff.1 a).2;simp [a,c,e]
 ·simp [hj]
theorem qT {T:TypeId} {k:AV} {kv:Value} (hk:aD ρ k=some kv) (hka:mH P T k=true):(Instr.keyThatStays kv kv).run P w=.ok kv w:=by
 unfold Instr.keyThatStays;rw [if_pos (yo hk hka)]; rfl
theorem vY (hr:HR w0 ρ h w) (I:FR ρ s E) {T:TypeId} {x y:Operand} {m k c:AV} {ok:Bool} (hx:cW s x=some m) (hy:cW s y=some k) (e:kA P h T m k ok=some c) :
 ∃v,aD ρ c=some v∧bo P E ⟨d,.lookup T x y ok,ty,ps,af,gd⟩ w v w:=by
 have A:=aV I hx;have i:=aV I hy;unfold kA at e;split at e
 ·cases e
 rename_i kt el hmt;have u:=gu hmt;split at e
 ·cases e
 rename_i agg size bytes z hty;have J:=cR hty;split at e
 ·cases e
 rename_i zv hz;have D:=oH ρ z zv hz;have B:∀(a:AV) (t:Bool) (g:Value),aD ρ a=some g→
  (Instr.lookup T (ev E x) (ev E y) ok).run P w=.ok (if ok then .tuple #[g,.bool t] else g) w→(if ok then AV.tup [a,.bool t] else a)=c→∃v,aD ρ c=some v∧bo P E ⟨d,.lookup T x y ok,ty,ps,af,gd⟩ w v w:=by
  intro a t g K L N;refine ⟨if ok then .tuple #[g,.bool t] else g,?_,.inl ?_⟩
  ·rw [←N];cases ok
   ·exact K
   ·simp only [if_true,aD,concL,K]
  ·simp only [execOp,Sem.run_bind,L];rfl
 split at e
 ·rename_i b;split at e
  ·rename_i es clock hb;split at e
   ·rename_i hka;obtain ⟨p,en,S,G,F,H⟩:=hr.mapBlk A hb;split at e
    ·cases e
    ·rename_i hfind;obtain ⟨o,l,f⟩:=dW (w:=w) i hka H hfind;have f:o=none:=f;subst f;refine B zv false z D ?_ (Option.some.inj e);rw [G];simp only [Instr.lookup,Sem.run_bind,run_underlying u,Jz,getObj,Sem.run,F,cE i hka,l,dv J,Sem.run_pure]
    ·rename_i j a n hfind;obtain ⟨o,l,q,k',m',Z,X,W,V,Q,U,rfl⟩:=dW (w:=w) i hka H hfind;refine B a true m'.val Q ?_ (Option.some.inj e);rw [G];simp only [Instr.lookup,Sem.run_bind,run_underlying u,Jz,getObj,Sem.run,F,cE i hka,l,Sem.run_pure]
   ·cases e
  ·cases e
 ·split at e
  ·rename_i hka;simp only [aD,Option.some.injEq] at A;refine B zv false z D ?_ (Option.some.inj e);obtain ⟨o,l,f⟩:=dW (w:=w) (es:=[]) (en:=[]) (r:=none) i hka trivial rfl;have f:o=none:=f;subst f;rw [←A];have R:(#[]:Array MapEntry).toList=[]:=rfl;simp only [Instr.lookup,Sem.run_bind,run_underlying u,Jz,Sem.run_pure,cE i hka,R,l,dv J]
  ·cases e
 ·cases e
def Fs (P:Program) (E:Env) (w0:Frm) (ρ:List Place) (o:Oper) (w:World) (h':List AB):Prop:=∃w',HR w0 ρ h' w'∧vh P E o w w'
theorem pF (hr:HR w0 ρ h w) {T:TypeId} {m k v:AV} {s f vv:Value} {y:List AB} (F:aD ρ m=some s) (d:aD ρ k=some f) (x:aD ρ v=some vv) (c:gS P h T m k v=some y) :
 ∃w',HR w0 ρ y w'∧(Instr.mapUpdate T s f vv).run P w=.ok () w':=by
 unfold gS at c;split at c
 ·rename_i kt el b hmt;have u:=gu hmt;split at c
  ·rename_i es clock hb;split at c
   ·rename_i hka;obtain ⟨p,en,t,B,g,i⟩:=hr.mapBlk F hb;subst B;split at c
    ·cases c
    ·rename_i hfind;obtain ⟨o,l,r⟩:=dW (w:=w) d hka i hfind;have r:o=none:=r;subst r;cases c
     refine ⟨_,hr.updMap (en':=en.push { key:=f,val:=vv,born:=clock }) (clock':=clock+1) t hb g ?_,?_⟩
     ·rw [Array.toList_push]; exact i.app ⟨d,x,rfl,trivial⟩
     ·simp only [Instr.mapUpdate,Sem.run_bind,run_underlying u,Jz,getObj,Sem.run,g,cE d hka,l,MapKept.run_setObj_map _ g];rfl
    ·rename_i j a n hfind;obtain ⟨o,l,q,k',m',A,K,z,H,J,G,rfl⟩:=dW (w:=w) d hka i hfind;cases c
     have A:j=q:=by omega
     subst A;have I:en[j]?=some m':=by simpa using z
     refine ⟨_,hr.updMap (en':=en.modify j fun e=>{ e with key:=f,val:=vv }) (clock':=clock) t hb g ?_,?_⟩
     ·rw [lw z];exact i.set ⟨d,x,G,trivial⟩
     ·have D:((en[j]?).map (·.key)).getD f=f:=by rw [I]; exact H
      simp only [Instr.mapUpdate,Sem.run_bind,run_underlying u,Jz,getObj,Sem.run,g,cE d hka,l,D,qT d hka,MapKept.run_setObj_map _ g];rfl
   ·cases c
  ·cases c
 ·cases c
theorem vT (hr:HR w0 ρ h w) (a:FR ρ s E) {T:TypeId} {x y z:Operand} {m k v:AV} {b:List AB} (hx:cW s x=some m) (hy:cW s y=some k) (c:cW s z=some v) (e:gS P h T m k v=some b) :
 Fs P E w0 ρ ⟨d,.mapUpdate T x y z,ty,ps,af,gd⟩ w b:=by
 obtain ⟨w',g,f⟩:=pF hr (aV a hx) (aV a hy) (aV a c) e;exact ⟨w',g,.inl (by simp only [execOp,Sem.run_bind,f,Jz,Sem.run_pure])⟩
theorem wl (hr:HR w0 ρ h w) (a:FR ρ s E) {T:TypeId} {x y z:Operand} {m k v:AV} {b:List AB} (hx:cW s x=some m) (hy:cW s y=some k) (c:cW s z=some v) (e:gS P h T m k v=some b) :
 Fs P E w0 ρ ⟨d,.insert T x y z,ty,ps,af,gd⟩ w b:=by
 obtain ⟨w',g,f⟩:=pF hr (aV a hx) (aV a hy) (aV a c) e;exact ⟨w',g,.inl (by simp only [execOp,Sem.run_bind,f,Jz,Sem.run_pure])⟩
theorem sy (hr:HR w0 ρ h w) (F:FR ρ s E) {T:TypeId} {x y:Operand} {m k c:AV} {H:List AB} (hx:cW s x=some m) (hy:cW s y=some k) (f:gh P h T m k=some (c,H)) :
 wL P E w0 ρ ⟨d,.mapEntry T x y,ty,ps,af,gd⟩ w c H:=by
 have Q:=aV F hx;have g:=aV F hy;unfold gh at f;split at f
 ·rename_i kt el b hmt;have G:=gu hmt;split at f
  ·rename_i es clock agg size bytes z hb hty;have N:=cR hty;split at f
   ·rename_i hka;obtain ⟨p,en,D,B,i,l⟩:=hr.mapBlk Q hb;split at f
    ·rename_i zv hfind hz;have A:=oH ρ z zv hz;obtain ⟨o,r,t⟩:=dW (w:=w) g hka l hfind;have t:o=none:=t;subst t;cases f
     refine ⟨ρ,.tuple #[z,.int .i64 clock],_,bj.refl _,by simp only [aD,concL,A],hr.updMap (en':=en.push { key:=ev E y,val:=z,born:=clock }) (clock':=clock+1) D hb i ?_,.inl ?_⟩
     ·rw [Array.toList_push]; exact l.app ⟨g,A,rfl,trivial⟩
     ·rw [show execOp (ev E) ⟨d,.mapEntry T x y,ty,ps,af,gd⟩=(do pure (.value (←Instr.mapEntry T (ev E x) (ev E y)))) from rfl,B];simp only [Instr.mapEntry,Sem.run_bind,run_underlying G,Jz,getObj,Sem.run,i,cE g hka,r,dv N,MapKept.run_setObj_map _ i,Sem.run_pure];rfl
    ·rename_i j a n hfind;obtain ⟨o,r,q,k',m',K,U,J,R,I,u,rfl⟩:=dW (w:=w) g hka l hfind;cases f
     have K:j=q:=by omega
     subst K;have v:en[j]?=some m':=by simpa using J
     refine ⟨ρ,.tuple #[m'.val,.int .i64 n],_,bj.refl _,by simp only [aD,concL,I],hr.updMap (en':=en.modify j fun e=>{ e with key:=ev E y }) (clock':=clock) D hb i ?_,.inl ?_⟩
     ·rw [lw J];exact l.set ⟨g,I,u,trivial⟩
     ·have L:((en[j]?).map (·.key)).getD (ev E y)=ev E y:=by rw [v]; exact R
      have S:((en[j]?).map (·.born)).getD 0=n:=by rw [v]; exact u
      rw [show execOp (ev E) ⟨d,.mapEntry T x y,ty,ps,af,gd⟩=(do pure (.value (←Instr.mapEntry T (ev E x) (ev E y)))) from rfl,B];simp only [Instr.mapEntry,Sem.run_bind,run_underlying G,Jz,getObj,Sem.run,i,cE g hka,r,L,qT g hka,MapKept.run_setObj_map _ i,Sem.run_pure];rw [v];simp only [Option.map_some,Option.getD_some,u];rfl
    ·cases f
   ·cases f
  ·cases f
 ·cases f
theorem qR {v:AV} {vv:Value} (d:aD ρ v=some vv) {n:Int}:∀ {es c:List (AV×AV×Nat)} {en:List MapEntry},MR ρ es en→lj v n es=some c→
 ∃i m,en.findIdx? (fun e=>(e.born:Int) == n)=some i∧en[i]?=some m∧MR ρ c (en.set i { m with val:=vv })
 | [],_,_,_,h=>by cases h
 | (k,a,q)::r,c,[],hm,_=>hm.elim
 | (k,a,q)::r,c,m::l,⟨g,j,b,f⟩,h=>by
  simp only [lj] at h;split at h
  ·rename_i hq;cases h
   refine ⟨0,m,?_,rfl,g,d,b,f⟩;rw [List.findIdx?_cons];have:((m.born:Int) == n)=true:=by rw [b]; simpa using hq
   simp [this]
  ·rename_i hq;cases hs:lj v n r with
   | none=>rw [hs] at h; cases h
   | some r'=>
    rw [hs] at h;cases h
    obtain ⟨i,m',s,p,o⟩:=qR d f hs;refine ⟨i+1,m',?_,by simpa using p,g,j,b,o⟩;rw [List.findIdx?_cons];have:((m.born:Int) == n)=false:=by rw [b]; simpa using hq
    simp [this,s]
theorem pX (hr:HR w0 ρ h w) (f:FR ρ s E) {T:TypeId} {x y z:Operand} {m k v:AV} {j:List AB} (hx:cW s x=some m) (hy:cW s y=some k) (o:cW s z=some v) (a:eL h m k v=some j) :
 Fs P E w0 ρ ⟨d,.entryStore T x y z,ty,ps,af,gd⟩ w j:=by
 have A:=aV f hx;have g:=aV f hy;have u:=aV f o;unfold eL at a;split at a
 ·rename_i b kk n;simp only [aD,Option.some.injEq] at g;split at a
  ·rename_i es clock hb;cases hs:lj v n es with
   | none=>rw [hs] at a; cases a
   | some es'=>
    rw [hs] at a;cases a
    obtain ⟨p,en,r,q,c,t⟩:=hr.mapBlk A hb;obtain ⟨i,m',G,D,B⟩:=qR u t hs;have F:en.findIdx? (fun e=>(e.born:Int) == n)=some i:=by
     obtain ⟨l⟩:=en;simpa using G
    refine ⟨_,hr.updMap (en':=en.modify i fun e=>{ e with val:=ev E z }) (clock':=clock) r hb c ?_,.inl ?_⟩
    ·rw [lw D]; exact B
    ·rw [show execOp (ev E) ⟨d,.entryStore T x y z,ty,ps,af,gd⟩=(do Instr.entryStore T (ev E x) (ev E y) (ev E z); pure .skip) from rfl,q,←g];simp only [Instr.entryStore,Sem.run_bind,Jz,getObj,Sem.run,c,asInt,asIntOf,Sem.run_pure,F,MapKept.run_setObj_map _ c];rfl
  ·cases a
 ·cases a
theorem um (hr:HR w0 ρ h w) {T:TypeId} {r:Option Operand} {D:TypeDesc} {k e:TypeId} (b:P.underlying T=some (.map k e)) (a:∀x,r=some x→∃kk n,ev E x=.int kk n) :
 wL P E w0 ρ ⟨d,.makeMap T r,ty,ps,af,gd⟩ w (.mp h.length) (h++[.map [] 0]):=by
 refine ⟨_,_,_,bj.app _ [⟨w.heap.size,0,0⟩],?_,hr.alloc (.map #[] 0) (n:=0) ⟨#[],heap_alloc_new w _,trivial⟩,.inl (v:=.map (some w.heap.size)) ?_⟩
 ·simp only [aD];rw [←hr.len,List.getElem?_concat_length]
 ·cases r with
  | none=>simp [execOp,Instr.makeMap]
  | some x=>
   obtain ⟨kk,n,hx⟩:=a x rfl;simp [execOp,Instr.makeMap,hx,run_underlying b,asInt,asIntOf]
end
end Go.Lx
