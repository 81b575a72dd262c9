/- Part 19. -/
import Derived.Test.YtbkjljkjhlcmoaaGreatDoorKBoth18
set_option linter.unusedVariables false
set_option linter.unusedSimpArgs false
namespace Go.Proofs.YtbkjljkjhlcmoaaGreatDoor
open Go.Lx Go.RowKit
noncomputable def eY:CallY:=yq Tryz.prog EV eK xN
theorem gl:dS Tryz.prog eY:=zA Cu eK xN
noncomputable def rH:Code:=Tryz.f6.body.getD .skip
theorem Bt:Tryz.f6.body=some rH:=by kernel_rfl
noncomputable def dM (r:Nat) (k:Int):OR:=
 CW.casesOn (eX Tryz.prog true Tryz.f6.ntmps eK ((dh rH).take 2)) fun f=>CW.casesOn (eX Tryz.prog true Tryz.f6.ntmps eK ((dh rH).drop 2)) fun g=>Option.casesOn (il Tryz.prog Tryz.f6.results.toList) .bad fun R=>CW.casesOn R fun R=>
  f eY (jr [.int .i64 k] 0 .nil) CO gN [] (fun s t n ds=>zn (s.at bV 7) (g eY (s.set bV 7 (.int .i64 (.ofNat r))) t n ds (mP Tryz.prog eK R eY) DR (mP Tryz.prog eK R eY))) DR kB
noncomputable def zK (k:Int):Int:=(nM .i64 (k.tmod (.ofNat 6)+.ofNat 6)).tmod (.ofNat 6)
theorem HJ (k:Int):dM 0 k=.mem (.tup [.int .i64 (zK k),vR (dM 0 k)]) (tR (dM 0 k)) (nR (dM 0 k)):=by kernel_rfl
theorem HI (k:Int):dM 1 k=.mem (.tup [.int .i64 (zK k),vR (dM 1 k)]) (tR (dM 1 k)) (nR (dM 1 k)):=by kernel_rfl
theorem HH (k:Int):dM 2 k=.mem (.tup [.int .i64 (zK k),vR (dM 2 k)]) (tR (dM 2 k)) (nR (dM 2 k)):=by kernel_rfl
theorem HG (k:Int):dM 3 k=.mem (.tup [.int .i64 (zK k),vR (dM 3 k)]) (tR (dM 3 k)) (nR (dM 3 k)):=by kernel_rfl
theorem HF (k:Int):dM 4 k=.mem (.tup [.int .i64 (zK k),vR (dM 4 k)]) (tR (dM 4 k)) (nR (dM 4 k)):=by kernel_rfl
theorem HE (k:Int):dM 5 k=.mem (.tup [.int .i64 (zK k),vR (dM 5 k)]) (tR (dM 5 k)) (nR (dM 5 k)):=by kernel_rfl
theorem Cb {r:Nat} (hr:r<6) (k:Int):dM r k=.mem (.tup [.int .i64 (zK k),vR (dM r k)]) (tR (dM r k)) (nR (dM r k)):=by
 match r,hr with
 | 0,_=>exact HJ k
 | 1,_=>exact HI k
 | 2,_=>exact HH k
 | 3,_=>exact HG k
 | 4,_=>exact HF k
 | 5,_=>exact HE k
theorem Fu (k:Int):∃r,r<6∧zK k=.ofNat r:=by
 have d:-6<k.tmod 6∧k.tmod 6<6:=by
  rcases Int.le_total 0 k with h|h
  ·have b:=Int.tmod_nonneg 6 h;have a:=Int.tmod_lt_of_pos k (show (0:Int)<6 by decide);omega
  ·have a:=Int.tmod_lt_of_pos (-k) (show (0:Int)<6 by decide);have b:=Int.tmod_nonneg 6 (show 0≤-k by omega);rw [Int.neg_tmod] at b a;omega
 have b:zK k=(k.tmod 6+6).tmod 6:=by
  unfold zK;rw [jB];show ((IntKind.i64.wrap (k.tmod 6+6)).tmod 6)=_;rw [show IntKind.i64.wrap (k.tmod 6+6)=k.tmod 6+6 by rw [IntKind.wrap_i64]; omega]
 have a:=Int.tmod_nonneg 6 (show 0≤k.tmod 6+6 by omega);have c:=Int.tmod_lt_of_pos (k.tmod 6+6) (show (0:Int)<6 by decide);obtain ⟨r,hr⟩:=JF a;exact ⟨r,by omega,by rw [b,hr]; rfl⟩
theorem yn {w:World} (u:th w) {k:Int} {r:Nat} (t:r<6) (s:zK k=.ofNat r):aT Tryz.prog 6 #[.int .i64 k] w (nH (Frm.all w) ws (.mem (vR (dM r k)) (tR (dM r k)) (nR (dM r k)))):=by
 have a:=Cb t k;generalize hV:vR (dM r k)=V at a ⊢;generalize hT:tR (dM r k)=T at a ⊢;generalize hN:nR (dM r k)=N at a ⊢;unfold dM at a;cases d:eX Tryz.prog true Tryz.f6.ntmps eK ((dh rH).take 2) with
 | mk f=>cases c:eX Tryz.prog true Tryz.f6.ntmps eK ((dh rH).drop 2) with
  | mk g=>cases b:il Tryz.prog Tryz.f6.results.toList with
   | none=>rw [d,c,b] at a; cases a
   | some R=>cases R with
    | mk R=>
     rw [d,c,b] at a;dsimp only at a;have n:=qa mixed;have l:=mu (P:=Tryz.prog);have j:OR.mem (.tup [.int .i64 (zK k),V]) T N≠.bad:=fun h=>by cases h
     refine fV (args:=[.int .i64 k]) Tryz.func6 Bt Y (by kernel_rfl) ?_;refine rM ?_;rw [←List.take_append_drop 2 (dh rH),rL];refine mT n l (m:=Tryz.f6.ntmps) (df:=true) Y (fun _=>Y) gl j _ f d ws _ CO gN [] _ w ⟨oz u,mL pP Y,trivial⟩ a ?_ (fun E' w' q=>(we q j).elim);rintro E' w' ⟨ρ',s',A,B,D,i,x,v⟩;obtain ⟨o,y⟩:=zm v;rw [s] at o;refine lY (fun e z p q=>?_) (fun z p q=>sA i _ _ q) _ _ _ (rT n l gl b (fun h=>by cases h) c (x.same (tI o)) y);cases e with
     | normal=>exact sA i _ _ q
     | ret=>exact sA i _ _ q
     | _=>exact q.elim
end Go.Proofs.YtbkjljkjhlcmoaaGreatDoor
