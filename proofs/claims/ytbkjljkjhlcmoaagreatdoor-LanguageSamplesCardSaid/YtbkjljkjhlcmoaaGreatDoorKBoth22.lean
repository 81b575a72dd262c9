/- Part 22. -/
import Derived.Test.YtbkjljkjhlcmoaaGreatDoorKBoth21
set_option linter.unusedVariables false
set_option linter.unusedSimpArgs false
namespace Go.Proofs.YtbkjljkjhlcmoaaGreatDoor
open Go.Lx Go.RowKit
theorem uy {w:World} (h:kN 0 (M.g6.map ao) (iS w)):th w:=by
 obtain ⟨arr,T,fz,h1,h2⟩:=h;refine ⟨arr,T,fz,h1,fun i a ha=>?_⟩;obtain ⟨v,q1,q2⟩:=np i a ha;exact ⟨v,h2 i v q2,q1⟩
theorem qO {x:Int} (h:Ic .u8 x):0≤x∧x≤255:=by
 have e1:IntKind.min .u8=0:=by decide
 have e2:IntKind.max .u8=255:=by decide
 have h1:=h.1;have h2:=h.2;rw [e1] at h1;rw [e2] at h2;exact ⟨h1,h2⟩
theorem Ft {L:Nat} (hL:0<L) {z:Int} (h0:0≤z) (h1:z≤255):∃x,x<L∧zT L z=.ofNat x:=by
 obtain ⟨m,rfl⟩:=JF h0;have hw:nM .i64 (m:Int)=(m:Int):=by rw [jB,IntKind.wrap_i64]; omega
 refine ⟨m % L,Nat.mod_lt _ hL,?_⟩;unfold zT;rw [hw];exact Int.ofNat_tmod m L
theorem qB {w:World} (e:th w) (k:Int) {z:Int} (h:0≤z) (g:z≤255):aT Tryz.prog 3 #[.int .i64 k,.int .u8 z] w fun v w'=>v=.bool true∧Below w.heap.size w w':=by
 obtain ⟨r,hr,a⟩:=Fu k;have b:∀ {r L:Nat},r<6→zK k=.ofNat r→0<L→rS r L k z=.val (.int .i64 (zT L z))→aT Tryz.prog 3 #[.int .i64 k,.int .u8 z] w fun v w'=>v=.bool true∧Below w.heap.size w w':=fun {r L} hr a f d=>by
  obtain ⟨x,hx,c⟩:=Ft f h g;exact Er e hr a d hx c
 match r,hr,a with
 | 0,hr,a=>exact b (L:=3) hr a (by decide) (HC k z)
 | 1,hr,a=>exact b (L:=6) hr a (by decide) (HB k z)
 | 2,hr,a=>exact b (L:=6) hr a (by decide) (HA k z)
 | 3,hr,a=>exact b (L:=3) hr a (by decide) (Hz k z)
 | 4,hr,a=>exact b (L:=4) hr a (by decide) (Hy k z)
 | 5,hr,a=>exact b (L:=3) hr a (by decide) (Hx k z)
end Go.Proofs.YtbkjljkjhlcmoaaGreatDoor
