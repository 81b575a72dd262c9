/- Part 11. -/
import Derived.Test.YtggpjcdhflcfmaaGreatDoorKLexspecKeywords10
set_option linter.unusedVariables false
set_option linter.unusedSimpArgs false
set_option maxRecDepth 100000
set_option maxRecDepth 100000
namespace Go.Proofs.YtggpjcdhflcfmaaGreatDoor
open Go.Lx Go.RowKit
theorem tg {b:(aV 4)} {d:Int} {r:Bool} (a:M.m4 b d=some r) {g:Hp} {e:World} (l:cY g e) :
 aU Tryz.prog 38 #[cC .u64 b,I6 d] e (fun v w'=>∃g',(cL aO false g' v r)∧dx g e g' w'):=by
 unfold M.m4 at a;have c:=Sep.start l;refine ax Tryz.func38 rfl Tryz.ntmps38 rfl ?_;have m:=bP;refine SR<|gT (v:=cC .u64 b) rfl c (zs:=b.1.map (U6)) rfl rfl fun q n c=>Oa (Bo false) rfl<|NR<|Om (I6 d) rfl ?_;obtain ⟨p,k,a⟩:=ab a;refine O (kF rfl rfl k) rfl ?_;obtain ⟨c1,f,a⟩:=ab a;refine O (cR Ir eI rfl rfl (cr f).1 (cr f).2.1) rfl<|O (aW eI rfl (c.cell (i:=0) rfl (dY f))) rfl<|Om (I6 d) rfl ?_;obtain ⟨o,j,a⟩:=ab a;refine O (kE rfl rfl j) rfl<|O (ew HZ IL rfl) rfl ?_;obtain ⟨t3,h,a⟩:=ab a;refine O (qE rfl rfl h) rfl<|O (zk rfl rfl) rfl<|O (bR rfl rfl) rfl<|Oa (Bo ((bits .and .u64 t3 1) == 1)) rfl<|aa<|aD ?_;obtain rfl:=si a;exact aC m ⟨_,bE Tryz.results38 (aI (v:=Bo ((bits .and .u64 t3 1) == 1)) rfl),g,⟨[Bo ((bits .and .u64 t3 1) == 1)],rfl,rfl⟩,c.ext⟩
def C.f5 (fl:Nat):Prop:=∀ {p1:T_Regex} {p2:Str} {p3:(List Bool)} {r:(List Bool)} (_:M.f5 fl p1 p2 p3=some r) {g0:Hp} {w0:World} (hi:cY g0 w0) {cs1:List Value} (hcs1:aJ.rel g0 cs1 p1) {v1:Value} (hRv1:cA aO g0 v1 p3),
 aU Tryz.prog 29 #[Value.agg cs1.toArray,an p2,v1] w0 (fun v w'=>∃g' y0,(ae aO g' y0 r)∧Sep g0 w0 g' w' [.row v 4 aO.sz r.length y0])
theorem pj {fl:Nat} (f1:C.f5 fl):C.f5 (fl+1):=by
 intro c k p3 r a g J hi C8 v0 x L;unfold M.f5 at a;obtain ⟨_,_,C1,rfl,rfl,rfl,⟨f,rfl,I⟩⟩:=aj.1 v0;have b:=Sep.start hi;refine ax Tryz.func29 Z Tryz.ntmps29 Z ?_;have d:=bP;refine SR<|Ob (([I6 c.Kind])++((bw c.Set)++([f]))) b Z Z fun p z9 b=>Oa (Z0) Z<|NR<|Om (an k) Z<|O (cI HW Z) Z ?_;obtain ⟨t1,q0,a⟩:=ab a;refine O (aP Z Z q0) Z ?_;obtain ⟨l1,u2,a⟩:=ab a;refine dF (τ:=aO) (zc:=[Bo false]) (zx:=false) HY cx Z Z (by decide) b Z Z u2 Z fun v3 z1 e2 a5 b=>Oa v3 Z<|aa ?_;obtain ⟨j1,m9,x3⟩:=ab a;refine aA (fun E w=>∃c2 a4 d3,Ev E [7] [a4]∧E.ds=[]∧bc g c2∧ae aO c2 d3 j1∧Sp g J c2 w [.row a4 4 aO.sz j1.length d3]) ?_ ?_
 ·have a:=m9;refine SR<|Of If bg Z<|Ol (I6 c.Kind) bg b 1 0 Z Z (by simp [c.Set.2]) Z<|aa<|al<|SR<|O (bR Z Z) Z<|Oa (Bo (c.Kind == 2)) Z<|aa ?_;rcases aq a with ⟨i3,a⟩|⟨i3,a⟩
  ·refine am Z i3<|ag<|Om v3 Z<|Om x Z ?_;obtain ⟨y4,r7,t7⟩:=(id L);refine tO HY cx Z b (i:=0) Z a5 (v:=v3) Z (u:=x) Z (t7.src b.imm) r7 Z fun z0 l8 s6 b=>aa ?_;obtain rfl:=si a;exact ⟨g,v3,l8,Z,d,(bc.refl _),s6,(b.kp 1 Z)⟩
  refine ai Z i3<|SR<|O (bR Z Z) Z<|Oa (Bo (c.Kind == 3)) Z<|aa ?_;rcases aq a with ⟨i2,a⟩|⟨i2,a⟩
  ·refine am Z i2<|SR<|Oa (I6 0) Z<|aa<|al<|aQ (fun (F:(List Bool)×Int) E w=>match F with|(f0,N)=>∃X K d2,Ev E [1,2,3,7,8] [an k,x,P0 p,K,I6 N]∧E.ds=[]∧bc g X∧ae aO X d2 f0∧Sp g J X w [.row K 4 aO.sz f0.length d2,bx p 53 (([I6 c.Kind])++((bw c.Set)++([f])))]) a ⟨g,v3,e2,Z,d,(bc.refl _),a5,b⟩ ?_;rintro ⟨f0,N⟩ B4 E w a ⟨X,K,d2,n,d,a7,b7,b⟩;obtain ⟨E,rfl⟩:=jv n;replace L:=L.mono a7;have i5:=bc.refl X;refine aw<|SR<|Om (I6 N) Z<|Om (an k) Z<|O (cI HW Z) Z<|O (bo Z Z) Z<|aa ?_;rcases aq a with ⟨i1,a⟩|⟨i1,a⟩
   ·refine am Z i1<|ao<|aw<|al<|WA b (.q 0 (.q 1 (.q 2 (.q 3 (.q 4 (.q 5 (.q 6 (.q 7 (.q 8 (.q 9 (.q 10 (.q 11 (.q 12 (.q 13 (.s 14 (.q 15 (.q 16 (.s 17 (.leaf))))))))))))))))))) mo (by decide +kernel) ?_;have b:=b.drew;have w6:=L;have e:=b.ss;refine Am K e Z<|Am (I6 N) e Z ?_;obtain ⟨j4,f9,a⟩:=ab a;refine A Z e (fun _ _=>aP Z Z f9) Z<|Am x e Z<|Am (I6 N) e Z ?_;obtain ⟨j0,h2,a⟩:=ab a;obtain ⟨G4,A8,E4,o6,_,rfl,w4⟩:=w6.at h2;refine A Z e (fun _ _=>az HY cx (v:=x) Z o6 Z (ad h2).1 (ad h2).2.1) Z<|A Z e (fun w9 ⟨g9,V,b⟩=>bu (cs:=[Bo j0]) cx Z Z (.inr Z) (w4 _ (b.imm.of_le V)) (v:=Bo j0) Z) Z<|Am (Bo j0) e Z ?_;rcases aq a with ⟨l,a⟩|⟨l,a⟩
    ·refine AG Z Z Z Z (by rw [l]; rfl) e (fun w9 ⟨g9,V,b⟩=>ap If ca Z Z (by decide) Z Z) Z<|AG Z Z Z Z (by rw [l]; rfl) e (fun w9 ⟨g9,V,b⟩=>cp (cs:=c.Set.1.map (U6)) ca Z (by simp [c.Set.2]) (b.cellsAt (i:=1) (o:=1) Z (by intro j u hj; exact gJ (pre:=[I6 c.Kind]) (ds:=c.Set.1.map (U6)) (post:=[f]) rfl ((by simp)) hj))) Z<|AG Z Z Z Z (by rw [l]; rfl) e (fun w9 ⟨g9,V,b⟩=>dJ (v:=an k) Z) Z<|AG Z Z Z Z (by rw [l]; rfl) e (fun w9 ⟨g9,V,b⟩=>dJ (v:=I6 N) Z) Z ?_;obtain ⟨c6,w5,a⟩:=ab a;refine AG Z Z Z Z (by rw [l]; rfl) e (fun w9 ⟨g9,V,b⟩=>di HW Z Z w5) Z<|AG Z Z Z Z (by rw [l]; rfl) e (fun w9 ⟨g9,V,b⟩=>ew Ip HZ Z) Z<|A1 Z ?_;obtain ⟨e7,s1,a⟩:=ab a;refine CI l Z Z [cC .u64 c.Set,I6 (IntKind.i64.wrap c6)] Hb Z (tg s1 b.imm) Z ?_;rintro A0 y9 ⟨x4,⟨_,rfl,rfl⟩,k2⟩;have g1:=k2.le b.imm;replace b:=b.call k2;replace b7:=b7.mono g1;replace a7:=a7.trans g1;replace i5:=i5.trans g1;refine aa ?_;replace e:=e.to i5 b;refine ⟨fun _=>e,?_⟩;refine A Z e (fun _ _=>aF (v:=Bo e7) Z l Z) Z ?_;obtain ⟨x7,f3,a⟩:=ab a;obtain ⟨G3,E3,o5,y8,l7,q6,t4,r2⟩:=b.rowPut (i:=0) rfl b7 f3 (cs:=[Bo e7]) rfl;refine A Z e (fun _ _=>az HY cx (v:=K) Z o5 Z (bl f3).1 (bl f3).2.1) Z<|A1 Z<|O0 (cw cx Z (v:=Bo e7) Z Z q6) ?_;have b:=r2;refine aa<|⟨fun h=>absurd h (by decide +kernel),?_⟩;refine AN<|ag<|Om (I6 N) Z<|O (aP Z Z f9) Z<|Oa (I6 j4) Z<|aa ?_;obtain rfl:=si a;exact ⟨x4,K,l7,Z,d,a7,t4,b⟩
    refine AK Z Z Z Z (by rw [l]; rfl) e Z<|AK Z Z Z Z (by rw [l]; rfl) e Z<|AK Z Z Z Z (by rw [l]; rfl) e Z<|AK Z Z Z Z (by rw [l]; rfl) e Z<|AK Z Z Z Z (by rw [l]; rfl) e Z<|AK Z Z Z Z (by rw [l]; rfl) e Z<|A1 Z<|OJ l Z<|aa ⟨fun _=>e,?_⟩;refine A Z e (fun _ _=>av (v:=Bo false) Z l Z) Z ?_;obtain ⟨x6,f2,a⟩:=ab a;obtain ⟨G2,E2,o4,y7,l6,q5,t3,r1⟩:=b.rowPut (i:=0) rfl b7 f2 (cs:=[Bo false]) rfl;refine A Z e (fun _ _=>az HY cx (v:=K) Z o4 Z (bl f2).1 (bl f2).2.1) Z<|A1 Z<|O0 (cw cx Z (v:=Bo false) Z Z q5) ?_;have b:=r1;refine aa<|⟨fun h=>absurd h (by decide +kernel),?_⟩;refine AN<|ag<|Om (I6 N) Z<|O (aP Z Z f9) Z<|Oa (I6 j4) Z<|aa ?_;obtain rfl:=si a;exact ⟨X,K,l6,Z,d,a7,t3,b⟩
   refine ai Z i1<|aN ?_;obtain rfl:=si a;rintro rfl;exact ⟨X,K,d2,Z,d,a7,b7,(b.kp 1 Z)⟩
  refine ai Z i2<|SR<|O (bR Z Z) Z<|Oa (Bo (c.Kind == 4)) Z<|aa ?_;rcases aq a with ⟨i0,a⟩|⟨i0,a⟩
  ·refine am Z i0<|SR<|Om v3 Z<|Om x Z ?_;obtain ⟨y3,r6,t6⟩:=(id L);refine tO HY cx Z b (i:=0) Z a5 (v:=v3) Z (u:=x) Z (t6.src b.imm) r6 Z fun y6 l5 s5 b=>NR<|Oa (I6 0) Z<|aa<|al<|aQ (fun (F:(List Bool)×Int) E w=>match F with|(d8,a9)=>∃c1 a3 d1,Ev E [1,3,7,9] [an k,P0 p,a3,I6 a9]∧E.ds=[]∧bc g c1∧ae aO c1 d1 d8∧Sp g J c1 w [.row a3 4 aO.sz d8.length d1,bx p 53 (([I6 c.Kind])++((bw c.Set)++([f])))]) a ⟨g,v3,l5,Z,d,(bc.refl _),s5,b⟩ ?_;rintro ⟨d8,a9⟩ B3 E w a ⟨c1,a3,d1,n,d,U,j6,b⟩;obtain ⟨E,rfl⟩:=fK n;replace I:=I.mono U;refine aw<|SR<|Om (I6 a9) Z<|Of If dq Z<|Ol f dq b 1 5 Z Z (by simp [c.Set.2]) Z ?_;obtain ⟨a36,E8,p0⟩:=I.shape;refine O (aL (v:=f) HV Z p0) Z<|O (bo Z Z) Z<|aa ?_;rcases aq a with ⟨h9,a⟩|⟨h9,a⟩
   ·refine am Z h9<|ao<|aw<|al<|ag<|Of If dq Z<|Ol f dq b 1 5 Z Z (by simp [c.Set.2]) Z<|Om (I6 a9) Z ?_;obtain ⟨a1,h1,a⟩:=ab a;obtain ⟨G1,A7,E1,o3,C7,u9,w3⟩:=I.at h1;obtain ⟨_,_,C6,rfl,rfl,rfl,⟨e3,rfl,i6⟩⟩:=aj.1 u9;refine O (az HV bi (v:=f) Z o3 Z (ad h1).1 (ad h1).2.1) Z<|Oe (([I6 a1.Kind])++((bw a1.Set)++([e3]))) bi (by simp [a1.Set.2]) (w3 _ b.imm) Z Z<|Om (an k) Z<|Om a3 Z ?_;have r3:=b;have u1:=U;obtain ⟨C0,k0,x0,b⟩:=b.relRow (i:=0) rfl j6;replace i6:=i6.mono k0;replace U:=U.trans k0;obtain ⟨m6,s0,a⟩:=ab a;refine C [Ag (([I6 a1.Kind])++((bw a1.Set)++([e3]))),an k,a3] Ch Z (f1 s0 b.imm (aj.2 ⟨[I6 a1.Kind],a1.Set.1.map (U6),[e3],Z,Z,Z,⟨_,Z,i6⟩⟩) x0) Z ?_;rintro j3 y5 ⟨B9,j2,f8,u6⟩;obtain ⟨k3,u0,b⟩:=r3.lentOwn u6;simp only [Je,Jd] at b;have f8:ae aO k3 j2 m6:=ae.flat (fun _ _ _ _ h=>h) f8;replace U:=u1.trans u0;refine Oa j3 Z<|aa<|ag<|Om (I6 a9) Z ?_;obtain ⟨l9,p4,a⟩:=ab a;refine O (aP Z Z p4) Z<|Oa (I6 l9) Z<|aa ?_;obtain rfl:=si a;exact ⟨k3,j3,j2,Z,d,U,f8,(b.kp 5 Z)⟩
   refine ai Z h9<|aN ?_;obtain rfl:=si a;rintro rfl;exact ⟨c1,a3,d1,Z,d,U,j6,(b.kp 1 Z)⟩
  refine ai Z i0<|SR<|O (bR Z Z) Z<|Oa (Bo (c.Kind == 5)) Z<|aa ?_;rcases aq a with ⟨h8,a⟩|⟨h8,a⟩
  ·refine am Z h8<|SR<|Oa (I6 0) Z<|aa<|al<|aQ (fun (F:(List Bool)×Int) E w=>match F with|(e9,Q)=>∃W b4 b3,Ev E [1,2,3,7,10] [an k,x,P0 p,b4,I6 Q]∧E.ds=[]∧bc g W∧ae aO W b3 e9∧Sp g J W w [.row b4 4 aO.sz e9.length b3,bx p 53 (([I6 c.Kind])++((bw c.Set)++([f])))]) a ⟨g,v3,e2,Z,d,(bc.refl _),a5,b⟩ ?_;rintro ⟨e9,Q⟩ B2 E w a ⟨W,b4,b3,n,d,a6,d7,b⟩;obtain ⟨E,rfl⟩:=jv n;replace L:=L.mono a6;replace I:=I.mono a6;have i4:=bc.refl W;refine aw<|SR<|Om (I6 Q) Z<|Of If dq Z<|Ol f dq b 1 5 Z Z (by simp [c.Set.2]) Z ?_;obtain ⟨G6,E7,o9⟩:=I.shape;refine O (aL (v:=f) HV Z o9) Z<|O (bo Z Z) Z<|aa ?_;rcases aq a with ⟨h7,a⟩|⟨h7,a⟩
   ·refine am Z h7<|ao ?_;obtain ⟨j5,m8,x2⟩:=ab a;refine aA (fun E w=>∃c0 d4 d0,Ev E [1,2,3,7,10] [an k,x,P0 p,d4,I6 Q]∧E.ds=[]∧bc W c0∧ae aO c0 d0 j5∧Sp g J c0 w [.row d4 4 aO.sz j5.length d0,bx p 53 (([I6 c.Kind])++((bw c.Set)++([f])))]) ?_ ?_
    ·have a:=m8;refine al<|SR<|Of If dq Z<|Ol f dq b 1 5 Z Z (by simp [c.Set.2]) Z<|Om (I6 Q) Z ?_;obtain ⟨a0,h0,a⟩:=ab a;obtain ⟨G0,A6,E0,o2,C5,u8,w2⟩:=I.at h0;obtain ⟨_,_,C4,rfl,rfl,rfl,⟨e5,rfl,w7⟩⟩:=aj.1 u8;refine O (az HV bi (v:=f) Z o2 Z (ad h0).1 (ad h0).2.1) Z<|Oe (([I6 a0.Kind])++((bw a0.Set)++([e5]))) bi (by simp [a0.Set.2]) (w2 _ b.imm) Z Z<|Om (an k) Z<|Om x Z ?_;obtain ⟨m5,r9,a⟩:=ab a;refine C [Ag (([I6 a0.Kind])++((bw a0.Set)++([e5]))),an k,x] Ch Z (f1 r9 b.imm (aj.2 ⟨[I6 a0.Kind],a0.Set.1.map (U6),[e5],Z,Z,Z,⟨_,Z,w7⟩⟩) L) Z ?_;rintro S z8 ⟨i8,l4,n0,k1⟩;have j9:=k1.ext.le b.imm;replace b:=b.callOwn k1;simp only [Je,Jd] at b;replace d7:=d7.mono j9;replace i4:=i4.trans j9;refine Oa S Z<|NR<|Oa (I6 0) Z<|aa<|al<|aQ (fun (F:(List Bool)×Int) E w=>match F with|(e8,P)=>∃D c9,Ev E [1,2,3,7,10,11,12] [an k,x,P0 p,D,I6 Q,S,I6 P]∧E.ds=[]∧ae aO i8 c9 e8∧Sp g J i8 w [.row S 4 aO.sz m5.length l4,.row D 4 aO.sz e8.length c9,bx p 53 (([I6 c.Kind])++((bw c.Set)++([f])))]) a ⟨b4,b3,Z,d,d7,b⟩ ?_;rintro ⟨e8,P⟩ B1 E w a ⟨D,c9,n,d,d6,b⟩;obtain ⟨E,rfl⟩:=rG n;refine aw<|SR<|Om (I6 P) Z<|Om S Z ?_;obtain ⟨a57,E6,o8⟩:=b.rowShape (i:=0) rfl;refine O (aL (v:=S) HY Z o8) Z<|O (bo Z Z) Z<|aa ?_;rcases aq a with ⟨h6,a⟩|⟨h6,a⟩
     ·refine am Z h6<|ao<|aw<|al<|ag<|Om D Z<|Om (I6 P) Z<|Om D Z<|Om (I6 P) Z ?_;obtain ⟨k6,g8,a⟩:=ab a;obtain ⟨F9,D9,o1,_,rfl,w1⟩:=b.rowEl (i:=1) rfl d6 g8;refine O (az HY cx (v:=D) Z o1 Z (ad g8).1 (ad g8).2.1) Z<|Oc (Bo k6) cx (w1 _ (b.at (i:=1) Z)) Z Z<|Om (Bo k6) Z ?_;rcases aq a with ⟨G,a⟩|⟨G,a⟩
      ·refine OJ G Z<|OJ G Z<|OJ G Z<|OJ G Z<|O (aF (v:=Bo true) Z G Z) Z ?_;obtain ⟨y1,f7,a⟩:=ab a;obtain ⟨F8,D8,o0,z7,l3,q4,t2,r0⟩:=b.rowPut (i:=1) rfl d6 f7 (cs:=[Bo true]) rfl;refine O (az HY cx (v:=D) Z o0 Z (bl f7).1 (bl f7).2.1) Z<|O0 (cw cx Z (v:=Bo true) Z Z q4) ?_;have b:=r0;refine aa<|ag<|Om (I6 P) Z ?_;obtain ⟨m4,p9,a⟩:=ab a;refine O (aP Z Z p9) Z<|Oa (I6 m4) Z<|aa ?_;obtain rfl:=si a;exact ⟨D,l3,Z,d,t2,b⟩
      refine Im G S Z<|Im G (I6 P) Z ?_;obtain ⟨c5,g7,a⟩:=ab a;obtain ⟨F7,D7,n9,_,rfl,v9⟩:=b.rowEl (i:=0) rfl n0 g7;refine OI G Z (az HY cx (v:=S) Z n9 Z (ad g7).1 (ad g7).2.1)<|OI G Z (bu (cs:=[Bo c5]) cx Z Z (.inr Z) (v9 _ (b.at (i:=0) Z)) (v:=Bo c5) Z)<|O (av (v:=Bo c5) Z G Z) Z ?_;obtain ⟨y0,f6,a⟩:=ab a;obtain ⟨F6,D6,n8,z6,l2,q3,t0,q9⟩:=b.rowPut (i:=1) rfl d6 f6 (cs:=[Bo c5]) rfl;refine O (az HY cx (v:=D) Z n8 Z (bl f6).1 (bl f6).2.1) Z<|O0 (cw cx Z (v:=Bo c5) Z Z q3) ?_;have b:=q9;refine aa<|ag<|Om (I6 P) Z ?_;obtain ⟨m3,p8,a⟩:=ab a;refine O (aP Z Z p8) Z<|Oa (I6 m3) Z<|aa ?_;obtain rfl:=si a;exact ⟨D,l2,Z,d,t0,b⟩
     refine ai Z h6<|aN ?_;obtain rfl:=si a;rintro rfl;exact ⟨i8,D,c9,Z,d,i4,d6,(b.kp 6 Z)⟩
    clear b;rintro E w ⟨c0,d4,d0,n,d,t9,s4,b⟩;have a:=x2;obtain ⟨E,rfl⟩:=jv n;replace a6:=a6.trans t9;refine ag<|Om (I6 Q) Z ?_;obtain ⟨m2,p7,a⟩:=ab a;refine O (aP Z Z p7) Z<|Oa (I6 m2) Z<|aa ?_;obtain rfl:=si a;exact ⟨c0,d4,d0,Z,d,a6,s4,b⟩
   refine ai Z h7<|aN ?_;obtain rfl:=si a;rintro rfl;exact ⟨W,b4,b3,Z,d,a6,d7,(b.kp 1 Z)⟩
  refine ai Z h8<|SR<|O (bR Z Z) Z<|Oa (Bo (c.Kind == 6)) Z<|aa ?_;rcases aq a with ⟨h5,a⟩|⟨h5,a⟩
  ·refine am Z h5<|SR<|Om v3 Z<|Om x Z ?_;obtain ⟨y2,r5,t5⟩:=(id L);refine tO HY cx Z b (i:=0) Z a5 (v:=v3) Z (u:=x) Z (t5.src b.imm) r5 Z fun z5 l0 s3 b=>NR<|Oa (Bo true) Z<|aa<|al<|aQ (fun (F:(List Bool)×Bool) E w=>match F with|(e0,d9)=>∃b9 R b2,Ev E [1,3,7,13] [an k,P0 p,R,Bo d9]∧E.ds=[]∧bc g b9∧ae aO b9 b2 e0∧Sp g J b9 w [.row R 4 aO.sz e0.length b2,bx p 53 (([I6 c.Kind])++((bw c.Set)++([f])))]) a ⟨g,v3,l0,Z,d,(bc.refl _),s3,b⟩ ?_;rintro ⟨e0,d9⟩ B0 E w a ⟨b9,R,b2,n,d,T,b6,b⟩;obtain ⟨E,rfl⟩:=fK n;replace I:=I.mono T;refine aw<|SR<|Om (Bo d9) Z<|aa ?_;rcases aq a with ⟨h4,a⟩|⟨h4,a⟩
   ·refine am Z h4<|ao<|al<|SR<|Oa (Bo false) Z<|NR<|Of If dq Z<|Ol f dq b 1 5 Z Z (by simp [c.Set.2]) Z ?_;obtain ⟨Y,g6,a⟩:=ab a;obtain ⟨F5,A5,D5,n7,C3,u7,v8⟩:=I.at g6;obtain ⟨_,_,C2,rfl,rfl,rfl,⟨e4,rfl,i7⟩⟩:=aj.1 u7;refine O (az HV bi (v:=f) Z n7 Z (ad g6).1 (ad g6).2.1) Z<|Oe (([I6 Y.Kind])++((bw Y.Set)++([e4]))) bi (by simp [Y.Set.2]) (v8 _ b.imm) Z Z<|Om (an k) Z<|Om R Z ?_;have r4:=b;have s2:=b6;have t8:=T;obtain ⟨B8,j8,w8,b⟩:=b.relRow (i:=0) rfl b6;replace i7:=i7.mono j8;replace T:=T.trans j8;obtain ⟨e6,r8,a⟩:=ab a;refine C [Ag (([I6 Y.Kind])++((bw Y.Set)++([e4]))),an k,R] Ch Z (f1 r8 b.imm (aj.2 ⟨[I6 Y.Kind],Y.Set.1.map (U6),[e4],Z,Z,Z,⟨_,Z,i7⟩⟩) w8) Z ?_;rintro B z4 ⟨B7,e1,d5,u5⟩;obtain ⟨b8,j7,b⟩:=r4.lentOwn u5;simp only [Je,Jd] at b;have d5:ae aO b8 e1 e6:=ae.flat (fun _ _ _ _ h=>h) d5;replace b6:=s2.mono j7;replace T:=t8.trans j7;refine Oa B Z<|NR<|Oa (I6 0) Z<|aa<|al<|aQ (fun (F:(List Bool)×Bool×Int) E w=>match F with|(c8,c7,z)=>∃t b0,Ev E [1,3,7,13,14,15] [an k,P0 p,t,Bo c7,B,I6 z]∧E.ds=[]∧ae aO b8 b0 c8∧Sp g J b8 w [.row B 4 aO.sz e6.length e1,.row t 4 aO.sz c8.length b0,bx p 53 (([I6 c.Kind])++((bw c.Set)++([f])))]) a ⟨R,b2,Z,d,b6,b⟩ ?_;rintro ⟨c8,c7,z⟩ A9 E w a ⟨t,b0,n,d,b5,b⟩;obtain ⟨E,rfl⟩:=mg n;refine aw<|SR<|Om (I6 z) Z<|Om B Z ?_;obtain ⟨G5,E5,o7⟩:=b.rowShape (i:=0) rfl;refine O (aL (v:=B) HY Z o7) Z<|O (bo Z Z) Z<|aa ?_;rcases aq a with ⟨h3,a⟩|⟨h3,a⟩
    ·refine am Z h3<|ao<|aw<|al ?_;obtain ⟨k7,m7,x1⟩:=ab a;refine aA (fun E w=>Ev E [1,3,7,13,14,15] [an k,P0 p,t,Bo k7,B,I6 z]∧E.ds=[]∧Sp g J b8 w [.row B 4 aO.sz e6.length e1,.row t 4 aO.sz c8.length b0,bx p 53 (([I6 c.Kind])++((bw c.Set)++([f])))]) ?_ ?_
     ·have a:=m7;refine ag<|Om (Bo c7) Z<|Om (Bo c7) Z ?_;rcases aq a with ⟨m,a⟩|⟨m,a⟩
      ·refine OJ m Z<|OJ m Z<|OJ m Z<|OJ m Z<|OJ m Z<|eC Z Z Z Z<|eC Z Z Z Z<|eC Z Z Z Z<|eC Z Z Z Z<|eC Z Z Z Z<|OJ m Z<|O (aF (v:=Bo true) Z m Z) Z<|Oa (Bo true) Z<|aa ?_;obtain rfl:=si a;exact ⟨Z,d,b⟩
      refine Im m B Z<|Im m (I6 z) Z ?_;obtain ⟨i9,g5,a⟩:=ab a;obtain ⟨F4,D4,n6,_,rfl,v7⟩:=b.rowEl (i:=0) rfl d5 g5;refine OI m Z (az HY cx (v:=B) Z n6 Z (ad g5).1 (ad g5).2.1)<|OI m Z (bu (cs:=[Bo i9]) cx Z Z (.inr Z) (v7 _ (b.at (i:=0) Z)) (v:=Bo i9) Z)<|Im m (Bo i9) Z ?_;rcases aq a with ⟨y,a⟩|⟨y,a⟩
      ·refine Im y t Z<|Im y (I6 z) Z ?_;obtain ⟨c4,g4,a⟩:=ab a;obtain ⟨F3,D3,n5,_,rfl,v6⟩:=b.rowEl (i:=1) rfl b5 g4;refine OI y Z (az HY cx (v:=t) Z n5 Z (ad g4).1 (ad g4).2.1)<|OI y Z (bu (cs:=[Bo c4]) cx Z Z (.inr Z) (v6 _ (b.at (i:=1) Z)) (v:=Bo c4) Z)<|OI y Z (cN Z)<|OI m Z (aF (v:=Bo (!c4)) Z y Z)<|O (av (v:=Bo (!c4)) Z m Z) Z<|Oa (Bo (!c4)) Z<|aa ?_;obtain rfl:=si a;exact ⟨Z,d,b⟩
      refine OJ y Z<|OJ y Z<|OJ y Z<|OJ y Z<|OJ y Z<|OI m Z (av (v:=Bo false) Z y Z)<|O (av (v:=Bo false) Z m Z) Z<|Oa (Bo false) Z<|aa ?_;obtain rfl:=si a;exact ⟨Z,d,b⟩
     clear b;rintro E w ⟨n,d,b⟩;have a:=x1;obtain ⟨E,rfl⟩:=mg n;refine ag<|Om t Z<|Om (I6 z) Z<|Om t Z<|Om (I6 z) Z ?_;obtain ⟨k5,g3,a⟩:=ab a;obtain ⟨F2,D2,n4,_,rfl,v5⟩:=b.rowEl (i:=1) rfl b5 g3;refine O (az HY cx (v:=t) Z n4 Z (ad g3).1 (ad g3).2.1) Z<|Oc (Bo k5) cx (v5 _ (b.at (i:=1) Z)) Z Z<|Om (Bo k5) Z ?_;rcases aq a with ⟨H,a⟩|⟨H,a⟩
     ·refine OJ H Z<|OJ H Z<|OJ H Z<|OJ H Z<|O (aF (v:=Bo true) Z H Z) Z ?_;obtain ⟨x9,f5,a⟩:=ab a;obtain ⟨F1,D1,n3,z3,k9,q2,s9,q8⟩:=b.rowPut (i:=1) rfl b5 f5 (cs:=[Bo true]) rfl;refine O (az HY cx (v:=t) Z n3 Z (bl f5).1 (bl f5).2.1) Z<|O0 (cw cx Z (v:=Bo true) Z Z q2) ?_;have b:=q8;refine aa<|ag<|Om (I6 z) Z ?_;obtain ⟨m1,p6,a⟩:=ab a;refine O (aP Z Z p6) Z<|Oa (I6 m1) Z<|aa ?_;obtain rfl:=si a;exact ⟨t,k9,Z,d,s9,b⟩
     refine Im H B Z<|Im H (I6 z) Z ?_;obtain ⟨c3,g2,a⟩:=ab a;obtain ⟨F0,D0,n2,_,rfl,v4⟩:=b.rowEl (i:=0) rfl d5 g2;refine OI H Z (az HY cx (v:=B) Z n2 Z (ad g2).1 (ad g2).2.1)<|OI H Z (bu (cs:=[Bo c3]) cx Z Z (.inr Z) (v4 _ (b.at (i:=0) Z)) (v:=Bo c3) Z)<|O (av (v:=Bo c3) Z H Z) Z ?_;obtain ⟨x8,f4,a⟩:=ab a;obtain ⟨E9,C9,n1,z2,k8,q1,s8,q7⟩:=b.rowPut (i:=1) rfl b5 f4 (cs:=[Bo c3]) rfl;refine O (az HY cx (v:=t) Z n1 Z (bl f4).1 (bl f4).2.1) Z<|O0 (cw cx Z (v:=Bo c3) Z Z q1) ?_;have b:=q7;refine aa<|ag<|Om (I6 z) Z ?_;obtain ⟨m0,p5,a⟩:=ab a;refine O (aP Z Z p5) Z<|Oa (I6 m0) Z<|aa ?_;obtain rfl:=si a;exact ⟨t,k8,Z,d,s8,b⟩
    refine ai Z h3<|aN ?_;obtain rfl:=si a;rintro rfl;exact ⟨b8,t,b0,Z,d,T,b5,(b.kp 6 Z)⟩
   refine ai Z h4<|aN ?_;obtain rfl:=si a;rintro rfl;exact ⟨b9,R,b2,Z,d,T,b6,(b.kp 1 Z)⟩
  refine ai Z h5<|ao ?_;obtain rfl:=si a;exact ⟨g,v3,e2,Z,d,(bc.refl _),a5,(b.kp 1 Z)⟩
 clear b;rintro E w ⟨c2,a4,d3,n,d,B6,s7,b⟩;have a:=x3;obtain ⟨E,rfl⟩:=kl n;refine SR<|Om a4 Z<|Oa a4 Z<|aa<|aD ?_;obtain rfl:=si a;exact aC d ⟨_,bE Tryz.results29 (aI (v:=a4) Z),c2,d3,s7,b⟩
theorem ph:C.f5 0:=by
 unfold C.f5
 intros
 simp_all only [M.f5,reduceCtorEq]
theorem qz:∀fl,C.f5 fl:=by
 intro fl;induction fl with
 | zero=>exact ph
 | succ fl ih=>
  exact pj ih
theorem rP {fl:Nat}:C.f5 fl:=(qz fl)
theorem qA {c:T_Regex} {d:Str} {r:Bool} (b:M.k1 c d=some r) {o:Hp} {j:World} (H:cY o j) {q:List Value} (L:aJ.rel o q c) :
 aU Tryz.prog 20 #[Value.agg q.toArray,an d] j (fun v w'=>∃g',(cL aO false g' v r)∧dx o j g' w'):=by
 unfold M.k1 at b;obtain ⟨_,_,a3,rfl,rfl,rfl,⟨f,rfl,n⟩⟩:=aj.1 L;have a:=Sep.start H;refine ax Tryz.func20 Z Tryz.ntmps20 Z ?_;have K:=bP;refine SR<|Ob (([I6 c.Kind])++((bw c.Set)++([f]))) a Z Z fun b1 V a=>Oa (Bo false) Z<|NR<|Om (an d) Z<|O (cI HW Z) Z ?_;obtain ⟨W,x,b⟩:=ab b;refine O (aP Z Z x) Z ?_;obtain ⟨a2,I,b⟩:=ab b;refine dF (τ:=aO) (zc:=[Bo false]) (zx:=false) HY cx Z Z (by decide) a Z Z I Z fun e U R B a=>Oa e Z<|NR<|Om e Z ?_;obtain ⟨a1,l,b⟩:=ab b;obtain ⟨b2,a5,w,T,Q,y,D,z⟩:=a.rowPut (i:=0) rfl B l (cs:=[Bo true]) rfl;refine O (az HY cx (v:=e) Z w Z (bl l).1 (bl l).2.1) Z<|O0 (cw cx Z (v:=Bo true) Z Z y) ?_;have a:=z;refine NR<|On (([I6 c.Kind])++((bw c.Set)++([f]))) bi (by simp [c.Set.2]) a 1 Z Z Z<|Om (an d) Z<|Om e Z ?_;have A:=a;obtain ⟨a0,F,P,a⟩:=a.relRow (i:=0) rfl D;replace n:=n.mono F;obtain ⟨t,G,b⟩:=ab b;refine C [Ag (([I6 c.Kind])++((bw c.Set)++([f]))),an d,e] Ch Z (rP G a.imm (aj.2 ⟨[I6 c.Kind],c.Set.1.map (U6),[f],Z,Z,Z,⟨_,Z,n⟩⟩) P) Z ?_;rintro v3 S ⟨Y,s,k,J⟩;obtain ⟨p,X,a⟩:=A.lentOwn J;simp only [Je,Jd] at a;have k:ae aO p s t:=ae.flat (fun _ _ _ _ h=>h) k;refine Oa v3 Z<|NR<|Om v3 Z<|Om (an d) Z<|O (cI HW Z) Z ?_;obtain ⟨g,m,b⟩:=ab b;obtain ⟨b3,a4,u,_,rfl,N⟩:=a.rowEl (i:=0) rfl k m;refine O (az HY cx (v:=v3) Z u Z (ad m).1 (ad m).2.1) Z<|Oc (Bo g) cx (N _ (a.at (i:=0) Z)) Z Z<|Oa (Bo g) Z<|aa<|aD ?_;obtain rfl:=si b;exact aC K ⟨_,bE Tryz.results20 (aI (v:=Bo g) Z),p,⟨[Bo g],Z,Z⟩,a.ext⟩
theorem iI {c:T_LexSpec} {j:Str} {r:Bool} (b:M.e9 c j=some r) {m:Hp} {t:World} (hi:cY m t) {a9:List Value} (e1:dj.rel m a9 c) (l:kj 0 (M.k2.map an) m) :
 aU Tryz.prog 5 #[Value.agg a9.toArray,an j] t (fun v w'=>∃g',(cL aO false g' v r)∧dx m t g' w'):=by
 unfold M.e9 at b;obtain ⟨h2,_,_,_,rfl,⟨h,rfl,k⟩,rfl,rfl,rfl⟩:=e1;have a:=Sep.start hi;refine ax Tryz.func5 Z Tryz.ntmps5 Z ?_;have g:=bP;refine SR<|Ob [h,Bo c.Layout,I6 c.Misspelling,I6 c.Unclosed] a Z Z fun F g1 a=>Oa (Bo false) Z<|aa<|aw ?_;obtain ⟨b2,c0,e5⟩:=ab b;refine aA (fun E w=>∃X,Ev E [1,2,16] [an j,P0 F,Bo b2]∧E.ds=[]∧bc m X∧Sp m t X w [bx F 24 ([h,Bo c.Layout,I6 c.Misspelling,I6 c.Unclosed])]) ?_ ?_
 ·have b:=c0;have K:=bc.refl m;refine ag<|On [h,Bo c.Layout,I6 c.Misspelling,I6 c.Unclosed] mw Z a 0 Z Z Z ?_;obtain ⟨b6,d0,b⟩:=ab b;refine C [Ag [h,Bo c.Layout,I6 c.Misspelling,I6 c.Unclosed]] Ho Z (qU d0 a.imm (⟨[h],[Bo c.Layout],[I6 c.Misspelling],[I6 c.Unclosed],Z,⟨_,Z,k⟩,Z,Z,Z⟩)) Z ?_;rintro v3 f9 ⟨a8,⟨_,rfl,rfl⟩,a5⟩;have d4:=a5.le a.imm;replace a:=a.call a5;replace K:=K.trans d4;refine O (cN Z) Z<|Om (Bo (!b6)) Z ?_;rcases aq b with ⟨n,b⟩|⟨n,b⟩
  ·refine OJ n Z<|OJ n Z<|OJ n Z<|O (aF (v:=Bo true) Z n Z) Z<|aa ?_;obtain rfl:=si b;exact ⟨a8,Z,g,K,a⟩
  refine Im n (an j) Z<|OI n Z (cI HW Z)<|OI n Z (eo Z Z)<|O (av (v:=Bo (decide (16<(j.length:Int)))) Z n Z) Z<|aa ?_;obtain rfl:=si b;exact ⟨a8,Z,g,K,a⟩
 clear a;rintro E w ⟨X,H,g,a1,a⟩;have b:=e5;obtain ⟨E,rfl⟩:=fw H;replace k:=k.mono a1;replace l:=l.mono a1;rcases aq b with ⟨U,b⟩|⟨U,b⟩
 ·refine am Z U<|SR ?_;obtain ⟨P,c7,b⟩:=ab b;refine C [] GB Z (gR c7 a.imm l) Z ?_;rintro v4 f6 ⟨f0,⟨_,rfl,rfl⟩,d9⟩;replace a:=a.call d9;refine Oa (Bo P) Z<|aa<|aD ?_;obtain rfl:=si b;exact aC g ⟨_,bE Tryz.results5 (aI (v:=Bo P) Z),f0,⟨[Bo P],Z,Z⟩,a.ext⟩
 refine ai Z U<|ao<|SR<|On [h,Bo c.Layout,I6 c.Misspelling,I6 c.Unclosed] mw Z a 0 Z Z Z ?_;obtain ⟨u,c5,b⟩:=ab b;refine C [Ag [h,Bo c.Layout,I6 c.Misspelling,I6 c.Unclosed]] DL Z (fU c5 a.imm (⟨[h],[Bo c.Layout],[I6 c.Misspelling],[I6 c.Unclosed],Z,⟨_,Z,k⟩,Z,Z,Z⟩) l) Z ?_;rintro v5 f2 ⟨V,⟨v6,v7,rfl,⟨_,rfl,rfl⟩,⟨_,rfl,rfl⟩⟩,a2⟩;have a0:=a2.le a.imm;replace a:=a.call a2;replace k:=k.mono a0;replace l:=l.mono a0;refine Om (Value.tuple #[I6 u.1,I6 u.2]) Z<|Ox (I6 u.1) Z Z Z<|Ox (I6 u.2) Z Z Z<|Oa (I6 u.1) Z<|Oa (I6 u.2) Z<|aa<|aw<|SR<|Om (I6 u.2) Z<|O (dy Z Z) Z<|aa ?_;rcases aq b with ⟨R,b⟩|⟨R,b⟩
 ·refine am Z R<|SR ?_;obtain ⟨L,c4,b⟩:=ab b;refine C [] GB Z (gR c4 a.imm l) Z ?_;rintro v8 f1 ⟨e7,⟨_,rfl,rfl⟩,d7⟩;replace a:=a.call d7;refine Oa (Bo L) Z<|aa<|aD ?_;obtain rfl:=si b;exact aC g ⟨_,bE Tryz.results5 (aI (v:=Bo L) Z),e7,⟨[Bo L],Z,Z⟩,a.ext⟩
 refine ai Z R<|ao ?_;obtain ⟨o3,b9,a7⟩:=cG b;refine aA (fun E w=>∃u9:Unit,o3=.next u9∧∃W,E.ds=[]∧bc V W∧Sp m t W w []) ?_ ?_
 ·have b:=b9;refine SR<|Oa (I6 0) Z<|aa<|al<|aQ (fun (D:Int) E w=>∃z,Ev E [1,2,7] [an j,P0 F,I6 D]∧E.ds=[]∧bc V z∧Sp m t z w [bx F 24 ([h,Bo c.Layout,I6 c.Misspelling,I6 c.Unclosed])]) b ⟨V,Z,g,(bc.refl _),a⟩ ?_;rintro D o2 E w b ⟨z,H,g,G,a⟩;obtain ⟨E,rfl⟩:=fw H;replace k:=k.mono G;have y:=bc.refl z;refine aw<|SR<|Om (I6 D) Z<|Of Il ej Z<|Ol h ej a 0 0 Z Z Z Z ?_;obtain ⟨a6,h6,c2⟩:=k.shape;refine O (aL (v:=h) Ii Z c2) Z<|O (bo Z Z) Z<|aa ?_;rcases aq b with ⟨T,b⟩|⟨T,b⟩
  ·refine am Z T<|ao<|aw<|al<|SR<|Of Il ej Z<|Ol h ej a 0 0 Z Z Z Z<|Om (I6 D) Z ?_;obtain ⟨d,Q,b⟩:=ab b;obtain ⟨h8,g7,h5,c1,h1,⟨_,_,_,_,_,rfl,rfl,rfl,rfl,rfl,rfl⟩,e2⟩:=k.at Q;refine O (az Ii dB (v:=h) Z c1 Z (ad Q).1 (ad Q).2.1) Z<|Oe [an d.Name,I6 d.Kind,an d.Pattern,an d.Sample,an d.Close] dB Z (e2 _ a.imm) Z Z<|aH dB a (zs:=[an [],I6 0,an [],an [],an []]) Z Z fun h7 f8 a=>cB dB a 0 [an d.Name,I6 d.Kind,an d.Pattern,an d.Sample,an d.Close] Z Z Z (ez Z) Z Z fun f7 a=>aa ?_;obtain ⟨b0,b8,e4⟩:=ab b;refine aA (fun E w=>∃I,Ev E [1,2,7,51] [an j,P0 F,I6 D,Bo b0]∧E.ds=[]∧bc z I∧Sp m t I w [bx F 24 ([h,Bo c.Layout,I6 c.Misspelling,I6 c.Unclosed])]) ?_ ?_
   ·have b:=b8;refine WA a (.q 0 (.q 1 (.q 2 (.q 3 (.q 4 (.q 6 (.q 8 (.q 9 (.q 10 (.q 11 (.s 5 (.s 7 (.q 12 (.q 13 (.leaf))))))))))))))) mo (by decide +kernel) ?_;have a:=a.drew;have e:=a.ss;refine A Z e (fun _ _=>ap Iq bg Z Z (by decide) Z Z) Z<|A Z e (fun p ⟨B,x,a⟩=>aW (v:=I6 d.Kind) bg Z (a.cell (i:=0) (o:=1) Z Z)) Z<|A Z e (fun _ _=>bR Z Z) Z<|Am (Bo (d.Kind == 3)) e Z ?_;rcases aq b with ⟨f,b⟩|⟨f,b⟩
    ·refine AG Z Z Z Z (by rw [f]; rfl) e (fun p ⟨B,x,a⟩=>cp (cs:=[an d.Name,I6 d.Kind,an d.Pattern,an d.Sample,an d.Close]) dB Z Z (a.cells (i:=0) Z)) Z<|AG Z Z Z Z (by rw [f]; rfl) e (fun p ⟨B,x,a⟩=>dJ (v:=an j) Z) Z<|AG Z Z Z Z (by rw [f]; rfl) e (fun p ⟨B,x,a⟩=>dJ (v:=an j) Z) Z<|AG Z Z Z Z (by rw [f]; rfl) e (fun p ⟨B,x,a⟩=>ap Iq eD Z Z (by decide) Z Z) Z<|AG Z Z Z Z (by rw [f]; rfl) e (fun p ⟨B,x,a⟩=>aW (v:=an d.Sample) eD Z (a.cell (i:=0) (o:=3) Z Z)) Z<|AG Z Z Z Z (by rw [f]; rfl) e (fun p ⟨B,x,a⟩=>kH Z Z) Z<|A1 Z ?_;obtain ⟨J,c9,b⟩:=ab b;refine CI f Z Z [Ag [an d.Name,I6 d.Kind,an d.Pattern,an d.Sample,an d.Close]] EX Z (ja c9 a.imm (⟨[an d.Name],[I6 d.Kind],[an d.Pattern],[an d.Sample],[an d.Close],Z,Z,Z,Z,Z,Z⟩)) Z ?_;rintro g6 f5 ⟨h0,⟨h4,rfl,e0⟩,a4⟩;have d2:=a4.le a.imm;replace a:=a.call a4;replace y:=y.trans d2;obtain ⟨_,_,h3,rfl,rfl,rfl,⟨Y,rfl,e3⟩⟩:=aj.1 e0;refine aa ?_;replace e:=e.to y a;refine ⟨fun _=>e,?_⟩;refine A1 Z ?_;obtain ⟨b5,c8,b⟩:=ab b;refine CI f Z Z [Ag (([I6 J.Kind])++((bw J.Set)++([Y]))),an j] Hl Z (qA c8 a.imm (aj.2 ⟨[I6 J.Kind],J.Set.1.map (U6),[Y],Z,Z,Z,⟨_,Z,e3⟩⟩)) Z ?_;rintro v44 f4 ⟨e9,⟨_,rfl,rfl⟩,a3⟩;have d1:=a3.le a.imm;replace a:=a.call a3;replace y:=y.trans d1;refine aa ?_;replace e:=e.to y a;refine ⟨fun _=>e,?_⟩;refine AG Z Z Z Z (by rw [f]; rfl) e (fun p ⟨B,x,a⟩=>zi Iz Z Z) Z<|A Z e (fun _ _=>aF (v:=Bo (!(b5 == (j == d.Sample)))) Z f Z) Z<|AN ?_;obtain rfl:=si b;exact ⟨e9,Z,g,y,(a.kp 2 Z)⟩
    refine AK Z Z Z Z (by rw [f]; rfl) e Z<|AK Z Z Z Z (by rw [f]; rfl) e Z<|AK Z Z Z Z (by rw [f]; rfl) e Z<|AK Z Z Z Z (by rw [f]; rfl) e Z<|AK Z Z Z Z (by rw [f]; rfl) e Z<|AK Z Z Z Z (by rw [f]; rfl) e Z<|A1 Z<|OJ f Z<|aa ⟨fun _=>e,?_⟩;refine A1 Z<|OJ f Z<|aa ⟨fun _=>e,?_⟩;refine AK Z Z Z Z (by rw [f]; rfl) e Z<|A Z e (fun _ _=>av (v:=Bo false) Z f Z) Z<|AN ?_;obtain rfl:=si b;exact ⟨z,Z,g,(bc.refl _),(a.kp 2 Z)⟩
   clear a;rintro E w ⟨I,H,g,d3,a⟩;have b:=e4;obtain ⟨E,rfl⟩:=fK H;replace G:=G.trans d3;rcases aq b with ⟨S,b⟩|⟨S,b⟩
   ·refine am Z S<|SR<|Oa (Bo false) Z<|aa<|aD ?_;obtain rfl:=si b;rintro rfl;have b:=a7;obtain rfl:=si b;exact aC g ⟨_,bE Tryz.results5 (aI (v:=Bo false) Z),I,⟨[Bo false],Z,Z⟩,a.ext⟩
   refine ai Z S<|ao<|ag<|Om (I6 D) Z ?_;obtain ⟨t6,c3,b⟩:=ab b;refine O (aP Z Z c3) Z<|Oa (I6 t6) Z<|aa ?_;obtain rfl:=si b;exact ⟨I,Z,g,G,a⟩
  refine ai Z T<|aN ?_;obtain rfl:=si b;rintro rfl;exact ⟨(),Z,z,g,G,(a.kp 0 Z)⟩
 clear a;rintro E w ⟨_,rfl,W,g,d5,a⟩;have b:=bW a7;replace l:=l.mono d5;refine SR ?_;obtain ⟨N,c6,b⟩:=ab b;refine C [] GB Z (gR c6 a.imm l) Z ?_;rintro g5 f3 ⟨e8,⟨_,rfl,rfl⟩,d8⟩;replace a:=a.call d8;refine Oa (Bo N) Z<|aa<|aD ?_;obtain rfl:=si b;exact aC g ⟨_,bE Tryz.results5 (aI (v:=Bo N) Z),e8,⟨[Bo N],Z,Z⟩,a.ext⟩
end Go.Proofs.YtggpjcdhflcfmaaGreatDoor
namespace Go.Lx
theorem fx {σ ρ:Type} {body:σ→Option (cQ σ ρ)} (S:Nat→σ) (n:Nat) {r:ρ} (h:∀i,i<n→body (S i)=some (.next (S (i+1)))) (hn:body (S n)=some (.stop r)) :
 ∀k,n<k→ba body k (S 0)=some r:=by
 have key:∀m i k,i+m=n→m<k→ba body k (S i)=some r:=by
  intro m;induction m with
  | zero=>
   intro i k b a
   match k,a with
   | k+1,_=>
    have:i=n:=by omega
    subst this;simp only [ba,hn]
  | succ m ih=>
   intro i k b a
   match k,a with
   | k+1,a=>
    simp only [ba,h i (by omega)];exact ih (i+1) k (by omega) (by omega)
 intro k a;exact key n 0 k (by omega) a
theorem ov {σ ρ:Type} {body:σ→Option (cQ σ ρ)} (I:σ→Prop) (μ:σ→Nat) (Post:ρ→Prop)
 (h:∀s,I s→(∃a,body s=some (.next a)∧I a∧μ a<μ s)∨(∃r,body s=some (.stop r)∧Post r)) :
 ∀k s,I s→μ s<k→∃r,ba body k s=some r∧Post r:=by
 intro k;induction k with
 | zero=>intro s _ c; omega
 | succ k ih=>
  intro s e c;rcases h s e with ⟨a,hb,d,f⟩|⟨r,hb,hp⟩
  ·obtain ⟨r,b,hp⟩:=ih a d (by omega);exact ⟨r,by simp only [ba,hb]; exact b,hp⟩
  ·exact ⟨r,by simp only [ba,hb],hp⟩
theorem aR {α β:Type} {o:Option α} {x:α} {k:α→Option β} {r:Option β} (h:o=some x) (hk:k x=r):o.bind k=r:=by rw [h]; exact hk
theorem da {σ ρ:Type} {o:Option (cQ σ ρ)} {x:σ} {k:σ→Option ρ} {r:Option ρ} (h:o=some (.next x)) (hk:k x=r):bp o k=r:=by rw [h]; exact hk
theorem eG {σ ρ:Type} {o:Option (cQ σ ρ)} {x:ρ} {k:σ→Option ρ} (h:o=some (.stop x)):bp o k=some x:=by rw [h]; rfl
theorem ia {n:Nat} (h:n≤4611686018427387903):n<aZ:=by unfold aZ; omega
theorem fg {n:Int} (h0:-9223372036854775808≤n) (h1:n≤9223372036854775807):IntKind.i64.wrap n=n:=by rw [IntKind.wrap_i64]; omega
theorem lr {n:Int} (h0:0≤n) (h1:n≤255):IntKind.u8.wrap n=n:=by simp [IntKind.wrap,IntKind.bits,IntKind.signed]; omega
theorem iL {n:Int} (h0:0≤n) (h1:n<18446744073709551616):IntKind.u64.wrap n=n:=by simp [IntKind.wrap,IntKind.bits,IntKind.signed]; omega
theorem dX {n:Int} (h0:-9223372036854775808≤n) (h1:n≤9223372036854775807):bZ .i64 n=some n:=by unfold bZ; rw [if_pos (fg h0 h1)]
theorem ik {a b:Nat} (ha:a<18446744073709551616) (hb:b<18446744073709551616):bits .or .u64 (a:Int) (b:Int)=((a ||| b:Nat):Int):=by
 simp only [bits];have h:a ||| b<18446744073709551616:=Nat.or_lt_two_pow (n:=64) ha hb;have e:((BitVec.ofInt 64 (a:Int) ||| BitVec.ofInt 64 (b:Int)).toNat)=a ||| b:=by
  rw [BitVec.toNat_or,BitVec.toNat_ofInt,BitVec.toNat_ofInt];have d:((a:Int) % (2 ^ 64:Nat)).toNat=a:=by omega
  have c:((b:Int) % (2 ^ 64:Nat)).toNat=b:=by omega
  rw [d,c]
 show IntKind.u64.wrap _=_;rw [show (BitVec.ofInt (IntKind.u64.bits) (a:Int) ||| BitVec.ofInt (IntKind.u64.bits) (b:Int)).toNat=a ||| b from e];exact iL (by omega) (by omega)
theorem nL {a b:Nat} (ha:a<18446744073709551616) (hb:b<18446744073709551616):bits .and .u64 (a:Int) (b:Int)=((a &&& b:Nat):Int):=by
 simp only [bits];have h:a &&& b<18446744073709551616:=Nat.lt_of_le_of_lt Nat.and_le_left ha;have e:((BitVec.ofInt 64 (a:Int) &&& BitVec.ofInt 64 (b:Int)).toNat)=a &&& b:=by
  rw [BitVec.toNat_and,BitVec.toNat_ofInt,BitVec.toNat_ofInt];have d:((a:Int) % (2 ^ 64:Nat)).toNat=a:=by omega
  have c:((b:Int) % (2 ^ 64:Nat)).toNat=b:=by omega
  rw [d,c]
 show IntKind.u64.wrap _=_;rw [show (BitVec.ofInt (IntKind.u64.bits) (a:Int) &&& BitVec.ofInt (IntKind.u64.bits) (b:Int)).toNat=a &&& b from e];exact iL (by omega) (by omega)
theorem tI {a b:Nat} (ha:a<18446744073709551616) (hb:b<18446744073709551616):bits .xor .u64 (a:Int) (b:Int)=((a ^^^ b:Nat):Int):=by
 simp only [bits];have h:a ^^^ b<18446744073709551616:=Nat.xor_lt_two_pow (n:=64) ha hb;have e:((BitVec.ofInt 64 (a:Int) ^^^ BitVec.ofInt 64 (b:Int)).toNat)=a ^^^ b:=by
  rw [BitVec.toNat_xor,BitVec.toNat_ofInt,BitVec.toNat_ofInt];have d:((a:Int) % (2 ^ 64:Nat)).toNat=a:=by omega
  have c:((b:Int) % (2 ^ 64:Nat)).toNat=b:=by omega
  rw [d,c]
 show IntKind.u64.wrap _=_;rw [show (BitVec.ofInt (IntKind.u64.bits) (a:Int) ^^^ BitVec.ofInt (IntKind.u64.bits) (b:Int)).toNat=a ^^^ b from e];exact iL (by omega) (by omega)
theorem yF {a:Nat} (ha:a<18446744073709551616):mQ .u64 (a:Int)=((18446744073709551615 ^^^ a:Nat):Int):=
 tI (a:=18446744073709551615) (b:=a) (by omega) ha
theorem qf {t:Nat} (h:t<64):vy .u64 1 (t:Int)=some ((2 ^ t:Nat):Int):=by
 unfold vy;rw [if_pos (by omega)];have e:min ((t:Int).toNat) IntKind.u64.bits=t:=by show min ((t:Int).toNat) 64=t; omega
 rw [e];have b:2 ^ t<18446744073709551616:=by
  have:2 ^ t<2 ^ 64:=Nat.pow_lt_pow_right (by omega) h;omega
 have a:(2:Int) ^ t=((2 ^ t:Nat):Int):=by rw [Int.natCast_pow]; rfl
 have key:∀p:Nat,p<18446744073709551616→IntKind.u64.wrap (p:Int)=(p:Int):=fun p hp=>iL (by omega) (by omega)
 rw [Int.one_mul,a,key _ b]
theorem xc {a t:Nat} (h:t<64):rJ .u64 (a:Int) (t:Int)=some ((a >>> t:Nat):Int):=by
 unfold rJ;rw [if_pos (by omega)];have e:min ((t:Int).toNat) IntKind.u64.bits=t:=by show min ((t:Int).toNat) 64=t; omega
 rw [e,Nat.shiftRight_eq_div_pow];simp
theorem xi {k:IntKind} {a b:Nat} (hb:b≠0) (hw:k.wrap ((a / b:Nat):Int)=((a / b:Nat):Int)):pn k (a:Int) (b:Int)=some ((a / b:Nat):Int):=by
 unfold pn;have e:(a:Int).tdiv (b:Int)=((a / b:Nat):Int):=by rw [Int.tdiv_eq_ediv_of_nonneg (by omega)]; rfl
 rw [e,if_pos ⟨by omega,hw⟩]
theorem lA {a b:Nat} (hb:b≠0):lO (a:Int) (b:Int)=some ((a % b:Nat):Int):=by
 unfold lO;rw [if_pos (by omega),Int.tmod_eq_emod_of_nonneg (by omega)];rfl
theorem dR {s:Str} {i:Nat} (h:i<s.length):jt s (i:Int)=some ((s[i]).toNat:Int):=by
 unfold jt;rw [if_pos (by omega)];simp [h]
theorem be {α:Type} {l:List α} {i:Nat} (h:i<l.length):bC l (i:Int)=some l[i]:=by
 unfold bC;rw [if_pos (by omega)];simp [h]
theorem cK {α:Type} {l:List α} {i:Nat} {x:α} (h:i<l.length):dk l (i:Int) x=some (l.set i x):=by
 unfold dk;rw [if_pos ⟨by omega,by simpa using h⟩];simp
theorem bO {α:Type} {B:Nat} {l m:List α} (h:(l.length+m.length)*B≤140737488355328):cD B l m=some (l++m):=by unfold cD; rw [if_pos h]
theorem dW {α:Type} {B n:Nat} {z:α} (h:n*B≤140737488355328):oO B (n:Int) z=some (List.replicate n z):=by
 unfold oO;rw [if_pos ⟨by omega,by rw [←Int.natCast_mul]; omega⟩,Jl]
theorem yr {σ ρ:Type} {body:σ→Option (cQ σ ρ)} (J:Nat→σ→Prop) (n:Nat) (Post:ρ→Prop)
 (e:∀i s,i<n→J i s→(∃a,body s=some (.next a)∧J (i+1) a)∨(∃r,body s=some (.stop r)∧Post r))
 (last:∀s,J n s→∃r,body s=some (.stop r)∧Post r) (hn:n≤9223372036854775807) {c:σ} (j:J 0 c):∃r,ba body aZ c=some r∧Post r:=by
 have key:∀m i s k,i+m=n→m<k→J i s→∃r,ba body k s=some r∧Post r:=by
  intro m;induction m with
  | zero=>
   intro i s k g b d
   match k,b with
   | k+1,_=>
    have:i=n:=by omega
    subst this;obtain ⟨r,hb,hp⟩:=last s d;exact ⟨r,by simp only [ba,hb],hp⟩
  | succ m ih=>
   intro i s k g b d
   match k,b with
   | k+1,b=>
    rcases e i s (by omega) d with ⟨a,hb,h⟩|⟨r,hb,hp⟩
    ·obtain ⟨r,f,hp⟩:=ih (i+1) a k (by omega) (by omega) h;exact ⟨r,by simp only [ba,hb]; exact f,hp⟩
    ·exact ⟨r,by simp only [ba,hb],hp⟩
 exact key n 0 c aZ (by omega) (by unfold aZ; omega) j
theorem vZ {σ ρ:Type} {body:σ→Option (cQ σ ρ)} (I:σ→Prop) (μ:σ→Nat) (Post:ρ→Prop)
 (h:∀s,I s→(∃s',body s=some (.next s')∧I s'∧μ s'<μ s)∨(∃r,body s=some (.stop r)∧Post r))
 {s0:σ} (h0:I s0) (hm:μ s0≤9223372036854775807):∃r,ba body aZ s0=some r∧Post r:=
 ov I μ Post h aZ s0 h0 (by unfold aZ; omega)
theorem aK {i:Nat} (h:i<9223372036854775807):bZ .i64 ((i:Int)+1)=some ((i+1:Nat):Int):=by rw [dX (by omega) (by omega)]; rfl
theorem dL {p:Prop} [Decidable p] (h:p):decide p=true:=decide_eq_true h
theorem eu {p:Prop} [Decidable p] (h:¬ p):decide p=false:=decide_eq_false h
theorem cq {a b:Int} (h:a≠b):(a == b)=false:=by simpa using h
theorem rk {a b:Int} (h:a=b):(a == b)=true:=by simpa using h
theorem mp {a b:Int} (h:a≠b):(a != b)=true:=by simpa using h
theorem sR {a b:Int} (h:a=b):(a != b)=false:=by simpa using h
theorem eR {a b:Int} (h:(a != b)=false):a=b:=by simpa using h
theorem kO {a b:Int} (h:(a != b)=true):a≠b:=by simpa using h
theorem nz {a b:Int} (h:(a == b)=false):a≠b:=by simpa using h
theorem dA {a b:Int} (h:(a == b)=true):a=b:=by simpa using h
theorem mW {n:Nat} (h:n<256):IntKind.u8.wrap (n:Int)=n:=lr (by omega) (by omega)
theorem eh {α:Type} {l:List α} {i:Int} {d:α} (h0:0≤i) (h:i<l.length):bC l i=some (l.getD i.toNat d):=by
 obtain ⟨n,rfl⟩:=Jn h0;have hn:n<l.length:=by omega
 show bC l (n:Int)=_;rw [be hn];simp [IP,hn]
theorem iV {α:Type} {l:List α} {i:Int} {x:α} (h0:0≤i) (h:i<l.length):dk l i x=some (l.set i.toNat x):=by
 obtain ⟨n,rfl⟩:=Jn h0;exact cK (by simpa using h)
theorem cW {α:Type} {l:List α} {i:Nat} {d:α} (h:i<l.length):l.getD i d∈l:=by
 simp [IP,h]
def Is {α:Type} (o:Option α) (P:α→Prop):Prop:=∃r,o=some r∧P r
def SP {σ ρ:Type} (P:σ→Prop) (Q:ρ→Prop):cQ σ ρ→Prop
 | .next s=>P s
 | .stop r=>Q r
section
variable {α β σ ρ:Type} {P:α→Prop} {Q:β→Prop}
theorem Is.pure {x:α} (h:P x):Is (some x) P:=⟨x,rfl,h⟩
theorem Is.mono {o:Option α} {P':α→Prop} (h:Is o P) (k:∀x,P x→P' x):Is o P':=h.elim fun r hr=>⟨r,hr.1,k r hr.2⟩
theorem Is.eq {o:Option α} {x:α} (h:Is o (·=x)):o=some x:=by obtain ⟨r,h1,rfl⟩:=h; exact h1
theorem Is.of {o:Option α} {x:α} (h:o=some x) (k:P x):Is o P:=⟨x,h,k⟩
theorem Is.bnd {o:Option α} {f:α→Option β} (h:Is o P) (k:∀x,P x→Is (f x) Q):Is (o.bind f) Q:=by
 obtain ⟨r,rfl,hp⟩:=h;exact k r hp
theorem Is.bnq {o:Option α} {f:α→Option β} {x:α} (h:o=some x) (k:Is (f x) Q):Is (o.bind f) Q:=by subst h; exact k
theorem Is.bs {P:σ→Prop} {Q:ρ→Prop} {o:Option (cQ σ ρ)} {f:σ→Option ρ} (h:Is o (SP P Q)) (k:∀x,P x→Is (f x) Q):Is (bp o f) Q:=by
 obtain ⟨r,rfl,hp⟩:=h;cases r with
 | next s=>exact k s hp
 | stop r=>exact ⟨r,rfl,hp⟩
theorem Is.cnd {b:Bool} {x y:Option β} (ht:b=true→Is x Q) (hf:b=false→Is y Q):Is (bif b then x else y) Q:=by
 cases b
 ·exact hf rfl
 ·exact ht rfl
theorem Is.ct {b:Bool} {x y:Option β} (h:b=true) (k:Is x Q):Is (bif b then x else y) Q:=by subst h; exact k
theorem Is.cf {b:Bool} {x y:Option β} (h:b=false) (k:Is y Q):Is (bif b then x else y) Q:=by subst h; exact k
theorem Is.dcd {p:Prop} [Decidable p] {x y:Option β} (ht:p→Is x Q) (hf:¬ p→Is y Q):Is (bif decide p then x else y) Q:=
 Is.cnd (fun h=>ht (of_decide_eq_true h)) (fun h=>hf (of_decide_eq_false h))
theorem Is.dt {p:Prop} [Decidable p] {x y:Option β} (h:p) (k:Is x Q):Is (bif decide p then x else y) Q:=Is.ct (decide_eq_true h) k
theorem Is.df {p:Prop} [Decidable p] {x y:Option β} (h:¬ p) (k:Is y Q):Is (bif decide p then x else y) Q:=Is.cf (decide_eq_false h) k
theorem Is.upto {body:σ→Option (cQ σ ρ)} {Q:ρ→Prop} (J:Nat→σ→Prop) (n:Nat) (hn:n≤9223372036854775807) {b:σ} (e:J 0 b)
 (c:∀i s,i<n→J i s→Is (body s) (SP (J (i+1)) Q)) (last:∀s,J n s→Is (body s) (SP (fun _=>False) Q)):Is (ba body aZ b) Q:=
 yr J n Q (fun i s d a=>by
  obtain ⟨r,hb,hp⟩:=c i s d a;cases r with
  | next s'=>exact .inl ⟨s',hb,hp⟩
  | stop r=>exact .inr ⟨r,hb,hp⟩) (fun s a=>by
  obtain ⟨r,hb,hp⟩:=last s a;cases r with
  | next s'=>exact hp.elim
  | stop r=>exact ⟨r,hb,hp⟩) hn e
theorem Is.while {body:σ→Option (cQ σ ρ)} {Q:ρ→Prop} (I:σ→Prop) (μ:σ→Nat) {s0:σ} (h0:I s0) (hm:μ s0≤9223372036854775807)
 (step:∀s,I s→Is (body s) (SP (fun s'=>I s'∧μ s'<μ s) Q)):Is (ba body aZ s0) Q:=
 vZ I μ Q (fun s hI=>by
  obtain ⟨r,hb,hp⟩:=step s hI;cases r with
  | next s'=>exact .inl ⟨s',hb,hp⟩
  | stop r=>exact .inr ⟨r,hb,hp⟩) h0 hm
theorem Is.next {Q:ρ→Prop} {P:σ→Prop} {s:σ} (h:P s):Is (some (cQ.next s:cQ σ ρ)) (SP P Q):=⟨_,rfl,h⟩
theorem Is.stop {Q:ρ→Prop} {P:σ→Prop} {r:ρ} (h:Q r):Is (some (cQ.stop r:cQ σ ρ)) (SP P Q):=⟨_,rfl,h⟩
end
section
variable {K V:Type} [BEq K] [LawfulBEq K]
theorem ou {m:List (K×V)} {k:K} {v:V}:cb (dQ m k v) k=some v:=by
 induction m with
 | nil=>simp [dQ,cb]
 | cons p m ih=>
  unfold dQ;cases hp:p.1 == k
  ·unfold cb at ih ⊢;rw [cond_false,List.find?_cons,hp];exact ih
  ·simp [cb]
theorem pI {m:List (K×V)} {k q:K} {v:V} (h:q≠k):cb (dQ m k v) q=cb m q:=by
 have hk:(k == q)=false:=by simpa using fun e=>h e.symm
 induction m with
 | nil=>simp [dQ,cb,hk]
 | cons p m ih=>
  unfold dQ;cases hp:p.1 == k
  ·unfold cb at ih ⊢;rw [cond_false,List.find?_cons,List.find?_cons];cases p.1 == q
   ·exact ih
   ·rfl
  ·have:p.1=k:=by simpa using hp
   simp [cb,hk,this]
end
end Go.Lx
namespace Go.Proofs.YtggpjcdhflcfmaaGreatDoor
open Go.Lx
def CE:T_Regex:=⟨4,⟨[0,0,0,0],rfl⟩,[⟨3,⟨[0,576460743713488896,0,0],rfl⟩,[]⟩,⟨6,⟨[0,0,0,0],rfl⟩,[⟨3,⟨[0,576460743713488896,0,0],rfl⟩,[]⟩]⟩]⟩
def xW:T_Regex:=⟨4,⟨[0,0,0,0],rfl⟩,[⟨3,⟨[0,2199023255552,0,0],rfl⟩,[]⟩,⟨3,⟨[0,274877906944,0,0],rfl⟩,[]⟩]⟩
def EA:T_NFA:=⟨5,0,[⟨0,1,false,⟨[0,576460743713488896,0,0],rfl⟩⟩,⟨0,3,false,⟨[0,2199023255552,0,0],rfl⟩⟩,⟨1,2,false,⟨[0,576460743713488896,0,0],rfl⟩⟩,⟨2,2,false,⟨[0,576460743713488896,0,0],rfl⟩⟩,⟨3,4,false,⟨[0,274877906944,0,0],rfl⟩⟩],[-1,0,0,-1,1]⟩
def EG:T_DFA:=⟨List.replicate 97 0++List.replicate 5 1++List.replicate 1 2++List.replicate 2 1++List.replicate 1 3++List.replicate 17 1++List.replicate 133 0,[[-1,1,1,2],[-1,3,3,3],[-1,3,4,3],[-1,3,3,3],[-1,3,3,3]],[-1,0,0,0,0]⟩
def EC:T_DFA:=⟨List.replicate 97 0++List.replicate 26 1++List.replicate 133 0,[[-1,1],[-1,1]],[-1,0]⟩
theorem HN:M.d1 [CE,xW]=some (EA,0):=by decide +kernel
theorem HQ:M.d2 EA=some (EG,0):=by decide +kernel
theorem HK:M.f4 EG=some EC:=by decide +kernel
theorem HT:M.b2 [CE,xW]=some (EC,0):=by
 refine Is.eq ?_;unfold M.b2;exact Is.bnq HN (Is.cf rfl (Is.bnq HQ (Is.cf rfl (Is.bnq HK (Is.pure rfl)))))
def Ez:T_NFA:=⟨5,0,[⟨0,1,false,⟨[0,2199023255552,0,0],rfl⟩⟩,⟨0,3,false,⟨[0,576460743713488896,0,0],rfl⟩⟩,⟨1,2,false,⟨[0,274877906944,0,0],rfl⟩⟩,⟨3,4,false,⟨[0,576460743713488896,0,0],rfl⟩⟩,⟨4,4,false,⟨[0,576460743713488896,0,0],rfl⟩⟩],[-1,-1,0,1,1]⟩
def EF:T_DFA:=⟨List.replicate 97 0++List.replicate 5 1++List.replicate 1 2++List.replicate 2 1++List.replicate 1 3++List.replicate 17 1++List.replicate 133 0,[[-1,1,1,2],[-1,3,3,3],[-1,3,4,3],[-1,3,3,3],[-1,3,3,3]],[-1,1,1,1,0]⟩
def vW:T_DFA:=⟨List.replicate 97 0++List.replicate 5 1++List.replicate 1 2++List.replicate 2 1++List.replicate 1 3++List.replicate 17 1++List.replicate 133 0,[[-1,1,1,2],[-1,1,1,1],[-1,1,3,1],[-1,1,1,1]],[-1,1,1,0]⟩
theorem HM:M.d1 [xW,CE]=some (Ez,0):=by decide +kernel
theorem HP:M.d2 Ez=some (EF,0):=by decide +kernel
theorem HJ:M.f4 EF=some vW:=by decide +kernel
theorem HS:M.b2 [xW,CE]=some (vW,0):=by
 refine Is.eq ?_;unfold M.b2;exact Is.bnq HM (Is.cf rfl (Is.bnq HP (Is.cf rfl (Is.bnq HJ (Is.pure rfl)))))
def Ey:T_NFA:=⟨3,0,[⟨0,1,false,⟨[0,2199023255552,0,0],rfl⟩⟩,⟨1,2,false,⟨[0,274877906944,0,0],rfl⟩⟩],[-1,-1,0]⟩
def EE:T_DFA:=⟨List.replicate 102 0++List.replicate 1 1++List.replicate 2 0++List.replicate 1 2++List.replicate 150 0,[[-1,-1,1],[-1,2,-1],[-1,-1,-1]],[-1,-1,0]⟩
def BB:T_DFA:=⟨List.replicate 102 0++List.replicate 1 1++List.replicate 2 0++List.replicate 1 2++List.replicate 150 0,[[-1,-1,1],[-1,2,-1],[-1,-1,-1]],[-1,-1,0]⟩
theorem HL:M.d1 [xW]=some (Ey,0):=by decide +kernel
theorem HO:M.d2 Ey=some (EE,0):=by decide +kernel
theorem HI:M.f4 EE=some BB:=by decide +kernel
theorem HC:M.b2 [xW]=some (BB,0):=by
 refine Is.eq ?_;unfold M.b2;exact Is.bnq HL (Is.cf rfl (Is.bnq HO (Is.cf rfl (Is.bnq HI (Is.pure rfl)))))
def Gj:bz:=bz.mk [119,111,114,100] 1 [91,97,45,122,93,43] [120] []
def Gk:bz:=bz.mk [105,102] 3 [105,102] [105,102] []
def FW:T_LexSpec:=T_LexSpec.mk [Gj,Gk] false 0 0
def Df:T_LexSpec:=T_LexSpec.mk [Gk,Gj] false 0 0
theorem Ge:M.f0 [105,102]=some xW:=by kernel_rfl
theorem Gi:M.f9 BB BB=some ([],false):=by kernel_rfl
theorem Ex:M.d6 xW [105,102]=some true:=by
 refine Is.eq ?_;unfold M.d6;exact Is.bnq HC (Is.bnq Ge (Is.bnq HC (Is.bnq (x:=false) rfl (Is.cf rfl (Is.bnq Gi (Is.pure rfl))))))
theorem Gm:M.b6 FW=some (⟨[],[],[]⟩,1,13):=by
 refine Is.eq ?_;unfold M.b6;refine Is.bnq (x:=false) rfl (Is.cf rfl ?_);refine Is.bs (P:=fun l=>l=[CE,xW]) (Is.of (x:=.next [CE,xW]) (by kernel_rfl) rfl) ?_;rintro _ rfl;refine Is.bnq (x:=false) rfl (Is.cf rfl (Is.bnq HT (Is.cf rfl ?_)));exact Is.bs (P:=fun _=>False) (Is.of (x:=.stop (⟨[],[],[]⟩,1,13)) (by kernel_rfl) rfl) (fun _ h=>h.elim)
theorem EI:M.b6 Df=some (vW,0,0):=by
 refine Is.eq ?_;unfold M.b6;refine Is.bnq (x:=false) rfl (Is.cf rfl ?_);refine Is.bs (P:=fun l=>l=[xW,CE]) (Is.of (x:=.next [xW,CE]) (by kernel_rfl) rfl) ?_;rintro _ rfl;refine Is.bnq (x:=false) rfl (Is.cf rfl (Is.bnq HS (Is.cf rfl ?_)));refine Is.bs (P:=fun _=>True) (Is.upto (fun i a=>a=(i:Int)) 2 (by decide) rfl ?_ ?_) (fun _ _=>Is.pure rfl)
 ·rintro i _ b rfl
  match i,b with
  | 0,_=>exact Is.dt (by decide) (Is.bnq (x:=Gk) rfl (Is.bnq (x:=0) (by kernel_rfl) (Is.cf rfl (Is.bnq (x:=false) (Is.eq (Is.ct rfl (Is.bnq (x:=xW) rfl (Is.bnq Ex (Is.pure rfl))))) (Is.cf rfl (Is.bnq (x:=1) rfl (Is.next rfl)))))))
  | 1,_=>exact Is.dt (by decide) (Is.bnq (x:=Gj) rfl (Is.bnq (x:=1) (by kernel_rfl) (Is.cf rfl (Is.bnq (x:=false) rfl (Is.cf rfl (Is.bnq (x:=2) rfl (Is.next rfl)))))))
 ·rintro _ rfl;exact Is.df (by decide) (Is.stop trivial)
theorem Gp:M.c5 FW=some (1,13):=by
 refine Is.eq ?_;unfold M.c5;exact Is.bnq Gm (Is.pure rfl)
theorem Gn:M.c5 Df=some (0,0):=by
 refine Is.eq ?_;unfold M.c5;exact Is.bnq EI (Is.pure rfl)
theorem Gl:M.g4 Df=some (vW,0):=by
 refine Is.eq ?_;unfold M.g4;exact Is.bnq EI (Is.pure rfl)
theorem Gb:M.l8 vW=some true:=by kernel_rfl
theorem Ej:M.k8 vW [105,102]=some 0:=by kernel_rfl
theorem Ei:M.k8 vW [105,116]=some 1:=by kernel_rfl
theorem mT:M.h6=some true:=by
 refine Is.eq ?_;unfold M.h6;refine Is.bnq (x:=FW) rfl (Is.bnq Gp (Is.bnq (x:=Df) rfl (Is.bnq Gn (Is.bnq (x:=Df) rfl (Is.bnq Gl (Is.bnq rfl (Is.bnq (x:=([32],true)) (by kernel_rfl) (Is.bnq (x:=true) (Is.eq ?_) (Is.pure rfl)))))))));exact Is.ct rfl (Is.ct rfl (Is.ct rfl (Is.ct rfl (Is.ct rfl (Is.bnq Gb (Is.ct rfl (Is.bnq Ej (Is.ct rfl (Is.bnq Ei (Is.ct rfl (Is.bnq (x:=Df) rfl (Is.bnq (x:=[120]) (by kernel_rfl) (Is.ct rfl (Is.ct rfl (Is.ct rfl (Is.bnq (x:=Df) rfl (Is.bnq (x:=[[105,102],[119,111,114,100]]) (by kernel_rfl) (Is.pure rfl))))))))))))))))))
def FewD (d:bz) (n:Nat):Prop:=d.Name.length≤40∧d.Pattern.length≤n∧d.Sample.length≤n∧d.Close.length≤n
theorem Du {x:T_LexSpec} (hl:x.Defs.length≤9223372036854775807) (m n:Nat):Is (M.m1 x (m:Int) (n:Int)) (fun b=>b=true→x.Defs.length≤m∧∀d∈x.Defs,FewD d n):=by
 unfold M.m1;refine Is.dcd (fun _=>Is.pure (fun h=>by cases h)) (fun o=>?_);refine Is.bs (P:=fun _=>∀d∈x.Defs,FewD d n) (Is.upto (fun i f=>f=(i:Int)∧∀d∈x.Defs.take i,FewD d n) x.Defs.length hl ⟨rfl,by simp⟩ ?_ ?_) (fun _ h=>Is.pure fun _=>⟨by omega,h⟩)
 ·rintro i _ c ⟨rfl,hd⟩;refine Is.dt (by omega) (Is.bnq (be c) (Is.bnd (P:=fun b=>b=false→FewD x.Defs[i] n) ?_ fun b hb=>Is.cnd (fun _=>Is.stop (fun h=>by cases h)) (fun e=>Is.bnq (aK (by omega)) (Is.next ⟨rfl,fun d a=>?_⟩))))
  ·refine Is.dcd (fun _=>Is.pure (fun h=>by cases h)) (fun l=>Is.dcd (fun _=>Is.pure (fun h=>by cases h)) (fun k=>Is.dcd (fun _=>Is.pure (fun h=>by cases h)) (fun j=>Is.pure (fun h=>?_))));have g:=of_decide_eq_false h;exact ⟨by omega,by omega,by omega,by omega⟩
  ·rw [Jb c,IZ] at a;rcases a with a|a
   ·exact hd d a
   ·rw [IY.1 a]; exact hb e
 ·rintro _ ⟨rfl,hd⟩;rw [IV] at hd;exact Is.df (by omega) (Is.stop hd)
def W4 (v:aV 4):Prop:=∀x∈v.1,0≤x∧x<18446744073709551616
def wd (v:aV 4) (i:Nat):Nat:=(v.1.getD i 0).toNat
def mem (v:aV 4) (b:Nat):Bool:=(wd v (b / 64)).testBit (b % 64)
theorem gW {v:aV 4} (h:W4 v) (i:Nat):wd v i<18446744073709551616:=by
 unfold wd
 by_cases hi:i<v.1.length
 ·have:=h v.1[i] (IU hi);simp [IP,hi]; omega
 ·simp [IP,Jr (by omega:v.1.length≤i)]
theorem gY {v:aV 4} (h:W4 v) {i:Nat} (hi:i<4):gV v (i:Int)=some (wd v i:Int):=by
 have hl:i<v.1.length:=by rw [v.2]; exact hi
 have:=h v.1[i] (IU hl);unfold gV wd;rw [if_pos (by omega)];simp [IP,hl];omega
def sZ (v:aV 4) (i x:Nat):aV 4:=⟨v.1.set i (x:Int),by simp [v.2]⟩
theorem ko {v:aV 4} {i x:Nat} (hi:i<4):oV v (i:Int) (x:Int)=some (sZ v i x):=by
 unfold oV sZ;rw [if_pos ⟨by omega,by simpa using hi⟩];simp
theorem wP {v:aV 4} {i x j:Nat} (hi:i<4):wd (sZ v i x) j=if i=j then x else wd v j:=by
 unfold wd sZ;have hl:i<v.1.length:=by rw [v.2]; exact hi
 simp only [IP,Jy];split
 ·rename_i h; subst h; simp [hl]
 ·rfl
theorem xI {v:aV 4} (h:W4 v) {i x:Nat} (hx:x<18446744073709551616):W4 (sZ v i x):=by
 intro y hy;rcases List.mem_or_eq_of_mem_set hy with hy|rfl
 ·exact h y hy
 ·omega
theorem AZ {v u:aV 4} (hv:W4 v) (hu:W4 u) (h:∀i,i<4→wd v i=wd u i):v=u:=by
 apply Subtype.ext;apply List.ext_getElem (by rw [v.2,u.2]);intro i h1 h2;have hi:i<4:=by rw [v.2] at h1; exact h1
 have:=h i hi;have a:=hv v.1[i] (IU h1);have b:=hu u.1[i] (IU h2);simp [wd,IP,h1,h2] at this;omega
theorem Bj {v u:aV 4} (a:W4 v) (c:W4 u) (h:∀b,b<256→mem v b=mem u b):v=u:=by
 refine AZ a c fun i d=>Nat.eq_of_testBit_eq fun j=>?_
 by_cases hj:j<64
 ·have:=h (64*i+j) (by omega);unfold mem at this;rw [show (64*i+j) / 64=i by omega,show (64*i+j) % 64=j by omega] at this;exact this
 ·have e:∀x,x<18446744073709551616→x.testBit j=false:=fun x hx=>Nat.testBit_lt_two_pow (Nat.lt_of_lt_of_le (by omega:x<2 ^ 64) (Nat.pow_le_pow_right (by omega) (by omega)))
  rw [e _ (gW a i),e _ (gW c i)]
theorem jV:W4 (aV.zero 4):=by
 intro x hx;simp [aV.zero] at hx;omega
theorem zA (b:Nat):mem (aV.zero 4) b=false:=by
 unfold mem wd aV.zero;simp only [IP,List.getElem?_replicate];split <;> simp
def fj (v:aV 4) (b:Nat):aV 4:=sZ v (b / 64) (wd v (b / 64) ||| 2 ^ (b % 64))
theorem vl {v:aV 4} (h:W4 v) (b:Nat):W4 (fj v b):=by
 refine xI h (Nat.or_lt_two_pow (n:=64) (gW h _) ?_);exact Nat.pow_lt_pow_right (by omega) (Nat.mod_lt _ (by omega))
theorem yp {v:aV 4} {b c:Nat} (hb:b<256):mem (fj v b) c=(mem v c || c == b):=by
 unfold mem fj;rw [wP (by omega)];split
 ·rename_i h;rw [Nat.testBit_or,Nat.testBit_two_pow,h];congr 1;rw [Bool.eq_iff_iff];simp;omega
 ·rename_i h;have:(c == b)=false:=by
   rw [beq_eq_false_iff_ne]; rintro rfl; exact h rfl
  rw [this,Bool.or_false]
theorem kI {k:IntKind} {c:Nat} (hk:k.wrap ((c / 64:Nat):Int)=((c / 64:Nat):Int)):pn k (c:Int) 64=some ((c / 64:Nat):Int):=xi (b:=64) (by omega) hk
theorem wk {v:aV 4} (d:W4 v) {c:Nat} (n:c<256):M.g1 v (c:Int)=some (mem v c):=by
 have m:=kI (k:=.u8) (c:=c) (lr (by omega) (by omega));have l:=gY d (i:=c / 64) (by omega);have j:lO (c:Int) 64=some ((c % 64:Nat):Int):=lA (b:=64) (by omega);have g:=xc (a:=wd v (c / 64)) (t:=c % 64) (by omega);have e:wd v (c / 64) >>> (c % 64)<18446744073709551616:=Nat.lt_of_le_of_lt (Nat.shiftRight_le _ _) (gW d _);have f:=nL (b:=1) e (by omega);unfold M.g1 mem;simp only [m,l,j,g,IS];rw [show (1:Int)=((1:Nat):Int) from rfl,f];congr 1;rw [Nat.testBit,Nat.and_comm 1,Nat.and_one_is_mod];rcases Nat.mod_two_eq_zero_or_one (wd v (c / 64) >>> (c % 64)) with h|h <;> rw [h] <;> rfl
theorem tB {v:aV 4} (hv:W4 v) {c:Nat} (hc:c<256):M.h7 v (c:Int)=some (mem v c):=wk hv hc
def rT (l:List Nat):aV 4:=l.foldl fj (aV.zero 4)
theorem uR (l:List Nat):∀v,W4 v→W4 (l.foldl fj v):=by
 induction l with
 | nil=>exact fun v h=>h
 | cons b l ih=>exact fun v h=>ih _ (vl h b)
theorem sG (l:List Nat):∀v,(∀b∈l,b<256)→∀c,mem (l.foldl fj v) c=(mem v c || l.contains c):=by
 induction l with
 | nil=>intro v _ c; simp
 | cons b l ih=>
  intro v h c;rw [List.foldl_cons,ih _ (fun x hx=>h x (by simp [hx])),yp (h b (by simp)),List.contains_cons,Bool.or_assoc]
theorem lk (l:List Nat):W4 (rT l):=uR l _ jV
theorem xp {l:List Nat} (h:∀b∈l,b<256) (c:Nat):mem (rT l) c=l.contains c:=by
 unfold rT; rw [sG l _ h,zA,Bool.false_or]
theorem xG {body:aV 4×Int→Option (cQ (aV 4×Int) (aV 4))} (f:Nat→Nat) (a n:Nat) (ha:a+n≤4611686018427387903)
    (h:∀i v,i<n→W4 v→body (v,((a+i:Nat):Int))=some (.next (fj v (f i),((a+(i+1):Nat):Int)))) (hn:∀v,body (v,((a+n:Nat):Int))=some (.stop v)) :
    ba body aZ (aV.zero 4,(a:Int))=some (rT ((List.range n).map f)):=by
  have c:∀i,i≤n→W4 (rT ((List.range i).map f)):=fun i _=>lk _
  have:=fx (body:=body) (fun i=>(rT ((List.range i).map f),((a+i:Nat):Int))) n (r:=rT ((List.range n).map f))
    (fun i b=>by
      have:=h i (rT ((List.range i).map f)) b (lk _);rw [this];congr 3;simp [rT,JD])
    (hn _) aZ (ia (by omega))
  simpa [rT] using this
def bU (s:Str):List Nat:=s.map UInt8.toNat
theorem uZ (s:Str):(List.range s.length).map (fun i=>((s[i]?).getD 0).toNat)=bU s:=by
 apply List.ext_getElem
 ·simp [bU]
 ·intro i h1 h2;have:i<s.length:=by simpa using h1
  simp [bU,this]
theorem Ee (u:UInt8):u.toNat<256:=u.toNat_lt
theorem FE {s:Str} (hf:s.length≤4611686018427387903):M.j5 s=some (rT (bU s)):=by
 unfold M.j5;refine aR (xG (fun i=>((s[i]?).getD 0).toNat) 0 s.length (by omega) (fun i v d a=>?_) (fun v=>?_)) (by rw [uZ])
 ·simp only [Nat.zero_add];have hb:=Ee s[i];have p:=dR d;have o:=kI (k:=.u8) (c:=s[i].toNat) (lr (by omega) (by omega));have m:=gY a (i:=s[i].toNat / 64) (by omega);have l:lO (s[i].toNat:Int) 64=some ((s[i].toNat % 64:Nat):Int):=lA (b:=64) (by omega);have j:=qf (t:=s[i].toNat % 64) (by omega);have e:2 ^ (s[i].toNat % 64)<18446744073709551616:=Nat.pow_lt_pow_right (n:=64) (by omega) (Nat.mod_lt _ (by omega));have h:=ik (gW a (s[i].toNat / 64)) e;have g:=ko (v:=v) (i:=s[i].toNat / 64) (x:=wd v (s[i].toNat / 64) ||| 2 ^ (s[i].toNat % 64)) (by omega);have f:bZ .i64 ((i:Int)+1)=some ((i+1:Nat):Int):=by rw [dX (by omega) (by omega)]; rfl
  have hd:decide ((i:Int)<(s.length:Int))=true:=by simp; omega
  simp only [hd,cond_true,p,o,m,l,j,h,g,f,IS,fj,d,IQ,Option.getD_some]
 ·simp only [Nat.zero_add];have hd:decide ((s.length:Int)<(s.length:Int))=false:=by simp
  simp only [hd,cond_false]
def eJ (lo hi:Nat):List Nat:=(List.range (hi+1 - lo)).map (lo+·)
theorem nR {lo a:Nat} (p:lo<256) (r:a<256):M.f7 lo a=some (rT (eJ lo a)):=by
 unfold M.f7;rw [fg (n:=(lo:Int)) (by omega) (by omega)];refine aR (xG (fun i=>lo+i) lo (a+1 - lo) (by omega) (fun i v q d=>?_) (fun v=>?_)) rfl
 ·have hb:lo+i<256:=by omega
  have o:=kI (k:=.i64) (c:=lo+i) (fg (by omega) (by omega));have m:=gY d (i:=(lo+i) / 64) (by omega);have l:lO ((lo+i:Nat):Int) 64=some (((lo+i) % 64:Nat):Int):=lA (b:=64) (by omega);have j:=qf (t:=(lo+i) % 64) (by omega);have e:2 ^ ((lo+i) % 64)<18446744073709551616:=Nat.pow_lt_pow_right (n:=64) (by omega) (Nat.mod_lt _ (by omega));have h:=ik (gW d ((lo+i) / 64)) e;have g:=ko (v:=v) (i:=(lo+i) / 64) (x:=wd v ((lo+i) / 64) ||| 2 ^ ((lo+i) % 64)) (by omega);have f:bZ .i64 (((lo+i:Nat):Int)+1)=some ((lo+(i+1):Nat):Int):=by rw [dX (by omega) (by omega)]; rfl
  rw [fg (n:=(a:Int)) (by omega) (by omega)];simp only [dL (show ((lo+i:Nat):Int)≤(a:Int) by omega),cond_true,o,m,l,j,h,g,f,IS,fj]
 ·rw [fg (n:=(a:Int)) (by omega) (by omega)];simp only [eu (show ¬ ((lo+(a+1 - lo):Nat):Int)≤(a:Int) by omega),cond_false]
theorem CB {v:aV 4} (h:∀x∈v.1,AD .u64 x):W4 v:=fun x hx=>by
 obtain ⟨a,b⟩:=h x hx;have a:0≤x:=a;have b:x≤18446744073709551615:=b;omega
def oW (f:Nat→Nat) (a:aV 4) (i:Nat):aV 4:=(List.range i).foldl (fun v j=>sZ v j (f j)) a
theorem nV (f:Nat→Nat) (a:aV 4) (i:Nat):oW f a (i+1)=sZ (oW f a i) i (f i):=by simp [oW,JD]
theorem wO {f:Nat→Nat} {a:aV 4} {i j:Nat} (hi:i≤4):wd (oW f a i) j=if j<i then f j else wd a j:=by
 induction i with
 | zero=>simp [oW]
 | succ i ih=>
  rw [nV,wP (by omega),ih (by omega)]
  by_cases h:i=j
  ·subst h; rw [if_pos rfl,if_pos (by omega)]
  ·rw [if_neg h]
   by_cases h2:j<i
   ·rw [if_pos h2,if_pos (by omega)]
   ·rw [if_neg h2,if_neg (by omega)]
theorem tL {f:Nat→Nat} {a:aV 4} (h:W4 a) (hf:∀j,f j<18446744073709551616) (i:Nat):W4 (oW f a i):=by
 induction i with
 | zero=>simpa [oW] using h
 | succ i ih=>rw [nV]; exact xI ih (hf i)
theorem zB {f:Nat→Nat} {a:aV 4} {b:Nat} (hb:b<256):mem (oW f a 4) b=(f (b / 64)).testBit (b % 64):=by
 unfold mem; rw [wO (by omega),if_pos (by omega)]
theorem uf {ρ:Type} {body:aV 4×Int→Option (cQ (aV 4×Int) ρ)} {f:Nat→Nat} {a:aV 4} {r:ρ} (ha:W4 a) (hf:∀j,f j<18446744073709551616)
 (h:∀i v,i<4→W4 v→wd v i=wd a i→body (v,(i:Int))=some (.next (sZ v i (f i),((i+1:Nat):Int)))) (hn:body (oW f a 4,4)=some (.stop r)) :
 ba body aZ (a,0)=some r:=by
 refine fx (body:=body) (fun i=>(oW f a i,(i:Int))) 4 (fun i b=>?_) hn aZ (ia (by omega));rw [nV];refine h i _ b (tL ha hf i) ?_;rw [wO (by omega),if_neg (by omega)]
def mu (a b:aV 4):aV 4:=oW (fun j=>wd a j ||| wd b j) a 4
def mv (a:aV 4):aV 4:=oW (fun j=>18446744073709551615 ^^^ wd a j) a 4
theorem CH {a b:aV 4} (ha:W4 a) (hb:W4 b) (j:Nat):wd a j ||| wd b j<18446744073709551616:=Nat.or_lt_two_pow (n:=64) (gW ha j) (gW hb j)
theorem zu {a:aV 4} (ha:W4 a) (j:Nat):18446744073709551615 ^^^ wd a j<18446744073709551616:=Nat.xor_lt_two_pow (n:=64) (by omega) (gW ha j)
theorem As {a b:aV 4} (ha:W4 a) (hb:W4 b):W4 (mu a b):=tL ha (CH ha hb) 4
theorem vm {a:aV 4} (ha:W4 a):W4 (mv a):=tL ha (zu ha) 4
theorem yq {a b:aV 4} {c:Nat} (hc:c<256):mem (mu a b) c=(mem a c || mem b c):=by
 unfold mu; rw [zB hc,Nat.testBit_or]; rfl
theorem Av {a b:aV 4} (ha:W4 a) (hb:W4 b):M.i2 a b=some (mu a b):=by
 unfold M.i2;refine aR (uf (r:=mu a b) ha (CH ha hb) (fun i v c f e=>?_) ?_) rfl
 ·have d:=gY f c;have j:=gY hb c;rw [e] at d;have h:=ik (gW ha i) (gW hb i);have g:=ko (v:=v) (x:=wd a i ||| wd b i) c;simp only [dL (show (i:Int)<4 by omega),cond_true,d,j,h,g,aK (show i<_ by omega),IS]
 ·rfl
theorem iK {a:aV 4} (ha:W4 a):M.d5 a=some (mv a):=by
 unfold M.d5;refine aR (uf (r:=mv a) ha (zu ha) (fun i v b d e=>?_) ?_) rfl
 ·have c:=gY d b;rw [e] at c;have g:=yF (gW ha i);have f:=ko (v:=v) (x:=18446744073709551615 ^^^ wd a i) b;simp only [dL (show (i:Int)<4 by omega),cond_true,c,g,f,aK (show i<_ by omega),IS]
 ·rfl
def D (σ:Nat→List Bool):Nat→List (List Bool)|0=>[]|i+1=>bif (D σ i).contains (σ i) then D σ i else D σ i++[σ i]
theorem zE {σ:Nat→List Bool} {i:Nat} {s:List Bool}:s∈D σ i↔∃a,a<i∧σ a=s:=by
 induction i with
 | zero=>simp [D]
 | succ i ih=>
  have key:(∃a,a<i+1∧σ a=s)↔(s∈D σ i∨s=σ i):=by
   rw [ih];constructor
   ·rintro ⟨a,c,b⟩
    by_cases h:a=i
    ·subst h; exact .inr b.symm
    ·exact .inl ⟨a,by omega,b⟩
   ·rintro (⟨a,c,b⟩|h)
    ·exact ⟨a,by omega,b⟩
    ·exact ⟨i,by omega,h.symm⟩
  rw [key,D];cases hc:(D σ i).contains (σ i)
  ·simp
  ·simp only [cond_true];have:σ i∈D σ i:=by simpa using hc
   constructor
   ·exact .inl
   ·rintro (h|rfl)
    ·exact h
    ·exact this
theorem AH {σ:Nat→List Bool} {i j:Nat} (h:i≤j):∃r,D σ j=D σ i++r:=by
 obtain ⟨k,rfl⟩:=Nat.le.dest h;clear h;induction k with
 | zero=>exact ⟨[],by simp⟩
 | succ k ih=>
  obtain ⟨r,hr⟩:=ih;rw [←Nat.add_assoc,D];cases (D σ (i+k)).contains (σ (i+k))
  ·exact ⟨r++[σ (i+k)],by simp [hr]⟩
  ·exact ⟨r,by simpa using hr⟩
theorem AI {σ:Nat→List Bool} (i:Nat):(D σ i).length≤i:=by
 induction i with
 | zero=>simp [D]
 | succ i ih=>
  rw [D];cases (D σ i).contains (σ i)
  ·simp; omega
  ·simp only [cond_true]; omega
def cls (σ:Nat→List Bool) (i:Nat):Nat:=(D σ 256).idxOf (σ i)
theorem Ab {σ:Nat→List Bool} {i j:Nat} (hj:j≤256) (hi:i<j):cls σ i=(D σ j).idxOf (σ i):=by
 obtain ⟨r,hr⟩:=AH (σ:=σ) hj;unfold cls;rw [hr,List.idxOf_append,if_pos (zE.2 ⟨i,hi,rfl⟩)]
theorem tF {σ:Nat→List Bool} {i:Nat} (hi:i<256) (h:σ i∈D σ i):cls σ i=(D σ i).idxOf (σ i)∧cls σ i<(D σ i).length:=by
 have e:D σ (i+1)=D σ i:=by rw [D]; simp [h]
 have:=Ab (σ:=σ) (i:=i) (j:=i+1) (by omega) (by omega);rw [e] at this;rw [this];exact ⟨rfl,List.idxOf_lt_length_of_mem h⟩
theorem pM {σ:Nat→List Bool} {i:Nat} (hi:i<256) (h:σ i∉D σ i):cls σ i=(D σ i).length∧D σ (i+1)=D σ i++[σ i]:=by
 have e:D σ (i+1)=D σ i++[σ i]:=by rw [D]; simp [h]
 have:=Ab (σ:=σ) (i:=i) (j:=i+1) (by omega) (by omega);rw [e,List.idxOf_append,if_neg h] at this;rw [this];refine ⟨by simp,e⟩
theorem xP {σ:Nat→List Bool} {i:Nat} (h:σ i∈D σ i):D σ (i+1)=D σ i:=by rw [D]; simp [h]
def gZ (f:Nat→Int) (n i:Nat):List Int:=(List.range i).map f++List.replicate (n - i) 0
theorem pA {f:Nat→Int} {n i:Nat} (h:i≤n):(gZ f n i).length=n:=by simp [gZ]; omega
theorem wU {f:Nat→Int} {n i k:Nat} (hk:k<i) (h:k<(gZ f n i).length):(gZ f n i)[k]=f k:=by
 simp [gZ,hk]
theorem lw {f:Nat→Int} {n i:Nat} (hi:i<n) (x:Int) (hx:f i=x):(gZ f n i).set i x=gZ f n (i+1):=by
 unfold gZ;rw [List.set_append,if_neg (by simp),JD,Jh,Ja];congr 1;simp only [Jg,Jw,Nat.sub_self];obtain ⟨k,hk⟩:∃k,n - i=k+1:=⟨n - i - 1,by omega⟩;rw [hk,List.replicate_succ,List.set_cons_zero,show n - (i+1)=k by omega,←hx];rfl
theorem yW {f:Nat→Int} {n:Nat}:gZ f n 0=List.replicate n 0:=by simp [gZ]
theorem sY {f:Nat→Int} {n:Nat}:gZ f n n=(List.range n).map f:=by simp [gZ]
def DQ (b:Bool):Int:=bif b then 1 else 0
def key (s:List Bool):Str:=cX (s.map DQ)
theorem xq:∀ {s t:List Bool},key s=key t→s=t
 | [],[],_=>rfl
 | [],_::_,h=>by simp [key,cX] at h
 | _::_,[],h=>by simp [key,cX] at h
 | a::s,b::t,h=>by
  simp only [key,cX,List.map_cons,List.cons.injEq] at h;have h2:s=t:=xq h.2;have h1:a=b:=by
   have:=h.1
   revert this
   cases a <;> cases b <;> decide
  rw [h1,h2]
theorem xr (s t:List Bool):(key s == key t)=(s == t):=by
 rw [Bool.eq_iff_iff,beq_iff_eq,beq_iff_eq];exact ⟨xq,fun h=>by rw [h]⟩
def enc:List (List Bool)→Nat→List (Str×Int)|[],_=>[]|s::L,k=>(key s,(k:Int))::enc L (k+1)
theorem BT (L:List (List Bool)):∀k,(enc L k).length=L.length:=by
 induction L with
 | nil=>exact fun _=>rfl
 | cons s L ih=>intro k; simp [enc,ih]
theorem BU (s:List Bool) (L:List (List Bool)):∀k,cb (enc L k) (key s)=bif L.contains s then some ((k+L.idxOf s:Nat):Int) else none:=by
 induction L with
 | nil=>intro k; rfl
 | cons t L ih=>
  intro k;unfold enc cb;rw [List.find?_cons];simp only [xr];cases h:t == s
  ·have a:=ih (k+1);unfold cb at a;simp only [];rw [a,List.contains_cons,show (s == t)=false by rw [Bool.beq_comm]; exact h,Bool.false_or,List.idxOf_cons,h];cases L.contains s <;> simp <;> omega
  ·have:t=s:=by simpa using h
   subst this;simp
theorem BS (s:List Bool) (L:List (List Bool)):∀k,s∉L→dQ (enc L k) (key s) ((k+L.length:Nat):Int)=enc (L++[s]) k:=by
 induction L with
 | nil=>intro k _; simp [enc,dQ]
 | cons t L ih=>
  intro k h;have a:(t == s)=false:=by rw [beq_eq_false_iff_ne]; rintro rfl; simp at h
  simp only [enc,dQ,xr,a,cond_false,Je,Jp];congr 1;have:=ih (k+1) (by simp at h; exact h.2);rw [←this]; congr 2; omega
def dD (l:List (aV 4)) (i:Nat):List Bool:=l.map (fun v=>mem v i)
def lV (l:List (aV 4)):List Int:=(List.range 256).map fun i=>(cls (dD l) i:Int)
theorem fV {i:Nat} (h:i<9223372036854775807):bZ .i64 ((i:Int)+1)=some ((i+1:Nat):Int):=by rw [dX (by omega) (by omega)]; rfl
theorem wL {l:List (aV 4)} (hl:∀v∈l,W4 v) (hn:l.length≤1000000):M.g5 l=some (lV l):=by
  unfold M.g5;refine aR (dW (n:=256) (by omega)) ?_;simp only [Jq]
  let f:Nat→Int:=fun i=>(cls (dD l) i:Int)
  refine aR (fx (fun i=>(gZ f 256 i,enc (D (dD l) i) 0,(i:Int))) 256 (r:=lV l) (fun i e=>?_) ?_ aZ (ia (by omega))) rfl
  · have hlen:(gZ f 256 i).length=256:=pA (by omega)
    let a:Nat→Int:=fun j=>DQ ((dD l i).getD j false)
    have F:ba (fun (w:(List Int)×Int)=>match w with
      | (p,m)=>
       bif (decide (m<(l.length:Int))) then
        (
         (bC l m).bind fun J=>
         (M.g1 J (IntKind.u8.wrap (i:Int))).bind fun y=>
         bif y then
          (dk p m 1).bind fun z=>
          some z
         else
          some p).bind fun (A:(List Int))=>
        (bZ .i64 (m+1)).bind fun u=>
        some (.next (A,u))
       else
        some (.stop p)) aZ (List.replicate l.length (0:Int),(0:Int))=some ((dD l i).map DQ):=by
      have H:gZ a l.length l.length=(dD l i).map DQ:=by
        rw [sY];apply List.ext_getElem
        · simp [dD]
        · intro k s I
          have:k<l.length:=by simpa using s
          simp [a,dD,this,IP]
      rw [←yW (f:=a)];refine fx (fun j=>(gZ a l.length j,(j:Int))) l.length (fun j d=>?_) ?_ aZ (ia (by omega))
      · have o:a j=DQ (mem l[j] i):=by simp [a,dD,d,IP]
        have K:=wk (hl l[j] (IU d)) (c:=i) e;have L:(gZ a l.length j).length=l.length:=pA (by omega);simp only [dL (show (j:Int)<(l.length:Int) by omega),cond_true,be d,IS,lr (show (0:Int)≤(i:Int) by omega) (by omega),K];cases b:mem l[j] i
        · rw [b] at o
          have:gZ a l.length j=gZ a l.length (j+1):=by
            rw [←lw d (a j) rfl];apply List.ext_getElem (by simp);intro k s I;rw [List.getElem_set];split
            · rename_i h; subst h
              rw [o];simp [gZ,DQ]
            · rfl
          simp only [cond_false,IS,fV (show j<_ by omega),←this]
        · rw [b] at o
          have t:dk (gZ a l.length j) (j:Int) 1=some ((gZ a l.length j).set j 1):=cK (by omega);rw [lw d 1 o] at t;simp only [cond_true,t,IS,fV (show j<_ by omega)]
      · simp only [eu (show ¬ (l.length:Int)<(l.length:Int) by omega),cond_false,H]
    have B:oO 1 (l.length:Int) (0:Int)=some (List.replicate l.length 0):=dW (by omega);have G:=BU (dD l i) (D (dD l) i) 0;simp only [dL (show (i:Int)<((256:Nat):Int) by omega),cond_true,B,IS];refine aR (x:=(gZ f 256 (i+1),enc (D (dD l) (i+1)) 0)) (aR F ?_) ?_
    · simp only [show cX ((dD l i).map DQ)=key (dD l i) from rfl,G,Nat.zero_add,BT]
      cases hc:(D (dD l) i).contains (dD l i)
      · have q:dD l i∉D (dD l) i:=by intro h; rw [List.contains_iff_mem.2 h] at hc; cases hc
        obtain ⟨c1,c2⟩:=pM e q;have hs:=BS (dD l i) (D (dD l) i) 0 q;rw [Nat.zero_add] at hs;have g:dk (gZ f 256 i) (i:Int) ((D (dD l) i).length:Int)=some ((gZ f 256 i).set i ((D (dD l) i).length:Int)):=cK (by omega);rw [lw e _ (by simp only [f,c1])] at g;simp only [cond_false,Option.isSome_none,Bool.not_false,cond_true,IS,hs,g,c2]
      · have b:dD l i∈D (dD l) i:=List.contains_iff_mem.1 hc
        obtain ⟨c1,c2⟩:=tF e b;have g:dk (gZ f 256 i) (i:Int) ((D (dD l) i).idxOf (dD l i):Int)=some ((gZ f 256 i).set i ((D (dD l) i).idxOf (dD l i):Int)):=cK (by omega);rw [lw e _ (by simp only [f,c1])] at g;simp only [cond_true,Option.isSome_some,Bool.not_true,cond_false,Option.getD_some,IS,g,xP b]
    · simp only [fV (show i<_ by omega),IS]
  · simp only [eu (show ¬ ((256:Nat):Int)<((256:Nat):Int) by omega),cond_false]
    rw [sY]; rfl
theorem rZ {l:List (aV 4)} (hl:∀v∈l,W4 v) (hn:l.length≤1000000) {a b:Nat} (ha:a<256) (hb:b<256):M.e7 l (a:Int) (b:Int)=some (dD l a == dD l b):=by
 unfold M.e7;have key:=ov (body:=(fun (c:Int)=>
  bif (decide (c<(l.length:Int))) then
   (bC l c).bind fun f=>
   (M.h7 f (a:Int)).bind fun m=>
   (M.h7 f (b:Int)).bind fun j=>
   bif (!(m == j)) then
    some (.stop (.stop false))
   else
    (bZ .i64 (c+1)).bind fun g=>
    some (.next g)
  else
   some (.stop (.next ())):Int→Option (cQ Int (cQ Unit Bool))))
   (fun s=>∃i:Nat,s=(i:Int)∧i≤l.length∧∀(k:Nat) (h:k<l.length),k<i→mem l[k] a=mem l[k] b) (fun s=>l.length - s.toNat)
   (fun r=>(r=.next ()∧dD l a=dD l b)∨(r=.stop false∧dD l a≠dD l b)) ?_ aZ 0 ⟨0,rfl,by omega,fun k _ h=>by omega⟩ (ia (by omega))
 ·obtain ⟨r,e,h|h⟩:=key
  ·rw [e,h.1,h.2]; simp [bp]
  ·rw [e,h.1];have:(dD l a == dD l b)=false:=by rw [beq_eq_false_iff_ne]; exact h.2
   rw [this]; rfl
 ·rintro s ⟨i,rfl,q,hP⟩
  by_cases hlt:i<l.length
  ·have p:=tB (hl l[i] (IU hlt)) ha;have o:=tB (hl l[i] (IU hlt)) hb;simp only [dL (show (i:Int)<(l.length:Int) by omega),cond_true,be hlt,IS,p,o]
   by_cases hm:mem l[i] a=mem l[i] b
   ·refine .inl ⟨((i+1:Nat):Int),?_,⟨i+1,rfl,by omega,fun k d n=>?_⟩,by omega⟩
    ·rw [hm]; simp only [beq_self_eq_true,Bool.not_true,cond_false,fV (show i<_ by omega),IS]
    ·by_cases hk:k=i
     ·subst hk; exact hm
     ·exact hP k d (by omega)
   ·refine .inr ⟨_,?_,.inr ⟨rfl,fun h=>hm ?_⟩⟩
    ·rw [show (mem l[i] a == mem l[i] b)=false by rw [beq_eq_false_iff_ne]; exact hm]; rfl
    ·have:=congrArg (fun z=>z[i]?) h;simpa [dD,hlt] using this
  ·refine .inr ⟨_,by simp only [eu (show ¬ (i:Int)<(l.length:Int) by omega),cond_false],.inl ⟨rfl,?_⟩⟩;unfold dD;apply List.ext_getElem (by simp);intro k d n;have:k<l.length:=by simpa using d
   simpa using hP k this (by omega)
theorem rK {l:List (aV 4)} (hl:∀v∈l,W4 v) (hn:l.length≤1000000):M.h9 l=some (lV l):=by
 unfold M.h9;refine aR (dW (n:=256) (by omega)) ?_
 let f:Nat→Int:=fun i=>(cls (dD l) i:Int)
 refine aR (fx (fun i=>(gZ f 256 i,((D (dD l) i).length:Int),(i:Int))) 256 (r:=lV l) (fun b hb=>?_) ?_ aZ (ia (by omega))) rfl
 ·have hlen:(gZ f 256 b).length=256:=pA (by omega);have y:dk (gZ f 256 b) (b:Int) ((D (dD l) b).length:Int)=some ((gZ f 256 b).set b ((D (dD l) b).length:Int)):=cK (by omega);have F:=AI (σ:=dD l) b;have B:((gZ f 256 b).set b ((D (dD l) b).length:Int)).length=256:=by rw [Jz,hlen]
  have q:=ov (body:=(fun (d:Int)=>
   bif (decide (d<(b:Int))) then
    (M.e7 l (IntKind.u8.wrap d) (IntKind.u8.wrap (b:Int))).bind fun m=>
    bif m then
     (bC ((gZ f 256 b).set b ((D (dD l) b).length:Int)) d).bind fun u=>
     (dk ((gZ f 256 b).set b ((D (dD l) b).length:Int)) (b:Int) u).bind fun o=>
     some (.stop o)
    else
     (bZ .i64 (d+1)).bind fun j=>
     some (.next j)
   else
    some (.stop ((gZ f 256 b).set b ((D (dD l) b).length:Int))):Int→Option (cQ Int (List Int))))
   (fun s=>∃a:Nat,s=(a:Int)∧a≤b∧∀k,k<a→dD l k≠dD l b) (fun s=>b - s.toNat) (fun r=>r=gZ f 256 (b+1)) ?_ aZ 0 ⟨0,rfl,by omega,fun k h=>by omega⟩ (ia (by omega))
  ·obtain ⟨r,p,rfl⟩:=q;have z:(gZ f 256 (b+1)).length=256:=pA (by omega);have e:bC (gZ f 256 (b+1)) (b:Int)=some (f b):=by rw [be (by omega),wU (by omega)]
   simp only [dL (show (b:Int)<256 by omega),cond_true,y,IS];refine aR (x:=(gZ f 256 (b+1),((D (dD l) (b+1)).length:Int))) (aR p ?_) ?_
   ·simp only [e,IS]
    by_cases c:dD l b∈D (dD l) b
    ·obtain ⟨c1,c2⟩:=tF hb c;rw [show (f b == ((D (dD l) b).length:Int))=false by rw [beq_eq_false_iff_ne]; simp only [f]; omega,xP c];rfl
    ·obtain ⟨c1,c2⟩:=pM hb c;rw [show (f b == ((D (dD l) b).length:Int))=true by rw [beq_iff_eq]; simp only [f]; omega,c2];simp only [cond_true,fV (show (D (dD l) b).length<_ by omega),IS,IW,IT]
   ·simp only [fV (show b<_ by omega),IS]
  ·rintro s ⟨a,rfl,ha,hP⟩
   by_cases hlt:a<b
   ·have e:=rZ hl hn (a:=a) (b:=b) (by omega) hb;simp only [dL (show (a:Int)<(b:Int) by omega),cond_true,lr (show (0:Int)≤(a:Int) by omega) (by omega),lr (show (0:Int)≤(b:Int) by omega) (by omega),e,IS]
    by_cases he:dD l a=dD l b
    ·refine .inr ⟨gZ f 256 (b+1),?_,rfl⟩;have w:bC ((gZ f 256 b).set b ((D (dD l) b).length:Int)) (a:Int)=some (f a):=by
      rw [be (by omega),List.getElem_set,if_neg (by omega),wU hlt]
     have g:dk ((gZ f 256 b).set b ((D (dD l) b).length:Int)) (b:Int) (f a)=some (((gZ f 256 b).set b ((D (dD l) b).length:Int)).set b (f a)):=cK (by omega);rw [List.set_set,lw (f:=f) hb (f a) (by simp only [f,cls,he])] at g;rw [he];simp only [beq_self_eq_true,cond_true,w,g,IS]
    ·refine .inl ⟨((a+1:Nat):Int),?_,⟨a+1,rfl,by omega,fun k A=>?_⟩,by omega⟩
     ·rw [show (dD l a == dD l b)=false by rw [beq_eq_false_iff_ne]; exact he];simp only [cond_false,fV (show a<_ by omega),IS]
     ·by_cases h:k=a
      ·subst h; exact he
      ·exact hP k (by omega)
   ·refine .inr ⟨(gZ f 256 b).set b ((D (dD l) b).length:Int),by simp only [eu (show ¬ (a:Int)<(b:Int) by omega),cond_false],?_⟩;refine lw hb _ ?_;have c:dD l b∉D (dD l) b:=by
     intro h;obtain ⟨k,G,t⟩:=zE.1 h;exact hP k (by omega) t
    simp only [f,(pM hb c).1]
 ·simp only [eu (show ¬ ((256:Nat):Int)<256 by omega),cond_false];rw [sY]; rfl
def Mk (m:List Bool) (i:Int):Prop:=0≤i∧m[i.toNat]?=some true
theorem vV {m:List Bool} {i:Nat}:Mk m (i:Int)↔m[i]?=some true:=by
 unfold Mk;rw [Jl];exact ⟨fun h=>h.2,fun h=>⟨by omega,h⟩⟩
theorem tA {m:List Bool} {i:Int} (h0:0≤i) (h1:i<m.length):∃b,bC m i=some b∧(b=true↔Mk m i):=by
 obtain ⟨k,rfl⟩:=Jn h0;have hk:k<m.length:=by omega
 refine ⟨m[k],be hk,?_⟩;rw [vV,IQ hk];simp
def pq (m:List Bool) (i:Int):List Bool:=m.set i.toNat true
theorem zG {m:List Bool} {i:Int}:(pq m i).length=m.length:=by simp [pq]
theorem pH {m:List Bool} {i j:Int} (h0:0≤i) (h1:i<m.length):Mk (pq m i) j↔j=i∨Mk m j:=by
 unfold Mk pq;rw [Jy];constructor
 ·rintro ⟨h2,h3⟩
  by_cases e:j=i
  ·exact .inl e
  ·rw [if_neg (by omega)] at h3;exact .inr ⟨h2,h3⟩
 ·rintro (rfl|⟨h2,h3⟩)
  ·exact ⟨h0,by rw [if_pos rfl,if_pos (by omega)]⟩
  ·refine ⟨h2,?_⟩;split
   ·rw [if_pos (by omega)]
   ·exact h3
def cf (m:List Bool):Nat:=m.count false
theorem CL (m:List Bool):cf m≤m.length:=List.count_le_length
theorem xB {m:List Bool} {i:Int} (b:0≤i) (c:i<m.length) (h:¬ Mk m i):cf (pq m i)+1=cf m:=by
 obtain ⟨k,rfl⟩:=Jn b;have a:k<m.length:=by omega
 rw [vV,IQ a] at h;have hf:m[k]=false:=by
  cases hb:m[k]
  ·rfl
  ·rw [hb] at h; exact absurd rfl h
 unfold cf pq;rw [Jl,List.count_set a,hf];have:0<m.count false:=by
  rw [List.count_pos_iff,←hf];exact IU a
 simp;omega
def zP (m:List Bool):List Int:=((List.range m.length).filter fun i=>m[i]?.getD false).map fun (i:Nat)=>(i:Int)
theorem sD {m:List Bool} (f:m.length≤1000000000) {ρ:Type} {X:List Int→ρ} {body:List Int×Int→Option (cQ (List Int×Int) ρ)}
 (hb:∀a i,body (a,i)=bif decide (i<(m.length:Int)) then ((bC m i).bind fun e=>bif e then (cD 8 a [i]).bind fun l=>some l else some a).bind fun l=>(bZ .i64 (i+1)).bind fun t=>some (.next (l,t)) else some (.stop (X a))) :
 ba body aZ (([]:List Int),(0:Int))=some (X (zP m)):=by
 refine Is.eq ?_;refine Is.upto (fun i (d:List Int×Int)=>d.2=(i:Int)∧d.1=((List.range i).filter fun i=>m[i]?.getD false).map fun (i:Nat)=>(i:Int)) m.length (by omega) ⟨rfl,rfl⟩ ?_ ?_
 ·rintro i ⟨a,_⟩ b ⟨rfl,c⟩;obtain rfl:a=_:=c;rw [hb];refine Is.dt (by omega) ?_;have hl:(((List.range i).filter fun i=>m[i]?.getD false).map fun (i:Nat)=>(i:Int)).length≤i:=by
   rw [Jg];exact Nat.le_trans (List.length_filter_le _ _) (by simp)
  refine Is.bnd (P:=fun l=>l=((List.range (i+1)).filter fun i=>m[i]?.getD false).map fun (i:Nat)=>(i:Int)) ?_ fun l hl=>Is.bnq (aK (by omega)) (Is.next ⟨rfl,hl⟩)
  refine Is.bnq (be b) ?_;rw [JD,List.filter_append,Jh];refine Is.cnd (fun h=>?_) (fun h=>?_)
  ·refine Is.bnq (bO (by simp only [IT]; omega)) (Is.pure ?_);simp [b,h]
  ·refine Is.pure ?_;simp [b,h]
 ·rintro ⟨a,_⟩ ⟨rfl,c⟩;obtain rfl:a=_:=c;rw [hb];exact Is.df (by omega) (Is.stop rfl)
theorem xU {m:List Bool} (hm:m.length≤1000000000):M.l4 m=some (zP m):=by
 unfold M.l4;exact aR (sD hm (X:=fun a=>a) (fun _ _=>rfl)) rfl
theorem BE {m:List Bool} (hm:m.length≤1000000000):M.l1 m=some (zP m):=by
 unfold M.l1;exact aR (sD hm (X:=fun a=>a) (fun _ _=>rfl)) rfl
structure FitN (n:T_NFA):Prop where
  pos:1≤n.States
  most:n.States≤2000
  start:0≤n.Start∧n.Start<n.States
  acc:(n.Accept.length:Int)=n.States
  low:∀x∈n.Accept,-1≤x
  arcs:∀a∈n.Arcs,(0≤a.From∧a.From<n.States)∧(0≤a.To∧a.To<n.States)∧(a.Epsilon=true→a.Set=aV.zero 4)
  len:n.Arcs.length≤1000000000
  sets:∀a∈n.Arcs,W4 a.Set
inductive oU (n:T_NFA) (S:List Int):Int→Prop where
  | base {s:Int}:s∈S→0≤s→s<n.States→oU n S s
  | arc {a:cd}:a∈n.Arcs→a.Epsilon=true→oU n S a.From→oU n S a.To
theorem oU.lt {n:T_NFA} (hn:FitN n) {S:List Int} {s:Int} (h:oU n S s):0≤s∧s<n.States:=by
 cases h with
 | base _ h0 h1=>exact ⟨h0,h1⟩
 | arc ha _ _=>exact (hn.arcs _ ha).2.1
open Classical in
noncomputable def clo (n:T_NFA) (S:List Int):List Int:=((List.range n.States.toNat).filter fun i=>decide (oU n S ((i:Nat):Int))).map fun (i:Nat)=>(i:Int)
open Classical in
theorem pK {n:T_NFA} (hn:FitN n) {S:List Int} {s:Int}:s∈clo n S↔oU n S s:=by
 unfold clo;rw [Jt];constructor
 ·rintro ⟨k,hk,rfl⟩;exact of_decide_eq_true (JB.1 hk).2
 ·intro h;have:=h.lt hn;obtain ⟨k,rfl⟩:=Jn this.1;exact ⟨k,JB.2 ⟨Ju.2 (by omega),decide_eq_true h⟩,rfl⟩
theorem BZ (n:T_NFA) (S:List Int):(clo n S).length≤n.States.toNat:=by
 unfold clo;rw [Jg];exact Nat.le_trans (List.length_filter_le _ _) (by simp)
open Classical in
theorem uM {n:T_NFA} {S:List Int} {m:List Bool} (hl:m.length=n.States.toNat) (h:∀s:Int,Mk m s↔oU n S s):zP m=clo n S:=by
 unfold zP clo;rw [hl];congr 1;refine JA fun i b=>?_
 rw [Ju] at b;have a:i<m.length:=by omega
 have:=h i;rw [vV,IQ a] at this;rw [IQ a,Option.getD_some]
 by_cases hr:oU n S i
 ·rw [decide_eq_true hr];have:=this.2 hr;simpa using this
 ·rw [decide_eq_false hr];cases hb:m[i]
  ·rfl
  ·exact absurd (this.1 (by rw [hb])) hr
theorem gx {k:Nat} {s:Int}:¬ Mk (List.replicate k false) s:=by
 rintro ⟨_,h⟩;rw [List.getElem?_replicate] at h;split at h <;> simp at h
def py (n:T_NFA) (m:List Bool) (s:Int):Prop:=∀a∈n.Arcs,a.Epsilon=true→a.From=s→Mk m a.To
theorem uo {n:T_NFA} {S:List Int} {m:List Bool} (h1:∀s∈S,0≤s→s<n.States→Mk m s) (h2:∀s,Mk m s→py n m s):∀s,oU n S s→Mk m s:=by
 intro s h;induction h with
 | base hs h0 h1'=>exact h1 _ hs h0 h1'
 | arc ha he _ ih=>exact h2 _ ih _ ha he rfl
structure Wk (n:T_NFA) (S:List Int) (m:List Bool) (todo:List Int):Prop where
  len:m.length=n.States.toNat
  sound:∀s,Mk m s→oU n S s
  marked:∀s∈todo,Mk m s
  room:todo.length+cf m≤n.States.toNat
section
variable {n:T_NFA} (hn:FitN n) {S:List Int}
include hn
theorem Ar {m:List Bool} {a:List Int} (h:Wk n S m a) {t:Int} (j:0≤t→t<n.States→oU n S t) :
 ∃c e,M.g8 t n m a=some (c,e)∧Wk n S c e∧(∀s,Mk m s→Mk c s)∧(0≤t→t<n.States→Mk c t)∧(∀s∈a,s∈e)∧(∀s,Mk c s→Mk m s∨s∈e)∧2*cf c+e.length≤2*cf m+a.length:=by
 have hp:=hn.pos;have o:=hn.most;unfold M.g8;have hl:(m.length:Int)=n.States:=by rw [h.len]; omega
 by_cases hin:0≤t∧t<n.States
 ·obtain ⟨b,hb,i⟩:=tA (m:=m) hin.1 (by omega);cases b with
  | true=>
   refine ⟨m,a,?_,h,fun _ h=>h,fun _ _=>i.1 rfl,fun _ h=>h,fun _ h=>.inl h,Nat.le_refl _⟩;exact aR (x:=false) (by simp only [dL hin.1,dL hin.2,cond_true,hb,IS,Bool.not_true]) rfl
  | false=>
   have k:¬ Mk m t:=fun hx=>by have:=i.2 hx; cases this
   have p:=xB hin.1 (show t<m.length by omega) k;have d:∀s,Mk (pq m t) s↔s=t∨Mk m s:=fun s=>pH hin.1 (by omega)
   have l:=h.room;refine ⟨pq m t,a++[t],?_,⟨by rw [zG]; exact h.len,fun s hs=>?_,fun s hs=>?_,?_⟩,fun s hs=>(d s).2 (.inr hs),fun _ _=>(d t).2 (.inl rfl),fun s hs=>List.mem_append_left _ hs,fun s hs=>?_,?_⟩
   ·refine aR (x:=true) (by simp only [dL hin.1,dL hin.2,cond_true,hb,IS,Bool.not_false]) ?_;exact aR (iV hin.1 (by omega)) (aR (bO (by simp only [IT]; omega)) rfl)
   ·rcases (d s).1 hs with rfl|hs
    ·exact j hin.1 hin.2
    ·exact h.sound s hs
   ·rcases IZ.1 hs with hs|hs
    ·exact (d s).2 (.inr (h.marked s hs))
    ·exact (d s).2 (.inl (IY.1 hs))
   ·simp only [IW,IT]; omega
   ·rcases (d s).1 hs with rfl|hs
    ·exact .inr (by simp)
    ·exact .inl hs
   ·simp only [IW,IT]; omega
 ·refine ⟨m,a,?_,h,fun _ h=>h,fun f g=>absurd ⟨f,g⟩ hin,fun _ h=>h,fun _ h=>.inl h,Nat.le_refl _⟩;refine aR (x:=false) ?_ rfl
  by_cases f:0≤t
  ·simp only [dL f,eu (show ¬ t<n.States from fun g=>hin ⟨f,g⟩),cond_true,cond_false]
  ·simp only [eu f,cond_false]
theorem mR (hS:S.length≤1000000000):M.h4 n S=some (clo n S):=by
 have hp:=hn.pos;have hm:=hn.most;refine Is.eq ?_;unfold M.h4;have e0:oO 1 n.States false=some (List.replicate n.States.toNat false):=by
  have:=dW (B:=1) (n:=n.States.toNat) (z:=false) (by omega);rw [show ((n.States.toNat:Nat):Int)=n.States by omega] at this;exact this
 refine Is.bnq e0 ?_
 -- the states that are given
 refine Is.bnd (P:=fun r:List Bool×List Int=>Wk n S r.1 r.2∧(∀s∈S,0≤s→s<n.States→Mk r.1 s)∧(∀s,Mk r.1 s→s∈r.2)) ?_ ?_
 ·refine Is.upto (fun i (c:List Bool×List Int×Int)=>c.2.2=(i:Int)∧Wk n S c.1 c.2.1∧(∀s∈S.take i,0≤s→s<n.States→Mk c.1 s)∧(∀s,Mk c.1 s→s∈c.2.1)) S.length (by omega)
   ⟨rfl,⟨by simp,fun s hs=>absurd hs gx,by simp,by simp [cf]⟩,by simp,fun s hs=>absurd hs gx⟩ ?_ ?_
  ·rintro i ⟨m,d,_⟩ v ⟨rfl,g,p,w⟩;refine Is.dt (by omega) (Is.bnq (be v) ?_);obtain ⟨U,R,e,o,l,q3,q4,q5,_⟩:=Ar hn g (t:=S[i]) (fun G F=>.base (IU v) G F);refine Is.bnq e (Is.bnq (aK (by omega)) (Is.next ⟨rfl,o,fun s hs G F=>?_,fun s hs=>?_⟩))
   ·rw [List.take_add_one,IQ v,IZ] at hs;rcases hs with hs|hs
    ·exact l s (p s hs G F)
    ·obtain rfl:s=S[i]:=by simpa using hs
     exact q3 G F
   ·rcases q5 s hs with hs|hs
    ·exact q4 s (w s hs)
    ·exact hs
  ·rintro ⟨m,d,_⟩ ⟨rfl,g,p,w⟩;rw [IV] at p;exact Is.df (by omega) (Is.stop ⟨g,p,w⟩)
 rintro ⟨W,a2⟩ ⟨w0,f,t0⟩;simp only at w0 f t0
 -- the list that is worked off
 refine Is.bnd (P:=fun m:List Bool=>m.length=n.States.toNat∧∀s,Mk m s↔oU n S s) ?_ fun m V=>Is.bnq (xU (by rw [V.1]; omega)) (Is.pure (uM V.1 V.2))
 refine Is.while (fun c:List Bool×List Int=>Wk n S c.1 c.2∧(∀s∈S,0≤s→s<n.States→Mk c.1 s)∧(∀s,Mk c.1 s→s∈c.2∨py n c.1 s)) (fun c=>2*cf c.1+c.2.length) ⟨w0,f,fun s hs=>.inl (t0 s hs)⟩ ?_ ?_
 ·have:=w0.room;have:=CL W;have:=w0.len;show 2*cf W+a2.length≤_;omega
 rintro ⟨m,d⟩ ⟨g,p,w⟩;simp only at g p w
 by_cases hz:d=[]
 ·subst hz;refine Is.df (by simp) (Is.stop ⟨g.len,fun s=>⟨g.sound s,uo p (fun s hs=>?_) s⟩⟩);rcases w s hs with h|h
  ·cases h
  ·exact h
 have b2:0<d.length:=List.length_pos_iff.2 hz;refine Is.dt (by omega) ?_;have et:bZ .i64 ((d.length:Int) - 1)=some ((d.length - 1:Nat):Int):=by
  have:=g.room;rw [dX (by omega) (by omega)];congr 1;omega
 have a1:d.length - 1<d.length:=by omega
 have a6:qd d 0 ((d.length - 1:Nat):Int)=some (d.take (d.length - 1)):=by
  unfold qd;rw [if_pos ⟨by omega,by omega,by omega⟩];simp
 refine Is.bnq et (Is.bnq (be a1) (Is.bnq a6 ?_));generalize hse:d[d.length - 1]=f;have a8:Mk m f:=g.marked f (by rw [←hse]; exact IU a1);have a7:∀s∈d,s∈d.take (d.length - 1)∨s=f:=by
  intro s hs;obtain ⟨j,hj,rfl⟩:=Ji.1 hs
  by_cases e:j=d.length - 1
  ·right; subst e; exact hse
  ·left;rw [Ji];exact ⟨j,by simp; omega,by simp⟩
 have Y:(d.take (d.length - 1)).length=d.length - 1:=by rw [Jo]; omega
 refine Is.mono (P:=SP (fun c:List Bool×List Int=>Wk n S c.1 c.2∧(∀s,Mk m s→Mk c.1 s)∧(∀s,Mk c.1 s→s=f∨s∈c.2∨py n c.1 s)∧py n c.1 f∧2*cf c.1+c.2.length≤2*cf m+(d.length - 1)) (fun _=>False)) ?_ ?_
 ·refine Is.mono (P:=fun r:cQ (List Bool×List Int) (List Bool)=>SP (fun c:List Bool×List Int=>Wk n S c.1 c.2∧(∀s,Mk m s→Mk c.1 s)∧(∀s,Mk c.1 s→s=f∨s∈c.2∨py n c.1 s)∧py n c.1 f∧2*cf c.1+c.2.length≤2*cf m+(d.length - 1)) (fun _=>False) r) ?_ fun _ h=>h
  refine Is.upto (Q:=fun r:cQ (List Bool×List Int) (List Bool)=>SP (fun c:List Bool×List Int=>Wk n S c.1 c.2∧(∀s,Mk m s→Mk c.1 s)∧(∀s,Mk c.1 s→s=f∨s∈c.2∨py n c.1 s)∧py n c.1 f∧2*cf c.1+c.2.length≤2*cf m+(d.length - 1)) (fun _=>False) r)
   (fun i (c:List Bool×List Int×Int)=>c.2.2=(i:Int)∧Wk n S c.1 c.2.1∧(∀s,Mk m s→Mk c.1 s)∧(∀s,Mk c.1 s→s=f∨s∈c.2.1∨py n c.1 s)∧(∀a∈n.Arcs.take i,a.Epsilon=true→a.From=f→Mk c.1 a.To)∧2*cf c.1+c.2.1.length≤2*cf m+(d.length - 1)) n.Arcs.length (by have:=hn.len; omega) ?_ ?_ ?_
  ·refine ⟨rfl,⟨g.len,g.sound,fun s hs=>g.marked s (List.mem_of_mem_take hs),?_⟩,fun _ h=>h,fun s hs=>?_,by simp,Nat.add_le_add_left (Nat.le_of_eq Y) _⟩
   ·have:=g.room;have e:(d.take (d.length - 1)).length+cf m≤n.States.toNat:=by rw [Y]; omega
    exact e
   ·rcases w s hs with h|h
    ·rcases a7 s h with h|h
     ·exact .inr (.inl h)
     ·exact .inl h
    ·exact .inr (.inr h)
  ·rintro i ⟨A,H,_⟩ v ⟨rfl,k,u,x,q,I⟩;simp only at k u x q I;have ha:=IU v;refine Is.dt (by omega) ?_;refine Is.bnd (P:=fun c:List Bool×List Int=>Wk n S c.1 c.2∧(∀s,Mk A s→Mk c.1 s)∧(∀s∈H,s∈c.2)∧(∀s,Mk c.1 s→Mk A s∨s∈c.2)∧(n.Arcs[i].Epsilon=true→n.Arcs[i].From=f→Mk c.1 n.Arcs[i].To)∧2*cf c.1+c.2.length≤2*cf A+H.length) ?_ ?_
   ·refine Is.bnq (be v) ?_;refine Is.bnd (P:=fun b:Bool=>b=true↔n.Arcs[i].Epsilon=true∧n.Arcs[i].From=f) ?_ fun b hb=>?_
    ·refine Is.cnd (fun h=>Is.pure ?_) (fun h=>Is.pure ?_)
     ·rw [beq_iff_eq,h]; exact ⟨fun h=>⟨rfl,h⟩,fun h=>h.2⟩
     ·rw [h]; simp
    ·refine Is.cnd (fun h=>?_) (fun h=>?_)
     ·obtain ⟨o,l⟩:=hb.1 h;obtain ⟨U,R,e,N,y,L,K,J,T⟩:=Ar hn k (t:=n.Arcs[i].To) (fun _ _=>.arc ha o (by rw [l]; exact k.sound _ (u _ a8)));have X:=(hn.arcs _ ha).2.1;exact Is.bnq e (Is.pure ⟨N,y,K,J,fun _ _=>L X.1 X.2,T⟩)
     ·exact Is.pure ⟨k,fun _ h=>h,fun _ h=>h,fun _ h=>.inl h,fun o l=>(by have:=hb.2 ⟨o,l⟩; rw [h] at this; cases this),Nat.le_refl _⟩
   ·rintro ⟨U,R⟩ ⟨N,y,L,K,J,T⟩;simp only at N y L K J T;refine Is.bnq (aK (by have:=hn.len; omega)) (Is.next ⟨rfl,N,fun s hs=>y s (u s hs),fun s hs=>?_,fun a D o l=>?_,by show 2*cf U+R.length≤_; omega⟩)
    ·rcases K s hs with h|h
     ·rcases x s h with h|h|h
      ·exact .inl h
      ·exact .inr (.inl (L s h))
      ·exact .inr (.inr fun a ha he hf=>y _ (h a ha he hf))
     ·exact .inr (.inl h)
    ·rw [List.take_add_one,IQ v,IZ] at D;rcases D with D|D
     ·exact y _ (q a D o l)
     ·obtain rfl:a=n.Arcs[i]:=by simpa using D
      exact J o l
  ·rintro ⟨A,H,_⟩ ⟨rfl,k,u,x,q,I⟩;rw [IV] at q;exact Is.df (by omega) (Is.stop ⟨k,u,x,q,I⟩)
 ·rintro (⟨A,H⟩|r) hr
  ·obtain ⟨k,u,x,q,I⟩:=hr;simp only at k u x q I;refine ⟨⟨k,fun s hs G F=>u _ (p s hs G F),fun s hs=>?_⟩,by show 2*cf A+H.length<2*cf m+d.length; omega⟩;rcases x s hs with rfl|h|h
   ·exact .inr q
   ·exact .inl h
   ·exact .inr h
  ·exact hr.elim
end
section
variable {n:T_NFA} (hn:FitN n) {S:List Int}
include hn
theorem mE:oO 1 n.States false=some (List.replicate n.States.toNat false):=by
 have hp:=hn.pos;have hm:=hn.most;have:=dW (B:=1) (n:=n.States.toNat) (z:=false) (by omega);rw [show ((n.States.toNat:Nat):Int)=n.States by omega] at this;exact this
theorem gb (hS:S.length≤1000000000):M.e5 n S=some (clo n S):=by
 have hp:=hn.pos;have hm:=hn.most;have b5:=hn.len;refine Is.eq ?_;unfold M.e5;refine Is.bnq (mE hn) ?_;refine Is.bnd (P:=fun m:List Bool=>m.length=n.States.toNat∧(∀s∈S,0≤s→s<n.States→Mk m s)∧(∀s,Mk m s→oU n S s)) ?_ ?_
 ·refine Is.upto (fun i (c:List Bool×Int)=>c.2=(i:Int)∧c.1.length=n.States.toNat∧(∀s∈S.take i,0≤s→s<n.States→Mk c.1 s)∧(∀s,Mk c.1 s→oU n S s)) S.length (by omega)
   ⟨rfl,by simp,by simp,fun s hs=>absurd hs gx⟩ ?_ ?_
  ·rintro i ⟨m,_⟩ t ⟨rfl,o,d,l⟩;simp only at o d l;refine Is.dt (by omega) ?_;refine Is.bnd (P:=fun v:List Bool=>v.length=n.States.toNat∧(∀s,Mk m s→Mk v s)∧(0≤S[i]→S[i]<n.States→Mk v S[i])∧(∀s,Mk v s→oU n S s)) ?_ fun v h=>Is.bnq (aK (by omega)) (Is.next ⟨rfl,h.1,fun s hs D B=>?_,h.2.2.2⟩)
   ·refine Is.bnd (P:=fun b:Bool=>b=true↔0≤S[i]∧S[i]<n.States) ?_ fun b hb=>?_
    ·refine Is.bnq (be t) (Is.dcd (fun h=>Is.pure ?_) (fun h=>Is.pure ?_))
     ·rw [decide_eq_true_eq]; exact ⟨fun d=>⟨h,d⟩,fun d=>d.2⟩
     ·exact ⟨fun d=>(by cases d),fun d=>absurd d.1 h⟩
    ·refine Is.cnd (fun h=>?_) (fun h=>?_)
     ·obtain ⟨f,j⟩:=hb.1 h;have w:∀s,Mk (pq m S[i]) s↔s=S[i]∨Mk m s:=fun s=>pH f (by omega)
      refine Is.bnq (be t) (Is.bnq (iV f (by omega)) (Is.pure ⟨by rw [Jz]; exact o,fun s hs=>(w s).2 (.inr hs),fun _ _=>(w _).2 (.inl rfl),fun s hs=>?_⟩));rcases (w s).1 hs with rfl|hs
      ·exact .base (IU t) f j
      ·exact l s hs
     ·exact Is.pure ⟨o,fun _ h=>h,fun f j=>(by have:=hb.2 ⟨f,j⟩; rw [h] at this; cases this),l⟩
   ·rw [List.take_add_one,IQ t,IZ] at hs;rcases hs with hs|hs
    ·exact h.2.1 s (d s hs D B)
    ·obtain rfl:s=S[i]:=by simpa using hs
     exact h.2.2.1 D B
  ·rintro ⟨m,_⟩ ⟨rfl,o,d,l⟩;rw [IV] at d;exact Is.df (by omega) (Is.stop ⟨o,d,l⟩)
 rintro R ⟨l0,Y,r0⟩;refine Is.bnd (P:=fun m:List Bool=>m.length=n.States.toNat∧∀s,Mk m s↔oU n S s) ?_ fun m H=>Is.bnq (BE (by rw [H.1]; omega)) (Is.pure (uM H.1 H.2))
 refine Is.while (fun c:List Bool×Bool=>c.1.length=n.States.toNat∧(∀s∈S,0≤s→s<n.States→Mk c.1 s)∧(∀s,Mk c.1 s→oU n S s)∧(c.2=false→∀s,Mk c.1 s→py n c.1 s)) (fun c=>2*cf c.1+(bif c.2 then 1 else 0)) ⟨l0,Y,r0,fun h=>(by cases h)⟩ ?_ ?_
 ·have:=CL R;show 2*cf R+1≤_;omega
 rintro ⟨m,b⟩ ⟨o,d,l,X⟩;simp only at o d l X;cases b with
 | false=>exact Is.cf rfl (Is.stop ⟨o,fun s=>⟨l s,uo d (X rfl) s⟩⟩)
 | true=>
  refine Is.ct rfl ?_;refine Is.mono (P:=SP (fun c:List Bool×Bool=>c.1.length=n.States.toNat∧(∀s,Mk m s→Mk c.1 s)∧(∀s,Mk c.1 s→oU n S s)∧(c.2=true→cf c.1<cf m)∧(c.2=false→c.1=m∧∀s,Mk c.1 s→py n c.1 s)) (fun _=>False)) ?_ ?_
  ·refine Is.upto (Q:=fun r:cQ (List Bool×Bool) (List Bool)=>SP (fun c:List Bool×Bool=>c.1.length=n.States.toNat∧(∀s,Mk m s→Mk c.1 s)∧(∀s,Mk c.1 s→oU n S s)∧(c.2=true→cf c.1<cf m)∧(c.2=false→c.1=m∧∀s,Mk c.1 s→py n c.1 s)) (fun _=>False) r)
    (fun i (c:List Bool×Bool×Int)=>c.2.2=(i:Int)∧c.1.length=n.States.toNat∧(∀s,Mk m s→Mk c.1 s)∧(∀s,Mk c.1 s→oU n S s)∧(c.2.1=true→cf c.1<cf m)∧(c.2.1=false→c.1=m∧∀a∈n.Arcs.take i,a.Epsilon=true→Mk m a.From→Mk m a.To)) n.Arcs.length (by omega)
    ⟨rfl,o,fun _ h=>h,l,fun h=>(by cases h),fun _=>⟨rfl,by simp⟩⟩ ?_ ?_
   ·rintro i ⟨e,z,_⟩ t ⟨rfl,q,u,k,p,g⟩;simp only at q u k p g;have W:=IU t;have y:=hn.arcs _ W;have b0:cf e≤cf m:=by
     cases z with
     | true=>exact Nat.le_of_lt (p rfl)
     | false=>rw [(g rfl).1]; exact Nat.le_refl _
    refine Is.dt (by omega) ?_;refine Is.bnd (P:=fun c:List Bool×Bool=>c.1.length=n.States.toNat∧(∀s,Mk e s→Mk c.1 s)∧(∀s,Mk c.1 s→oU n S s)∧(c.2=true→cf c.1<cf m)∧(c.2=false→z=false∧c.1=e∧(n.Arcs[i].Epsilon=true→Mk e n.Arcs[i].From→Mk e n.Arcs[i].To))) ?_ ?_
    ·refine Is.bnq (be t) ?_;obtain ⟨bf,ef,hf⟩:=tA (m:=e) y.1.1 (by omega);obtain ⟨bt,et,ht⟩:=tA (m:=e) y.2.1.1 (by omega);refine Is.bnd (P:=fun b:Bool=>b=true↔n.Arcs[i].Epsilon=true∧Mk e n.Arcs[i].From∧¬ Mk e n.Arcs[i].To) ?_ fun b hb=>?_
     ·refine Is.cnd (fun h=>Is.bnq ef (Is.cnd (fun d=>Is.bnq et (Is.pure ?_)) (fun d=>Is.pure ?_))) (fun h=>Is.pure ?_)
      ·rw [←ht,←hf,d];cases bt <;> simp [h]
      ·rw [←hf,d]; simp
      ·rw [h]; simp
     ·refine Is.cnd (fun h=>?_) (fun h=>?_)
      ·obtain ⟨f,j,F⟩:=hb.1 h;have w:∀s,Mk (pq e n.Arcs[i].To) s↔s=n.Arcs[i].To∨Mk e s:=fun s=>pH y.2.1.1 (by omega)
       have hc:=xB y.2.1.1 (show n.Arcs[i].To<e.length by omega) F;refine Is.bnq (iV y.2.1.1 (by omega)) (Is.pure ⟨by rw [Jz]; exact q,fun s hs=>(w s).2 (.inr hs),fun s hs=>?_,fun _=>?_,fun h=>(by cases h)⟩)
       ·rcases (w s).1 hs with rfl|hs
        ·exact .arc W f (k _ j)
        ·exact k s hs
       ·show cf (pq e n.Arcs[i].To)<cf m;omega
      ·refine Is.pure ⟨q,fun _ h=>h,k,p,fun a6=>⟨a6,rfl,fun f j=>Classical.byContradiction fun F=>?_⟩⟩;have:=hb.2 ⟨f,j,F⟩;rw [h] at this; cases this
    ·rintro ⟨v,b2⟩ ⟨N,L,K,J,I⟩;simp only at N L K J I;refine Is.bnq (aK (by omega)) (Is.next ⟨rfl,N,fun s hs=>L s (u s hs),K,J,fun a5=>?_⟩);obtain ⟨A,G,U⟩:=I a5;obtain ⟨T,k5⟩:=g A;subst G;refine ⟨T,fun a x f j=>?_⟩;rw [List.take_add_one,IQ t,IZ] at x;rcases x with x|x
     ·exact k5 a x f j
     ·obtain rfl:a=n.Arcs[i]:=by simpa using x
      rw [T] at U;exact U f j
   ·rintro ⟨e,z,_⟩ ⟨rfl,q,u,k,p,g⟩;simp only at q u k p g;rw [IV] at g;refine Is.df (by omega) (Is.stop ⟨q,u,k,p,fun hb=>?_⟩);obtain ⟨A,G⟩:=g hb;exact ⟨A,fun s hs a ha he hf=>by rw [A] at hs ⊢; exact G a ha he (by rw [hf]; exact hs)⟩
  ·rintro (⟨e,z⟩|r) V
   ·obtain ⟨q,u,k,p,g⟩:=V;simp only at q u k p g;refine ⟨⟨q,fun s hs D B=>u _ (d s hs D B),k,fun hb=>(g hb).2⟩,?_⟩;cases z with
    | true=>have:=p rfl; show 2*cf e+1<2*cf m+1; omega
    | false=>rw [(g rfl).1]; show 2*cf m+0<2*cf m+1; omega
   ·exact V.elim
omit hn in
theorem qQ {N:Nat} {l:List Int} (hl:∀s∈l,0≤s∧s<N) (hlen:l.length≤1000000000) {body:List Bool×Int→Option (cQ (List Bool×Int) (List Bool))}
 (hb:∀m i,body (m,i)=bif decide (i<(l.length:Int)) then (bC l i).bind fun e=>(dk m e true).bind fun g=>(bZ .i64 (i+1)).bind fun t=>some (.next (g,t)) else some (.stop m)) :
 Is (ba body aZ (List.replicate N false,(0:Int))) fun m=>m.length=N∧∀s,Mk m s↔s∈l:=by
 refine Is.upto (fun i (c:List Bool×Int)=>c.2=(i:Int)∧c.1.length=N∧∀s,Mk c.1 s↔s∈l.take i) l.length (by omega) ⟨rfl,by simp,fun s=>⟨fun h=>absurd h gx,fun h=>by simp at h⟩⟩ ?_ ?_
 ·rintro i ⟨m,_⟩ d ⟨rfl,b,a⟩;simp only at b a;have f:=hl l[i] (IU d);rw [hb];refine Is.dt (by omega) (Is.bnq (be d) (Is.bnq (iV f.1 (by omega)) (Is.bnq (aK (by omega)) (Is.next ⟨rfl,by rw [Jz]; exact b,fun s=>?_⟩))));rw [show (m.set l[i].toNat true)=pq m l[i] from rfl,pH f.1 (by omega),a,List.take_add_one,IQ d,IZ];simp only [Option.toList_some,IY];exact Or.comm
 ·rintro ⟨m,_⟩ ⟨rfl,b,a⟩;rw [hb];rw [IV] at a;exact Is.df (by omega) (Is.stop ⟨b,a⟩)
open Classical in
noncomputable def AL (n:T_NFA) (L:List Int) (b:Nat):List Int:=(n.Arcs.filter fun a=>!a.Epsilon && (decide (a.From∈L) && mem a.Set b)).map (·.To)
noncomputable def fC (n:T_NFA) (S:List Int) (b:Nat):List Int:=clo n (AL n (clo n S) b)
omit hn in
theorem wT (n:T_NFA) (L:List Int) (b:Nat):(AL n L b).length≤n.Arcs.length:=by
 unfold AL;rw [Jg];exact List.length_filter_le _ _
open Classical in
theorem ul {L:List Int} {b:Nat} {m:List Bool} (k:∀s,Mk m s↔s∈L) (p:m.length=n.States.toNat) {H:aV 4→Option Bool} (hH:∀v,W4 v→H v=some (mem v b)) {body:List Int×Int→Option (cQ (List Int×Int) (List Int))}
 (hb:∀a i,body (a,i)=bif decide (i<(n.Arcs.length:Int)) then ((bC n.Arcs i).bind fun e=>(bif (!e.Epsilon) then (bC m e.From).bind fun q=>bif q then (H e.Set).bind fun r=>some r else some false else some false).bind fun r=>bif r then (cD 8 a [e.To]).bind fun l=>some l else some a).bind fun l=>(bZ .i64 (i+1)).bind fun t=>some (.next (l,t)) else some (.stop a)) :
 ba body aZ (([]:List Int),(0:Int))=some (AL n L b):=by
 have hp:=hn.pos;have hlen:=hn.len;refine Is.eq ?_;refine Is.upto (fun i (f:List Int×Int)=>f.2=(i:Int)∧f.1=((n.Arcs.take i).filter fun a=>!a.Epsilon && (decide (a.From∈L) && mem a.Set b)).map (·.To)) n.Arcs.length (by omega) ⟨rfl,rfl⟩ ?_ ?_
 ·rintro i ⟨a,_⟩ c ⟨rfl,d⟩;obtain rfl:a=_:=d;have g:=IU c;have o:=hn.arcs _ g;rw [hb];refine Is.dt (by omega) ?_;have hl:(((n.Arcs.take i).filter fun a=>!a.Epsilon && (decide (a.From∈L) && mem a.Set b)).map (·.To)).length≤i:=by
   rw [Jg];refine Nat.le_trans (List.length_filter_le _ _) ?_;rw [Jo]; omega
  refine Is.bnd (P:=fun l=>l=((n.Arcs.take (i+1)).filter fun a=>!a.Epsilon && (decide (a.From∈L) && mem a.Set b)).map (·.To)) ?_ fun l hl=>Is.bnq (aK (by omega)) (Is.next ⟨rfl,hl⟩)
  refine Is.bnq (be c) ?_;rw [List.take_add_one,IQ c,List.filter_append,Jh];refine Is.bnq (x:=!n.Arcs[i].Epsilon && (decide (n.Arcs[i].From∈L) && mem n.Arcs[i].Set b)) ?_ ?_
  ·obtain ⟨q,eq,hq⟩:=tA (m:=m) o.1.1 (by omega);have j:q=decide (n.Arcs[i].From∈L):=by
    rw [Bool.eq_iff_iff,hq,k,decide_eq_true_eq]
   subst j;cases n.Arcs[i].Epsilon
   ·refine aR eq ?_;cases decide (n.Arcs[i].From∈L)
    ·rfl
    ·exact aR (hH _ (hn.sets _ g)) rfl
   ·rfl
  refine Is.cnd (fun h=>?_) (fun h=>?_)
  ·refine Is.bnq (bO (by simp only [IT]; omega)) (Is.pure ?_);simp only [Option.toList_some,List.filter_cons,h,if_true,List.filter_nil,List.map_cons,List.map_nil]
  ·refine Is.pure ?_;simp only [Option.toList_some,List.filter_cons,h,Bool.false_eq_true,if_false,List.filter_nil,List.map_nil,List.append_nil]
 ·rintro ⟨a,_⟩ ⟨rfl,d⟩;obtain rfl:a=_:=d;rw [hb];refine Is.df (by omega) (Is.stop ?_);rw [IV];rfl
theorem wx {S:List Int}:∀s∈clo n S,0≤s∧s<(n.States.toNat:Int):=by
 intro s hs;have:=((pK hn).1 hs).lt hn;omega
theorem oG {S:List Int}:(clo n S).length≤2000:=by
 have:=BZ n S;have:=hn.most;omega
theorem Bg (c:S.length≤1000000000) {b:Nat} (hb:b<256):M.m8 n S (b:Int)=some (fC n S b):=by
 have hlen:=hn.len;refine Is.eq ?_;unfold M.m8;refine Is.bnq (mE hn) ?_;have f:=oG hn (S:=S);refine Is.bnd (P:=fun m:List Bool=>m.length=n.States.toNat∧∀s,Mk m s↔s∈clo n S) (Is.bnq (mR hn c) (qQ (wx hn) (by omega) (fun _ _=>rfl))) ?_;rintro m ⟨e,d⟩;refine Is.bnq (ul hn (b:=b) d e (H:=fun v=>M.g1 v (b:Int)) (fun v a=>wk a hb) (fun _ _=>rfl)) ?_;have:=wT n (clo n S) b;exact Is.bnq (mR hn (by omega)) (Is.pure rfl)
theorem vE (c:S.length≤1000000000) {b:Nat} (hb:b<256):M.l2 n S (b:Int)=some (fC n S b):=by
 have hlen:=hn.len;refine Is.eq ?_;unfold M.l2;refine Is.bnq (mE hn) (Is.bnq (gb hn c) ?_);have f:=oG hn (S:=S);refine Is.bnd (P:=fun m:List Bool=>m.length=n.States.toNat∧∀s,Mk m s↔s∈clo n S) (qQ (wx hn) (by omega) (fun _ _=>rfl)) ?_;rintro m ⟨e,d⟩;refine Is.bnq (ul hn (b:=b) d e (H:=fun v=>M.h7 v (b:Int)) (fun v a=>tB a hb) (fun _ _=>rfl)) ?_;have:=wT n (clo n S) b;exact Is.bnq (gb hn (by omega)) (Is.pure rfl)
theorem Bq (s:Int):oU n (clo n S) s↔oU n S s:=by
 constructor
 ·intro h;induction h with
  | base hs _ _=>exact (pK hn).1 hs
  | arc ha he _ ih=>exact .arc ha he ih
 ·intro h;have:=h.lt hn;exact .base ((pK hn).2 h) this.1 this.2
theorem Ca:clo n (clo n S)=clo n S:=by
 unfold clo;congr 1;refine JA fun i _=>?_
 rw [decide_eq_decide];exact Bq hn i
theorem BY {b:Nat}:clo n (fC n S b)=fC n S b:=Ca hn
end
def gk (acc:List Int) (o:Int) (s:Int):Int:=bif decide (0≤acc.getD s.toNat 0) && (decide (o<0) || decide (acc.getD s.toNat 0<o)) then acc.getD s.toNat 0 else o
theorem An (e o:Int):(bif decide (0≤e) then bif decide (o<0) then some true else some (decide (e<o)) else some false).bind (fun x=>bif x then some e else some o)=some (bif decide (0≤e) && (decide (o<0) || decide (e<o)) then e else o):=by
 cases decide (0≤e) <;> cases decide (o<0) <;> cases decide (e<o) <;> rfl
def oJ (acc:List Int) (l:List Int):Int:=l.foldl (gk acc) (-1)
theorem sS {acc l:List Int} (hl:∀s∈l,0≤s∧s<(acc.length:Int)) (hlen:l.length≤1000000000) {body:Int×Int→Option (cQ (Int×Int) Int)}
 (hb:∀o i,body (o,i)=bif decide (i<(l.length:Int)) then ((bC l i).bind fun h=>(bC acc h).bind fun c=>(bif decide (0≤c) then bif decide (o<0) then some true else some (decide (c<o)) else some false).bind fun x=>bif x then some c else some o).bind fun g=>(bZ .i64 (i+1)).bind fun t=>some (.next (g,t)) else some (.stop o)) :
 ba body aZ (((-1):Int),(0:Int))=some (oJ acc l):=by
 refine Is.eq ?_;refine Is.upto (fun i (e:Int×Int)=>e.2=(i:Int)∧e.1=(l.take i).foldl (gk acc) (-1)) l.length (by omega) ⟨rfl,rfl⟩ ?_ ?_
 ·rintro i ⟨o,_⟩ a ⟨rfl,b⟩;obtain rfl:o=_:=b;have f:=hl l[i] (IU a);rw [hb];refine Is.dt (by omega) (Is.bnq (x:=gk acc ((l.take i).foldl (gk acc) (-1)) l[i]) ?_ (Is.bnq (aK (by omega)) (Is.next ⟨rfl,?_⟩)))
  ·refine aR (be a) (aR (eh (d:=0) f.1 f.2) ?_);exact An _ _
  ·rw [List.take_add_one,IQ a,List.foldl_append];rfl
 ·rintro ⟨o,_⟩ ⟨rfl,b⟩;obtain rfl:o=_:=b;rw [hb];refine Is.df (by omega) (Is.stop ?_);rw [IV];rfl
theorem wD {n:T_NFA} {l:List Int} (hl:∀s∈l,0≤s∧s<(n.Accept.length:Int)) (hlen:l.length≤1000000000):M.k6 n l=some (oJ n.Accept l):=by
 unfold M.k6;exact aR (sS hl hlen (fun _ _=>rfl)) rfl
theorem zJ {n:T_NFA} {l:List Int} (hl:∀s∈l,0≤s∧s<(n.Accept.length:Int)) (hlen:l.length≤1000000000):M.j8 n l=some (oJ n.Accept l):=by
 unfold M.j8;exact aR (sS hl hlen (fun _ _=>rfl)) rfl
noncomputable def um (n:T_NFA) (S:List Int) (s:Str):List Int:=(s.map UInt8.toNat).foldl (fC n) (clo n S)
noncomputable def Dg (n:T_NFA) (s:Str):Int:=oJ n.Accept (um n [n.Start] s)
section
variable {n:T_NFA} (hn:FitN n)
include hn
omit hn in
theorem Be:∀(l:List Nat) (S:List Int),(∃T,S=clo n T)→∃T,l.foldl (fC n) S=clo n T:=by
 intro l;induction l with
 | nil=>exact fun S h=>h
 | cons b l ih=>exact fun S _=>ih _ ⟨_,rfl⟩
theorem rj (l:List Int) (h:∃T,l=clo n T):(∀s∈l,0≤s∧s<(n.Accept.length:Int))∧l.length≤2000:=by
 obtain ⟨T,rfl⟩:=h;have h1:=hn.acc;have h2:=hn.pos;exact ⟨fun s hs=>by have:=wx hn s hs; omega,oG hn⟩
end
def cols (d:T_DFA):Nat:=(d.Next.getD 0 []).length
structure Ok (d:T_DFA):Prop where
  cls:d.Class.length=256
  pos:1≤d.Next.length
  max:d.Next.length≤500
  acc:d.Accept.length=d.Next.length
  col:1≤cols d
  inc:∀c∈d.Class,0≤c∧c<(cols d:Int)
  row:∀r∈d.Next,r.length=cols d∧∀t∈r,-1≤t∧t<(d.Next.length:Int)
  accs:∀a∈d.Accept,-1≤a
theorem zO {s:List Int} {f:Int→Option Bool} {p:Int→Bool} (hf:∀x∈s,f x=some (p x)) (hl:s.length≤9223372036854775807) :
 Is (M.c1 s f) (fun r=>decide (0≤r)=s.any p):=by
 unfold M.c1;refine Is.bs (P:=fun _=>s.any p=false) (Is.upto (fun i c=>c=(i:Int)∧∀x∈s.take i,p x=false) s.length hl ⟨rfl,by simp⟩ ?_ ?_) ?_
 ·rintro i _ b ⟨rfl,a⟩;refine Is.dt (by omega) (Is.bnq (be b) (Is.bnq (hf _ (IU b)) (Is.cnd (fun hp=>?_) (fun hp=>?_))))
  ·exact Is.stop (show decide _=_ by rw [List.any_eq_true.2 ⟨_,IU b,hp⟩]; simp)
  ·refine Is.bnq (aK (by omega)) (Is.next ⟨rfl,fun x hx=>?_⟩);rw [Jb b,IZ] at hx;rcases hx with hx|hx
   ·exact a x hx
   ·rw [IY.1 hx]; exact hp
 ·rintro _ ⟨rfl,a⟩;refine Is.df (by omega) (Is.stop ?_);rw [IV] at a;exact List.any_eq_false.2 fun x hx=>by simp [a x hx]
 ·intro _ h;exact Is.pure (by rw [h]; rfl)
theorem oS {s:List Int} {f:Int→Option Bool} {p:Int→Bool} (hf:∀x∈s,f x=some (p x)) (hl:s.length≤9223372036854775807):M.a7 s f=some (s.any p):=by
 obtain ⟨r,hr,h⟩:=zO hf hl;unfold M.a7;rw [hr,←h]; rfl
structure VN (n:T_NFA):Prop where
  pos:1≤n.States
  most:n.States≤2000
  start:0≤n.Start∧n.Start<n.States
  acc:(n.Accept.length:Int)=n.States
  low:∀x∈n.Accept,-1≤x
  arcs:∀a∈n.Arcs,(0≤a.From∧a.From<n.States)∧(0≤a.To∧a.To<n.States)∧(a.Epsilon=true→a.Set=aV.zero 4)
def Dn (n:T_NFA):Prop:=1≤n.States∧n.States≤2000∧(0≤n.Start∧n.Start<n.States)∧(n.Accept.length:Int)=n.States
theorem VN.fit {n:T_NFA} (h:VN n) (hl:n.Arcs.length≤1000000000) (hs:∀a∈n.Arcs,W4 a.Set):FitN n:=⟨h.pos,h.most,h.start,h.acc,h.low,h.arcs,hl,hs⟩
theorem VN.pre {n:T_NFA} (h:VN n):Dn n:=⟨h.pos,h.most,h.start,h.acc⟩
def sT (n:T_NFA) (a:cd):Prop:=(0≤a.From∧a.From<n.States)∧(0≤a.To∧a.To<n.States)∧(a.Epsilon=true→a.Set=aV.zero 4)
theorem fH {α:Type} {l:List α} {i:Nat} (hi:i<l.length) {x:α}:x∈l.take (i+1)↔x∈l.take i∨x=l[i]:=by
 rw [List.take_add_one,IQ hi,IZ];simp
theorem tc {n:T_NFA} (hl:n.Arcs.length≤9223372036854775807) (ha:n.Accept.length≤9223372036854775807):Is (M.i6 n) (fun b=>b=true↔VN n):=by
 unfold M.i6;refine Is.bnd (P:=fun b:Bool=>b=false↔Dn n) ?_ fun b hb=>?_
 ·refine Is.dcd (fun h=>Is.pure ⟨fun e=>(by cases e),fun e=>by have:=e.1; omega⟩) (fun p=>?_);refine Is.dcd (fun h=>Is.pure ⟨fun e=>(by cases e),fun e=>by have:=e.2.1; omega⟩) (fun o=>?_);refine Is.dcd (fun h=>Is.pure ⟨fun e=>(by cases e),fun e=>by have:=e.2.2.1.1; omega⟩) (fun m=>?_);refine Is.dcd (fun h=>Is.pure ⟨fun e=>(by cases e),fun e=>by have:=e.2.2.1.2; omega⟩) (fun l=>Is.pure ?_);exact ⟨fun e=>⟨by omega,by omega,⟨by omega,by omega⟩,eR e⟩,fun e=>sR e.2.2.2⟩
 refine Is.cnd (fun h=>Is.pure ⟨fun e=>(by cases e),fun e=>by have:=hb.2 e.pre; rw [h] at this; cases this⟩) (fun h=>?_);have f:=hb.1 h;refine Is.bs (P:=fun _:Unit=>∀x∈n.Accept,-1≤x) ?_ fun _ hacc=>Is.bs (P:=fun _:Unit=>∀a∈n.Arcs,sT n a) ?_ fun _ k=>Is.pure ⟨fun _=>⟨f.1,f.2.1,f.2.2.1,f.2.2.2,hacc,k⟩,fun _=>rfl⟩
 ·refine Is.upto (fun i (g:Int)=>g=(i:Int)∧∀x∈n.Accept.take i,-1≤x) n.Accept.length ha ⟨rfl,by simp⟩ ?_ ?_
  ·rintro i _ d ⟨rfl,c⟩;refine Is.dt (by omega) (Is.bnq (be d) (Is.dcd (fun h=>Is.stop ⟨fun e=>(by cases e),fun e=>?_⟩) (fun h=>Is.bnq (aK (by omega)) (Is.next ⟨rfl,fun x hx=>?_⟩))))
   ·have:=e.low _ (IU d); omega
   ·rcases (fH d).1 hx with hx|rfl
    ·exact c x hx
    ·omega
  ·rintro _ ⟨rfl,c⟩;rw [IV] at c;exact Is.df (by omega) (Is.stop c)
 ·refine Is.upto (fun i (g:Int)=>g=(i:Int)∧∀a∈n.Arcs.take i,sT n a) n.Arcs.length hl ⟨rfl,by simp⟩ ?_ ?_
  ·rintro i _ d ⟨rfl,c⟩;refine Is.dt (by omega) (Is.bnq (be d) (Is.bnd (P:=fun b:Bool=>b=false↔sT n n.Arcs[i]) ?_ fun b hb=>Is.cnd (fun h=>Is.stop ⟨fun e=>(by cases e),fun e=>?_⟩) (fun h=>Is.bnq (aK (by omega)) (Is.next ⟨rfl,fun x hx=>?_⟩))))
   ·refine Is.dcd (fun h=>Is.pure ⟨fun e=>(by cases e),fun e=>by have:=e.1.1; omega⟩) (fun p=>?_);refine Is.dcd (fun h=>Is.pure ⟨fun e=>(by cases e),fun e=>by have:=e.1.2; omega⟩) (fun o=>?_);refine Is.dcd (fun h=>Is.pure ⟨fun e=>(by cases e),fun e=>by have:=e.2.1.1; omega⟩) (fun m=>?_);refine Is.dcd (fun h=>Is.pure ⟨fun e=>(by cases e),fun e=>by have:=e.2.1.2; omega⟩) (fun l=>?_);refine Is.cnd (fun j=>Is.pure ?_) (fun j=>Is.pure ⟨fun _=>⟨by omega,by omega,fun e=>by rw [j] at e; cases e⟩,fun _=>rfl⟩);rw [bne_eq_false_iff_eq];exact ⟨fun e=>⟨by omega,by omega,fun _=>e⟩,fun e=>e.2.2 j⟩
   ·have:=hb.2 (e.arcs _ (IU d)); rw [h] at this; cases this
   ·rcases (fH d).1 hx with hx|rfl
    ·exact c x hx
    ·exact hb.1 h
  ·rintro _ ⟨rfl,c⟩;rw [IV] at c;exact Is.df (by omega) (Is.stop c)
theorem oz (n:T_NFA) (s:Int):M.h3 s n=some (decide (0≤s∧s<n.States)):=by
 unfold M.h3
 by_cases h:0≤s
 ·rw [decide_eq_true h]
  by_cases a:s<n.States
  ·rw [decide_eq_true a,decide_eq_true (show 0≤s∧s<n.States from ⟨h,a⟩)]; rfl
  ·rw [decide_eq_false a,decide_eq_false (show ¬ (0≤s∧s<n.States) from fun e=>a e.2)]; rfl
 ·rw [decide_eq_false h,decide_eq_false (show ¬ (0≤s∧s<n.States) from fun e=>h e.1)]; rfl
theorem xR {n:T_NFA} (hl:n.Arcs.length≤9223372036854775807) (ha:n.Accept.length≤9223372036854775807):Is (M.k9 n) (fun b=>b=true↔VN n):=by
 unfold M.k9;refine Is.bnd (P:=fun b:Bool=>b=false↔Dn n) ?_ fun b hb=>?_
 ·refine Is.dcd (fun h=>Is.pure ⟨fun e=>(by cases e),fun e=>by have:=e.1; omega⟩) (fun d=>?_);refine Is.dcd (fun h=>Is.pure ⟨fun e=>(by cases e),fun e=>by have:=e.2.1; omega⟩) (fun c=>?_);refine Is.bnq (oz n _) (Is.cnd (fun h=>Is.pure ⟨fun e=>(by cases e),fun e=>?_⟩) (fun h=>Is.pure ?_))
  ·have:=decide_eq_true (p:=0≤n.Start∧n.Start<n.States) e.2.2.1;rw [this] at h; cases h
  ·have o:0≤n.Start∧n.Start<n.States:=of_decide_eq_true (by simpa using h);exact ⟨fun e=>⟨by omega,by omega,o,eR e⟩,fun e=>sR e.2.2.2⟩
 refine Is.cnd (fun h=>Is.pure ⟨fun e=>(by cases e),fun e=>by have:=hb.2 e.pre; rw [h] at this; cases this⟩) (fun h=>?_);have f:=hb.1 h;refine Is.bs (P:=fun _:Unit=>∀a∈n.Arcs,sT n a) ?_ fun _ m=>?_
 ·refine Is.upto (fun i (l:Int)=>l=(i:Int)∧∀a∈n.Arcs.take i,sT n a) n.Arcs.length hl ⟨rfl,by simp⟩ ?_ ?_
  ·rintro i _ j ⟨rfl,g⟩;refine Is.dt (by omega) (Is.bnq (be j) (Is.bnd (P:=fun b:Bool=>b=false↔sT n n.Arcs[i]) ?_ fun b hb=>Is.cnd (fun h=>Is.stop ⟨fun e=>(by cases e),fun e=>?_⟩) (fun h=>Is.bnq (aK (by omega)) (Is.next ⟨rfl,fun x hx=>?_⟩))))
   ·refine Is.bnq (oz n _) (Is.cnd (fun h=>Is.pure ⟨fun e=>(by cases e),fun e=>?_⟩) (fun d=>?_))
    ·rw [decide_eq_true e.1] at h; cases h
    have d:0≤n.Arcs[i].From∧n.Arcs[i].From<n.States:=of_decide_eq_true (by simpa using d);refine Is.bnq (oz n _) (Is.cnd (fun h=>Is.pure ⟨fun e=>(by cases e),fun e=>?_⟩) (fun c=>?_))
    ·rw [decide_eq_true e.2.1] at h; cases h
    have c:0≤n.Arcs[i].To∧n.Arcs[i].To<n.States:=of_decide_eq_true (by simpa using c);refine Is.cnd (fun k=>Is.pure ?_) (fun k=>Is.pure ⟨fun _=>⟨d,c,fun e=>by rw [k] at e; cases e⟩,fun _=>rfl⟩);rw [bne_eq_false_iff_eq];exact ⟨fun e=>⟨d,c,fun _=>e⟩,fun e=>e.2.2 k⟩
   ·have:=hb.2 (e.arcs _ (IU j)); rw [h] at this; cases this
   ·rcases (fH j).1 hx with hx|rfl
    ·exact g x hx
    ·exact hb.1 h
  ·rintro _ ⟨rfl,g⟩;rw [IV] at g;exact Is.df (by omega) (Is.stop g)
 ·refine Is.bnq (oS (p:=fun x=>decide (x < -1)) (fun x _=>rfl) ha) (Is.pure ?_);rw [Bool.not_eq_true',List.any_eq_false];exact ⟨fun e=>⟨f.1,f.2.1,f.2.2.1,f.2.2.2,fun x hx=>by have:=e x hx; simp at this; omega,m⟩,fun e x hx=>by have:=e.low x hx; simp; omega⟩
theorem uH {α:Type} [DecidableEq α]:∀(l m:List α),l.Nodup→(∀x∈l,x∈m)→l.length≤m.length
 | [],_,_,_=>Nat.zero_le _
 | x::l,m,hn,hs=>by
  have hx:=hs x (by simp);have a:=List.nodup_cons.1 hn;have:=uH l (m.erase x) a.2 fun y hy=>(List.mem_erase_of_ne (fun e=>a.1 (by rw [←e]; exact hy))).2 (hs y (by simp [hy]))
  rw [List.length_erase_of_mem hx] at this;have:=List.length_pos_of_mem hx;simp only [Jp]; omega
inductive RS (n:T_NFA):List Int→Prop where
  | start:RS n (clo n [n.Start])
  | step {S:List Int} {b:Nat}:RS n S→b<256→fC n S b≠[]→RS n (fC n S b)
def FF (n:T_NFA):Prop:=∃l:List (List Int),l.Nodup∧500<l.length∧∀S∈l,RS n S
def tR (n:T_NFA):Prop:=∃l:List (List Int),l.length≤500∧∀S,RS n S→S∈l
theorem BF {n:T_NFA} (h:FF n) (h2:tR n):False:=by
 obtain ⟨l,h1,h3,h4⟩:=h;obtain ⟨m,h5,h6⟩:=h2;have:=uH l m h1 fun S hS=>h6 S (h4 S hS)
 omega
theorem RS.clo {n:T_NFA} {S:List Int} (h:RS n S):∃T,S=clo n T:=by
 cases h with
 | start=>exact ⟨_,rfl⟩
 | step _ _ _=>exact ⟨_,rfl⟩
theorem xA (n:T_NFA):clo n []=[]:=by
 unfold Go.Proofs.YtggpjcdhflcfmaaGreatDoor.clo;rw [List.map_eq_nil_iff,List.filter_eq_nil_iff];intro i _;have:¬ oU n [] (i:Int):=by
  intro h;have:∀s,oU n [] s→False:=by
   intro s h;induction h with
   | base hs _ _=>cases hs
   | arc _ _ _ ih=>exact ih
  exact this _ h
 simpa using this
theorem Bf (n:T_NFA) (b:Nat):fC n [] b=[]:=by
 unfold fC;rw [xA];have:AL n [] b=[]:=by
  unfold AL;simp
 rw [this,xA]
theorem Bc {n:T_NFA} {p:cd→Bool} (hp:∀a∈n.Arcs,a.Epsilon=false→p a=true) {a b:Nat} (h:dD ((n.Arcs.filter p).map (·.Set)) a=dD ((n.Arcs.filter p).map (·.Set)) b) (L:List Int):AL n L a=AL n L b:=by
 unfold AL;congr 1;refine JA fun x hx=>?_
 cases he:x.Epsilon
 ·have c:x.Set∈(n.Arcs.filter p).map (·.Set):=Jt.2 ⟨x,JB.2 ⟨hx,hp x hx he⟩,rfl⟩;have:mem x.Set a=mem x.Set b:=by
   unfold dD at h;rw [List.map_inj_left] at h;exact h _ c
  rw [this]
 ·rfl
theorem wY {n:T_NFA} {p:cd→Bool} (hp:∀a∈n.Arcs,a.Epsilon=false→p a=true) {a b:Nat} (h:dD ((n.Arcs.filter p).map (·.Set)) a=dD ((n.Arcs.filter p).map (·.Set)) b) (S:List Int):fC n S a=fC n S b:=by
 unfold fC;rw [Bc hp h]
def fX (σ:Nat→List Bool) (i:Nat) (fb:List Int):Prop:=fb.length=(D σ i).length∧∀c,c<fb.length→∃b:Nat,b<i∧fb[c]?=some (b:Int)∧(D σ i)[c]?=some (σ b)
theorem oR {l:List (aV 4)} {N:Int} (p:N=256) {body:List Int×Int→Option (cQ (List Int×Int) (List Int))}
 (hb:∀a i,body (a,i)=bif decide (i<N) then ((bC (lV l) i).bind fun e=>bif (e == (a.length:Int)) then (cD 1 a [(IntKind.u8.wrap i)]).bind fun l=>some l else some a).bind fun l=>(bZ .i64 (i+1)).bind fun t=>some (.next (l,t)) else some (.stop a)) :
 Is (ba body aZ (([]:List Int),(0:Int))) (fX (dD l) 256):=by
 subst p;refine Is.upto (fun i (k:List Int×Int)=>k.2=(i:Int)∧fX (dD l) i k.1) 256 (by omega) ⟨rfl,rfl,fun c d=>by simp at d⟩ ?_ ?_
 ·rintro i ⟨a,_⟩ m ⟨rfl,f⟩;simp only at f;rw [hb];have hlen:(lV l).length=256:=by simp [lV]
  have s:=AI (σ:=dD l) i;refine Is.dt (by omega) (Is.bnd (P:=fX (dD l) (i+1)) ?_ fun r o=>Is.bnq (aK (by omega)) (Is.next ⟨rfl,o⟩));refine Is.bnq (x:=(cls (dD l) i:Int)) (by rw [be (by omega)]; simp [lV]) ?_
  by_cases hm:dD l i∈D (dD l) i
  ·have d:=(tF m hm).2;refine Is.cf (cq (by have:=f.1; omega)) (Is.pure ⟨by rw [xP hm]; exact f.1,fun c d=>?_⟩);obtain ⟨b,q,j,h⟩:=f.2 c d;exact ⟨b,by omega,j,by rw [xP hm]; exact h⟩
  ·obtain ⟨d,g⟩:=pM m hm;have ha:a.length=(D (dD l) i).length:=f.1;refine Is.ct (rk (by omega)) (Is.bnq (bO (by simp only [IT]; omega)) (Is.pure ⟨by rw [g]; simp only [IW,IT]; omega,fun c d=>?_⟩));rw [mW (n:=i) (by omega)];simp only [IW,IT] at d;rcases Nat.lt_or_eq_of_le (Nat.le_of_lt_succ d) with hlt|heq
   ·obtain ⟨b,q,j,h⟩:=f.2 c hlt;exact ⟨b,by omega,by rw [Jc hlt]; exact j,by rw [g,Jc (by omega)]; exact h⟩
   ·subst heq;exact ⟨i,by omega,by simp,by rw [g,ha]; simp⟩
 ·rintro ⟨a,_⟩ ⟨rfl,f⟩;rw [hb];exact Is.df (by omega) (Is.stop f)
theorem fX.at {l:List (aV 4)} {fb:List Int} (h:fX (dD l) 256 fb) {b:Nat} (hb:b<256):∃a:Nat,a<256∧cls (dD l) b<fb.length∧fb[cls (dD l) b]?=some (a:Int)∧dD l a=dD l b:=by
 have f:dD l b∈D (dD l) 256:=zE.2 ⟨b,hb,rfl⟩;have c:(D (dD l) 256).idxOf (dD l b)<(D (dD l) 256).length:=List.idxOf_lt_length_of_mem f;have e:cls (dD l) b<fb.length:=by rw [h.1]; exact c
 obtain ⟨a,i,g,d⟩:=h.2 _ e;refine ⟨a,i,e,g,?_⟩;unfold cls at d;rw [IQ c,List.getElem_idxOf c] at d;exact (Option.some.inj d).symm
theorem fX.byte {l:List (aV 4)} {fb:List Int} (h:fX (dD l) 256 fb) {c:Nat} (hc:c<fb.length):∃b:Nat,b<256∧bC fb (c:Int)=some (b:Int):=by
 obtain ⟨b,g1,g2,_⟩:=h.2 c hc;refine ⟨b,g1,?_⟩;rw [IQ hc] at g2;rw [be hc,Option.some.inj g2]
theorem fX.len {l:List (aV 4)} {fb:List Int} (h:fX (dD l) 256 fb):1≤fb.length∧fb.length≤256:=by
 have h1:=h.at (b:=0) (by omega);have h2:=AI (σ:=dD l) 256;obtain ⟨_,_,h3,_⟩:=h1;have:=h.1;omega
theorem CA {a b:List Int} (h:a.length≤1000000000):M.l3 a b=some (decide (a=b)):=by
 refine Is.eq ?_;unfold M.l3
 by_cases hl:a.length=b.length
 ·refine Is.cf (sR (by omega)) ?_;refine Is.bs (P:=fun _:Unit=>a=b) (Q:=fun r=>r=decide (a=b)) ?_ fun _ h=>Is.pure (decide_eq_true h).symm
  refine Is.upto (fun i (g:Int)=>g=(i:Int)∧a.take i=b.take i) a.length (by omega) ⟨rfl,rfl⟩ ?_ ?_
  ·rintro i _ f ⟨rfl,c⟩;refine Is.dt (by omega) (Is.bnq (be f) (Is.bnq (be (by omega)) (Is.cnd (fun d=>Is.stop ?_) (fun d=>Is.bnq (aK (by omega)) (Is.next ⟨rfl,?_⟩)))))
   ·refine (decide_eq_false fun e=>?_).symm;subst e;exact kO d rfl
   ·rw [List.take_add_one,List.take_add_one,c,IQ f,IQ (by omega),eR d]
  ·rintro _ ⟨rfl,c⟩;rw [IV,hl,IV] at c;exact Is.df (by omega) (Is.stop c)
 ·exact Is.ct (mp (by omega)) (Is.pure (decide_eq_false fun e=>hl (by rw [e])).symm)
theorem BN {l:List (List Int)} {S:List Int} (hl:l.length≤1000000000) (hs:∀T∈l,T.length≤1000000000) :
 Is (M.l0 l S) fun k=>(k<0∧S∉l)∨∃j:Nat,k=(j:Int)∧l[j]?=some S:=by
 unfold M.l0;refine Is.bs (P:=fun _:Unit=>S∉l) (Q:=fun k=>(k<0∧S∉l)∨∃j:Nat,k=(j:Int)∧l[j]?=some S) ?_ fun _ h=>Is.pure (.inl ⟨by omega,h⟩)
 refine Is.upto (fun i (e:Int)=>e=(i:Int)∧S∉l.take i) l.length (by omega) ⟨rfl,by simp⟩ ?_ ?_
 ·rintro i _ a ⟨rfl,b⟩;refine Is.dt (by omega) (Is.bnq (be a) (Is.bnq (CA (hs _ (IU a))) (Is.cnd (fun d=>Is.stop ?_) (fun d=>Is.bnq (aK (by omega)) (Is.next ⟨rfl,fun c=>?_⟩)))))
  ·exact .inr ⟨i,rfl,by rw [IQ a,of_decide_eq_true d]⟩
  ·rcases (fH a).1 c with c|rfl
   ·exact b c
   ·exact of_decide_eq_false d rfl
 ·rintro _ ⟨rfl,b⟩;rw [IV] at b;exact Is.df (by omega) (Is.stop b)
structure lm (n:T_NFA) (sets:List (List Int)):Prop where
  nodup:sets.Nodup
  rs:∀S∈sets,RS n S
  start:clo n [n.Start]∈sets
theorem lm.add {n:T_NFA} {sets:List (List Int)} (h:lm n sets) {S:List Int} (hS:S∉sets) (hr:RS n S):lm n (sets++[S]):=
 ⟨List.nodup_append.2 ⟨h.nodup,by simp,fun x hx y hy e=>by rw [IY] at hy; subst hy; subst e; exact hS hx⟩,fun T hT=>by
  rcases IZ.1 hT with hT|hT
  ·exact h.rs T hT
  ·rw [IY.1 hT]; exact hr,List.mem_append_left _ h.start⟩
theorem zd {n:T_NFA} {sets:List (List Int)} {p:cd→Bool} (hp:∀a∈n.Arcs,a.Epsilon=false→p a=true) {fb:List Int} (hf:fX (dD ((n.Arcs.filter p).map (·.Set))) 256 fb) (h:lm n sets)
 (d:∀S∈sets,∀(c b:Nat),c<fb.length→fb[c]?=some (b:Int)→fC n S b≠[]→fC n S b∈sets):∀S,RS n S→S∈sets:=by
 intro S e;induction e with
 | start=>exact h.start
 | step _ hb hne ih=>
  obtain ⟨k,j,i,g,f⟩:=hf.at hb;rw [←wY hp f] at hne ⊢;exact d _ ih _ _ i g hne
section
variable {n:T_NFA} (hn:FitN n) (hlen:n.Arcs.length≤1000000)
include hn
theorem xf {S:List Int} (h:RS n S):(∀s∈S,0≤s∧s<(n.Accept.length:Int))∧S.length≤2000:=rj hn S h.clo
include hlen in
theorem yc:Is (M.f1 n) fun r=>(r.2=11∧FF n)∨(r.2=0∧tR n):=by
 have z:∃b,M.i6 n=some b∧b=true:=by
  obtain ⟨b,hb,h⟩:=tc (n:=n) (by omega) (by have:=hn.acc; have:=hn.most; omega);exact ⟨b,hb,h.2 ⟨hn.pos,hn.most,hn.start,hn.acc,hn.low,hn.arcs⟩⟩
 obtain ⟨_,z,rfl⟩:=z;unfold M.f1;refine Is.bnq z (Is.cf rfl ?_);refine Is.bnq (x:=(n.Arcs.filter fun a=>!a.Epsilon).map (·.Set)) ?_ ?_
 ·refine Is.eq ?_;refine Is.upto (fun i (d:List (aV 4)×Int)=>d.2=(i:Int)∧d.1=((n.Arcs.take i).filter fun a=>!a.Epsilon).map (·.Set)) n.Arcs.length (by omega) ⟨rfl,rfl⟩ ?_ ?_
  ·rintro i ⟨a,_⟩ D ⟨rfl,V⟩;obtain rfl:a=_:=V;have hl:(((n.Arcs.take i).filter fun a=>!a.Epsilon).map (·.Set)).length≤i:=by
    rw [Jg];refine Nat.le_trans (List.length_filter_le _ _) ?_;rw [Jo]; omega
   refine Is.dt (by omega) (Is.bnd (P:=fun l=>l=((n.Arcs.take (i+1)).filter fun a=>!a.Epsilon).map (·.Set)) ?_ fun l hl=>Is.bnq (aK (by omega)) (Is.next ⟨rfl,hl⟩));refine Is.bnq (be D) ?_;rw [List.take_add_one,IQ D,List.filter_append,Jh];refine Is.cnd (fun h=>?_) (fun h=>?_)
   ·refine Is.bnq (bO (by simp only [IT]; omega)) (Is.pure ?_);simp only [Option.toList_some,List.filter_cons,h,if_true,List.filter_nil,List.map_cons,List.map_nil]
   ·refine Is.pure ?_;simp only [Option.toList_some,List.filter_cons,h,Bool.false_eq_true,if_false,List.filter_nil,List.map_nil,List.append_nil]
  ·rintro ⟨a,_⟩ ⟨rfl,V⟩;obtain rfl:a=_:=V;refine Is.df (by omega) (Is.stop ?_);rw [IV]
 have b2:((n.Arcs.filter fun a=>!a.Epsilon).map (·.Set)).length≤1000000:=by
  rw [Jg];exact Nat.le_trans (List.length_filter_le _ _) hlen
 have hw:∀v∈(n.Arcs.filter fun a=>!a.Epsilon).map (·.Set),W4 v:=by
  intro v z;obtain ⟨a,ha,rfl⟩:=Jt.1 z;exact hn.sets a (JB.1 ha).1
 have a9:∀a∈n.Arcs,a.Epsilon=false→(!a.Epsilon)=true:=fun a _ he=>by rw [he]; rfl
 refine Is.bnq (rK hw b2) ?_;refine Is.bnd (P:=fX (dD ((n.Arcs.filter fun a=>!a.Epsilon).map (·.Set))) 256) ?_ fun fb N=>?_
 ·unfold M.l7;exact Is.bnd (oR rfl (fun _ _=>rfl)) fun _ h=>Is.pure h
 have c1:=N.len;refine Is.bnq (gb hn (by simp)) ?_;refine Is.bs (P:=fun _=>tR n) (Q:=fun r:T_DFA×Int=>(r.2=11∧FF n)∨(r.2=0∧tR n)) ?_ fun _ h=>Is.pure (.inr ⟨rfl,h⟩)
 refine Is.while (fun d:List (List Int)×List (List Int)×List Int×Int=>∃i:Nat,d.2.2.2=(i:Int)∧i≤d.1.length∧d.2.1.length=i∧d.2.2.1.length=i∧lm n d.1∧d.1.length≤500∧
  ∀S∈d.1.take i,∀(c b:Nat),c<fb.length→fb[c]?=some (b:Int)→fC n S b≠[]→fC n S b∈d.1) (fun d=>501 - d.2.2.2.toNat)
  ⟨0,rfl,by simp,rfl,rfl,⟨by simp,fun S I=>by rw [IY.1 I]; exact .start,by simp⟩,by simp,by simp⟩ (by show 501 - _≤_; omega) ?_
 rintro ⟨sets,nx,ac,_⟩ ⟨i,rfl,D,b0,b7,hs,h5,G⟩;simp only at D b0 b7 hs h5 G
 by_cases hil:i<sets.length
 case neg=>
  have:i=sets.length:=by omega
  subst this;rw [IV] at G;exact Is.df (by omega) (Is.stop ⟨sets,h5,zd a9 N hs G⟩)
 refine Is.dt (by omega) ?_;have H:=hs.rs _ (IU hil);generalize I:sets[i]=S at H
 -- the row
 refine Is.bs (P:=fun d:List (List Int)×List (List Int)×List Int=>d.2.1.length=i+1∧d.2.2.length=i+1∧lm n d.1∧d.1.length≤500∧i+1≤d.1.length∧(∀T∈sets,T∈d.1)∧(∀T∈d.1.take (i+1),T∈sets.take i∨T=S)∧
  (∀(c b:Nat),c<fb.length→fb[c]?=some (b:Int)→fC n S b≠[]→fC n S b∈d.1)) ?_ ?_
 ·refine Is.bnd (P:=fun d:List (List Int)×List Int=>d.2.length=fb.length∧lm n d.1∧(∃m,d.1=sets++m)∧d.1.length≤sets.length+256∧(∀(c b:Nat),c<fb.length→fb[c]?=some (b:Int)→fC n S b≠[]→fC n S b∈d.1)) ?_ ?_
  ·refine Is.upto (fun c (d:List (List Int)×List Int×Int)=>d.2.2=(c:Int)∧d.2.1.length=c∧lm n d.1∧(∃m,d.1=sets++m)∧d.1.length≤sets.length+c∧(∀(p b:Nat),p<c→fb[p]?=some (b:Int)→fC n S b≠[]→fC n S b∈d.1)) fb.length (by omega)
    ⟨rfl,rfl,hs,⟨[],by simp⟩,by simp,fun p b u=>by omega⟩ ?_ ?_
   ·rintro c ⟨e,row,_⟩ u ⟨rfl,t,o,⟨m,f⟩,s,q⟩;simp only at t o f s q;refine Is.dt (by omega) ?_;obtain ⟨b,X,R⟩:=N.byte u;have F:bC e (i:Int)=some S:=by
     have B:i<e.length:=by rw [f,IW]; omega
     rw [be B];subst f;rw [List.getElem_append_left hil,I]
    have b4:fb[c]?=some (b:Int):=by
     rw [be u] at R;rw [IQ u,Option.some.inj R]
    have W:∀w:List (List Int),(∀T∈e,T∈w)→(fC n S b≠[]→fC n S b∈w)→∀(p y:Nat),p<c+1→fb[p]?=some (y:Int)→fC n S y≠[]→fC n S y∈w:=by
     intro w K J p y b6 U A;rcases Nat.lt_or_eq_of_le (Nat.le_of_lt_succ b6) with hlt|rfl
     ·exact K _ (q p y hlt U A)
     ·rw [b4] at U;obtain rfl:b=y:=by have:=Option.some.inj U; omega
      exact J A
    refine Is.bnd (P:=fun d:List (List Int)×List Int=>d.2.length=c+1∧lm n d.1∧(∃m,d.1=sets++m)∧d.1.length≤sets.length+(c+1)∧(∀(p b:Nat),p<c+1→fb[p]?=some (b:Int)→fC n S b≠[]→fC n S b∈d.1)) ?_ fun d h=>Is.bnq (aK (by omega)) (Is.next ⟨rfl,h⟩)
    have Y:=(xf hn H).2;have c0:=(rj hn (fC n S b) ⟨_,rfl⟩).2;refine Is.bnq F (Is.bnq R (Is.bnq (vE hn (by omega) X) (Is.bnq (gb hn (by omega)) ?_)));rw [BY hn]
    by_cases hz:fC n S b=[]
    ·rw [hz];refine Is.ct rfl (Is.bnq (bO (by simp only [IT]; omega)) (Is.pure ⟨by simp only [IW,IT]; omega,o,⟨m,f⟩,by show e.length≤_; omega,W e (fun _ h=>h) fun h=>absurd hz h⟩))
    ·refine Is.cf (cq (by have:=List.length_pos_iff.2 hz; omega)) ?_;have hr:RS n (fC n S b):=.step H X hz;refine Is.bnd (BN (l:=e) (S:=fC n S b) (by omega) (fun T g=>by have:=(xf hn (o.rs T g)).2; omega)) fun k L=>?_
     refine Is.bnd (P:=fun d:List (List Int)×Int=>lm n d.1∧(∃m,d.1=sets++m)∧d.1.length≤sets.length+(c+1)∧(∀T∈e,T∈d.1)∧fC n S b∈d.1) ?_ ?_
     ·rcases L with ⟨L,b1⟩|⟨j,rfl,hj⟩
      ·refine Is.dt L (Is.bnq (bO (by simp only [IT]; omega)) (Is.pure ⟨o.add b1 hr,⟨m++[fC n S b],by rw [f,Ja]⟩,by show (e++[fC n S b]).length≤_; simp only [IW,IT]; omega,fun T g=>List.mem_append_left _ g,by show fC n S b∈e++[fC n S b]; simp⟩))
      ·exact Is.df (by omega) (Is.pure ⟨o,⟨m,f⟩,by show e.length≤_; omega,fun _ h=>h,List.mem_of_getElem? hj⟩)
     ·rintro ⟨w,k2⟩ ⟨K,J,q3,q4,q5⟩;exact Is.bnq (bO (by simp only [IT]; omega)) (Is.pure ⟨by simp only [IW,IT]; omega,K,J,q3,W w q4 fun _=>q5⟩)
   ·rintro ⟨e,row,_⟩ ⟨rfl,t,o,f,s,q⟩;exact Is.df (by omega) (Is.stop ⟨t,o,f,by show e.length≤_; simp only at s; omega,q⟩)
  ·rintro ⟨e,row⟩ ⟨t,o,⟨m,f⟩,s,q⟩;simp only at t o f s q;refine Is.dcd (fun h=>Is.stop (.inl ⟨rfl,e,o.nodup,by omega,o.rs⟩)) (fun h=>?_);have B:i<e.length:=by rw [f,IW]; omega
   have F:e[i]=S:=by
    subst f;rw [List.getElem_append_left hil,I]
   refine Is.bnq (be B) ?_;rw [F];have Y:=xf hn H;refine Is.bnq (bO (by simp only [IT]; omega)) (Is.bnq (zJ Y.1 (by omega)) (Is.bnq (bO (by simp only [IT]; omega)) (Is.next ⟨by simp only [IW,IT]; omega,by simp only [IW,IT]; omega,o,by show e.length≤_; omega,by show i+1≤e.length; omega,fun T g=>by show T∈e; rw [f]; exact List.mem_append_left _ g,fun T g=>?_,q⟩)));have g:T∈e.take (i+1):=g;rcases (fH B).1 g with g|g
   ·left;rw [f,List.take_append_of_le_length (by omega)] at g;exact g
   ·right; rw [g,F]
 ·rintro ⟨e,b8,c2⟩ ⟨t,o,f,s,q,g6,g7,g8⟩;simp only at t o f s q g6 g7 g8;refine Is.bnq (aK (by omega)) (Is.next ⟨⟨i+1,rfl,q,t,o,f,s,fun T g c b u hb A=>?_⟩,by show 501 - ((i+1:Nat):Int).toNat<501 - ((i:Nat):Int).toNat; omega⟩);rcases g7 T g with h|rfl
  ·exact g6 _ (G T h c b u hb A)
  ·exact g8 c b u hb A
end
def bM (d:T_DFA) (s:Int) (b:Nat):Int:=if s<0 then -1 else (d.Next.getD s.toNat []).getD (d.Class.getD b 0).toNat 0
def eK (d:T_DFA) (s:Int):Int:=if s<0 then -1 else d.Accept.getD s.toNat 0
def qX (d:T_DFA) (s:Int):Prop:=-1≤s∧s<(d.Next.length:Int)
section
variable {d:T_DFA} (h:Ok d)
include h
theorem oF {b:Nat} (hb:b<256):0≤d.Class.getD b 0∧d.Class.getD b 0<(cols d:Int):=h.inc _ (cW (by rw [h.cls]; exact hb))
theorem eL {s:Nat} (hs:s<d.Next.length):(d.Next.getD s []).length=cols d∧∀t∈d.Next.getD s [],qX d t:=h.row _ (cW hs)
theorem cT {s:Int} (hs:qX d s) {b:Nat} (hb:b<256):qX d (bM d s b):=by
 unfold bM;have hp:=h.pos;split
 ·exact ⟨by omega,by omega⟩
 ·have h1:=eL h (s:=s.toNat) (by have:=hs.2; omega);have h2:=oF h hb;exact h1.2 _ (cW (by omega))
theorem mZ {s:Int} (hs:qX d s) {b:Nat} (hb:b<256):M.j1 d s (b:Int)=some (bM d s b):=by
 refine Is.eq ?_;unfold M.j1;have f:=hs.2;refine Is.dcd (fun a=>Is.pure (by unfold bM; rw [if_pos a])) fun a=>?_
 have e:=eL h (s:=s.toNat) (by omega);have c:=oF h hb;refine Is.bnq (eh (d:=[]) (by omega) (by omega)) (Is.bnq (eh (d:=0) (by omega) (by rw [h.cls]; omega)) (Is.bnq (eh (d:=0) (by simpa using c.1) ?_) (Is.pure ?_)))
 ·rw [e.1]; simpa using c.2
 ·unfold bM; rw [if_neg a]; rfl
theorem nZ {s:Int} (hs:qX d s):M.i5 d s=some (eK d s):=by
 refine Is.eq ?_;unfold M.i5;have h0:=hs.2;have ha:=h.acc;refine Is.dcd (fun h1=>Is.pure (by unfold eK; rw [if_pos h1])) fun h1=>?_
 exact Is.bnq (eh (d:=0) (by omega) (by omega)) (Is.pure (by unfold eK; rw [if_neg h1]))
def walkN (d:T_DFA) (s:Int) (w:Str):Int:=w.foldl (fun q c=>bM d q c.toNat) s
theorem fY:qX d 0:=⟨by omega,by have:=h.pos; omega⟩
theorem fD {s:Int} (hs:qX d s) (w:Str):qX d (walkN d s w):=by
 unfold walkN;induction w generalizing s with
 | nil=>exact hs
 | cons c w ih=>exact ih (cT h hs c.toNat_lt)
theorem DR {w:Str} (c:w.length≤9223372036854775807):M.n4 d w=some (eK d (walkN d 0 w)):=by
 refine Is.eq ?_;unfold M.n4;refine Is.bnd (P:=fun q=>q=walkN d 0 w) (Is.upto (fun i b=>b=(walkN d 0 (w.take i),(i:Int))) w.length c rfl ?_ ?_) ?_
 ·rintro i _ a rfl;refine Is.dt (by omega) (Is.bnq (dR a) (Is.bnq (mZ h (fD h (fY h) _) (UInt8.toNat_lt _)) (Is.bnq (aK (by omega)) (Is.next ?_))));unfold walkN;rw [Jb a,List.foldl_append];rfl
 ·rintro _ rfl;exact Is.df (by simp) (Is.stop (by simp))
 ·rintro _ rfl;exact Is.bnq (nZ h (fD h (fY h) _)) (Is.pure rfl)
end
end Go.Proofs.YtggpjcdhflcfmaaGreatDoor
