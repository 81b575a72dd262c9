/- Part 11. -/
import Derived.Test.YtggpjcdhflcfmaaGreatDoorKLexspecSamples10
set_option linter.unusedVariables false
set_option linter.unusedSimpArgs false
set_option maxRecDepth 100000
namespace Go.Proofs.YtggpjcdhflcfmaaGreatDoor
open Go.Lx Go.RowKit
set_option maxRecDepth 100000 in
theorem jm {c:T_LexSpec} {r:Bool} (a:M.f4 c=some r) {s:Hp} {t:World} (hi:da s t) {a9:List Value} (e2:dg.rel s a9 c) (n:kg 0 (M.k3.map ap) s) :
 aU Tryz.prog 4 #[Value.agg a9.toArray] t (fun v w'=>∃g',(cG aX false g' v r)∧dx s t g' w'):=by
 unfold M.f4 at a;obtain ⟨h4,_,_,_,rfl,⟨g,rfl,m⟩,rfl,rfl,rfl⟩:=e2;have b:=Sep.start hi;refine ax Tryz.func4 Z Tryz.ntmps4 Z ?_;have d:=bQ;refine SR<|Ob [g,Bo c.Layout,I6 c.Misspelling,I6 c.Unclosed] b Z Z fun z g3 b=>Oa (Bo false) Z<|aa<|aw<|SR<|On [g,Bo c.Layout,I6 c.Misspelling,I6 c.Unclosed] lE Z b 0 Z Z Z ?_;obtain ⟨h0,d3,a⟩:=ab a;refine C [Ag [g,Bo c.Layout,I6 c.Misspelling,I6 c.Unclosed]] GF Z (qC d3 b.imm (⟨[g],[Bo c.Layout],[I6 c.Misspelling],[I6 c.Unclosed],Z,⟨_,Z,m⟩,Z,Z,Z⟩)) Z ?_;rintro v2 f9 ⟨h2,⟨_,rfl,rfl⟩,a5⟩;have Y:=a5.le b.imm;replace b:=b.call a5;replace n:=n.mono Y;replace m:=m.mono Y;refine O (cJ Z) Z<|aa ?_;rcases aq a with ⟨T,a⟩|⟨T,a⟩
 ·refine al Z T<|SR ?_;obtain ⟨N,d2,a⟩:=ab a;refine C [] FP Z (gO d2 b.imm n) Z ?_;rintro v3 f6 ⟨f0,⟨_,rfl,rfl⟩,e1⟩;replace b:=b.call e1;refine Oa (Bo N) Z<|aa<|aC ?_;obtain rfl:=si a;exact aB d ⟨_,bC Tryz.results4 (aI (v:=Bo N) Z),f0,⟨[Bo N],Z,Z⟩,b.ext⟩
 refine ai Z T<|ao<|SR<|On [g,Bo c.Layout,I6 c.Misspelling,I6 c.Unclosed] lE Z b 0 Z Z Z ?_;obtain ⟨G,c9,a⟩:=ab a;refine C [Ag [g,Bo c.Layout,I6 c.Misspelling,I6 c.Unclosed]] Et Z (gN c9 b.imm (⟨[g],[Bo c.Layout],[I6 c.Misspelling],[I6 c.Unclosed],Z,⟨_,Z,m⟩,Z,Z,Z⟩) n) Z ?_;rintro v4 f4 ⟨a8,⟨v5,v6,rfl,⟨h3,rfl,⟨h7,h6,h5,rfl,⟨f,rfl,l⟩,⟨e,rfl,k⟩,⟨v9,rfl,j⟩⟩⟩,⟨_,rfl,rfl⟩⟩,a4⟩;have X:=a4.le b.imm;replace b:=b.call a4;replace n:=n.mono X;replace m:=m.mono X;refine Om (Value.tuple #[Ag [f,e,v9],I6 G.2]) Z<|Ox (Ag [f,e,v9]) Z Z Z<|Ox (I6 G.2) Z Z Z<|aH bV b (zs:=[Z0,Z0,Z0]) Z Z fun y f3 b=>cx bV b 0 [f,e,v9] Z Z Z (ae l.oc (ae k.oc (ae j.oc ay))) Z Z fun f2 b=>Oa (I6 G.2) Z<|aa<|aw<|SR<|Om (I6 G.2) Z<|O (dl Z Z) Z<|aa ?_;rcases aq a with ⟨Q,a⟩|⟨Q,a⟩
 ·refine al Z Q<|SR ?_;obtain ⟨K,c8,a⟩:=ab a;refine C [] FP Z (gO c8 b.imm n) Z ?_;rintro g9 f1 ⟨e9,⟨_,rfl,rfl⟩,e0⟩;replace b:=b.call e0;refine Oa (Bo K) Z<|aa<|aC ?_;obtain rfl:=si a;exact aB d ⟨_,bC Tryz.results4 (aI (v:=Bo K) Z),e9,⟨[Bo K],Z,Z⟩,b.ext⟩
 refine ai Z Q<|ao<|aw ?_;obtain ⟨b3,c2,e4⟩:=ab a;refine az (fun E w=>∃u,Ev E [1,3,26] [P0 z,P0 y,Bo b3]∧E.ds=[]∧be a8 u∧Sp s t u w [bx y 37 ([f,e,v9]),bx z 24 ([g,Bo c.Layout,I6 c.Misspelling,I6 c.Unclosed])]) ?_ ?_
 ·have a:=c2;have x:=be.refl a8;refine ah<|On [f,e,v9] bV Z b 0 Z Z Z ?_;obtain ⟨b7,c7,a⟩:=ab a;refine C [Ag [f,e,v9]] Ep Z (kv c7 b.imm (⟨[f],[e],[v9],Z,⟨_,Z,l⟩,⟨_,Z,k⟩,⟨_,Z,j⟩⟩)) Z ?_;rintro g8 g2 ⟨e6,⟨_,rfl,rfl⟩,a1⟩;have H:=a1.le b.imm;replace b:=b.call a1;replace l:=l.mono H;replace k:=k.mono H;replace j:=j.mono H;replace x:=x.trans H;refine O (cJ Z) Z<|Om (Bo (!b7)) Z ?_;rcases aq a with ⟨q,a⟩|⟨q,a⟩
  ·refine OJ q Z<|OJ q Z<|OJ q Z<|O (aF (v:=Bo true) Z q Z) Z<|aa ?_;obtain rfl:=si a;exact ⟨e6,Z,d,x,b⟩
  refine OI q Z (cn (cs:=[f,e,v9]) bV Z Z (b.cells (i:=0) Z)) ?_;obtain ⟨b6,c6,a⟩:=ab a;refine CI q Z Z [Ag [f,e,v9],ap []] Bz Z (gr c6 b.imm (⟨[f],[e],[v9],Z,⟨_,Z,l⟩,⟨_,Z,k⟩,⟨_,Z,j⟩⟩)) Z ?_;rintro g7 g1 ⟨e5,⟨_,rfl,rfl⟩,a0⟩;have d4:=a0.le b.imm;replace b:=b.call a0;replace x:=x.trans d4;refine OI q Z (dl Z Z)<|O (av (v:=Bo (b6 != (-1))) Z q Z) Z<|aa ?_;obtain rfl:=si a;exact ⟨e5,Z,d,x,b⟩
 clear b;rintro E w ⟨u,D,d,B,b⟩;have a:=e4;obtain ⟨E,rfl⟩:=fw D;replace m:=m.mono B;replace l:=l.mono B;replace k:=k.mono B;replace j:=j.mono B;replace n:=n.mono B;rcases aq a with ⟨P,a⟩|⟨P,a⟩
 ·refine al Z P<|SR<|Oa (Bo false) Z<|aa<|aC ?_;obtain rfl:=si a;exact aB d ⟨_,bC Tryz.results4 (aI (v:=Bo false) Z),u,⟨[Bo false],Z,Z⟩,b.ext⟩
 refine ai Z P<|ao ?_;obtain ⟨o3,c1,a7⟩:=cB a;refine az (fun E w=>∃u9:Unit,o3=.next u9∧∃W,E.ds=[]∧be u W∧Sp s t W w []) ?_ ?_
 ·have a:=c1;refine SR<|Oa (I6 0) Z<|aa<|am<|aP (fun (p:Int) E w=>∃J,Ev E [1,3,5] [P0 z,P0 y,I6 p]∧E.ds=[]∧be u J∧Sp s t J w [bx y 37 ([f,e,v9]),bx z 24 ([g,Bo c.Layout,I6 c.Misspelling,I6 c.Unclosed])]) a ⟨u,Z,d,(be.refl _),b⟩ ?_;rintro p o2 E w a ⟨J,D,d,o,b⟩;obtain ⟨E,rfl⟩:=fw D;replace m:=m.mono o;replace l:=l.mono o;replace k:=k.mono o;replace j:=j.mono o;refine aw<|SR<|Om (I6 p) Z<|Of HE ep Z<|Ol g ep b 1 0 Z Z Z Z ?_;obtain ⟨a6,h8,c3⟩:=m.shape;refine O (aL (v:=g) HB Z c3) Z<|O (bp Z Z) Z<|aa ?_;rcases aq a with ⟨S,a⟩|⟨S,a⟩
  ·refine al Z S<|ao<|aw<|am<|SR<|On [g,Bo c.Layout,I6 c.Misspelling,I6 c.Unclosed] lE Z b 1 Z Z Z<|Om (I6 p) Z ?_;obtain ⟨A,c5,a⟩:=ab a;refine C [Ag [g,Bo c.Layout,I6 c.Misspelling,I6 c.Unclosed],I6 p] EF Z (gY c5 b.imm (⟨[g],[Bo c.Layout],[I6 c.Misspelling],[I6 c.Unclosed],Z,⟨_,Z,m⟩,Z,Z,Z⟩)) Z ?_;rintro g5 f8 ⟨V,⟨_,rfl,rfl⟩,a3⟩;have I:=a3.le b.imm;replace b:=b.call a3;replace l:=l.mono I;replace k:=k.mono I;replace j:=j.mono I;replace o:=o.trans I;refine Oa (ap A) Z<|aa ?_;obtain ⟨b0,c0,e3⟩:=ab a;refine az (fun E w=>∃F,Ev E [1,3,5,45] [P0 z,P0 y,I6 p,Bo b0]∧E.ds=[]∧be V F∧Sp s t F w [bx y 37 ([f,e,v9]),bx z 24 ([g,Bo c.Layout,I6 c.Misspelling,I6 c.Unclosed])]) ?_ ?_
   ·have a:=c0;have U:=be.refl V;refine ah<|Om (ap A) Z<|O (kD Z Z) Z<|Om (Bo (A == [])) Z ?_;rcases aq a with ⟨h,a⟩|⟨h,a⟩
    ·refine OJ h Z<|OJ h Z<|OJ h Z<|OJ h Z<|OJ h Z<|O (aF (v:=Bo true) Z h Z) Z<|aa ?_;obtain rfl:=si a;exact ⟨V,Z,d,(be.refl _),b⟩
    refine OI h Z (cn (cs:=[f,e,v9]) bV Z Z (b.cells (i:=0) Z))<|Im h (ap A) Z ?_;obtain ⟨b8,d1,a⟩:=ab a;refine CI h Z Z [Ag [f,e,v9],ap A] Bz Z (gr d1 b.imm (⟨[f],[e],[v9],Z,⟨_,Z,l⟩,⟨_,Z,k⟩,⟨_,Z,j⟩⟩)) Z ?_;rintro v32 f7 ⟨e8,⟨_,rfl,rfl⟩,a2⟩;have d5:=a2.le b.imm;replace b:=b.call a2;replace U:=U.trans d5;refine Im h (I6 p) Z<|OI h Z (dl Z Z)<|O (av (v:=Bo (b8 != p)) Z h Z) Z<|aa ?_;obtain rfl:=si a;exact ⟨e8,Z,d,U,b⟩
   clear b;rintro E w ⟨F,D,d,d6,b⟩;have a:=e3;obtain ⟨E,rfl⟩:=fL D;replace o:=o.trans d6;rcases aq a with ⟨R,a⟩|⟨R,a⟩
   ·refine al Z R<|SR<|Oa (Bo false) Z<|aa<|aC ?_;obtain rfl:=si a;rintro rfl;have a:=a7;obtain rfl:=si a;exact aB d ⟨_,bC Tryz.results4 (aI (v:=Bo false) Z),F,⟨[Bo false],Z,Z⟩,b.ext⟩
   refine ai Z R<|ao<|ah<|Om (I6 p) Z ?_;obtain ⟨t6,c4,a⟩:=ab a;refine O (aR Z Z c4) Z<|Oa (I6 t6) Z<|aa ?_;obtain rfl:=si a;exact ⟨F,Z,d,o,b⟩
  refine ai Z S<|aO ?_;obtain rfl:=si a;rintro rfl;exact ⟨(),Z,J,d,o,(b.kp 0 Z)⟩
 clear b;rintro E w ⟨_,rfl,W,d,d7,b⟩;have a:=bW a7;replace n:=n.mono d7;refine SR ?_;obtain ⟨L,d0,a⟩:=ab a;refine C [] FP Z (gO d0 b.imm n) Z ?_;rintro v33 f5 ⟨e7,⟨_,rfl,rfl⟩,d9⟩;replace b:=b.call d9;refine Oa (Bo L) Z<|aa<|aC ?_;obtain rfl:=si a;exact aB d ⟨_,bC Tryz.results4 (aI (v:=Bo L) Z),e7,⟨[Bo L],Z,Z⟩,b.ext⟩
end Go.Proofs.YtggpjcdhflcfmaaGreatDoor
namespace Go.Lx
theorem fx {σ ρ:Type} {body:σ→Option (cN σ ρ)} (S:Nat→σ) (n:Nat) {r:ρ} (h:∀i,i<n→body (S i)=some (.next (S (i+1)))) (hn:body (S n)=some (.stop r)) :
 ∀k,n<k→bc body k (S 0)=some r:=by
 have key:∀m i k,i+m=n→m<k→bc body k (S i)=some r:=by
  intro m;induction m with
  | zero=>
   intro i k b a
   match k,a with
   | k+1,_=>
    have:i=n:=by omega
    subst this;simp only [bc,hn]
  | succ m ih=>
   intro i k b a
   match k,a with
   | k+1,a=>
    simp only [bc,h i (by omega)];exact ih (i+1) k (by omega) (by omega)
 intro k a;exact key n 0 k (by omega) a
theorem oe {σ ρ:Type} {body:σ→Option (cN σ ρ)} (I:σ→Prop) (μ:σ→Nat) (Post:ρ→Prop)
 (h:∀s,I s→(∃a,body s=some (.next a)∧I a∧μ a<μ s)∨(∃r,body s=some (.stop r)∧Post r)) :
 ∀k s,I s→μ s<k→∃r,bc body k s=some r∧Post r:=by
 intro k;induction k with
 | zero=>intro s _ c; omega
 | succ k ih=>
  intro s e c;rcases h s e with ⟨a,hb,d,f⟩|⟨r,hb,hp⟩
  ·obtain ⟨r,b,hp⟩:=ih a d (by omega);exact ⟨r,by simp only [bc,hb]; exact b,hp⟩
  ·exact ⟨r,by simp only [bc,hb],hp⟩
theorem aN {α β:Type} {o:Option α} {x:α} {k:α→Option β} {r:Option β} (h:o=some x) (hk:k x=r):o.bind k=r:=by rw [h]; exact hk
theorem cX {σ ρ:Type} {o:Option (cN σ ρ)} {x:σ} {k:σ→Option ρ} {r:Option ρ} (h:o=some (.next x)) (hk:k x=r):bn o k=r:=by rw [h]; exact hk
theorem eC {σ ρ:Type} {o:Option (cN σ ρ)} {x:ρ} {k:σ→Option ρ} (h:o=some (.stop x)):bn o k=some x:=by rw [h]; rfl
theorem gX {n:Nat} (h:n≤4611686018427387903):n<ba:=by unfold ba; omega
theorem fZ {n:Int} (h0:-9223372036854775808≤n) (h1:n≤9223372036854775807):IntKind.i64.wrap n=n:=by rw [IntKind.wrap_i64]; omega
theorem lh {n:Int} (h0:0≤n) (h1:n≤255):IntKind.u8.wrap n=n:=by simp [IntKind.wrap,IntKind.bits,IntKind.signed]; omega
theorem ki {n:Int} (h0:0≤n) (h1:n<18446744073709551616):IntKind.u64.wrap n=n:=by simp [IntKind.wrap,IntKind.bits,IntKind.signed]; omega
theorem dT {n:Int} (h0:-9223372036854775808≤n) (h1:n≤9223372036854775807):cd .i64 n=some n:=by unfold cd; rw [if_pos (fZ h0 h1)]
theorem ia {a b:Nat} (ha:a<18446744073709551616) (hb:b<18446744073709551616):bits .or .u64 (a:Int) (b:Int)=((a ||| b:Nat):Int):=by
 simp only [bits];have h:a ||| b<18446744073709551616:=Nat.or_lt_two_pow (n:=64) ha hb;have e:((BitVec.ofInt 64 (a:Int) ||| BitVec.ofInt 64 (b:Int)).toNat)=a ||| b:=by
  rw [BitVec.toNat_or,BitVec.toNat_ofInt,BitVec.toNat_ofInt];have d:((a:Int) % (2 ^ 64:Nat)).toNat=a:=by omega
  have c:((b:Int) % (2 ^ 64:Nat)).toNat=b:=by omega
  rw [d,c]
 show IntKind.u64.wrap _=_;rw [show (BitVec.ofInt (IntKind.u64.bits) (a:Int) ||| BitVec.ofInt (IntKind.u64.bits) (b:Int)).toNat=a ||| b from e];exact ki (by omega) (by omega)
theorem tl {a b:Nat} (ha:a<18446744073709551616) (hb:b<18446744073709551616):bits .and .u64 (a:Int) (b:Int)=((a &&& b:Nat):Int):=by
 simp only [bits];have h:a &&& b<18446744073709551616:=Nat.lt_of_le_of_lt Nat.and_le_left ha;have e:((BitVec.ofInt 64 (a:Int) &&& BitVec.ofInt 64 (b:Int)).toNat)=a &&& b:=by
  rw [BitVec.toNat_and,BitVec.toNat_ofInt,BitVec.toNat_ofInt];have d:((a:Int) % (2 ^ 64:Nat)).toNat=a:=by omega
  have c:((b:Int) % (2 ^ 64:Nat)).toNat=b:=by omega
  rw [d,c]
 show IntKind.u64.wrap _=_;rw [show (BitVec.ofInt (IntKind.u64.bits) (a:Int) &&& BitVec.ofInt (IntKind.u64.bits) (b:Int)).toNat=a &&& b from e];exact ki (by omega) (by omega)
theorem tk {a b:Nat} (ha:a<18446744073709551616) (hb:b<18446744073709551616):bits .xor .u64 (a:Int) (b:Int)=((a ^^^ b:Nat):Int):=by
 simp only [bits];have h:a ^^^ b<18446744073709551616:=Nat.xor_lt_two_pow (n:=64) ha hb;have e:((BitVec.ofInt 64 (a:Int) ^^^ BitVec.ofInt 64 (b:Int)).toNat)=a ^^^ b:=by
  rw [BitVec.toNat_xor,BitVec.toNat_ofInt,BitVec.toNat_ofInt];have d:((a:Int) % (2 ^ 64:Nat)).toNat=a:=by omega
  have c:((b:Int) % (2 ^ 64:Nat)).toNat=b:=by omega
  rw [d,c]
 show IntKind.u64.wrap _=_;rw [show (BitVec.ofInt (IntKind.u64.bits) (a:Int) ^^^ BitVec.ofInt (IntKind.u64.bits) (b:Int)).toNat=a ^^^ b from e];exact ki (by omega) (by omega)
theorem ye {a:Nat} (ha:a<18446744073709551616):mI .u64 (a:Int)=((18446744073709551615 ^^^ a:Nat):Int):=
 tk (a:=18446744073709551615) (b:=a) (by omega) ha
theorem pT {t:Nat} (h:t<64):uX .u64 1 (t:Int)=some ((2 ^ t:Nat):Int):=by
 unfold uX;rw [if_pos (by omega)];have e:min ((t:Int).toNat) IntKind.u64.bits=t:=by show min ((t:Int).toNat) 64=t; omega
 rw [e];have b:2 ^ t<18446744073709551616:=by
  have:2 ^ t<2 ^ 64:=Nat.pow_lt_pow_right (by omega) h;omega
 have a:(2:Int) ^ t=((2 ^ t:Nat):Int):=by rw [Int.natCast_pow]; rfl
 have key:∀p:Nat,p<18446744073709551616→IntKind.u64.wrap (p:Int)=(p:Int):=fun p hp=>ki (by omega) (by omega)
 rw [Int.one_mul,a,key _ b]
theorem Az {a t:Nat} (h:t<64):sC .u64 (a:Int) (t:Int)=some ((a >>> t:Nat):Int):=by
 unfold sC;rw [if_pos (by omega)];have e:min ((t:Int).toNat) IntKind.u64.bits=t:=by show min ((t:Int).toNat) 64=t; omega
 rw [e,Nat.shiftRight_eq_div_pow];simp
theorem wK {k:IntKind} {a b:Nat} (hb:b≠0) (hw:k.wrap ((a / b:Nat):Int)=((a / b:Nat):Int)):qo k (a:Int) (b:Int)=some ((a / b:Nat):Int):=by
 unfold qo;have e:(a:Int).tdiv (b:Int)=((a / b:Nat):Int):=by rw [Int.tdiv_eq_ediv_of_nonneg (by omega)]; rfl
 rw [e,if_pos ⟨by omega,hw⟩]
theorem mY {a b:Nat} (hb:b≠0):mZ (a:Int) (b:Int)=some ((a % b:Nat):Int):=by
 unfold mZ;rw [if_pos (by omega),Int.tmod_eq_emod_of_nonneg (by omega)];rfl
theorem dM {s:Str} {i:Nat} (h:i<s.length):jK s (i:Int)=some ((s[i]).toNat:Int):=by
 unfold jK;rw [if_pos (by omega)];simp [h]
theorem aZ {α:Type} {l:List α} {i:Nat} (h:i<l.length):bD l (i:Int)=some l[i]:=by
 unfold bD;rw [if_pos (by omega)];simp [h]
theorem dk {α:Type} {l:List α} {i:Nat} {x:α} (h:i<l.length):dE l (i:Int) x=some (l.set i x):=by
 unfold dE;rw [if_pos ⟨by omega,by simpa using h⟩];simp
theorem bO {α:Type} {B:Nat} {l m:List α} (h:(l.length+m.length)*B≤140737488355328):cy B l m=some (l++m):=by unfold cy; rw [if_pos h]
theorem eH {α:Type} {B n:Nat} {z:α} (h:n*B≤140737488355328):pt B (n:Int) z=some (List.replicate n z):=by
 unfold pt;rw [if_pos ⟨by omega,by rw [←Int.natCast_mul]; omega⟩,ID]
theorem xR {σ ρ:Type} {body:σ→Option (cN σ ρ)} (J:Nat→σ→Prop) (n:Nat) (Post:ρ→Prop)
 (e:∀i s,i<n→J i s→(∃a,body s=some (.next a)∧J (i+1) a)∨(∃r,body s=some (.stop r)∧Post r))
 (last:∀s,J n s→∃r,body s=some (.stop r)∧Post r) (hn:n≤9223372036854775807) {c:σ} (j:J 0 c):∃r,bc body ba c=some r∧Post r:=by
 have key:∀m i s k,i+m=n→m<k→J i s→∃r,bc body k s=some r∧Post r:=by
  intro m;induction m with
  | zero=>
   intro i s k g b d
   match k,b with
   | k+1,_=>
    have:i=n:=by omega
    subst this;obtain ⟨r,hb,hp⟩:=last s d;exact ⟨r,by simp only [bc,hb],hp⟩
  | succ m ih=>
   intro i s k g b d
   match k,b with
   | k+1,b=>
    rcases e i s (by omega) d with ⟨a,hb,h⟩|⟨r,hb,hp⟩
    ·obtain ⟨r,f,hp⟩:=ih (i+1) a k (by omega) (by omega) h;exact ⟨r,by simp only [bc,hb]; exact f,hp⟩
    ·exact ⟨r,by simp only [bc,hb],hp⟩
 exact key n 0 c ba (by omega) (by unfold ba; omega) j
theorem vH {σ ρ:Type} {body:σ→Option (cN σ ρ)} (I:σ→Prop) (μ:σ→Nat) (Post:ρ→Prop)
 (h:∀s,I s→(∃s',body s=some (.next s')∧I s'∧μ s'<μ s)∨(∃r,body s=some (.stop r)∧Post r))
 {s0:σ} (h0:I s0) (hm:μ s0≤9223372036854775807):∃r,bc body ba s0=some r∧Post r:=
 oe I μ Post h ba s0 h0 (by unfold ba; omega)
theorem aK {i:Nat} (h:i<9223372036854775807):cd .i64 ((i:Int)+1)=some ((i+1:Nat):Int):=by rw [dT (by omega) (by omega)]; rfl
theorem ed {p:Prop} [Decidable p] (h:p):decide p=true:=decide_eq_true h
theorem eI {p:Prop} [Decidable p] (h:¬ p):decide p=false:=decide_eq_false h
theorem cv {a b:Int} (h:a≠b):(a == b)=false:=by simpa using h
theorem qR {a b:Int} (h:a=b):(a == b)=true:=by simpa using h
theorem mf {a b:Int} (h:a≠b):(a != b)=true:=by simpa using h
theorem su {a b:Int} (h:a=b):(a != b)=false:=by simpa using h
theorem dX {a b:Int} (h:(a != b)=false):a=b:=by simpa using h
theorem kJ {a b:Int} (h:(a != b)=true):a≠b:=by simpa using h
theorem nt {a b:Int} (h:(a == b)=false):a≠b:=by simpa using h
theorem dG {a b:Int} (h:(a == b)=true):a=b:=by simpa using h
theorem mQ {n:Nat} (h:n<256):IntKind.u8.wrap (n:Int)=n:=lh (by omega) (by omega)
theorem dZ {α:Type} {l:List α} {i:Int} {d:α} (h0:0≤i) (h:i<l.length):bD l i=some (l.getD i.toNat d):=by
 obtain ⟨n,rfl⟩:=IE h0;have hn:n<l.length:=by omega
 show bD l (n:Int)=_;rw [aZ hn];simp [Ic,hn]
theorem iP {α:Type} {l:List α} {i:Int} {x:α} (h0:0≤i) (h:i<l.length):dE l i x=some (l.set i.toNat x):=by
 obtain ⟨n,rfl⟩:=IE h0;exact dk (by simpa using h)
theorem cM {α:Type} {l:List α} {i:Nat} {d:α} (h:i<l.length):l.getD i d∈l:=by
 simp [Ic,h]
def Is {α:Type} (o:Option α) (P:α→Prop):Prop:=∃r,o=some r∧P r
def SP {σ ρ:Type} (P:σ→Prop) (Q:ρ→Prop):cN σ ρ→Prop
 | .next s=>P s
 | .stop r=>Q r
section
variable {α β σ ρ:Type} {P:α→Prop} {Q:β→Prop}
theorem Is.pure {x:α} (h:P x):Is (some x) P:=⟨x,rfl,h⟩
theorem Is.mono {o:Option α} {P':α→Prop} (h:Is o P) (k:∀x,P x→P' x):Is o P':=h.elim fun r hr=>⟨r,hr.1,k r hr.2⟩
theorem Is.eq {o:Option α} {x:α} (h:Is o (·=x)):o=some x:=by obtain ⟨r,h1,rfl⟩:=h; exact h1
theorem Is.of {o:Option α} {x:α} (h:o=some x) (k:P x):Is o P:=⟨x,h,k⟩
theorem Is.bnd {o:Option α} {f:α→Option β} (h:Is o P) (k:∀x,P x→Is (f x) Q):Is (o.bind f) Q:=by
 obtain ⟨r,rfl,hp⟩:=h;exact k r hp
theorem Is.bnq {o:Option α} {f:α→Option β} {x:α} (h:o=some x) (k:Is (f x) Q):Is (o.bind f) Q:=by subst h; exact k
theorem Is.bs {P:σ→Prop} {Q:ρ→Prop} {o:Option (cN σ ρ)} {f:σ→Option ρ} (h:Is o (SP P Q)) (k:∀x,P x→Is (f x) Q):Is (bn o f) Q:=by
 obtain ⟨r,rfl,hp⟩:=h;cases r with
 | next s=>exact k s hp
 | stop r=>exact ⟨r,rfl,hp⟩
theorem Is.cnd {b:Bool} {x y:Option β} (ht:b=true→Is x Q) (hf:b=false→Is y Q):Is (bif b then x else y) Q:=by
 cases b
 ·exact hf rfl
 ·exact ht rfl
theorem Is.ct {b:Bool} {x y:Option β} (h:b=true) (k:Is x Q):Is (bif b then x else y) Q:=by subst h; exact k
theorem Is.cf {b:Bool} {x y:Option β} (h:b=false) (k:Is y Q):Is (bif b then x else y) Q:=by subst h; exact k
theorem Is.dcd {p:Prop} [Decidable p] {x y:Option β} (ht:p→Is x Q) (hf:¬ p→Is y Q):Is (bif decide p then x else y) Q:=
 Is.cnd (fun h=>ht (of_decide_eq_true h)) (fun h=>hf (of_decide_eq_false h))
theorem Is.dt {p:Prop} [Decidable p] {x y:Option β} (h:p) (k:Is x Q):Is (bif decide p then x else y) Q:=Is.ct (decide_eq_true h) k
theorem Is.df {p:Prop} [Decidable p] {x y:Option β} (h:¬ p) (k:Is y Q):Is (bif decide p then x else y) Q:=Is.cf (decide_eq_false h) k
theorem Is.upto {body:σ→Option (cN σ ρ)} {Q:ρ→Prop} (J:Nat→σ→Prop) (n:Nat) (hn:n≤9223372036854775807) {b:σ} (e:J 0 b)
 (c:∀i s,i<n→J i s→Is (body s) (SP (J (i+1)) Q)) (last:∀s,J n s→Is (body s) (SP (fun _=>False) Q)):Is (bc body ba b) Q:=
 xR J n Q (fun i s d a=>by
  obtain ⟨r,hb,hp⟩:=c i s d a;cases r with
  | next s'=>exact .inl ⟨s',hb,hp⟩
  | stop r=>exact .inr ⟨r,hb,hp⟩) (fun s a=>by
  obtain ⟨r,hb,hp⟩:=last s a;cases r with
  | next s'=>exact hp.elim
  | stop r=>exact ⟨r,hb,hp⟩) hn e
theorem Is.while {body:σ→Option (cN σ ρ)} {Q:ρ→Prop} (I:σ→Prop) (μ:σ→Nat) {s0:σ} (h0:I s0) (hm:μ s0≤9223372036854775807)
 (step:∀s,I s→Is (body s) (SP (fun s'=>I s'∧μ s'<μ s) Q)):Is (bc body ba s0) Q:=
 vH I μ Q (fun s hI=>by
  obtain ⟨r,hb,hp⟩:=step s hI;cases r with
  | next s'=>exact .inl ⟨s',hb,hp⟩
  | stop r=>exact .inr ⟨r,hb,hp⟩) h0 hm
theorem Is.next {Q:ρ→Prop} {P:σ→Prop} {s:σ} (h:P s):Is (some (cN.next s:cN σ ρ)) (SP P Q):=⟨_,rfl,h⟩
theorem Is.stop {Q:ρ→Prop} {P:σ→Prop} {r:ρ} (h:Q r):Is (some (cN.stop r:cN σ ρ)) (SP P Q):=⟨_,rfl,h⟩
end
section
variable {K V:Type} [BEq K] [LawfulBEq K]
theorem od {m:List (K×V)} {k:K} {v:V}:bY (dL m k v) k=some v:=by
 induction m with
 | nil=>simp [dL,bY]
 | cons p m ih=>
  unfold dL;cases hp:p.1 == k
  ·unfold bY at ih ⊢;rw [cond_false,List.find?_cons,hp];exact ih
  ·simp [bY]
theorem pu {m:List (K×V)} {k q:K} {v:V} (h:q≠k):bY (dL m k v) q=bY m q:=by
 have hk:(k == q)=false:=by simpa using fun e=>h e.symm
 induction m with
 | nil=>simp [dL,bY,hk]
 | cons p m ih=>
  unfold dL;cases hp:p.1 == k
  ·unfold bY at ih ⊢;rw [cond_false,List.find?_cons,List.find?_cons];cases p.1 == q
   ·exact ih
   ·rfl
  ·have:p.1=k:=by simpa using hp
   simp [bY,hk,this]
end
end Go.Lx
namespace Go.Proofs.YtggpjcdhflcfmaaGreatDoor
open Go.Lx
def BT:T_Regex:=⟨4,⟨[0,0,0,0],rfl⟩,[⟨3,⟨[0,576460743713488896,0,0],rfl⟩,[]⟩,⟨6,⟨[0,0,0,0],rfl⟩,[⟨3,⟨[0,576460743713488896,0,0],rfl⟩,[]⟩]⟩]⟩
def xw:T_Regex:=⟨4,⟨[0,0,0,0],rfl⟩,[⟨3,⟨[0,2199023255552,0,0],rfl⟩,[]⟩,⟨3,⟨[0,274877906944,0,0],rfl⟩,[]⟩]⟩
def DR:T_NFA:=⟨5,0,[⟨0,1,false,⟨[0,576460743713488896,0,0],rfl⟩⟩,⟨0,3,false,⟨[0,2199023255552,0,0],rfl⟩⟩,⟨1,2,false,⟨[0,576460743713488896,0,0],rfl⟩⟩,⟨2,2,false,⟨[0,576460743713488896,0,0],rfl⟩⟩,⟨3,4,false,⟨[0,274877906944,0,0],rfl⟩⟩],[-1,0,0,-1,1]⟩
def DX:T_DFA:=⟨List.replicate 97 0++List.replicate 5 1++List.replicate 1 2++List.replicate 2 1++List.replicate 1 3++List.replicate 17 1++List.replicate 133 0,[[-1,1,1,2],[-1,3,3,3],[-1,3,4,3],[-1,3,3,3],[-1,3,3,3]],[-1,0,0,0,0]⟩
def DT:T_DFA:=⟨List.replicate 97 0++List.replicate 26 1++List.replicate 133 0,[[-1,1],[-1,1]],[-1,0]⟩
theorem Hg:M.d0 [BT,xw]=some (DR,0):=by decide +kernel
theorem Hj:M.d1 DR=some (DX,0):=by decide +kernel
theorem Hd:M.f5 DX=some DT:=by decide +kernel
theorem Hm:M.b2 [BT,xw]=some (DT,0):=by
 refine Is.eq ?_;unfold M.b2;exact Is.bnq Hg (Is.cf rfl (Is.bnq Hj (Is.cf rfl (Is.bnq Hd (Is.pure rfl)))))
def DQ:T_NFA:=⟨5,0,[⟨0,1,false,⟨[0,2199023255552,0,0],rfl⟩⟩,⟨0,3,false,⟨[0,576460743713488896,0,0],rfl⟩⟩,⟨1,2,false,⟨[0,274877906944,0,0],rfl⟩⟩,⟨3,4,false,⟨[0,576460743713488896,0,0],rfl⟩⟩,⟨4,4,false,⟨[0,576460743713488896,0,0],rfl⟩⟩],[-1,-1,0,1,1]⟩
def DW:T_DFA:=⟨List.replicate 97 0++List.replicate 5 1++List.replicate 1 2++List.replicate 2 1++List.replicate 1 3++List.replicate 17 1++List.replicate 133 0,[[-1,1,1,2],[-1,3,3,3],[-1,3,4,3],[-1,3,3,3],[-1,3,3,3]],[-1,1,1,1,0]⟩
def vE:T_DFA:=⟨List.replicate 97 0++List.replicate 5 1++List.replicate 1 2++List.replicate 2 1++List.replicate 1 3++List.replicate 17 1++List.replicate 133 0,[[-1,1,1,2],[-1,1,1,1],[-1,1,3,1],[-1,1,1,1]],[-1,1,1,0]⟩
theorem Hf:M.d0 [xw,BT]=some (DQ,0):=by decide +kernel
theorem Hi:M.d1 DQ=some (DW,0):=by decide +kernel
theorem Hc:M.f5 DW=some vE:=by decide +kernel
theorem Hl:M.b2 [xw,BT]=some (vE,0):=by
 refine Is.eq ?_;unfold M.b2;exact Is.bnq Hf (Is.cf rfl (Is.bnq Hi (Is.cf rfl (Is.bnq Hc (Is.pure rfl)))))
def DP:T_NFA:=⟨3,0,[⟨0,1,false,⟨[0,2199023255552,0,0],rfl⟩⟩,⟨1,2,false,⟨[0,274877906944,0,0],rfl⟩⟩],[-1,-1,0]⟩
def DV:T_DFA:=⟨List.replicate 102 0++List.replicate 1 1++List.replicate 2 0++List.replicate 1 2++List.replicate 150 0,[[-1,-1,1],[-1,2,-1],[-1,-1,-1]],[-1,-1,0]⟩
def AR:T_DFA:=⟨List.replicate 102 0++List.replicate 1 1++List.replicate 2 0++List.replicate 1 2++List.replicate 150 0,[[-1,-1,1],[-1,2,-1],[-1,-1,-1]],[-1,-1,0]⟩
theorem He:M.d0 [xw]=some (DP,0):=by decide +kernel
theorem Hh:M.d1 DP=some (DV,0):=by decide +kernel
theorem Hb:M.f5 DV=some AR:=by decide +kernel
theorem GU:M.b2 [xw]=some (AR,0):=by
 refine Is.eq ?_;unfold M.b2;exact Is.bnq He (Is.cf rfl (Is.bnq Hh (Is.cf rfl (Is.bnq Hb (Is.pure rfl)))))
def Fx:bu:=bu.mk [119,111,114,100] 1 [91,97,45,122,93,43] [120] []
def Fy:bu:=bu.mk [105,102] 3 [105,102] [105,102] []
def Fj:T_LexSpec:=T_LexSpec.mk [Fx,Fy] false 0 0
def Cq:T_LexSpec:=T_LexSpec.mk [Fy,Fx] false 0 0
theorem Fs:M.f0 [105,102]=some xw:=by kernel_rfl
theorem Fw:M.g0 AR AR=some ([],false):=by kernel_rfl
theorem DO:M.d5 xw [105,102]=some true:=by
 refine Is.eq ?_;unfold M.d5;exact Is.bnq GU (Is.bnq Fs (Is.bnq GU (Is.bnq (x:=false) rfl (Is.cf rfl (Is.bnq Fw (Is.pure rfl))))))
theorem FB:M.b6 Fj=some (⟨[],[],[]⟩,1,13):=by
 refine Is.eq ?_;unfold M.b6;refine Is.bnq (x:=false) rfl (Is.cf rfl ?_);refine Is.bs (P:=fun l=>l=[BT,xw]) (Is.of (x:=.next [BT,xw]) (by kernel_rfl) rfl) ?_;rintro _ rfl;refine Is.bnq (x:=false) rfl (Is.cf rfl (Is.bnq Hm (Is.cf rfl ?_)));exact Is.bs (P:=fun _=>False) (Is.of (x:=.stop (⟨[],[],[]⟩,1,13)) (by kernel_rfl) rfl) (fun _ h=>h.elim)
theorem DZ:M.b6 Cq=some (vE,0,0):=by
 refine Is.eq ?_;unfold M.b6;refine Is.bnq (x:=false) rfl (Is.cf rfl ?_);refine Is.bs (P:=fun l=>l=[xw,BT]) (Is.of (x:=.next [xw,BT]) (by kernel_rfl) rfl) ?_;rintro _ rfl;refine Is.bnq (x:=false) rfl (Is.cf rfl (Is.bnq Hl (Is.cf rfl ?_)));refine Is.bs (P:=fun _=>True) (Is.upto (fun i a=>a=(i:Int)) 2 (by decide) rfl ?_ ?_) (fun _ _=>Is.pure rfl)
 ·rintro i _ b rfl
  match i,b with
  | 0,_=>exact Is.dt (by decide) (Is.bnq (x:=Fy) rfl (Is.bnq (x:=0) (by kernel_rfl) (Is.cf rfl (Is.bnq (x:=false) (Is.eq (Is.ct rfl (Is.bnq (x:=xw) rfl (Is.bnq DO (Is.pure rfl))))) (Is.cf rfl (Is.bnq (x:=1) rfl (Is.next rfl)))))))
  | 1,_=>exact Is.dt (by decide) (Is.bnq (x:=Fx) rfl (Is.bnq (x:=1) (by kernel_rfl) (Is.cf rfl (Is.bnq (x:=false) rfl (Is.cf rfl (Is.bnq (x:=2) rfl (Is.next rfl)))))))
 ·rintro _ rfl;exact Is.df (by decide) (Is.stop trivial)
theorem FD:M.e7 Fj=some (1,13):=by
 refine Is.eq ?_;unfold M.e7;exact Is.bnq FB (Is.pure rfl)
theorem FC:M.e7 Cq=some (0,0):=by
 refine Is.eq ?_;unfold M.e7;exact Is.bnq DZ (Is.pure rfl)
theorem FA:M.e1 Cq=some (vE,0):=by
 refine Is.eq ?_;unfold M.e1;exact Is.bnq DZ (Is.pure rfl)
theorem Fo:M.h0 vE=some true:=by kernel_rfl
theorem DA:M.g6 vE [105,102]=some 0:=by kernel_rfl
theorem Dz:M.g6 vE [105,116]=some 1:=by kernel_rfl
theorem mM:M.h7=some true:=by
 refine Is.eq ?_;unfold M.h7;refine Is.bnq (x:=Fj) rfl (Is.bnq FD (Is.bnq (x:=Cq) rfl (Is.bnq FC (Is.bnq (x:=Cq) rfl (Is.bnq FA (Is.bnq rfl (Is.bnq (x:=([32],true)) (by kernel_rfl) (Is.bnq (x:=true) (Is.eq ?_) (Is.pure rfl)))))))));exact Is.ct rfl (Is.ct rfl (Is.ct rfl (Is.ct rfl (Is.ct rfl (Is.bnq Fo (Is.ct rfl (Is.bnq DA (Is.ct rfl (Is.bnq Dz (Is.ct rfl (Is.bnq (x:=Cq) rfl (Is.bnq (x:=[120]) (by kernel_rfl) (Is.ct rfl (Is.ct rfl (Is.ct rfl (Is.bnq (x:=Cq) rfl (Is.bnq (x:=[[105,102],[119,111,114,100]]) (by kernel_rfl) (Is.pure rfl))))))))))))))))))
def FewD (d:bu) (n:Nat):Prop:=d.Name.length≤40∧d.Pattern.length≤n∧d.Sample.length≤n∧d.Close.length≤n
theorem CK {x:T_LexSpec} (hl:x.Defs.length≤9223372036854775807) (m n:Nat):Is (M.m0 x (m:Int) (n:Int)) (fun b=>b=true→x.Defs.length≤m∧∀d∈x.Defs,FewD d n):=by
 unfold M.m0;refine Is.dcd (fun _=>Is.pure (fun h=>by cases h)) (fun l=>?_);refine Is.bs (P:=fun _=>∀d∈x.Defs,FewD d n) (Is.upto (fun i c=>c=(i:Int)∧∀d∈x.Defs.take i,FewD d n) x.Defs.length hl ⟨rfl,by simp⟩ ?_ ?_) (fun _ h=>Is.pure fun _=>⟨by omega,h⟩)
 ·rintro i _ a ⟨rfl,hd⟩;refine Is.dt (by omega) (Is.bnq (aZ a) (Is.bnd (P:=fun b=>b=false→FewD x.Defs[i] n) ?_ fun b hb=>Is.cnd (fun _=>Is.stop (fun h=>by cases h)) (fun e=>Is.bnq (aK (by omega)) (Is.next ⟨rfl,fun d hm=>?_⟩))))
  ·refine Is.dcd (fun _=>Is.pure (fun h=>by cases h)) (fun k=>Is.dcd (fun _=>Is.pure (fun h=>by cases h)) (fun j=>Is.dcd (fun _=>Is.pure (fun h=>by cases h)) (fun g=>Is.pure (fun h=>?_))));have f:=of_decide_eq_false h;exact ⟨by omega,by omega,by omega,by omega⟩
  ·rw [It a,Iq] at hm;rcases hm with hm|hm
   ·exact hd d hm
   ·rw [Ip.1 hm]; exact hb e
 ·rintro _ ⟨rfl,hd⟩;rw [Ij] at hd;exact Is.df (by omega) (Is.stop hd)
theorem xv {x:T_LexSpec} (k:Int):Is (M.f9 x k) (fun s=>∀i (h:i<x.Defs.length),k=(i:Int)→s=x.Defs[i].Sample):=by
 unfold M.f9;refine Is.bnd (P:=fun b=>b=(decide (k<0) || decide ((x.Defs.length:Int)≤k))) (Is.dcd (fun h=>Is.pure (by rw [ed h]; rfl)) (fun h=>Is.pure (by rw [eI h]; rfl))) fun b hb=>?_
 refine Is.cnd (fun e=>Is.pure fun i h a=>?_) (fun e=>?_)
 ·rw [e] at hb;have:=hb.symm;simp only [Bool.or_eq_true,decide_eq_true_eq] at this;omega
 ·rw [e] at hb;have:=hb.symm;simp only [Bool.or_eq_false_iff,decide_eq_false_iff_not] at this;obtain ⟨n,rfl⟩:=IE (show 0≤k by omega);have hn:n<x.Defs.length:=by omega
  refine Is.bnq (aZ hn) (Is.pure fun i h a=>?_);obtain rfl:n=i:=by omega
  rfl
def W4 (v:aT 4):Prop:=∀x∈v.1,0≤x∧x<18446744073709551616
def wd (v:aT 4) (i:Nat):Nat:=(v.1.getD i 0).toNat
def mem (v:aT 4) (b:Nat):Bool:=(wd v (b / 64)).testBit (b % 64)
theorem iG {v:aT 4} (h:W4 v) (i:Nat):wd v i<18446744073709551616:=by
 unfold wd
 by_cases hi:i<v.1.length
 ·have:=h v.1[i] (Ii hi);simp [Ic,hi]; omega
 ·simp [Ic,II (by omega:v.1.length≤i)]
theorem jr {v:aT 4} (h:W4 v) {i:Nat} (hi:i<4):ic v (i:Int)=some (wd v i:Int):=by
 have hl:i<v.1.length:=by rw [v.2]; exact hi
 have:=h v.1[i] (Ii hl);unfold ic wd;rw [if_pos (by omega)];simp [Ic,hl];omega
def sD (v:aT 4) (i x:Nat):aT 4:=⟨v.1.set i (x:Int),by simp [v.2]⟩
theorem kj {v:aT 4} {i x:Nat} (hi:i<4):oL v (i:Int) (x:Int)=some (sD v i x):=by
 unfold oL sD;rw [if_pos ⟨by omega,by simpa using hi⟩];simp
theorem wv {v:aT 4} {i x j:Nat} (hi:i<4):wd (sD v i x) j=if i=j then x else wd v j:=by
 unfold wd sD;have hl:i<v.1.length:=by rw [v.2]; exact hi
 simp only [Ic,IQ];split
 ·rename_i h; subst h; simp [hl]
 ·rfl
theorem xg {v:aT 4} (h:W4 v) {i x:Nat} (hx:x<18446744073709551616):W4 (sD v i x):=by
 intro y hy;rcases List.mem_or_eq_of_mem_set hy with hy|rfl
 ·exact h y hy
 ·omega
theorem Ap {v u:aT 4} (hv:W4 v) (hu:W4 u) (h:∀i,i<4→wd v i=wd u i):v=u:=by
 apply Subtype.ext;apply List.ext_getElem (by rw [v.2,u.2]);intro i h1 h2;have hi:i<4:=by rw [v.2] at h1; exact h1
 have:=h i hi;have a:=hv v.1[i] (Ii h1);have b:=hu u.1[i] (Ii h2);simp [wd,Ic,h1,h2] at this;omega
theorem AA {v u:aT 4} (a:W4 v) (c:W4 u) (h:∀b,b<256→mem v b=mem u b):v=u:=by
 refine Ap a c fun i d=>Nat.eq_of_testBit_eq fun j=>?_
 by_cases hj:j<64
 ·have:=h (64*i+j) (by omega);unfold mem at this;rw [show (64*i+j) / 64=i by omega,show (64*i+j) % 64=j by omega] at this;exact this
 ·have e:∀x,x<18446744073709551616→x.testBit j=false:=fun x hx=>Nat.testBit_lt_two_pow (Nat.lt_of_lt_of_le (by omega:x<2 ^ 64) (Nat.pow_le_pow_right (by omega) (by omega)))
  rw [e _ (iG a i),e _ (iG c i)]
theorem jR:W4 (aT.zero 4):=by
 intro x hx;simp [aT.zero] at hx;omega
theorem yV (b:Nat):mem (aT.zero 4) b=false:=by
 unfold mem wd aT.zero;simp only [Ic,List.getElem?_replicate];split <;> simp
def fg (v:aT 4) (b:Nat):aT 4:=sD v (b / 64) (wd v (b / 64) ||| 2 ^ (b % 64))
theorem uP {v:aT 4} (h:W4 v) (b:Nat):W4 (fg v b):=by
 refine xg h (Nat.or_lt_two_pow (n:=64) (iG h _) ?_);exact Nat.pow_lt_pow_right (by omega) (Nat.mod_lt _ (by omega))
theorem xP {v:aT 4} {b c:Nat} (hb:b<256):mem (fg v b) c=(mem v c || c == b):=by
 unfold mem fg;rw [wv (by omega)];split
 ·rename_i h;rw [Nat.testBit_or,Nat.testBit_two_pow,h];congr 1;rw [Bool.eq_iff_iff];simp;omega
 ·rename_i h;have:(c == b)=false:=by
   rw [beq_eq_false_iff_ne]; rintro rfl; exact h rfl
  rw [this,Bool.or_false]
theorem nh {k:IntKind} {c:Nat} (hk:k.wrap ((c / 64:Nat):Int)=((c / 64:Nat):Int)):qo k (c:Int) 64=some ((c / 64:Nat):Int):=wK (b:=64) (by omega) hk
theorem vP {v:aT 4} (d:W4 v) {c:Nat} (n:c<256):M.g2 v (c:Int)=some (mem v c):=by
 have m:=nh (k:=.u8) (c:=c) (lh (by omega) (by omega));have l:=jr d (i:=c / 64) (by omega);have j:mZ (c:Int) 64=some ((c % 64:Nat):Int):=mY (b:=64) (by omega);have g:=Az (a:=wd v (c / 64)) (t:=c % 64) (by omega);have e:wd v (c / 64) >>> (c % 64)<18446744073709551616:=Nat.lt_of_le_of_lt (Nat.shiftRight_le _ _) (iG d _);have f:=tl (b:=1) e (by omega);unfold M.g2 mem;simp only [m,l,j,g,Ig];rw [show (1:Int)=((1:Nat):Int) from rfl,f];congr 1;rw [Nat.testBit,Nat.and_comm 1,Nat.and_one_is_mod];rcases Nat.mod_two_eq_zero_or_one (wd v (c / 64) >>> (c % 64)) with h|h <;> rw [h] <;> rfl
theorem tc {v:aT 4} (hv:W4 v) {c:Nat} (hc:c<256):M.h8 v (c:Int)=some (mem v c):=vP hv hc
def rv (l:List Nat):aT 4:=l.foldl fg (aT.zero 4)
theorem uz (l:List Nat):∀v,W4 v→W4 (l.foldl fg v):=by
 induction l with
 | nil=>exact fun v h=>h
 | cons b l ih=>exact fun v h=>ih _ (uP h b)
theorem sj (l:List Nat):∀v,(∀b∈l,b<256)→∀c,mem (l.foldl fg v) c=(mem v c || l.contains c):=by
 induction l with
 | nil=>intro v _ c; simp
 | cons b l ih=>
  intro v h c;rw [List.foldl_cons,ih _ (fun x hx=>h x (by simp [hx])),xP (h b (by simp)),List.contains_cons,Bool.or_assoc]
theorem lb (l:List Nat):W4 (rv l):=uz l _ jR
theorem wQ {l:List Nat} (h:∀b∈l,b<256) (c:Nat):mem (rv l) c=l.contains c:=by
 unfold rv; rw [sj l _ h,yV,Bool.false_or]
theorem xe {body:aT 4×Int→Option (cN (aT 4×Int) (aT 4))} (f:Nat→Nat) (a n:Nat) (ha:a+n≤4611686018427387903)
    (h:∀i v,i<n→W4 v→body (v,((a+i:Nat):Int))=some (.next (fg v (f i),((a+(i+1):Nat):Int)))) (hn:∀v,body (v,((a+n:Nat):Int))=some (.stop v)) :
    bc body ba (aT.zero 4,(a:Int))=some (rv ((List.range n).map f)):=by
  have c:∀i,i≤n→W4 (rv ((List.range i).map f)):=fun i _=>lb _
  have:=fx (body:=body) (fun i=>(rv ((List.range i).map f),((a+i:Nat):Int))) n (r:=rv ((List.range n).map f))
    (fun i b=>by
      have:=h i (rv ((List.range i).map f)) b (lb _);rw [this];congr 3;simp [rv,IV])
    (hn _) ba (gX (by omega))
  simpa [rv] using this
def cU (s:Str):List Nat:=s.map UInt8.toNat
theorem uH (s:Str):(List.range s.length).map (fun i=>((s[i]?).getD 0).toNat)=cU s:=by
 apply List.ext_getElem
 ·simp [cU]
 ·intro i h1 h2;have:i<s.length:=by simpa using h1
  simp [cU,this]
theorem Dv (u:UInt8):u.toNat<256:=u.toNat_lt
theorem EW {s:Str} (hf:s.length≤4611686018427387903):M.j7 s=some (rv (cU s)):=by
 unfold M.j7;refine aN (xe (fun i=>((s[i]?).getD 0).toNat) 0 s.length (by omega) (fun i v d a=>?_) (fun v=>?_)) (by rw [uH])
 ·simp only [Nat.zero_add];have hb:=Dv s[i];have p:=dM d;have o:=nh (k:=.u8) (c:=s[i].toNat) (lh (by omega) (by omega));have m:=jr a (i:=s[i].toNat / 64) (by omega);have l:mZ (s[i].toNat:Int) 64=some ((s[i].toNat % 64:Nat):Int):=mY (b:=64) (by omega);have j:=pT (t:=s[i].toNat % 64) (by omega);have e:2 ^ (s[i].toNat % 64)<18446744073709551616:=Nat.pow_lt_pow_right (n:=64) (by omega) (Nat.mod_lt _ (by omega));have h:=ia (iG a (s[i].toNat / 64)) e;have g:=kj (v:=v) (i:=s[i].toNat / 64) (x:=wd v (s[i].toNat / 64) ||| 2 ^ (s[i].toNat % 64)) (by omega);have f:cd .i64 ((i:Int)+1)=some ((i+1:Nat):Int):=by rw [dT (by omega) (by omega)]; rfl
  have hd:decide ((i:Int)<(s.length:Int))=true:=by simp; omega
  simp only [hd,cond_true,p,o,m,l,j,h,g,f,Ig,fg,d,Ie,Option.getD_some]
 ·simp only [Nat.zero_add];have hd:decide ((s.length:Int)<(s.length:Int))=false:=by simp
  simp only [hd,cond_false]
def eE (lo hi:Nat):List Nat:=(List.range (hi+1 - lo)).map (lo+·)
theorem nK {lo a:Nat} (p:lo<256) (r:a<256):M.f7 lo a=some (rv (eE lo a)):=by
 unfold M.f7;rw [fZ (n:=(lo:Int)) (by omega) (by omega)];refine aN (xe (fun i=>lo+i) lo (a+1 - lo) (by omega) (fun i v q d=>?_) (fun v=>?_)) rfl
 ·have hb:lo+i<256:=by omega
  have o:=nh (k:=.i64) (c:=lo+i) (fZ (by omega) (by omega));have m:=jr d (i:=(lo+i) / 64) (by omega);have l:mZ ((lo+i:Nat):Int) 64=some (((lo+i) % 64:Nat):Int):=mY (b:=64) (by omega);have j:=pT (t:=(lo+i) % 64) (by omega);have e:2 ^ ((lo+i) % 64)<18446744073709551616:=Nat.pow_lt_pow_right (n:=64) (by omega) (Nat.mod_lt _ (by omega));have h:=ia (iG d ((lo+i) / 64)) e;have g:=kj (v:=v) (i:=(lo+i) / 64) (x:=wd v ((lo+i) / 64) ||| 2 ^ ((lo+i) % 64)) (by omega);have f:cd .i64 (((lo+i:Nat):Int)+1)=some ((lo+(i+1):Nat):Int):=by rw [dT (by omega) (by omega)]; rfl
  rw [fZ (n:=(a:Int)) (by omega) (by omega)];simp only [ed (show ((lo+i:Nat):Int)≤(a:Int) by omega),cond_true,o,m,l,j,h,g,f,Ig,fg]
 ·rw [fZ (n:=(a:Int)) (by omega) (by omega)];simp only [eI (show ¬ ((lo+(a+1 - lo):Nat):Int)≤(a:Int) by omega),cond_false]
theorem BR {v:aT 4} (h:∀x∈v.1,zY .u64 x):W4 v:=fun x hx=>by
 obtain ⟨a,b⟩:=h x hx;have a:0≤x:=a;have b:x≤18446744073709551615:=b;omega
def oM (f:Nat→Nat) (a:aT 4) (i:Nat):aT 4:=(List.range i).foldl (fun v j=>sD v j (f j)) a
theorem nN (f:Nat→Nat) (a:aT 4) (i:Nat):oM f a (i+1)=sD (oM f a i) i (f i):=by simp [oM,IV]
theorem wu {f:Nat→Nat} {a:aT 4} {i j:Nat} (hi:i≤4):wd (oM f a i) j=if j<i then f j else wd a j:=by
 induction i with
 | zero=>simp [oM]
 | succ i ih=>
  rw [nN,wv (by omega),ih (by omega)]
  by_cases h:i=j
  ·subst h; rw [if_pos rfl,if_pos (by omega)]
  ·rw [if_neg h]
   by_cases h2:j<i
   ·rw [if_pos h2,if_pos (by omega)]
   ·rw [if_neg h2,if_neg (by omega)]
theorem tn {f:Nat→Nat} {a:aT 4} (h:W4 a) (hf:∀j,f j<18446744073709551616) (i:Nat):W4 (oM f a i):=by
 induction i with
 | zero=>simpa [oM] using h
 | succ i ih=>rw [nN]; exact xg ih (hf i)
theorem yW {f:Nat→Nat} {a:aT 4} {b:Nat} (hb:b<256):mem (oM f a 4) b=(f (b / 64)).testBit (b % 64):=by
 unfold mem; rw [wu (by omega),if_pos (by omega)]
theorem tI {ρ:Type} {body:aT 4×Int→Option (cN (aT 4×Int) ρ)} {f:Nat→Nat} {a:aT 4} {r:ρ} (ha:W4 a) (hf:∀j,f j<18446744073709551616)
 (h:∀i v,i<4→W4 v→wd v i=wd a i→body (v,(i:Int))=some (.next (sD v i (f i),((i+1:Nat):Int)))) (hn:body (oM f a 4,4)=some (.stop r)) :
 bc body ba (a,0)=some r:=by
 refine fx (body:=body) (fun i=>(oM f a i,(i:Int))) 4 (fun i b=>?_) hn ba (gX (by omega));rw [nN];refine h i _ b (tn ha hf i) ?_;rw [wu (by omega),if_neg (by omega)]
def mj (a b:aT 4):aT 4:=oM (fun j=>wd a j ||| wd b j) a 4
def ml (a:aT 4):aT 4:=oM (fun j=>18446744073709551615 ^^^ wd a j) a 4
theorem BV {a b:aT 4} (ha:W4 a) (hb:W4 b) (j:Nat):wd a j ||| wd b j<18446744073709551616:=Nat.or_lt_two_pow (n:=64) (iG ha j) (iG hb j)
theorem yQ {a:aT 4} (ha:W4 a) (j:Nat):18446744073709551615 ^^^ wd a j<18446744073709551616:=Nat.xor_lt_two_pow (n:=64) (by omega) (iG ha j)
theorem zO {a b:aT 4} (ha:W4 a) (hb:W4 b):W4 (mj a b):=tn ha (BV ha hb) 4
theorem uQ {a:aT 4} (ha:W4 a):W4 (ml a):=tn ha (yQ ha) 4
theorem xQ {a b:aT 4} {c:Nat} (hc:c<256):mem (mj a b) c=(mem a c || mem b c):=by
 unfold mj; rw [yW hc,Nat.testBit_or]; rfl
theorem zQ {a b:aT 4} (ha:W4 a) (hb:W4 b):M.i4 a b=some (mj a b):=by
 unfold M.i4;refine aN (tI (r:=mj a b) ha (BV ha hb) (fun i v c f e=>?_) ?_) rfl
 ·have d:=jr f c;have j:=jr hb c;rw [e] at d;have h:=ia (iG ha i) (iG hb i);have g:=kj (v:=v) (x:=wd a i ||| wd b i) c;simp only [ed (show (i:Int)<4 by omega),cond_true,d,j,h,g,aK (show i<_ by omega),Ig]
 ·rfl
theorem iE {a:aT 4} (ha:W4 a):M.d4 a=some (ml a):=by
 unfold M.d4;refine aN (tI (r:=ml a) ha (yQ ha) (fun i v b d e=>?_) ?_) rfl
 ·have c:=jr d b;rw [e] at c;have g:=ye (iG ha i);have f:=kj (v:=v) (x:=18446744073709551615 ^^^ wd a i) b;simp only [ed (show (i:Int)<4 by omega),cond_true,c,g,f,aK (show i<_ by omega),Ig]
 ·rfl
def D (σ:Nat→List Bool):Nat→List (List Bool)|0=>[]|i+1=>bif (D σ i).contains (σ i) then D σ i else D σ i++[σ i]
theorem yZ {σ:Nat→List Bool} {i:Nat} {s:List Bool}:s∈D σ i↔∃a,a<i∧σ a=s:=by
 induction i with
 | zero=>simp [D]
 | succ i ih=>
  have key:(∃a,a<i+1∧σ a=s)↔(s∈D σ i∨s=σ i):=by
   rw [ih];constructor
   ·rintro ⟨a,c,b⟩
    by_cases h:a=i
    ·subst h; exact .inr b.symm
    ·exact .inl ⟨a,by omega,b⟩
   ·rintro (⟨a,c,b⟩|h)
    ·exact ⟨a,by omega,b⟩
    ·exact ⟨i,by omega,h.symm⟩
  rw [key,D];cases hc:(D σ i).contains (σ i)
  ·simp
  ·simp only [cond_true];have:σ i∈D σ i:=by simpa using hc
   constructor
   ·exact .inl
   ·rintro (h|rfl)
    ·exact h
    ·exact this
theorem Ac {σ:Nat→List Bool} {i j:Nat} (h:i≤j):∃r,D σ j=D σ i++r:=by
 obtain ⟨k,rfl⟩:=Nat.le.dest h;clear h;induction k with
 | zero=>exact ⟨[],by simp⟩
 | succ k ih=>
  obtain ⟨r,hr⟩:=ih;rw [←Nat.add_assoc,D];cases (D σ (i+k)).contains (σ (i+k))
  ·exact ⟨r++[σ (i+k)],by simp [hr]⟩
  ·exact ⟨r,by simpa using hr⟩
theorem Ad {σ:Nat→List Bool} (i:Nat):(D σ i).length≤i:=by
 induction i with
 | zero=>simp [D]
 | succ i ih=>
  rw [D];cases (D σ i).contains (σ i)
  ·simp; omega
  ·simp only [cond_true]; omega
def cls (σ:Nat→List Bool) (i:Nat):Nat:=(D σ 256).idxOf (σ i)
theorem zy {σ:Nat→List Bool} {i j:Nat} (hj:j≤256) (hi:i<j):cls σ i=(D σ j).idxOf (σ i):=by
 obtain ⟨r,hr⟩:=Ac (σ:=σ) hj;unfold cls;rw [hr,List.idxOf_append,if_pos (yZ.2 ⟨i,hi,rfl⟩)]
theorem th {σ:Nat→List Bool} {i:Nat} (hi:i<256) (h:σ i∈D σ i):cls σ i=(D σ i).idxOf (σ i)∧cls σ i<(D σ i).length:=by
 have e:D σ (i+1)=D σ i:=by rw [D]; simp [h]
 have:=zy (σ:=σ) (i:=i) (j:=i+1) (by omega) (by omega);rw [e] at this;rw [this];exact ⟨rfl,List.idxOf_lt_length_of_mem h⟩
theorem py {σ:Nat→List Bool} {i:Nat} (hi:i<256) (h:σ i∉D σ i):cls σ i=(D σ i).length∧D σ (i+1)=D σ i++[σ i]:=by
 have e:D σ (i+1)=D σ i++[σ i]:=by rw [D]; simp [h]
 have:=zy (σ:=σ) (i:=i) (j:=i+1) (by omega) (by omega);rw [e,List.idxOf_append,if_neg h] at this;rw [this];refine ⟨by simp,e⟩
theorem xm {σ:Nat→List Bool} {i:Nat} (h:σ i∈D σ i):D σ (i+1)=D σ i:=by rw [D]; simp [h]
def gT (f:Nat→Int) (n i:Nat):List Int:=(List.range i).map f++List.replicate (n - i) 0
theorem ph {f:Nat→Int} {n i:Nat} (h:i≤n):(gT f n i).length=n:=by simp [gT]; omega
theorem wz {f:Nat→Int} {n i k:Nat} (hk:k<i) (h:k<(gT f n i).length):(gT f n i)[k]=f k:=by
 simp [gT,hk]
theorem lk {f:Nat→Int} {n i:Nat} (hi:i<n) (x:Int) (hx:f i=x):(gT f n i).set i x=gT f n (i+1):=by
 unfold gT;rw [List.set_append,if_neg (by simp),IV,Iz,Ir];congr 1;simp only [Iy,IN,Nat.sub_self];obtain ⟨k,hk⟩:∃k,n - i=k+1:=⟨n - i - 1,by omega⟩;rw [hk,List.replicate_succ,List.set_cons_zero,show n - (i+1)=k by omega,←hx];rfl
theorem yx {f:Nat→Int} {n:Nat}:gT f n 0=List.replicate n 0:=by simp [gT]
theorem sB {f:Nat→Int} {n:Nat}:gT f n n=(List.range n).map f:=by simp [gT]
def Dg (b:Bool):Int:=bif b then 1 else 0
def key (s:List Bool):Str:=cV (s.map Dg)
theorem wR:∀ {s t:List Bool},key s=key t→s=t
 | [],[],_=>rfl
 | [],_::_,h=>by simp [key,cV] at h
 | _::_,[],h=>by simp [key,cV] at h
 | a::s,b::t,h=>by
  simp only [key,cV,List.map_cons,List.cons.injEq] at h;have h2:s=t:=wR h.2;have h1:a=b:=by
   have:=h.1
   revert this
   cases a <;> cases b <;> decide
  rw [h1,h2]
theorem wS (s t:List Bool):(key s == key t)=(s == t):=by
 rw [Bool.eq_iff_iff,beq_iff_eq,beq_iff_eq];exact ⟨wR,fun h=>by rw [h]⟩
def enc:List (List Bool)→Nat→List (Str×Int)|[],_=>[]|s::L,k=>(key s,(k:Int))::enc L (k+1)
theorem Bi (L:List (List Bool)):∀k,(enc L k).length=L.length:=by
 induction L with
 | nil=>exact fun _=>rfl
 | cons s L ih=>intro k; simp [enc,ih]
theorem Bj (s:List Bool) (L:List (List Bool)):∀k,bY (enc L k) (key s)=bif L.contains s then some ((k+L.idxOf s:Nat):Int) else none:=by
 induction L with
 | nil=>intro k; rfl
 | cons t L ih=>
  intro k;unfold enc bY;rw [List.find?_cons];simp only [wS];cases h:t == s
  ·have a:=ih (k+1);unfold bY at a;simp only [];rw [a,List.contains_cons,show (s == t)=false by rw [Bool.beq_comm]; exact h,Bool.false_or,List.idxOf_cons,h];cases L.contains s <;> simp <;> omega
  ·have:t=s:=by simpa using h
   subst this;simp
theorem Bh (s:List Bool) (L:List (List Bool)):∀k,s∉L→dL (enc L k) (key s) ((k+L.length:Nat):Int)=enc (L++[s]) k:=by
 induction L with
 | nil=>intro k _; simp [enc,dL]
 | cons t L ih=>
  intro k h;have a:(t == s)=false:=by rw [beq_eq_false_iff_ne]; rintro rfl; simp at h
  simp only [enc,dL,wS,a,cond_false,Iw,IG];congr 1;have:=ih (k+1) (by simp at h; exact h.2);rw [←this]; congr 2; omega
def dz (l:List (aT 4)) (i:Nat):List Bool:=l.map (fun v=>mem v i)
def lO (l:List (aT 4)):List Int:=(List.range 256).map fun i=>(cls (dz l) i:Int)
theorem fT {i:Nat} (h:i<9223372036854775807):cd .i64 ((i:Int)+1)=some ((i+1:Nat):Int):=by rw [dT (by omega) (by omega)]; rfl
theorem wo {l:List (aT 4)} (hl:∀v∈l,W4 v) (hn:l.length≤1000000):M.g5 l=some (lO l):=by
  unfold M.g5;refine aN (eH (n:=256) (by omega)) ?_;simp only [IH]
  let f:Nat→Int:=fun i=>(cls (dz l) i:Int)
  refine aN (fx (fun i=>(gT f 256 i,enc (D (dz l) i) 0,(i:Int))) 256 (r:=lO l) (fun i d=>?_) ?_ ba (gX (by omega))) rfl
  · have hlen:(gT f 256 i).length=256:=ph (by omega)
    let a:Nat→Int:=fun j=>Dg ((dz l i).getD j false)
    have B:bc (fun (u:(List Int)×Int)=>match u with
      | (o,g)=>
       bif (decide (g<(l.length:Int))) then
        (
         (bD l g).bind fun I=>
         (M.g2 I (IntKind.u8.wrap (i:Int))).bind fun w=>
         bif w then
          (dE o g 1).bind fun y=>
          some y
         else
          some o).bind fun (z:(List Int))=>
        (cd .i64 (g+1)).bind fun t=>
        some (.next (z,t))
       else
        some (.stop o)) ba (List.replicate l.length (0:Int),(0:Int))=some ((dz l i).map Dg):=by
      have G:gT a l.length l.length=(dz l i).map Dg:=by
        rw [sB];apply List.ext_getElem
        · simp [dz]
        · intro k q H
          have:k<l.length:=by simpa using q
          simp [a,dz,this,Ic]
      rw [←yx (f:=a)];refine fx (fun j=>(gT a l.length j,(j:Int))) l.length (fun j b=>?_) ?_ ba (gX (by omega))
      · have m:a j=Dg (mem l[j] i):=by simp [a,dz,b,Ic]
        have J:=vP (hl l[j] (Ii b)) (c:=i) d;have K:(gT a l.length j).length=l.length:=ph (by omega);simp only [ed (show (j:Int)<(l.length:Int) by omega),cond_true,aZ b,Ig,lh (show (0:Int)≤(i:Int) by omega) (by omega),J];cases hm:mem l[j] i
        · rw [hm] at m
          have:gT a l.length j=gT a l.length (j+1):=by
            rw [←lk b (a j) rfl];apply List.ext_getElem (by simp);intro k q H;rw [List.getElem_set];split
            · rename_i h; subst h
              rw [m];simp [gT,Dg]
            · rfl
          simp only [cond_false,Ig,fT (show j<_ by omega),←this]
        · rw [hm] at m
          have s:dE (gT a l.length j) (j:Int) 1=some ((gT a l.length j).set j 1):=dk (by omega);rw [lk b 1 m] at s;simp only [cond_true,s,Ig,fT (show j<_ by omega)]
      · simp only [eI (show ¬ (l.length:Int)<(l.length:Int) by omega),cond_false,G]
    have A:pt 1 (l.length:Int) (0:Int)=some (List.replicate l.length 0):=eH (by omega);have F:=Bj (dz l i) (D (dz l) i) 0;simp only [ed (show (i:Int)<((256:Nat):Int) by omega),cond_true,A,Ig];refine aN (x:=(gT f 256 (i+1),enc (D (dz l) (i+1)) 0)) (aN B ?_) ?_
    · simp only [show cV ((dz l i).map Dg)=key (dz l i) from rfl,F,Nat.zero_add,Bi]
      cases hc:(D (dz l) i).contains (dz l i)
      · have p:dz l i∉D (dz l) i:=by intro h; rw [List.contains_iff_mem.2 h] at hc; cases hc
        obtain ⟨c1,c2⟩:=py d p;have hs:=Bh (dz l i) (D (dz l) i) 0 p;rw [Nat.zero_add] at hs;have e:dE (gT f 256 i) (i:Int) ((D (dz l) i).length:Int)=some ((gT f 256 i).set i ((D (dz l) i).length:Int)):=dk (by omega);rw [lk d _ (by simp only [f,c1])] at e;simp only [cond_false,Option.isSome_none,Bool.not_false,cond_true,Ig,hs,e,c2]
      · have hm:dz l i∈D (dz l) i:=List.contains_iff_mem.1 hc
        obtain ⟨c1,c2⟩:=th d hm;have e:dE (gT f 256 i) (i:Int) ((D (dz l) i).idxOf (dz l i):Int)=some ((gT f 256 i).set i ((D (dz l) i).idxOf (dz l i):Int)):=dk (by omega);rw [lk d _ (by simp only [f,c1])] at e;simp only [cond_true,Option.isSome_some,Bool.not_true,cond_false,Option.getD_some,Ig,e,xm hm]
    · simp only [fT (show i<_ by omega),Ig]
  · simp only [eI (show ¬ ((256:Nat):Int)<((256:Nat):Int) by omega),cond_false]
    rw [sB]; rfl
theorem rF {l:List (aT 4)} (hl:∀v∈l,W4 v) (hn:l.length≤1000000) {a b:Nat} (ha:a<256) (hb:b<256):M.e8 l (a:Int) (b:Int)=some (dz l a == dz l b):=by
 unfold M.e8;have key:=oe (body:=(fun (c:Int)=>
  bif (decide (c<(l.length:Int))) then
   (bD l c).bind fun f=>
   (M.h8 f (a:Int)).bind fun m=>
   (M.h8 f (b:Int)).bind fun j=>
   bif (!(m == j)) then
    some (.stop (.stop false))
   else
    (cd .i64 (c+1)).bind fun g=>
    some (.next g)
  else
   some (.stop (.next ())):Int→Option (cN Int (cN Unit Bool))))
   (fun s=>∃i:Nat,s=(i:Int)∧i≤l.length∧∀(k:Nat) (h:k<l.length),k<i→mem l[k] a=mem l[k] b) (fun s=>l.length - s.toNat)
   (fun r=>(r=.next ()∧dz l a=dz l b)∨(r=.stop false∧dz l a≠dz l b)) ?_ ba 0 ⟨0,rfl,by omega,fun k _ h=>by omega⟩ (gX (by omega))
 ·obtain ⟨r,e,h|h⟩:=key
  ·rw [e,h.1,h.2]; simp [bn]
  ·rw [e,h.1];have:(dz l a == dz l b)=false:=by rw [beq_eq_false_iff_ne]; exact h.2
   rw [this]; rfl
 ·rintro s ⟨i,rfl,q,hP⟩
  by_cases hlt:i<l.length
  ·have p:=tc (hl l[i] (Ii hlt)) ha;have o:=tc (hl l[i] (Ii hlt)) hb;simp only [ed (show (i:Int)<(l.length:Int) by omega),cond_true,aZ hlt,Ig,p,o]
   by_cases hm:mem l[i] a=mem l[i] b
   ·refine .inl ⟨((i+1:Nat):Int),?_,⟨i+1,rfl,by omega,fun k d n=>?_⟩,by omega⟩
    ·rw [hm]; simp only [beq_self_eq_true,Bool.not_true,cond_false,fT (show i<_ by omega),Ig]
    ·by_cases hk:k=i
     ·subst hk; exact hm
     ·exact hP k d (by omega)
   ·refine .inr ⟨_,?_,.inr ⟨rfl,fun h=>hm ?_⟩⟩
    ·rw [show (mem l[i] a == mem l[i] b)=false by rw [beq_eq_false_iff_ne]; exact hm]; rfl
    ·have:=congrArg (fun z=>z[i]?) h;simpa [dz,hlt] using this
  ·refine .inr ⟨_,by simp only [eI (show ¬ (i:Int)<(l.length:Int) by omega),cond_false],.inl ⟨rfl,?_⟩⟩;unfold dz;apply List.ext_getElem (by simp);intro k d n;have:k<l.length:=by simpa using d
   simpa using hP k this (by omega)
theorem rl {l:List (aT 4)} (hl:∀v∈l,W4 v) (hn:l.length≤1000000):M.i1 l=some (lO l):=by
 unfold M.i1;refine aN (eH (n:=256) (by omega)) ?_
 let f:Nat→Int:=fun i=>(cls (dz l) i:Int)
 refine aN (fx (fun i=>(gT f 256 i,((D (dz l) i).length:Int),(i:Int))) 256 (r:=lO l) (fun b hb=>?_) ?_ ba (gX (by omega))) rfl
 ·have hlen:(gT f 256 b).length=256:=ph (by omega);have w:dE (gT f 256 b) (b:Int) ((D (dz l) b).length:Int)=some ((gT f 256 b).set b ((D (dz l) b).length:Int)):=dk (by omega);have B:=Ad (σ:=dz l) b;have A:((gT f 256 b).set b ((D (dz l) b).length:Int)).length=256:=by rw [IR,hlen]
  have p:=oe (body:=(fun (c:Int)=>
   bif (decide (c<(b:Int))) then
    (M.e8 l (IntKind.u8.wrap c) (IntKind.u8.wrap (b:Int))).bind fun j=>
    bif j then
     (bD ((gT f 256 b).set b ((D (dz l) b).length:Int)) c).bind fun t=>
     (dE ((gT f 256 b).set b ((D (dz l) b).length:Int)) (b:Int) t).bind fun m=>
     some (.stop m)
    else
     (cd .i64 (c+1)).bind fun g=>
     some (.next g)
   else
    some (.stop ((gT f 256 b).set b ((D (dz l) b).length:Int))):Int→Option (cN Int (List Int))))
   (fun s=>∃a:Nat,s=(a:Int)∧a≤b∧∀k,k<a→dz l k≠dz l b) (fun s=>b - s.toNat) (fun r=>r=gT f 256 (b+1)) ?_ ba 0 ⟨0,rfl,by omega,fun k h=>by omega⟩ (gX (by omega))
  ·obtain ⟨r,o,rfl⟩:=p;have y:(gT f 256 (b+1)).length=256:=ph (by omega);have d:bD (gT f 256 (b+1)) (b:Int)=some (f b):=by rw [aZ (by omega),wz (by omega)]
   simp only [ed (show (b:Int)<256 by omega),cond_true,w,Ig];refine aN (x:=(gT f 256 (b+1),((D (dz l) (b+1)).length:Int))) (aN o ?_) ?_
   ·simp only [d,Ig]
    by_cases hm:dz l b∈D (dz l) b
    ·obtain ⟨c1,c2⟩:=th hb hm;rw [show (f b == ((D (dz l) b).length:Int))=false by rw [beq_eq_false_iff_ne]; simp only [f]; omega,xm hm];rfl
    ·obtain ⟨c1,c2⟩:=py hb hm;rw [show (f b == ((D (dz l) b).length:Int))=true by rw [beq_iff_eq]; simp only [f]; omega,c2];simp only [cond_true,fT (show (D (dz l) b).length<_ by omega),Ig,Ik,Ih]
   ·simp only [fT (show b<_ by omega),Ig]
  ·rintro s ⟨a,rfl,ha,hP⟩
   by_cases hlt:a<b
   ·have d:=rF hl hn (a:=a) (b:=b) (by omega) hb;simp only [ed (show (a:Int)<(b:Int) by omega),cond_true,lh (show (0:Int)≤(a:Int) by omega) (by omega),lh (show (0:Int)≤(b:Int) by omega) (by omega),d,Ig]
    by_cases he:dz l a=dz l b
    ·refine .inr ⟨gT f 256 (b+1),?_,rfl⟩;have u:bD ((gT f 256 b).set b ((D (dz l) b).length:Int)) (a:Int)=some (f a):=by
      rw [aZ (by omega),List.getElem_set,if_neg (by omega),wz hlt]
     have e:dE ((gT f 256 b).set b ((D (dz l) b).length:Int)) (b:Int) (f a)=some (((gT f 256 b).set b ((D (dz l) b).length:Int)).set b (f a)):=dk (by omega);rw [List.set_set,lk (f:=f) hb (f a) (by simp only [f,cls,he])] at e;rw [he];simp only [beq_self_eq_true,cond_true,u,e,Ig]
    ·refine .inl ⟨((a+1:Nat):Int),?_,⟨a+1,rfl,by omega,fun k z=>?_⟩,by omega⟩
     ·rw [show (dz l a == dz l b)=false by rw [beq_eq_false_iff_ne]; exact he];simp only [cond_false,fT (show a<_ by omega),Ig]
     ·by_cases h:k=a
      ·subst h; exact he
      ·exact hP k (by omega)
   ·refine .inr ⟨(gT f 256 b).set b ((D (dz l) b).length:Int),by simp only [eI (show ¬ (a:Int)<(b:Int) by omega),cond_false],?_⟩;refine lk hb _ ?_;have hm:dz l b∉D (dz l) b:=by
     intro h;obtain ⟨k,F,q⟩:=yZ.1 h;exact hP k (by omega) q
    simp only [f,(py hb hm).1]
 ·simp only [eI (show ¬ ((256:Nat):Int)<256 by omega),cond_false];rw [sB]; rfl
def Mk (m:List Bool) (i:Int):Prop:=0≤i∧m[i.toNat]?=some true
theorem vD {m:List Bool} {i:Nat}:Mk m (i:Int)↔m[i]?=some true:=by
 unfold Mk;rw [ID];exact ⟨fun h=>h.2,fun h=>⟨by omega,h⟩⟩
theorem tb {m:List Bool} {i:Int} (h0:0≤i) (h1:i<m.length):∃b,bD m i=some b∧(b=true↔Mk m i):=by
 obtain ⟨k,rfl⟩:=IE h0;have hk:k<m.length:=by omega
 refine ⟨m[k],aZ hk,?_⟩;rw [vD,Ie hk];simp
def oX (m:List Bool) (i:Int):List Bool:=m.set i.toNat true
theorem zb {m:List Bool} {i:Int}:(oX m i).length=m.length:=by simp [oX]
theorem pr {m:List Bool} {i j:Int} (h0:0≤i) (h1:i<m.length):Mk (oX m i) j↔j=i∨Mk m j:=by
 unfold Mk oX;rw [IQ];constructor
 ·rintro ⟨h2,h3⟩
  by_cases e:j=i
  ·exact .inl e
  ·rw [if_neg (by omega)] at h3;exact .inr ⟨h2,h3⟩
 ·rintro (rfl|⟨h2,h3⟩)
  ·exact ⟨h0,by rw [if_pos rfl,if_pos (by omega)]⟩
  ·refine ⟨h2,?_⟩;split
   ·rw [if_pos (by omega)]
   ·exact h3
def cf (m:List Bool):Nat:=m.count false
theorem BZ (m:List Bool):cf m≤m.length:=List.count_le_length
theorem wZ {m:List Bool} {i:Int} (b:0≤i) (c:i<m.length) (h:¬ Mk m i):cf (oX m i)+1=cf m:=by
 obtain ⟨k,rfl⟩:=IE b;have a:k<m.length:=by omega
 rw [vD,Ie a] at h;have hf:m[k]=false:=by
  cases hb:m[k]
  ·rfl
  ·rw [hb] at h; exact absurd rfl h
 unfold cf oX;rw [ID,List.count_set a,hf];have:0<m.count false:=by
  rw [List.count_pos_iff,←hf];exact Ii a
 simp;omega
def zk (m:List Bool):List Int:=((List.range m.length).filter fun i=>m[i]?.getD false).map fun (i:Nat)=>(i:Int)
theorem sf {m:List Bool} (hm:m.length≤1000000000) {ρ:Type} {X:List Int→ρ} {body:List Int×Int→Option (cN (List Int×Int) ρ)}
 (hb:∀a i,body (a,i)=bif decide (i<(m.length:Int)) then ((bD m i).bind fun e=>bif e then (cy 8 a [i]).bind fun l=>some l else some a).bind fun l=>(cd .i64 (i+1)).bind fun t=>some (.next (l,t)) else some (.stop (X a))) :
 bc body ba (([]:List Int),(0:Int))=some (X (zk m)):=by
 refine Is.eq ?_;refine Is.upto (fun i (d:List Int×Int)=>d.2=(i:Int)∧d.1=((List.range i).filter fun i=>m[i]?.getD false).map fun (i:Nat)=>(i:Int)) m.length (by omega) ⟨rfl,rfl⟩ ?_ ?_
 ·rintro i ⟨a,_⟩ b ⟨rfl,c⟩;obtain rfl:a=_:=c;rw [hb];refine Is.dt (by omega) ?_;have hl:(((List.range i).filter fun i=>m[i]?.getD false).map fun (i:Nat)=>(i:Int)).length≤i:=by
   rw [Iy];exact Nat.le_trans (List.length_filter_le _ _) (by simp)
  refine Is.bnd (P:=fun l=>l=((List.range (i+1)).filter fun i=>m[i]?.getD false).map fun (i:Nat)=>(i:Int)) ?_ fun l hl=>Is.bnq (aK (by omega)) (Is.next ⟨rfl,hl⟩)
  refine Is.bnq (aZ b) ?_;rw [IV,List.filter_append,Iz];refine Is.cnd (fun h=>?_) (fun h=>?_)
  ·refine Is.bnq (bO (by simp only [Ih]; omega)) (Is.pure ?_);simp [b,h]
  ·refine Is.pure ?_;simp [b,h]
 ·rintro ⟨a,_⟩ ⟨rfl,c⟩;obtain rfl:a=_:=c;rw [hb];exact Is.df (by omega) (Is.stop rfl)
theorem xr {m:List Bool} (hm:m.length≤1000000000):M.l5 m=some (zk m):=by
 unfold M.l5;exact aN (sf hm (X:=fun a=>a) (fun _ _=>rfl)) rfl
theorem AV {m:List Bool} (hm:m.length≤1000000000):M.l2 m=some (zk m):=by
 unfold M.l2;exact aN (sf hm (X:=fun a=>a) (fun _ _=>rfl)) rfl
structure FitN (n:T_NFA):Prop where
  pos:1≤n.States
  most:n.States≤2000
  start:0≤n.Start∧n.Start<n.States
  acc:(n.Accept.length:Int)=n.States
  low:∀x∈n.Accept,-1≤x
  arcs:∀a∈n.Arcs,(0≤a.From∧a.From<n.States)∧(0≤a.To∧a.To<n.States)∧(a.Epsilon=true→a.Set=aT.zero 4)
  len:n.Arcs.length≤1000000000
  sets:∀a∈n.Arcs,W4 a.Set
inductive oK (n:T_NFA) (S:List Int):Int→Prop where
  | base {s:Int}:s∈S→0≤s→s<n.States→oK n S s
  | arc {a:ca}:a∈n.Arcs→a.Epsilon=true→oK n S a.From→oK n S a.To
theorem oK.lt {n:T_NFA} (hn:FitN n) {S:List Int} {s:Int} (h:oK n S s):0≤s∧s<n.States:=by
 cases h with
 | base _ h0 h1=>exact ⟨h0,h1⟩
 | arc ha _ _=>exact (hn.arcs _ ha).2.1
open Classical in
noncomputable def clo (n:T_NFA) (S:List Int):List Int:=((List.range n.States.toNat).filter fun i=>decide (oK n S ((i:Nat):Int))).map fun (i:Nat)=>(i:Int)
open Classical in
theorem pw {n:T_NFA} (hn:FitN n) {S:List Int} {s:Int}:s∈clo n S↔oK n S s:=by
 unfold clo;rw [IK];constructor
 ·rintro ⟨k,hk,rfl⟩;exact of_decide_eq_true (IT.1 hk).2
 ·intro h;have:=h.lt hn;obtain ⟨k,rfl⟩:=IE this.1;exact ⟨k,IT.2 ⟨IL.2 (by omega),decide_eq_true h⟩,rfl⟩
theorem Bq (n:T_NFA) (S:List Int):(clo n S).length≤n.States.toNat:=by
 unfold clo;rw [Iy];exact Nat.le_trans (List.length_filter_le _ _) (by simp)
open Classical in
theorem uu {n:T_NFA} {S:List Int} {m:List Bool} (hl:m.length=n.States.toNat) (h:∀s:Int,Mk m s↔oK n S s):zk m=clo n S:=by
 unfold zk clo;rw [hl];congr 1;refine IS fun i b=>?_
 rw [IL] at b;have a:i<m.length:=by omega
 have:=h i;rw [vD,Ie a] at this;rw [Ie a,Option.getD_some]
 by_cases hr:oK n S i
 ·rw [decide_eq_true hr];have:=this.2 hr;simpa using this
 ·rw [decide_eq_false hr];cases hb:m[i]
  ·rfl
  ·exact absurd (this.1 (by rw [hb])) hr
theorem gv {k:Nat} {s:Int}:¬ Mk (List.replicate k false) s:=by
 rintro ⟨_,h⟩;rw [List.getElem?_replicate] at h;split at h <;> simp at h
def pf (n:T_NFA) (m:List Bool) (s:Int):Prop:=∀a∈n.Arcs,a.Epsilon=true→a.From=s→Mk m a.To
theorem tR {n:T_NFA} {S:List Int} {m:List Bool} (h1:∀s∈S,0≤s→s<n.States→Mk m s) (h2:∀s,Mk m s→pf n m s):∀s,oK n S s→Mk m s:=by
 intro s h;induction h with
 | base hs h0 h1'=>exact h1 _ hs h0 h1'
 | arc ha he _ ih=>exact h2 _ ih _ ha he rfl
structure Wk (n:T_NFA) (S:List Int) (m:List Bool) (todo:List Int):Prop where
  len:m.length=n.States.toNat
  sound:∀s,Mk m s→oK n S s
  marked:∀s∈todo,Mk m s
  room:todo.length+cf m≤n.States.toNat
section
variable {n:T_NFA} (hn:FitN n) {S:List Int}
include hn
theorem zM {m:List Bool} {a:List Int} (h:Wk n S m a) {t:Int} (j:0≤t→t<n.States→oK n S t) :
 ∃c e,M.g8 t n m a=some (c,e)∧Wk n S c e∧(∀s,Mk m s→Mk c s)∧(0≤t→t<n.States→Mk c t)∧(∀s∈a,s∈e)∧(∀s,Mk c s→Mk m s∨s∈e)∧2*cf c+e.length≤2*cf m+a.length:=by
 have hp:=hn.pos;have hm:=hn.most;unfold M.g8;have hl:(m.length:Int)=n.States:=by rw [h.len]; omega
 by_cases hin:0≤t∧t<n.States
 ·obtain ⟨b,hb,i⟩:=tb (m:=m) hin.1 (by omega);cases b with
  | true=>
   refine ⟨m,a,?_,h,fun _ h=>h,fun _ _=>i.1 rfl,fun _ h=>h,fun _ h=>.inl h,Nat.le_refl _⟩;exact aN (x:=false) (by simp only [ed hin.1,ed hin.2,cond_true,hb,Ig,Bool.not_true]) rfl
  | false=>
   have k:¬ Mk m t:=fun hx=>by have:=i.2 hx; cases this
   have o:=wZ hin.1 (show t<m.length by omega) k;have d:∀s,Mk (oX m t) s↔s=t∨Mk m s:=fun s=>pr hin.1 (by omega)
   have l:=h.room;refine ⟨oX m t,a++[t],?_,⟨by rw [zb]; exact h.len,fun s hs=>?_,fun s hs=>?_,?_⟩,fun s hs=>(d s).2 (.inr hs),fun _ _=>(d t).2 (.inl rfl),fun s hs=>List.mem_append_left _ hs,fun s hs=>?_,?_⟩
   ·refine aN (x:=true) (by simp only [ed hin.1,ed hin.2,cond_true,hb,Ig,Bool.not_false]) ?_;exact aN (iP hin.1 (by omega)) (aN (bO (by simp only [Ih]; omega)) rfl)
   ·rcases (d s).1 hs with rfl|hs
    ·exact j hin.1 hin.2
    ·exact h.sound s hs
   ·rcases Iq.1 hs with hs|hs
    ·exact (d s).2 (.inr (h.marked s hs))
    ·exact (d s).2 (.inl (Ip.1 hs))
   ·simp only [Ik,Ih]; omega
   ·rcases (d s).1 hs with rfl|hs
    ·exact .inr (by simp)
    ·exact .inl hs
   ·simp only [Ik,Ih]; omega
 ·refine ⟨m,a,?_,h,fun _ h=>h,fun f g=>absurd ⟨f,g⟩ hin,fun _ h=>h,fun _ h=>.inl h,Nat.le_refl _⟩;refine aN (x:=false) ?_ rfl
  by_cases f:0≤t
  ·simp only [ed f,eI (show ¬ t<n.States from fun g=>hin ⟨f,g⟩),cond_true,cond_false]
  ·simp only [eI f,cond_false]
theorem mK (hS:S.length≤1000000000):M.h5 n S=some (clo n S):=by
 have hp:=hn.pos;have hm:=hn.most;refine Is.eq ?_;unfold M.h5;have e0:pt 1 n.States false=some (List.replicate n.States.toNat false):=by
  have:=eH (B:=1) (n:=n.States.toNat) (z:=false) (by omega);rw [show ((n.States.toNat:Nat):Int)=n.States by omega] at this;exact this
 refine Is.bnq e0 ?_
 -- the states that are given
 refine Is.bnd (P:=fun r:List Bool×List Int=>Wk n S r.1 r.2∧(∀s∈S,0≤s→s<n.States→Mk r.1 s)∧(∀s,Mk r.1 s→s∈r.2)) ?_ ?_
 ·refine Is.upto (fun i (c:List Bool×List Int×Int)=>c.2.2=(i:Int)∧Wk n S c.1 c.2.1∧(∀s∈S.take i,0≤s→s<n.States→Mk c.1 s)∧(∀s,Mk c.1 s→s∈c.2.1)) S.length (by omega)
   ⟨rfl,⟨by simp,fun s hs=>absurd hs gv,by simp,by simp [cf]⟩,by simp,fun s hs=>absurd hs gv⟩ ?_ ?_
  ·rintro i ⟨m,d,_⟩ v ⟨rfl,g,p,w⟩;refine Is.dt (by omega) (Is.bnq (aZ v) ?_);obtain ⟨U,R,e,o,l,q3,q4,q5,_⟩:=zM hn g (t:=S[i]) (fun G F=>.base (Ii v) G F);refine Is.bnq e (Is.bnq (aK (by omega)) (Is.next ⟨rfl,o,fun s hs G F=>?_,fun s hs=>?_⟩))
   ·rw [List.take_add_one,Ie v,Iq] at hs;rcases hs with hs|hs
    ·exact l s (p s hs G F)
    ·obtain rfl:s=S[i]:=by simpa using hs
     exact q3 G F
   ·rcases q5 s hs with hs|hs
    ·exact q4 s (w s hs)
    ·exact hs
  ·rintro ⟨m,d,_⟩ ⟨rfl,g,p,w⟩;rw [Ij] at p;exact Is.df (by omega) (Is.stop ⟨g,p,w⟩)
 rintro ⟨W,a2⟩ ⟨w0,f,t0⟩;simp only at w0 f t0
 -- the list that is worked off
 refine Is.bnd (P:=fun m:List Bool=>m.length=n.States.toNat∧∀s,Mk m s↔oK n S s) ?_ fun m V=>Is.bnq (xr (by rw [V.1]; omega)) (Is.pure (uu V.1 V.2))
 refine Is.while (fun c:List Bool×List Int=>Wk n S c.1 c.2∧(∀s∈S,0≤s→s<n.States→Mk c.1 s)∧(∀s,Mk c.1 s→s∈c.2∨pf n c.1 s)) (fun c=>2*cf c.1+c.2.length) ⟨w0,f,fun s hs=>.inl (t0 s hs)⟩ ?_ ?_
 ·have:=w0.room;have:=BZ W;have:=w0.len;show 2*cf W+a2.length≤_;omega
 rintro ⟨m,d⟩ ⟨g,p,w⟩;simp only at g p w
 by_cases hz:d=[]
 ·subst hz;refine Is.df (by simp) (Is.stop ⟨g.len,fun s=>⟨g.sound s,tR p (fun s hs=>?_) s⟩⟩);rcases w s hs with h|h
  ·cases h
  ·exact h
 have b2:0<d.length:=List.length_pos_iff.2 hz;refine Is.dt (by omega) ?_;have et:cd .i64 ((d.length:Int) - 1)=some ((d.length - 1:Nat):Int):=by
  have:=g.room;rw [dT (by omega) (by omega)];congr 1;omega
 have a1:d.length - 1<d.length:=by omega
 have a6:pR d 0 ((d.length - 1:Nat):Int)=some (d.take (d.length - 1)):=by
  unfold pR;rw [if_pos ⟨by omega,by omega,by omega⟩];simp
 refine Is.bnq et (Is.bnq (aZ a1) (Is.bnq a6 ?_));generalize hse:d[d.length - 1]=f;have a8:Mk m f:=g.marked f (by rw [←hse]; exact Ii a1);have a7:∀s∈d,s∈d.take (d.length - 1)∨s=f:=by
  intro s hs;obtain ⟨j,hj,rfl⟩:=IA.1 hs
  by_cases e:j=d.length - 1
  ·right; subst e; exact hse
  ·left;rw [IA];exact ⟨j,by simp; omega,by simp⟩
 have Y:(d.take (d.length - 1)).length=d.length - 1:=by rw [IF]; omega
 refine Is.mono (P:=SP (fun c:List Bool×List Int=>Wk n S c.1 c.2∧(∀s,Mk m s→Mk c.1 s)∧(∀s,Mk c.1 s→s=f∨s∈c.2∨pf n c.1 s)∧pf n c.1 f∧2*cf c.1+c.2.length≤2*cf m+(d.length - 1)) (fun _=>False)) ?_ ?_
 ·refine Is.mono (P:=fun r:cN (List Bool×List Int) (List Bool)=>SP (fun c:List Bool×List Int=>Wk n S c.1 c.2∧(∀s,Mk m s→Mk c.1 s)∧(∀s,Mk c.1 s→s=f∨s∈c.2∨pf n c.1 s)∧pf n c.1 f∧2*cf c.1+c.2.length≤2*cf m+(d.length - 1)) (fun _=>False) r) ?_ fun _ h=>h
  refine Is.upto (Q:=fun r:cN (List Bool×List Int) (List Bool)=>SP (fun c:List Bool×List Int=>Wk n S c.1 c.2∧(∀s,Mk m s→Mk c.1 s)∧(∀s,Mk c.1 s→s=f∨s∈c.2∨pf n c.1 s)∧pf n c.1 f∧2*cf c.1+c.2.length≤2*cf m+(d.length - 1)) (fun _=>False) r)
   (fun i (c:List Bool×List Int×Int)=>c.2.2=(i:Int)∧Wk n S c.1 c.2.1∧(∀s,Mk m s→Mk c.1 s)∧(∀s,Mk c.1 s→s=f∨s∈c.2.1∨pf n c.1 s)∧(∀a∈n.Arcs.take i,a.Epsilon=true→a.From=f→Mk c.1 a.To)∧2*cf c.1+c.2.1.length≤2*cf m+(d.length - 1)) n.Arcs.length (by have:=hn.len; omega) ?_ ?_ ?_
  ·refine ⟨rfl,⟨g.len,g.sound,fun s hs=>g.marked s (List.mem_of_mem_take hs),?_⟩,fun _ h=>h,fun s hs=>?_,by simp,Nat.add_le_add_left (Nat.le_of_eq Y) _⟩
   ·have:=g.room;have e:(d.take (d.length - 1)).length+cf m≤n.States.toNat:=by rw [Y]; omega
    exact e
   ·rcases w s hs with h|h
    ·rcases a7 s h with h|h
     ·exact .inr (.inl h)
     ·exact .inl h
    ·exact .inr (.inr h)
  ·rintro i ⟨A,H,_⟩ v ⟨rfl,k,u,x,q,I⟩;simp only at k u x q I;have ha:=Ii v;refine Is.dt (by omega) ?_;refine Is.bnd (P:=fun c:List Bool×List Int=>Wk n S c.1 c.2∧(∀s,Mk A s→Mk c.1 s)∧(∀s∈H,s∈c.2)∧(∀s,Mk c.1 s→Mk A s∨s∈c.2)∧(n.Arcs[i].Epsilon=true→n.Arcs[i].From=f→Mk c.1 n.Arcs[i].To)∧2*cf c.1+c.2.length≤2*cf A+H.length) ?_ ?_
   ·refine Is.bnq (aZ v) ?_;refine Is.bnd (P:=fun b:Bool=>b=true↔n.Arcs[i].Epsilon=true∧n.Arcs[i].From=f) ?_ fun b hb=>?_
    ·refine Is.cnd (fun h=>Is.pure ?_) (fun h=>Is.pure ?_)
     ·rw [beq_iff_eq,h]; exact ⟨fun h=>⟨rfl,h⟩,fun h=>h.2⟩
     ·rw [h]; simp
    ·refine Is.cnd (fun h=>?_) (fun h=>?_)
     ·obtain ⟨o,l⟩:=hb.1 h;obtain ⟨U,R,e,N,y,L,K,J,T⟩:=zM hn k (t:=n.Arcs[i].To) (fun _ _=>.arc ha o (by rw [l]; exact k.sound _ (u _ a8)));have X:=(hn.arcs _ ha).2.1;exact Is.bnq e (Is.pure ⟨N,y,K,J,fun _ _=>L X.1 X.2,T⟩)
     ·exact Is.pure ⟨k,fun _ h=>h,fun _ h=>h,fun _ h=>.inl h,fun o l=>(by have:=hb.2 ⟨o,l⟩; rw [h] at this; cases this),Nat.le_refl _⟩
   ·rintro ⟨U,R⟩ ⟨N,y,L,K,J,T⟩;simp only at N y L K J T;refine Is.bnq (aK (by have:=hn.len; omega)) (Is.next ⟨rfl,N,fun s hs=>y s (u s hs),fun s hs=>?_,fun a D o l=>?_,by show 2*cf U+R.length≤_; omega⟩)
    ·rcases K s hs with h|h
     ·rcases x s h with h|h|h
      ·exact .inl h
      ·exact .inr (.inl (L s h))
      ·exact .inr (.inr fun a ha he hf=>y _ (h a ha he hf))
     ·exact .inr (.inl h)
    ·rw [List.take_add_one,Ie v,Iq] at D;rcases D with D|D
     ·exact y _ (q a D o l)
     ·obtain rfl:a=n.Arcs[i]:=by simpa using D
      exact J o l
  ·rintro ⟨A,H,_⟩ ⟨rfl,k,u,x,q,I⟩;rw [Ij] at q;exact Is.df (by omega) (Is.stop ⟨k,u,x,q,I⟩)
 ·rintro (⟨A,H⟩|r) hr
  ·obtain ⟨k,u,x,q,I⟩:=hr;simp only at k u x q I;refine ⟨⟨k,fun s hs G F=>u _ (p s hs G F),fun s hs=>?_⟩,by show 2*cf A+H.length<2*cf m+d.length; omega⟩;rcases x s hs with rfl|h|h
   ·exact .inr q
   ·exact .inl h
   ·exact .inr h
  ·exact hr.elim
end
section
variable {n:T_NFA} (hn:FitN n) {S:List Int}
include hn
theorem mz:pt 1 n.States false=some (List.replicate n.States.toNat false):=by
 have hp:=hn.pos;have hm:=hn.most;have:=eH (B:=1) (n:=n.States.toNat) (z:=false) (by omega);rw [show ((n.States.toNat:Nat):Int)=n.States by omega] at this;exact this
theorem fY (hS:S.length≤1000000000):M.e5 n S=some (clo n S):=by
 have hp:=hn.pos;have hm:=hn.most;have b4:=hn.len;refine Is.eq ?_;unfold M.e5;refine Is.bnq (mz hn) ?_;refine Is.bnd (P:=fun m:List Bool=>m.length=n.States.toNat∧(∀s∈S,0≤s→s<n.States→Mk m s)∧(∀s,Mk m s→oK n S s)) ?_ ?_
 ·refine Is.upto (fun i (c:List Bool×Int)=>c.2=(i:Int)∧c.1.length=n.States.toNat∧(∀s∈S.take i,0≤s→s<n.States→Mk c.1 s)∧(∀s,Mk c.1 s→oK n S s)) S.length (by omega)
   ⟨rfl,by simp,by simp,fun s hs=>absurd hs gv⟩ ?_ ?_
  ·rintro i ⟨m,_⟩ t ⟨rfl,o,d,l⟩;simp only at o d l;refine Is.dt (by omega) ?_;refine Is.bnd (P:=fun v:List Bool=>v.length=n.States.toNat∧(∀s,Mk m s→Mk v s)∧(0≤S[i]→S[i]<n.States→Mk v S[i])∧(∀s,Mk v s→oK n S s)) ?_ fun v h=>Is.bnq (aK (by omega)) (Is.next ⟨rfl,h.1,fun s hs D B=>?_,h.2.2.2⟩)
   ·refine Is.bnd (P:=fun b:Bool=>b=true↔0≤S[i]∧S[i]<n.States) ?_ fun b hb=>?_
    ·refine Is.bnq (aZ t) (Is.dcd (fun h=>Is.pure ?_) (fun h=>Is.pure ?_))
     ·rw [decide_eq_true_eq]; exact ⟨fun d=>⟨h,d⟩,fun d=>d.2⟩
     ·exact ⟨fun d=>(by cases d),fun d=>absurd d.1 h⟩
    ·refine Is.cnd (fun h=>?_) (fun h=>?_)
     ·obtain ⟨f,j⟩:=hb.1 h;have w:∀s,Mk (oX m S[i]) s↔s=S[i]∨Mk m s:=fun s=>pr f (by omega)
      refine Is.bnq (aZ t) (Is.bnq (iP f (by omega)) (Is.pure ⟨by rw [IR]; exact o,fun s hs=>(w s).2 (.inr hs),fun _ _=>(w _).2 (.inl rfl),fun s hs=>?_⟩));rcases (w s).1 hs with rfl|hs
      ·exact .base (Ii t) f j
      ·exact l s hs
     ·exact Is.pure ⟨o,fun _ h=>h,fun f j=>(by have:=hb.2 ⟨f,j⟩; rw [h] at this; cases this),l⟩
   ·rw [List.take_add_one,Ie t,Iq] at hs;rcases hs with hs|hs
    ·exact h.2.1 s (d s hs D B)
    ·obtain rfl:s=S[i]:=by simpa using hs
     exact h.2.2.1 D B
  ·rintro ⟨m,_⟩ ⟨rfl,o,d,l⟩;rw [Ij] at d;exact Is.df (by omega) (Is.stop ⟨o,d,l⟩)
 rintro R ⟨l0,Y,r0⟩;refine Is.bnd (P:=fun m:List Bool=>m.length=n.States.toNat∧∀s,Mk m s↔oK n S s) ?_ fun m H=>Is.bnq (AV (by rw [H.1]; omega)) (Is.pure (uu H.1 H.2))
 refine Is.while (fun c:List Bool×Bool=>c.1.length=n.States.toNat∧(∀s∈S,0≤s→s<n.States→Mk c.1 s)∧(∀s,Mk c.1 s→oK n S s)∧(c.2=false→∀s,Mk c.1 s→pf n c.1 s)) (fun c=>2*cf c.1+(bif c.2 then 1 else 0)) ⟨l0,Y,r0,fun h=>(by cases h)⟩ ?_ ?_
 ·have:=BZ R;show 2*cf R+1≤_;omega
 rintro ⟨m,b⟩ ⟨o,d,l,X⟩;simp only at o d l X;cases b with
 | false=>exact Is.cf rfl (Is.stop ⟨o,fun s=>⟨l s,tR d (X rfl) s⟩⟩)
 | true=>
  refine Is.ct rfl ?_;refine Is.mono (P:=SP (fun c:List Bool×Bool=>c.1.length=n.States.toNat∧(∀s,Mk m s→Mk c.1 s)∧(∀s,Mk c.1 s→oK n S s)∧(c.2=true→cf c.1<cf m)∧(c.2=false→c.1=m∧∀s,Mk c.1 s→pf n c.1 s)) (fun _=>False)) ?_ ?_
  ·refine Is.upto (Q:=fun r:cN (List Bool×Bool) (List Bool)=>SP (fun c:List Bool×Bool=>c.1.length=n.States.toNat∧(∀s,Mk m s→Mk c.1 s)∧(∀s,Mk c.1 s→oK n S s)∧(c.2=true→cf c.1<cf m)∧(c.2=false→c.1=m∧∀s,Mk c.1 s→pf n c.1 s)) (fun _=>False) r)
    (fun i (c:List Bool×Bool×Int)=>c.2.2=(i:Int)∧c.1.length=n.States.toNat∧(∀s,Mk m s→Mk c.1 s)∧(∀s,Mk c.1 s→oK n S s)∧(c.2.1=true→cf c.1<cf m)∧(c.2.1=false→c.1=m∧∀a∈n.Arcs.take i,a.Epsilon=true→Mk m a.From→Mk m a.To)) n.Arcs.length (by omega)
    ⟨rfl,o,fun _ h=>h,l,fun h=>(by cases h),fun _=>⟨rfl,by simp⟩⟩ ?_ ?_
   ·rintro i ⟨e,z,_⟩ t ⟨rfl,q,u,k,p,g⟩;simp only at q u k p g;have W:=Ii t;have y:=hn.arcs _ W;have b0:cf e≤cf m:=by
     cases z with
     | true=>exact Nat.le_of_lt (p rfl)
     | false=>rw [(g rfl).1]; exact Nat.le_refl _
    refine Is.dt (by omega) ?_;refine Is.bnd (P:=fun c:List Bool×Bool=>c.1.length=n.States.toNat∧(∀s,Mk e s→Mk c.1 s)∧(∀s,Mk c.1 s→oK n S s)∧(c.2=true→cf c.1<cf m)∧(c.2=false→z=false∧c.1=e∧(n.Arcs[i].Epsilon=true→Mk e n.Arcs[i].From→Mk e n.Arcs[i].To))) ?_ ?_
    ·refine Is.bnq (aZ t) ?_;obtain ⟨bf,ef,hf⟩:=tb (m:=e) y.1.1 (by omega);obtain ⟨bt,et,ht⟩:=tb (m:=e) y.2.1.1 (by omega);refine Is.bnd (P:=fun b:Bool=>b=true↔n.Arcs[i].Epsilon=true∧Mk e n.Arcs[i].From∧¬ Mk e n.Arcs[i].To) ?_ fun b hb=>?_
     ·refine Is.cnd (fun h=>Is.bnq ef (Is.cnd (fun d=>Is.bnq et (Is.pure ?_)) (fun d=>Is.pure ?_))) (fun h=>Is.pure ?_)
      ·rw [←ht,←hf,d];cases bt <;> simp [h]
      ·rw [←hf,d]; simp
      ·rw [h]; simp
     ·refine Is.cnd (fun h=>?_) (fun h=>?_)
      ·obtain ⟨f,j,F⟩:=hb.1 h;have w:∀s,Mk (oX e n.Arcs[i].To) s↔s=n.Arcs[i].To∨Mk e s:=fun s=>pr y.2.1.1 (by omega)
       have hc:=wZ y.2.1.1 (show n.Arcs[i].To<e.length by omega) F;refine Is.bnq (iP y.2.1.1 (by omega)) (Is.pure ⟨by rw [IR]; exact q,fun s hs=>(w s).2 (.inr hs),fun s hs=>?_,fun _=>?_,fun h=>(by cases h)⟩)
       ·rcases (w s).1 hs with rfl|hs
        ·exact .arc W f (k _ j)
        ·exact k s hs
       ·show cf (oX e n.Arcs[i].To)<cf m;omega
      ·refine Is.pure ⟨q,fun _ h=>h,k,p,fun a6=>⟨a6,rfl,fun f j=>Classical.byContradiction fun F=>?_⟩⟩;have:=hb.2 ⟨f,j,F⟩;rw [h] at this; cases this
    ·rintro ⟨v,b2⟩ ⟨N,L,K,J,I⟩;simp only at N L K J I;refine Is.bnq (aK (by omega)) (Is.next ⟨rfl,N,fun s hs=>L s (u s hs),K,J,fun a5=>?_⟩);obtain ⟨A,G,U⟩:=I a5;obtain ⟨T,k5⟩:=g A;subst G;refine ⟨T,fun a x f j=>?_⟩;rw [List.take_add_one,Ie t,Iq] at x;rcases x with x|x
     ·exact k5 a x f j
     ·obtain rfl:a=n.Arcs[i]:=by simpa using x
      rw [T] at U;exact U f j
   ·rintro ⟨e,z,_⟩ ⟨rfl,q,u,k,p,g⟩;simp only at q u k p g;rw [Ij] at g;refine Is.df (by omega) (Is.stop ⟨q,u,k,p,fun hb=>?_⟩);obtain ⟨A,G⟩:=g hb;exact ⟨A,fun s hs a ha he hf=>by rw [A] at hs ⊢; exact G a ha he (by rw [hf]; exact hs)⟩
  ·rintro (⟨e,z⟩|r) V
   ·obtain ⟨q,u,k,p,g⟩:=V;simp only at q u k p g;refine ⟨⟨q,fun s hs D B=>u _ (d s hs D B),k,fun hb=>(g hb).2⟩,?_⟩;cases z with
    | true=>have:=p rfl; show 2*cf e+1<2*cf m+1; omega
    | false=>rw [(g rfl).1]; show 2*cf m+0<2*cf m+1; omega
   ·exact V.elim
omit hn in
theorem qy {N:Nat} {l:List Int} (hl:∀s∈l,0≤s∧s<N) (hlen:l.length≤1000000000) {body:List Bool×Int→Option (cN (List Bool×Int) (List Bool))}
 (hb:∀m i,body (m,i)=bif decide (i<(l.length:Int)) then (bD l i).bind fun e=>(dE m e true).bind fun g=>(cd .i64 (i+1)).bind fun t=>some (.next (g,t)) else some (.stop m)) :
 Is (bc body ba (List.replicate N false,(0:Int))) fun m=>m.length=N∧∀s,Mk m s↔s∈l:=by
 refine Is.upto (fun i (c:List Bool×Int)=>c.2=(i:Int)∧c.1.length=N∧∀s,Mk c.1 s↔s∈l.take i) l.length (by omega) ⟨rfl,by simp,fun s=>⟨fun h=>absurd h gv,fun h=>by simp at h⟩⟩ ?_ ?_
 ·rintro i ⟨m,_⟩ d ⟨rfl,b,a⟩;simp only at b a;have f:=hl l[i] (Ii d);rw [hb];refine Is.dt (by omega) (Is.bnq (aZ d) (Is.bnq (iP f.1 (by omega)) (Is.bnq (aK (by omega)) (Is.next ⟨rfl,by rw [IR]; exact b,fun s=>?_⟩))));rw [show (m.set l[i].toNat true)=oX m l[i] from rfl,pr f.1 (by omega),a,List.take_add_one,Ie d,Iq];simp only [Option.toList_some,Ip];exact Or.comm
 ·rintro ⟨m,_⟩ ⟨rfl,b,a⟩;rw [hb];rw [Ij] at a;exact Is.df (by omega) (Is.stop ⟨b,a⟩)
open Classical in
noncomputable def Ae (n:T_NFA) (L:List Int) (b:Nat):List Int:=(n.Arcs.filter fun a=>!a.Epsilon && (decide (a.From∈L) && mem a.Set b)).map (·.To)
noncomputable def fC (n:T_NFA) (S:List Int) (b:Nat):List Int:=clo n (Ae n (clo n S) b)
omit hn in
theorem wy (n:T_NFA) (L:List Int) (b:Nat):(Ae n L b).length≤n.Arcs.length:=by
 unfold Ae;rw [Iy];exact List.length_filter_le _ _
open Classical in
theorem tP {L:List Int} {b:Nat} {m:List Bool} (hm:∀s,Mk m s↔s∈L) (o:m.length=n.States.toNat) {H:aT 4→Option Bool} (hH:∀v,W4 v→H v=some (mem v b)) {body:List Int×Int→Option (cN (List Int×Int) (List Int))}
 (hb:∀a i,body (a,i)=bif decide (i<(n.Arcs.length:Int)) then ((bD n.Arcs i).bind fun e=>(bif (!e.Epsilon) then (bD m e.From).bind fun q=>bif q then (H e.Set).bind fun r=>some r else some false else some false).bind fun r=>bif r then (cy 8 a [e.To]).bind fun l=>some l else some a).bind fun l=>(cd .i64 (i+1)).bind fun t=>some (.next (l,t)) else some (.stop a)) :
 bc body ba (([]:List Int),(0:Int))=some (Ae n L b):=by
 have hp:=hn.pos;have hlen:=hn.len;refine Is.eq ?_;refine Is.upto (fun i (f:List Int×Int)=>f.2=(i:Int)∧f.1=((n.Arcs.take i).filter fun a=>!a.Epsilon && (decide (a.From∈L) && mem a.Set b)).map (·.To)) n.Arcs.length (by omega) ⟨rfl,rfl⟩ ?_ ?_
 ·rintro i ⟨a,_⟩ c ⟨rfl,d⟩;obtain rfl:a=_:=d;have g:=Ii c;have k:=hn.arcs _ g;rw [hb];refine Is.dt (by omega) ?_;have hl:(((n.Arcs.take i).filter fun a=>!a.Epsilon && (decide (a.From∈L) && mem a.Set b)).map (·.To)).length≤i:=by
   rw [Iy];refine Nat.le_trans (List.length_filter_le _ _) ?_;rw [IF]; omega
  refine Is.bnd (P:=fun l=>l=((n.Arcs.take (i+1)).filter fun a=>!a.Epsilon && (decide (a.From∈L) && mem a.Set b)).map (·.To)) ?_ fun l hl=>Is.bnq (aK (by omega)) (Is.next ⟨rfl,hl⟩)
  refine Is.bnq (aZ c) ?_;rw [List.take_add_one,Ie c,List.filter_append,Iz];refine Is.bnq (x:=!n.Arcs[i].Epsilon && (decide (n.Arcs[i].From∈L) && mem n.Arcs[i].Set b)) ?_ ?_
  ·obtain ⟨q,eq,hq⟩:=tb (m:=m) k.1.1 (by omega);have j:q=decide (n.Arcs[i].From∈L):=by
    rw [Bool.eq_iff_iff,hq,hm,decide_eq_true_eq]
   subst j;cases n.Arcs[i].Epsilon
   ·refine aN eq ?_;cases decide (n.Arcs[i].From∈L)
    ·rfl
    ·exact aN (hH _ (hn.sets _ g)) rfl
   ·rfl
  refine Is.cnd (fun h=>?_) (fun h=>?_)
  ·refine Is.bnq (bO (by simp only [Ih]; omega)) (Is.pure ?_);simp only [Option.toList_some,List.filter_cons,h,if_true,List.filter_nil,List.map_cons,List.map_nil]
  ·refine Is.pure ?_;simp only [Option.toList_some,List.filter_cons,h,Bool.false_eq_true,if_false,List.filter_nil,List.map_nil,List.append_nil]
 ·rintro ⟨a,_⟩ ⟨rfl,d⟩;obtain rfl:a=_:=d;rw [hb];refine Is.df (by omega) (Is.stop ?_);rw [Ij];rfl
theorem vY {S:List Int}:∀s∈clo n S,0≤s∧s<(n.States.toNat:Int):=by
 intro s hs;have:=((pw hn).1 hs).lt hn;omega
theorem ow {S:List Int}:(clo n S).length≤2000:=by
 have:=Bq n S;have:=hn.most;omega
theorem Ax (c:S.length≤1000000000) {b:Nat} (hb:b<256):M.m6 n S (b:Int)=some (fC n S b):=by
 have hlen:=hn.len;refine Is.eq ?_;unfold M.m6;refine Is.bnq (mz hn) ?_;have f:=ow hn (S:=S);refine Is.bnd (P:=fun m:List Bool=>m.length=n.States.toNat∧∀s,Mk m s↔s∈clo n S) (Is.bnq (mK hn c) (qy (vY hn) (by omega) (fun _ _=>rfl))) ?_;rintro m ⟨e,d⟩;refine Is.bnq (tP hn (b:=b) d e (H:=fun v=>M.g2 v (b:Int)) (fun v a=>vP a hb) (fun _ _=>rfl)) ?_;have:=wy n (clo n S) b;exact Is.bnq (mK hn (by omega)) (Is.pure rfl)
theorem vh (c:S.length≤1000000000) {b:Nat} (hb:b<256):M.l3 n S (b:Int)=some (fC n S b):=by
 have hlen:=hn.len;refine Is.eq ?_;unfold M.l3;refine Is.bnq (mz hn) (Is.bnq (fY hn c) ?_);have f:=ow hn (S:=S);refine Is.bnd (P:=fun m:List Bool=>m.length=n.States.toNat∧∀s,Mk m s↔s∈clo n S) (qy (vY hn) (by omega) (fun _ _=>rfl)) ?_;rintro m ⟨e,d⟩;refine Is.bnq (tP hn (b:=b) d e (H:=fun v=>M.h8 v (b:Int)) (fun v a=>tc a hb) (fun _ _=>rfl)) ?_;have:=wy n (clo n S) b;exact Is.bnq (fY hn (by omega)) (Is.pure rfl)
theorem AD (s:Int):oK n (clo n S) s↔oK n S s:=by
 constructor
 ·intro h;induction h with
  | base hs _ _=>exact (pw hn).1 hs
  | arc ha he _ ih=>exact .arc ha he ih
 ·intro h;have:=h.lt hn;exact .base ((pw hn).2 h) this.1 this.2
theorem Br:clo n (clo n S)=clo n S:=by
 unfold clo;congr 1;refine IS fun i _=>?_
 rw [decide_eq_decide];exact AD hn i
theorem Bn {b:Nat}:clo n (fC n S b)=fC n S b:=Br hn
end
def gg (acc:List Int) (o:Int) (s:Int):Int:=bif decide (0≤acc.getD s.toNat 0) && (decide (o<0) || decide (acc.getD s.toNat 0<o)) then acc.getD s.toNat 0 else o
theorem zI (e o:Int):(bif decide (0≤e) then bif decide (o<0) then some true else some (decide (e<o)) else some false).bind (fun x=>bif x then some e else some o)=some (bif decide (0≤e) && (decide (o<0) || decide (e<o)) then e else o):=by
 cases decide (0≤e) <;> cases decide (o<0) <;> cases decide (e<o) <;> rfl
def oz (acc:List Int) (l:List Int):Int:=l.foldl (gg acc) (-1)
theorem sv {acc l:List Int} (hl:∀s∈l,0≤s∧s<(acc.length:Int)) (hlen:l.length≤1000000000) {body:Int×Int→Option (cN (Int×Int) Int)}
 (hb:∀o i,body (o,i)=bif decide (i<(l.length:Int)) then ((bD l i).bind fun h=>(bD acc h).bind fun c=>(bif decide (0≤c) then bif decide (o<0) then some true else some (decide (c<o)) else some false).bind fun x=>bif x then some c else some o).bind fun g=>(cd .i64 (i+1)).bind fun t=>some (.next (g,t)) else some (.stop o)) :
 bc body ba (((-1):Int),(0:Int))=some (oz acc l):=by
 refine Is.eq ?_;refine Is.upto (fun i (e:Int×Int)=>e.2=(i:Int)∧e.1=(l.take i).foldl (gg acc) (-1)) l.length (by omega) ⟨rfl,rfl⟩ ?_ ?_
 ·rintro i ⟨o,_⟩ a ⟨rfl,b⟩;obtain rfl:o=_:=b;have f:=hl l[i] (Ii a);rw [hb];refine Is.dt (by omega) (Is.bnq (x:=gg acc ((l.take i).foldl (gg acc) (-1)) l[i]) ?_ (Is.bnq (aK (by omega)) (Is.next ⟨rfl,?_⟩)))
  ·refine aN (aZ a) (aN (dZ (d:=0) f.1 f.2) ?_);exact zI _ _
  ·rw [List.take_add_one,Ie a,List.foldl_append];rfl
 ·rintro ⟨o,_⟩ ⟨rfl,b⟩;obtain rfl:o=_:=b;rw [hb];refine Is.df (by omega) (Is.stop ?_);rw [Ij];rfl
theorem wg {n:T_NFA} {l:List Int} (hl:∀s∈l,0≤s∧s<(n.Accept.length:Int)) (hlen:l.length≤1000000000):M.k7 n l=some (oz n.Accept l):=by
 unfold M.k7;exact aN (sv hl hlen (fun _ _=>rfl)) rfl
theorem zf {n:T_NFA} {l:List Int} (hl:∀s∈l,0≤s∧s<(n.Accept.length:Int)) (hlen:l.length≤1000000000):M.k0 n l=some (oz n.Accept l):=by
 unfold M.k0;exact aN (sv hl hlen (fun _ _=>rfl)) rfl
noncomputable def tQ (n:T_NFA) (S:List Int) (s:Str):List Int:=(s.map UInt8.toNat).foldl (fC n) (clo n S)
noncomputable def Cr (n:T_NFA) (s:Str):Int:=oz n.Accept (tQ n [n.Start] s)
section
variable {n:T_NFA} (hn:FitN n)
include hn
omit hn in
theorem Av:∀(l:List Nat) (S:List Int),(∃T,S=clo n T)→∃T,l.foldl (fC n) S=clo n T:=by
 intro l;induction l with
 | nil=>exact fun S h=>h
 | cons b l ih=>exact fun S _=>ih _ ⟨_,rfl⟩
theorem qQ (l:List Int) (h:∃T,l=clo n T):(∀s∈l,0≤s∧s<(n.Accept.length:Int))∧l.length≤2000:=by
 obtain ⟨T,rfl⟩:=h;have h1:=hn.acc;have h2:=hn.pos;exact ⟨fun s hs=>by have:=vY hn s hs; omega,ow hn⟩
end
def cols (d:T_DFA):Nat:=(d.Next.getD 0 []).length
structure Ok (d:T_DFA):Prop where
  cls:d.Class.length=256
  pos:1≤d.Next.length
  max:d.Next.length≤500
  acc:d.Accept.length=d.Next.length
  col:1≤cols d
  inc:∀c∈d.Class,0≤c∧c<(cols d:Int)
  row:∀r∈d.Next,r.length=cols d∧∀t∈r,-1≤t∧t<(d.Next.length:Int)
  accs:∀a∈d.Accept,-1≤a
theorem zj {s:List Int} {f:Int→Option Bool} {p:Int→Bool} (hf:∀x∈s,f x=some (p x)) (hl:s.length≤9223372036854775807) :
 Is (M.c1 s f) (fun r=>decide (0≤r)=s.any p):=by
 unfold M.c1;refine Is.bs (P:=fun _=>s.any p=false) (Is.upto (fun i c=>c=(i:Int)∧∀x∈s.take i,p x=false) s.length hl ⟨rfl,by simp⟩ ?_ ?_) ?_
 ·rintro i _ b ⟨rfl,a⟩;refine Is.dt (by omega) (Is.bnq (aZ b) (Is.bnq (hf _ (Ii b)) (Is.cnd (fun hp=>?_) (fun hp=>?_))))
  ·exact Is.stop (show decide _=_ by rw [List.any_eq_true.2 ⟨_,Ii b,hp⟩]; simp)
  ·refine Is.bnq (aK (by omega)) (Is.next ⟨rfl,fun x hx=>?_⟩);rw [It b,Iq] at hx;rcases hx with hx|hx
   ·exact a x hx
   ·rw [Ip.1 hx]; exact hp
 ·rintro _ ⟨rfl,a⟩;refine Is.df (by omega) (Is.stop ?_);rw [Ij] at a;exact List.any_eq_false.2 fun x hx=>by simp [a x hx]
 ·intro _ h;exact Is.pure (by rw [h]; rfl)
theorem oI {s:List Int} {f:Int→Option Bool} {p:Int→Bool} (hf:∀x∈s,f x=some (p x)) (hl:s.length≤9223372036854775807):M.a7 s f=some (s.any p):=by
 obtain ⟨r,hr,h⟩:=zj hf hl;unfold M.a7;rw [hr,←h]; rfl
def GR (d:T_DFA):Prop:=d.Class.length≤9223372036854775807∧d.Next.length≤9223372036854775807∧(∀r∈d.Next,r.length≤9223372036854775807)∧d.Accept.length≤9223372036854775807
theorem zm {d:T_DFA} (h:1≤d.Next.length):bD d.Next 0=some (d.Next.getD 0 []):=by
 have:=aZ (l:=d.Next) (i:=0) (by omega);rw [show (0:Int)=((0:Nat):Int) from rfl,this];simp [Ic,show 0<d.Next.length by omega]
abbrev EU (d:T_DFA) (b:Bool):Prop:=b=true↔Ok d
theorem pW {d:T_DFA} (h:¬ Ok d):EU d false:=⟨fun e=>(by cases e),fun e=>(h e).elim⟩
def DL (d:T_DFA):Prop:=d.Class.length=256∧1≤d.Next.length∧d.Next.length≤500∧d.Accept.length=d.Next.length
theorem Cz (d:T_DFA):Is (bif ((d.Class.length:Int) != 256) then
 some true
 else
  bif (decide ((d.Next.length:Int)<1)) then
   some true
  else
   bif (decide (500<(d.Next.length:Int))) then
    some true
   else
    some ((d.Accept.length:Int) != (d.Next.length:Int))) (fun b=>(b=true∧¬ Ok d)∨(b=false∧DL d)):=by
 refine Is.cnd (fun h=>Is.pure (.inl ⟨rfl,fun a=>?_⟩)) fun e=>Is.dcd (fun h=>Is.pure (.inl ⟨rfl,fun a=>?_⟩)) fun g=>Is.dcd (fun h=>Is.pure (.inl ⟨rfl,fun a=>?_⟩)) fun f=>Is.pure ?_
 ·have:=a.cls; simp [this] at h
 ·have:=a.pos; omega
 ·have:=a.max; omega
 ·have e:d.Class.length=256:=by have:=dX e; omega
  by_cases c:d.Accept.length=d.Next.length
  ·exact .inr ⟨by simp [c],e,by omega,by omega,c⟩
  ·exact .inl ⟨by simp; omega,fun a=>c a.acc⟩
theorem tY {d:T_DFA} (hd:GR d):Is (M.h0 d) (EU d):=by
 obtain ⟨I,k,D,H⟩:=hd;unfold M.h0;refine Is.bnd (Cz d) ?_;rintro _ (⟨rfl,f⟩|⟨rfl,x,w,a3,a4⟩)
 ·exact Is.ct rfl (Is.pure (pW f))
 refine Is.cf rfl (Is.bnq (zm w) ?_);have A:(d.Next.getD 0 []).length≤9223372036854775807:=D _ (cM (by omega));have B:((d.Next.getD 0 []).length:Int)=(cols d:Int):=rfl;have z:cols d≤9223372036854775807:=A;rw [B];refine Is.dcd (fun h=>Is.pure (pW fun g=>by have:=g.col; omega)) fun a5=>?_
 refine Is.bs (P:=fun _=>∀c∈d.Class,0≤c∧c<(cols d:Int)) (Is.upto (fun i m=>m=(i:Int)∧∀c∈d.Class.take i,0≤c∧c<(cols d:Int)) 256 (by omega) ⟨rfl,by simp⟩ ?_ ?_) ?_
 ·rintro i _ n ⟨rfl,f⟩;have v:i<d.Class.length:=by omega
  have hm:=Ii v;refine Is.dt (by omega) (Is.bnd (P:=fun b=>(b=true∧¬ Ok d)∨(b=false∧0≤d.Class[i]∧d.Class[i]<(cols d:Int))) ?_ ?_)
  ·refine Is.bnq (aZ v) (Is.dcd (fun h=>Is.pure (.inl ⟨rfl,fun g=>?_⟩)) fun h=>Is.pure ?_)
   ·have:=g.inc _ hm; omega
   ·by_cases k:d.Class[i]<(cols d:Int)
    ·exact .inr ⟨by simpa using k,by omega,k⟩
    ·exact .inl ⟨by simp; omega,fun g=>k (g.inc _ hm).2⟩
  ·rintro _ (⟨rfl,f⟩|⟨rfl,b⟩)
   ·exact Is.ct rfl (Is.stop (pW f))
   ·refine Is.cf rfl (Is.bnq (aK (by omega)) (Is.next ⟨rfl,fun r e=>?_⟩));rw [It v,Iq] at e;rcases e with e|e
    ·exact f r e
    ·rw [Ip.1 e]; exact b
 ·rintro _ ⟨rfl,f⟩;refine Is.df (by omega) (Is.stop ?_)
  rwa [←x,Ij] at f
 intro _ F;refine Is.bs (P:=fun _=>(∀r∈d.Next,r.length=cols d∧∀t∈r,-1≤t∧t<(d.Next.length:Int))∧∀a∈d.Accept,-1≤a)
  (Is.upto (fun i m=>m=(i:Int)∧(∀r∈d.Next.take i,r.length=cols d∧∀t∈r,-1≤t∧t<(d.Next.length:Int))∧∀a∈d.Accept.take i,-1≤a) d.Next.length k ⟨rfl,by simp,by simp⟩ ?_ ?_) ?_
 ·rintro i _ n ⟨rfl,f,p⟩;have hm:=Ii n;have u:i<d.Accept.length:=by omega
  have y:=Ii u;refine Is.dt (by omega) (Is.bs (P:=fun _=>(d.Next[i].length=cols d∧∀t∈d.Next[i],-1≤t∧t<(d.Next.length:Int))∧-1≤d.Accept[i]) ?_ ?_)
  ·refine Is.bnd (P:=fun b=>(b=true∧¬ Ok d)∨(b=false∧d.Next[i].length=cols d∧-1≤d.Accept[i])) ?_ ?_
   ·refine Is.bnq (aZ n) (Is.cnd (fun h=>Is.pure (.inl ⟨rfl,fun g=>?_⟩)) fun h=>Is.bnq (aZ u) (Is.pure ?_))
    ·have:=(g.row _ hm).1; simp [this] at h
    ·by_cases b:d.Accept[i] < -1
     ·exact .inl ⟨by simpa using b,fun g=>by have:=g.accs _ y; omega⟩
     ·exact .inr ⟨by simpa using b,by have:=dX h; omega,by omega⟩
   ·rintro _ (⟨rfl,f⟩|⟨rfl,l,o⟩)
    ·exact Is.ct rfl (Is.stop (pW f))
    ·refine Is.cf rfl (Is.upto (fun j m=>m=(j:Int)∧∀t∈d.Next[i].take j,-1≤t∧t<(d.Next.length:Int)) (cols d) z ⟨rfl,by simp⟩ ?_ ?_)
     ·rintro j _ G ⟨rfl,q⟩;have s:j<d.Next[i].length:=by omega
      have hm':=Ii s;refine Is.dt (by omega) (Is.bnd (P:=fun b=>(b=true∧¬ Ok d)∨(b=false∧-1≤d.Next[i][j]∧d.Next[i][j]<(d.Next.length:Int))) ?_ ?_)
      ·refine Is.bnq (aZ n) (Is.bnq (aZ s) (Is.dcd (fun h=>Is.pure (.inl ⟨rfl,fun g=>?_⟩)) fun h=>Is.pure ?_))
       ·have:=(g.row _ hm).2 _ hm'; omega
       ·by_cases k:d.Next[i][j]<(d.Next.length:Int)
        ·exact .inr ⟨by simpa using k,by omega,k⟩
        ·exact .inl ⟨by simp; omega,fun g=>k ((g.row _ hm).2 _ hm').2⟩
      ·rintro _ (⟨rfl,f⟩|⟨rfl,b⟩)
       ·exact Is.ct rfl (Is.stop (pW f))
       ·refine Is.cf rfl (Is.bnq (aK (by omega)) (Is.next ⟨rfl,fun r e=>?_⟩));rw [It s,Iq] at e;rcases e with e|e
        ·exact q r e
        ·rw [Ip.1 e]; exact b
     ·rintro _ ⟨rfl,q⟩;refine Is.df (by omega) (Is.stop ?_);rw [←l,Ij] at q;exact ⟨⟨l,q⟩,o⟩
  ·rintro _ ⟨l,o⟩;refine Is.bnq (aK (by omega)) (Is.next ⟨rfl,fun r e=>?_,fun a ha=>?_⟩)
   ·rw [It n,Iq] at e;rcases e with e|e
    ·exact f r e
    ·rw [Ip.1 e]; exact l
   ·rw [It u,Iq] at ha;rcases ha with ha|ha
    ·exact p a ha
    ·rw [Ip.1 ha]; exact o
 ·rintro _ ⟨rfl,f,p⟩;refine Is.df (by omega) (Is.stop ?_);rw [Ij] at f;rw [←a4,Ij] at p;exact ⟨f,p⟩
 ·rintro _ ⟨l,o⟩;exact Is.pure ⟨fun _=>⟨x,w,a3,a4,by omega,F,l,o⟩,fun _=>rfl⟩
structure VN (n:T_NFA):Prop where
  pos:1≤n.States
  most:n.States≤2000
  start:0≤n.Start∧n.Start<n.States
  acc:(n.Accept.length:Int)=n.States
  low:∀x∈n.Accept,-1≤x
  arcs:∀a∈n.Arcs,(0≤a.From∧a.From<n.States)∧(0≤a.To∧a.To<n.States)∧(a.Epsilon=true→a.Set=aT.zero 4)
def CA (n:T_NFA):Prop:=1≤n.States∧n.States≤2000∧(0≤n.Start∧n.Start<n.States)∧(n.Accept.length:Int)=n.States
theorem VN.fit {n:T_NFA} (h:VN n) (hl:n.Arcs.length≤1000000000) (hs:∀a∈n.Arcs,W4 a.Set):FitN n:=⟨h.pos,h.most,h.start,h.acc,h.low,h.arcs,hl,hs⟩
theorem VN.pre {n:T_NFA} (h:VN n):CA n:=⟨h.pos,h.most,h.start,h.acc⟩
def sw (n:T_NFA) (a:ca):Prop:=(0≤a.From∧a.From<n.States)∧(0≤a.To∧a.To<n.States)∧(a.Epsilon=true→a.Set=aT.zero 4)
theorem fG {α:Type} {l:List α} {i:Nat} (hi:i<l.length) {x:α}:x∈l.take (i+1)↔x∈l.take i∨x=l[i]:=by
 rw [List.take_add_one,Ie hi,Iq];simp
theorem sG {n:T_NFA} (hl:n.Arcs.length≤9223372036854775807) (ha:n.Accept.length≤9223372036854775807):Is (M.i8 n) (fun b=>b=true↔VN n):=by
 unfold M.i8;refine Is.bnd (P:=fun b:Bool=>b=false↔CA n) ?_ fun b hb=>?_
 ·refine Is.dcd (fun h=>Is.pure ⟨fun e=>(by cases e),fun e=>by have:=e.1; omega⟩) (fun p=>?_);refine Is.dcd (fun h=>Is.pure ⟨fun e=>(by cases e),fun e=>by have:=e.2.1; omega⟩) (fun o=>?_);refine Is.dcd (fun h=>Is.pure ⟨fun e=>(by cases e),fun e=>by have:=e.2.2.1.1; omega⟩) (fun m=>?_);refine Is.dcd (fun h=>Is.pure ⟨fun e=>(by cases e),fun e=>by have:=e.2.2.1.2; omega⟩) (fun l=>Is.pure ?_);exact ⟨fun e=>⟨by omega,by omega,⟨by omega,by omega⟩,dX e⟩,fun e=>su e.2.2.2⟩
 refine Is.cnd (fun h=>Is.pure ⟨fun e=>(by cases e),fun e=>by have:=hb.2 e.pre; rw [h] at this; cases this⟩) (fun h=>?_);have f:=hb.1 h;refine Is.bs (P:=fun _:Unit=>∀x∈n.Accept,-1≤x) ?_ fun _ hacc=>Is.bs (P:=fun _:Unit=>∀a∈n.Arcs,sw n a) ?_ fun _ k=>Is.pure ⟨fun _=>⟨f.1,f.2.1,f.2.2.1,f.2.2.2,hacc,k⟩,fun _=>rfl⟩
 ·refine Is.upto (fun i (g:Int)=>g=(i:Int)∧∀x∈n.Accept.take i,-1≤x) n.Accept.length ha ⟨rfl,by simp⟩ ?_ ?_
  ·rintro i _ d ⟨rfl,c⟩;refine Is.dt (by omega) (Is.bnq (aZ d) (Is.dcd (fun h=>Is.stop ⟨fun e=>(by cases e),fun e=>?_⟩) (fun h=>Is.bnq (aK (by omega)) (Is.next ⟨rfl,fun x hx=>?_⟩))))
   ·have:=e.low _ (Ii d); omega
   ·rcases (fG d).1 hx with hx|rfl
    ·exact c x hx
    ·omega
  ·rintro _ ⟨rfl,c⟩;rw [Ij] at c;exact Is.df (by omega) (Is.stop c)
 ·refine Is.upto (fun i (g:Int)=>g=(i:Int)∧∀a∈n.Arcs.take i,sw n a) n.Arcs.length hl ⟨rfl,by simp⟩ ?_ ?_
  ·rintro i _ d ⟨rfl,c⟩;refine Is.dt (by omega) (Is.bnq (aZ d) (Is.bnd (P:=fun b:Bool=>b=false↔sw n n.Arcs[i]) ?_ fun b hb=>Is.cnd (fun h=>Is.stop ⟨fun e=>(by cases e),fun e=>?_⟩) (fun h=>Is.bnq (aK (by omega)) (Is.next ⟨rfl,fun x hx=>?_⟩))))
   ·refine Is.dcd (fun h=>Is.pure ⟨fun e=>(by cases e),fun e=>by have:=e.1.1; omega⟩) (fun p=>?_);refine Is.dcd (fun h=>Is.pure ⟨fun e=>(by cases e),fun e=>by have:=e.1.2; omega⟩) (fun o=>?_);refine Is.dcd (fun h=>Is.pure ⟨fun e=>(by cases e),fun e=>by have:=e.2.1.1; omega⟩) (fun m=>?_);refine Is.dcd (fun h=>Is.pure ⟨fun e=>(by cases e),fun e=>by have:=e.2.1.2; omega⟩) (fun l=>?_);refine Is.cnd (fun j=>Is.pure ?_) (fun j=>Is.pure ⟨fun _=>⟨by omega,by omega,fun e=>by rw [j] at e; cases e⟩,fun _=>rfl⟩);rw [bne_eq_false_iff_eq];exact ⟨fun e=>⟨by omega,by omega,fun _=>e⟩,fun e=>e.2.2 j⟩
   ·have:=hb.2 (e.arcs _ (Ii d)); rw [h] at this; cases this
   ·rcases (fG d).1 hx with hx|rfl
    ·exact c x hx
    ·exact hb.1 h
  ·rintro _ ⟨rfl,c⟩;rw [Ij] at c;exact Is.df (by omega) (Is.stop c)
theorem ol (n:T_NFA) (s:Int):M.h4 s n=some (decide (0≤s∧s<n.States)):=by
 unfold M.h4
 by_cases h:0≤s
 ·rw [decide_eq_true h]
  by_cases a:s<n.States
  ·rw [decide_eq_true a,decide_eq_true (show 0≤s∧s<n.States from ⟨h,a⟩)]; rfl
  ·rw [decide_eq_false a,decide_eq_false (show ¬ (0≤s∧s<n.States) from fun e=>a e.2)]; rfl
 ·rw [decide_eq_false h,decide_eq_false (show ¬ (0≤s∧s<n.States) from fun e=>h e.1)]; rfl
theorem xo {n:T_NFA} (hl:n.Arcs.length≤9223372036854775807) (ha:n.Accept.length≤9223372036854775807):Is (M.l0 n) (fun b=>b=true↔VN n):=by
 unfold M.l0;refine Is.bnd (P:=fun b:Bool=>b=false↔CA n) ?_ fun b hb=>?_
 ·refine Is.dcd (fun h=>Is.pure ⟨fun e=>(by cases e),fun e=>by have:=e.1; omega⟩) (fun d=>?_);refine Is.dcd (fun h=>Is.pure ⟨fun e=>(by cases e),fun e=>by have:=e.2.1; omega⟩) (fun c=>?_);refine Is.bnq (ol n _) (Is.cnd (fun h=>Is.pure ⟨fun e=>(by cases e),fun e=>?_⟩) (fun h=>Is.pure ?_))
  ·have:=decide_eq_true (p:=0≤n.Start∧n.Start<n.States) e.2.2.1;rw [this] at h; cases h
  ·have o:0≤n.Start∧n.Start<n.States:=of_decide_eq_true (by simpa using h);exact ⟨fun e=>⟨by omega,by omega,o,dX e⟩,fun e=>su e.2.2.2⟩
 refine Is.cnd (fun h=>Is.pure ⟨fun e=>(by cases e),fun e=>by have:=hb.2 e.pre; rw [h] at this; cases this⟩) (fun h=>?_);have f:=hb.1 h;refine Is.bs (P:=fun _:Unit=>∀a∈n.Arcs,sw n a) ?_ fun _ m=>?_
 ·refine Is.upto (fun i (l:Int)=>l=(i:Int)∧∀a∈n.Arcs.take i,sw n a) n.Arcs.length hl ⟨rfl,by simp⟩ ?_ ?_
  ·rintro i _ j ⟨rfl,g⟩;refine Is.dt (by omega) (Is.bnq (aZ j) (Is.bnd (P:=fun b:Bool=>b=false↔sw n n.Arcs[i]) ?_ fun b hb=>Is.cnd (fun h=>Is.stop ⟨fun e=>(by cases e),fun e=>?_⟩) (fun h=>Is.bnq (aK (by omega)) (Is.next ⟨rfl,fun x hx=>?_⟩))))
   ·refine Is.bnq (ol n _) (Is.cnd (fun h=>Is.pure ⟨fun e=>(by cases e),fun e=>?_⟩) (fun d=>?_))
    ·rw [decide_eq_true e.1] at h; cases h
    have d:0≤n.Arcs[i].From∧n.Arcs[i].From<n.States:=of_decide_eq_true (by simpa using d);refine Is.bnq (ol n _) (Is.cnd (fun h=>Is.pure ⟨fun e=>(by cases e),fun e=>?_⟩) (fun c=>?_))
    ·rw [decide_eq_true e.2.1] at h; cases h
    have c:0≤n.Arcs[i].To∧n.Arcs[i].To<n.States:=of_decide_eq_true (by simpa using c);refine Is.cnd (fun k=>Is.pure ?_) (fun k=>Is.pure ⟨fun _=>⟨d,c,fun e=>by rw [k] at e; cases e⟩,fun _=>rfl⟩);rw [bne_eq_false_iff_eq];exact ⟨fun e=>⟨d,c,fun _=>e⟩,fun e=>e.2.2 k⟩
   ·have:=hb.2 (e.arcs _ (Ii j)); rw [h] at this; cases this
   ·rcases (fG j).1 hx with hx|rfl
    ·exact g x hx
    ·exact hb.1 h
  ·rintro _ ⟨rfl,g⟩;rw [Ij] at g;exact Is.df (by omega) (Is.stop g)
 ·refine Is.bnq (oI (p:=fun x=>decide (x < -1)) (fun x _=>rfl) ha) (Is.pure ?_);rw [Bool.not_eq_true',List.any_eq_false];exact ⟨fun e=>⟨f.1,f.2.1,f.2.2.1,f.2.2.2,fun x hx=>by have:=e x hx; simp at this; omega,m⟩,fun e x hx=>by have:=e.low x hx; simp; omega⟩
theorem um {α:Type} [DecidableEq α]:∀(l m:List α),l.Nodup→(∀x∈l,x∈m)→l.length≤m.length
 | [],_,_,_=>Nat.zero_le _
 | x::l,m,hn,hs=>by
  have hx:=hs x (by simp);have a:=List.nodup_cons.1 hn;have:=um l (m.erase x) a.2 fun y hy=>(List.mem_erase_of_ne (fun e=>a.1 (by rw [←e]; exact hy))).2 (hs y (by simp [hy]))
  rw [List.length_erase_of_mem hx] at this;have:=List.length_pos_of_mem hx;simp only [IG]; omega
inductive RS (n:T_NFA):List Int→Prop where
  | start:RS n (clo n [n.Start])
  | step {S:List Int} {b:Nat}:RS n S→b<256→fC n S b≠[]→RS n (fC n S b)
def EX (n:T_NFA):Prop:=∃l:List (List Int),l.Nodup∧500<l.length∧∀S∈l,RS n S
def tv (n:T_NFA):Prop:=∃l:List (List Int),l.length≤500∧∀S,RS n S→S∈l
theorem AW {n:T_NFA} (h:EX n) (h2:tv n):False:=by
 obtain ⟨l,h1,h3,h4⟩:=h;obtain ⟨m,h5,h6⟩:=h2;have:=um l m h1 fun S hS=>h6 S (h4 S hS)
 omega
theorem RS.clo {n:T_NFA} {S:List Int} (h:RS n S):∃T,S=clo n T:=by
 cases h with
 | start=>exact ⟨_,rfl⟩
 | step _ _ _=>exact ⟨_,rfl⟩
theorem wY (n:T_NFA):clo n []=[]:=by
 unfold Go.Proofs.YtggpjcdhflcfmaaGreatDoor.clo;rw [List.map_eq_nil_iff,List.filter_eq_nil_iff];intro i _;have:¬ oK n [] (i:Int):=by
  intro h;have:∀s,oK n [] s→False:=by
   intro s h;induction h with
   | base hs _ _=>cases hs
   | arc _ _ _ ih=>exact ih
  exact this _ h
 simpa using this
theorem Aw (n:T_NFA) (b:Nat):fC n [] b=[]:=by
 unfold fC;rw [wY];have:Ae n [] b=[]:=by
  unfold Ae;simp
 rw [this,wY]
theorem As {n:T_NFA} {p:ca→Bool} (hp:∀a∈n.Arcs,a.Epsilon=false→p a=true) {a b:Nat} (h:dz ((n.Arcs.filter p).map (·.Set)) a=dz ((n.Arcs.filter p).map (·.Set)) b) (L:List Int):Ae n L a=Ae n L b:=by
 unfold Ae;congr 1;refine IS fun x hx=>?_
 cases he:x.Epsilon
 ·have hm:x.Set∈(n.Arcs.filter p).map (·.Set):=IK.2 ⟨x,IT.2 ⟨hx,hp x hx he⟩,rfl⟩;have:mem x.Set a=mem x.Set b:=by
   unfold dz at h;rw [List.map_inj_left] at h;exact h _ hm
  rw [this]
 ·rfl
theorem wD {n:T_NFA} {p:ca→Bool} (hp:∀a∈n.Arcs,a.Epsilon=false→p a=true) {a b:Nat} (h:dz ((n.Arcs.filter p).map (·.Set)) a=dz ((n.Arcs.filter p).map (·.Set)) b) (S:List Int):fC n S a=fC n S b:=by
 unfold fC;rw [As hp h]
def fV (σ:Nat→List Bool) (i:Nat) (fb:List Int):Prop:=fb.length=(D σ i).length∧∀c,c<fb.length→∃b:Nat,b<i∧fb[c]?=some (b:Int)∧(D σ i)[c]?=some (σ b)
theorem oH {l:List (aT 4)} {N:Int} (p:N=256) {body:List Int×Int→Option (cN (List Int×Int) (List Int))}
 (hb:∀a i,body (a,i)=bif decide (i<N) then ((bD (lO l) i).bind fun e=>bif (e == (a.length:Int)) then (cy 1 a [(IntKind.u8.wrap i)]).bind fun l=>some l else some a).bind fun l=>(cd .i64 (i+1)).bind fun t=>some (.next (l,t)) else some (.stop a)) :
 Is (bc body ba (([]:List Int),(0:Int))) (fV (dz l) 256):=by
 subst p;refine Is.upto (fun i (k:List Int×Int)=>k.2=(i:Int)∧fV (dz l) i k.1) 256 (by omega) ⟨rfl,rfl,fun c d=>by simp at d⟩ ?_ ?_
 ·rintro i ⟨a,_⟩ m ⟨rfl,f⟩;simp only at f;rw [hb];have hlen:(lO l).length=256:=by simp [lO]
  have s:=Ad (σ:=dz l) i;refine Is.dt (by omega) (Is.bnd (P:=fV (dz l) (i+1)) ?_ fun r o=>Is.bnq (aK (by omega)) (Is.next ⟨rfl,o⟩));refine Is.bnq (x:=(cls (dz l) i:Int)) (by rw [aZ (by omega)]; simp [lO]) ?_
  by_cases hm:dz l i∈D (dz l) i
  ·have d:=(th m hm).2;refine Is.cf (cv (by have:=f.1; omega)) (Is.pure ⟨by rw [xm hm]; exact f.1,fun c d=>?_⟩);obtain ⟨b,q,j,h⟩:=f.2 c d;exact ⟨b,by omega,j,by rw [xm hm]; exact h⟩
  ·obtain ⟨d,g⟩:=py m hm;have ha:a.length=(D (dz l) i).length:=f.1;refine Is.ct (qR (by omega)) (Is.bnq (bO (by simp only [Ih]; omega)) (Is.pure ⟨by rw [g]; simp only [Ik,Ih]; omega,fun c d=>?_⟩));rw [mQ (n:=i) (by omega)];simp only [Ik,Ih] at d;rcases Nat.lt_or_eq_of_le (Nat.le_of_lt_succ d) with hlt|heq
   ·obtain ⟨b,q,j,h⟩:=f.2 c hlt;exact ⟨b,by omega,by rw [Iu hlt]; exact j,by rw [g,Iu (by omega)]; exact h⟩
   ·subst heq;exact ⟨i,by omega,by simp,by rw [g,ha]; simp⟩
 ·rintro ⟨a,_⟩ ⟨rfl,f⟩;rw [hb];exact Is.df (by omega) (Is.stop f)
theorem fV.at {l:List (aT 4)} {fb:List Int} (h:fV (dz l) 256 fb) {b:Nat} (hb:b<256):∃a:Nat,a<256∧cls (dz l) b<fb.length∧fb[cls (dz l) b]?=some (a:Int)∧dz l a=dz l b:=by
 have hm:dz l b∈D (dz l) 256:=yZ.2 ⟨b,hb,rfl⟩;have c:(D (dz l) 256).idxOf (dz l b)<(D (dz l) 256).length:=List.idxOf_lt_length_of_mem hm;have e:cls (dz l) b<fb.length:=by rw [h.1]; exact c
 obtain ⟨a,g,f,d⟩:=h.2 _ e;refine ⟨a,g,e,f,?_⟩;unfold cls at d;rw [Ie c,List.getElem_idxOf c] at d;exact (Option.some.inj d).symm
theorem fV.byte {l:List (aT 4)} {fb:List Int} (h:fV (dz l) 256 fb) {c:Nat} (hc:c<fb.length):∃b:Nat,b<256∧bD fb (c:Int)=some (b:Int):=by
 obtain ⟨b,g1,g2,_⟩:=h.2 c hc;refine ⟨b,g1,?_⟩;rw [Ie hc] at g2;rw [aZ hc,Option.some.inj g2]
theorem fV.len {l:List (aT 4)} {fb:List Int} (h:fV (dz l) 256 fb):1≤fb.length∧fb.length≤256:=by
 have h1:=h.at (b:=0) (by omega);have h2:=Ad (σ:=dz l) 256;obtain ⟨_,_,h3,_⟩:=h1;have:=h.1;omega
theorem BP {a b:List Int} (h:a.length≤1000000000):M.l4 a b=some (decide (a=b)):=by
 refine Is.eq ?_;unfold M.l4
 by_cases hl:a.length=b.length
 ·refine Is.cf (su (by omega)) ?_;refine Is.bs (P:=fun _:Unit=>a=b) (Q:=fun r=>r=decide (a=b)) ?_ fun _ h=>Is.pure (decide_eq_true h).symm
  refine Is.upto (fun i (g:Int)=>g=(i:Int)∧a.take i=b.take i) a.length (by omega) ⟨rfl,rfl⟩ ?_ ?_
  ·rintro i _ f ⟨rfl,c⟩;refine Is.dt (by omega) (Is.bnq (aZ f) (Is.bnq (aZ (by omega)) (Is.cnd (fun d=>Is.stop ?_) (fun d=>Is.bnq (aK (by omega)) (Is.next ⟨rfl,?_⟩)))))
   ·refine (decide_eq_false fun e=>?_).symm;subst e;exact kJ d rfl
   ·rw [List.take_add_one,List.take_add_one,c,Ie f,Ie (by omega),dX d]
  ·rintro _ ⟨rfl,c⟩;rw [Ij,hl,Ij] at c;exact Is.df (by omega) (Is.stop c)
 ·exact Is.ct (mf (by omega)) (Is.pure (decide_eq_false fun e=>hl (by rw [e])).symm)
theorem Be {l:List (List Int)} {S:List Int} (hl:l.length≤1000000000) (hs:∀T∈l,T.length≤1000000000) :
 Is (M.l1 l S) fun k=>(k<0∧S∉l)∨∃j:Nat,k=(j:Int)∧l[j]?=some S:=by
 unfold M.l1;refine Is.bs (P:=fun _:Unit=>S∉l) (Q:=fun k=>(k<0∧S∉l)∨∃j:Nat,k=(j:Int)∧l[j]?=some S) ?_ fun _ h=>Is.pure (.inl ⟨by omega,h⟩)
 refine Is.upto (fun i (d:Int)=>d=(i:Int)∧S∉l.take i) l.length (by omega) ⟨rfl,by simp⟩ ?_ ?_
 ·rintro i _ a ⟨rfl,b⟩;refine Is.dt (by omega) (Is.bnq (aZ a) (Is.bnq (BP (hs _ (Ii a))) (Is.cnd (fun c=>Is.stop ?_) (fun c=>Is.bnq (aK (by omega)) (Is.next ⟨rfl,fun hm=>?_⟩)))))
  ·exact .inr ⟨i,rfl,by rw [Ie a,of_decide_eq_true c]⟩
  ·rcases (fG a).1 hm with hm|rfl
   ·exact b hm
   ·exact of_decide_eq_false c rfl
 ·rintro _ ⟨rfl,b⟩;rw [Ij] at b;exact Is.df (by omega) (Is.stop b)
structure lc (n:T_NFA) (sets:List (List Int)):Prop where
  nodup:sets.Nodup
  rs:∀S∈sets,RS n S
  start:clo n [n.Start]∈sets
theorem lc.add {n:T_NFA} {sets:List (List Int)} (h:lc n sets) {S:List Int} (hS:S∉sets) (hr:RS n S):lc n (sets++[S]):=
 ⟨List.nodup_append.2 ⟨h.nodup,by simp,fun x hx y hy e=>by rw [Ip] at hy; subst hy; subst e; exact hS hx⟩,fun T hT=>by
  rcases Iq.1 hT with hT|hT
  ·exact h.rs T hT
  ·rw [Ip.1 hT]; exact hr,List.mem_append_left _ h.start⟩
theorem yD {n:T_NFA} {sets:List (List Int)} {p:ca→Bool} (hp:∀a∈n.Arcs,a.Epsilon=false→p a=true) {fb:List Int} (hf:fV (dz ((n.Arcs.filter p).map (·.Set))) 256 fb) (h:lc n sets)
 (d:∀S∈sets,∀(c b:Nat),c<fb.length→fb[c]?=some (b:Int)→fC n S b≠[]→fC n S b∈sets):∀S,RS n S→S∈sets:=by
 intro S e;induction e with
 | start=>exact h.start
 | step _ hb hne ih=>
  obtain ⟨k,j,i,g,f⟩:=hf.at hb;rw [←wD hp f] at hne ⊢;exact d _ ih _ _ i g hne
section
variable {n:T_NFA} (hn:FitN n) (hlen:n.Arcs.length≤1000000)
include hn
theorem wH {S:List Int} (h:RS n S):(∀s∈S,0≤s∧s<(n.Accept.length:Int))∧S.length≤2000:=qQ hn S h.clo
include hlen in
theorem xB:Is (M.f1 n) fun r=>(r.2=11∧EX n)∨(r.2=0∧tv n):=by
 have z:∃b,M.i8 n=some b∧b=true:=by
  obtain ⟨b,hb,h⟩:=sG (n:=n) (by omega) (by have:=hn.acc; have:=hn.most; omega);exact ⟨b,hb,h.2 ⟨hn.pos,hn.most,hn.start,hn.acc,hn.low,hn.arcs⟩⟩
 obtain ⟨_,z,rfl⟩:=z;unfold M.f1;refine Is.bnq z (Is.cf rfl ?_);refine Is.bnq (x:=(n.Arcs.filter fun a=>!a.Epsilon).map (·.Set)) ?_ ?_
 ·refine Is.eq ?_;refine Is.upto (fun i (d:List (aT 4)×Int)=>d.2=(i:Int)∧d.1=((n.Arcs.take i).filter fun a=>!a.Epsilon).map (·.Set)) n.Arcs.length (by omega) ⟨rfl,rfl⟩ ?_ ?_
  ·rintro i ⟨a,_⟩ D ⟨rfl,V⟩;obtain rfl:a=_:=V;have hl:(((n.Arcs.take i).filter fun a=>!a.Epsilon).map (·.Set)).length≤i:=by
    rw [Iy];refine Nat.le_trans (List.length_filter_le _ _) ?_;rw [IF]; omega
   refine Is.dt (by omega) (Is.bnd (P:=fun l=>l=((n.Arcs.take (i+1)).filter fun a=>!a.Epsilon).map (·.Set)) ?_ fun l hl=>Is.bnq (aK (by omega)) (Is.next ⟨rfl,hl⟩));refine Is.bnq (aZ D) ?_;rw [List.take_add_one,Ie D,List.filter_append,Iz];refine Is.cnd (fun h=>?_) (fun h=>?_)
   ·refine Is.bnq (bO (by simp only [Ih]; omega)) (Is.pure ?_);simp only [Option.toList_some,List.filter_cons,h,if_true,List.filter_nil,List.map_cons,List.map_nil]
   ·refine Is.pure ?_;simp only [Option.toList_some,List.filter_cons,h,Bool.false_eq_true,if_false,List.filter_nil,List.map_nil,List.append_nil]
  ·rintro ⟨a,_⟩ ⟨rfl,V⟩;obtain rfl:a=_:=V;refine Is.df (by omega) (Is.stop ?_);rw [Ij]
 have b2:((n.Arcs.filter fun a=>!a.Epsilon).map (·.Set)).length≤1000000:=by
  rw [Iy];exact Nat.le_trans (List.length_filter_le _ _) hlen
 have hw:∀v∈(n.Arcs.filter fun a=>!a.Epsilon).map (·.Set),W4 v:=by
  intro v z;obtain ⟨a,ha,rfl⟩:=IK.1 z;exact hn.sets a (IT.1 ha).1
 have a9:∀a∈n.Arcs,a.Epsilon=false→(!a.Epsilon)=true:=fun a _ he=>by rw [he]; rfl
 refine Is.bnq (rl hw b2) ?_;refine Is.bnd (P:=fV (dz ((n.Arcs.filter fun a=>!a.Epsilon).map (·.Set))) 256) ?_ fun fb N=>?_
 ·unfold M.l7;exact Is.bnd (oH rfl (fun _ _=>rfl)) fun _ h=>Is.pure h
 have c1:=N.len;refine Is.bnq (fY hn (by simp)) ?_;refine Is.bs (P:=fun _=>tv n) (Q:=fun r:T_DFA×Int=>(r.2=11∧EX n)∨(r.2=0∧tv n)) ?_ fun _ h=>Is.pure (.inr ⟨rfl,h⟩)
 refine Is.while (fun d:List (List Int)×List (List Int)×List Int×Int=>∃i:Nat,d.2.2.2=(i:Int)∧i≤d.1.length∧d.2.1.length=i∧d.2.2.1.length=i∧lc n d.1∧d.1.length≤500∧
  ∀S∈d.1.take i,∀(c b:Nat),c<fb.length→fb[c]?=some (b:Int)→fC n S b≠[]→fC n S b∈d.1) (fun d=>501 - d.2.2.2.toNat)
  ⟨0,rfl,by simp,rfl,rfl,⟨by simp,fun S I=>by rw [Ip.1 I]; exact .start,by simp⟩,by simp,by simp⟩ (by show 501 - _≤_; omega) ?_
 rintro ⟨sets,nx,ac,_⟩ ⟨i,rfl,D,b0,b7,hs,h5,G⟩;simp only at D b0 b7 hs h5 G
 by_cases hil:i<sets.length
 case neg=>
  have:i=sets.length:=by omega
  subst this;rw [Ij] at G;exact Is.df (by omega) (Is.stop ⟨sets,h5,yD a9 N hs G⟩)
 refine Is.dt (by omega) ?_;have H:=hs.rs _ (Ii hil);generalize I:sets[i]=S at H
 -- the row
 refine Is.bs (P:=fun d:List (List Int)×List (List Int)×List Int=>d.2.1.length=i+1∧d.2.2.length=i+1∧lc n d.1∧d.1.length≤500∧i+1≤d.1.length∧(∀T∈sets,T∈d.1)∧(∀T∈d.1.take (i+1),T∈sets.take i∨T=S)∧
  (∀(c b:Nat),c<fb.length→fb[c]?=some (b:Int)→fC n S b≠[]→fC n S b∈d.1)) ?_ ?_
 ·refine Is.bnd (P:=fun d:List (List Int)×List Int=>d.2.length=fb.length∧lc n d.1∧(∃m,d.1=sets++m)∧d.1.length≤sets.length+256∧(∀(c b:Nat),c<fb.length→fb[c]?=some (b:Int)→fC n S b≠[]→fC n S b∈d.1)) ?_ ?_
  ·refine Is.upto (fun c (d:List (List Int)×List Int×Int)=>d.2.2=(c:Int)∧d.2.1.length=c∧lc n d.1∧(∃m,d.1=sets++m)∧d.1.length≤sets.length+c∧(∀(p b:Nat),p<c→fb[p]?=some (b:Int)→fC n S b≠[]→fC n S b∈d.1)) fb.length (by omega)
    ⟨rfl,rfl,hs,⟨[],by simp⟩,by simp,fun p b u=>by omega⟩ ?_ ?_
   ·rintro c ⟨e,row,_⟩ u ⟨rfl,t,o,⟨m,f⟩,s,q⟩;simp only at t o f s q;refine Is.dt (by omega) ?_;obtain ⟨b,X,R⟩:=N.byte u;have F:bD e (i:Int)=some S:=by
     have B:i<e.length:=by rw [f,Ik]; omega
     rw [aZ B];subst f;rw [List.getElem_append_left hil,I]
    have b4:fb[c]?=some (b:Int):=by
     rw [aZ u] at R;rw [Ie u,Option.some.inj R]
    have W:∀w:List (List Int),(∀T∈e,T∈w)→(fC n S b≠[]→fC n S b∈w)→∀(p y:Nat),p<c+1→fb[p]?=some (y:Int)→fC n S y≠[]→fC n S y∈w:=by
     intro w K J p y b6 U A;rcases Nat.lt_or_eq_of_le (Nat.le_of_lt_succ b6) with hlt|rfl
     ·exact K _ (q p y hlt U A)
     ·rw [b4] at U;obtain rfl:b=y:=by have:=Option.some.inj U; omega
      exact J A
    refine Is.bnd (P:=fun d:List (List Int)×List Int=>d.2.length=c+1∧lc n d.1∧(∃m,d.1=sets++m)∧d.1.length≤sets.length+(c+1)∧(∀(p b:Nat),p<c+1→fb[p]?=some (b:Int)→fC n S b≠[]→fC n S b∈d.1)) ?_ fun d h=>Is.bnq (aK (by omega)) (Is.next ⟨rfl,h⟩)
    have Y:=(wH hn H).2;have c0:=(qQ hn (fC n S b) ⟨_,rfl⟩).2;refine Is.bnq F (Is.bnq R (Is.bnq (vh hn (by omega) X) (Is.bnq (fY hn (by omega)) ?_)));rw [Bn hn]
    by_cases hz:fC n S b=[]
    ·rw [hz];refine Is.ct rfl (Is.bnq (bO (by simp only [Ih]; omega)) (Is.pure ⟨by simp only [Ik,Ih]; omega,o,⟨m,f⟩,by show e.length≤_; omega,W e (fun _ h=>h) fun h=>absurd hz h⟩))
    ·refine Is.cf (cv (by have:=List.length_pos_iff.2 hz; omega)) ?_;have hr:RS n (fC n S b):=.step H X hz;refine Is.bnd (Be (l:=e) (S:=fC n S b) (by omega) (fun T g=>by have:=(wH hn (o.rs T g)).2; omega)) fun k L=>?_
     refine Is.bnd (P:=fun d:List (List Int)×Int=>lc n d.1∧(∃m,d.1=sets++m)∧d.1.length≤sets.length+(c+1)∧(∀T∈e,T∈d.1)∧fC n S b∈d.1) ?_ ?_
     ·rcases L with ⟨L,b1⟩|⟨j,rfl,hj⟩
      ·refine Is.dt L (Is.bnq (bO (by simp only [Ih]; omega)) (Is.pure ⟨o.add b1 hr,⟨m++[fC n S b],by rw [f,Ir]⟩,by show (e++[fC n S b]).length≤_; simp only [Ik,Ih]; omega,fun T g=>List.mem_append_left _ g,by show fC n S b∈e++[fC n S b]; simp⟩))
      ·exact Is.df (by omega) (Is.pure ⟨o,⟨m,f⟩,by show e.length≤_; omega,fun _ h=>h,List.mem_of_getElem? hj⟩)
     ·rintro ⟨w,k2⟩ ⟨K,J,q3,q4,q5⟩;exact Is.bnq (bO (by simp only [Ih]; omega)) (Is.pure ⟨by simp only [Ik,Ih]; omega,K,J,q3,W w q4 fun _=>q5⟩)
   ·rintro ⟨e,row,_⟩ ⟨rfl,t,o,f,s,q⟩;exact Is.df (by omega) (Is.stop ⟨t,o,f,by show e.length≤_; simp only at s; omega,q⟩)
  ·rintro ⟨e,row⟩ ⟨t,o,⟨m,f⟩,s,q⟩;simp only at t o f s q;refine Is.dcd (fun h=>Is.stop (.inl ⟨rfl,e,o.nodup,by omega,o.rs⟩)) (fun h=>?_);have B:i<e.length:=by rw [f,Ik]; omega
   have F:e[i]=S:=by
    subst f;rw [List.getElem_append_left hil,I]
   refine Is.bnq (aZ B) ?_;rw [F];have Y:=wH hn H;refine Is.bnq (bO (by simp only [Ih]; omega)) (Is.bnq (zf Y.1 (by omega)) (Is.bnq (bO (by simp only [Ih]; omega)) (Is.next ⟨by simp only [Ik,Ih]; omega,by simp only [Ik,Ih]; omega,o,by show e.length≤_; omega,by show i+1≤e.length; omega,fun T g=>by show T∈e; rw [f]; exact List.mem_append_left _ g,fun T g=>?_,q⟩)));have g:T∈e.take (i+1):=g;rcases (fG B).1 g with g|g
   ·left;rw [f,List.take_append_of_le_length (by omega)] at g;exact g
   ·right; rw [g,F]
 ·rintro ⟨e,b8,c2⟩ ⟨t,o,f,s,q,g6,g7,g8⟩;simp only at t o f s q g6 g7 g8;refine Is.bnq (aK (by omega)) (Is.next ⟨⟨i+1,rfl,q,t,o,f,s,fun T g c b u hb A=>?_⟩,by show 501 - ((i+1:Nat):Int).toNat<501 - ((i:Nat):Int).toNat; omega⟩);rcases g7 T g with h|rfl
  ·exact g6 _ (G T h c b u hb A)
  ·exact g8 c b u hb A
end
def bM (d:T_DFA) (s:Int) (b:Nat):Int:=if s<0 then -1 else (d.Next.getD s.toNat []).getD (d.Class.getD b 0).toNat 0
def eg (d:T_DFA) (s:Int):Int:=if s<0 then -1 else d.Accept.getD s.toNat 0
def pc (d:T_DFA) (s:Int):Prop:=-1≤s∧s<(d.Next.length:Int)
section
variable {d:T_DFA} (h:Ok d)
include h
theorem ov {b:Nat} (hb:b<256):0≤d.Class.getD b 0∧d.Class.getD b 0<(cols d:Int):=h.inc _ (cM (by rw [h.cls]; exact hb))
theorem eG {s:Nat} (hs:s<d.Next.length):(d.Next.getD s []).length=cols d∧∀t∈d.Next.getD s [],pc d t:=h.row _ (cM hs)
theorem cP {s:Int} (hs:pc d s) {b:Nat} (hb:b<256):pc d (bM d s b):=by
 unfold bM;have hp:=h.pos;split
 ·exact ⟨by omega,by omega⟩
 ·have h1:=eG h (s:=s.toNat) (by have:=hs.2; omega);have h2:=ov h hb;exact h1.2 _ (cM (by omega))
theorem lm {s:Int} (hs:pc d s) {b:Nat} (hb:b<256):M.j3 d s (b:Int)=some (bM d s b):=by
 refine Is.eq ?_;unfold M.j3;have f:=hs.2;refine Is.dcd (fun a=>Is.pure (by unfold bM; rw [if_pos a])) fun a=>?_
 have e:=eG h (s:=s.toNat) (by omega);have c:=ov h hb;refine Is.bnq (dZ (d:=[]) (by omega) (by omega)) (Is.bnq (dZ (d:=0) (by omega) (by rw [h.cls]; omega)) (Is.bnq (dZ (d:=0) (by simpa using c.1) ?_) (Is.pure ?_)))
 ·rw [e.1]; simpa using c.2
 ·unfold bM; rw [if_neg a]; rfl
theorem vi {s:Int} (hs:pc d s) {b:Nat} (hb:b<256):M.m3 d s (b:Int)=some (bM d s b):=lm h hs hb
theorem ln {s:Int} (hs:pc d s):M.i7 d s=some (eg d s):=by
 refine Is.eq ?_;unfold M.i7;have h0:=hs.2;have ha:=h.acc;refine Is.dcd (fun h1=>Is.pure (by unfold eg; rw [if_pos h1])) fun h1=>?_
 exact Is.bnq (dZ (d:=0) (by omega) (by omega)) (Is.pure (by unfold eg; rw [if_neg h1]))
theorem sH {s:Int} (hs:pc d s):M.k8 d s=some (eg d s):=ln h hs
def walkN (d:T_DFA) (s:Int) (w:Str):Int:=w.foldl (fun q c=>bM d q c.toNat) s
theorem fp:pc d 0:=⟨by omega,by have:=h.pos; omega⟩
theorem eL {s:Int} (hs:pc d s) (w:Str):pc d (walkN d s w):=by
 unfold walkN;induction w generalizing s with
 | nil=>exact hs
 | cons c w ih=>exact ih (cP h hs c.toNat_lt)
theorem Di {w:Str} (c:w.length≤9223372036854775807):M.n1 d w=some (eg d (walkN d 0 w)):=by
 refine Is.eq ?_;unfold M.n1;refine Is.bnd (P:=fun q=>q=walkN d 0 w) (Is.upto (fun i b=>b=(walkN d 0 (w.take i),(i:Int))) w.length c rfl ?_ ?_) ?_
 ·rintro i _ a rfl;refine Is.dt (by omega) (Is.bnq (dM a) (Is.bnq (lm h (eL h (fp h) _) (UInt8.toNat_lt _)) (Is.bnq (aK (by omega)) (Is.next ?_))));unfold walkN;rw [It a,List.foldl_append];rfl
 ·rintro _ rfl;exact Is.df (by simp) (Is.stop (by simp))
 ·rintro _ rfl;exact Is.bnq (ln h (eL h (fp h) _)) (Is.pure rfl)
theorem rW {w:Str} (c:w.length≤9223372036854775807):M.g6 d w=some (eg d (walkN d 0 w)):=by
 refine Is.eq ?_;unfold M.g6;refine Is.bnd (P:=fun q=>q=walkN d 0 w) (Is.upto (fun i b=>b=(walkN d 0 (w.take i),(i:Int))) w.length c rfl ?_ ?_) ?_
 ·rintro i _ a rfl;refine Is.dt (by omega) (Is.bnq (dM a) (Is.bnq (vi h (eL h (fp h) _) (UInt8.toNat_lt _)) (Is.bnq (aK (by omega)) (Is.next ?_))));unfold walkN;rw [It a,List.foldl_append];rfl
 ·rintro _ rfl;exact Is.df (by simp) (Is.stop (by simp))
 ·rintro _ rfl;exact Is.bnq (sH h (eL h (fp h) _)) (Is.pure rfl)
end
def lW (s:Int):List Int:=[IntKind.u8.wrap s,IntKind.u8.wrap (s / 256)]
def nz (l:List Int):Str:=cV (l.flatMap lW)
theorem wt (k:Nat):IntKind.u8.wrap (k:Int)=((k % 256:Nat):Int):=by simp [IntKind.wrap,IntKind.bits,IntKind.signed]
theorem qE:∀ {l m:List Int},(∀s∈l,0≤s∧s<65536)→(∀s∈m,0≤s∧s<65536)→nz l=nz m→l=m
 | [],[],_,_,_=>rfl
 | [],_::_,_,_,h=>by simp [nz,cV,lW] at h
 | _::_,[],_,_,h=>by simp [nz,cV,lW] at h
 | a::l,b::m,hl,hm,h=>by
  simp only [nz,cV,List.flatMap_cons,lW,Iw,Iv,List.map_cons,List.cons.injEq] at h;obtain ⟨d,c,e⟩:=h;have ha:=hl a (by simp);have hb:=hm b (by simp);obtain ⟨x,rfl⟩:=IE ha.1;obtain ⟨y,rfl⟩:=IE hb.1;have j:((x:Int) / 256)=((x / 256:Nat):Int):=by omega
  have i:((y:Int) / 256)=((y / 256:Nat):Int):=by omega
  rw [j,i,wt,wt,ID,ID] at c;rw [wt,wt,ID,ID] at d;have g:=congrArg UInt8.toNat d;have f:=congrArg UInt8.toNat c;rw [UInt8.toNat_ofNat',UInt8.toNat_ofNat'] at g f;have:x=y:=by omega
  subst this;rw [qE (fun s hs=>hl s (by simp [hs])) (fun s hs=>hm s (by simp [hs])) e]
theorem vL {l:List Int} (hl:l.length≤1000000):M.m4 l=some (nz l):=by
 refine Is.eq ?_;unfold M.m4;refine Is.bnq (x:=l.flatMap lW) ?_ (Is.pure rfl);refine Is.eq ?_;refine Is.upto (fun i (c:List Int×Int)=>c.2=(i:Int)∧c.1=(l.take i).flatMap lW) l.length (by omega) ⟨rfl,rfl⟩ ?_ ?_
 ·rintro i ⟨a,_⟩ d ⟨rfl,b⟩;obtain rfl:a=_:=b;have hlen:((l.take i).flatMap lW).length≤2*i:=by
   have:∀q:List Int,(q.flatMap lW).length=2*q.length:=by
    intro q;induction q with
    | nil=>rfl
    | cons x q ih=>simp [lW] at ih ⊢; omega
   rw [this,IF]; omega
  refine Is.dt (by omega) (Is.bnq (aZ d) (Is.bnq (x:=l[i] / 256) rfl (Is.bnq (bO (by simp only [IG,List.length_nil]; omega)) (Is.bnq (aK (by omega)) (Is.next ⟨rfl,?_⟩)))));rw [List.take_add_one,Ie d,List.flatMap_append];simp [lW]
 ·rintro ⟨a,_⟩ ⟨rfl,b⟩;obtain rfl:a=_:=b;refine Is.df (by omega) (Is.stop ?_);rw [Ij]
structure Ak (n:T_NFA) (sets:List (List Int)) (m:List (Str×Int)):Prop where
  old:∀(S:List Int) (k:Nat),sets[k]?=some S→bY m (nz S)=some (k:Int)
  new:∀S:List Int,(∃T,S=clo n T)→S∉sets→bY m (nz S)=none
def Cn (n:T_NFA) (sets:List (List Int)) (S:List Int) (b:Nat) (x:Option Int):Prop:=
 (fC n S b=[]∧x=some (-1))∨∃k:Nat,sets[k]?=some (fC n S b)∧x=some (k:Int)
def nI (n:T_NFA) (fb:List Int) (sets:List (List Int)) (S row:List Int):Prop:=
 row.length=fb.length∧∀(c b:Nat),c<fb.length→fb[c]?=some (b:Int)→Cn n sets S b row[c]?
theorem nB {α:Type} {l m:List α} {k:Nat} {x:α} (h:l[k]?=some x):(l++m)[k]?=some x:=by
 rw [Iu (If.1 h).1]; exact h
theorem Cn.app {n:T_NFA} {sets:List (List Int)} {S:List Int} {b:Nat} {x:Option Int} (h:Cn n sets S b x) (m:List (List Int)):Cn n (sets++m) S b x:=by
 rcases h with h|⟨k,h1,h2⟩
 ·exact .inl h
 ·exact .inr ⟨k,nB h1,h2⟩
theorem nI.app {n:T_NFA} {fb:List Int} {sets:List (List Int)} {S row:List Int} (h:nI n fb sets S row) (m:List (List Int)):nI n fb (sets++m) S row:=
 ⟨h.1,fun c b hc hb=>(h.2 c b hc hb).app m⟩
theorem sm {α:Type} (l:List α):l.filter (fun _=>true)=l:=List.filter_eq_self.2 fun _ _=>rfl
theorem BC (acc:List Int) (l:List Int):-1≤oz acc l:=by
 have:∀(l:List Int) (o:Int),-1≤o→-1≤l.foldl (gg acc) o:=by
  intro l;induction l with
  | nil=>exact fun _ h=>h
  | cons x l ih=>
   intro o a;refine ih _ ?_;unfold gg;cases h:decide (0≤acc.getD x.toNat 0) && (decide (o<0) || decide (acc.getD x.toNat 0<o))
   ·exact a
   ·rw [Bool.and_eq_true,decide_eq_true_eq] at h;show -1≤acc.getD x.toNat 0;omega
 exact this l _ (by omega)
theorem lA {α:Type} {l:List α} {k:Nat} {x d:α} (h:l[k]?=some x):l.getD k d=x:=by rw [Ic,h]; rfl
section
variable {n:T_NFA} (hn:FitN n) (hlen:n.Arcs.length≤1000000)
include hn
theorem ox {S:List Int} (h:∃T,S=clo n T):(∀s∈S,0≤s∧s<65536)∧S.length≤2000:=by
 have h1:=qQ hn S h;have h2:=hn.acc;have h3:=hn.most;exact ⟨fun s hs=>by have:=h1.1 s hs; omega,h1.2⟩
theorem Ak.add {sets:List (List Int)} {m:List (Str×Int)} (h:Ak n sets m) (hs:∀T∈sets,∃U,T=clo n U) {S:List Int} (j:S∉sets) (f:∃T,S=clo n T):Ak n (sets++[S]) (dL m (nz S) (sets.length:Int)):=by
 refine ⟨fun T k a=>?_,fun T i g=>?_⟩
 ·by_cases e:k<sets.length
  ·rw [Iu e] at a;have d:=List.mem_of_getElem? a;have b:nz T≠nz S:=fun c=>j (by rw [←qE (ox hn (hs T d)).1 (ox hn f).1 c]; exact d)
   rw [pu b];exact h.old T k a
  ·rw [IM (by omega)] at a;have o:=(If.1 a).1;simp only [Ih] at o;have:k=sets.length:=by omega
   subst this;simp only [Nat.sub_self,List.getElem?_cons_zero,Option.some.injEq] at a;subst a;exact od
 ·have b:nz T≠nz S:=fun c=>g (by rw [qE (ox hn i).1 (ox hn f).1 c]; simp)
  rw [pu b];exact h.new T i fun l=>g (List.mem_append_left _ l)
def zZ (n:T_NFA) (d:T_DFA):Prop:=Ok d∧(∀w:Str,eg d (walkN d 0 w)=Cr n w)∧cols d≤256∧∀a∈d.Accept,∃S,a=oz n.Accept S
structure EY (n:T_NFA) (fb:List Int) (sets nx:List (List Int)) (ac:List Int):Prop where
  all:lc n sets
  zero:sets[0]?=some (clo n [n.Start])
  few:sets.length≤500
  nxl:nx.length=sets.length
  acl:ac.length=sets.length
  row:∀(j:Nat) (S:List Int),sets[j]?=some S→∃r,nx[j]?=some r∧nI n fb sets S r
  acc:∀(j:Nat) (S:List Int),sets[j]?=some S→ac[j]?=some (oz n.Accept S)
omit hn hlen in
theorem zn {fb:List Int} {sets nx:List (List Int)} {ac:List Int} (hf:fV (dz (n.Arcs.map (·.Set))) 256 fb) (h:EY n fb sets nx ac):zZ n ⟨lO (n.Arcs.map (·.Set)),nx,ac⟩:=by
 have A:=hf.len;have X:0<sets.length:=(If.1 h.zero).1;have H:∀r∈nx,∃S,nI n fb sets S r:=by
  intro r x;obtain ⟨j,l,rfl⟩:=IA.1 x;have m:j<sets.length:=by rw [←h.nxl]; exact l
  obtain ⟨W,e,f⟩:=h.row j sets[j] (Ie m);rw [Ie l] at e;rw [Option.some.inj e];exact ⟨_,f⟩
 have o:cols ⟨lO (n.Arcs.map (·.Set)),nx,ac⟩=fb.length:=by
  unfold cols;obtain ⟨r,e,f⟩:=h.row 0 _ h.zero;show (nx.getD 0 []).length=_;rw [lA e];exact f.1
 have I:Ok ⟨lO (n.Arcs.map (·.Set)),nx,ac⟩:=by
  refine ⟨by simp [lO],by show 1≤nx.length; rw [h.nxl]; omega,by show nx.length≤500; rw [h.nxl]; exact h.few,by show ac.length=nx.length; rw [h.nxl,h.acl],by rw [o]; exact A.1,fun c g=>?_,fun r x=>?_,fun a ha=>?_⟩
  ·rw [o];have g:c∈(List.range 256).map fun i=>(cls (dz (n.Arcs.map (·.Set))) i:Int):=g
   obtain ⟨b,hb,rfl⟩:=IK.1 g;obtain ⟨_,_,f,_⟩:=hf.at (IL.1 hb);omega
  ·obtain ⟨S,z⟩:=H r x;refine ⟨by rw [o]; exact z.1,fun t G=>?_⟩;obtain ⟨c,g,rfl⟩:=IA.1 G;have s:c<fb.length:=by rw [←z.1]; exact g
   obtain ⟨b,hb,B⟩:=hf.byte s;have K:fb[c]?=some (b:Int):=by
    rw [aZ s] at B;rw [Ie s,Option.some.inj B]
   rcases z.2 c b s K with ⟨_,f⟩|⟨k,e,f⟩
   ·rw [Ie g] at f;rw [Option.some.inj f];show -1≤(-1:Int)∧(-1:Int)<(nx.length:Int);omega
   ·rw [Ie g] at f;rw [Option.some.inj f];have:=(If.1 e).1;show -1≤(k:Int)∧(k:Int)<(nx.length:Int);rw [h.nxl];omega
  ·obtain ⟨j,l,rfl⟩:=IA.1 ha;have m:j<sets.length:=by rw [←h.acl]; exact l
   have e:=h.acc j sets[j] (Ie m);have J:ac[j]?=some ac[j]:=Ie l;rw [J] at e;rw [Option.some.inj e];exact BC _ _
 have L:∀a∈ac,∃S,a=oz n.Accept S:=by
  intro a ha;obtain ⟨j,l,rfl⟩:=IA.1 ha;have m:j<sets.length:=by rw [←h.acl]; exact l
  have e:=h.acc j sets[j] (Ie m);rw [Ie l] at e;exact ⟨_,Option.some.inj e⟩
 refine ⟨I,fun w=>?_,by rw [o]; exact A.2,L⟩
 -- states beside sets
 let d:T_DFA:=⟨lO (n.Arcs.map (·.Set)),nx,ac⟩
 have D:∀(w:Str) (q:Int) (S:List Int),((q=-1∧S=[])∨∃k:Nat,q=(k:Int)∧sets[k]?=some S)→
  eg d (walkN d q w)=oz n.Accept ((w.map UInt8.toNat).foldl (fC n) S):=by
  intro w;induction w with
  | nil=>
   rintro q S (⟨rfl,rfl⟩|⟨k,rfl,y⟩)
   ·rfl
   ·show eg d (k:Int)=oz n.Accept S;unfold eg;rw [if_neg (by omega),ID];exact lA (h.acc k S y)
  | cons c w ih=>
   rintro q S hq;refine ih _ _ ?_;have g:=c.toNat_lt;rcases hq with ⟨rfl,rfl⟩|⟨k,rfl,y⟩
   ·exact .inl ⟨rfl,Aw n _⟩
   ·obtain ⟨V,Y,Q,P,N⟩:=hf.at g;obtain ⟨r,e,f⟩:=h.row k S y;have hp:∀a∈n.Arcs,a.Epsilon=false→(fun _=>true) a=true:=fun _ _ _=>rfl
    have U:fC n S c.toNat=fC n S V:=(wD (p:=fun _=>true) hp (by rw [sm]; exact N) S).symm;have T:bM d (k:Int) c.toNat=r.getD (cls (dz (n.Arcs.map (·.Set))) c.toNat) 0:=by
     unfold bM;rw [if_neg (by omega),ID];have R:d.Class.getD c.toNat 0=(cls (dz (n.Arcs.map (·.Set))) c.toNat:Int):=by
      show (lO (n.Arcs.map (·.Set))).getD c.toNat 0=_;refine lA ?_;unfold lO;rw [IP,List.getElem?_range g]; rfl
     rw [R,ID];show (nx.getD k []).getD _ 0=_;rw [lA e]
    show (bM d (k:Int) c.toNat=-1∧fC n S c.toNat=[])∨∃k':Nat,bM d (k:Int) c.toNat=(k':Int)∧sets[k']?=some (fC n S c.toNat);rw [U,T];rcases f.2 _ _ Q P with ⟨v,u⟩|⟨F,v,u⟩
    ·exact .inl ⟨lA u,v⟩
    ·exact .inr ⟨F,lA u,v⟩
 exact D w 0 _ (.inr ⟨0,rfl,h.zero⟩)
include hlen in
theorem CQ:Is (M.d1 n) fun r=>(r=(⟨[],[],[]⟩,11)∧EX n)∨(r.2=0∧tv n∧zZ n r.1):=by
 have G:∃b,M.l0 n=some b∧b=true:=by
  obtain ⟨b,hb,h⟩:=xo (n:=n) (by omega) (by have:=hn.acc; have:=hn.most; omega);exact ⟨b,hb,h.2 ⟨hn.pos,hn.most,hn.start,hn.acc,hn.low,hn.arcs⟩⟩
 obtain ⟨_,G,rfl⟩:=G;unfold M.d1;refine Is.bnq G (Is.cf rfl ?_);refine Is.bnq (x:=n.Arcs.map (·.Set)) ?_ ?_
 ·refine Is.eq ?_;refine Is.upto (fun i (d:List (aT 4)×Int)=>d.2=(i:Int)∧d.1=(n.Arcs.take i).map (·.Set)) n.Arcs.length (by omega) ⟨rfl,rfl⟩ ?_ ?_
  ·rintro i ⟨a,_⟩ W ⟨rfl,B⟩;obtain rfl:a=_:=B;refine Is.dt (by omega) (Is.bnq (aZ W) (Is.bnq (bO (by simp only [Iy,IF,Ih]; omega)) (Is.bnq (aK (by omega)) (Is.next ⟨rfl,?_⟩))));rw [List.take_add_one,Ie W,Iz];rfl
  ·rintro ⟨a,_⟩ ⟨rfl,B⟩;obtain rfl:a=_:=B;refine Is.df (by omega) (Is.stop ?_);rw [Ij]
 have hw:∀v∈n.Arcs.map (·.Set),W4 v:=by
  intro v G;obtain ⟨a,ha,rfl⟩:=IK.1 G;exact hn.sets a ha
 refine Is.bnq (wo hw (by rw [Iy]; exact hlen)) ?_;refine Is.bnd (P:=fV (dz (n.Arcs.map (·.Set))) 256) ?_ fun fb Y=>?_
 ·unfold M.i6;exact Is.bnd (oH (by simp [lO]) (fun _ _=>rfl)) fun _ h=>Is.pure h
 have d9:=Y.len;have c1:∃T,clo n [n.Start]=clo n T:=⟨_,rfl⟩;have e0:=ox hn c1;refine Is.bnq (mK hn (by simp)) (Is.bnq (x:=clo n [n.Start]) rfl (Is.bnq (vL (by omega)) ?_));refine Is.bs (P:=fun d:List (List Int)×List Int=>∃sets,EY n fb sets d.1 d.2∧tv n) (Q:=fun r:T_DFA×Int=>(r=(⟨[],[],[]⟩,11)∧EX n)∨(r.2=0∧tv n∧zZ n r.1)) ?_ fun d h=>?_
 case refine_2=>
  obtain ⟨nx,ac⟩:=d;obtain ⟨sets,B,J⟩:=h;exact Is.pure (.inr ⟨rfl,J,zn Y B⟩)
 refine Is.while (fun d:List (List Int)×List Int×List (List Int)×List (Str×Int)×Int=>∃i:Nat,d.2.2.2.2=(i:Int)∧i≤d.2.2.1.length∧d.1.length=i∧d.2.1.length=i∧lc n d.2.2.1∧d.2.2.1[0]?=some (clo n [n.Start])∧d.2.2.1.length≤500∧Ak n d.2.2.1 d.2.2.2.1∧
  (∀(j:Nat) (S:List Int),j<i→d.2.2.1[j]?=some S→∃r,d.1[j]?=some r∧nI n fb d.2.2.1 S r)∧(∀(j:Nat) (S:List Int),j<i→d.2.2.1[j]?=some S→d.2.1[j]?=some (oz n.Accept S))) (fun d=>501 - d.2.2.2.2.toNat)
  ⟨0,rfl,by simp,rfl,rfl,⟨by simp,fun S hS=>by rw [Ip.1 hS]; exact .start,by simp⟩,rfl,by simp,?_,fun j S u=>by omega,fun j S u=>by omega⟩ (by show 501 - _≤_; omega) ?_
 ·have h0:Ak n [] []:=⟨fun S k h=>by simp at h,fun S _ _=>rfl⟩;exact h0.add hn (by simp) (by simp) c1
 rintro ⟨nx,ac,sets,m,_⟩ ⟨i,rfl,W,V,a0,hs,a4,h5,b8,U,hacc⟩;simp only at W V a0 hs a4 h5 b8 U hacc
 by_cases hil:i<sets.length
 case neg=>
  have:i=sets.length:=by omega
  subst this;have t:∀(j:Nat) (S:List Int),sets[j]?=some S→j<sets.length:=fun j S h=>(If.1 h).1
  refine Is.df (by omega) (Is.stop ⟨sets,⟨hs,a4,h5,V,a0,fun j S h=>U j S (t j S h) h,fun j S h=>hacc j S (t j S h) h⟩,sets,h5,?_⟩);have hp:∀a∈n.Arcs,a.Epsilon=false→(fun _=>true) a=true:=fun _ _ _=>rfl
  refine yD (p:=fun _=>true) hp (fb:=fb) (by rw [sm]; exact Y) hs ?_;intro S hS c b z hb c9;obtain ⟨j,u,rfl⟩:=IA.1 hS;obtain ⟨r,_,J⟩:=U j _ u (Ie u);rcases J.2 c b z hb with ⟨h3,_⟩|⟨k,h3,_⟩
  ·exact absurd h3 c9
  ·exact List.mem_of_getElem? h3
 refine Is.dt (by omega) ?_;have b1:=hs.rs _ (Ii hil);have a1:sets[i]?=some sets[i]:=Ie hil;generalize sets[i]=S at b1 a1;have b0:=wH hn b1;refine Is.bs (P:=fun d:List (List Int)×List Int×List (List Int)×List (Str×Int)=>∃g,d.2.2.1=sets++g∧d.1.length=i+1∧d.2.1.length=i+1∧lc n d.2.2.1∧d.2.2.1.length≤500∧Ak n d.2.2.1 d.2.2.2∧
  (∀j,j<i→d.1[j]?=nx[j]?)∧(∀j,j<i→d.2.1[j]?=ac[j]?)∧(∃r,d.1[i]?=some r∧nI n fb d.2.2.1 S r)∧d.2.1[i]?=some (oz n.Accept S)) ?_ ?_
 ·refine Is.bnq (eH (n:=fb.length) (by omega)) ?_;refine Is.bs (P:=fun d:List (List Int)×List (Str×Int)×List Int=>∃g,d.1=sets++g∧lc n d.1∧d.1.length≤500∧Ak n d.1 d.2.1∧nI n fb d.1 S d.2.2) ?_ ?_
  ·refine Is.upto (fun c (d:List (List Int)×List (Str×Int)×List Int×Int)=>d.2.2.2=(c:Int)∧(∃g,d.1=sets++g)∧lc n d.1∧d.1.length≤500∧Ak n d.1 d.2.1∧d.2.2.1.length=fb.length∧(∀(s b:Nat),s<c→fb[s]?=some (b:Int)→Cn n d.1 S b d.2.2.1[s]?)) fb.length (by omega)
    ⟨rfl,⟨[],by simp⟩,hs,h5,b8,by simp,fun s b z=>by omega⟩ ?_ ?_
   ·rintro c ⟨e,R,row,_⟩ z ⟨rfl,⟨g,f⟩,o,y,q,w,D⟩;simp only at f o y q w D;refine Is.dt (by omega) ?_;obtain ⟨b,c2,a8⟩:=Y.byte z;have d3:fb[c]?=some (b:Int):=by
     rw [aZ z] at a8;rw [Ie z,Option.some.inj a8]
    have a6:bD e (i:Int)=some S:=by
     have:e[i]?=some S:=by rw [f]; exact nB a1
     have H:=(If.1 this).1;rw [aZ H];rw [Ie H] at this;exact this
    have a7:∃T,fC n S b=clo n T:=⟨_,rfl⟩;have b6:=ox hn a7;have b9:∀(A:List (List Int)) (x:Int) (mm:List (List Int)),A=e++mm→Cn n A S b (some x)→∀a3:List Int,a3=row.set c x→∀(s K:Nat),s<c+1→fb[s]?=some (K:Int)→Cn n A S K a3[s]?:=by
     intro A x mm F N a3 L s K d4 a9;subst L;rcases Nat.lt_or_eq_of_le (Nat.le_of_lt_succ d4) with t|rfl
     ·rw [List.getElem?_set_ne (by omega),F];exact (D s K t a9).app mm
     ·rw [d3] at a9;obtain rfl:b=K:=by have:=Option.some.inj a9; omega
      rw [List.getElem?_set_self (by omega)];exact N
    refine Is.bs (P:=fun d:List (List Int)×List (Str×Int)×List Int=>(∃g,d.1=sets++g)∧lc n d.1∧d.1.length≤500∧Ak n d.1 d.2.1∧d.2.2.length=fb.length∧(∀(s b:Nat),s<c+1→fb[s]?=some (b:Int)→Cn n d.1 S b d.2.2[s]?)) ?_ fun d h=>Is.bnq (aK (by omega)) (Is.next ⟨rfl,h⟩)
    refine Is.bnq a8 (Is.bnq a6 (Is.bnq (Ax hn (by have:=b0.2; omega) c2) (Is.bnq (dk (by omega)) ?_)))
    by_cases hz:fC n S b=[]
    ·rw [hz];exact Is.ct rfl (Is.next ⟨⟨g,f⟩,o,y,q,by show (row.set c (-1)).length=_; rw [IR]; exact w,b9 e (-1) [] (by simp) (.inl ⟨hz,rfl⟩) _ rfl⟩)
    ·refine Is.cf (cv (by have:=List.length_pos_iff.2 hz; omega)) (Is.bnq (vL (by have:=b6.2; omega)) ?_);have hr:RS n (fC n S b):=.step b1 c2 hz;refine Is.bs (P:=fun d:List (List Int)×List (Str×Int)×Int=>∃(mm:List (List Int)) (k:Nat),d.1=e++mm∧lc n d.1∧d.1.length≤500∧Ak n d.1 d.2.1∧d.2.2=(k:Int)∧d.1[k]?=some (fC n S b)) ?_ ?_
     ·by_cases hmem:fC n S b∈e
      ·obtain ⟨k,hk,d1⟩:=IA.1 hmem;have c0:e[k]?=some (fC n S b):=by rw [Ie hk,d1]
       have X:=q.old _ k c0;refine Is.cf (by rw [X]; rfl) (Is.next ⟨[],k,by simp,o,y,q,?_,c0⟩);show (bY R (nz (fC n S b))).getD 0=_;rw [X]; rfl
      ·have X:=q.new _ a7 hmem;refine Is.ct (by rw [X]; rfl) (Is.cnd (fun I=>Is.stop ?_) (fun I=>?_))
       ·have I:=dG I;refine .inl ⟨rfl,e++[fC n S b],(o.add hmem hr).nodup,by simp only [Ik,Ih]; omega,(o.add hmem hr).rs⟩
       ·have I:=nt I;refine Is.bnq (vL (by have:=b6.2; omega)) (Is.bnq (bO (by simp only [Ih]; omega)) (Is.next ⟨[fC n S b],e.length,rfl,o.add hmem hr,by show (e++[fC n S b]).length≤500; simp only [Ik,Ih]; omega,q.add hn (fun T l=>(o.rs T l).clo) hmem a7,rfl,by simp⟩))
     ·rintro ⟨A,m2,k2⟩ ⟨mm,k,F,N,L,q4,rfl,q6⟩;simp only at F N L q4 q6;refine Is.bnq (dk (by rw [IR]; omega)) (Is.next ⟨⟨g++mm,by show A=_; rw [F,f,Ir]⟩,N,L,q4,by show ((row.set c (-1)).set c (k:Int)).length=_; rw [IR,IR]; exact w,b9 A (k:Int) mm F (.inr ⟨k,q6,rfl⟩) _ (List.set_set ..)⟩)
   ·rintro ⟨e,R,row,_⟩ ⟨rfl,⟨g,f⟩,o,y,q,w,D⟩;exact Is.df (by omega) (Is.stop ⟨g,f,o,y,q,w,fun c b z hb=>D c b z hb⟩)
  ·rintro ⟨e,R,row⟩ ⟨g,f,o,y,q,w⟩;simp only at f o y q w;have a6:bD e (i:Int)=some S:=by
    have:e[i]?=some S:=by rw [f]; exact nB a1
    have H:=(If.1 this).1;rw [aZ H];rw [Ie H] at this;exact this
   refine Is.bnq (bO (by simp only [Ih]; omega)) (Is.bnq a6 (Is.bnq (wg b0.1 (by have:=b0.2; omega)) (Is.bnq (bO (by simp only [Ih]; omega)) (Is.next ⟨g,f,by simp [V],by simp [a0],o,y,q,fun j u=>?_,fun j u=>?_,⟨row,?_,w⟩,?_⟩))))
   ·exact Iu (by omega)
   ·exact Iu (by omega)
   ·subst V; exact List.getElem?_concat_length
   ·subst a0; exact List.getElem?_concat_length
 ·rintro ⟨d6,e1,e,R⟩ ⟨g,f,o,y,q,w,D,g7,g8,g9,c7⟩;simp only at f o y q w D g7 g8 g9 c7;have d0:i+1≤e.length:=by rw [f,Ik]; omega
  have b7:∀(j:Nat) (T:List Int),j<i→e[j]?=some T→sets[j]?=some T:=by
   intro j T u l;rw [f,Iu (by omega)] at l;exact l
  have c3:e[i]?=some S:=by rw [f]; exact nB a1
  refine Is.bnq (aK (by omega)) (Is.next ⟨⟨i+1,rfl,d0,o,y,q,by show e[0]?=_; rw [f]; exact nB a4,w,D,fun j T u l=>?_,fun j T u l=>?_⟩,by show 501 - ((i+1:Nat):Int).toNat<501 - ((i:Nat):Int).toNat; omega⟩)
  ·rcases Nat.lt_or_eq_of_le (Nat.le_of_lt_succ u) with t|rfl
   ·obtain ⟨r,B,J⟩:=U j T t (b7 j T t l);refine ⟨r,by rw [←B]; exact g7 j t,?_⟩;show nI n fb e T r;rw [f];exact J.app g
   ·have l:e[j]?=some T:=l;rw [c3] at l;rw [←Option.some.inj l];exact g9
  ·rcases Nat.lt_or_eq_of_le (Nat.le_of_lt_succ u) with t|rfl
   ·rw [←hacc j T t (b7 j T t l)];exact g8 j t
   ·have l:e[j]?=some T:=l;rw [c3] at l;rw [←Option.some.inj l];exact c7
end
inductive bP:T_Regex→Prop where
  | mk (x:T_Regex):(zY .i64) x.Kind→(fun v=>∀x∈v.1,zY .u64 x) x.Set→(∀y∈x.Kids,bP y)→x.Kids.length≤maxLen→bP x
end Go.Proofs.YtggpjcdhflcfmaaGreatDoor
