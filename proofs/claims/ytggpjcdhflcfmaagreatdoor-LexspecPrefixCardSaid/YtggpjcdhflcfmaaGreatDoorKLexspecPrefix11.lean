/- Part 11. -/
import Derived.Test.YtggpjcdhflcfmaaGreatDoorKLexspecPrefix10
set_option linter.unusedVariables false
set_option linter.unusedSimpArgs false
set_option maxRecDepth 100000
namespace Go.Proofs.YtggpjcdhflcfmaaGreatDoor
open Go.Lx Go.RowKit
set_option maxRecDepth 100000 in
theorem jH {b:T_LexSpec} {s:Int} {r:Bool} (c:M.f6 b s=some r) {m:Hp} {p:World} (hi:db m p) {S:List Value} (b9:dh.rel m S b) (j:ke 0 (M.k0.map ap) m) :
 aU Tryz.prog 6 #[Value.agg S.toArray,U8 s] p (fun v w'=>∃g',(cG aY false g' v r)∧dy m p g' w'):=by
 unfold M.f6 at c;obtain ⟨e2,_,_,_,rfl,⟨d,rfl,h⟩,rfl,rfl,rfl⟩:=b9;have a:=Sep.start hi;refine ax Tryz.func6 Z Tryz.ntmps6 Z ?_;have k:=bQ;refine SR<|Ob [d,Bo b.Layout,I6 b.Misspelling,I6 b.Unclosed] a Z Z fun T d1 a=>Oa (Bo false) Z<|aa<|aw ?_;obtain ⟨U,Y,c1⟩:=ab c;refine az (fun E w=>∃F,Ev E [1,2,19] [U8 s,P0 T,Bo U]∧E.ds=[]∧bg m F∧Sp m p F w [bx T 24 ([d,Bo b.Layout,I6 b.Misspelling,I6 b.Unclosed])]) ?_ ?_
 ·have c:=Y;have t:=bg.refl m;refine ah<|On [d,Bo b.Layout,I6 b.Misspelling,I6 b.Unclosed] js Z a 0 Z Z Z ?_;obtain ⟨W,b0,c⟩:=ab c;refine C [Ag [d,Bo b.Layout,I6 b.Misspelling,I6 b.Unclosed]] GI Z (qE b0 a.imm (⟨[d],[Bo b.Layout],[I6 b.Misspelling],[I6 b.Unclosed],Z,⟨_,Z,h⟩,Z,Z,Z⟩)) Z ?_;rintro v3 c9 ⟨R,⟨_,rfl,rfl⟩,P⟩;have I:=P.le a.imm;replace a:=a.call P;replace h:=h.mono I;replace t:=t.trans I;refine O (cM Z) Z<|Om (Bo (!W)) Z ?_;rcases aq c with ⟨f,c⟩|⟨f,c⟩
  ·refine OJ f Z<|OJ f Z<|OJ f Z<|OJ f Z<|O (aF (v:=Bo true) Z f Z) Z<|aa ?_;obtain rfl:=si c;exact ⟨R,Z,k,t,a⟩
  refine OI f Z (an HH dL Z Z (by decide) Z Z)<|OI f Z (aX (v:=d) dL Z (a.cell (i:=0) (o:=0) Z Z)) ?_;obtain ⟨a2,e4,a1⟩:=h.shape;refine OI f Z (aK (v:=d) HF Z a1)<|OI f Z (bT Z Z)<|O (av (v:=Bo ((b.Defs.length:Int) == 0)) Z f Z) Z<|aa ?_;obtain rfl:=si c;exact ⟨R,Z,k,t,a⟩
 clear a;rintro E w ⟨F,B,k,J,a⟩;have c:=c1;obtain ⟨E,rfl⟩:=fA B;replace h:=h.mono J;replace j:=j.mono J;rcases aq c with ⟨A,c⟩|⟨A,c⟩
 ·refine al Z A<|SR ?_;obtain ⟨z,a9,c⟩:=ab c;refine C [] GX Z (kP a9 a.imm j) Z ?_;rintro v4 c8 ⟨c2,⟨_,rfl,rfl⟩,b8⟩;replace a:=a.call b8;refine Oa (Bo z) Z<|aa<|aC ?_;obtain rfl:=si c;exact aB k ⟨_,bC Tryz.results6 (aI (v:=Bo z) Z),c2,⟨[Bo z],Z,Z⟩,a.ext⟩
 refine ai Z A<|ao<|SR<|Om (U8 s) Z<|O (eE HI Hw Z) Z<|Of HH dL Z<|Ol d dL a 0 0 Z Z Z Z ?_;obtain ⟨a3,e3,a0⟩:=h.shape;refine O (aK (v:=d) HF Z a0) Z ?_;obtain ⟨t1,a5,c⟩:=ab c;refine O (kz Z Z a5) Z ?_;obtain ⟨G,a4,c⟩:=ab c;refine O (aR Z Z a4) Z<|Oa (I6 G) Z<|NR<|On [d,Bo b.Layout,I6 b.Misspelling,I6 b.Unclosed] js Z a 0 Z Z Z<|aH js a (zs:=[Z0,Bo false,I6 0,I6 0]) Z Z fun b2 c7 a=>cy js a 0 [d,Bo b.Layout,I6 b.Misspelling,I6 b.Unclosed] Z Z Z (ag h.oc (ej Z)) Z Z fun c6 a=>NR<|Of HH dL Z<|Ol d dL a 1 0 Z Z Z Z<|Om (I6 G) Z ?_;obtain ⟨l1,b6,c⟩:=ab c;obtain ⟨v5,u,b3⟩:=cw.slice h b6;refine O (b3 HF dI Z sG.none (sG.some Z)) Z<|Of HH dL Z<|aW dL a (i:=0) Z Z (v:=v5) Z u.oc (o:=0) (by simp) fun c5 a=>NR<|On [d,Bo b.Layout,I6 b.Misspelling,I6 b.Unclosed] js Z a 1 Z Z Z ?_;obtain ⟨l,a8,c⟩:=ab c;refine C [Ag [d,Bo b.Layout,I6 b.Misspelling,I6 b.Unclosed]] BH Z (eX a8 a.imm (⟨[d],[Bo b.Layout],[I6 b.Misspelling],[I6 b.Unclosed],Z,⟨_,Z,h⟩,Z,Z,Z⟩) j) Z ?_;rintro v6 c4 ⟨e1,⟨v7,v8,rfl,⟨_,rfl,rfl⟩,⟨_,rfl,rfl⟩⟩,N⟩;have H:=N.le a.imm;replace a:=a.call N;replace j:=j.mono H;replace u:=u.mono H;refine Om (Value.tuple #[I6 l.1,I6 l.2]) Z<|Ox (I6 l.1) Z Z Z<|Ox (I6 l.2) Z Z Z<|Oa (I6 l.1) Z<|Oa (I6 l.2) Z<|NR<|On [v5,Bo b.Layout,I6 b.Misspelling,I6 b.Unclosed] js Z a 0 Z Z Z ?_;obtain ⟨g,a7,c⟩:=ab c;refine C [Ag [v5,Bo b.Layout,I6 b.Misspelling,I6 b.Unclosed]] BH Z (eX a7 a.imm (⟨[v5],[Bo b.Layout],[I6 b.Misspelling],[I6 b.Unclosed],Z,⟨_,Z,u⟩,Z,Z,Z⟩) j) Z ?_;rintro v9 c3 ⟨Q,⟨d7,d6,rfl,⟨_,rfl,rfl⟩,⟨_,rfl,rfl⟩⟩,L⟩;have b5:=L.le a.imm;replace a:=a.call L;replace j:=j.mono b5;refine Om (Value.tuple #[I6 g.1,I6 g.2]) Z<|Ox (I6 g.1) Z Z Z<|Ox (I6 g.2) Z Z Z<|Oa (I6 g.1) Z<|Oa (I6 g.2) Z<|aa ?_;obtain ⟨y,X,c0⟩:=ab c;refine az (fun E w=>∃x,Ev E [4] [Bo y]∧E.ds=[]∧bg Q x∧Sp m p x w []) ?_ ?_
 ·have c:=X;have q:=bg.refl Q;refine ah ?_;obtain ⟨V,a6,c⟩:=ab c;refine C [] GX Z (kP a6 a.imm j) Z ?_;rintro d5 d0 ⟨D,⟨_,rfl,rfl⟩,K⟩;have b4:=K.le a.imm;replace a:=a.call K;replace q:=q.trans b4;refine Om (Bo V) Z ?_;rcases aq c with ⟨e,c⟩|⟨e,c⟩
  ·refine Im e (I6 l.2) Z<|OI e Z (du Z Z)<|Im e (Bo (l.2 != 0)) Z ?_;rcases aq c with ⟨n,c⟩|⟨n,c⟩
   ·refine OJ n Z<|OJ n Z<|OI e Z (aF (v:=Bo true) Z n Z)<|O (aF (v:=Bo true) Z e Z) Z<|Oa (Bo true) Z<|aa ?_;obtain rfl:=si c;exact ⟨D,Z,k,q,(a.kp 0 Z)⟩
   refine Im n (I6 g.2) Z<|OI n Z (bT Z Z)<|OI e Z (av (v:=Bo (g.2 == 0)) Z n Z)<|O (aF (v:=Bo (g.2 == 0)) Z e Z) Z<|Oa (Bo (g.2 == 0)) Z<|aa ?_;obtain rfl:=si c;exact ⟨D,Z,k,q,(a.kp 0 Z)⟩
  refine OJ e Z<|OJ e Z<|OJ e Z<|eF Z Z Z Z<|eF Z Z Z Z<|OJ e Z<|O (av (v:=Bo false) Z e Z) Z<|Oa (Bo false) Z<|aa ?_;obtain rfl:=si c;exact ⟨D,Z,k,q,(a.kp 0 Z)⟩
 clear a;rintro E w ⟨x,B,k,e0,a⟩;have c:=c0;obtain ⟨E,rfl⟩:=kf B;refine aC ?_;obtain rfl:=si c;exact aB k ⟨_,bC Tryz.results6 (aI (v:=Bo y) Z),x,⟨[Bo y],Z,Z⟩,a.ext⟩
end Go.Proofs.YtggpjcdhflcfmaaGreatDoor
namespace Go.Lx
theorem fw {σ ρ:Type} {body:σ→Option (cO σ ρ)} (S:Nat→σ) (n:Nat) {r:ρ} (h:∀i,i<n→body (S i)=some (.next (S (i+1)))) (hn:body (S n)=some (.stop r)) :
 ∀k,n<k→be body k (S 0)=some r:=by
 have key:∀m i k,i+m=n→m<k→be body k (S i)=some r:=by
  intro m;induction m with
  | zero=>
   intro i k a hk
   match k,hk with
   | k+1,_=>
    have:i=n:=by omega
    subst this;simp only [be,hn]
  | succ m ih=>
   intro i k a hk
   match k,hk with
   | k+1,hk=>
    simp only [be,h i (by omega)];exact ih (i+1) k (by omega) (by omega)
 intro k hk;exact key n 0 k (by omega) hk
theorem oo {σ ρ:Type} {body:σ→Option (cO σ ρ)} (I:σ→Prop) (μ:σ→Nat) (Post:ρ→Prop)
 (h:∀s,I s→(∃a,body s=some (.next a)∧I a∧μ a<μ s)∨(∃r,body s=some (.stop r)∧Post r)) :
 ∀k s,I s→μ s<k→∃r,be body k s=some r∧Post r:=by
 intro k;induction k with
 | zero=>intro s _ hk; omega
 | succ k ih=>
  intro s d hk;rcases h s d with ⟨a,hb,c,e⟩|⟨r,hb,hp⟩
  ·obtain ⟨r,b,hp⟩:=ih a c (by omega);exact ⟨r,by simp only [be,hb]; exact b,hp⟩
  ·exact ⟨r,by simp only [be,hb],hp⟩
theorem aN {α β:Type} {o:Option α} {x:α} {k:α→Option β} {r:Option β} (h:o=some x) (hk:k x=r):o.bind k=r:=by rw [h]; exact hk
theorem cY {σ ρ:Type} {o:Option (cO σ ρ)} {x:σ} {k:σ→Option ρ} {r:Option ρ} (h:o=some (.next x)) (hk:k x=r):bo o k=r:=by rw [h]; exact hk
theorem eB {σ ρ:Type} {o:Option (cO σ ρ)} {x:ρ} {k:σ→Option ρ} (h:o=some (.stop x)):bo o k=some x:=by rw [h]; rfl
theorem gY {n:Nat} (h:n≤4611686018427387903):n<ba:=by unfold ba; omega
theorem fC {n:Int} (h0:-9223372036854775808≤n) (h1:n≤9223372036854775807):IntKind.i64.wrap n=n:=by rw [IntKind.wrap_i64]; omega
theorem lj {n:Int} (h0:0≤n) (h1:n≤255):IntKind.u8.wrap n=n:=by simp [IntKind.wrap,IntKind.bits,IntKind.signed]; omega
theorem kh {n:Int} (h0:0≤n) (h1:n<18446744073709551616):IntKind.u64.wrap n=n:=by simp [IntKind.wrap,IntKind.bits,IntKind.signed]; omega
theorem dO {n:Int} (h0:-9223372036854775808≤n) (h1:n≤9223372036854775807):cd .i64 n=some n:=by unfold cd; rw [if_pos (fC h0 h1)]
theorem ia {a b:Nat} (ha:a<18446744073709551616) (hb:b<18446744073709551616):bits .or .u64 (a:Int) (b:Int)=((a ||| b:Nat):Int):=by
 simp only [bits];have h:a ||| b<18446744073709551616:=Nat.or_lt_two_pow (n:=64) ha hb;have e:((BitVec.ofInt 64 (a:Int) ||| BitVec.ofInt 64 (b:Int)).toNat)=a ||| b:=by
  rw [BitVec.toNat_or,BitVec.toNat_ofInt,BitVec.toNat_ofInt];have d:((a:Int) % (2 ^ 64:Nat)).toNat=a:=by omega
  have c:((b:Int) % (2 ^ 64:Nat)).toNat=b:=by omega
  rw [d,c]
 show IntKind.u64.wrap _=_;rw [show (BitVec.ofInt (IntKind.u64.bits) (a:Int) ||| BitVec.ofInt (IntKind.u64.bits) (b:Int)).toNat=a ||| b from e];exact kh (by omega) (by omega)
theorem tw {a b:Nat} (ha:a<18446744073709551616) (hb:b<18446744073709551616):bits .and .u64 (a:Int) (b:Int)=((a &&& b:Nat):Int):=by
 simp only [bits];have h:a &&& b<18446744073709551616:=Nat.lt_of_le_of_lt Nat.and_le_left ha;have e:((BitVec.ofInt 64 (a:Int) &&& BitVec.ofInt 64 (b:Int)).toNat)=a &&& b:=by
  rw [BitVec.toNat_and,BitVec.toNat_ofInt,BitVec.toNat_ofInt];have d:((a:Int) % (2 ^ 64:Nat)).toNat=a:=by omega
  have c:((b:Int) % (2 ^ 64:Nat)).toNat=b:=by omega
  rw [d,c]
 show IntKind.u64.wrap _=_;rw [show (BitVec.ofInt (IntKind.u64.bits) (a:Int) &&& BitVec.ofInt (IntKind.u64.bits) (b:Int)).toNat=a &&& b from e];exact kh (by omega) (by omega)
theorem tv {a b:Nat} (ha:a<18446744073709551616) (hb:b<18446744073709551616):bits .xor .u64 (a:Int) (b:Int)=((a ^^^ b:Nat):Int):=by
 simp only [bits];have h:a ^^^ b<18446744073709551616:=Nat.xor_lt_two_pow (n:=64) ha hb;have e:((BitVec.ofInt 64 (a:Int) ^^^ BitVec.ofInt 64 (b:Int)).toNat)=a ^^^ b:=by
  rw [BitVec.toNat_xor,BitVec.toNat_ofInt,BitVec.toNat_ofInt];have d:((a:Int) % (2 ^ 64:Nat)).toNat=a:=by omega
  have c:((b:Int) % (2 ^ 64:Nat)).toNat=b:=by omega
  rw [d,c]
 show IntKind.u64.wrap _=_;rw [show (BitVec.ofInt (IntKind.u64.bits) (a:Int) ^^^ BitVec.ofInt (IntKind.u64.bits) (b:Int)).toNat=a ^^^ b from e];exact kh (by omega) (by omega)
theorem yi {a:Nat} (ha:a<18446744073709551616):mN .u64 (a:Int)=((18446744073709551615 ^^^ a:Nat):Int):=
 tv (a:=18446744073709551615) (b:=a) (by omega) ha
theorem pW {t:Nat} (h:t<64):uZ .u64 1 (t:Int)=some ((2 ^ t:Nat):Int):=by
 unfold uZ;rw [if_pos (by omega)];have e:min ((t:Int).toNat) IntKind.u64.bits=t:=by show min ((t:Int).toNat) 64=t; omega
 rw [e];have b:2 ^ t<18446744073709551616:=by
  have:2 ^ t<2 ^ 64:=Nat.pow_lt_pow_right (by omega) h;omega
 have a:(2:Int) ^ t=((2 ^ t:Nat):Int):=by rw [Int.natCast_pow]; rfl
 have key:∀p:Nat,p<18446744073709551616→IntKind.u64.wrap (p:Int)=(p:Int):=fun p hp=>kh (by omega) (by omega)
 rw [Int.one_mul,a,key _ b]
theorem AH {a t:Nat} (h:t<64):sL .u64 (a:Int) (t:Int)=some ((a >>> t:Nat):Int):=by
 unfold sL;rw [if_pos (by omega)];have e:min ((t:Int).toNat) IntKind.u64.bits=t:=by show min ((t:Int).toNat) 64=t; omega
 rw [e,Nat.shiftRight_eq_div_pow];simp
theorem wP {k:IntKind} {a b:Nat} (hb:b≠0) (hw:k.wrap ((a / b:Nat):Int)=((a / b:Nat):Int)):qq k (a:Int) (b:Int)=some ((a / b:Nat):Int):=by
 unfold qq;have e:(a:Int).tdiv (b:Int)=((a / b:Nat):Int):=by rw [Int.tdiv_eq_ediv_of_nonneg (by omega)]; rfl
 rw [e,if_pos ⟨by omega,hw⟩]
theorem nc {a b:Nat} (hb:b≠0):lK (a:Int) (b:Int)=some ((a % b:Nat):Int):=by
 unfold lK;rw [if_pos (by omega),Int.tmod_eq_emod_of_nonneg (by omega)];rfl
theorem dY {s:Str} {i:Nat} (h:i<s.length):jJ s (i:Int)=some ((s[i]).toNat:Int):=by
 unfold jJ;rw [if_pos (by omega)];simp [h]
theorem aZ {α:Type} {l:List α} {i:Nat} (h:i<l.length):bD l (i:Int)=some l[i]:=by
 unfold bD;rw [if_pos (by omega)];simp [h]
theorem dk {α:Type} {l:List α} {i:Nat} {x:α} (h:i<l.length):dE l (i:Int) x=some (l.set i x):=by
 unfold dE;rw [if_pos ⟨by omega,by simpa using h⟩];simp
theorem bN {α:Type} {B:Nat} {l m:List α} (h:(l.length+m.length)*B≤140737488355328):cz B l m=some (l++m):=by unfold cz; rw [if_pos h]
theorem eI {α:Type} {B n:Nat} {z:α} (h:n*B≤140737488355328):pA B (n:Int) z=some (List.replicate n z):=by
 unfold pA;rw [if_pos ⟨by omega,by rw [←Int.natCast_mul]; omega⟩,IH]
theorem xU {σ ρ:Type} {body:σ→Option (cO σ ρ)} (J:Nat→σ→Prop) (n:Nat) (Post:ρ→Prop)
 (d:∀i s,i<n→J i s→(∃a,body s=some (.next a)∧J (i+1) a)∨(∃r,body s=some (.stop r)∧Post r))
 (last:∀s,J n s→∃r,body s=some (.stop r)∧Post r) (hn:n≤9223372036854775807) {b:σ} (h:J 0 b):∃r,be body ba b=some r∧Post r:=by
 have key:∀m i s k,i+m=n→m<k→J i s→∃r,be body k s=some r∧Post r:=by
  intro m;induction m with
  | zero=>
   intro i s k f hk c
   match k,hk with
   | k+1,_=>
    have:i=n:=by omega
    subst this;obtain ⟨r,hb,hp⟩:=last s c;exact ⟨r,by simp only [be,hb],hp⟩
  | succ m ih=>
   intro i s k f hk c
   match k,hk with
   | k+1,hk=>
    rcases d i s (by omega) c with ⟨a,hb,g⟩|⟨r,hb,hp⟩
    ·obtain ⟨r,e,hp⟩:=ih (i+1) a k (by omega) (by omega) g;exact ⟨r,by simp only [be,hb]; exact e,hp⟩
    ·exact ⟨r,by simp only [be,hb],hp⟩
 exact key n 0 b ba (by omega) (by unfold ba; omega) h
theorem vI {σ ρ:Type} {body:σ→Option (cO σ ρ)} (I:σ→Prop) (μ:σ→Nat) (Post:ρ→Prop)
 (h:∀s,I s→(∃s',body s=some (.next s')∧I s'∧μ s'<μ s)∨(∃r,body s=some (.stop r)∧Post r))
 {s0:σ} (h0:I s0) (hm:μ s0≤9223372036854775807):∃r,be body ba s0=some r∧Post r:=
 oo I μ Post h ba s0 h0 (by unfold ba; omega)
theorem aM {i:Nat} (h:i<9223372036854775807):cd .i64 ((i:Int)+1)=some ((i+1:Nat):Int):=by rw [dO (by omega) (by omega)]; rfl
theorem eg {p:Prop} [Decidable p] (h:p):decide p=true:=decide_eq_true h
theorem eQ {p:Prop} [Decidable p] (h:¬ p):decide p=false:=decide_eq_false h
theorem cv {a b:Int} (h:a≠b):(a == b)=false:=by simpa using h
theorem qV {a b:Int} (h:a=b):(a == b)=true:=by simpa using h
theorem mj {a b:Int} (h:a≠b):(a != b)=true:=by simpa using h
theorem sC {a b:Int} (h:a=b):(a != b)=false:=by simpa using h
theorem eP {a b:Int} (h:(a != b)=false):a=b:=by simpa using h
theorem kI {a b:Int} (h:(a != b)=true):a≠b:=by simpa using h
theorem kJ {a b:Int} (h:(a == b)=false):a≠b:=by simpa using h
theorem dw {a b:Int} (h:(a == b)=true):a=b:=by simpa using h
theorem mT {n:Nat} (h:n<256):IntKind.u8.wrap (n:Int)=n:=lj (by omega) (by omega)
theorem dZ {α:Type} {l:List α} {i:Int} {d:α} (h0:0≤i) (h:i<l.length):bD l i=some (l.getD i.toNat d):=by
 obtain ⟨n,rfl⟩:=II h0;have hn:n<l.length:=by omega
 show bD l (n:Int)=_;rw [aZ hn];simp [Ih,hn]
theorem iQ {α:Type} {l:List α} {i:Int} {x:α} (h0:0≤i) (h:i<l.length):dE l i x=some (l.set i.toNat x):=by
 obtain ⟨n,rfl⟩:=II h0;exact dk (by simpa using h)
theorem cV {α:Type} {l:List α} {i:Nat} {d:α} (h:i<l.length):l.getD i d∈l:=by
 simp [Ih,h]
def Is {α:Type} (o:Option α) (P:α→Prop):Prop:=∃r,o=some r∧P r
def SP {σ ρ:Type} (P:σ→Prop) (Q:ρ→Prop):cO σ ρ→Prop
 | .next s=>P s
 | .stop r=>Q r
section
variable {α β σ ρ:Type} {P:α→Prop} {Q:β→Prop}
theorem Is.pure {x:α} (h:P x):Is (some x) P:=⟨x,rfl,h⟩
theorem Is.mono {o:Option α} {P':α→Prop} (h:Is o P) (k:∀x,P x→P' x):Is o P':=h.elim fun r hr=>⟨r,hr.1,k r hr.2⟩
theorem Is.eq {o:Option α} {x:α} (h:Is o (·=x)):o=some x:=by obtain ⟨r,h1,rfl⟩:=h; exact h1
theorem Is.of {o:Option α} {x:α} (h:o=some x) (k:P x):Is o P:=⟨x,h,k⟩
theorem Is.bnd {o:Option α} {f:α→Option β} (h:Is o P) (k:∀x,P x→Is (f x) Q):Is (o.bind f) Q:=by
 obtain ⟨r,rfl,hp⟩:=h;exact k r hp
theorem Is.bnq {o:Option α} {f:α→Option β} {x:α} (h:o=some x) (k:Is (f x) Q):Is (o.bind f) Q:=by subst h; exact k
theorem Is.bs {P:σ→Prop} {Q:ρ→Prop} {o:Option (cO σ ρ)} {f:σ→Option ρ} (h:Is o (SP P Q)) (k:∀x,P x→Is (f x) Q):Is (bo o f) Q:=by
 obtain ⟨r,rfl,hp⟩:=h;cases r with
 | next s=>exact k s hp
 | stop r=>exact ⟨r,rfl,hp⟩
theorem Is.cnd {b:Bool} {x y:Option β} (ht:b=true→Is x Q) (hf:b=false→Is y Q):Is (bif b then x else y) Q:=by
 cases b
 ·exact hf rfl
 ·exact ht rfl
theorem Is.ct {b:Bool} {x y:Option β} (h:b=true) (k:Is x Q):Is (bif b then x else y) Q:=by subst h; exact k
theorem Is.cf {b:Bool} {x y:Option β} (h:b=false) (k:Is y Q):Is (bif b then x else y) Q:=by subst h; exact k
theorem Is.dcd {p:Prop} [Decidable p] {x y:Option β} (ht:p→Is x Q) (hf:¬ p→Is y Q):Is (bif decide p then x else y) Q:=
 Is.cnd (fun h=>ht (of_decide_eq_true h)) (fun h=>hf (of_decide_eq_false h))
theorem Is.dt {p:Prop} [Decidable p] {x y:Option β} (h:p) (k:Is x Q):Is (bif decide p then x else y) Q:=Is.ct (decide_eq_true h) k
theorem Is.df {p:Prop} [Decidable p] {x y:Option β} (h:¬ p) (k:Is y Q):Is (bif decide p then x else y) Q:=Is.cf (decide_eq_false h) k
theorem Is.upto {body:σ→Option (cO σ ρ)} {Q:ρ→Prop} (J:Nat→σ→Prop) (n:Nat) (hn:n≤9223372036854775807) {b:σ} (e:J 0 b)
 (c:∀i s,i<n→J i s→Is (body s) (SP (J (i+1)) Q)) (last:∀s,J n s→Is (body s) (SP (fun _=>False) Q)):Is (be body ba b) Q:=
 xU J n Q (fun i s d a=>by
  obtain ⟨r,hb,hp⟩:=c i s d a;cases r with
  | next s'=>exact .inl ⟨s',hb,hp⟩
  | stop r=>exact .inr ⟨r,hb,hp⟩) (fun s a=>by
  obtain ⟨r,hb,hp⟩:=last s a;cases r with
  | next s'=>exact hp.elim
  | stop r=>exact ⟨r,hb,hp⟩) hn e
theorem Is.while {body:σ→Option (cO σ ρ)} {Q:ρ→Prop} (I:σ→Prop) (μ:σ→Nat) {s0:σ} (h0:I s0) (hm:μ s0≤9223372036854775807)
 (step:∀s,I s→Is (body s) (SP (fun s'=>I s'∧μ s'<μ s) Q)):Is (be body ba s0) Q:=
 vI I μ Q (fun s hI=>by
  obtain ⟨r,hb,hp⟩:=step s hI;cases r with
  | next s'=>exact .inl ⟨s',hb,hp⟩
  | stop r=>exact .inr ⟨r,hb,hp⟩) h0 hm
theorem Is.next {Q:ρ→Prop} {P:σ→Prop} {s:σ} (h:P s):Is (some (cO.next s:cO σ ρ)) (SP P Q):=⟨_,rfl,h⟩
theorem Is.stop {Q:ρ→Prop} {P:σ→Prop} {r:ρ} (h:Q r):Is (some (cO.stop r:cO σ ρ)) (SP P Q):=⟨_,rfl,h⟩
end
section
variable {K V:Type} [BEq K] [LawfulBEq K]
theorem om {m:List (K×V)} {k:K} {v:V}:bY (dM m k v) k=some v:=by
 induction m with
 | nil=>simp [dM,bY]
 | cons p m ih=>
  unfold dM;cases hp:p.1 == k
  ·unfold bY at ih ⊢;rw [cond_false,List.find?_cons,hp];exact ih
  ·simp [bY]
theorem pB {m:List (K×V)} {k q:K} {v:V} (h:q≠k):bY (dM m k v) q=bY m q:=by
 have hk:(k == q)=false:=by simpa using fun e=>h e.symm
 induction m with
 | nil=>simp [dM,bY,hk]
 | cons p m ih=>
  unfold dM;cases hp:p.1 == k
  ·unfold bY at ih ⊢;rw [cond_false,List.find?_cons,List.find?_cons];cases p.1 == q
   ·exact ih
   ·rfl
  ·have:p.1=k:=by simpa using hp
   simp [bY,hk,this]
end
end Go.Lx
namespace Go.Proofs.YtggpjcdhflcfmaaGreatDoor
open Go.Lx
def Cc:T_Regex:=⟨4,⟨[0,0,0,0],rfl⟩,[⟨3,⟨[0,576460743713488896,0,0],rfl⟩,[]⟩,⟨6,⟨[0,0,0,0],rfl⟩,[⟨3,⟨[0,576460743713488896,0,0],rfl⟩,[]⟩]⟩]⟩
def xz:T_Regex:=⟨4,⟨[0,0,0,0],rfl⟩,[⟨3,⟨[0,2199023255552,0,0],rfl⟩,[]⟩,⟨3,⟨[0,274877906944,0,0],rfl⟩,[]⟩]⟩
def DX:T_NFA:=⟨5,0,[⟨0,1,false,⟨[0,576460743713488896,0,0],rfl⟩⟩,⟨0,3,false,⟨[0,2199023255552,0,0],rfl⟩⟩,⟨1,2,false,⟨[0,576460743713488896,0,0],rfl⟩⟩,⟨2,2,false,⟨[0,576460743713488896,0,0],rfl⟩⟩,⟨3,4,false,⟨[0,274877906944,0,0],rfl⟩⟩],[-1,0,0,-1,1]⟩
def Ed:T_DFA:=⟨List.replicate 97 0++List.replicate 5 1++List.replicate 1 2++List.replicate 2 1++List.replicate 1 3++List.replicate 17 1++List.replicate 133 0,[[-1,1,1,2],[-1,3,3,3],[-1,3,4,3],[-1,3,3,3],[-1,3,3,3]],[-1,0,0,0,0]⟩
def DZ:T_DFA:=⟨List.replicate 97 0++List.replicate 26 1++List.replicate 133 0,[[-1,1],[-1,1]],[-1,0]⟩
theorem Hk:M.d1 [Cc,xz]=some (DX,0):=by decide +kernel
theorem Hn:M.d2 DX=some (Ed,0):=by decide +kernel
theorem Hh:M.f3 Ed=some DZ:=by decide +kernel
theorem Hr:M.b4 [Cc,xz]=some (DZ,0):=by
 refine Is.eq ?_;unfold M.b4;exact Is.bnq Hk (Is.cf rfl (Is.bnq Hn (Is.cf rfl (Is.bnq Hh (Is.pure rfl)))))
def DW:T_NFA:=⟨5,0,[⟨0,1,false,⟨[0,2199023255552,0,0],rfl⟩⟩,⟨0,3,false,⟨[0,576460743713488896,0,0],rfl⟩⟩,⟨1,2,false,⟨[0,274877906944,0,0],rfl⟩⟩,⟨3,4,false,⟨[0,576460743713488896,0,0],rfl⟩⟩,⟨4,4,false,⟨[0,576460743713488896,0,0],rfl⟩⟩],[-1,-1,0,1,1]⟩
def Ec:T_DFA:=⟨List.replicate 97 0++List.replicate 5 1++List.replicate 1 2++List.replicate 2 1++List.replicate 1 3++List.replicate 17 1++List.replicate 133 0,[[-1,1,1,2],[-1,3,3,3],[-1,3,4,3],[-1,3,3,3],[-1,3,3,3]],[-1,1,1,1,0]⟩
def vF:T_DFA:=⟨List.replicate 97 0++List.replicate 5 1++List.replicate 1 2++List.replicate 2 1++List.replicate 1 3++List.replicate 17 1++List.replicate 133 0,[[-1,1,1,2],[-1,1,1,1],[-1,1,3,1],[-1,1,1,1]],[-1,1,1,0]⟩
theorem Hj:M.d1 [xz,Cc]=some (DW,0):=by decide +kernel
theorem Hm:M.d2 DW=some (Ec,0):=by decide +kernel
theorem Hg:M.f3 Ec=some vF:=by decide +kernel
theorem Hq:M.b4 [xz,Cc]=some (vF,0):=by
 refine Is.eq ?_;unfold M.b4;exact Is.bnq Hj (Is.cf rfl (Is.bnq Hm (Is.cf rfl (Is.bnq Hg (Is.pure rfl)))))
def DV:T_NFA:=⟨3,0,[⟨0,1,false,⟨[0,2199023255552,0,0],rfl⟩⟩,⟨1,2,false,⟨[0,274877906944,0,0],rfl⟩⟩],[-1,-1,0]⟩
def Eb:T_DFA:=⟨List.replicate 102 0++List.replicate 1 1++List.replicate 2 0++List.replicate 1 2++List.replicate 150 0,[[-1,-1,1],[-1,2,-1],[-1,-1,-1]],[-1,-1,0]⟩
def Ba:T_DFA:=⟨List.replicate 102 0++List.replicate 1 1++List.replicate 2 0++List.replicate 1 2++List.replicate 150 0,[[-1,-1,1],[-1,2,-1],[-1,-1,-1]],[-1,-1,0]⟩
theorem Hi:M.d1 [xz]=some (DV,0):=by decide +kernel
theorem Hl:M.d2 DV=some (Eb,0):=by decide +kernel
theorem Hf:M.f3 Eb=some Ba:=by decide +kernel
theorem GY:M.b4 [xz]=some (Ba,0):=by
 refine Is.eq ?_;unfold M.b4;exact Is.bnq Hi (Is.cf rfl (Is.bnq Hl (Is.cf rfl (Is.bnq Hf (Is.pure rfl)))))
def FA:bp:=bp.mk [119,111,114,100] 1 [91,97,45,122,93,43] [120] []
def FB:bp:=bp.mk [105,102] 3 [105,102] [105,102] []
def Fl:T_LexSpec:=T_LexSpec.mk [FA,FB] false 0 0
def CA:T_LexSpec:=T_LexSpec.mk [FB,FA] false 0 0
theorem Fu:M.e9 [105,102]=some xz:=by kernel_rfl
theorem Fy:M.f8 Ba Ba=some ([],false):=by kernel_rfl
theorem DU:M.d6 xz [105,102]=some true:=by
 refine Is.eq ?_;unfold M.d6;exact Is.bnq GY (Is.bnq Fu (Is.bnq GY (Is.bnq (x:=false) rfl (Is.cf rfl (Is.bnq Fy (Is.pure rfl))))))
theorem FD:M.b0 Fl=some (⟨[],[],[]⟩,1,13):=by
 refine Is.eq ?_;unfold M.b0;refine Is.bnq (x:=false) rfl (Is.cf rfl ?_);refine Is.bs (P:=fun l=>l=[Cc,xz]) (Is.of (x:=.next [Cc,xz]) (by kernel_rfl) rfl) ?_;rintro _ rfl;refine Is.bnq (x:=false) rfl (Is.cf rfl (Is.bnq Hr (Is.cf rfl ?_)));exact Is.bs (P:=fun _=>False) (Is.of (x:=.stop (⟨[],[],[]⟩,1,13)) (by kernel_rfl) rfl) (fun _ h=>h.elim)
theorem Ef:M.b0 CA=some (vF,0,0):=by
 refine Is.eq ?_;unfold M.b0;refine Is.bnq (x:=false) rfl (Is.cf rfl ?_);refine Is.bs (P:=fun l=>l=[xz,Cc]) (Is.of (x:=.next [xz,Cc]) (by kernel_rfl) rfl) ?_;rintro _ rfl;refine Is.bnq (x:=false) rfl (Is.cf rfl (Is.bnq Hq (Is.cf rfl ?_)));refine Is.bs (P:=fun _=>True) (Is.upto (fun i a=>a=(i:Int)) 2 (by decide) rfl ?_ ?_) (fun _ _=>Is.pure rfl)
 ·rintro i _ b rfl
  match i,b with
  | 0,_=>exact Is.dt (by decide) (Is.bnq (x:=FB) rfl (Is.bnq (x:=0) (by kernel_rfl) (Is.cf rfl (Is.bnq (x:=false) (Is.eq (Is.ct rfl (Is.bnq (x:=xz) rfl (Is.bnq DU (Is.pure rfl))))) (Is.cf rfl (Is.bnq (x:=1) rfl (Is.next rfl)))))))
  | 1,_=>exact Is.dt (by decide) (Is.bnq (x:=FA) rfl (Is.bnq (x:=1) (by kernel_rfl) (Is.cf rfl (Is.bnq (x:=false) rfl (Is.cf rfl (Is.bnq (x:=2) rfl (Is.next rfl)))))))
 ·rintro _ rfl;exact Is.df (by decide) (Is.stop trivial)
theorem FF:M.b7 Fl=some (1,13):=by
 refine Is.eq ?_;unfold M.b7;exact Is.bnq FD (Is.pure rfl)
theorem FE:M.b7 CA=some (0,0):=by
 refine Is.eq ?_;unfold M.b7;exact Is.bnq Ef (Is.pure rfl)
theorem FC:M.g3 CA=some (vF,0):=by
 refine Is.eq ?_;unfold M.g3;exact Is.bnq Ef (Is.pure rfl)
theorem Fq:M.l6 vF=some true:=by kernel_rfl
theorem DI:M.k6 vF [105,102]=some 0:=by kernel_rfl
theorem DH:M.k6 vF [105,116]=some 1:=by kernel_rfl
theorem rc:M.i5=some true:=by
 refine Is.eq ?_;unfold M.i5;refine Is.bnq (x:=Fl) rfl (Is.bnq FF (Is.bnq (x:=CA) rfl (Is.bnq FE (Is.bnq (x:=CA) rfl (Is.bnq FC (Is.bnq rfl (Is.bnq (x:=([32],true)) (by kernel_rfl) (Is.bnq (x:=true) (Is.eq ?_) (Is.pure rfl)))))))));exact Is.ct rfl (Is.ct rfl (Is.ct rfl (Is.ct rfl (Is.ct rfl (Is.bnq Fq (Is.ct rfl (Is.bnq DI (Is.ct rfl (Is.bnq DH (Is.ct rfl (Is.bnq (x:=CA) rfl (Is.bnq (x:=[120]) (by kernel_rfl) (Is.ct rfl (Is.ct rfl (Is.ct rfl (Is.bnq (x:=CA) rfl (Is.bnq (x:=[[105,102],[119,111,114,100]]) (by kernel_rfl) (Is.pure rfl))))))))))))))))))
def FewD (d:bp) (n:Nat):Prop:=d.Name.length≤40∧d.Pattern.length≤n∧d.Sample.length≤n∧d.Close.length≤n
theorem CU {x:T_LexSpec} (hl:x.Defs.length≤9223372036854775807) (m n:Nat):Is (M.l9 x (m:Int) (n:Int)) (fun b=>b=true→x.Defs.length≤m∧∀d∈x.Defs,FewD d n):=by
 unfold M.l9;refine Is.dcd (fun _=>Is.pure (fun h=>by cases h)) (fun o=>?_);refine Is.bs (P:=fun _=>∀d∈x.Defs,FewD d n) (Is.upto (fun i f=>f=(i:Int)∧∀d∈x.Defs.take i,FewD d n) x.Defs.length hl ⟨rfl,by simp⟩ ?_ ?_) (fun _ h=>Is.pure fun _=>⟨by omega,h⟩)
 ·rintro i _ c ⟨rfl,hd⟩;refine Is.dt (by omega) (Is.bnq (aZ c) (Is.bnd (P:=fun b=>b=false→FewD x.Defs[i] n) ?_ fun b hb=>Is.cnd (fun _=>Is.stop (fun h=>by cases h)) (fun e=>Is.bnq (aM (by omega)) (Is.next ⟨rfl,fun d a=>?_⟩))))
  ·refine Is.dcd (fun _=>Is.pure (fun h=>by cases h)) (fun l=>Is.dcd (fun _=>Is.pure (fun h=>by cases h)) (fun k=>Is.dcd (fun _=>Is.pure (fun h=>by cases h)) (fun j=>Is.pure (fun h=>?_))));have g:=of_decide_eq_false h;exact ⟨by omega,by omega,by omega,by omega⟩
  ·rw [Ix c,Iv] at a;rcases a with a|a
   ·exact hd d a
   ·rw [Iu.1 a]; exact hb e
 ·rintro _ ⟨rfl,hd⟩;rw [Iq] at hd;exact Is.df (by omega) (Is.stop hd)
def W4 (v:aT 4):Prop:=∀x∈v.1,0≤x∧x<18446744073709551616
def wd (v:aT 4) (i:Nat):Nat:=(v.1.getD i 0).toNat
def mem (v:aT 4) (b:Nat):Bool:=(wd v (b / 64)).testBit (b % 64)
theorem iH {v:aT 4} (h:W4 v) (i:Nat):wd v i<18446744073709551616:=by
 unfold wd
 by_cases hi:i<v.1.length
 ·have:=h v.1[i] (Ip hi);simp [Ih,hi]; omega
 ·simp [Ih,IM (by omega:v.1.length≤i)]
theorem jp {v:aT 4} (h:W4 v) {i:Nat} (hi:i<4):ie v (i:Int)=some (wd v i:Int):=by
 have hl:i<v.1.length:=by rw [v.2]; exact hi
 have:=h v.1[i] (Ip hl);unfold ie wd;rw [if_pos (by omega)];simp [Ih,hl];omega
def sM (v:aT 4) (i x:Nat):aT 4:=⟨v.1.set i (x:Int),by simp [v.2]⟩
theorem ki {v:aT 4} {i x:Nat} (hi:i<4):oO v (i:Int) (x:Int)=some (sM v i x):=by
 unfold oO sM;rw [if_pos ⟨by omega,by simpa using hi⟩];simp
theorem wA {v:aT 4} {i x j:Nat} (hi:i<4):wd (sM v i x) j=if i=j then x else wd v j:=by
 unfold wd sM;have hl:i<v.1.length:=by rw [v.2]; exact hi
 simp only [Ih,IU];split
 ·rename_i h; subst h; simp [hl]
 ·rfl
theorem xk {v:aT 4} (h:W4 v) {i x:Nat} (hx:x<18446744073709551616):W4 (sM v i x):=by
 intro y hy;rcases List.mem_or_eq_of_mem_set hy with hy|rfl
 ·exact h y hy
 ·omega
theorem Ay {v u:aT 4} (hv:W4 v) (hu:W4 u) (h:∀i,i<4→wd v i=wd u i):v=u:=by
 apply Subtype.ext;apply List.ext_getElem (by rw [v.2,u.2]);intro i h1 h2;have hi:i<4:=by rw [v.2] at h1; exact h1
 have:=h i hi;have a:=hv v.1[i] (Ip h1);have b:=hu u.1[i] (Ip h2);simp [wd,Ih,h1,h2] at this;omega
theorem AI {v u:aT 4} (a:W4 v) (c:W4 u) (h:∀b,b<256→mem v b=mem u b):v=u:=by
 refine Ay a c fun i d=>Nat.eq_of_testBit_eq fun j=>?_
 by_cases hj:j<64
 ·have:=h (64*i+j) (by omega);unfold mem at this;rw [show (64*i+j) / 64=i by omega,show (64*i+j) % 64=j by omega] at this;exact this
 ·have e:∀x,x<18446744073709551616→x.testBit j=false:=fun x hx=>Nat.testBit_lt_two_pow (Nat.lt_of_lt_of_le (by omega:x<2 ^ 64) (Nat.pow_le_pow_right (by omega) (by omega)))
  rw [e _ (iH a i),e _ (iH c i)]
theorem jP:W4 (aT.zero 4):=by
 intro x hx;simp [aT.zero] at hx;omega
theorem yZ (b:Nat):mem (aT.zero 4) b=false:=by
 unfold mem wd aT.zero;simp only [Ih,List.getElem?_replicate];split <;> simp
def fg (v:aT 4) (b:Nat):aT 4:=sM v (b / 64) (wd v (b / 64) ||| 2 ^ (b % 64))
theorem uQ {v:aT 4} (h:W4 v) (b:Nat):W4 (fg v b):=by
 refine xk h (Nat.or_lt_two_pow (n:=64) (iH h _) ?_);exact Nat.pow_lt_pow_right (by omega) (Nat.mod_lt _ (by omega))
theorem xS {v:aT 4} {b c:Nat} (hb:b<256):mem (fg v b) c=(mem v c || c == b):=by
 unfold mem fg;rw [wA (by omega)];split
 ·rename_i h;rw [Nat.testBit_or,Nat.testBit_two_pow,h];congr 1;rw [Bool.eq_iff_iff];simp;omega
 ·rename_i h;have:(c == b)=false:=by
   rw [beq_eq_false_iff_ne]; rintro rfl; exact h rfl
  rw [this,Bool.or_false]
theorem nk {k:IntKind} {c:Nat} (hk:k.wrap ((c / 64:Nat):Int)=((c / 64:Nat):Int)):qq k (c:Int) 64=some ((c / 64:Nat):Int):=wP (b:=64) (by omega) hk
theorem vT {v:aT 4} (d:W4 v) {c:Nat} (n:c<256):M.g0 v (c:Int)=some (mem v c):=by
 have m:=nk (k:=.u8) (c:=c) (lj (by omega) (by omega));have l:=jp d (i:=c / 64) (by omega);have j:lK (c:Int) 64=some ((c % 64:Nat):Int):=nc (b:=64) (by omega);have g:=AH (a:=wd v (c / 64)) (t:=c % 64) (by omega);have e:wd v (c / 64) >>> (c % 64)<18446744073709551616:=Nat.lt_of_le_of_lt (Nat.shiftRight_le _ _) (iH d _);have f:=tw (b:=1) e (by omega);unfold M.g0 mem;simp only [m,l,j,g,Ik];rw [show (1:Int)=((1:Nat):Int) from rfl,f];congr 1;rw [Nat.testBit,Nat.and_comm 1,Nat.and_one_is_mod];rcases Nat.mod_two_eq_zero_or_one (wd v (c / 64) >>> (c % 64)) with h|h <;> rw [h] <;> rfl
theorem tk {v:aT 4} (hv:W4 v) {c:Nat} (hc:c<256):M.h4 v (c:Int)=some (mem v c):=vT hv hc
def rG (l:List Nat):aT 4:=l.foldl fg (aT.zero 4)
theorem uA (l:List Nat):∀v,W4 v→W4 (l.foldl fg v):=by
 induction l with
 | nil=>exact fun v h=>h
 | cons b l ih=>exact fun v h=>ih _ (uQ h b)
theorem sr (l:List Nat):∀v,(∀b∈l,b<256)→∀c,mem (l.foldl fg v) c=(mem v c || l.contains c):=by
 induction l with
 | nil=>intro v _ c; simp
 | cons b l ih=>
  intro v h c;rw [List.foldl_cons,ih _ (fun x hx=>h x (by simp [hx])),xS (h b (by simp)),List.contains_cons,Bool.or_assoc]
theorem ld (l:List Nat):W4 (rG l):=uA l _ jP
theorem wU {l:List Nat} (h:∀b∈l,b<256) (c:Nat):mem (rG l) c=l.contains c:=by
 unfold rG; rw [sr l _ h,yZ,Bool.false_or]
theorem xi {body:aT 4×Int→Option (cO (aT 4×Int) (aT 4))} (f:Nat→Nat) (a n:Nat) (ha:a+n≤4611686018427387903)
    (h:∀i v,i<n→W4 v→body (v,((a+i:Nat):Int))=some (.next (fg v (f i),((a+(i+1):Nat):Int)))) (hn:∀v,body (v,((a+n:Nat):Int))=some (.stop v)) :
    be body ba (aT.zero 4,(a:Int))=some (rG ((List.range n).map f)):=by
  have c:∀i,i≤n→W4 (rG ((List.range i).map f)):=fun i _=>ld _
  have:=fw (body:=body) (fun i=>(rG ((List.range i).map f),((a+i:Nat):Int))) n (r:=rG ((List.range n).map f))
    (fun i b=>by
      have:=h i (rG ((List.range i).map f)) b (ld _);rw [this];congr 3;simp [rG,IZ])
    (hn _) ba (gY (by omega))
  simpa [rG] using this
def cW (s:Str):List Nat:=s.map UInt8.toNat
theorem uI (s:Str):(List.range s.length).map (fun i=>((s[i]?).getD 0).toNat)=cW s:=by
 apply List.ext_getElem
 ·simp [cW]
 ·intro i h1 h2;have:i<s.length:=by simpa using h1
  simp [cW,this]
theorem DE (u:UInt8):u.toNat<256:=u.toNat_lt
theorem EY {s:Str} (hf:s.length≤4611686018427387903):M.j4 s=some (rG (cW s)):=by
 unfold M.j4;refine aN (xi (fun i=>((s[i]?).getD 0).toNat) 0 s.length (by omega) (fun i v d a=>?_) (fun v=>?_)) (by rw [uI])
 ·simp only [Nat.zero_add];have hb:=DE s[i];have p:=dY d;have o:=nk (k:=.u8) (c:=s[i].toNat) (lj (by omega) (by omega));have m:=jp a (i:=s[i].toNat / 64) (by omega);have l:lK (s[i].toNat:Int) 64=some ((s[i].toNat % 64:Nat):Int):=nc (b:=64) (by omega);have j:=pW (t:=s[i].toNat % 64) (by omega);have e:2 ^ (s[i].toNat % 64)<18446744073709551616:=Nat.pow_lt_pow_right (n:=64) (by omega) (Nat.mod_lt _ (by omega));have h:=ia (iH a (s[i].toNat / 64)) e;have g:=ki (v:=v) (i:=s[i].toNat / 64) (x:=wd v (s[i].toNat / 64) ||| 2 ^ (s[i].toNat % 64)) (by omega);have f:cd .i64 ((i:Int)+1)=some ((i+1:Nat):Int):=by rw [dO (by omega) (by omega)]; rfl
  have hd:decide ((i:Int)<(s.length:Int))=true:=by simp; omega
  simp only [hd,cond_true,p,o,m,l,j,h,g,f,Ik,fg,d,Ii,Option.getD_some]
 ·simp only [Nat.zero_add];have hd:decide ((s.length:Int)<(s.length:Int))=false:=by simp
  simp only [hd,cond_false]
def eD (lo hi:Nat):List Nat:=(List.range (hi+1 - lo)).map (lo+·)
theorem nN {lo a:Nat} (p:lo<256) (r:a<256):M.f5 lo a=some (rG (eD lo a)):=by
 unfold M.f5;rw [fC (n:=(lo:Int)) (by omega) (by omega)];refine aN (xi (fun i=>lo+i) lo (a+1 - lo) (by omega) (fun i v q d=>?_) (fun v=>?_)) rfl
 ·have hb:lo+i<256:=by omega
  have o:=nk (k:=.i64) (c:=lo+i) (fC (by omega) (by omega));have m:=jp d (i:=(lo+i) / 64) (by omega);have l:lK ((lo+i:Nat):Int) 64=some (((lo+i) % 64:Nat):Int):=nc (b:=64) (by omega);have j:=pW (t:=(lo+i) % 64) (by omega);have e:2 ^ ((lo+i) % 64)<18446744073709551616:=Nat.pow_lt_pow_right (n:=64) (by omega) (Nat.mod_lt _ (by omega));have h:=ia (iH d ((lo+i) / 64)) e;have g:=ki (v:=v) (i:=(lo+i) / 64) (x:=wd v ((lo+i) / 64) ||| 2 ^ ((lo+i) % 64)) (by omega);have f:cd .i64 (((lo+i:Nat):Int)+1)=some ((lo+(i+1):Nat):Int):=by rw [dO (by omega) (by omega)]; rfl
  rw [fC (n:=(a:Int)) (by omega) (by omega)];simp only [eg (show ((lo+i:Nat):Int)≤(a:Int) by omega),cond_true,o,m,l,j,h,g,f,Ik,fg]
 ·rw [fC (n:=(a:Int)) (by omega) (by omega)];simp only [eQ (show ¬ ((lo+(a+1 - lo):Nat):Int)≤(a:Int) by omega),cond_false]
theorem Ca {v:aT 4} (h:∀x∈v.1,yv .u64 x):W4 v:=fun x hx=>by
 obtain ⟨a,b⟩:=h x hx;have a:0≤x:=a;have b:x≤18446744073709551615:=b;omega
def oP (f:Nat→Nat) (a:aT 4) (i:Nat):aT 4:=(List.range i).foldl (fun v j=>sM v j (f j)) a
theorem nR (f:Nat→Nat) (a:aT 4) (i:Nat):oP f a (i+1)=sM (oP f a i) i (f i):=by simp [oP,IZ]
theorem wz {f:Nat→Nat} {a:aT 4} {i j:Nat} (hi:i≤4):wd (oP f a i) j=if j<i then f j else wd a j:=by
 induction i with
 | zero=>simp [oP]
 | succ i ih=>
  rw [nR,wA (by omega),ih (by omega)]
  by_cases h:i=j
  ·subst h; rw [if_pos rfl,if_pos (by omega)]
  ·rw [if_neg h]
   by_cases h2:j<i
   ·rw [if_pos h2,if_pos (by omega)]
   ·rw [if_neg h2,if_neg (by omega)]
theorem tz {f:Nat→Nat} {a:aT 4} (h:W4 a) (hf:∀j,f j<18446744073709551616) (i:Nat):W4 (oP f a i):=by
 induction i with
 | zero=>simpa [oP] using h
 | succ i ih=>rw [nR]; exact xk ih (hf i)
theorem za {f:Nat→Nat} {a:aT 4} {b:Nat} (hb:b<256):mem (oP f a 4) b=(f (b / 64)).testBit (b % 64):=by
 unfold mem; rw [wz (by omega),if_pos (by omega)]
theorem tN {ρ:Type} {body:aT 4×Int→Option (cO (aT 4×Int) ρ)} {f:Nat→Nat} {a:aT 4} {r:ρ} (ha:W4 a) (hf:∀j,f j<18446744073709551616)
 (h:∀i v,i<4→W4 v→wd v i=wd a i→body (v,(i:Int))=some (.next (sM v i (f i),((i+1:Nat):Int)))) (hn:body (oP f a 4,4)=some (.stop r)) :
 be body ba (a,0)=some r:=by
 refine fw (body:=body) (fun i=>(oP f a i,(i:Int))) 4 (fun i b=>?_) hn ba (gY (by omega));rw [nR];refine h i _ b (tz ha hf i) ?_;rw [wz (by omega),if_neg (by omega)]
def mp (a b:aT 4):aT 4:=oP (fun j=>wd a j ||| wd b j) a 4
def mq (a:aT 4):aT 4:=oP (fun j=>18446744073709551615 ^^^ wd a j) a 4
theorem Cf {a b:aT 4} (ha:W4 a) (hb:W4 b) (j:Nat):wd a j ||| wd b j<18446744073709551616:=Nat.or_lt_two_pow (n:=64) (iH ha j) (iH hb j)
theorem yU {a:aT 4} (ha:W4 a) (j:Nat):18446744073709551615 ^^^ wd a j<18446744073709551616:=Nat.xor_lt_two_pow (n:=64) (by omega) (iH ha j)
theorem zU {a b:aT 4} (ha:W4 a) (hb:W4 b):W4 (mp a b):=tz ha (Cf ha hb) 4
theorem uR {a:aT 4} (ha:W4 a):W4 (mq a):=tz ha (yU ha) 4
theorem xT {a b:aT 4} {c:Nat} (hc:c<256):mem (mp a b) c=(mem a c || mem b c):=by
 unfold mp; rw [za hc,Nat.testBit_or]; rfl
theorem zW {a b:aT 4} (ha:W4 a) (hb:W4 b):M.i0 a b=some (mp a b):=by
 unfold M.i0;refine aN (tN (r:=mp a b) ha (Cf ha hb) (fun i v c f e=>?_) ?_) rfl
 ·have d:=jp f c;have j:=jp hb c;rw [e] at d;have h:=ia (iH ha i) (iH hb i);have g:=ki (v:=v) (x:=wd a i ||| wd b i) c;simp only [eg (show (i:Int)<4 by omega),cond_true,d,j,h,g,aM (show i<_ by omega),Ik]
 ·rfl
theorem iF {a:aT 4} (ha:W4 a):M.d5 a=some (mq a):=by
 unfold M.d5;refine aN (tN (r:=mq a) ha (yU ha) (fun i v b d e=>?_) ?_) rfl
 ·have c:=jp d b;rw [e] at c;have g:=yi (iH ha i);have f:=ki (v:=v) (x:=18446744073709551615 ^^^ wd a i) b;simp only [eg (show (i:Int)<4 by omega),cond_true,c,g,f,aM (show i<_ by omega),Ik]
 ·rfl
def D (σ:Nat→List Bool):Nat→List (List Bool)|0=>[]|i+1=>bif (D σ i).contains (σ i) then D σ i else D σ i++[σ i]
theorem ze {σ:Nat→List Bool} {i:Nat} {s:List Bool}:s∈D σ i↔∃a,a<i∧σ a=s:=by
 induction i with
 | zero=>simp [D]
 | succ i ih=>
  have key:(∃a,a<i+1∧σ a=s)↔(s∈D σ i∨s=σ i):=by
   rw [ih];constructor
   ·rintro ⟨a,c,b⟩
    by_cases h:a=i
    ·subst h; exact .inr b.symm
    ·exact .inl ⟨a,by omega,b⟩
   ·rintro (⟨a,c,b⟩|h)
    ·exact ⟨a,by omega,b⟩
    ·exact ⟨i,by omega,h.symm⟩
  rw [key,D];cases hc:(D σ i).contains (σ i)
  ·simp
  ·simp only [cond_true];have:σ i∈D σ i:=by simpa using hc
   constructor
   ·exact .inl
   ·rintro (h|rfl)
    ·exact h
    ·exact this
theorem Aj {σ:Nat→List Bool} {i j:Nat} (h:i≤j):∃r,D σ j=D σ i++r:=by
 obtain ⟨k,rfl⟩:=Nat.le.dest h;clear h;induction k with
 | zero=>exact ⟨[],by simp⟩
 | succ k ih=>
  obtain ⟨r,hr⟩:=ih;rw [←Nat.add_assoc,D];cases (D σ (i+k)).contains (σ (i+k))
  ·exact ⟨r++[σ (i+k)],by simp [hr]⟩
  ·exact ⟨r,by simpa using hr⟩
theorem Ak {σ:Nat→List Bool} (i:Nat):(D σ i).length≤i:=by
 induction i with
 | zero=>simp [D]
 | succ i ih=>
  rw [D];cases (D σ i).contains (σ i)
  ·simp; omega
  ·simp only [cond_true]; omega
def cls (σ:Nat→List Bool) (i:Nat):Nat:=(D σ 256).idxOf (σ i)
theorem zE {σ:Nat→List Bool} {i j:Nat} (hj:j≤256) (hi:i<j):cls σ i=(D σ j).idxOf (σ i):=by
 obtain ⟨r,hr⟩:=Aj (σ:=σ) hj;unfold cls;rw [hr,List.idxOf_append,if_pos (ze.2 ⟨i,hi,rfl⟩)]
theorem tq {σ:Nat→List Bool} {i:Nat} (hi:i<256) (h:σ i∈D σ i):cls σ i=(D σ i).idxOf (σ i)∧cls σ i<(D σ i).length:=by
 have e:D σ (i+1)=D σ i:=by rw [D]; simp [h]
 have:=zE (σ:=σ) (i:=i) (j:=i+1) (by omega) (by omega);rw [e] at this;rw [this];exact ⟨rfl,List.idxOf_lt_length_of_mem h⟩
theorem pC {σ:Nat→List Bool} {i:Nat} (hi:i<256) (h:σ i∉D σ i):cls σ i=(D σ i).length∧D σ (i+1)=D σ i++[σ i]:=by
 have e:D σ (i+1)=D σ i++[σ i]:=by rw [D]; simp [h]
 have:=zE (σ:=σ) (i:=i) (j:=i+1) (by omega) (by omega);rw [e,List.idxOf_append,if_neg h] at this;rw [this];refine ⟨by simp,e⟩
theorem xq {σ:Nat→List Bool} {i:Nat} (h:σ i∈D σ i):D σ (i+1)=D σ i:=by rw [D]; simp [h]
def gU (f:Nat→Int) (n i:Nat):List Int:=(List.range i).map f++List.replicate (n - i) 0
theorem pm {f:Nat→Int} {n i:Nat} (h:i≤n):(gU f n i).length=n:=by simp [gU]; omega
theorem wF {f:Nat→Int} {n i k:Nat} (hk:k<i) (h:k<(gU f n i).length):(gU f n i)[k]=f k:=by
 simp [gU,hk]
theorem ln {f:Nat→Int} {n i:Nat} (hi:i<n) (x:Int) (hx:f i=x):(gU f n i).set i x=gU f n (i+1):=by
 unfold gU;rw [List.set_append,if_neg (by simp),IZ,ID,Iw];congr 1;simp only [IC,IS,Nat.sub_self];obtain ⟨k,hk⟩:∃k,n - i=k+1:=⟨n - i - 1,by omega⟩;rw [hk,List.replicate_succ,List.set_cons_zero,show n - (i+1)=k by omega,←hx];rfl
theorem yz {f:Nat→Int} {n:Nat}:gU f n 0=List.replicate n 0:=by simp [gU]
theorem sK {f:Nat→Int} {n:Nat}:gU f n n=(List.range n).map f:=by simp [gU]
def Dp (b:Bool):Int:=bif b then 1 else 0
def key (s:List Bool):Str:=cX (s.map Dp)
theorem wV:∀ {s t:List Bool},key s=key t→s=t
 | [],[],_=>rfl
 | [],_::_,h=>by simp [key,cX] at h
 | _::_,[],h=>by simp [key,cX] at h
 | a::s,b::t,h=>by
  simp only [key,cX,List.map_cons,List.cons.injEq] at h;have h2:s=t:=wV h.2;have h1:a=b:=by
   have:=h.1
   revert this
   cases a <;> cases b <;> decide
  rw [h1,h2]
theorem wW (s t:List Bool):(key s == key t)=(s == t):=by
 rw [Bool.eq_iff_iff,beq_iff_eq,beq_iff_eq];exact ⟨wV,fun h=>by rw [h]⟩
def enc:List (List Bool)→Nat→List (Str×Int)|[],_=>[]|s::L,k=>(key s,(k:Int))::enc L (k+1)
theorem Bu (L:List (List Bool)):∀k,(enc L k).length=L.length:=by
 induction L with
 | nil=>exact fun _=>rfl
 | cons s L ih=>intro k; simp [enc,ih]
theorem Bv (s:List Bool) (L:List (List Bool)):∀k,bY (enc L k) (key s)=bif L.contains s then some ((k+L.idxOf s:Nat):Int) else none:=by
 induction L with
 | nil=>intro k; rfl
 | cons t L ih=>
  intro k;unfold enc bY;rw [List.find?_cons];simp only [wW];cases h:t == s
  ·have a:=ih (k+1);unfold bY at a;simp only [];rw [a,List.contains_cons,show (s == t)=false by rw [Bool.beq_comm]; exact h,Bool.false_or,List.idxOf_cons,h];cases L.contains s <;> simp <;> omega
  ·have:t=s:=by simpa using h
   subst this;simp
theorem Bt (s:List Bool) (L:List (List Bool)):∀k,s∉L→dM (enc L k) (key s) ((k+L.length:Nat):Int)=enc (L++[s]) k:=by
 induction L with
 | nil=>intro k _; simp [enc,dM]
 | cons t L ih=>
  intro k h;have a:(t == s)=false:=by rw [beq_eq_false_iff_ne]; rintro rfl; simp at h
  simp only [enc,dM,wW,a,cond_false,IA,IK];congr 1;have:=ih (k+1) (by simp at h; exact h.2);rw [←this]; congr 2; omega
def dA (l:List (aT 4)) (i:Nat):List Bool:=l.map (fun v=>mem v i)
def lR (l:List (aT 4)):List Int:=(List.range 256).map fun i=>(cls (dA l) i:Int)
theorem fU {i:Nat} (h:i<9223372036854775807):cd .i64 ((i:Int)+1)=some ((i+1:Nat):Int):=by rw [dO (by omega) (by omega)]; rfl
theorem wv {l:List (aT 4)} (hl:∀v∈l,W4 v) (hn:l.length≤1000000):M.g4 l=some (lR l):=by
  unfold M.g4;refine aN (eI (n:=256) (by omega)) ?_;simp only [IL]
  let f:Nat→Int:=fun i=>(cls (dA l) i:Int)
  refine aN (fw (fun i=>(gU f 256 i,enc (D (dA l) i) 0,(i:Int))) 256 (r:=lR l) (fun i e=>?_) ?_ ba (gY (by omega))) rfl
  · have hlen:(gU f 256 i).length=256:=pm (by omega)
    let a:Nat→Int:=fun j=>Dp ((dA l i).getD j false)
    have F:be (fun (w:(List Int)×Int)=>match w with
      | (p,m)=>
       bif (decide (m<(l.length:Int))) then
        (
         (bD l m).bind fun J=>
         (M.g0 J (IntKind.u8.wrap (i:Int))).bind fun y=>
         bif y then
          (dE p m 1).bind fun z=>
          some z
         else
          some p).bind fun (A:(List Int))=>
        (cd .i64 (m+1)).bind fun u=>
        some (.next (A,u))
       else
        some (.stop p)) ba (List.replicate l.length (0:Int),(0:Int))=some ((dA l i).map Dp):=by
      have H:gU a l.length l.length=(dA l i).map Dp:=by
        rw [sK];apply List.ext_getElem
        · simp [dA]
        · intro k s I
          have:k<l.length:=by simpa using s
          simp [a,dA,this,Ih]
      rw [←yz (f:=a)];refine fw (fun j=>(gU a l.length j,(j:Int))) l.length (fun j d=>?_) ?_ ba (gY (by omega))
      · have o:a j=Dp (mem l[j] i):=by simp [a,dA,d,Ih]
        have K:=vT (hl l[j] (Ip d)) (c:=i) e;have L:(gU a l.length j).length=l.length:=pm (by omega);simp only [eg (show (j:Int)<(l.length:Int) by omega),cond_true,aZ d,Ik,lj (show (0:Int)≤(i:Int) by omega) (by omega),K];cases b:mem l[j] i
        · rw [b] at o
          have:gU a l.length j=gU a l.length (j+1):=by
            rw [←ln d (a j) rfl];apply List.ext_getElem (by simp);intro k s I;rw [List.getElem_set];split
            · rename_i h; subst h
              rw [o];simp [gU,Dp]
            · rfl
          simp only [cond_false,Ik,fU (show j<_ by omega),←this]
        · rw [b] at o
          have t:dE (gU a l.length j) (j:Int) 1=some ((gU a l.length j).set j 1):=dk (by omega);rw [ln d 1 o] at t;simp only [cond_true,t,Ik,fU (show j<_ by omega)]
      · simp only [eQ (show ¬ (l.length:Int)<(l.length:Int) by omega),cond_false,H]
    have B:pA 1 (l.length:Int) (0:Int)=some (List.replicate l.length 0):=eI (by omega);have G:=Bv (dA l i) (D (dA l) i) 0;simp only [eg (show (i:Int)<((256:Nat):Int) by omega),cond_true,B,Ik];refine aN (x:=(gU f 256 (i+1),enc (D (dA l) (i+1)) 0)) (aN F ?_) ?_
    · simp only [show cX ((dA l i).map Dp)=key (dA l i) from rfl,G,Nat.zero_add,Bu]
      cases hc:(D (dA l) i).contains (dA l i)
      · have q:dA l i∉D (dA l) i:=by intro h; rw [List.contains_iff_mem.2 h] at hc; cases hc
        obtain ⟨c1,c2⟩:=pC e q;have hs:=Bt (dA l i) (D (dA l) i) 0 q;rw [Nat.zero_add] at hs;have g:dE (gU f 256 i) (i:Int) ((D (dA l) i).length:Int)=some ((gU f 256 i).set i ((D (dA l) i).length:Int)):=dk (by omega);rw [ln e _ (by simp only [f,c1])] at g;simp only [cond_false,Option.isSome_none,Bool.not_false,cond_true,Ik,hs,g,c2]
      · have b:dA l i∈D (dA l) i:=List.contains_iff_mem.1 hc
        obtain ⟨c1,c2⟩:=tq e b;have g:dE (gU f 256 i) (i:Int) ((D (dA l) i).idxOf (dA l i):Int)=some ((gU f 256 i).set i ((D (dA l) i).idxOf (dA l i):Int)):=dk (by omega);rw [ln e _ (by simp only [f,c1])] at g;simp only [cond_true,Option.isSome_some,Bool.not_true,cond_false,Option.getD_some,Ik,g,xq b]
    · simp only [fU (show i<_ by omega),Ik]
  · simp only [eQ (show ¬ ((256:Nat):Int)<((256:Nat):Int) by omega),cond_false]
    rw [sK]; rfl
theorem rO {l:List (aT 4)} (hl:∀v∈l,W4 v) (hn:l.length≤1000000) {a b:Nat} (ha:a<256) (hb:b<256):M.e7 l (a:Int) (b:Int)=some (dA l a == dA l b):=by
 unfold M.e7;have key:=oo (body:=(fun (c:Int)=>
  bif (decide (c<(l.length:Int))) then
   (bD l c).bind fun f=>
   (M.h4 f (a:Int)).bind fun m=>
   (M.h4 f (b:Int)).bind fun j=>
   bif (!(m == j)) then
    some (.stop (.stop false))
   else
    (cd .i64 (c+1)).bind fun g=>
    some (.next g)
  else
   some (.stop (.next ())):Int→Option (cO Int (cO Unit Bool))))
   (fun s=>∃i:Nat,s=(i:Int)∧i≤l.length∧∀(k:Nat) (h:k<l.length),k<i→mem l[k] a=mem l[k] b) (fun s=>l.length - s.toNat)
   (fun r=>(r=.next ()∧dA l a=dA l b)∨(r=.stop false∧dA l a≠dA l b)) ?_ ba 0 ⟨0,rfl,by omega,fun k _ h=>by omega⟩ (gY (by omega))
 ·obtain ⟨r,e,h|h⟩:=key
  ·rw [e,h.1,h.2]; simp [bo]
  ·rw [e,h.1];have:(dA l a == dA l b)=false:=by rw [beq_eq_false_iff_ne]; exact h.2
   rw [this]; rfl
 ·rintro s ⟨i,rfl,q,hP⟩
  by_cases hlt:i<l.length
  ·have p:=tk (hl l[i] (Ip hlt)) ha;have o:=tk (hl l[i] (Ip hlt)) hb;simp only [eg (show (i:Int)<(l.length:Int) by omega),cond_true,aZ hlt,Ik,p,o]
   by_cases hm:mem l[i] a=mem l[i] b
   ·refine .inl ⟨((i+1:Nat):Int),?_,⟨i+1,rfl,by omega,fun k d n=>?_⟩,by omega⟩
    ·rw [hm]; simp only [beq_self_eq_true,Bool.not_true,cond_false,fU (show i<_ by omega),Ik]
    ·by_cases hk:k=i
     ·subst hk; exact hm
     ·exact hP k d (by omega)
   ·refine .inr ⟨_,?_,.inr ⟨rfl,fun h=>hm ?_⟩⟩
    ·rw [show (mem l[i] a == mem l[i] b)=false by rw [beq_eq_false_iff_ne]; exact hm]; rfl
    ·have:=congrArg (fun z=>z[i]?) h;simpa [dA,hlt] using this
  ·refine .inr ⟨_,by simp only [eQ (show ¬ (i:Int)<(l.length:Int) by omega),cond_false],.inl ⟨rfl,?_⟩⟩;unfold dA;apply List.ext_getElem (by simp);intro k d n;have:k<l.length:=by simpa using d
   simpa using hP k this (by omega)
theorem rz {l:List (aT 4)} (hl:∀v∈l,W4 v) (hn:l.length≤1000000):M.h7 l=some (lR l):=by
 unfold M.h7;refine aN (eI (n:=256) (by omega)) ?_
 let f:Nat→Int:=fun i=>(cls (dA l) i:Int)
 refine aN (fw (fun i=>(gU f 256 i,((D (dA l) i).length:Int),(i:Int))) 256 (r:=lR l) (fun b hb=>?_) ?_ ba (gY (by omega))) rfl
 ·have hlen:(gU f 256 b).length=256:=pm (by omega);have y:dE (gU f 256 b) (b:Int) ((D (dA l) b).length:Int)=some ((gU f 256 b).set b ((D (dA l) b).length:Int)):=dk (by omega);have B:=Ak (σ:=dA l) b;have A:((gU f 256 b).set b ((D (dA l) b).length:Int)).length=256:=by rw [IV,hlen]
  have q:=oo (body:=(fun (d:Int)=>
   bif (decide (d<(b:Int))) then
    (M.e7 l (IntKind.u8.wrap d) (IntKind.u8.wrap (b:Int))).bind fun m=>
    bif m then
     (bD ((gU f 256 b).set b ((D (dA l) b).length:Int)) d).bind fun u=>
     (dE ((gU f 256 b).set b ((D (dA l) b).length:Int)) (b:Int) u).bind fun o=>
     some (.stop o)
    else
     (cd .i64 (d+1)).bind fun j=>
     some (.next j)
   else
    some (.stop ((gU f 256 b).set b ((D (dA l) b).length:Int))):Int→Option (cO Int (List Int))))
   (fun s=>∃a:Nat,s=(a:Int)∧a≤b∧∀k,k<a→dA l k≠dA l b) (fun s=>b - s.toNat) (fun r=>r=gU f 256 (b+1)) ?_ ba 0 ⟨0,rfl,by omega,fun k h=>by omega⟩ (gY (by omega))
  ·obtain ⟨r,p,rfl⟩:=q;have z:(gU f 256 (b+1)).length=256:=pm (by omega);have e:bD (gU f 256 (b+1)) (b:Int)=some (f b):=by rw [aZ (by omega),wF (by omega)]
   simp only [eg (show (b:Int)<256 by omega),cond_true,y,Ik];refine aN (x:=(gU f 256 (b+1),((D (dA l) (b+1)).length:Int))) (aN p ?_) ?_
   ·simp only [e,Ik]
    by_cases c:dA l b∈D (dA l) b
    ·obtain ⟨c1,c2⟩:=tq hb c;rw [show (f b == ((D (dA l) b).length:Int))=false by rw [beq_eq_false_iff_ne]; simp only [f]; omega,xq c];rfl
    ·obtain ⟨c1,c2⟩:=pC hb c;rw [show (f b == ((D (dA l) b).length:Int))=true by rw [beq_iff_eq]; simp only [f]; omega,c2];simp only [cond_true,fU (show (D (dA l) b).length<_ by omega),Ik,Ir,Il]
   ·simp only [fU (show b<_ by omega),Ik]
  ·rintro s ⟨a,rfl,ha,hP⟩
   by_cases hlt:a<b
   ·have e:=rO hl hn (a:=a) (b:=b) (by omega) hb;simp only [eg (show (a:Int)<(b:Int) by omega),cond_true,lj (show (0:Int)≤(a:Int) by omega) (by omega),lj (show (0:Int)≤(b:Int) by omega) (by omega),e,Ik]
    by_cases he:dA l a=dA l b
    ·refine .inr ⟨gU f 256 (b+1),?_,rfl⟩;have w:bD ((gU f 256 b).set b ((D (dA l) b).length:Int)) (a:Int)=some (f a):=by
      rw [aZ (by omega),List.getElem_set,if_neg (by omega),wF hlt]
     have g:dE ((gU f 256 b).set b ((D (dA l) b).length:Int)) (b:Int) (f a)=some (((gU f 256 b).set b ((D (dA l) b).length:Int)).set b (f a)):=dk (by omega);rw [List.set_set,ln (f:=f) hb (f a) (by simp only [f,cls,he])] at g;rw [he];simp only [beq_self_eq_true,cond_true,w,g,Ik]
    ·refine .inl ⟨((a+1:Nat):Int),?_,⟨a+1,rfl,by omega,fun k hk=>?_⟩,by omega⟩
     ·rw [show (dA l a == dA l b)=false by rw [beq_eq_false_iff_ne]; exact he];simp only [cond_false,fU (show a<_ by omega),Ik]
     ·by_cases h:k=a
      ·subst h; exact he
      ·exact hP k (by omega)
   ·refine .inr ⟨(gU f 256 b).set b ((D (dA l) b).length:Int),by simp only [eQ (show ¬ (a:Int)<(b:Int) by omega),cond_false],?_⟩;refine ln hb _ ?_;have c:dA l b∉D (dA l) b:=by
     intro h;obtain ⟨k,F,t⟩:=ze.1 h;exact hP k (by omega) t
    simp only [f,(pC hb c).1]
 ·simp only [eQ (show ¬ ((256:Nat):Int)<256 by omega),cond_false];rw [sK]; rfl
def Mk (m:List Bool) (i:Int):Prop:=0≤i∧m[i.toNat]?=some true
theorem vE {m:List Bool} {i:Nat}:Mk m (i:Int)↔m[i]?=some true:=by
 unfold Mk;rw [IH];exact ⟨fun h=>h.2,fun h=>⟨by omega,h⟩⟩
theorem tj {m:List Bool} {i:Int} (h0:0≤i) (h1:i<m.length):∃b,bD m i=some b∧(b=true↔Mk m i):=by
 obtain ⟨k,rfl⟩:=II h0;have hk:k<m.length:=by omega
 refine ⟨m[k],aZ hk,?_⟩;rw [vE,Ii hk];simp
def pd (m:List Bool) (i:Int):List Bool:=m.set i.toNat true
theorem zg {m:List Bool} {i:Int}:(pd m i).length=m.length:=by simp [pd]
theorem pz {m:List Bool} {i j:Int} (h0:0≤i) (h1:i<m.length):Mk (pd m i) j↔j=i∨Mk m j:=by
 unfold Mk pd;rw [IU];constructor
 ·rintro ⟨h2,h3⟩
  by_cases e:j=i
  ·exact .inl e
  ·rw [if_neg (by omega)] at h3;exact .inr ⟨h2,h3⟩
 ·rintro (rfl|⟨h2,h3⟩)
  ·exact ⟨h0,by rw [if_pos rfl,if_pos (by omega)]⟩
  ·refine ⟨h2,?_⟩;split
   ·rw [if_pos (by omega)]
   ·exact h3
def cf (m:List Bool):Nat:=m.count false
theorem Ci (m:List Bool):cf m≤m.length:=List.count_le_length
theorem xd {m:List Bool} {i:Int} (a:0≤i) (b:i<m.length) (h:¬ Mk m i):cf (pd m i)+1=cf m:=by
 obtain ⟨k,rfl⟩:=II a;have hk:k<m.length:=by omega
 rw [vE,Ii hk] at h;have hf:m[k]=false:=by
  cases hb:m[k]
  ·rfl
  ·rw [hb] at h; exact absurd rfl h
 unfold cf pd;rw [IH,List.count_set hk,hf];have:0<m.count false:=by
  rw [List.count_pos_iff,←hf];exact Ip hk
 simp;omega
def zo (m:List Bool):List Int:=((List.range m.length).filter fun i=>m[i]?.getD false).map fun (i:Nat)=>(i:Int)
theorem so {m:List Bool} (f:m.length≤1000000000) {ρ:Type} {X:List Int→ρ} {body:List Int×Int→Option (cO (List Int×Int) ρ)}
 (hb:∀a i,body (a,i)=bif decide (i<(m.length:Int)) then ((bD m i).bind fun e=>bif e then (cz 8 a [i]).bind fun l=>some l else some a).bind fun l=>(cd .i64 (i+1)).bind fun t=>some (.next (l,t)) else some (.stop (X a))) :
 be body ba (([]:List Int),(0:Int))=some (X (zo m)):=by
 refine Is.eq ?_;refine Is.upto (fun i (d:List Int×Int)=>d.2=(i:Int)∧d.1=((List.range i).filter fun i=>m[i]?.getD false).map fun (i:Nat)=>(i:Int)) m.length (by omega) ⟨rfl,rfl⟩ ?_ ?_
 ·rintro i ⟨a,_⟩ b ⟨rfl,c⟩;obtain rfl:a=_:=c;rw [hb];refine Is.dt (by omega) ?_;have hl:(((List.range i).filter fun i=>m[i]?.getD false).map fun (i:Nat)=>(i:Int)).length≤i:=by
   rw [IC];exact Nat.le_trans (List.length_filter_le _ _) (by simp)
  refine Is.bnd (P:=fun l=>l=((List.range (i+1)).filter fun i=>m[i]?.getD false).map fun (i:Nat)=>(i:Int)) ?_ fun l hl=>Is.bnq (aM (by omega)) (Is.next ⟨rfl,hl⟩)
  refine Is.bnq (aZ b) ?_;rw [IZ,List.filter_append,ID];refine Is.cnd (fun h=>?_) (fun h=>?_)
  ·refine Is.bnq (bN (by simp only [Il]; omega)) (Is.pure ?_);simp [b,h]
  ·refine Is.pure ?_;simp [b,h]
 ·rintro ⟨a,_⟩ ⟨rfl,c⟩;obtain rfl:a=_:=c;rw [hb];exact Is.df (by omega) (Is.stop rfl)
theorem xx {m:List Bool} (hm:m.length≤1000000000):M.l2 m=some (zo m):=by
 unfold M.l2;exact aN (so hm (X:=fun a=>a) (fun _ _=>rfl)) rfl
theorem Bd {m:List Bool} (hm:m.length≤1000000000):M.k9 m=some (zo m):=by
 unfold M.k9;exact aN (so hm (X:=fun a=>a) (fun _ _=>rfl)) rfl
structure FitN (n:T_NFA):Prop where
  pos:1≤n.States
  most:n.States≤2000
  start:0≤n.Start∧n.Start<n.States
  acc:(n.Accept.length:Int)=n.States
  low:∀x∈n.Accept,-1≤x
  arcs:∀a∈n.Arcs,(0≤a.From∧a.From<n.States)∧(0≤a.To∧a.To<n.States)∧(a.Epsilon=true→a.Set=aT.zero 4)
  len:n.Arcs.length≤1000000000
  sets:∀a∈n.Arcs,W4 a.Set
inductive nP (n:T_NFA) (S:List Int):Int→Prop where
  | base {s:Int}:s∈S→0≤s→s<n.States→nP n S s
  | arc {a:ca}:a∈n.Arcs→a.Epsilon=true→nP n S a.From→nP n S a.To
theorem nP.lt {n:T_NFA} (hn:FitN n) {S:List Int} {s:Int} (h:nP n S s):0≤s∧s<n.States:=by
 cases h with
 | base _ h0 h1=>exact ⟨h0,h1⟩
 | arc ha _ _=>exact (hn.arcs _ ha).2.1
open Classical in
noncomputable def clo (n:T_NFA) (S:List Int):List Int:=((List.range n.States.toNat).filter fun i=>decide (nP n S ((i:Nat):Int))).map fun (i:Nat)=>(i:Int)
open Classical in
theorem lz {n:T_NFA} (hn:FitN n) {S:List Int} {s:Int}:s∈clo n S↔nP n S s:=by
 unfold clo;rw [IP];constructor
 ·rintro ⟨k,hk,rfl⟩;exact of_decide_eq_true (IX.1 hk).2
 ·intro h;have:=h.lt hn;obtain ⟨k,rfl⟩:=II this.1;exact ⟨k,IX.2 ⟨IQ.2 (by omega),decide_eq_true h⟩,rfl⟩
theorem Bz (n:T_NFA) (S:List Int):(clo n S).length≤n.States.toNat:=by
 unfold clo;rw [IC];exact Nat.le_trans (List.length_filter_le _ _) (by simp)
open Classical in
theorem uv {n:T_NFA} {S:List Int} {m:List Bool} (hl:m.length=n.States.toNat) (h:∀s:Int,Mk m s↔nP n S s):zo m=clo n S:=by
 unfold zo clo;rw [hl];congr 1;refine IW fun i b=>?_
 rw [IQ] at b;have a:i<m.length:=by omega
 have:=h i;rw [vE,Ii a] at this;rw [Ii a,Option.getD_some]
 by_cases hr:nP n S i
 ·rw [decide_eq_true hr];have:=this.2 hr;simpa using this
 ·rw [decide_eq_false hr];cases hb:m[i]
  ·rfl
  ·exact absurd (this.1 (by rw [hb])) hr
theorem gx {k:Nat} {s:Int}:¬ Mk (List.replicate k false) s:=by
 rintro ⟨_,h⟩;rw [List.getElem?_replicate] at h;split at h <;> simp at h
def pj (n:T_NFA) (m:List Bool) (s:Int):Prop:=∀a∈n.Arcs,a.Epsilon=true→a.From=s→Mk m a.To
theorem tV {n:T_NFA} {S:List Int} {m:List Bool} (h1:∀s∈S,0≤s→s<n.States→Mk m s) (h2:∀s,Mk m s→pj n m s):∀s,nP n S s→Mk m s:=by
 intro s h;induction h with
 | base hs h0 h1'=>exact h1 _ hs h0 h1'
 | arc ha he _ ih=>exact h2 _ ih _ ha he rfl
structure Wk (n:T_NFA) (S:List Int) (m:List Bool) (todo:List Int):Prop where
  len:m.length=n.States.toNat
  sound:∀s,Mk m s→nP n S s
  marked:∀s∈todo,Mk m s
  room:todo.length+cf m≤n.States.toNat
section
variable {n:T_NFA} (hn:FitN n) {S:List Int}
include hn
theorem zT {m:List Bool} {a:List Int} (h:Wk n S m a) {t:Int} (j:0≤t→t<n.States→nP n S t) :
 ∃c e,M.g6 t n m a=some (c,e)∧Wk n S c e∧(∀s,Mk m s→Mk c s)∧(0≤t→t<n.States→Mk c t)∧(∀s∈a,s∈e)∧(∀s,Mk c s→Mk m s∨s∈e)∧2*cf c+e.length≤2*cf m+a.length:=by
 have hp:=hn.pos;have o:=hn.most;unfold M.g6;have hl:(m.length:Int)=n.States:=by rw [h.len]; omega
 by_cases hin:0≤t∧t<n.States
 ·obtain ⟨b,hb,i⟩:=tj (m:=m) hin.1 (by omega);cases b with
  | true=>
   refine ⟨m,a,?_,h,fun _ h=>h,fun _ _=>i.1 rfl,fun _ h=>h,fun _ h=>.inl h,Nat.le_refl _⟩;exact aN (x:=false) (by simp only [eg hin.1,eg hin.2,cond_true,hb,Ik,Bool.not_true]) rfl
  | false=>
   have k:¬ Mk m t:=fun hx=>by have:=i.2 hx; cases this
   have p:=xd hin.1 (show t<m.length by omega) k;have d:∀s,Mk (pd m t) s↔s=t∨Mk m s:=fun s=>pz hin.1 (by omega)
   have l:=h.room;refine ⟨pd m t,a++[t],?_,⟨by rw [zg]; exact h.len,fun s hs=>?_,fun s hs=>?_,?_⟩,fun s hs=>(d s).2 (.inr hs),fun _ _=>(d t).2 (.inl rfl),fun s hs=>List.mem_append_left _ hs,fun s hs=>?_,?_⟩
   ·refine aN (x:=true) (by simp only [eg hin.1,eg hin.2,cond_true,hb,Ik,Bool.not_false]) ?_;exact aN (iQ hin.1 (by omega)) (aN (bN (by simp only [Il]; omega)) rfl)
   ·rcases (d s).1 hs with rfl|hs
    ·exact j hin.1 hin.2
    ·exact h.sound s hs
   ·rcases Iv.1 hs with hs|hs
    ·exact (d s).2 (.inr (h.marked s hs))
    ·exact (d s).2 (.inl (Iu.1 hs))
   ·simp only [Ir,Il]; omega
   ·rcases (d s).1 hs with rfl|hs
    ·exact .inr (by simp)
    ·exact .inl hs
   ·simp only [Ir,Il]; omega
 ·refine ⟨m,a,?_,h,fun _ h=>h,fun f g=>absurd ⟨f,g⟩ hin,fun _ h=>h,fun _ h=>.inl h,Nat.le_refl _⟩;refine aN (x:=false) ?_ rfl
  by_cases f:0≤t
  ·simp only [eg f,eQ (show ¬ t<n.States from fun g=>hin ⟨f,g⟩),cond_true,cond_false]
  ·simp only [eQ f,cond_false]
theorem mO (hS:S.length≤1000000000):M.h2 n S=some (clo n S):=by
 have hp:=hn.pos;have hm:=hn.most;refine Is.eq ?_;unfold M.h2;have e0:pA 1 n.States false=some (List.replicate n.States.toNat false):=by
  have:=eI (B:=1) (n:=n.States.toNat) (z:=false) (by omega);rw [show ((n.States.toNat:Nat):Int)=n.States by omega] at this;exact this
 refine Is.bnq e0 ?_
 -- the states that are given
 refine Is.bnd (P:=fun r:List Bool×List Int=>Wk n S r.1 r.2∧(∀s∈S,0≤s→s<n.States→Mk r.1 s)∧(∀s,Mk r.1 s→s∈r.2)) ?_ ?_
 ·refine Is.upto (fun i (c:List Bool×List Int×Int)=>c.2.2=(i:Int)∧Wk n S c.1 c.2.1∧(∀s∈S.take i,0≤s→s<n.States→Mk c.1 s)∧(∀s,Mk c.1 s→s∈c.2.1)) S.length (by omega)
   ⟨rfl,⟨by simp,fun s hs=>absurd hs gx,by simp,by simp [cf]⟩,by simp,fun s hs=>absurd hs gx⟩ ?_ ?_
  ·rintro i ⟨m,d,_⟩ v ⟨rfl,g,p,w⟩;refine Is.dt (by omega) (Is.bnq (aZ v) ?_);obtain ⟨U,R,e,o,l,q3,q4,q5,_⟩:=zT hn g (t:=S[i]) (fun G F=>.base (Ip v) G F);refine Is.bnq e (Is.bnq (aM (by omega)) (Is.next ⟨rfl,o,fun s hs G F=>?_,fun s hs=>?_⟩))
   ·rw [List.take_add_one,Ii v,Iv] at hs;rcases hs with hs|hs
    ·exact l s (p s hs G F)
    ·obtain rfl:s=S[i]:=by simpa using hs
     exact q3 G F
   ·rcases q5 s hs with hs|hs
    ·exact q4 s (w s hs)
    ·exact hs
  ·rintro ⟨m,d,_⟩ ⟨rfl,g,p,w⟩;rw [Iq] at p;exact Is.df (by omega) (Is.stop ⟨g,p,w⟩)
 rintro ⟨W,a2⟩ ⟨w0,f,t0⟩;simp only at w0 f t0
 -- the list that is worked off
 refine Is.bnd (P:=fun m:List Bool=>m.length=n.States.toNat∧∀s,Mk m s↔nP n S s) ?_ fun m V=>Is.bnq (xx (by rw [V.1]; omega)) (Is.pure (uv V.1 V.2))
 refine Is.while (fun c:List Bool×List Int=>Wk n S c.1 c.2∧(∀s∈S,0≤s→s<n.States→Mk c.1 s)∧(∀s,Mk c.1 s→s∈c.2∨pj n c.1 s)) (fun c=>2*cf c.1+c.2.length) ⟨w0,f,fun s hs=>.inl (t0 s hs)⟩ ?_ ?_
 ·have:=w0.room;have:=Ci W;have:=w0.len;show 2*cf W+a2.length≤_;omega
 rintro ⟨m,d⟩ ⟨g,p,w⟩;simp only at g p w
 by_cases hz:d=[]
 ·subst hz;refine Is.df (by simp) (Is.stop ⟨g.len,fun s=>⟨g.sound s,tV p (fun s hs=>?_) s⟩⟩);rcases w s hs with h|h
  ·cases h
  ·exact h
 have b2:0<d.length:=List.length_pos_iff.2 hz;refine Is.dt (by omega) ?_;have et:cd .i64 ((d.length:Int) - 1)=some ((d.length - 1:Nat):Int):=by
  have:=g.room;rw [dO (by omega) (by omega)];congr 1;omega
 have a1:d.length - 1<d.length:=by omega
 have a6:oR d 0 ((d.length - 1:Nat):Int)=some (d.take (d.length - 1)):=by
  unfold oR;rw [if_pos ⟨by omega,by omega,by omega⟩];simp
 refine Is.bnq et (Is.bnq (aZ a1) (Is.bnq a6 ?_));generalize hse:d[d.length - 1]=f;have a8:Mk m f:=g.marked f (by rw [←hse]; exact Ip a1);have a7:∀s∈d,s∈d.take (d.length - 1)∨s=f:=by
  intro s hs;obtain ⟨j,hj,rfl⟩:=IE.1 hs
  by_cases e:j=d.length - 1
  ·right; subst e; exact hse
  ·left;rw [IE];exact ⟨j,by simp; omega,by simp⟩
 have Y:(d.take (d.length - 1)).length=d.length - 1:=by rw [IJ]; omega
 refine Is.mono (P:=SP (fun c:List Bool×List Int=>Wk n S c.1 c.2∧(∀s,Mk m s→Mk c.1 s)∧(∀s,Mk c.1 s→s=f∨s∈c.2∨pj n c.1 s)∧pj n c.1 f∧2*cf c.1+c.2.length≤2*cf m+(d.length - 1)) (fun _=>False)) ?_ ?_
 ·refine Is.mono (P:=fun r:cO (List Bool×List Int) (List Bool)=>SP (fun c:List Bool×List Int=>Wk n S c.1 c.2∧(∀s,Mk m s→Mk c.1 s)∧(∀s,Mk c.1 s→s=f∨s∈c.2∨pj n c.1 s)∧pj n c.1 f∧2*cf c.1+c.2.length≤2*cf m+(d.length - 1)) (fun _=>False) r) ?_ fun _ h=>h
  refine Is.upto (Q:=fun r:cO (List Bool×List Int) (List Bool)=>SP (fun c:List Bool×List Int=>Wk n S c.1 c.2∧(∀s,Mk m s→Mk c.1 s)∧(∀s,Mk c.1 s→s=f∨s∈c.2∨pj n c.1 s)∧pj n c.1 f∧2*cf c.1+c.2.length≤2*cf m+(d.length - 1)) (fun _=>False) r)
   (fun i (c:List Bool×List Int×Int)=>c.2.2=(i:Int)∧Wk n S c.1 c.2.1∧(∀s,Mk m s→Mk c.1 s)∧(∀s,Mk c.1 s→s=f∨s∈c.2.1∨pj n c.1 s)∧(∀a∈n.Arcs.take i,a.Epsilon=true→a.From=f→Mk c.1 a.To)∧2*cf c.1+c.2.1.length≤2*cf m+(d.length - 1)) n.Arcs.length (by have:=hn.len; omega) ?_ ?_ ?_
  ·refine ⟨rfl,⟨g.len,g.sound,fun s hs=>g.marked s (List.mem_of_mem_take hs),?_⟩,fun _ h=>h,fun s hs=>?_,by simp,Nat.add_le_add_left (Nat.le_of_eq Y) _⟩
   ·have:=g.room;have e:(d.take (d.length - 1)).length+cf m≤n.States.toNat:=by rw [Y]; omega
    exact e
   ·rcases w s hs with h|h
    ·rcases a7 s h with h|h
     ·exact .inr (.inl h)
     ·exact .inl h
    ·exact .inr (.inr h)
  ·rintro i ⟨A,H,_⟩ v ⟨rfl,k,u,x,q,I⟩;simp only at k u x q I;have ha:=Ip v;refine Is.dt (by omega) ?_;refine Is.bnd (P:=fun c:List Bool×List Int=>Wk n S c.1 c.2∧(∀s,Mk A s→Mk c.1 s)∧(∀s∈H,s∈c.2)∧(∀s,Mk c.1 s→Mk A s∨s∈c.2)∧(n.Arcs[i].Epsilon=true→n.Arcs[i].From=f→Mk c.1 n.Arcs[i].To)∧2*cf c.1+c.2.length≤2*cf A+H.length) ?_ ?_
   ·refine Is.bnq (aZ v) ?_;refine Is.bnd (P:=fun b:Bool=>b=true↔n.Arcs[i].Epsilon=true∧n.Arcs[i].From=f) ?_ fun b hb=>?_
    ·refine Is.cnd (fun h=>Is.pure ?_) (fun h=>Is.pure ?_)
     ·rw [beq_iff_eq,h]; exact ⟨fun h=>⟨rfl,h⟩,fun h=>h.2⟩
     ·rw [h]; simp
    ·refine Is.cnd (fun h=>?_) (fun h=>?_)
     ·obtain ⟨o,l⟩:=hb.1 h;obtain ⟨U,R,e,N,y,L,K,J,T⟩:=zT hn k (t:=n.Arcs[i].To) (fun _ _=>.arc ha o (by rw [l]; exact k.sound _ (u _ a8)));have X:=(hn.arcs _ ha).2.1;exact Is.bnq e (Is.pure ⟨N,y,K,J,fun _ _=>L X.1 X.2,T⟩)
     ·exact Is.pure ⟨k,fun _ h=>h,fun _ h=>h,fun _ h=>.inl h,fun o l=>(by have:=hb.2 ⟨o,l⟩; rw [h] at this; cases this),Nat.le_refl _⟩
   ·rintro ⟨U,R⟩ ⟨N,y,L,K,J,T⟩;simp only at N y L K J T;refine Is.bnq (aM (by have:=hn.len; omega)) (Is.next ⟨rfl,N,fun s hs=>y s (u s hs),fun s hs=>?_,fun a D o l=>?_,by show 2*cf U+R.length≤_; omega⟩)
    ·rcases K s hs with h|h
     ·rcases x s h with h|h|h
      ·exact .inl h
      ·exact .inr (.inl (L s h))
      ·exact .inr (.inr fun a ha he hf=>y _ (h a ha he hf))
     ·exact .inr (.inl h)
    ·rw [List.take_add_one,Ii v,Iv] at D;rcases D with D|D
     ·exact y _ (q a D o l)
     ·obtain rfl:a=n.Arcs[i]:=by simpa using D
      exact J o l
  ·rintro ⟨A,H,_⟩ ⟨rfl,k,u,x,q,I⟩;rw [Iq] at q;exact Is.df (by omega) (Is.stop ⟨k,u,x,q,I⟩)
 ·rintro (⟨A,H⟩|r) hr
  ·obtain ⟨k,u,x,q,I⟩:=hr;simp only at k u x q I;refine ⟨⟨k,fun s hs G F=>u _ (p s hs G F),fun s hs=>?_⟩,by show 2*cf A+H.length<2*cf m+d.length; omega⟩;rcases x s hs with rfl|h|h
   ·exact .inr q
   ·exact .inl h
   ·exact .inr h
  ·exact hr.elim
end
section
variable {n:T_NFA} (hn:FitN n) {S:List Int}
include hn
theorem mC:pA 1 n.States false=some (List.replicate n.States.toNat false):=by
 have hp:=hn.pos;have hm:=hn.most;have:=eI (B:=1) (n:=n.States.toNat) (z:=false) (by omega);rw [show ((n.States.toNat:Nat):Int)=n.States by omega] at this;exact this
theorem ga (hS:S.length≤1000000000):M.e5 n S=some (clo n S):=by
 have hp:=hn.pos;have hm:=hn.most;have b5:=hn.len;refine Is.eq ?_;unfold M.e5;refine Is.bnq (mC hn) ?_;refine Is.bnd (P:=fun m:List Bool=>m.length=n.States.toNat∧(∀s∈S,0≤s→s<n.States→Mk m s)∧(∀s,Mk m s→nP n S s)) ?_ ?_
 ·refine Is.upto (fun i (c:List Bool×Int)=>c.2=(i:Int)∧c.1.length=n.States.toNat∧(∀s∈S.take i,0≤s→s<n.States→Mk c.1 s)∧(∀s,Mk c.1 s→nP n S s)) S.length (by omega)
   ⟨rfl,by simp,by simp,fun s hs=>absurd hs gx⟩ ?_ ?_
  ·rintro i ⟨m,_⟩ t ⟨rfl,o,d,l⟩;simp only at o d l;refine Is.dt (by omega) ?_;refine Is.bnd (P:=fun v:List Bool=>v.length=n.States.toNat∧(∀s,Mk m s→Mk v s)∧(0≤S[i]→S[i]<n.States→Mk v S[i])∧(∀s,Mk v s→nP n S s)) ?_ fun v h=>Is.bnq (aM (by omega)) (Is.next ⟨rfl,h.1,fun s hs D B=>?_,h.2.2.2⟩)
   ·refine Is.bnd (P:=fun b:Bool=>b=true↔0≤S[i]∧S[i]<n.States) ?_ fun b hb=>?_
    ·refine Is.bnq (aZ t) (Is.dcd (fun h=>Is.pure ?_) (fun h=>Is.pure ?_))
     ·rw [decide_eq_true_eq]; exact ⟨fun d=>⟨h,d⟩,fun d=>d.2⟩
     ·exact ⟨fun d=>(by cases d),fun d=>absurd d.1 h⟩
    ·refine Is.cnd (fun h=>?_) (fun h=>?_)
     ·obtain ⟨f,j⟩:=hb.1 h;have w:∀s,Mk (pd m S[i]) s↔s=S[i]∨Mk m s:=fun s=>pz f (by omega)
      refine Is.bnq (aZ t) (Is.bnq (iQ f (by omega)) (Is.pure ⟨by rw [IV]; exact o,fun s hs=>(w s).2 (.inr hs),fun _ _=>(w _).2 (.inl rfl),fun s hs=>?_⟩));rcases (w s).1 hs with rfl|hs
      ·exact .base (Ip t) f j
      ·exact l s hs
     ·exact Is.pure ⟨o,fun _ h=>h,fun f j=>(by have:=hb.2 ⟨f,j⟩; rw [h] at this; cases this),l⟩
   ·rw [List.take_add_one,Ii t,Iv] at hs;rcases hs with hs|hs
    ·exact h.2.1 s (d s hs D B)
    ·obtain rfl:s=S[i]:=by simpa using hs
     exact h.2.2.1 D B
  ·rintro ⟨m,_⟩ ⟨rfl,o,d,l⟩;rw [Iq] at d;exact Is.df (by omega) (Is.stop ⟨o,d,l⟩)
 rintro R ⟨l0,Y,r0⟩;refine Is.bnd (P:=fun m:List Bool=>m.length=n.States.toNat∧∀s,Mk m s↔nP n S s) ?_ fun m H=>Is.bnq (Bd (by rw [H.1]; omega)) (Is.pure (uv H.1 H.2))
 refine Is.while (fun c:List Bool×Bool=>c.1.length=n.States.toNat∧(∀s∈S,0≤s→s<n.States→Mk c.1 s)∧(∀s,Mk c.1 s→nP n S s)∧(c.2=false→∀s,Mk c.1 s→pj n c.1 s)) (fun c=>2*cf c.1+(bif c.2 then 1 else 0)) ⟨l0,Y,r0,fun h=>(by cases h)⟩ ?_ ?_
 ·have:=Ci R;show 2*cf R+1≤_;omega
 rintro ⟨m,b⟩ ⟨o,d,l,X⟩;simp only at o d l X;cases b with
 | false=>exact Is.cf rfl (Is.stop ⟨o,fun s=>⟨l s,tV d (X rfl) s⟩⟩)
 | true=>
  refine Is.ct rfl ?_;refine Is.mono (P:=SP (fun c:List Bool×Bool=>c.1.length=n.States.toNat∧(∀s,Mk m s→Mk c.1 s)∧(∀s,Mk c.1 s→nP n S s)∧(c.2=true→cf c.1<cf m)∧(c.2=false→c.1=m∧∀s,Mk c.1 s→pj n c.1 s)) (fun _=>False)) ?_ ?_
  ·refine Is.upto (Q:=fun r:cO (List Bool×Bool) (List Bool)=>SP (fun c:List Bool×Bool=>c.1.length=n.States.toNat∧(∀s,Mk m s→Mk c.1 s)∧(∀s,Mk c.1 s→nP n S s)∧(c.2=true→cf c.1<cf m)∧(c.2=false→c.1=m∧∀s,Mk c.1 s→pj n c.1 s)) (fun _=>False) r)
    (fun i (c:List Bool×Bool×Int)=>c.2.2=(i:Int)∧c.1.length=n.States.toNat∧(∀s,Mk m s→Mk c.1 s)∧(∀s,Mk c.1 s→nP n S s)∧(c.2.1=true→cf c.1<cf m)∧(c.2.1=false→c.1=m∧∀a∈n.Arcs.take i,a.Epsilon=true→Mk m a.From→Mk m a.To)) n.Arcs.length (by omega)
    ⟨rfl,o,fun _ h=>h,l,fun h=>(by cases h),fun _=>⟨rfl,by simp⟩⟩ ?_ ?_
   ·rintro i ⟨e,z,_⟩ t ⟨rfl,q,u,k,p,g⟩;simp only at q u k p g;have W:=Ip t;have y:=hn.arcs _ W;have b0:cf e≤cf m:=by
     cases z with
     | true=>exact Nat.le_of_lt (p rfl)
     | false=>rw [(g rfl).1]; exact Nat.le_refl _
    refine Is.dt (by omega) ?_;refine Is.bnd (P:=fun c:List Bool×Bool=>c.1.length=n.States.toNat∧(∀s,Mk e s→Mk c.1 s)∧(∀s,Mk c.1 s→nP n S s)∧(c.2=true→cf c.1<cf m)∧(c.2=false→z=false∧c.1=e∧(n.Arcs[i].Epsilon=true→Mk e n.Arcs[i].From→Mk e n.Arcs[i].To))) ?_ ?_
    ·refine Is.bnq (aZ t) ?_;obtain ⟨bf,ef,hf⟩:=tj (m:=e) y.1.1 (by omega);obtain ⟨bt,et,ht⟩:=tj (m:=e) y.2.1.1 (by omega);refine Is.bnd (P:=fun b:Bool=>b=true↔n.Arcs[i].Epsilon=true∧Mk e n.Arcs[i].From∧¬ Mk e n.Arcs[i].To) ?_ fun b hb=>?_
     ·refine Is.cnd (fun h=>Is.bnq ef (Is.cnd (fun d=>Is.bnq et (Is.pure ?_)) (fun d=>Is.pure ?_))) (fun h=>Is.pure ?_)
      ·rw [←ht,←hf,d];cases bt <;> simp [h]
      ·rw [←hf,d]; simp
      ·rw [h]; simp
     ·refine Is.cnd (fun h=>?_) (fun h=>?_)
      ·obtain ⟨f,j,F⟩:=hb.1 h;have w:∀s,Mk (pd e n.Arcs[i].To) s↔s=n.Arcs[i].To∨Mk e s:=fun s=>pz y.2.1.1 (by omega)
       have hc:=xd y.2.1.1 (show n.Arcs[i].To<e.length by omega) F;refine Is.bnq (iQ y.2.1.1 (by omega)) (Is.pure ⟨by rw [IV]; exact q,fun s hs=>(w s).2 (.inr hs),fun s hs=>?_,fun _=>?_,fun h=>(by cases h)⟩)
       ·rcases (w s).1 hs with rfl|hs
        ·exact .arc W f (k _ j)
        ·exact k s hs
       ·show cf (pd e n.Arcs[i].To)<cf m;omega
      ·refine Is.pure ⟨q,fun _ h=>h,k,p,fun a6=>⟨a6,rfl,fun f j=>Classical.byContradiction fun F=>?_⟩⟩;have:=hb.2 ⟨f,j,F⟩;rw [h] at this; cases this
    ·rintro ⟨v,b2⟩ ⟨N,L,K,J,I⟩;simp only at N L K J I;refine Is.bnq (aM (by omega)) (Is.next ⟨rfl,N,fun s hs=>L s (u s hs),K,J,fun a5=>?_⟩);obtain ⟨A,G,U⟩:=I a5;obtain ⟨T,k5⟩:=g A;subst G;refine ⟨T,fun a x f j=>?_⟩;rw [List.take_add_one,Ii t,Iv] at x;rcases x with x|x
     ·exact k5 a x f j
     ·obtain rfl:a=n.Arcs[i]:=by simpa using x
      rw [T] at U;exact U f j
   ·rintro ⟨e,z,_⟩ ⟨rfl,q,u,k,p,g⟩;simp only at q u k p g;rw [Iq] at g;refine Is.df (by omega) (Is.stop ⟨q,u,k,p,fun hb=>?_⟩);obtain ⟨A,G⟩:=g hb;exact ⟨A,fun s hs a ha he hf=>by rw [A] at hs ⊢; exact G a ha he (by rw [hf]; exact hs)⟩
  ·rintro (⟨e,z⟩|r) V
   ·obtain ⟨q,u,k,p,g⟩:=V;simp only at q u k p g;refine ⟨⟨q,fun s hs D B=>u _ (d s hs D B),k,fun hb=>(g hb).2⟩,?_⟩;cases z with
    | true=>have:=p rfl; show 2*cf e+1<2*cf m+1; omega
    | false=>rw [(g rfl).1]; show 2*cf m+0<2*cf m+1; omega
   ·exact V.elim
omit hn in
theorem qA {N:Nat} {l:List Int} (hl:∀s∈l,0≤s∧s<N) (hlen:l.length≤1000000000) {body:List Bool×Int→Option (cO (List Bool×Int) (List Bool))}
 (hb:∀m i,body (m,i)=bif decide (i<(l.length:Int)) then (bD l i).bind fun e=>(dE m e true).bind fun g=>(cd .i64 (i+1)).bind fun t=>some (.next (g,t)) else some (.stop m)) :
 Is (be body ba (List.replicate N false,(0:Int))) fun m=>m.length=N∧∀s,Mk m s↔s∈l:=by
 refine Is.upto (fun i (c:List Bool×Int)=>c.2=(i:Int)∧c.1.length=N∧∀s,Mk c.1 s↔s∈l.take i) l.length (by omega) ⟨rfl,by simp,fun s=>⟨fun h=>absurd h gx,fun h=>by simp at h⟩⟩ ?_ ?_
 ·rintro i ⟨m,_⟩ d ⟨rfl,b,a⟩;simp only at b a;have f:=hl l[i] (Ip d);rw [hb];refine Is.dt (by omega) (Is.bnq (aZ d) (Is.bnq (iQ f.1 (by omega)) (Is.bnq (aM (by omega)) (Is.next ⟨rfl,by rw [IV]; exact b,fun s=>?_⟩))));rw [show (m.set l[i].toNat true)=pd m l[i] from rfl,pz f.1 (by omega),a,List.take_add_one,Ii d,Iv];simp only [Option.toList_some,Iu];exact Or.comm
 ·rintro ⟨m,_⟩ ⟨rfl,b,a⟩;rw [hb];rw [Iq] at a;exact Is.df (by omega) (Is.stop ⟨b,a⟩)
open Classical in
noncomputable def An (n:T_NFA) (L:List Int) (b:Nat):List Int:=(n.Arcs.filter fun a=>!a.Epsilon && (decide (a.From∈L) && mem a.Set b)).map (·.To)
noncomputable def fp (n:T_NFA) (S:List Int) (b:Nat):List Int:=clo n (An n (clo n S) b)
omit hn in
theorem wE (n:T_NFA) (L:List Int) (b:Nat):(An n L b).length≤n.Arcs.length:=by
 unfold An;rw [IC];exact List.length_filter_le _ _
open Classical in
theorem tT {L:List Int} {b:Nat} {m:List Bool} (k:∀s,Mk m s↔s∈L) (p:m.length=n.States.toNat) {H:aT 4→Option Bool} (hH:∀v,W4 v→H v=some (mem v b)) {body:List Int×Int→Option (cO (List Int×Int) (List Int))}
 (hb:∀a i,body (a,i)=bif decide (i<(n.Arcs.length:Int)) then ((bD n.Arcs i).bind fun e=>(bif (!e.Epsilon) then (bD m e.From).bind fun q=>bif q then (H e.Set).bind fun r=>some r else some false else some false).bind fun r=>bif r then (cz 8 a [e.To]).bind fun l=>some l else some a).bind fun l=>(cd .i64 (i+1)).bind fun t=>some (.next (l,t)) else some (.stop a)) :
 be body ba (([]:List Int),(0:Int))=some (An n L b):=by
 have hp:=hn.pos;have hlen:=hn.len;refine Is.eq ?_;refine Is.upto (fun i (f:List Int×Int)=>f.2=(i:Int)∧f.1=((n.Arcs.take i).filter fun a=>!a.Epsilon && (decide (a.From∈L) && mem a.Set b)).map (·.To)) n.Arcs.length (by omega) ⟨rfl,rfl⟩ ?_ ?_
 ·rintro i ⟨a,_⟩ c ⟨rfl,d⟩;obtain rfl:a=_:=d;have g:=Ip c;have o:=hn.arcs _ g;rw [hb];refine Is.dt (by omega) ?_;have hl:(((n.Arcs.take i).filter fun a=>!a.Epsilon && (decide (a.From∈L) && mem a.Set b)).map (·.To)).length≤i:=by
   rw [IC];refine Nat.le_trans (List.length_filter_le _ _) ?_;rw [IJ]; omega
  refine Is.bnd (P:=fun l=>l=((n.Arcs.take (i+1)).filter fun a=>!a.Epsilon && (decide (a.From∈L) && mem a.Set b)).map (·.To)) ?_ fun l hl=>Is.bnq (aM (by omega)) (Is.next ⟨rfl,hl⟩)
  refine Is.bnq (aZ c) ?_;rw [List.take_add_one,Ii c,List.filter_append,ID];refine Is.bnq (x:=!n.Arcs[i].Epsilon && (decide (n.Arcs[i].From∈L) && mem n.Arcs[i].Set b)) ?_ ?_
  ·obtain ⟨q,eq,hq⟩:=tj (m:=m) o.1.1 (by omega);have j:q=decide (n.Arcs[i].From∈L):=by
    rw [Bool.eq_iff_iff,hq,k,decide_eq_true_eq]
   subst j;cases n.Arcs[i].Epsilon
   ·refine aN eq ?_;cases decide (n.Arcs[i].From∈L)
    ·rfl
    ·exact aN (hH _ (hn.sets _ g)) rfl
   ·rfl
  refine Is.cnd (fun h=>?_) (fun h=>?_)
  ·refine Is.bnq (bN (by simp only [Il]; omega)) (Is.pure ?_);simp only [Option.toList_some,List.filter_cons,h,if_true,List.filter_nil,List.map_cons,List.map_nil]
  ·refine Is.pure ?_;simp only [Option.toList_some,List.filter_cons,h,Bool.false_eq_true,if_false,List.filter_nil,List.map_nil,List.append_nil]
 ·rintro ⟨a,_⟩ ⟨rfl,d⟩;obtain rfl:a=_:=d;rw [hb];refine Is.df (by omega) (Is.stop ?_);rw [Iq];rfl
theorem wc {S:List Int}:∀s∈clo n S,0≤s∧s<(n.States.toNat:Int):=by
 intro s hs;have:=((lz hn).1 hs).lt hn;omega
theorem oB {S:List Int}:(clo n S).length≤2000:=by
 have:=Bz n S;have:=hn.most;omega
theorem AE (c:S.length≤1000000000) {b:Nat} (hb:b<256):M.m5 n S (b:Int)=some (fp n S b):=by
 have hlen:=hn.len;refine Is.eq ?_;unfold M.m5;refine Is.bnq (mC hn) ?_;have f:=oB hn (S:=S);refine Is.bnd (P:=fun m:List Bool=>m.length=n.States.toNat∧∀s,Mk m s↔s∈clo n S) (Is.bnq (mO hn c) (qA (wc hn) (by omega) (fun _ _=>rfl))) ?_;rintro m ⟨e,d⟩;refine Is.bnq (tT hn (b:=b) d e (H:=fun v=>M.g0 v (b:Int)) (fun v a=>vT a hb) (fun _ _=>rfl)) ?_;have:=wE n (clo n S) b;exact Is.bnq (mO hn (by omega)) (Is.pure rfl)
theorem vj (c:S.length≤1000000000) {b:Nat} (hb:b<256):M.l0 n S (b:Int)=some (fp n S b):=by
 have hlen:=hn.len;refine Is.eq ?_;unfold M.l0;refine Is.bnq (mC hn) (Is.bnq (ga hn c) ?_);have f:=oB hn (S:=S);refine Is.bnd (P:=fun m:List Bool=>m.length=n.States.toNat∧∀s,Mk m s↔s∈clo n S) (qA (wc hn) (by omega) (fun _ _=>rfl)) ?_;rintro m ⟨e,d⟩;refine Is.bnq (tT hn (b:=b) d e (H:=fun v=>M.h4 v (b:Int)) (fun v a=>tk a hb) (fun _ _=>rfl)) ?_;have:=wE n (clo n S) b;exact Is.bnq (ga hn (by omega)) (Is.pure rfl)
theorem AM (s:Int):nP n (clo n S) s↔nP n S s:=by
 constructor
 ·intro h;induction h with
  | base hs _ _=>exact (lz hn).1 hs
  | arc ha he _ ih=>exact .arc ha he ih
 ·intro h;have:=h.lt hn;exact .base ((lz hn).2 h) this.1 this.2
theorem BA:clo n (clo n S)=clo n S:=by
 unfold clo;congr 1;refine IW fun i _=>?_
 rw [decide_eq_decide];exact AM hn i
theorem By {b:Nat}:clo n (fp n S b)=fp n S b:=BA hn
end
def gk (acc:List Int) (o:Int) (s:Int):Int:=bif decide (0≤acc.getD s.toNat 0) && (decide (o<0) || decide (acc.getD s.toNat 0<o)) then acc.getD s.toNat 0 else o
theorem zP (e o:Int):(bif decide (0≤e) then bif decide (o<0) then some true else some (decide (e<o)) else some false).bind (fun x=>bif x then some e else some o)=some (bif decide (0≤e) && (decide (o<0) || decide (e<o)) then e else o):=by
 cases decide (0≤e) <;> cases decide (o<0) <;> cases decide (e<o) <;> rfl
def oE (acc:List Int) (l:List Int):Int:=l.foldl (gk acc) (-1)
theorem sD {acc l:List Int} (hl:∀s∈l,0≤s∧s<(acc.length:Int)) (hlen:l.length≤1000000000) {body:Int×Int→Option (cO (Int×Int) Int)}
 (hb:∀o i,body (o,i)=bif decide (i<(l.length:Int)) then ((bD l i).bind fun h=>(bD acc h).bind fun c=>(bif decide (0≤c) then bif decide (o<0) then some true else some (decide (c<o)) else some false).bind fun x=>bif x then some c else some o).bind fun g=>(cd .i64 (i+1)).bind fun t=>some (.next (g,t)) else some (.stop o)) :
 be body ba (((-1):Int),(0:Int))=some (oE acc l):=by
 refine Is.eq ?_;refine Is.upto (fun i (e:Int×Int)=>e.2=(i:Int)∧e.1=(l.take i).foldl (gk acc) (-1)) l.length (by omega) ⟨rfl,rfl⟩ ?_ ?_
 ·rintro i ⟨o,_⟩ a ⟨rfl,b⟩;obtain rfl:o=_:=b;have f:=hl l[i] (Ip a);rw [hb];refine Is.dt (by omega) (Is.bnq (x:=gk acc ((l.take i).foldl (gk acc) (-1)) l[i]) ?_ (Is.bnq (aM (by omega)) (Is.next ⟨rfl,?_⟩)))
  ·refine aN (aZ a) (aN (dZ (d:=0) f.1 f.2) ?_);exact zP _ _
  ·rw [List.take_add_one,Ii a,List.foldl_append];rfl
 ·rintro ⟨o,_⟩ ⟨rfl,b⟩;obtain rfl:o=_:=b;rw [hb];refine Is.df (by omega) (Is.stop ?_);rw [Iq];rfl
theorem wl {n:T_NFA} {l:List Int} (hl:∀s∈l,0≤s∧s<(n.Accept.length:Int)) (hlen:l.length≤1000000000):M.k4 n l=some (oE n.Accept l):=by
 unfold M.k4;exact aN (sD hl hlen (fun _ _=>rfl)) rfl
theorem zj {n:T_NFA} {l:List Int} (hl:∀s∈l,0≤s∧s<(n.Accept.length:Int)) (hlen:l.length≤1000000000):M.j7 n l=some (oE n.Accept l):=by
 unfold M.j7;exact aN (sD hl hlen (fun _ _=>rfl)) rfl
noncomputable def tU (n:T_NFA) (S:List Int) (s:Str):List Int:=(s.map UInt8.toNat).foldl (fp n) (clo n S)
noncomputable def CB (n:T_NFA) (s:Str):Int:=oE n.Accept (tU n [n.Start] s)
section
variable {n:T_NFA} (hn:FitN n)
include hn
omit hn in
theorem AC:∀(l:List Nat) (S:List Int),(∃T,S=clo n T)→∃T,l.foldl (fp n) S=clo n T:=by
 intro l;induction l with
 | nil=>exact fun S h=>h
 | cons b l ih=>exact fun S _=>ih _ ⟨_,rfl⟩
theorem qU (l:List Int) (h:∃T,l=clo n T):(∀s∈l,0≤s∧s<(n.Accept.length:Int))∧l.length≤2000:=by
 obtain ⟨T,rfl⟩:=h;have h1:=hn.acc;have h2:=hn.pos;exact ⟨fun s hs=>by have:=wc hn s hs; omega,oB hn⟩
end
def cols (d:T_DFA):Nat:=(d.Next.getD 0 []).length
structure Ok (d:T_DFA):Prop where
  cls:d.Class.length=256
  pos:1≤d.Next.length
  max:d.Next.length≤500
  acc:d.Accept.length=d.Next.length
  col:1≤cols d
  inc:∀c∈d.Class,0≤c∧c<(cols d:Int)
  row:∀r∈d.Next,r.length=cols d∧∀t∈r,-1≤t∧t<(d.Next.length:Int)
  accs:∀a∈d.Accept,-1≤a
theorem zn {s:List Int} {f:Int→Option Bool} {p:Int→Bool} (hf:∀x∈s,f x=some (p x)) (hl:s.length≤9223372036854775807) :
 Is (M.c2 s f) (fun r=>decide (0≤r)=s.any p):=by
 unfold M.c2;refine Is.bs (P:=fun _=>s.any p=false) (Is.upto (fun i c=>c=(i:Int)∧∀x∈s.take i,p x=false) s.length hl ⟨rfl,by simp⟩ ?_ ?_) ?_
 ·rintro i _ b ⟨rfl,a⟩;refine Is.dt (by omega) (Is.bnq (aZ b) (Is.bnq (hf _ (Ip b)) (Is.cnd (fun hp=>?_) (fun hp=>?_))))
  ·exact Is.stop (show decide _=_ by rw [List.any_eq_true.2 ⟨_,Ip b,hp⟩]; simp)
  ·refine Is.bnq (aM (by omega)) (Is.next ⟨rfl,fun x hx=>?_⟩);rw [Ix b,Iv] at hx;rcases hx with hx|hx
   ·exact a x hx
   ·rw [Iu.1 hx]; exact hp
 ·rintro _ ⟨rfl,a⟩;refine Is.df (by omega) (Is.stop ?_);rw [Iq] at a;exact List.any_eq_false.2 fun x hx=>by simp [a x hx]
 ·intro _ h;exact Is.pure (by rw [h]; rfl)
theorem oM {s:List Int} {f:Int→Option Bool} {p:Int→Bool} (hf:∀x∈s,f x=some (p x)) (hl:s.length≤9223372036854775807):M.a8 s f=some (s.any p):=by
 obtain ⟨r,hr,h⟩:=zn hf hl;unfold M.a8;rw [hr,←h]; rfl
structure VN (n:T_NFA):Prop where
  pos:1≤n.States
  most:n.States≤2000
  start:0≤n.Start∧n.Start<n.States
  acc:(n.Accept.length:Int)=n.States
  low:∀x∈n.Accept,-1≤x
  arcs:∀a∈n.Arcs,(0≤a.From∧a.From<n.States)∧(0≤a.To∧a.To<n.States)∧(a.Epsilon=true→a.Set=aT.zero 4)
def CM (n:T_NFA):Prop:=1≤n.States∧n.States≤2000∧(0≤n.Start∧n.Start<n.States)∧(n.Accept.length:Int)=n.States
theorem VN.fit {n:T_NFA} (h:VN n) (hl:n.Arcs.length≤1000000000) (hs:∀a∈n.Arcs,W4 a.Set):FitN n:=⟨h.pos,h.most,h.start,h.acc,h.low,h.arcs,hl,hs⟩
theorem VN.pre {n:T_NFA} (h:VN n):CM n:=⟨h.pos,h.most,h.start,h.acc⟩
def sE (n:T_NFA) (a:ca):Prop:=(0≤a.From∧a.From<n.States)∧(0≤a.To∧a.To<n.States)∧(a.Epsilon=true→a.Set=aT.zero 4)
theorem fH {α:Type} {l:List α} {i:Nat} (hi:i<l.length) {x:α}:x∈l.take (i+1)↔x∈l.take i∨x=l[i]:=by
 rw [List.take_add_one,Ii hi,Iv];simp
theorem sP {n:T_NFA} (hl:n.Arcs.length≤9223372036854775807) (ha:n.Accept.length≤9223372036854775807):Is (M.i4 n) (fun b=>b=true↔VN n):=by
 unfold M.i4;refine Is.bnd (P:=fun b:Bool=>b=false↔CM n) ?_ fun b hb=>?_
 ·refine Is.dcd (fun h=>Is.pure ⟨fun e=>(by cases e),fun e=>by have:=e.1; omega⟩) (fun p=>?_);refine Is.dcd (fun h=>Is.pure ⟨fun e=>(by cases e),fun e=>by have:=e.2.1; omega⟩) (fun o=>?_);refine Is.dcd (fun h=>Is.pure ⟨fun e=>(by cases e),fun e=>by have:=e.2.2.1.1; omega⟩) (fun m=>?_);refine Is.dcd (fun h=>Is.pure ⟨fun e=>(by cases e),fun e=>by have:=e.2.2.1.2; omega⟩) (fun l=>Is.pure ?_);exact ⟨fun e=>⟨by omega,by omega,⟨by omega,by omega⟩,eP e⟩,fun e=>sC e.2.2.2⟩
 refine Is.cnd (fun h=>Is.pure ⟨fun e=>(by cases e),fun e=>by have:=hb.2 e.pre; rw [h] at this; cases this⟩) (fun h=>?_);have f:=hb.1 h;refine Is.bs (P:=fun _:Unit=>∀x∈n.Accept,-1≤x) ?_ fun _ hacc=>Is.bs (P:=fun _:Unit=>∀a∈n.Arcs,sE n a) ?_ fun _ k=>Is.pure ⟨fun _=>⟨f.1,f.2.1,f.2.2.1,f.2.2.2,hacc,k⟩,fun _=>rfl⟩
 ·refine Is.upto (fun i (g:Int)=>g=(i:Int)∧∀x∈n.Accept.take i,-1≤x) n.Accept.length ha ⟨rfl,by simp⟩ ?_ ?_
  ·rintro i _ d ⟨rfl,c⟩;refine Is.dt (by omega) (Is.bnq (aZ d) (Is.dcd (fun h=>Is.stop ⟨fun e=>(by cases e),fun e=>?_⟩) (fun h=>Is.bnq (aM (by omega)) (Is.next ⟨rfl,fun x hx=>?_⟩))))
   ·have:=e.low _ (Ip d); omega
   ·rcases (fH d).1 hx with hx|rfl
    ·exact c x hx
    ·omega
  ·rintro _ ⟨rfl,c⟩;rw [Iq] at c;exact Is.df (by omega) (Is.stop c)
 ·refine Is.upto (fun i (g:Int)=>g=(i:Int)∧∀a∈n.Arcs.take i,sE n a) n.Arcs.length hl ⟨rfl,by simp⟩ ?_ ?_
  ·rintro i _ d ⟨rfl,c⟩;refine Is.dt (by omega) (Is.bnq (aZ d) (Is.bnd (P:=fun b:Bool=>b=false↔sE n n.Arcs[i]) ?_ fun b hb=>Is.cnd (fun h=>Is.stop ⟨fun e=>(by cases e),fun e=>?_⟩) (fun h=>Is.bnq (aM (by omega)) (Is.next ⟨rfl,fun x hx=>?_⟩))))
   ·refine Is.dcd (fun h=>Is.pure ⟨fun e=>(by cases e),fun e=>by have:=e.1.1; omega⟩) (fun p=>?_);refine Is.dcd (fun h=>Is.pure ⟨fun e=>(by cases e),fun e=>by have:=e.1.2; omega⟩) (fun o=>?_);refine Is.dcd (fun h=>Is.pure ⟨fun e=>(by cases e),fun e=>by have:=e.2.1.1; omega⟩) (fun m=>?_);refine Is.dcd (fun h=>Is.pure ⟨fun e=>(by cases e),fun e=>by have:=e.2.1.2; omega⟩) (fun l=>?_);refine Is.cnd (fun j=>Is.pure ?_) (fun j=>Is.pure ⟨fun _=>⟨by omega,by omega,fun e=>by rw [j] at e; cases e⟩,fun _=>rfl⟩);rw [bne_eq_false_iff_eq];exact ⟨fun e=>⟨by omega,by omega,fun _=>e⟩,fun e=>e.2.2 j⟩
   ·have:=hb.2 (e.arcs _ (Ip d)); rw [h] at this; cases this
   ·rcases (fH d).1 hx with hx|rfl
    ·exact c x hx
    ·exact hb.1 h
  ·rintro _ ⟨rfl,c⟩;rw [Iq] at c;exact Is.df (by omega) (Is.stop c)
theorem ou (n:T_NFA) (s:Int):M.h1 s n=some (decide (0≤s∧s<n.States)):=by
 unfold M.h1
 by_cases h:0≤s
 ·rw [decide_eq_true h]
  by_cases a:s<n.States
  ·rw [decide_eq_true a,decide_eq_true (show 0≤s∧s<n.States from ⟨h,a⟩)]; rfl
  ·rw [decide_eq_false a,decide_eq_false (show ¬ (0≤s∧s<n.States) from fun e=>a e.2)]; rfl
 ·rw [decide_eq_false h,decide_eq_false (show ¬ (0≤s∧s<n.States) from fun e=>h e.1)]; rfl
theorem xu {n:T_NFA} (hl:n.Arcs.length≤9223372036854775807) (ha:n.Accept.length≤9223372036854775807):Is (M.k7 n) (fun b=>b=true↔VN n):=by
 unfold M.k7;refine Is.bnd (P:=fun b:Bool=>b=false↔CM n) ?_ fun b hb=>?_
 ·refine Is.dcd (fun h=>Is.pure ⟨fun e=>(by cases e),fun e=>by have:=e.1; omega⟩) (fun d=>?_);refine Is.dcd (fun h=>Is.pure ⟨fun e=>(by cases e),fun e=>by have:=e.2.1; omega⟩) (fun c=>?_);refine Is.bnq (ou n _) (Is.cnd (fun h=>Is.pure ⟨fun e=>(by cases e),fun e=>?_⟩) (fun h=>Is.pure ?_))
  ·have:=decide_eq_true (p:=0≤n.Start∧n.Start<n.States) e.2.2.1;rw [this] at h; cases h
  ·have o:0≤n.Start∧n.Start<n.States:=of_decide_eq_true (by simpa using h);exact ⟨fun e=>⟨by omega,by omega,o,eP e⟩,fun e=>sC e.2.2.2⟩
 refine Is.cnd (fun h=>Is.pure ⟨fun e=>(by cases e),fun e=>by have:=hb.2 e.pre; rw [h] at this; cases this⟩) (fun h=>?_);have f:=hb.1 h;refine Is.bs (P:=fun _:Unit=>∀a∈n.Arcs,sE n a) ?_ fun _ m=>?_
 ·refine Is.upto (fun i (l:Int)=>l=(i:Int)∧∀a∈n.Arcs.take i,sE n a) n.Arcs.length hl ⟨rfl,by simp⟩ ?_ ?_
  ·rintro i _ j ⟨rfl,g⟩;refine Is.dt (by omega) (Is.bnq (aZ j) (Is.bnd (P:=fun b:Bool=>b=false↔sE n n.Arcs[i]) ?_ fun b hb=>Is.cnd (fun h=>Is.stop ⟨fun e=>(by cases e),fun e=>?_⟩) (fun h=>Is.bnq (aM (by omega)) (Is.next ⟨rfl,fun x hx=>?_⟩))))
   ·refine Is.bnq (ou n _) (Is.cnd (fun h=>Is.pure ⟨fun e=>(by cases e),fun e=>?_⟩) (fun d=>?_))
    ·rw [decide_eq_true e.1] at h; cases h
    have d:0≤n.Arcs[i].From∧n.Arcs[i].From<n.States:=of_decide_eq_true (by simpa using d);refine Is.bnq (ou n _) (Is.cnd (fun h=>Is.pure ⟨fun e=>(by cases e),fun e=>?_⟩) (fun c=>?_))
    ·rw [decide_eq_true e.2.1] at h; cases h
    have c:0≤n.Arcs[i].To∧n.Arcs[i].To<n.States:=of_decide_eq_true (by simpa using c);refine Is.cnd (fun k=>Is.pure ?_) (fun k=>Is.pure ⟨fun _=>⟨d,c,fun e=>by rw [k] at e; cases e⟩,fun _=>rfl⟩);rw [bne_eq_false_iff_eq];exact ⟨fun e=>⟨d,c,fun _=>e⟩,fun e=>e.2.2 k⟩
   ·have:=hb.2 (e.arcs _ (Ip j)); rw [h] at this; cases this
   ·rcases (fH j).1 hx with hx|rfl
    ·exact g x hx
    ·exact hb.1 h
  ·rintro _ ⟨rfl,g⟩;rw [Iq] at g;exact Is.df (by omega) (Is.stop g)
 ·refine Is.bnq (oM (p:=fun x=>decide (x < -1)) (fun x _=>rfl) ha) (Is.pure ?_);rw [Bool.not_eq_true',List.any_eq_false];exact ⟨fun e=>⟨f.1,f.2.1,f.2.2.1,f.2.2.2,fun x hx=>by have:=e x hx; simp at this; omega,m⟩,fun e x hx=>by have:=e.low x hx; simp; omega⟩
theorem uq {α:Type} [DecidableEq α]:∀(l m:List α),l.Nodup→(∀x∈l,x∈m)→l.length≤m.length
 | [],_,_,_=>Nat.zero_le _
 | x::l,m,hn,hs=>by
  have hx:=hs x (by simp);have a:=List.nodup_cons.1 hn;have:=uq l (m.erase x) a.2 fun y hy=>(List.mem_erase_of_ne (fun e=>a.1 (by rw [←e]; exact hy))).2 (hs y (by simp [hy]))
  rw [List.length_erase_of_mem hx] at this;have:=List.length_pos_of_mem hx;simp only [IK]; omega
inductive RS (n:T_NFA):List Int→Prop where
  | start:RS n (clo n [n.Start])
  | step {S:List Int} {b:Nat}:RS n S→b<256→fp n S b≠[]→RS n (fp n S b)
def EZ (n:T_NFA):Prop:=∃l:List (List Int),l.Nodup∧500<l.length∧∀S∈l,RS n S
def rj (n:T_NFA):Prop:=∃l:List (List Int),l.length≤500∧∀S,RS n S→S∈l
theorem Be {n:T_NFA} (h:EZ n) (h2:rj n):False:=by
 obtain ⟨l,h1,h3,h4⟩:=h;obtain ⟨m,h5,h6⟩:=h2;have:=uq l m h1 fun S hS=>h6 S (h4 S hS)
 omega
theorem RS.clo {n:T_NFA} {S:List Int} (h:RS n S):∃T,S=clo n T:=by
 cases h with
 | start=>exact ⟨_,rfl⟩
 | step _ _ _=>exact ⟨_,rfl⟩
theorem xc (n:T_NFA):clo n []=[]:=by
 unfold Go.Proofs.YtggpjcdhflcfmaaGreatDoor.clo;rw [List.map_eq_nil_iff,List.filter_eq_nil_iff];intro i _;have:¬ nP n [] (i:Int):=by
  intro h;have:∀s,nP n [] s→False:=by
   intro s h;induction h with
   | base hs _ _=>cases hs
   | arc _ _ _ ih=>exact ih
  exact this _ h
 simpa using this
theorem AD (n:T_NFA) (b:Nat):fp n [] b=[]:=by
 unfold fp;rw [xc];have:An n [] b=[]:=by
  unfold An;simp
 rw [this,xc]
theorem AB {n:T_NFA} {p:ca→Bool} (hp:∀a∈n.Arcs,a.Epsilon=false→p a=true) {a b:Nat} (h:dA ((n.Arcs.filter p).map (·.Set)) a=dA ((n.Arcs.filter p).map (·.Set)) b) (L:List Int):An n L a=An n L b:=by
 unfold An;congr 1;refine IW fun x hx=>?_
 cases he:x.Epsilon
 ·have c:x.Set∈(n.Arcs.filter p).map (·.Set):=IP.2 ⟨x,IX.2 ⟨hx,hp x hx he⟩,rfl⟩;have:mem x.Set a=mem x.Set b:=by
   unfold dA at h;rw [List.map_inj_left] at h;exact h _ c
  rw [this]
 ·rfl
theorem wJ {n:T_NFA} {p:ca→Bool} (hp:∀a∈n.Arcs,a.Epsilon=false→p a=true) {a b:Nat} (h:dA ((n.Arcs.filter p).map (·.Set)) a=dA ((n.Arcs.filter p).map (·.Set)) b) (S:List Int):fp n S a=fp n S b:=by
 unfold fp;rw [AB hp h]
def fW (σ:Nat→List Bool) (i:Nat) (fb:List Int):Prop:=fb.length=(D σ i).length∧∀c,c<fb.length→∃b:Nat,b<i∧fb[c]?=some (b:Int)∧(D σ i)[c]?=some (σ b)
theorem oL {l:List (aT 4)} {N:Int} (p:N=256) {body:List Int×Int→Option (cO (List Int×Int) (List Int))}
 (hb:∀a i,body (a,i)=bif decide (i<N) then ((bD (lR l) i).bind fun e=>bif (e == (a.length:Int)) then (cz 1 a [(IntKind.u8.wrap i)]).bind fun l=>some l else some a).bind fun l=>(cd .i64 (i+1)).bind fun t=>some (.next (l,t)) else some (.stop a)) :
 Is (be body ba (([]:List Int),(0:Int))) (fW (dA l) 256):=by
 subst p;refine Is.upto (fun i (k:List Int×Int)=>k.2=(i:Int)∧fW (dA l) i k.1) 256 (by omega) ⟨rfl,rfl,fun c d=>by simp at d⟩ ?_ ?_
 ·rintro i ⟨a,_⟩ m ⟨rfl,f⟩;simp only at f;rw [hb];have hlen:(lR l).length=256:=by simp [lR]
  have s:=Ak (σ:=dA l) i;refine Is.dt (by omega) (Is.bnd (P:=fW (dA l) (i+1)) ?_ fun r o=>Is.bnq (aM (by omega)) (Is.next ⟨rfl,o⟩));refine Is.bnq (x:=(cls (dA l) i:Int)) (by rw [aZ (by omega)]; simp [lR]) ?_
  by_cases hm:dA l i∈D (dA l) i
  ·have d:=(tq m hm).2;refine Is.cf (cv (by have:=f.1; omega)) (Is.pure ⟨by rw [xq hm]; exact f.1,fun c d=>?_⟩);obtain ⟨b,q,j,h⟩:=f.2 c d;exact ⟨b,by omega,j,by rw [xq hm]; exact h⟩
  ·obtain ⟨d,g⟩:=pC m hm;have ha:a.length=(D (dA l) i).length:=f.1;refine Is.ct (qV (by omega)) (Is.bnq (bN (by simp only [Il]; omega)) (Is.pure ⟨by rw [g]; simp only [Ir,Il]; omega,fun c d=>?_⟩));rw [mT (n:=i) (by omega)];simp only [Ir,Il] at d;rcases Nat.lt_or_eq_of_le (Nat.le_of_lt_succ d) with hlt|heq
   ·obtain ⟨b,q,j,h⟩:=f.2 c hlt;exact ⟨b,by omega,by rw [Iy hlt]; exact j,by rw [g,Iy (by omega)]; exact h⟩
   ·subst heq;exact ⟨i,by omega,by simp,by rw [g,ha]; simp⟩
 ·rintro ⟨a,_⟩ ⟨rfl,f⟩;rw [hb];exact Is.df (by omega) (Is.stop f)
theorem fW.at {l:List (aT 4)} {fb:List Int} (h:fW (dA l) 256 fb) {b:Nat} (hb:b<256):∃a:Nat,a<256∧cls (dA l) b<fb.length∧fb[cls (dA l) b]?=some (a:Int)∧dA l a=dA l b:=by
 have f:dA l b∈D (dA l) 256:=ze.2 ⟨b,hb,rfl⟩;have c:(D (dA l) 256).idxOf (dA l b)<(D (dA l) 256).length:=List.idxOf_lt_length_of_mem f;have e:cls (dA l) b<fb.length:=by rw [h.1]; exact c
 obtain ⟨a,i,g,d⟩:=h.2 _ e;refine ⟨a,i,e,g,?_⟩;unfold cls at d;rw [Ii c,List.getElem_idxOf c] at d;exact (Option.some.inj d).symm
theorem fW.byte {l:List (aT 4)} {fb:List Int} (h:fW (dA l) 256 fb) {c:Nat} (hc:c<fb.length):∃b:Nat,b<256∧bD fb (c:Int)=some (b:Int):=by
 obtain ⟨b,g1,g2,_⟩:=h.2 c hc;refine ⟨b,g1,?_⟩;rw [Ii hc] at g2;rw [aZ hc,Option.some.inj g2]
theorem fW.len {l:List (aT 4)} {fb:List Int} (h:fW (dA l) 256 fb):1≤fb.length∧fb.length≤256:=by
 have h1:=h.at (b:=0) (by omega);have h2:=Ak (σ:=dA l) 256;obtain ⟨_,_,h3,_⟩:=h1;have:=h.1;omega
theorem BZ {a b:List Int} (h:a.length≤1000000000):M.l1 a b=some (decide (a=b)):=by
 refine Is.eq ?_;unfold M.l1
 by_cases hl:a.length=b.length
 ·refine Is.cf (sC (by omega)) ?_;refine Is.bs (P:=fun _:Unit=>a=b) (Q:=fun r=>r=decide (a=b)) ?_ fun _ h=>Is.pure (decide_eq_true h).symm
  refine Is.upto (fun i (g:Int)=>g=(i:Int)∧a.take i=b.take i) a.length (by omega) ⟨rfl,rfl⟩ ?_ ?_
  ·rintro i _ f ⟨rfl,c⟩;refine Is.dt (by omega) (Is.bnq (aZ f) (Is.bnq (aZ (by omega)) (Is.cnd (fun d=>Is.stop ?_) (fun d=>Is.bnq (aM (by omega)) (Is.next ⟨rfl,?_⟩)))))
   ·refine (decide_eq_false fun e=>?_).symm;subst e;exact kI d rfl
   ·rw [List.take_add_one,List.take_add_one,c,Ii f,Ii (by omega),eP d]
  ·rintro _ ⟨rfl,c⟩;rw [Iq,hl,Iq] at c;exact Is.df (by omega) (Is.stop c)
 ·exact Is.ct (mj (by omega)) (Is.pure (decide_eq_false fun e=>hl (by rw [e])).symm)
theorem Bn {l:List (List Int)} {S:List Int} (hl:l.length≤1000000000) (hs:∀T∈l,T.length≤1000000000) :
 Is (M.k8 l S) fun k=>(k<0∧S∉l)∨∃j:Nat,k=(j:Int)∧l[j]?=some S:=by
 unfold M.k8;refine Is.bs (P:=fun _:Unit=>S∉l) (Q:=fun k=>(k<0∧S∉l)∨∃j:Nat,k=(j:Int)∧l[j]?=some S) ?_ fun _ h=>Is.pure (.inl ⟨by omega,h⟩)
 refine Is.upto (fun i (e:Int)=>e=(i:Int)∧S∉l.take i) l.length (by omega) ⟨rfl,by simp⟩ ?_ ?_
 ·rintro i _ a ⟨rfl,b⟩;refine Is.dt (by omega) (Is.bnq (aZ a) (Is.bnq (BZ (hs _ (Ip a))) (Is.cnd (fun d=>Is.stop ?_) (fun d=>Is.bnq (aM (by omega)) (Is.next ⟨rfl,fun c=>?_⟩)))))
  ·exact .inr ⟨i,rfl,by rw [Ii a,of_decide_eq_true d]⟩
  ·rcases (fH a).1 c with c|rfl
   ·exact b c
   ·exact of_decide_eq_false d rfl
 ·rintro _ ⟨rfl,b⟩;rw [Iq] at b;exact Is.df (by omega) (Is.stop b)
structure lf (n:T_NFA) (sets:List (List Int)):Prop where
  nodup:sets.Nodup
  rs:∀S∈sets,RS n S
  start:clo n [n.Start]∈sets
theorem lf.add {n:T_NFA} {sets:List (List Int)} (h:lf n sets) {S:List Int} (hS:S∉sets) (hr:RS n S):lf n (sets++[S]):=
 ⟨List.nodup_append.2 ⟨h.nodup,by simp,fun x hx y hy e=>by rw [Iu] at hy; subst hy; subst e; exact hS hx⟩,fun T hT=>by
  rcases Iv.1 hT with hT|hT
  ·exact h.rs T hT
  ·rw [Iu.1 hT]; exact hr,List.mem_append_left _ h.start⟩
theorem yG {n:T_NFA} {sets:List (List Int)} {p:ca→Bool} (hp:∀a∈n.Arcs,a.Epsilon=false→p a=true) {fb:List Int} (hf:fW (dA ((n.Arcs.filter p).map (·.Set))) 256 fb) (h:lf n sets)
 (d:∀S∈sets,∀(c b:Nat),c<fb.length→fb[c]?=some (b:Int)→fp n S b≠[]→fp n S b∈sets):∀S,RS n S→S∈sets:=by
 intro S e;induction e with
 | start=>exact h.start
 | step _ hb hne ih=>
  obtain ⟨k,j,i,g,f⟩:=hf.at hb;rw [←wJ hp f] at hne ⊢;exact d _ ih _ _ i g hne
section
variable {n:T_NFA} (hn:FitN n) (hlen:n.Arcs.length≤1000000)
include hn
theorem wM {S:List Int} (h:RS n S):(∀s∈S,0≤s∧s<(n.Accept.length:Int))∧S.length≤2000:=qU hn S h.clo
include hlen in
theorem xE:Is (M.f0 n) fun r=>(r.2=11∧EZ n)∨(r.2=0∧rj n):=by
 have z:∃b,M.i4 n=some b∧b=true:=by
  obtain ⟨b,hb,h⟩:=sP (n:=n) (by omega) (by have:=hn.acc; have:=hn.most; omega);exact ⟨b,hb,h.2 ⟨hn.pos,hn.most,hn.start,hn.acc,hn.low,hn.arcs⟩⟩
 obtain ⟨_,z,rfl⟩:=z;unfold M.f0;refine Is.bnq z (Is.cf rfl ?_);refine Is.bnq (x:=(n.Arcs.filter fun a=>!a.Epsilon).map (·.Set)) ?_ ?_
 ·refine Is.eq ?_;refine Is.upto (fun i (d:List (aT 4)×Int)=>d.2=(i:Int)∧d.1=((n.Arcs.take i).filter fun a=>!a.Epsilon).map (·.Set)) n.Arcs.length (by omega) ⟨rfl,rfl⟩ ?_ ?_
  ·rintro i ⟨a,_⟩ D ⟨rfl,U⟩;obtain rfl:a=_:=U;have hl:(((n.Arcs.take i).filter fun a=>!a.Epsilon).map (·.Set)).length≤i:=by
    rw [IC];refine Nat.le_trans (List.length_filter_le _ _) ?_;rw [IJ]; omega
   refine Is.dt (by omega) (Is.bnd (P:=fun l=>l=((n.Arcs.take (i+1)).filter fun a=>!a.Epsilon).map (·.Set)) ?_ fun l hl=>Is.bnq (aM (by omega)) (Is.next ⟨rfl,hl⟩));refine Is.bnq (aZ D) ?_;rw [List.take_add_one,Ii D,List.filter_append,ID];refine Is.cnd (fun h=>?_) (fun h=>?_)
   ·refine Is.bnq (bN (by simp only [Il]; omega)) (Is.pure ?_);simp only [Option.toList_some,List.filter_cons,h,if_true,List.filter_nil,List.map_cons,List.map_nil]
   ·refine Is.pure ?_;simp only [Option.toList_some,List.filter_cons,h,Bool.false_eq_true,if_false,List.filter_nil,List.map_nil,List.append_nil]
  ·rintro ⟨a,_⟩ ⟨rfl,U⟩;obtain rfl:a=_:=U;refine Is.df (by omega) (Is.stop ?_);rw [Iq]
 have b1:((n.Arcs.filter fun a=>!a.Epsilon).map (·.Set)).length≤1000000:=by
  rw [IC];exact Nat.le_trans (List.length_filter_le _ _) hlen
 have hw:∀v∈(n.Arcs.filter fun a=>!a.Epsilon).map (·.Set),W4 v:=by
  intro v z;obtain ⟨a,ha,rfl⟩:=IP.1 z;exact hn.sets a (IX.1 ha).1
 have a8:∀a∈n.Arcs,a.Epsilon=false→(!a.Epsilon)=true:=fun a _ he=>by rw [he]; rfl
 refine Is.bnq (rz hw b1) ?_;refine Is.bnd (P:=fW (dA ((n.Arcs.filter fun a=>!a.Epsilon).map (·.Set))) 256) ?_ fun fb L=>?_
 ·unfold M.l5;exact Is.bnd (oL rfl (fun _ _=>rfl)) fun _ h=>Is.pure h
 have c0:=L.len;refine Is.bnq (ga hn (by simp)) ?_;refine Is.bs (P:=fun _=>rj n) (Q:=fun r:T_DFA×Int=>(r.2=11∧EZ n)∨(r.2=0∧rj n)) ?_ fun _ h=>Is.pure (.inr ⟨rfl,h⟩)
 refine Is.while (fun d:List (List Int)×List (List Int)×List Int×Int=>∃i:Nat,d.2.2.2=(i:Int)∧i≤d.1.length∧d.2.1.length=i∧d.2.2.1.length=i∧lf n d.1∧d.1.length≤500∧
  ∀S∈d.1.take i,∀(c b:Nat),c<fb.length→fb[c]?=some (b:Int)→fp n S b≠[]→fp n S b∈d.1) (fun d=>501 - d.2.2.2.toNat)
  ⟨0,rfl,by simp,rfl,rfl,⟨by simp,fun S I=>by rw [Iu.1 I]; exact .start,by simp⟩,by simp,by simp⟩ (by show 501 - _≤_; omega) ?_
 rintro ⟨sets,nx,ac,_⟩ ⟨i,rfl,D,a9,b6,hs,Y,G⟩;simp only at D a9 b6 hs Y G
 by_cases hil:i<sets.length
 case neg=>
  have:i=sets.length:=by omega
  subst this;rw [Iq] at G;exact Is.df (by omega) (Is.stop ⟨sets,Y,yG a8 L hs G⟩)
 refine Is.dt (by omega) ?_;have H:=hs.rs _ (Ip hil);generalize I:sets[i]=S at H
 -- the row
 refine Is.bs (P:=fun d:List (List Int)×List (List Int)×List Int=>d.2.1.length=i+1∧d.2.2.length=i+1∧lf n d.1∧d.1.length≤500∧i+1≤d.1.length∧(∀T∈sets,T∈d.1)∧(∀T∈d.1.take (i+1),T∈sets.take i∨T=S)∧
  (∀(c b:Nat),c<fb.length→fb[c]?=some (b:Int)→fp n S b≠[]→fp n S b∈d.1)) ?_ ?_
 ·refine Is.bnd (P:=fun d:List (List Int)×List Int=>d.2.length=fb.length∧lf n d.1∧(∃m,d.1=sets++m)∧d.1.length≤sets.length+256∧(∀(c b:Nat),c<fb.length→fb[c]?=some (b:Int)→fp n S b≠[]→fp n S b∈d.1)) ?_ ?_
  ·refine Is.upto (fun c (d:List (List Int)×List Int×Int)=>d.2.2=(c:Int)∧d.2.1.length=c∧lf n d.1∧(∃m,d.1=sets++m)∧d.1.length≤sets.length+c∧(∀(p b:Nat),p<c→fb[p]?=some (b:Int)→fp n S b≠[]→fp n S b∈d.1)) fb.length (by omega)
    ⟨rfl,rfl,hs,⟨[],by simp⟩,by simp,fun p b u=>by omega⟩ ?_ ?_
   ·rintro c ⟨e,row,_⟩ u ⟨rfl,t,o,⟨m,f⟩,s,q⟩;simp only at t o f s q;refine Is.dt (by omega) ?_;obtain ⟨b,W,N⟩:=L.byte u;have F:bD e (i:Int)=some S:=by
     have B:i<e.length:=by rw [f,Ir]; omega
     rw [aZ B];subst f;rw [List.getElem_append_left hil,I]
    have b3:fb[c]?=some (b:Int):=by
     rw [aZ u] at N;rw [Ii u,Option.some.inj N]
    have V:∀w:List (List Int),(∀T∈e,T∈w)→(fp n S b≠[]→fp n S b∈w)→∀(p y:Nat),p<c+1→fb[p]?=some (y:Int)→fp n S y≠[]→fp n S y∈w:=by
     intro w K J p y b5 R A;rcases Nat.lt_or_eq_of_le (Nat.le_of_lt_succ b5) with hlt|rfl
     ·exact K _ (q p y hlt R A)
     ·rw [b3] at R;obtain rfl:b=y:=by have:=Option.some.inj R; omega
      exact J A
    refine Is.bnd (P:=fun d:List (List Int)×List Int=>d.2.length=c+1∧lf n d.1∧(∃m,d.1=sets++m)∧d.1.length≤sets.length+(c+1)∧(∀(p b:Nat),p<c+1→fb[p]?=some (b:Int)→fp n S b≠[]→fp n S b∈d.1)) ?_ fun d h=>Is.bnq (aM (by omega)) (Is.next ⟨rfl,h⟩)
    have X:=(wM hn H).2;have b9:=(qU hn (fp n S b) ⟨_,rfl⟩).2;refine Is.bnq F (Is.bnq N (Is.bnq (vj hn (by omega) W) (Is.bnq (ga hn (by omega)) ?_)));rw [By hn]
    by_cases hz:fp n S b=[]
    ·rw [hz];refine Is.ct rfl (Is.bnq (bN (by simp only [Il]; omega)) (Is.pure ⟨by simp only [Ir,Il]; omega,o,⟨m,f⟩,by show e.length≤_; omega,V e (fun _ h=>h) fun h=>absurd hz h⟩))
    ·refine Is.cf (cv (by have:=List.length_pos_iff.2 hz; omega)) ?_;have hr:RS n (fp n S b):=.step H W hz;refine Is.bnd (Bn (l:=e) (S:=fp n S b) (by omega) (fun T g=>by have:=(wM hn (o.rs T g)).2; omega)) fun k hk=>?_
     refine Is.bnd (P:=fun d:List (List Int)×Int=>lf n d.1∧(∃m,d.1=sets++m)∧d.1.length≤sets.length+(c+1)∧(∀T∈e,T∈d.1)∧fp n S b∈d.1) ?_ ?_
     ·rcases hk with ⟨hk,b0⟩|⟨j,rfl,hj⟩
      ·refine Is.dt hk (Is.bnq (bN (by simp only [Il]; omega)) (Is.pure ⟨o.add b0 hr,⟨m++[fp n S b],by rw [f,Iw]⟩,by show (e++[fp n S b]).length≤_; simp only [Ir,Il]; omega,fun T g=>List.mem_append_left _ g,by show fp n S b∈e++[fp n S b]; simp⟩))
      ·exact Is.df (by omega) (Is.pure ⟨o,⟨m,f⟩,by show e.length≤_; omega,fun _ h=>h,List.mem_of_getElem? hj⟩)
     ·rintro ⟨w,k2⟩ ⟨K,J,q3,q4,q5⟩;exact Is.bnq (bN (by simp only [Il]; omega)) (Is.pure ⟨by simp only [Ir,Il]; omega,K,J,q3,V w q4 fun _=>q5⟩)
   ·rintro ⟨e,row,_⟩ ⟨rfl,t,o,f,s,q⟩;exact Is.df (by omega) (Is.stop ⟨t,o,f,by show e.length≤_; simp only at s; omega,q⟩)
  ·rintro ⟨e,row⟩ ⟨t,o,⟨m,f⟩,s,q⟩;simp only at t o f s q;refine Is.dcd (fun h=>Is.stop (.inl ⟨rfl,e,o.nodup,by omega,o.rs⟩)) (fun h=>?_);have B:i<e.length:=by rw [f,Ir]; omega
   have F:e[i]=S:=by
    subst f;rw [List.getElem_append_left hil,I]
   refine Is.bnq (aZ B) ?_;rw [F];have X:=wM hn H;refine Is.bnq (bN (by simp only [Il]; omega)) (Is.bnq (zj X.1 (by omega)) (Is.bnq (bN (by simp only [Il]; omega)) (Is.next ⟨by simp only [Ir,Il]; omega,by simp only [Ir,Il]; omega,o,by show e.length≤_; omega,by show i+1≤e.length; omega,fun T g=>by show T∈e; rw [f]; exact List.mem_append_left _ g,fun T g=>?_,q⟩)));have g:T∈e.take (i+1):=g;rcases (fH B).1 g with g|g
   ·left;rw [f,List.take_append_of_le_length (by omega)] at g;exact g
   ·right; rw [g,F]
 ·rintro ⟨e,b7,c1⟩ ⟨t,o,f,s,q,g6,g7,g8⟩;simp only at t o f s q g6 g7 g8;refine Is.bnq (aM (by omega)) (Is.next ⟨⟨i+1,rfl,q,t,o,f,s,fun T g c b u hb A=>?_⟩,by show 501 - ((i+1:Nat):Int).toNat<501 - ((i:Nat):Int).toNat; omega⟩);rcases g7 T g with h|rfl
  ·exact g6 _ (G T h c b u hb A)
  ·exact g8 c b u hb A
end
def bM (d:T_DFA) (s:Int) (b:Nat):Int:=if s<0 then -1 else (d.Next.getD s.toNat []).getD (d.Class.getD b 0).toNat 0
def eu (d:T_DFA) (s:Int):Int:=if s<0 then -1 else d.Accept.getD s.toNat 0
def qH (d:T_DFA) (s:Int):Prop:=-1≤s∧s<(d.Next.length:Int)
section
variable {d:T_DFA} (h:Ok d)
include h
theorem oA {b:Nat} (hb:b<256):0≤d.Class.getD b 0∧d.Class.getD b 0<(cols d:Int):=h.inc _ (cV (by rw [h.cls]; exact hb))
theorem eH {s:Nat} (hs:s<d.Next.length):(d.Next.getD s []).length=cols d∧∀t∈d.Next.getD s [],qH d t:=h.row _ (cV hs)
theorem cQ {s:Int} (hs:qH d s) {b:Nat} (hb:b<256):qH d (bM d s b):=by
 unfold bM;have hp:=h.pos;split
 ·exact ⟨by omega,by omega⟩
 ·have h1:=eH h (s:=s.toNat) (by have:=hs.2; omega);have h2:=oA h hb;exact h1.2 _ (cV (by omega))
theorem mW {s:Int} (hs:qH d s) {b:Nat} (hb:b<256):M.j0 d s (b:Int)=some (bM d s b):=by
 refine Is.eq ?_;unfold M.j0;have f:=hs.2;refine Is.dcd (fun a=>Is.pure (by unfold bM; rw [if_pos a])) fun a=>?_
 have e:=eH h (s:=s.toNat) (by omega);have c:=oA h hb;refine Is.bnq (dZ (d:=[]) (by omega) (by omega)) (Is.bnq (dZ (d:=0) (by omega) (by rw [h.cls]; omega)) (Is.bnq (dZ (d:=0) (by simpa using c.1) ?_) (Is.pure ?_)))
 ·rw [e.1]; simpa using c.2
 ·unfold bM; rw [if_neg a]; rfl
theorem nV {s:Int} (hs:qH d s):M.i3 d s=some (eu d s):=by
 refine Is.eq ?_;unfold M.i3;have h0:=hs.2;have ha:=h.acc;refine Is.dcd (fun h1=>Is.pure (by unfold eu; rw [if_pos h1])) fun h1=>?_
 exact Is.bnq (dZ (d:=0) (by omega) (by omega)) (Is.pure (by unfold eu; rw [if_neg h1]))
def walkN (d:T_DFA) (s:Int) (w:Str):Int:=w.foldl (fun q c=>bM d q c.toNat) s
theorem fX:qH d 0:=⟨by omega,by have:=h.pos; omega⟩
theorem fD {s:Int} (hs:qH d s) (w:Str):qH d (walkN d s w):=by
 unfold walkN;induction w generalizing s with
 | nil=>exact hs
 | cons c w ih=>exact ih (cQ h hs c.toNat_lt)
theorem Ab {w:Str} (c:w.length≤9223372036854775807):M.n1 d w=some (eu d (walkN d 0 w)):=by
 refine Is.eq ?_;unfold M.n1;refine Is.bnd (P:=fun q=>q=walkN d 0 w) (Is.upto (fun i b=>b=(walkN d 0 (w.take i),(i:Int))) w.length c rfl ?_ ?_) ?_
 ·rintro i _ a rfl;refine Is.dt (by omega) (Is.bnq (dY a) (Is.bnq (mW h (fD h (fX h) _) (UInt8.toNat_lt _)) (Is.bnq (aM (by omega)) (Is.next ?_))));unfold walkN;rw [Ix a,List.foldl_append];rfl
 ·rintro _ rfl;exact Is.df (by simp) (Is.stop (by simp))
 ·rintro _ rfl;exact Is.bnq (nV h (fD h (fX h) _)) (Is.pure rfl)
end
def lZ (s:Int):List Int:=[IntKind.u8.wrap s,IntKind.u8.wrap (s / 256)]
def nB (l:List Int):Str:=cX (l.flatMap lZ)
theorem wy (k:Nat):IntKind.u8.wrap (k:Int)=((k % 256:Nat):Int):=by simp [IntKind.wrap,IntKind.bits,IntKind.signed]
theorem qG:∀ {l m:List Int},(∀s∈l,0≤s∧s<65536)→(∀s∈m,0≤s∧s<65536)→nB l=nB m→l=m
 | [],[],_,_,_=>rfl
 | [],_::_,_,_,h=>by simp [nB,cX,lZ] at h
 | _::_,[],_,_,h=>by simp [nB,cX,lZ] at h
 | a::l,b::m,hl,hm,h=>by
  simp only [nB,cX,List.flatMap_cons,lZ,IA,Iz,List.map_cons,List.cons.injEq] at h;obtain ⟨d,c,e⟩:=h;have ha:=hl a (by simp);have hb:=hm b (by simp);obtain ⟨x,rfl⟩:=II ha.1;obtain ⟨y,rfl⟩:=II hb.1;have j:((x:Int) / 256)=((x / 256:Nat):Int):=by omega
  have i:((y:Int) / 256)=((y / 256:Nat):Int):=by omega
  rw [j,i,wy,wy,IH,IH] at c;rw [wy,wy,IH,IH] at d;have g:=congrArg UInt8.toNat d;have f:=congrArg UInt8.toNat c;rw [UInt8.toNat_ofNat',UInt8.toNat_ofNat'] at g f;have:x=y:=by omega
  subst this;rw [qG (fun s hs=>hl s (by simp [hs])) (fun s hs=>hm s (by simp [hs])) e]
theorem vP {l:List Int} (hl:l.length≤1000000):M.m3 l=some (nB l):=by
 refine Is.eq ?_;unfold M.m3;refine Is.bnq (x:=l.flatMap lZ) ?_ (Is.pure rfl);refine Is.eq ?_;refine Is.upto (fun i (c:List Int×Int)=>c.2=(i:Int)∧c.1=(l.take i).flatMap lZ) l.length (by omega) ⟨rfl,rfl⟩ ?_ ?_
 ·rintro i ⟨a,_⟩ d ⟨rfl,b⟩;obtain rfl:a=_:=b;have hlen:((l.take i).flatMap lZ).length≤2*i:=by
   have:∀q:List Int,(q.flatMap lZ).length=2*q.length:=by
    intro q;induction q with
    | nil=>rfl
    | cons x q ih=>simp [lZ] at ih ⊢; omega
   rw [this,IJ]; omega
  refine Is.dt (by omega) (Is.bnq (aZ d) (Is.bnq (x:=l[i] / 256) rfl (Is.bnq (bN (by simp only [IK,List.length_nil]; omega)) (Is.bnq (aM (by omega)) (Is.next ⟨rfl,?_⟩)))));rw [List.take_add_one,Ii d,List.flatMap_append];simp [lZ]
 ·rintro ⟨a,_⟩ ⟨rfl,b⟩;obtain rfl:a=_:=b;refine Is.df (by omega) (Is.stop ?_);rw [Iq]
structure As (n:T_NFA) (sets:List (List Int)) (m:List (Str×Int)):Prop where
  old:∀(S:List Int) (k:Nat),sets[k]?=some S→bY m (nB S)=some (k:Int)
  new:∀S:List Int,(∃T,S=clo n T)→S∉sets→bY m (nB S)=none
def Cw (n:T_NFA) (sets:List (List Int)) (S:List Int) (b:Nat) (x:Option Int):Prop:=
 (fp n S b=[]∧x=some (-1))∨∃k:Nat,sets[k]?=some (fp n S b)∧x=some (k:Int)
def nL (n:T_NFA) (fb:List Int) (sets:List (List Int)) (S row:List Int):Prop:=
 row.length=fb.length∧∀(c b:Nat),c<fb.length→fb[c]?=some (b:Int)→Cw n sets S b row[c]?
theorem nD {α:Type} {l m:List α} {k:Nat} {x:α} (h:l[k]?=some x):(l++m)[k]?=some x:=by
 rw [Iy (Ij.1 h).1]; exact h
theorem Cw.app {n:T_NFA} {sets:List (List Int)} {S:List Int} {b:Nat} {x:Option Int} (h:Cw n sets S b x) (m:List (List Int)):Cw n (sets++m) S b x:=by
 rcases h with h|⟨k,h1,h2⟩
 ·exact .inl h
 ·exact .inr ⟨k,nD h1,h2⟩
theorem nL.app {n:T_NFA} {fb:List Int} {sets:List (List Int)} {S row:List Int} (h:nL n fb sets S row) (m:List (List Int)):nL n fb (sets++m) S row:=
 ⟨h.1,fun c b hc hb=>(h.2 c b hc hb).app m⟩
theorem sv {α:Type} (l:List α):l.filter (fun _=>true)=l:=List.filter_eq_self.2 fun _ _=>rfl
theorem BL (acc:List Int) (l:List Int):-1≤oE acc l:=by
 have:∀(l:List Int) (o:Int),-1≤o→-1≤l.foldl (gk acc) o:=by
  intro l;induction l with
  | nil=>exact fun _ h=>h
  | cons x l ih=>
   intro o a;refine ih _ ?_;unfold gk;cases h:decide (0≤acc.getD x.toNat 0) && (decide (o<0) || decide (acc.getD x.toNat 0<o))
   ·exact a
   ·rw [Bool.and_eq_true,decide_eq_true_eq] at h;show -1≤acc.getD x.toNat 0;omega
 exact this l _ (by omega)
theorem lD {α:Type} {l:List α} {k:Nat} {x d:α} (h:l[k]?=some x):l.getD k d=x:=by rw [Ih,h]; rfl
section
variable {n:T_NFA} (hn:FitN n) (hlen:n.Arcs.length≤1000000)
include hn
theorem oC {S:List Int} (h:∃T,S=clo n T):(∀s∈S,0≤s∧s<65536)∧S.length≤2000:=by
 have h1:=qU hn S h;have h2:=hn.acc;have h3:=hn.most;exact ⟨fun s hs=>by have:=h1.1 s hs; omega,h1.2⟩
theorem As.add {sets:List (List Int)} {m:List (Str×Int)} (h:As n sets m) (hs:∀T∈sets,∃U,T=clo n U) {S:List Int} (i:S∉sets) (d:∃T,S=clo n T):As n (sets++[S]) (dM m (nB S) (sets.length:Int)):=by
 refine ⟨fun T k hk=>?_,fun T g f=>?_⟩
 ·by_cases e:k<sets.length
  ·rw [Iy e] at hk;have c:=List.mem_of_getElem? hk;have a:nB T≠nB S:=fun b=>i (by rw [←qG (oC hn (hs T c)).1 (oC hn d).1 b]; exact c)
   rw [pB a];exact h.old T k hk
  ·rw [IR (by omega)] at hk;have l:=(Ij.1 hk).1;simp only [Il] at l;have:k=sets.length:=by omega
   subst this;simp only [Nat.sub_self,List.getElem?_cons_zero,Option.some.injEq] at hk;subst hk;exact om
 ·have a:nB T≠nB S:=fun b=>f (by rw [qG (oC hn g).1 (oC hn d).1 b]; simp)
  rw [pB a];exact h.new T g fun j=>f (List.mem_append_left _ j)
def Ah (n:T_NFA) (d:T_DFA):Prop:=Ok d∧(∀w:Str,eu d (walkN d 0 w)=CB n w)∧cols d≤256∧∀a∈d.Accept,∃S,a=oE n.Accept S
structure Fa (n:T_NFA) (fb:List Int) (sets nx:List (List Int)) (ac:List Int):Prop where
  all:lf n sets
  zero:sets[0]?=some (clo n [n.Start])
  few:sets.length≤500
  nxl:nx.length=sets.length
  acl:ac.length=sets.length
  row:∀(j:Nat) (S:List Int),sets[j]?=some S→∃r,nx[j]?=some r∧nL n fb sets S r
  acc:∀(j:Nat) (S:List Int),sets[j]?=some S→ac[j]?=some (oE n.Accept S)
omit hn hlen in
theorem zq {fb:List Int} {sets nx:List (List Int)} {ac:List Int} (hf:fW (dA (n.Arcs.map (·.Set))) 256 fb) (h:Fa n fb sets nx ac):Ah n ⟨lR (n.Arcs.map (·.Set)),nx,ac⟩:=by
 have z:=hf.len;have W:0<sets.length:=(Ij.1 h.zero).1;have G:∀r∈nx,∃S,nL n fb sets S r:=by
  intro r x;obtain ⟨j,l,rfl⟩:=IE.1 x;have m:j<sets.length:=by rw [←h.nxl]; exact l
  obtain ⟨V,e,f⟩:=h.row j sets[j] (Ii m);rw [Ii l] at e;rw [Option.some.inj e];exact ⟨_,f⟩
 have o:cols ⟨lR (n.Arcs.map (·.Set)),nx,ac⟩=fb.length:=by
  unfold cols;obtain ⟨r,e,f⟩:=h.row 0 _ h.zero;show (nx.getD 0 []).length=_;rw [lD e];exact f.1
 have H:Ok ⟨lR (n.Arcs.map (·.Set)),nx,ac⟩:=by
  refine ⟨by simp [lR],by show 1≤nx.length; rw [h.nxl]; omega,by show nx.length≤500; rw [h.nxl]; exact h.few,by show ac.length=nx.length; rw [h.nxl,h.acl],by rw [o]; exact z.1,fun c g=>?_,fun r x=>?_,fun a ha=>?_⟩
  ·rw [o];have g:c∈(List.range 256).map fun i=>(cls (dA (n.Arcs.map (·.Set))) i:Int):=g
   obtain ⟨b,hb,rfl⟩:=IP.1 g;obtain ⟨_,_,f,_⟩:=hf.at (IQ.1 hb);omega
  ·obtain ⟨S,y⟩:=G r x;refine ⟨by rw [o]; exact y.1,fun t F=>?_⟩;obtain ⟨c,g,rfl⟩:=IE.1 F;have s:c<fb.length:=by rw [←y.1]; exact g
   obtain ⟨b,hb,A⟩:=hf.byte s;have J:fb[c]?=some (b:Int):=by
    rw [aZ s] at A;rw [Ii s,Option.some.inj A]
   rcases y.2 c b s J with ⟨_,f⟩|⟨k,e,f⟩
   ·rw [Ii g] at f;rw [Option.some.inj f];show -1≤(-1:Int)∧(-1:Int)<(nx.length:Int);omega
   ·rw [Ii g] at f;rw [Option.some.inj f];have:=(Ij.1 e).1;show -1≤(k:Int)∧(k:Int)<(nx.length:Int);rw [h.nxl];omega
  ·obtain ⟨j,l,rfl⟩:=IE.1 ha;have m:j<sets.length:=by rw [←h.acl]; exact l
   have e:=h.acc j sets[j] (Ii m);have I:ac[j]?=some ac[j]:=Ii l;rw [I] at e;rw [Option.some.inj e];exact BL _ _
 have K:∀a∈ac,∃S,a=oE n.Accept S:=by
  intro a ha;obtain ⟨j,l,rfl⟩:=IE.1 ha;have m:j<sets.length:=by rw [←h.acl]; exact l
  have e:=h.acc j sets[j] (Ii m);rw [Ii l] at e;exact ⟨_,Option.some.inj e⟩
 refine ⟨H,fun w=>?_,by rw [o]; exact z.2,K⟩
 -- states beside sets
 let d:T_DFA:=⟨lR (n.Arcs.map (·.Set)),nx,ac⟩
 have B:∀(w:Str) (q:Int) (S:List Int),((q=-1∧S=[])∨∃k:Nat,q=(k:Int)∧sets[k]?=some S)→
  eu d (walkN d q w)=oE n.Accept ((w.map UInt8.toNat).foldl (fp n) S):=by
  intro w;induction w with
  | nil=>
   rintro q S (⟨rfl,rfl⟩|⟨k,rfl,hk⟩)
   ·rfl
   ·show eu d (k:Int)=oE n.Accept S;unfold eu;rw [if_neg (by omega),IH];exact lD (h.acc k S hk)
  | cons c w ih=>
   rintro q S hq;refine ih _ _ ?_;have g:=c.toNat_lt;rcases hq with ⟨rfl,rfl⟩|⟨k,rfl,hk⟩
   ·exact .inl ⟨rfl,AD n _⟩
   ·obtain ⟨U,X,P,N,L⟩:=hf.at g;obtain ⟨r,e,f⟩:=h.row k S hk;have hp:∀a∈n.Arcs,a.Epsilon=false→(fun _=>true) a=true:=fun _ _ _=>rfl
    have T:fp n S c.toNat=fp n S U:=(wJ (p:=fun _=>true) hp (by rw [sv]; exact L) S).symm;have R:bM d (k:Int) c.toNat=r.getD (cls (dA (n.Arcs.map (·.Set))) c.toNat) 0:=by
     unfold bM;rw [if_neg (by omega),IH];have Q:d.Class.getD c.toNat 0=(cls (dA (n.Arcs.map (·.Set))) c.toNat:Int):=by
      show (lR (n.Arcs.map (·.Set))).getD c.toNat 0=_;refine lD ?_;unfold lR;rw [IT,List.getElem?_range g]; rfl
     rw [Q,IH];show (nx.getD k []).getD _ 0=_;rw [lD e]
    show (bM d (k:Int) c.toNat=-1∧fp n S c.toNat=[])∨∃k':Nat,bM d (k:Int) c.toNat=(k':Int)∧sets[k']?=some (fp n S c.toNat);rw [T,R];rcases f.2 _ _ P N with ⟨v,u⟩|⟨D,v,u⟩
    ·exact .inl ⟨lD u,v⟩
    ·exact .inr ⟨D,lD u,v⟩
 exact B w 0 _ (.inr ⟨0,rfl,h.zero⟩)
include hlen in
theorem Da:Is (M.d2 n) fun r=>(r=(⟨[],[],[]⟩,11)∧EZ n)∨(r.2=0∧rj n∧Ah n r.1):=by
 have G:∃b,M.k7 n=some b∧b=true:=by
  obtain ⟨b,hb,h⟩:=xu (n:=n) (by omega) (by have:=hn.acc; have:=hn.most; omega);exact ⟨b,hb,h.2 ⟨hn.pos,hn.most,hn.start,hn.acc,hn.low,hn.arcs⟩⟩
 obtain ⟨_,G,rfl⟩:=G;unfold M.d2;refine Is.bnq G (Is.cf rfl ?_);refine Is.bnq (x:=n.Arcs.map (·.Set)) ?_ ?_
 ·refine Is.eq ?_;refine Is.upto (fun i (d:List (aT 4)×Int)=>d.2=(i:Int)∧d.1=(n.Arcs.take i).map (·.Set)) n.Arcs.length (by omega) ⟨rfl,rfl⟩ ?_ ?_
  ·rintro i ⟨a,_⟩ W ⟨rfl,B⟩;obtain rfl:a=_:=B;refine Is.dt (by omega) (Is.bnq (aZ W) (Is.bnq (bN (by simp only [IC,IJ,Il]; omega)) (Is.bnq (aM (by omega)) (Is.next ⟨rfl,?_⟩))));rw [List.take_add_one,Ii W,ID];rfl
  ·rintro ⟨a,_⟩ ⟨rfl,B⟩;obtain rfl:a=_:=B;refine Is.df (by omega) (Is.stop ?_);rw [Iq]
 have hw:∀v∈n.Arcs.map (·.Set),W4 v:=by
  intro v G;obtain ⟨a,ha,rfl⟩:=IP.1 G;exact hn.sets a ha
 refine Is.bnq (wv hw (by rw [IC]; exact hlen)) ?_;refine Is.bnd (P:=fW (dA (n.Arcs.map (·.Set))) 256) ?_ fun fb Y=>?_
 ·unfold M.i2;exact Is.bnd (oL (by simp [lR]) (fun _ _=>rfl)) fun _ h=>Is.pure h
 have d8:=Y.len;have c1:∃T,clo n [n.Start]=clo n T:=⟨_,rfl⟩;have d9:=oC hn c1;refine Is.bnq (mO hn (by simp)) (Is.bnq (x:=clo n [n.Start]) rfl (Is.bnq (vP (by omega)) ?_));refine Is.bs (P:=fun d:List (List Int)×List Int=>∃sets,Fa n fb sets d.1 d.2∧rj n) (Q:=fun r:T_DFA×Int=>(r=(⟨[],[],[]⟩,11)∧EZ n)∨(r.2=0∧rj n∧Ah n r.1)) ?_ fun d h=>?_
 case refine_2=>
  obtain ⟨nx,ac⟩:=d;obtain ⟨sets,B,J⟩:=h;exact Is.pure (.inr ⟨rfl,J,zq Y B⟩)
 refine Is.while (fun d:List (List Int)×List Int×List (List Int)×List (Str×Int)×Int=>∃i:Nat,d.2.2.2.2=(i:Int)∧i≤d.2.2.1.length∧d.1.length=i∧d.2.1.length=i∧lf n d.2.2.1∧d.2.2.1[0]?=some (clo n [n.Start])∧d.2.2.1.length≤500∧As n d.2.2.1 d.2.2.2.1∧
  (∀(j:Nat) (S:List Int),j<i→d.2.2.1[j]?=some S→∃r,d.1[j]?=some r∧nL n fb d.2.2.1 S r)∧(∀(j:Nat) (S:List Int),j<i→d.2.2.1[j]?=some S→d.2.1[j]?=some (oE n.Accept S))) (fun d=>501 - d.2.2.2.2.toNat)
  ⟨0,rfl,by simp,rfl,rfl,⟨by simp,fun S hS=>by rw [Iu.1 hS]; exact .start,by simp⟩,rfl,by simp,?_,fun j S u=>by omega,fun j S u=>by omega⟩ (by show 501 - _≤_; omega) ?_
 ·have h0:As n [] []:=⟨fun S k h=>by simp at h,fun S _ _=>rfl⟩;exact h0.add hn (by simp) (by simp) c1
 rintro ⟨nx,ac,sets,m,_⟩ ⟨i,rfl,W,V,a0,hs,a4,h5,b8,U,hacc⟩;simp only at W V a0 hs a4 h5 b8 U hacc
 by_cases hil:i<sets.length
 case neg=>
  have:i=sets.length:=by omega
  subst this;have t:∀(j:Nat) (S:List Int),sets[j]?=some S→j<sets.length:=fun j S h=>(Ij.1 h).1
  refine Is.df (by omega) (Is.stop ⟨sets,⟨hs,a4,h5,V,a0,fun j S h=>U j S (t j S h) h,fun j S h=>hacc j S (t j S h) h⟩,sets,h5,?_⟩);have hp:∀a∈n.Arcs,a.Epsilon=false→(fun _=>true) a=true:=fun _ _ _=>rfl
  refine yG (p:=fun _=>true) hp (fb:=fb) (by rw [sv]; exact Y) hs ?_;intro S hS c b z hb c9;obtain ⟨j,u,rfl⟩:=IE.1 hS;obtain ⟨r,_,J⟩:=U j _ u (Ii u);rcases J.2 c b z hb with ⟨h3,_⟩|⟨k,h3,_⟩
  ·exact absurd h3 c9
  ·exact List.mem_of_getElem? h3
 refine Is.dt (by omega) ?_;have b1:=hs.rs _ (Ip hil);have a1:sets[i]?=some sets[i]:=Ii hil;generalize sets[i]=S at b1 a1;have b0:=wM hn b1;refine Is.bs (P:=fun d:List (List Int)×List Int×List (List Int)×List (Str×Int)=>∃g,d.2.2.1=sets++g∧d.1.length=i+1∧d.2.1.length=i+1∧lf n d.2.2.1∧d.2.2.1.length≤500∧As n d.2.2.1 d.2.2.2∧
  (∀j,j<i→d.1[j]?=nx[j]?)∧(∀j,j<i→d.2.1[j]?=ac[j]?)∧(∃r,d.1[i]?=some r∧nL n fb d.2.2.1 S r)∧d.2.1[i]?=some (oE n.Accept S)) ?_ ?_
 ·refine Is.bnq (eI (n:=fb.length) (by omega)) ?_;refine Is.bs (P:=fun d:List (List Int)×List (Str×Int)×List Int=>∃g,d.1=sets++g∧lf n d.1∧d.1.length≤500∧As n d.1 d.2.1∧nL n fb d.1 S d.2.2) ?_ ?_
  ·refine Is.upto (fun c (d:List (List Int)×List (Str×Int)×List Int×Int)=>d.2.2.2=(c:Int)∧(∃g,d.1=sets++g)∧lf n d.1∧d.1.length≤500∧As n d.1 d.2.1∧d.2.2.1.length=fb.length∧(∀(s b:Nat),s<c→fb[s]?=some (b:Int)→Cw n d.1 S b d.2.2.1[s]?)) fb.length (by omega)
    ⟨rfl,⟨[],by simp⟩,hs,h5,b8,by simp,fun s b z=>by omega⟩ ?_ ?_
   ·rintro c ⟨e,R,row,_⟩ z ⟨rfl,⟨g,f⟩,o,y,q,w,D⟩;simp only at f o y q w D;refine Is.dt (by omega) ?_;obtain ⟨b,c2,a8⟩:=Y.byte z;have d2:fb[c]?=some (b:Int):=by
     rw [aZ z] at a8;rw [Ii z,Option.some.inj a8]
    have a6:bD e (i:Int)=some S:=by
     have:e[i]?=some S:=by rw [f]; exact nD a1
     have H:=(Ij.1 this).1;rw [aZ H];rw [Ii H] at this;exact this
    have a7:∃T,fp n S b=clo n T:=⟨_,rfl⟩;have b6:=oC hn a7;have b9:∀(A:List (List Int)) (x:Int) (mm:List (List Int)),A=e++mm→Cw n A S b (some x)→∀a3:List Int,a3=row.set c x→∀(s K:Nat),s<c+1→fb[s]?=some (K:Int)→Cw n A S K a3[s]?:=by
     intro A x mm F N a3 L s K d3 a9;subst L;rcases Nat.lt_or_eq_of_le (Nat.le_of_lt_succ d3) with t|rfl
     ·rw [List.getElem?_set_ne (by omega),F];exact (D s K t a9).app mm
     ·rw [d2] at a9;obtain rfl:b=K:=by have:=Option.some.inj a9; omega
      rw [List.getElem?_set_self (by omega)];exact N
    refine Is.bs (P:=fun d:List (List Int)×List (Str×Int)×List Int=>(∃g,d.1=sets++g)∧lf n d.1∧d.1.length≤500∧As n d.1 d.2.1∧d.2.2.length=fb.length∧(∀(s b:Nat),s<c+1→fb[s]?=some (b:Int)→Cw n d.1 S b d.2.2[s]?)) ?_ fun d h=>Is.bnq (aM (by omega)) (Is.next ⟨rfl,h⟩)
    refine Is.bnq a8 (Is.bnq a6 (Is.bnq (AE hn (by have:=b0.2; omega) c2) (Is.bnq (dk (by omega)) ?_)))
    by_cases hz:fp n S b=[]
    ·rw [hz];exact Is.ct rfl (Is.next ⟨⟨g,f⟩,o,y,q,by show (row.set c (-1)).length=_; rw [IV]; exact w,b9 e (-1) [] (by simp) (.inl ⟨hz,rfl⟩) _ rfl⟩)
    ·refine Is.cf (cv (by have:=List.length_pos_iff.2 hz; omega)) (Is.bnq (vP (by have:=b6.2; omega)) ?_);have hr:RS n (fp n S b):=.step b1 c2 hz;refine Is.bs (P:=fun d:List (List Int)×List (Str×Int)×Int=>∃(mm:List (List Int)) (k:Nat),d.1=e++mm∧lf n d.1∧d.1.length≤500∧As n d.1 d.2.1∧d.2.2=(k:Int)∧d.1[k]?=some (fp n S b)) ?_ ?_
     ·by_cases hmem:fp n S b∈e
      ·obtain ⟨k,hk,d1⟩:=IE.1 hmem;have c0:e[k]?=some (fp n S b):=by rw [Ii hk,d1]
       have X:=q.old _ k c0;refine Is.cf (by rw [X]; rfl) (Is.next ⟨[],k,by simp,o,y,q,?_,c0⟩);show (bY R (nB (fp n S b))).getD 0=_;rw [X]; rfl
      ·have X:=q.new _ a7 hmem;refine Is.ct (by rw [X]; rfl) (Is.cnd (fun I=>Is.stop ?_) (fun I=>?_))
       ·have I:=dw I;refine .inl ⟨rfl,e++[fp n S b],(o.add hmem hr).nodup,by simp only [Ir,Il]; omega,(o.add hmem hr).rs⟩
       ·have I:=kJ I;refine Is.bnq (vP (by have:=b6.2; omega)) (Is.bnq (bN (by simp only [Il]; omega)) (Is.next ⟨[fp n S b],e.length,rfl,o.add hmem hr,by show (e++[fp n S b]).length≤500; simp only [Ir,Il]; omega,q.add hn (fun T l=>(o.rs T l).clo) hmem a7,rfl,by simp⟩))
     ·rintro ⟨A,m2,k2⟩ ⟨mm,k,F,N,L,q4,rfl,q6⟩;simp only at F N L q4 q6;refine Is.bnq (dk (by rw [IV]; omega)) (Is.next ⟨⟨g++mm,by show A=_; rw [F,f,Iw]⟩,N,L,q4,by show ((row.set c (-1)).set c (k:Int)).length=_; rw [IV,IV]; exact w,b9 A (k:Int) mm F (.inr ⟨k,q6,rfl⟩) _ (List.set_set ..)⟩)
   ·rintro ⟨e,R,row,_⟩ ⟨rfl,⟨g,f⟩,o,y,q,w,D⟩;exact Is.df (by omega) (Is.stop ⟨g,f,o,y,q,w,fun c b z hb=>D c b z hb⟩)
  ·rintro ⟨e,R,row⟩ ⟨g,f,o,y,q,w⟩;simp only at f o y q w;have a6:bD e (i:Int)=some S:=by
    have:e[i]?=some S:=by rw [f]; exact nD a1
    have H:=(Ij.1 this).1;rw [aZ H];rw [Ii H] at this;exact this
   refine Is.bnq (bN (by simp only [Il]; omega)) (Is.bnq a6 (Is.bnq (wl b0.1 (by have:=b0.2; omega)) (Is.bnq (bN (by simp only [Il]; omega)) (Is.next ⟨g,f,by simp [V],by simp [a0],o,y,q,fun j u=>?_,fun j u=>?_,⟨row,?_,w⟩,?_⟩))))
   ·exact Iy (by omega)
   ·exact Iy (by omega)
   ·subst V; exact List.getElem?_concat_length
   ·subst a0; exact List.getElem?_concat_length
 ·rintro ⟨d5,e0,e,R⟩ ⟨g,f,o,y,q,w,D,g7,g8,g9,c7⟩;simp only at f o y q w D g7 g8 g9 c7;have d0:i+1≤e.length:=by rw [f,Ir]; omega
  have b7:∀(j:Nat) (T:List Int),j<i→e[j]?=some T→sets[j]?=some T:=by
   intro j T u l;rw [f,Iy (by omega)] at l;exact l
  have c3:e[i]?=some S:=by rw [f]; exact nD a1
  refine Is.bnq (aM (by omega)) (Is.next ⟨⟨i+1,rfl,d0,o,y,q,by show e[0]?=_; rw [f]; exact nD a4,w,D,fun j T u l=>?_,fun j T u l=>?_⟩,by show 501 - ((i+1:Nat):Int).toNat<501 - ((i:Nat):Int).toNat; omega⟩)
  ·rcases Nat.lt_or_eq_of_le (Nat.le_of_lt_succ u) with t|rfl
   ·obtain ⟨r,B,J⟩:=U j T t (b7 j T t l);refine ⟨r,by rw [←B]; exact g7 j t,?_⟩;show nL n fb e T r;rw [f];exact J.app g
   ·have l:e[j]?=some T:=l;rw [c3] at l;rw [←Option.some.inj l];exact g9
  ·rcases Nat.lt_or_eq_of_le (Nat.le_of_lt_succ u) with t|rfl
   ·rw [←hacc j T t (b7 j T t l)];exact g8 j t
   ·have l:e[j]?=some T:=l;rw [c3] at l;rw [←Option.some.inj l];exact c7
end
inductive bO:T_Regex→Prop where
  | mk (x:T_Regex):(yv .i64) x.Kind→(fun v=>∀x∈v.1,yv .u64 x) x.Set→(∀y∈x.Kids,bO y)→x.Kids.length≤maxLen→bO x
theorem T_Regex.ind {P:T_Regex→Prop} (h:∀k s l,(∀y∈l,P y)→P ⟨k,s,l⟩):∀x,P x
 | ⟨k,s,l⟩=>h k s l fun y _=>T_Regex.ind h y
theorem jB {k s l} (h:bO ⟨k,s,l⟩):∀y∈l,bO y:=by cases h; assumption
theorem vz {k s l} (h:bO ⟨k,s,l⟩):l.length≤maxLen:=by cases h; assumption
theorem yR {k s l} (h:bO ⟨k,s,l⟩):∀x∈s.1,yv .u64 x:=by cases h; assumption
def iP (k:Int) (s:aT 4) (n:Nat):Bool:=
 bif k == 1 || k == 2 then n == 0 && s == aT.zero 4
 else bif k == 3 then n == 0 && s != aT.zero 4
 else bif k == 4 || k == 5 then decide (2≤n) && s == aT.zero 4
 else bif k == 6 then n == 1 && s == aT.zero 4
 else false
def V:Nat→T_Regex→Bool
 | 0,_=>false
 | d+1,x=>iP x.Kind x.Set x.Kids.length && x.Kids.all (V d)
theorem qC {α ρ:Type} {l:List α} {f:α→Option Bool} {p:α→Bool} {X Y:ρ} (hf:∀y∈l,f y=some (p y)) (hl:l.length≤9223372036854775807) :
 be (fun (i:Int)=>bif decide (i<(l.length:Int)) then (bD l i).bind fun e=>(f e).bind fun r=>bif (!r) then some (.stop X) else (cd .i64 (i+1)).bind fun t=>some (.next t)
  else some (.stop Y)) ba (0:Int)=some (if l.all p then Y else X):=by
 refine Is.eq ?_;refine Is.upto (fun i s=>s=(i:Int)∧(l.take i).all p=true) l.length hl ⟨rfl,by simp⟩ ?_ ?_
 ·rintro i _ a ⟨rfl,b⟩;refine Is.dt (by omega) (Is.bnq (aZ a) (Is.bnq (hf _ (Ip a)) ?_));refine Is.cnd (fun h=>?_) (fun h=>?_)
  ·have h:p l[i]=false:=by simpa using h
   refine Is.stop ?_;rw [if_neg];intro c;have:=List.all_eq_true.1 c _ (Ip a);rw [h] at this; exact absurd this (by simp)
  ·have h:p l[i]=true:=by simpa using h
   refine Is.bnq (aM (by omega)) (Is.next ⟨rfl,?_⟩);rw [List.take_add_one,List.all_append,b,Ii a];simp [h]
 ·rintro _ ⟨rfl,b⟩;refine Is.df (by omega) (Is.stop ?_);rw [Iq] at b;rw [if_pos b]
theorem zh {α ρ:Type} {l:List α} {f:α→Option Bool} {p:α→Bool} {X Y:ρ} (hf:∀y∈l,f y=some (p y)) (hl:l.length≤9223372036854775807) :
 be (fun (i:Int)=>bif decide (i<(l.length:Int)) then (bD l i).bind fun e=>(f e).bind fun r=>bif r then some (.stop X) else (cd .i64 (i+1)).bind fun t=>some (.next t)
  else some (.stop Y)) ba (0:Int)=some (if l.any p then X else Y):=by
 refine Is.eq ?_;refine Is.upto (fun i s=>s=(i:Int)∧(l.take i).any p=false) l.length hl ⟨rfl,by simp⟩ ?_ ?_
 ·rintro i _ a ⟨rfl,b⟩;refine Is.dt (by omega) (Is.bnq (aZ a) (Is.bnq (hf _ (Ip a)) ?_));refine Is.cnd (fun h=>?_) (fun h=>?_)
  ·refine Is.stop ?_;rw [if_pos];exact List.any_eq_true.2 ⟨_,Ip a,h⟩
  ·refine Is.bnq (aM (by omega)) (Is.next ⟨rfl,?_⟩);rw [List.take_add_one,List.any_append,b,Ii a];simp [h]
 ·rintro _ ⟨rfl,b⟩;refine Is.df (by omega) (Is.stop ?_);rw [Iq] at b;rw [if_neg (by simp [b])]
theorem yw:∀(d a:Nat) (x:T_Regex),bO x→d≤30→d<a→M.e3 a x d=some (V d x):=by
 intro d;induction d with
 | zero=>
  intro a x _ _ hf;obtain ⟨a,rfl⟩:∃f,a=f+1:=⟨a - 1,by omega⟩;simp [M.e3,V]
 | succ d ih=>
  intro a x ok hd hf;obtain ⟨a,rfl⟩:∃f,a=f+1:=⟨a - 1,by omega⟩;obtain ⟨k,s,l⟩:=x;have hl:l.length≤9223372036854775807:=Nat.le_trans (vz ok) (by decide);have o:cd .i64 ((d+1:Nat) - 1:Int)=some (d:Int):=by rw [dO (by omega) (by omega)]; congr 1; omega
  have p:(((d+1:Nat):Int) == 0)=false:=cv (by omega);have g:=qC (ρ:=cO Unit Bool) (f:=fun e=>M.e3 a e d) (X:=.stop false) (Y:=.next ()) (fun y hy=>ih a y (jB ok y hy) (by omega) (by omega)) hl;have hb:(s != aT.zero 4)=!(s == aT.zero 4):=rfl;unfold M.e3 V iP;simp only [o,p,Ik,cond_false,hb];rw [g];have b:l.length=0→l.all (V d)=true:=by intro h; rw [Jd h]; rfl
  generalize l.all (V d)=A at b ⊢;generalize (s == aT.zero 4)=z;generalize l.length=n at b ⊢;have gQ:k=1∨k=2∨k=3∨k=4∨k=5∨k=6∨(k≠1∧k≠2∧k≠3∧k≠4∧k≠5∧k≠6):=by omega
  clear g hl ok ih hb;have D:∀m:Nat,decide ((m:Int)+1+1<2)=false:=fun m=>eQ (by omega)
  have B:∀m:Nat,decide ((m:Int)+1+1≤0)=false:=fun m=>eQ (by omega)
  have w:∀m:Nat,((m:Int)+1+1 == 0)=false:=fun m=>cv (by omega)
  have v:∀m:Nat,((m:Int)+1+1 == 1)=false:=fun m=>cv (by omega)
  have v4:∀m:Nat,((m:Int)+1+1 != 1)=true:=fun m=>mj (by omega)
  have u:∀m:Nat,decide ((0:Int)<(m:Int)+1+1)=true:=fun m=>eg (by omega)
  have t:∀m:Nat,decide ((1:Int)<(m:Int)+1+1)=true:=fun m=>eg (by omega)
  have r:∀m:Nat,decide ((m:Int)+1+1<0)=false:=fun m=>eQ (by omega)
  have q:∀m:Nat,decide ((m:Int)+1+1<1)=false:=fun m=>eQ (by omega)
  rcases gQ with rfl|rfl|rfl|rfl|rfl|rfl|⟨j,i,c,n4,n5,n6⟩ <;> rcases n with _|_|n <;> cases z <;> cases A <;> first|exact absurd (b rfl) (by decide)|(simp [bo, *]; done)|(have L:=cv j; have K:=cv i; have J:=cv c; have I:=cv n4; have H:=cv n5; have G:=cv n6; have F:=mj c; simp [bo, *])
theorem ud:∀(d a:Nat) (x:T_Regex),bO x→d≤30→d<a→M.e6 a x ((30 - d:Nat):Int)=some (V d x):=by
 intro d;induction d with
 | zero=>
  intro a x _ _ hf;obtain ⟨a,rfl⟩:∃f,a=f+1:=⟨a - 1,by omega⟩;simp [M.e6,V]
 | succ d ih=>
  intro a x ok hd hf;obtain ⟨a,rfl⟩:∃f,a=f+1:=⟨a - 1,by omega⟩;obtain ⟨k,s,l⟩:=x;have hl:l.length≤9223372036854775807:=Nat.le_trans (vz ok) (by decide);have o:cd .i64 (((30 - (d+1):Nat):Int)+1)=some ((30 - d:Nat):Int):=by rw [dO (by omega) (by omega)]; congr 1; omega
  have p:decide (30≤((30 - (d+1):Nat):Int))=false:=decide_eq_false (by omega);have g:=qC (ρ:=cO Unit Bool) (f:=fun e=>M.e6 a e ((30 - d:Nat):Int)) (X:=.stop false) (Y:=.next ()) (fun y hy=>ih a y (jB ok y hy) (by omega) (by omega)) hl;have hb:(s != aT.zero 4)=!(s == aT.zero 4):=rfl;unfold M.e6 V iP;simp only [o,p,Ik,cond_false,hb];rw [g];have b:l.length=0→l.all (V d)=true:=by intro h; rw [Jd h]; rfl
  generalize l.all (V d)=A at b ⊢;generalize (s == aT.zero 4)=z;generalize l.length=n at b ⊢;have gQ:k=1∨k=2∨k=3∨k=4∨k=5∨k=6∨(k≠1∧k≠2∧k≠3∧k≠4∧k≠5∧k≠6):=by omega
  clear g hl ok ih hb;have D:∀m:Nat,decide ((m:Int)+1+1<2)=false:=fun m=>eQ (by omega)
  have B:∀m:Nat,decide ((m:Int)+1+1≤0)=false:=fun m=>eQ (by omega)
  have w:∀m:Nat,((m:Int)+1+1 == 0)=false:=fun m=>cv (by omega)
  have v:∀m:Nat,((m:Int)+1+1 == 1)=false:=fun m=>cv (by omega)
  have v4:∀m:Nat,((m:Int)+1+1 != 1)=true:=fun m=>mj (by omega)
  have u:∀m:Nat,decide ((0:Int)<(m:Int)+1+1)=true:=fun m=>eg (by omega)
  have t:∀m:Nat,decide ((1:Int)<(m:Int)+1+1)=true:=fun m=>eg (by omega)
  have r:∀m:Nat,decide ((m:Int)+1+1<0)=false:=fun m=>eQ (by omega)
  have q:∀m:Nat,decide ((m:Int)+1+1<1)=false:=fun m=>eQ (by omega)
  rcases gQ with rfl|rfl|rfl|rfl|rfl|rfl|⟨j,i,c,n4,n5,n6⟩ <;> rcases n with _|_|n <;> cases z <;> cases A <;> first|exact absurd (b rfl) (by decide)|(simp [bo, *]; done)|(have L:=cv j; have K:=cv i; have J:=cv c; have I:=cv n4; have H:=cv n5; have G:=cv n6; have F:=mj c; simp [bo, *])
theorem rf {x:T_Regex} (ok:bO x):M.g7 x=some (V 30 x):=by
 unfold M.g7;rw [show M.e3 ba x 30=some (V 30 x) from yw 30 ba x ok (by omega) (by unfold ba; omega)];rfl
theorem ku {x:T_Regex} (ok:bO x):M.g8 x=some (V 30 x):=by
 unfold M.g8;rw [show M.e6 ba x 0=some (V 30 x) from ud 30 ba x ok (by omega) (by unfold ba; omega)];rfl
mutual
def parts:T_Regex→Nat
 | ⟨_,_,l⟩=>bE l+1
def bE:List T_Regex→Nat
 | []=>0
 | y::l=>parts y+bE l
end
mutual
def height:T_Regex→Nat
 | ⟨_,_,l⟩=>cb l+1
def cb:List T_Regex→Nat
 | []=>0
 | y::l=>max (height y) (cb l)
end
theorem iC (l m:List T_Regex):bE (l++m)=bE l+bE m:=by
 induction l with
 | nil=>simp [bE]
 | cons y l ih=>simp only [IA,bE,ih]; omega
theorem kR (l m:List T_Regex):cb (l++m)=max (cb l) (cb m):=by
 induction l with
 | nil=>simp [cb]
 | cons y l ih=>simp only [IA,cb,ih]; omega
theorem eV {l:List T_Regex} {y:T_Regex} (h:y∈l):parts y≤bE l:=by
 induction l with
 | nil=>cases h
 | cons z l ih=>
  simp only [bE];rcases IN.1 h with rfl|h
  ·omega
  ·have:=ih h; omega
theorem vS {l:List T_Regex} {y:T_Regex} (h:y∈l):height y≤cb l:=by
 induction l with
 | nil=>cases h
 | cons z l ih=>
  simp only [cb];rcases IN.1 h with rfl|h
  ·omega
  ·have:=ih h; omega
theorem xM (x:T_Regex):1≤parts x:=by obtain ⟨k,s,l⟩:=x; simp [parts]
theorem fx (l:List T_Regex):l.length≤bE l:=by
 induction l with
 | nil=>simp
 | cons y l ih=>simp only [IK,bE]; have:=xM y; omega
end Go.Proofs.YtggpjcdhflcfmaaGreatDoor
namespace Go.Proofs.YtggpjcdhflcfmaaGreatDoor
open Go.Lx
open Classical
def oJ:T_Regex:=⟨1,aT.zero 4,[]⟩
def sX:T_Regex:=⟨2,aT.zero 4,[]⟩
mutual
def nb:T_Regex→Bool
 | ⟨k,_,l⟩=>bif k == 2 || k == 6 then true else bif k == 4 then Dz l else bif k == 5 then Dy l else false
def Dz:List T_Regex→Bool
 | []=>true
 | y::l=>nb y && Dz l
def Dy:List T_Regex→Bool
 | []=>false
 | y::l=>nb y || Dy l
end
def GL (r:T_Regex):List T_Regex:=(bif r.Kind == 5 then r.Kids else [r]).filter (·.Kind != 1)
noncomputable def GM (ks:List T_Regex) (k:T_Regex):List T_Regex:=if k∈ks then ks else ks++[k]
noncomputable def He (l:List T_Regex):List T_Regex:=(l.flatMap GL).foldl GM []
def wr (k:Int) (e:T_Regex):List T_Regex→T_Regex
 | []=>e
 | [y]=>y
 | y::z::l=>⟨k,aT.zero 4,y::z::l⟩
noncomputable def un (l:List T_Regex):T_Regex:=wr 5 oJ (He l)
def ne (l:List T_Regex):List T_Regex:=l.filter (·.Kind != 2)
def ct (l:List T_Regex):T_Regex:=match l.find? (·.Kind == 1) with
 | some e=>e
 | none=>wr 4 sX (ne l)
mutual
noncomputable def dr:T_Regex→Nat→T_Regex
 | ⟨k,s,l⟩,b=>bif k == 3 then (bif mem s b then sX else oJ) else bif k == 4 then un (GW l b) else bif k == 5 then un (Fx l b)
  else bif k == 6 then ct [(Fx l b).headD oJ,⟨k,s,l⟩] else oJ
noncomputable def GW:List T_Regex→Nat→List T_Regex
 | [],_=>[]
 | y::l,b=>ct (dr y b::l)::(bif nb y then GW l b else [])
noncomputable def Fx:List T_Regex→Nat→List T_Regex
 | [],_=>[]
 | y::l,b=>dr y b::Fx l b
end
inductive St (P:List Nat→Prop):List Nat→Prop where
  | nil:St P []
  | cons {u v:List Nat}:P u→St P v→St P (u++v)
mutual
def L:T_Regex→List Nat→Prop
 | ⟨k,s,l⟩=>fun w=>(k=2∧w=[])∨(k=3∧∃b,w=[b]∧mem s b=true)∨(k=4∧LC l w)∨(k=5∧LU l w)∨(k=6∧St (LH l) w)
def LC:List T_Regex→List Nat→Prop
 | []=>fun w=>w=[]
 | y::l=>fun w=>∃u v,w=u++v∧L y u∧LC l v
def LU:List T_Regex→List Nat→Prop
 | []=>fun _=>False
 | y::l=>fun w=>L y w∨LU l w
def LH:List T_Regex→List Nat→Prop
 | []=>fun _=>False
 | y::_=>fun w=>L y w
end
theorem GR {s l w}:L ⟨2,s,l⟩ w↔w=[]:=by simp [L]
theorem Fj {s l w}:L ⟨3,s,l⟩ w↔∃b,w=[b]∧mem s b=true:=by simp [L]
theorem GQ {s l w}:L ⟨4,s,l⟩ w↔LC l w:=by simp [L]
theorem GZ {s l w}:L ⟨5,s,l⟩ w↔LU l w:=by simp [L]
theorem Fi {s l w}:L ⟨6,s,l⟩ w↔St (LH l) w:=by simp [L]
theorem GS {k s l w} (h2:k≠2) (h3:k≠3) (h4:k≠4) (h5:k≠5) (h6:k≠6):¬ L ⟨k,s,l⟩ w:=by simp [L,h2,h3,h4,h5,h6]
theorem Dt {l:List T_Regex} {w:List Nat}:LU l w↔∃y∈l,L y w:=by
 induction l with
 | nil=>simp [LU]
 | cons y l ih=>simp [LU,ih]
theorem yX (l:List T_Regex):Dz l=l.all nb:=by
 induction l with
 | nil=>rfl
 | cons y l ih=>simp [Dz,ih]
theorem vD (l:List T_Regex):Dy l=l.any nb:=by
 induction l with
 | nil=>rfl
 | cons y l ih=>simp [Dy,ih]
theorem Du {l:List T_Regex}:LC l []↔∀y∈l,L y []:=by
 induction l with
 | nil=>simp [LC]
 | cons y l ih=>
  simp only [LC,List.nil_eq,List.append_eq_nil_iff,IN,forall_eq_or_imp];rw [←ih];exact ⟨fun ⟨u,v,⟨e1,e2⟩,h1,h2⟩=>by subst e1; subst e2; exact ⟨h1,h2⟩,fun ⟨h1,h2⟩=>⟨[],[],⟨rfl,rfl⟩,h1,h2⟩⟩
theorem gQ (k:Int):k=2∨k=3∨k=4∨k=5∨k=6∨(k≠2∧k≠3∧k≠4∧k≠5∧k≠6):=by omega
theorem CS:∀x,nb x=true↔L x []:=by
 refine T_Regex.ind fun k s l ih=>?_
 rcases gQ k with rfl|rfl|rfl|rfl|rfl|⟨c,d,b,a,h6⟩
 ·simp [nb,GR]
 ·simp [nb,Fj]
 ·rw [GQ,Du];show Dz l=true↔_;rw [yX,List.all_eq_true];exact ⟨fun h y hy=>(ih y hy).1 (h y hy),fun h y hy=>(ih y hy).2 (h y hy)⟩
 ·rw [GZ,Dt];show Dy l=true↔_;rw [vD,List.any_eq_true];exact ⟨fun ⟨y,hy,h⟩=>⟨y,hy,(ih y hy).1 h⟩,fun ⟨y,hy,h⟩=>⟨y,hy,(ih y hy).2 h⟩⟩
 ·rw [Fi];exact ⟨fun _=>.nil,fun _=>rfl⟩
 ·have:=@GS k s l [] c d b a h6;simp [nb,cv c,cv b,cv a,cv h6,this]
theorem kW {b:Nat} {w u v:List Nat}:b::w=u++v↔(u=[]∧v=b::w)∨∃u',u=b::u'∧w=u'++v:=by
 cases u with
 | nil=>simp [eq_comm]
 | cons c u=>
  simp only [IA,List.cons.injEq,reduceCtorEq,false_and,false_or];exact ⟨fun ⟨h1,h2⟩=>⟨u,⟨h1.symm,rfl⟩,h2⟩,fun ⟨u',⟨h1,h2⟩,h3⟩=>⟨h1.symm,h2 ▸ h3⟩⟩
theorem xl {P:List Nat→Prop} {b:Nat} {w:List Nat}:St P (b::w)↔∃u v,w=u++v∧P (b::u)∧St P v:=by
 constructor
 ·intro h;generalize hx:b::w=x at h;induction h with
  | nil=>cases hx
  | @cons u v hu hv ih=>
   rcases kW.1 hx with ⟨rfl,rfl⟩|⟨u',rfl,rfl⟩
   ·exact ih rfl
   ·exact ⟨u',v,rfl,hu,hv⟩
 ·rintro ⟨u,v,rfl,hu,hv⟩;exact .cons (u:=b::u) hu hv
noncomputable def Fw (x:T_Regex) (w:List Nat):T_Regex:=w.foldl dr x
end Go.Proofs.YtggpjcdhflcfmaaGreatDoor
