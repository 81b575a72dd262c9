/- Part 11. -/
import Derived.Test.YtlcdifnmkafcfaaGreatKLexrepairMergeSequence10
set_option linter.unusedVariables false
set_option linter.unusedSimpArgs false
set_option maxRecDepth 100000
namespace Go.Proofs.YtlcdifnmkafcfaaGreat
open Go.Lx Go.RowKit
theorem kV {y:(List aQ)} {r:Bool} (hM:M.f2 y=some r) {m:Hp} {o:World} (W:dp m o) {d:Value} (n:cI bF m d y) :
    bi Tryz.prog 14 #[d] o (fun v w'=>∃g',(cX aV false g' v r)∧dC m o g' w'):=by
 unfold M.f2 at hM;have c:=Sep.start W;refine aD Tryz.func14 Z Tryz.ntmps14 Z ?_;have k:=bT;refine SR<|Oa (Bo false) Z<|aa ?_;obtain ⟨G,I,A⟩:=cx hM;refine aA (fun E w=>∃D:Unit,G=.next D∧E.ds=[]∧Sp m o m w []) ?_ ?_
 ·have hM:=I;refine SR<|Oa (I6 0) Z<|aa<|al<|aP (fun (j:Int) E w=>E 0=d∧E 3=I6 j∧E.ds=[]∧Sp m o m w []) hM ⟨Z,Z,k,c⟩ ?_;clear c hM;rintro j o2 E w hM ⟨u,t,k,c⟩;obtain ⟨E,rfl⟩:=ce u t;refine av<|SR<|Om (I6 j) Z<|Om d Z ?_;obtain ⟨a6,d1,T⟩:=n.shape;refine O (aN (v:=d) DG Z T) Z<|O (bn Z Z) Z<|aa ?_;rcases an hM with ⟨s,hM⟩|⟨s,hM⟩
  ·refine aj Z s<|am<|av<|al ?_;obtain ⟨B,H,a5⟩:=ab hM;refine aA (fun E w=>E 0=d∧E 3=I6 j∧E 65=Bo B∧E.ds=[]∧Sp m o m w []) ?_ ?_
   ·have hM:=H;refine cK mo (by decide +kernel) ?_;have c:=c.drew;refine Sm d Z<|Sm (I6 j) Z ?_;obtain ⟨a,i,hM⟩:=ab hM;obtain ⟨d8,b5,d0,R,c3,⟨_,_,_,_,rfl,rfl,rfl,rfl,rfl⟩,a4⟩:=n.at i;refine S (ax DG db (v:=d) Z R Z (ad i).1 (ad i).2.1) Z<|S (ao DK aW Z Z (by decide) Z Z) Z<|S (aS (cs:=[I6 a.At]) aW Z Z (.inr Z) (cq (cs:=[I6 a.Kind,I6 a.At,ah a.Text,I6 a.Look]) (a4 _ c.imm) ([I6 a.Kind]) ([I6 a.At]) ([ah a.Text,I6 a.Look]) Z Z) (v:=I6 a.At) Z) Z<|S (bn Z Z) Z<|Sm (Bo (decide (a.At<0))) Z ?_;rcases an hM with ⟨h,hM⟩|⟨h,hM⟩
    ·refine SJ h Z<|SJ h Z<|SJ h Z<|SJ h Z<|SJ h Z<|SJ h Z<|S (ay (v:=Bo true) Z h Z) Z<|Sm (Bo true) Z<|Sk Z<|Sk Z<|Sk Z<|Sk Z<|Sk Z<|Sk Z<|S (ay (v:=Bo true) Z Z Z) Z<|Sm (Bo true) Z<|Sk Z<|Sk Z<|Sk Z<|Sk Z ?_;refine Sk Z<|Sk Z<|S (ay (v:=Bo true) Z Z Z) Z<|Sm (Bo true) Z<|Sk Z<|Sk Z<|Sk Z<|dO Z Z Z Z<|dO Z Z Z Z<|dO Z Z Z Z<|dO Z Z Z Z<|dO Z Z Z Z<|dO Z Z Z Z<|dO Z Z Z Z<|dO Z Z Z Z<|dO Z Z Z Z<|dO Z Z Z Z<|dO Z Z Z Z<|dO Z Z Z Z<|dO Z Z Z Z<|dO Z Z Z Z<|dO Z Z Z Z<|dO Z Z Z Z<|dO Z Z Z Z<|dO Z Z Z Z<|dO Z Z Z Z<|dO Z Z Z Z<|Sk Z ?_;refine S (ay (v:=Bo true) Z Z Z) Z<|bY ?_;obtain rfl:=si hM;exact ⟨Z,Z,Z,k,c⟩
    refine Jm h d Z<|Jm h (I6 j) Z ?_;obtain ⟨d7,b4,c9,Q,c2,⟨_,_,_,_,rfl,rfl,rfl,rfl,rfl⟩,a3⟩:=n.at i;refine SI h Z Z (ax DG db (v:=d) Z Q Z (ad i).1 (ad i).2.1) Z<|SI h Z Z (ao DK aW Z Z (by decide) Z Z) Z<|SI h Z Z (aS (cs:=[I6 a.At]) aW Z Z (.inr Z) (cq (cs:=[I6 a.Kind,I6 a.At,ah a.Text,I6 a.Look]) (a3 _ c.imm) ([I6 a.Kind]) ([I6 a.At]) ([ah a.Text,I6 a.Look]) Z Z) (v:=I6 a.At) Z) Z<|SI h Z Z (dz Z Z) Z<|S (aw (v:=Bo (decide (10000<a.At))) Z h Z) Z ?_;refine Sm (Bo (decide (10000<a.At))) Z ?_;rcases an hM with ⟨g,hM⟩|⟨g,hM⟩
    ·refine SJ g Z<|SJ g Z<|SJ g Z<|SJ g Z<|SJ g Z<|SJ g Z<|S (ay (v:=Bo true) Z g Z) Z<|Sm (Bo true) Z<|Sk Z<|Sk Z<|Sk Z<|Sk Z<|Sk Z<|Sk Z<|S (ay (v:=Bo true) Z Z Z) Z<|Sm (Bo true) Z<|Sk Z<|Sk Z<|Sk Z<|dO Z Z Z Z ?_;refine dO Z Z Z Z<|dO Z Z Z Z<|dO Z Z Z Z<|dO Z Z Z Z<|dO Z Z Z Z<|dO Z Z Z Z<|dO Z Z Z Z<|dO Z Z Z Z<|dO Z Z Z Z<|dO Z Z Z Z<|dO Z Z Z Z<|dO Z Z Z Z<|dO Z Z Z Z<|dO Z Z Z Z<|dO Z Z Z Z<|dO Z Z Z Z<|dO Z Z Z Z<|dO Z Z Z Z<|dO Z Z Z Z<|Sk Z<|S (ay (v:=Bo true) Z Z Z) Z<|bY ?_;obtain rfl:=si hM;exact ⟨Z,Z,Z,k,c⟩
    refine Jm g d Z<|Jm g (I6 j) Z ?_;obtain ⟨d6,b3,c8,P,c1,⟨_,_,_,_,rfl,rfl,rfl,rfl,rfl⟩,a2⟩:=n.at i;refine SI g Z Z (ax DG db (v:=d) Z P Z (ad i).1 (ad i).2.1) Z<|SI g Z Z (ao DK aW Z Z (by decide) Z Z) Z<|SI g Z Z (aS (cs:=[I6 a.Look]) aW Z Z (.inr Z) (cq (cs:=[I6 a.Kind,I6 a.At,ah a.Text,I6 a.Look]) (a2 _ c.imm) ([I6 a.Kind,I6 a.At,ah a.Text]) ([I6 a.Look]) ([]) Z Z) (v:=I6 a.Look) Z) Z<|SI g Z Z (bn Z Z) Z<|S (aw (v:=Bo (decide (a.Look<0))) Z g Z) Z ?_;refine Sm (Bo (decide (a.Look<0))) Z ?_;rcases an hM with ⟨f,hM⟩|⟨f,hM⟩
    ·refine SJ f Z<|SJ f Z<|SJ f Z<|SJ f Z<|SJ f Z<|SJ f Z<|S (ay (v:=Bo true) Z f Z) Z<|Sm (Bo true) Z<|Sk Z<|Sk Z<|Sk Z<|dO Z Z Z Z<|dO Z Z Z Z<|dO Z Z Z Z<|dO Z Z Z Z<|dO Z Z Z Z<|dO Z Z Z Z<|dO Z Z Z Z<|dO Z Z Z Z<|dO Z Z Z Z<|dO Z Z Z Z<|dO Z Z Z Z<|dO Z Z Z Z ?_;refine dO Z Z Z Z<|dO Z Z Z Z<|dO Z Z Z Z<|dO Z Z Z Z<|dO Z Z Z Z<|dO Z Z Z Z<|dO Z Z Z Z<|dO Z Z Z Z<|Sk Z<|S (ay (v:=Bo true) Z Z Z) Z<|bY ?_;obtain rfl:=si hM;exact ⟨Z,Z,Z,k,c⟩
    refine Jm f d Z<|Jm f (I6 j) Z ?_;obtain ⟨d5,b2,c7,N,c0,⟨_,_,_,_,rfl,rfl,rfl,rfl,rfl⟩,a1⟩:=n.at i;refine SI f Z Z (ax DG db (v:=d) Z N Z (ad i).1 (ad i).2.1) Z<|SI f Z Z (ao DK aW Z Z (by decide) Z Z) Z<|SI f Z Z (aS (cs:=[I6 a.Look]) aW Z Z (.inr Z) (cq (cs:=[I6 a.Kind,I6 a.At,ah a.Text,I6 a.Look]) (a1 _ c.imm) ([I6 a.Kind,I6 a.At,ah a.Text]) ([I6 a.Look]) ([]) Z Z) (v:=I6 a.Look) Z) Z<|SI f Z Z (dz Z Z) Z<|S (aw (v:=Bo (decide (10000<a.Look))) Z f Z) Z ?_;refine Sm (Bo (decide (10000<a.Look))) Z ?_;rcases an hM with ⟨l,hM⟩|⟨l,hM⟩
    ·refine SJ l Z<|SJ l Z<|SJ l Z<|dO Z Z Z Z<|dO Z Z Z Z<|dO Z Z Z Z<|dO Z Z Z Z<|dO Z Z Z Z<|dO Z Z Z Z<|dO Z Z Z Z<|dO Z Z Z Z<|dO Z Z Z Z<|dO Z Z Z Z<|dO Z Z Z Z<|dO Z Z Z Z<|dO Z Z Z Z<|dO Z Z Z Z<|dO Z Z Z Z<|dO Z Z Z Z<|dO Z Z Z Z<|dO Z Z Z Z<|dO Z Z Z Z<|dO Z Z Z Z<|SJ l Z<|S (ay (v:=Bo true) Z l Z) Z<|bY ?_;obtain rfl:=si hM;exact ⟨Z,Z,Z,k,c⟩
    refine Jm l (I6 j) Z<|SI l Z Z (dz Z Z) Z<|Jm l (Bo (decide (0<j))) Z ?_;rcases an hM with ⟨b,hM⟩|⟨b,hM⟩
    ·refine Jm b d Z<|Jm b (I6 j) Z ?_;obtain ⟨d4,b1,c6,L,b9,⟨_,_,_,_,rfl,rfl,rfl,rfl,rfl⟩,a0⟩:=n.at i;refine SI b Z Z (ax DG db (v:=d) Z L Z (ad i).1 (ad i).2.1) Z<|SI b Z Z (ao DK aW Z Z (by decide) Z Z) Z<|SI b Z Z (aS (cs:=[I6 a.At]) aW Z Z (.inr Z) (cq (cs:=[I6 a.Kind,I6 a.At,ah a.Text,I6 a.Look]) (a0 _ c.imm) ([I6 a.Kind]) ([I6 a.At]) ([ah a.Text,I6 a.Look]) Z Z) (v:=I6 a.At) Z) Z<|Jm b d Z<|Jm b (I6 j) Z ?_;obtain ⟨a8,z,hM⟩:=ab hM;refine SI b Z Z (dQ Z Z z) Z ?_;obtain ⟨e,p,hM⟩:=ab hM;obtain ⟨d3,b0,c5,K,b8,⟨_,_,_,_,rfl,rfl,rfl,rfl,rfl⟩,Y⟩:=n.at p;refine SI b Z Z (ax DG db (v:=d) Z K Z (ad p).1 (ad p).2.1) Z<|SI b Z Z (ao DK aW Z Z (by decide) Z Z) Z<|SI b Z Z (aS (cs:=[I6 e.At]) aW Z Z (.inr Z) (cq (cs:=[I6 e.Kind,I6 e.At,ah e.Text,I6 e.Look]) (Y _ c.imm) ([I6 e.Kind]) ([I6 e.At]) ([ah e.Text,I6 e.Look]) Z Z) (v:=I6 e.At) Z) Z<|Jm b d Z<|Jm b (I6 j) Z ?_;refine SI b Z Z (dQ Z Z z) Z ?_;obtain ⟨d2,a9,c4,J,b7,⟨_,_,_,_,rfl,rfl,rfl,rfl,rfl⟩,X⟩:=n.at p;refine SI b Z Z (ax DG db (v:=d) Z J Z (ad p).1 (ad p).2.1) Z<|SI b Z Z (ao DK cT Z Z (by decide) Z Z) Z<|SI b Z Z (aS (cs:=[ah e.Text]) cT Z Z (.inr Z) (cq (cs:=[I6 e.Kind,I6 e.At,ah e.Text,I6 e.Look]) (X _ c.imm) ([I6 e.Kind,I6 e.At]) ([ah e.Text]) ([I6 e.Look]) Z Z) (v:=ah e.Text) Z) Z<|SI b Z Z (bR DC Z) Z ?_;obtain ⟨x,V,hM⟩:=ab hM;refine SI b Z Z (aK Z Z V) Z<|SI b Z Z (dm Z Z) Z<|SI l Z Z (ay (v:=Bo (a.At != x)) Z b Z) Z<|S (aw (v:=Bo (a.At != x)) Z l Z) Z<|bY ?_;obtain rfl:=si hM;exact ⟨Z,Z,Z,k,c⟩
    refine SJ b Z<|SJ b Z<|SJ b Z<|SJ b Z<|SJ b Z<|SJ b Z<|SJ b Z<|SJ b Z<|SJ b Z<|SJ b Z<|SJ b Z<|SJ b Z<|SJ b Z<|SJ b Z<|SJ b Z<|SJ b Z<|SJ b Z ?_;refine SJ b Z<|SJ b Z<|SJ b Z<|SI l Z Z (aw (v:=Bo false) Z b Z) Z<|S (aw (v:=Bo false) Z l Z) Z<|bY ?_;obtain rfl:=si hM;exact ⟨Z,Z,Z,k,c⟩
   clear c;rintro E w ⟨u,t,a7,k,c⟩;have hM:=a5;obtain ⟨E,rfl⟩:=cb u t a7;rcases an hM with ⟨q,hM⟩|⟨q,hM⟩
   ·refine aj Z q<|SR<|Oa (Bo false) Z<|aa<|aF ?_;obtain rfl:=si hM;rintro rfl;have hM:=A;obtain rfl:=si hM;refine aG k ?_;exact ⟨_,bq Tryz.results14 (aJ (v:=Bo false) Z),m,⟨[Bo false],Z,Z⟩,c.ext⟩
   refine ag Z q<|am<|ai<|Om (I6 j) Z ?_;obtain ⟨F,U,hM⟩:=ab hM;refine O (aK Z Z U) Z<|Oa (I6 F) Z<|aa ?_;obtain rfl:=si hM;exact ⟨Z,Z,k,c⟩
  refine ag Z s<|aM ?_;obtain rfl:=si hM;rintro rfl;exact ⟨(),Z,k,c⟩
 clear c;rintro E w ⟨_,rfl,k,c⟩;have hM:=A
 dsimp only [bV] at hM
 refine SR<|Oa (Bo true) Z<|aa<|aF ?_;obtain rfl:=si hM;refine aG k ?_;exact ⟨_,bq Tryz.results14 (aJ (v:=Bo true) Z),m,⟨[Bo true],Z,Z⟩,c.ext⟩
theorem oO {m:(List aQ)} {r:Str} (hM:M.k6 m=some r) {c:Hp} {f:World} (z:dp c f) {d:Value} (n:cI bF c d m) :
    bi Tryz.prog 15 #[d] f (fun v w'=>∃g',(cX cM false g' v r)∧dC c f g' w'):=by
 unfold M.k6 at hM;have a:=Sep.start z;refine aD Tryz.func15 Z Tryz.ntmps15 Z ?_;have e:=bT;refine SR<|Oa (ah []) Z<|NR<|Oa (ah []) Z<|aa ?_;obtain ⟨g,s,B⟩:=ab hM;refine aA (fun E w=>E 3=ah g∧E.ds=[]∧Sp c f c w []) ?_ ?_
 ·have hM:=s;refine SR<|Oa (I6 0) Z<|aa<|al<|aP (fun (p:Str×Int) E w=>match p with|(i,h)=>E 0=d∧E 3=ah i∧E 4=I6 h∧E.ds=[]∧Sp c f c w []) hM ⟨Z,Z,Z,e,a⟩ ?_;clear a hM;rintro ⟨i,h⟩ H E w hM ⟨F,l,D,e,a⟩;obtain ⟨E,rfl⟩:=cb F l D;refine av<|SR<|Om (I6 h) Z<|Om d Z ?_;obtain ⟨N,K,u⟩:=n.shape;refine O (aN (v:=d) DG Z u) Z<|O (bn Z Z) Z<|aa ?_;rcases an hM with ⟨k,hM⟩|⟨k,hM⟩
  ·refine aj Z k<|am<|av<|al<|ai<|Om (ah i) Z<|Om d Z<|Om (I6 h) Z ?_;obtain ⟨b,j,hM⟩:=ab hM;obtain ⟨L,G,J,t,I,⟨_,_,_,_,rfl,rfl,rfl,rfl,rfl⟩,A⟩:=n.at j;refine O (ax DG db (v:=d) Z t Z (ad j).1 (ad j).2.1) Z<|Of DK cT Z<|Oc (ah b.Text) cT (cq (cs:=[I6 b.Kind,I6 b.At,ah b.Text,I6 b.Look]) (A _ a.imm) ([I6 b.Kind,I6 b.At]) ([ah b.Text]) ([I6 b.Look]) Z Z) Z Z ?_;obtain ⟨q,y,hM⟩:=ab hM;refine O (lX Z Z y) Z<|Oa (ah q) Z<|aa<|ai<|Om (I6 h) Z ?_;obtain ⟨o,x,hM⟩:=ab hM;refine O (aK Z Z x) Z<|Oa (I6 o) Z<|aa ?_;obtain rfl:=si hM;exact ⟨Z,Z,Z,e,a⟩
  refine ag Z k<|aM ?_;obtain rfl:=si hM;rintro rfl;exact ⟨Z,e,a⟩
 clear a;rintro E w ⟨l,e,a⟩;have hM:=B;obtain ⟨E,rfl⟩:=cH l;refine SR<|Om (ah g) Z<|Oa (ah g) Z<|aa<|aF ?_;obtain rfl:=si hM;refine aG e ?_;exact ⟨_,bq Tryz.results15 (aJ (v:=ah g) Z),c,⟨[ah g],Z,Z⟩,a.ext⟩
end Go.Proofs.YtlcdifnmkafcfaaGreat
set_option linter.unusedVariables false
set_option linter.unusedSimpArgs false
namespace Go.Proofs.YtlcdifnmkafcfaaGreat
open Go.Lx Go.RowKit
theorem eR {b:T_LexSpec} {x:(List aQ)} {r:Bool} (hM:M.b1 b x=some r) {p:Hp} {t:World} (hi:dp p t) {a6:List Value} (d3:cL.rel p a6 b) {g:Value} (f:cI bF p g x) :
    bi Tryz.prog 4 #[Value.agg a6.toArray,g] t (fun v w'=>∃g',(cX aV false g' v r)∧dC p t g' w'):=by
 unfold M.b1 at hM;obtain ⟨h2,_,_,_,rfl,⟨h,rfl,o⟩,rfl,rfl,rfl⟩:=d3;have a:=Sep.start hi;refine aD Tryz.func4 Z Tryz.ntmps4 Z ?_;have k:=bT;refine SR<|Ob [h,Bo b.Layout,I6 b.Misspelling,I6 b.Unclosed] a Z Z ?_;intro b1 f6 a;refine Oa (Bo false) Z<|aa<|av ?_;obtain ⟨a8,b6,d6⟩:=ab hM;refine aA (fun E w=>∃u,E 1=g∧E 2=P0 b1∧E 23=Bo a8∧E.ds=[]∧aY p u∧Sp p t u w [bx b1 24 ([h,Bo b.Layout,I6 b.Misspelling,I6 b.Unclosed])]) ?_ ?_
 ·have hM:=b6;have l:=aY.refl p;refine ai<|On [h,Bo b.Layout,I6 b.Misspelling,I6 b.Unclosed] ki Z a 0 Z Z Z ?_;obtain ⟨b3,c3,hM⟩:=ab hM;refine C [Ag [h,Bo b.Layout,I6 b.Misspelling,I6 b.Unclosed]] Dw Z (om c3 a.imm (⟨[h],[Bo b.Layout],[I6 b.Misspelling],[I6 b.Unclosed],Z,⟨_,Z,o⟩,Z,Z,Z⟩)) Z ?_;rintro v6 f1 ⟨a5,⟨_,rfl,rfl⟩,a0⟩;have S:=a0.le a.imm;replace a:=a.call a0;replace f:=f.mono S;replace l:=l.trans S;refine O (cY Z) Z<|Om (Bo (!b3)) Z ?_;rcases an hM with ⟨n,hM⟩|⟨n,hM⟩
  ·refine OJ n Z<|OJ n Z<|OJ n Z<|O (ay (v:=Bo true) Z n Z) Z<|Om (Bo true) Z<|Ok Z<|Ok Z<|Ok Z<|O (ay (v:=Bo true) Z Z Z) Z<|Om (Bo true) Z<|Ok Z<|Ok Z<|Ok Z<|Ok Z<|O (ay (v:=Bo true) Z Z Z) Z<|aa ?_;obtain rfl:=si hM;exact ⟨a5,Z,Z,Z,k,l,a⟩
  refine Im n g Z ?_;obtain ⟨a2,h3,b8⟩:=f.shape;refine OI n Z (aN (v:=g) DG Z b8)<|OI n Z (dz Z Z)<|O (aw (v:=Bo (decide (12<(x.length:Int)))) Z n Z) Z<|Om (Bo (decide (12<(x.length:Int)))) Z ?_;rcases an hM with ⟨m,hM⟩|⟨m,hM⟩
  ·refine OJ m Z<|OJ m Z<|OJ m Z<|O (ay (v:=Bo true) Z m Z) Z<|Om (Bo true) Z<|Ok Z<|Ok Z<|Ok Z<|Ok Z<|O (ay (v:=Bo true) Z Z Z) Z<|aa ?_;obtain rfl:=si hM;exact ⟨a5,Z,Z,Z,k,l,a⟩
  refine Im m g Z ?_;obtain ⟨P,c2,hM⟩:=ab hM;refine CI m Z Z [g] Dh Z (kV c2 a.imm f) Z ?_;rintro v7 f0 ⟨e3,⟨_,rfl,rfl⟩,Y⟩;have R:=Y.le a.imm;replace a:=a.call Y;replace f:=f.mono R;replace l:=l.trans R;refine OI m Z (cY Z)<|O (aw (v:=Bo (!P)) Z m Z) Z<|Om (Bo (!P)) Z ?_;rcases an hM with ⟨j,hM⟩|⟨j,hM⟩
  ·refine OJ j Z<|OJ j Z<|OJ j Z<|OJ j Z<|O (ay (v:=Bo true) Z j Z) Z<|aa ?_;obtain rfl:=si hM;exact ⟨e3,Z,Z,Z,k,l,a⟩
  refine Im j g Z ?_;obtain ⟨b2,c1,hM⟩:=ab hM;refine CI j Z Z [g] Dg Z (oO c1 a.imm f) Z ?_;rintro v8 e9 ⟨e2,⟨_,rfl,rfl⟩,X⟩;have c8:=X.le a.imm;replace a:=a.call X;replace l:=l.trans c8;refine OI j Z (bR DC Z)<|OI j Z (dz Z Z)<|O (aw (v:=Bo (decide (20<(b2.length:Int)))) Z j Z) Z<|aa ?_;obtain rfl:=si hM;exact ⟨e2,Z,Z,Z,k,l,a⟩
 clear a;rintro E w ⟨u,e0,d9,d8,k,T,a⟩;have hM:=d6;obtain ⟨E,rfl⟩:=cb e0 d9 d8;replace f:=f.mono T;replace o:=o.mono T;rcases an hM with ⟨K,hM⟩|⟨K,hM⟩
 ·refine aj Z K<|SR ?_;obtain ⟨B,c0,hM⟩:=ab hM;refine C [] Dt Z (jl c0 a.imm) Z ?_;rintro v9 e8 ⟨e1,⟨_,rfl,rfl⟩,d1⟩;replace a:=a.call d1;refine Oa (Bo B) Z<|aa<|aF ?_;obtain rfl:=si hM;refine aG k ?_;exact ⟨_,bq Tryz.results4 (aJ (v:=Bo B) Z),e1,⟨[Bo B],Z,Z⟩,a.ext⟩
 refine ag Z K<|am ?_;obtain ⟨D,b5,d5⟩:=ab hM;refine aA (fun E w=>∃y,E 4=Bo D∧E.ds=[]∧aY u y∧Sp p t y w []) ?_ ?_
 ·have hM:=b5;have d:=aY.refl u;refine WA a (.s 0 (.q 1 (.q 2 (.q 3 (.q 5 (.q 6 (.s 4 (.s 7 (.s 8 (.q 9 (.q 10 (.leaf)))))))))))) mo (by decide +kernel) ?_;have a:=a.drew;have c:=a.ss;refine A1 Z ?_;obtain ⟨b4,c7,hM⟩:=ab hM;refine C [] Dt Z (jl c7 a.imm) Z ?_;rintro g2 f5 ⟨e5,⟨_,rfl,rfl⟩,a4⟩;have I:=a4.le a.imm;replace a:=a.call a4;replace f:=f.mono I;replace o:=o.mono I;replace d:=d.trans I;refine aa ?_;replace c:=c.to d a;refine ⟨fun _=>c,?_⟩;refine Am (Bo b4) c Z ?_;rcases an hM with ⟨e,hM⟩|⟨e,hM⟩
  ·refine AG Z Z Z Z (by rw [e]; rfl) c (fun z ⟨N,J,a⟩=>cm (cs:=[h,Bo b.Layout,I6 b.Misspelling,I6 b.Unclosed]) ki Z Z (a.cells (i:=0) Z)) Z<|AG Z Z Z Z (by rw [e]; rfl) c (fun z ⟨N,J,a⟩=>cU (v:=g) Z) Z<|AG Z Z Z Z (by rw [e]; rfl) c (fun z ⟨N,J,a⟩=>cm (cs:=[h,Bo b.Layout,I6 b.Misspelling,I6 b.Unclosed]) ki Z Z (a.cells (i:=0) Z)) Z<|AG Z Z Z Z (by rw [e]; rfl) c (fun z ⟨N,J,a⟩=>cU (v:=g) Z) Z<|A1 Z ?_;obtain ⟨g4,c6,hM⟩:=ab hM;refine CI e Z Z [Ag [h,Bo b.Layout,I6 b.Misspelling,I6 b.Unclosed],g] BE Z (fO c6 a.imm (⟨[h],[Bo b.Layout],[I6 b.Misspelling],[I6 b.Unclosed],Z,⟨_,Z,o⟩,Z,Z,Z⟩) f) Z ?_;rintro b0 f4 ⟨h1,e7,G,a3⟩;have H:=a3.ext.le a.imm;replace a:=a.callOwn a3;simp only [List.cons_append,List.nil_append] at a;replace f:=f.mono H;replace o:=o.mono H;replace d:=d.trans H;refine aa ?_;replace c:=c.to d (a.kp 2 rfl);refine ⟨fun _=>c,?_⟩;refine A1 Z ?_;obtain ⟨g3,c5,hM⟩:=ab hM;refine CI e Z Z [Ag [h,Bo b.Layout,I6 b.Misspelling,I6 b.Unclosed],g] Di Z (nB c5 a.imm (⟨[h],[Bo b.Layout],[I6 b.Misspelling],[I6 b.Unclosed],Z,⟨_,Z,o⟩,Z,Z,Z⟩) f) Z ?_;rintro a9 f3 ⟨h0,e6,F,a1⟩;have W:=a1.ext.le a.imm;replace a:=a.callOwn a1;simp only [List.cons_append,List.nil_append] at a;replace G:=G.mono W;replace d:=d.trans W;refine aa ?_;replace c:=c.to d (a.kp 4 rfl);refine ⟨fun _=>c,?_⟩;refine A1 Z ?_;have b9:=a;have hagg4L2:=d;obtain ⟨g8,V,L,a⟩:=a.relRow (i:=1) rfl G;replace F:=F.mono V;replace d:=d.trans V;obtain ⟨g7,U,d4,a⟩:=a.relRow (i:=0) rfl F;replace L:=L.mono U;replace d:=d.trans U;obtain ⟨Q,c4,hM⟩:=ab hM;refine CI e Z Z [b0,a9] Dj Z (oP c4 a.imm L d4) Z ?_;rintro g1 f2 ⟨g6,b7,d2⟩;obtain ⟨e4,c9,a⟩:=b9.lent d2;replace d:=hagg4L2.trans c9;obtain ⟨_,rfl,rfl⟩:=b7;refine aa ?_;replace c:=c.to d (a.kp 4 rfl);refine ⟨fun _=>c,?_⟩;refine A Z c (fun _ _=>ay (v:=Bo Q) Z e Z) Z<|Aa (Bo Q) c Z<|AN ?_;obtain rfl:=si hM;exact ⟨e4,Z,k,d,(a.kp 0 Z)⟩
  refine AK Z Z Z Z (by rw [e]; rfl) c Z<|AK Z Z Z Z (by rw [e]; rfl) c Z<|AK Z Z Z Z (by rw [e]; rfl) c Z<|AK Z Z Z Z (by rw [e]; rfl) c Z<|A1 Z<|OJ e Z<|aa ⟨fun _=>c,?_⟩;refine A1 Z<|OJ e Z<|aa ⟨fun _=>c,?_⟩;refine A1 Z<|OJ e Z<|aa ⟨fun _=>c,?_⟩;refine A Z c (fun _ _=>aw (v:=Bo false) Z e Z) Z<|Aa (Bo false) c Z<|AN ?_;obtain rfl:=si hM;exact ⟨e5,Z,k,d,(a.kp 0 Z)⟩
 clear a;rintro E w ⟨y,d7,k,g5,a⟩;have hM:=d5;obtain ⟨E,rfl⟩:=cH d7;refine aF ?_;obtain rfl:=si hM;refine aG k ?_;exact ⟨_,bq Tryz.results4 (aJ (v:=Bo D) Z),y,⟨[Bo D],Z,Z⟩,a.ext⟩
end Go.Proofs.YtlcdifnmkafcfaaGreat
namespace Go.Lx
theorem gj {σ ρ:Type} {body:σ→Option (cD σ ρ)} (S:Nat→σ) (n:Nat) {r:ρ} (h:∀i,i<n→body (S i)=some (.next (S (i+1)))) (hn:body (S n)=some (.stop r)) :
    ∀k,n<k→aT body k (S 0)=some r:=by
  have ib:∀m i k,i+m=n→m<k→aT body k (S i)=some r:=by
    intro m
    induction m with
    | zero=>
      intro i k hi hk
      match k,hk with
      | k+1,_=>
        have:i=n:=by omega
        subst this
        simp only [aT,hn]
    | succ m ih=>
      intro i k hi hk
      match k,hk with
      | k+1,hk=>
        simp only [aT,h i (by omega)]
        exact ih (i+1) k (by omega) (by omega)
  intro k hk
  exact ib n 0 k (by omega) hk
theorem ma {σ ρ:Type} {body:σ→Option (cD σ ρ)} (I:σ→Prop) (μ:σ→Nat) (Post:ρ→Prop)
    (h:∀s,I s→(∃s',body s=some (.next s')∧I s'∧μ s'<μ s)∨(∃r,body s=some (.stop r)∧Post r)) :
    ∀k s,I s→μ s<k→∃r,aT body k s=some r∧Post r:=by
  intro k
  induction k with
  | zero=>intro s _ hk; omega
  | succ k ih=>
    intro s hI hk
    rcases h s hI with ⟨s',hb,hI',hlt⟩|⟨r,hb,hp⟩
    · obtain ⟨r,hr,hp⟩:=ih s' hI' (by omega)
      exact ⟨r,by simp only [aT,hb]; exact hr,hp⟩
    · exact ⟨r,by simp only [aT,hb],hp⟩
theorem aL {α β:Type} {o:Option α} {x:α} {k:α→Option β} {r:Option β} (h:o=some x) (hk:k x=r):o.bind k=r:=by rw [h]; exact hk
theorem cR {σ ρ:Type} {o:Option (cD σ ρ)} {x:σ} {k:σ→Option ρ} {r:Option ρ} (h:o=some (.next x)) (hk:k x=r):bg o k=r:=by rw [h]; exact hk
theorem dT {σ ρ:Type} {o:Option (cD σ ρ)} {x:ρ} {k:σ→Option ρ} (h:o=some (.stop x)):bg o k=some x:=by rw [h]; rfl
theorem jI {n:Nat} (h:n≤4611686018427387903):n<aR:=by unfold aR; omega
theorem ej {n:Int} (h0:-9223372036854775808≤n) (h1:n≤9223372036854775807):IntKind.i64.wrap n=n:=by rw [IntKind.wrap_i64]; omega
theorem kK {n:Int} (h0:0≤n) (h1:n≤255):IntKind.u8.wrap n=n:=by simp [IntKind.wrap,IntKind.bits,IntKind.signed]; omega
theorem gR {n:Int} (h0:0≤n) (h1:n<18446744073709551616):IntKind.u64.wrap n=n:=by simp [IntKind.wrap,IntKind.bits,IntKind.signed]; omega
theorem cJ {n:Int} (h0:-9223372036854775808≤n) (h1:n≤9223372036854775807):bU .i64 n=some n:=by unfold bU; rw [if_pos (ej h0 h1)]
theorem gq {a b:Nat} (ha:a<18446744073709551616) (hb:b<18446744073709551616):bits .or .u64 (a:Int) (b:Int)=((a ||| b:Nat):Int):=by
  simp only [bits]
  have h:a ||| b<18446744073709551616:=Nat.or_lt_two_pow (n:=64) ha hb
  have e:((BitVec.ofInt 64 (a:Int) ||| BitVec.ofInt 64 (b:Int)).toNat)=a ||| b:=by
    rw [BitVec.toNat_or,BitVec.toNat_ofInt,BitVec.toNat_ofInt]
    have d:((a:Int) % (2 ^ 64:Nat)).toNat=a:=by omega
    have c:((b:Int) % (2 ^ 64:Nat)).toNat=b:=by omega
    rw [d,c]
  show IntKind.u64.wrap _=_
  rw [show (BitVec.ofInt (IntKind.u64.bits) (a:Int) ||| BitVec.ofInt (IntKind.u64.bits) (b:Int)).toNat=a ||| b from e]
  exact gR (by omega) (by omega)
theorem lv {a b:Nat} (ha:a<18446744073709551616) (hb:b<18446744073709551616):bits .and .u64 (a:Int) (b:Int)=((a &&& b:Nat):Int):=by
  simp only [bits]
  have h:a &&& b<18446744073709551616:=Nat.lt_of_le_of_lt Nat.and_le_left ha
  have e:((BitVec.ofInt 64 (a:Int) &&& BitVec.ofInt 64 (b:Int)).toNat)=a &&& b:=by
    rw [BitVec.toNat_and,BitVec.toNat_ofInt,BitVec.toNat_ofInt]
    have d:((a:Int) % (2 ^ 64:Nat)).toNat=a:=by omega
    have c:((b:Int) % (2 ^ 64:Nat)).toNat=b:=by omega
    rw [d,c]
  show IntKind.u64.wrap _=_
  rw [show (BitVec.ofInt (IntKind.u64.bits) (a:Int) &&& BitVec.ofInt (IntKind.u64.bits) (b:Int)).toNat=a &&& b from e]
  exact gR (by omega) (by omega)
theorem qw {a b:Nat} (ha:a<18446744073709551616) (hb:b<18446744073709551616):bits .xor .u64 (a:Int) (b:Int)=((a ^^^ b:Nat):Int):=by
  simp only [bits]
  have h:a ^^^ b<18446744073709551616:=Nat.xor_lt_two_pow (n:=64) ha hb
  have e:((BitVec.ofInt 64 (a:Int) ^^^ BitVec.ofInt 64 (b:Int)).toNat)=a ^^^ b:=by
    rw [BitVec.toNat_xor,BitVec.toNat_ofInt,BitVec.toNat_ofInt]
    have d:((a:Int) % (2 ^ 64:Nat)).toNat=a:=by omega
    have c:((b:Int) % (2 ^ 64:Nat)).toNat=b:=by omega
    rw [d,c]
  show IntKind.u64.wrap _=_
  rw [show (BitVec.ofInt (IntKind.u64.bits) (a:Int) ^^^ BitVec.ofInt (IntKind.u64.bits) (b:Int)).toNat=a ^^^ b from e]
  exact gR (by omega) (by omega)
theorem vp {a:Nat} (ha:a<18446744073709551616):kD .u64 (a:Int)=((18446744073709551615 ^^^ a:Nat):Int):=
  qw (a:=18446744073709551615) (b:=a) (by omega) ha
theorem np {t:Nat} (h:t<64):sx .u64 1 (t:Int)=some ((2 ^ t:Nat):Int):=by
  unfold sx
  rw [if_pos (by omega)]
  have e:min ((t:Int).toNat) IntKind.u64.bits=t:=by show min ((t:Int).toNat) 64=t; omega
  rw [e]
  have b:2 ^ t<18446744073709551616:=by
    have:2 ^ t<2 ^ 64:=Nat.pow_lt_pow_right (by omega) h
    omega
  have a:(2:Int) ^ t=((2 ^ t:Nat):Int):=by rw [Int.natCast_pow]; rfl
  have ib:∀p:Nat,p<18446744073709551616→IntKind.u64.wrap (p:Int)=(p:Int):=fun p hp=>gR (by omega) (by omega)
  rw [Int.one_mul,a,ib _ b]
theorem tM {a t:Nat} (h:t<64):sw .u64 (a:Int) (t:Int)=some ((a >>> t:Nat):Int):=by
  unfold sw
  rw [if_pos (by omega)]
  have e:min ((t:Int).toNat) IntKind.u64.bits=t:=by show min ((t:Int).toNat) 64=t; omega
  rw [e,Nat.shiftRight_eq_div_pow]
  simp
theorem tU {k:IntKind} {a b:Nat} (hb:b≠0) (hw:k.wrap ((a / b:Nat):Int)=((a / b:Nat):Int)):mN k (a:Int) (b:Int)=some ((a / b:Nat):Int):=by
  unfold mN
  have e:(a:Int).tdiv (b:Int)=((a / b:Nat):Int):=by rw [Int.tdiv_eq_ediv_of_nonneg (by omega)]; rfl
  rw [e,if_pos ⟨by omega,hw⟩]
theorem jz {a b:Nat} (hb:b≠0):jP (a:Int) (b:Int)=some ((a % b:Nat):Int):=by
  unfold jP
  rw [if_pos (by omega),Int.tmod_eq_emod_of_nonneg (by omega)]
  rfl
theorem dB {s:Str} {i:Nat} (h:i<s.length):fa s (i:Int)=some ((s[i]).toNat:Int):=by
  unfold fa
  rw [if_pos (by omega)]
  simp [h]
theorem ba {α:Type} {l:List α} {i:Nat} (h:i<l.length):bo l (i:Int)=some l[i]:=by
  unfold bo
  rw [if_pos (by omega)]
  simp [h]
theorem dK {α:Type} {l:List α} {i:Nat} {x:α} (h:i<l.length):cZ l (i:Int) x=some (l.set i x):=by
  unfold cZ
  rw [if_pos ⟨by omega,by simpa using h⟩]
  simp
theorem cV {α:Type} {B:Nat} {l m:List α} (h:(l.length+m.length)*B≤140737488355328):cO B l m=some (l++m):=by unfold cO; rw [if_pos h]
theorem eO {α:Type} {B n:Nat} {z:α} (h:n*B≤140737488355328):nY B (n:Int) z=some (List.replicate n z):=by
  unfold nY
  rw [if_pos ⟨by omega,by rw [←Int.natCast_mul]; omega⟩,Int.toNat_natCast]
end Go.Lx
namespace Go.Lx
theorem uZ {σ ρ:Type} {body:σ→Option (cD σ ρ)} (J:Nat→σ→Prop) (n:Nat) (Post:ρ→Prop)
    (step:∀i s,i<n→J i s→(∃s',body s=some (.next s')∧J (i+1) s')∨(∃r,body s=some (.stop r)∧Post r))
    (last:∀s,J n s→∃r,body s=some (.stop r)∧Post r) (hn:n≤9223372036854775807) {a:σ} (b:J 0 a):∃r,aT body aR a=some r∧Post r:=by
  have ib:∀m i s k,i+m=n→m<k→J i s→∃r,aT body k s=some r∧Post r:=by
    intro m
    induction m with
    | zero=>
      intro i s k hi hk hJ
      match k,hk with
      | k+1,_=>
        have:i=n:=by omega
        subst this
        obtain ⟨r,hb,hp⟩:=last s hJ
        exact ⟨r,by simp only [aT,hb],hp⟩
    | succ m ih=>
      intro i s k hi hk hJ
      match k,hk with
      | k+1,hk=>
        rcases step i s (by omega) hJ with ⟨s',hb,hJ'⟩|⟨r,hb,hp⟩
        · obtain ⟨r,hr,hp⟩:=ih (i+1) s' k (by omega) (by omega) hJ'
          exact ⟨r,by simp only [aT,hb]; exact hr,hp⟩
        · exact ⟨r,by simp only [aT,hb],hp⟩
  exact ib n 0 a aR (by omega) (by unfold aR; omega) b
theorem tg {σ ρ:Type} {body:σ→Option (cD σ ρ)} (I:σ→Prop) (μ:σ→Nat) (Post:ρ→Prop)
    (h:∀s,I s→(∃s',body s=some (.next s')∧I s'∧μ s'<μ s)∨(∃r,body s=some (.stop r)∧Post r))
    {s0:σ} (h0:I s0) (hm:μ s0≤9223372036854775807):∃r,aT body aR s0=some r∧Post r:=
  ma I μ Post h aR s0 h0 (by unfold aR; omega)
theorem bc {i:Nat} (h:i<9223372036854775807):bU .i64 ((i:Int)+1)=some ((i+1:Nat):Int):=by rw [cJ (by omega) (by omega)]; rfl
theorem dH {p:Prop} [Decidable p] (h:p):decide p=true:=decide_eq_true h
theorem dI {p:Prop} [Decidable p] (h:¬ p):decide p=false:=decide_eq_false h
theorem bM {a b:Int} (h:a≠b):(a == b)=false:=by simpa using h
theorem kb {a b:Int} (h:a=b):(a == b)=true:=by simpa using h
theorem ij {a b:Int} (h:a≠b):(a != b)=true:=by simpa using h
theorem mx {a b:Int} (h:a=b):(a != b)=false:=by simpa using h
theorem eM {a b:Int} (h:(a != b)=false):a=b:=by simpa using h
theorem fN {a b:Int} (h:(a != b)=true):a≠b:=by simpa using h
theorem eN {a b:Int} (h:(a == b)=false):a≠b:=by simpa using h
theorem cS {a b:Int} (h:(a == b)=true):a=b:=by simpa using h
theorem qG {n:Nat} (h:n<256):IntKind.u8.wrap (n:Int)=n:=kK (by omega) (by omega)
theorem wu {α:Type} {l:List α} {i:Int} {d:α} (h0:0≤i) (h:i<l.length):bo l i=some (l.getD i.toNat d):=by
  obtain ⟨n,rfl⟩:=Int.eq_ofNat_of_zero_le h0
  have hn:n<l.length:=by omega
  show bo l (n:Int)=_
  rw [ba hn]
  simp [List.getD_eq_getElem?_getD,hn]
theorem kQ {α:Type} {l:List α} {i:Int} {x:α} (h0:0≤i) (h:i<l.length):cZ l i x=some (l.set i.toNat x):=by
  obtain ⟨n,rfl⟩:=Int.eq_ofNat_of_zero_le h0
  exact dK (by simpa using h)
def Is {α:Type} (o:Option α) (P:α→Prop):Prop:=∃r,o=some r∧P r
def SP {σ ρ:Type} (P:σ→Prop) (Q:ρ→Prop):cD σ ρ→Prop
  | .next s=>P s
  | .stop r=>Q r
section
variable {α β σ ρ:Type} {P:α→Prop} {Q:β→Prop}
theorem Is.pure {x:α} (h:P x):Is (some x) P:=⟨x,rfl,h⟩
theorem Is.mono {o:Option α} {P':α→Prop} (h:Is o P) (k:∀x,P x→P' x):Is o P':=h.elim fun r hr=>⟨r,hr.1,k r hr.2⟩
theorem Is.eq {o:Option α} {x:α} (h:Is o (·=x)):o=some x:=by obtain ⟨r,h1,rfl⟩:=h; exact h1
theorem Is.of {o:Option α} {x:α} (h:o=some x) (k:P x):Is o P:=⟨x,h,k⟩
theorem Is.bnd {o:Option α} {f:α→Option β} (h:Is o P) (k:∀x,P x→Is (f x) Q):Is (o.bind f) Q:=by
  obtain ⟨r,rfl,hp⟩:=h
  exact k r hp
theorem Is.bnq {o:Option α} {f:α→Option β} {x:α} (h:o=some x) (k:Is (f x) Q):Is (o.bind f) Q:=by subst h; exact k
theorem Is.bs {P:σ→Prop} {Q:ρ→Prop} {o:Option (cD σ ρ)} {f:σ→Option ρ} (h:Is o (SP P Q)) (k:∀x,P x→Is (f x) Q):Is (bg o f) Q:=by
  obtain ⟨r,rfl,hp⟩:=h
  cases r with
  | next s=>exact k s hp
  | stop r=>exact ⟨r,rfl,hp⟩
theorem Is.cnd {b:Bool} {x y:Option β} (ht:b=true→Is x Q) (hf:b=false→Is y Q):Is (bif b then x else y) Q:=by
  cases b
  · exact hf rfl
  · exact ht rfl
theorem Is.ct {b:Bool} {x y:Option β} (h:b=true) (k:Is x Q):Is (bif b then x else y) Q:=by subst h; exact k
theorem Is.cf {b:Bool} {x y:Option β} (h:b=false) (k:Is y Q):Is (bif b then x else y) Q:=by subst h; exact k
theorem Is.dcd {p:Prop} [Decidable p] {x y:Option β} (ht:p→Is x Q) (hf:¬ p→Is y Q):Is (bif decide p then x else y) Q:=
  Is.cnd (fun h=>ht (of_decide_eq_true h)) (fun h=>hf (of_decide_eq_false h))
theorem Is.dt {p:Prop} [Decidable p] {x y:Option β} (h:p) (k:Is x Q):Is (bif decide p then x else y) Q:=Is.ct (decide_eq_true h) k
theorem Is.df {p:Prop} [Decidable p] {x y:Option β} (h:¬ p) (k:Is y Q):Is (bif decide p then x else y) Q:=Is.cf (decide_eq_false h) k
theorem Is.upto {body:σ→Option (cD σ ρ)} {Q:ρ→Prop} (J:Nat→σ→Prop) (n:Nat) (hn:n≤9223372036854775807) {a:σ} (b:J 0 a)
    (step:∀i s,i<n→J i s→Is (body s) (SP (J (i+1)) Q)) (last:∀s,J n s→Is (body s) (SP (fun _=>False) Q)):Is (aT body aR a) Q:=
  uZ J n Q (fun i s hi hJ=>by
    obtain ⟨r,hb,hp⟩:=step i s hi hJ
    cases r with
    | next s'=>exact .inl ⟨s',hb,hp⟩
    | stop r=>exact .inr ⟨r,hb,hp⟩) (fun s hJ=>by
    obtain ⟨r,hb,hp⟩:=last s hJ
    cases r with
    | next s'=>exact hp.elim
    | stop r=>exact ⟨r,hb,hp⟩) hn b
theorem Is.while {body:σ→Option (cD σ ρ)} {Q:ρ→Prop} (I:σ→Prop) (μ:σ→Nat) {s0:σ} (h0:I s0) (hm:μ s0≤9223372036854775807)
    (step:∀s,I s→Is (body s) (SP (fun s'=>I s'∧μ s'<μ s) Q)):Is (aT body aR s0) Q:=
  tg I μ Q (fun s hI=>by
    obtain ⟨r,hb,hp⟩:=step s hI
    cases r with
    | next s'=>exact .inl ⟨s',hb,hp⟩
    | stop r=>exact .inr ⟨r,hb,hp⟩) h0 hm
theorem Is.next {Q:ρ→Prop} {P:σ→Prop} {s:σ} (h:P s):Is (some (cD.next s:cD σ ρ)) (SP P Q):=⟨_,rfl,h⟩
theorem Is.stop {Q:ρ→Prop} {P:σ→Prop} {r:ρ} (h:Q r):Is (some (cD.stop r:cD σ ρ)) (SP P Q):=⟨_,rfl,h⟩
end
section
variable {K V:Type} [BEq K] [LawfulBEq K]
end
end Go.Lx
namespace Go.Proofs.YtlcdifnmkafcfaaGreat
open Go.Lx
def W4 (v:az 4):Prop:=∀x∈v.1,0≤x∧x<18446744073709551616
def wd (v:az 4) (i:Nat):Nat:=(v.1.getD i 0).toNat
def fF (v:az 4) (b:Nat):Bool:=(wd v (b / 64)).testBit (b % 64)
theorem fY {v:az 4} (h:W4 v) (i:Nat):wd v i<18446744073709551616:=by
  unfold wd
  by_cases hi:i<v.1.length
  · have:=h v.1[i] (List.getElem_mem hi)
    simp [List.getD_eq_getElem?_getD,hi]; omega
  · simp [List.getD_eq_getElem?_getD,List.getElem?_eq_none (by omega:v.1.length≤i)]
theorem fZ {v:az 4} (h:W4 v) {i:Nat} (hi:i<4):fU v (i:Int)=some (wd v i:Int):=by
  have hl:i<v.1.length:=by rw [v.2]; exact hi
  have:=h v.1[i] (List.getElem_mem hl)
  unfold fU wd
  rw [if_pos (by omega)]
  simp [List.getD_eq_getElem?_getD,hl]
  omega
def pQ (v:az 4) (i x:Nat):az 4:=⟨v.1.set i (x:Int),by simp [v.2]⟩
theorem iR {v:az 4} {i x:Nat} (hi:i<4):my v (i:Int) (x:Int)=some (pQ v i x):=by
  unfold my pQ
  rw [if_pos ⟨by omega,by simpa using hi⟩]
  simp
theorem tB {v:az 4} {i x j:Nat} (hi:i<4):wd (pQ v i x) j=if i=j then x else wd v j:=by
  unfold wd pQ
  have hl:i<v.1.length:=by rw [v.2]; exact hi
  simp only [List.getD_eq_getElem?_getD,List.getElem?_set]
  split
  · rename_i h; subst h; simp [hl]
  · rfl
theorem uB {v:az 4} (h:W4 v) {i x:Nat} (hx:x<18446744073709551616):W4 (pQ v i x):=by
  intro y hy
  rcases List.mem_or_eq_of_mem_set hy with hy|rfl
  · exact h y hy
  · omega
theorem xD {v u:az 4} (hv:W4 v) (hu:W4 u) (h:∀i,i<4→wd v i=wd u i):v=u:=by
  apply Subtype.ext
  apply List.ext_getElem (by rw [v.2,u.2])
  intro i h1 h2
  have hi:i<4:=by rw [v.2] at h1; exact h1
  have:=h i hi
  have a:=hv v.1[i] (List.getElem_mem h1)
  have b:=hu u.1[i] (List.getElem_mem h2)
  simp [wd,List.getD_eq_getElem?_getD,h1,h2] at this
  omega
theorem xN {v u:az 4} (hv:W4 v) (hu:W4 u) (h:∀b,b<256→fF v b=fF u b):v=u:=by
  refine xD hv hu fun i hi=>Nat.eq_of_testBit_eq fun j=>?_
  by_cases hj:j<64
  · have:=h (64*i+j) (by omega)
    unfold fF at this
    rw [show (64*i+j) / 64=i by omega,show (64*i+j) % 64=j by omega] at this
    exact this
  · have e:∀x,x<18446744073709551616→x.testBit j=false:=fun x hx=>Nat.testBit_lt_two_pow (Nat.lt_of_lt_of_le (by omega:x<2 ^ 64) (Nat.pow_le_pow_right (by omega) (by omega)))
    rw [e _ (fY hv i),e _ (fY hu i)]
theorem eP:W4 (az.zero 4):=by
  intro x hx
  simp [az.zero] at hx
  omega
theorem wj (b:Nat):fF (az.zero 4) b=false:=by
  unfold fF wd az.zero
  simp only [List.getD_eq_getElem?_getD,List.getElem?_replicate]
  split <;> simp
def eo (v:az 4) (b:Nat):az 4:=pQ v (b / 64) (wd v (b / 64) ||| 2 ^ (b % 64))
theorem sg {v:az 4} (h:W4 v) (b:Nat):W4 (eo v b):=by
  refine uB h (Nat.or_lt_two_pow (n:=64) (fY h _) ?_)
  exact Nat.pow_lt_pow_right (by omega) (Nat.mod_lt _ (by omega))
theorem uX {v:az 4} {b c:Nat} (hb:b<256):fF (eo v b) c=(fF v c || c == b):=by
  unfold fF eo
  rw [tB (by omega)]
  split
  · rename_i h
    rw [Nat.testBit_or,Nat.testBit_two_pow,h]
    congr 1
    rw [Bool.eq_iff_iff]
    simp
    omega
  · rename_i h
    have:(c == b)=false:=by
      rw [beq_eq_false_iff_ne]; rintro rfl; exact h rfl
    rw [this,Bool.or_false]
theorem jg {k:IntKind} {c:Nat} (hk:k.wrap ((c / 64:Nat):Int)=((c / 64:Nat):Int)):mN k (c:Int) 64=some ((c / 64:Nat):Int):=tU (b:=64) (by omega) hk
theorem wv {v:az 4} (hv:W4 v) {c:Nat} (hc:c<256):M.i5 v (c:Int)=some (fF v c):=by
  have j:=jg (k:=.u8) (c:=c) (kK (by omega) (by omega))
  have g:=fZ hv (i:=c / 64) (by omega)
  have f:jP (c:Int) 64=some ((c % 64:Nat):Int):=jz (b:=64) (by omega)
  have e:=tM (a:=wd v (c / 64)) (t:=c % 64) (by omega)
  have hlt:wd v (c / 64) >>> (c % 64)<18446744073709551616:=Nat.lt_of_le_of_lt (Nat.shiftRight_le _ _) (fY hv _)
  have d:=lv (b:=1) hlt (by omega)
  unfold M.i5 fF
  simp only [j,g,f,e,Option.bind_some]
  rw [show (1:Int)=((1:Nat):Int) from rfl,d]
  congr 1
  rw [Nat.testBit,Nat.and_comm 1,Nat.and_one_is_mod]
  rcases Nat.mod_two_eq_zero_or_one (wd v (c / 64) >>> (c % 64)) with h|h <;> rw [h] <;> rfl
theorem ql {v:az 4} (hv:W4 v) {c:Nat} (hc:c<256):M.g5 v (c:Int)=some (fF v c):=wv hv hc
def ri (l:List Nat):az 4:=l.foldl eo (az.zero 4)
theorem rE (l:List Nat):∀v,W4 v→W4 (l.foldl eo v):=by
  induction l with
  | nil=>exact fun v h=>h
  | cons b l ih=>exact fun v h=>ih _ (sg h b)
theorem pB (l:List Nat):∀v,(∀b∈l,b<256)→∀c,fF (l.foldl eo v) c=(fF v c || l.contains c):=by
  induction l with
  | nil=>intro v _ c; simp
  | cons b l ih=>
    intro v h c
    rw [List.foldl_cons,ih _ (fun x hx=>h x (by simp [hx])),uX (h b (by simp)),List.contains_cons,Bool.or_assoc]
theorem mq (l:List Nat):W4 (ri l):=rE l _ eP
theorem yg {l:List Nat} (h:∀b∈l,b<256) (c:Nat):fF (ri l) c=l.contains c:=by
  unfold ri; rw [pB l _ h,wj,Bool.false_or]
theorem uz {body:az 4×Int→Option (cD (az 4×Int) (az 4))} (f:Nat→Nat) (a n:Nat) (ha:a+n≤4611686018427387903)
    (h:∀i v,i<n→W4 v→body (v,((a+i:Nat):Int))=some (.next (eo v (f i),((a+(i+1):Nat):Int)))) (hn:∀v,body (v,((a+n:Nat):Int))=some (.stop v)) :
    aT body aR (az.zero 4,(a:Int))=some (ri ((List.range n).map f)):=by
  have hS:∀i,i≤n→W4 (ri ((List.range i).map f)):=fun i _=>mq _
  have:=gj (body:=body) (fun i=>(ri ((List.range i).map f),((a+i:Nat):Int))) n (r:=ri ((List.range n).map f))
    (fun i hi=>by
      have:=h i (ri ((List.range i).map f)) hi (mq _)
      rw [this]
      congr 3
      simp [ri,List.range_succ])
    (hn _) aR (jI (by omega))
  simpa [ri] using this
def bW (s:Str):List Nat:=s.map UInt8.toNat
theorem rT (s:Str):(List.range s.length).map (fun i=>((s[i]?).getD 0).toNat)=bW s:=by
  apply List.ext_getElem
  · simp [bW]
  · intro i h1 h2
    have:i<s.length:=by simpa using h1
    simp [bW,this]
theorem AA (u:UInt8):u.toNat<256:=u.toNat_lt
theorem BO {s:Str} (hf:s.length≤4611686018427387903):M.h4 s=some (ri (bW s)):=by
  unfold M.h4
  refine aL (uz (fun i=>((s[i]?).getD 0).toNat) 0 s.length (by omega) (fun i v hi hv=>?_) (fun v=>?_)) (by rw [rT])
  · simp only [Nat.zero_add]
    have hb:=AA s[i]
    have m:=dB hi
    have l:=jg (k:=.u8) (c:=s[i].toNat) (kK (by omega) (by omega))
    have j:=fZ hv (i:=s[i].toNat / 64) (by omega)
    have h:jP (s[i].toNat:Int) 64=some ((s[i].toNat % 64:Nat):Int):=jz (b:=64) (by omega)
    have g:=np (t:=s[i].toNat % 64) (by omega)
    have a:2 ^ (s[i].toNat % 64)<18446744073709551616:=Nat.pow_lt_pow_right (n:=64) (by omega) (Nat.mod_lt _ (by omega))
    have f:=gq (fY hv (s[i].toNat / 64)) a
    have e:=iR (v:=v) (i:=s[i].toNat / 64) (x:=wd v (s[i].toNat / 64) ||| 2 ^ (s[i].toNat % 64)) (by omega)
    have d:bU .i64 ((i:Int)+1)=some ((i+1:Nat):Int):=by rw [cJ (by omega) (by omega)]; rfl
    have hd:decide ((i:Int)<(s.length:Int))=true:=by simp; omega
    simp only [hd,cond_true,m,l,j,h,g,f,e,d,Option.bind_some,eo,hi,List.getElem?_eq_getElem,Option.getD_some]
  · simp only [Nat.zero_add]
    have hd:decide ((s.length:Int)<(s.length:Int))=false:=by simp
    simp only [hd,cond_false]
def fq (lo hi:Nat):List Nat:=(List.range (hi+1 - lo)).map (lo+·)
theorem oE {lo hi:Nat} (hlo:lo<256) (hhi:hi<256):M.e9 lo hi=some (ri (fq lo hi)):=by
  unfold M.e9
  rw [ej (n:=(lo:Int)) (by omega) (by omega)]
  refine aL (uz (fun i=>lo+i) lo (hi+1 - lo) (by omega) (fun i v m hv=>?_) (fun v=>?_)) rfl
  · have hb:lo+i<256:=by omega
    have l:=jg (k:=.i64) (c:=lo+i) (ej (by omega) (by omega))
    have j:=fZ hv (i:=(lo+i) / 64) (by omega)
    have h:jP ((lo+i:Nat):Int) 64=some (((lo+i) % 64:Nat):Int):=jz (b:=64) (by omega)
    have g:=np (t:=(lo+i) % 64) (by omega)
    have a:2 ^ ((lo+i) % 64)<18446744073709551616:=Nat.pow_lt_pow_right (n:=64) (by omega) (Nat.mod_lt _ (by omega))
    have f:=gq (fY hv ((lo+i) / 64)) a
    have e:=iR (v:=v) (i:=(lo+i) / 64) (x:=wd v ((lo+i) / 64) ||| 2 ^ ((lo+i) % 64)) (by omega)
    have d:bU .i64 (((lo+i:Nat):Int)+1)=some ((lo+(i+1):Nat):Int):=by rw [cJ (by omega) (by omega)]; rfl
    rw [ej (n:=(hi:Int)) (by omega) (by omega)]
    simp only [dH (show ((lo+i:Nat):Int)≤(hi:Int) by omega),cond_true,l,j,h,g,f,e,d,Option.bind_some,eo]
  · rw [ej (n:=(hi:Int)) (by omega) (by omega)]
    simp only [dI (show ¬ ((lo+(hi+1 - lo):Nat):Int)≤(hi:Int) by omega),cond_false]
theorem zd {v:az 4} (h:∀x∈v.1,uE .u64 x):W4 v:=fun x hx=>by
  obtain ⟨a,b⟩:=h x hx
  have a:0≤x:=a
  have b:x≤18446744073709551615:=b
  omega
def mz (f:Nat→Nat) (a:az 4) (i:Nat):az 4:=(List.range i).foldl (fun v j=>pQ v j (f j)) a
theorem lD (f:Nat→Nat) (a:az 4) (i:Nat):mz f a (i+1)=pQ (mz f a i) i (f i):=by simp [mz,List.range_succ]
theorem tA {f:Nat→Nat} {a:az 4} {i j:Nat} (hi:i≤4):wd (mz f a i) j=if j<i then f j else wd a j:=by
  induction i with
  | zero=>simp [mz]
  | succ i ih=>
    rw [lD,tB (by omega),ih (by omega)]
    by_cases h:i=j
    · subst h; rw [if_pos rfl,if_pos (by omega)]
    · rw [if_neg h]
      by_cases b:j<i
      · rw [if_pos b,if_pos (by omega)]
      · rw [if_neg b,if_neg (by omega)]
theorem qz {f:Nat→Nat} {a:az 4} (h:W4 a) (hf:∀j,f j<18446744073709551616) (i:Nat):W4 (mz f a i):=by
  induction i with
  | zero=>simpa [mz] using h
  | succ i ih=>rw [lD]; exact uB ih (hf i)
theorem wk {f:Nat→Nat} {a:az 4} {b:Nat} (hb:b<256):fF (mz f a 4) b=(f (b / 64)).testBit (b % 64):=by
  unfold fF; rw [tA (by omega),if_pos (by omega)]
theorem qK {ρ:Type} {body:az 4×Int→Option (cD (az 4×Int) ρ)} {f:Nat→Nat} {a:az 4} {r:ρ} (ha:W4 a) (hf:∀j,f j<18446744073709551616)
    (h:∀i v,i<4→W4 v→wd v i=wd a i→body (v,(i:Int))=some (.next (pQ v i (f i),((i+1:Nat):Int)))) (hn:body (mz f a 4,4)=some (.stop r)) :
    aT body aR (a,0)=some r:=by
  refine gj (body:=body) (fun i=>(mz f a i,(i:Int))) 4 (fun i hi=>?_) hn aR (jI (by omega))
  rw [lD]
  refine h i _ hi (qz ha hf i) ?_
  rw [tA (by omega),if_neg (by omega)]
def kf (a b:az 4):az 4:=mz (fun j=>wd a j ||| wd b j) a 4
def kg (a:az 4):az 4:=mz (fun j=>18446744073709551615 ^^^ wd a j) a 4
theorem zg {a b:az 4} (ha:W4 a) (hb:W4 b) (j:Nat):wd a j ||| wd b j<18446744073709551616:=Nat.or_lt_two_pow (n:=64) (fY ha j) (fY hb j)
theorem wb {a:az 4} (ha:W4 a) (j:Nat):18446744073709551615 ^^^ wd a j<18446744073709551616:=Nat.xor_lt_two_pow (n:=64) (by omega) (fY ha j)
theorem xd {a b:az 4} (ha:W4 a) (hb:W4 b):W4 (kf a b):=qz ha (zg ha hb) 4
theorem sh {a:az 4} (ha:W4 a):W4 (kg a):=qz ha (wb ha) 4
theorem uY {a b:az 4} {c:Nat} (hc:c<256):fF (kf a b) c=(fF a c || fF b c):=by
  unfold kf; rw [wk hc,Nat.testBit_or]; rfl
theorem xe {a b:az 4} (ha:W4 a) (hb:W4 b):M.g7 a b=some (kf a b):=by
  unfold M.g7
  refine aL (qK (r:=kf a b) ha (zg ha hb) (fun i v hi hv e=>?_) ?_) rfl
  · have c:=fZ hv hi
    have g:=fZ hb hi
    rw [e] at c
    have f:=gq (fY ha i) (fY hb i)
    have d:=iR (v:=v) (x:=wd a i ||| wd b i) hi
    simp only [dH (show (i:Int)<4 by omega),cond_true,c,g,f,d,bc (show i<_ by omega),Option.bind_some]
  · rfl
theorem gP {a:az 4} (ha:W4 a):M.c1 a=some (kg a):=by
  unfold M.c1
  refine aL (qK (r:=kg a) ha (wb ha) (fun i v hi hv e=>?_) ?_) rfl
  · have b:=fZ hv hi
    rw [e] at b
    have d:=vp (fY ha i)
    have c:=iR (v:=v) (x:=18446744073709551615 ^^^ wd a i) hi
    simp only [dH (show (i:Int)<4 by omega),cond_true,b,d,c,bc (show i<_ by omega),Option.bind_some]
  · rfl
end Go.Proofs.YtlcdifnmkafcfaaGreat
set_option linter.unusedVariables false
namespace Go.Proofs.YtlcdifnmkafcfaaGreat
open Go.Lx
def D (σ:Nat→List Bool):Nat→List (List Bool)|0=>[]|i+1=>bif (D σ i).contains (σ i) then D σ i else D σ i++[σ i]
theorem wn {σ:Nat→List Bool} {i:Nat} {s:List Bool}:s∈D σ i↔∃a,a<i∧σ a=s:=by
  induction i with
  | zero=>simp [D]
  | succ i ih=>
    have ib:(∃a,a<i+1∧σ a=s)↔(s∈D σ i∨s=σ i):=by
      rw [ih]
      constructor
      · rintro ⟨a,c,b⟩
        by_cases h:a=i
        · subst h; exact .inr b.symm
        · exact .inl ⟨a,by omega,b⟩
      · rintro (⟨a,c,b⟩|h)
        · exact ⟨a,by omega,b⟩
        · exact ⟨i,by omega,h.symm⟩
    rw [ib,D]
    cases hc:(D σ i).contains (σ i)
    · simp
    · simp only [cond_true]
      have:σ i∈D σ i:=by simpa using hc
      constructor
      · exact .inl
      · rintro (h|rfl)
        · exact h
        · exact this
theorem xu {σ:Nat→List Bool} {i j:Nat} (h:i≤j):∃r,D σ j=D σ i++r:=by
  obtain ⟨k,rfl⟩:=Nat.le.dest h
  clear h
  induction k with
  | zero=>exact ⟨[],by simp⟩
  | succ k ih=>
    obtain ⟨r,hr⟩:=ih
    rw [←Nat.add_assoc,D]
    cases (D σ (i+k)).contains (σ (i+k))
    · exact ⟨r++[σ (i+k)],by simp [hr]⟩
    · exact ⟨r,by simpa using hr⟩
theorem xw {σ:Nat→List Bool} (i:Nat):(D σ i).length≤i:=by
  induction i with
  | zero=>simp [D]
  | succ i ih=>
    rw [D]
    cases (D σ i).contains (σ i)
    · simp; omega
    · simp only [cond_true]; omega
def cls (σ:Nat→List Bool) (i:Nat):Nat:=(D σ 256).idxOf (σ i)
theorem wL {σ:Nat→List Bool} {i j:Nat} (hj:j≤256) (hi:i<j):cls σ i=(D σ j).idxOf (σ i):=by
  obtain ⟨r,hr⟩:=xu (σ:=σ) hj
  unfold cls
  rw [hr,List.idxOf_append,if_pos (wn.2 ⟨i,hi,rfl⟩)]
theorem ut {σ:Nat→List Bool} {i:Nat} (hi:i<256) (h:σ i∈D σ i):cls σ i=(D σ i).idxOf (σ i)∧cls σ i<(D σ i).length:=by
  have e:D σ (i+1)=D σ i:=by rw [D]; simp [h]
  have:=wL (σ:=σ) (i:=i) (j:=i+1) (by omega) (by omega)
  rw [e] at this
  rw [this]
  exact ⟨rfl,List.idxOf_lt_length_of_mem h⟩
theorem qp {σ:Nat→List Bool} {i:Nat} (hi:i<256) (h:σ i∉D σ i):cls σ i=(D σ i).length∧D σ (i+1)=D σ i++[σ i]:=by
  have e:D σ (i+1)=D σ i++[σ i]:=by rw [D]; simp [h]
  have:=wL (σ:=σ) (i:=i) (j:=i+1) (by omega) (by omega)
  rw [e,List.idxOf_append,if_neg h] at this
  rw [this]
  refine ⟨by simp,e⟩
theorem xv {σ:Nat→List Bool} {i:Nat} (h:σ i∈D σ i):D σ (i+1)=D σ i:=by rw [D]; simp [h]
def lE (f:Nat→Int) (n i:Nat):List Int:=(List.range i).map f++List.replicate (n - i) 0
theorem tH {f:Nat→Int} {n i:Nat} (h:i≤n):(lE f n i).length=n:=by simp [lE]; omega
theorem tI {f:Nat→Int} {n i k:Nat} (hk:k<i) (h:k<(lE f n i).length):(lE f n i)[k]=f k:=by
  simp [lE,hk]
theorem tG {f:Nat→Int} {n i:Nat} (hi:i<n) (x:Int) (hx:f i=x):(lE f n i).set i x=lE f n (i+1):=by
  unfold lE
  rw [List.set_append,if_neg (by simp),List.range_succ,List.map_append,List.append_assoc]
  congr 1
  simp only [List.length_map,List.length_range,Nat.sub_self]
  obtain ⟨k,hk⟩:∃k,n - i=k+1:=⟨n - i - 1,by omega⟩
  rw [hk,List.replicate_succ,List.set_cons_zero,show n - (i+1)=k by omega,←hx]
  rfl
theorem xH {f:Nat→Int} {n:Nat}:lE f n n=(List.range n).map f:=by simp [lE]
def Dx (b:Bool):Int:=bif b then 1 else 0
def ib (s:List Bool):Str:=kO (s.map Dx)
def enc:List (List Bool)→Nat→List (Str×Int)|[],_=>[]|s::L,k=>(ib s,(k:Int))::enc L (k+1)
def eD (l:List (az 4)) (i:Nat):List Bool:=l.map (fun v=>fF v i)
def qq (l:List (az 4)):List Int:=(List.range 256).map fun i=>(cls (eD l) i:Int)
theorem jM {i:Nat} (h:i<9223372036854775807):bU .i64 ((i:Int)+1)=some ((i+1:Nat):Int):=by rw [cJ (by omega) (by omega)]; rfl
theorem pc {l:List (az 4)} (hl:∀v∈l,W4 v) (hn:l.length≤1000000) {a b:Nat} (ha:a<256) (hb:b<256):M.d4 l (a:Int) (b:Int)=some (eD l a == eD l b):=by
  unfold M.d4
  have ib:=ma (body:=(fun (c:Int)=>
   bif (decide (c<(l.length:Int))) then
    (bo l c).bind fun e=>
    (M.g5 e (a:Int)).bind fun j=>
    (M.g5 e (b:Int)).bind fun g=>
    bif (!(j == g)) then
     some (.stop (.stop false))
    else
     (bU .i64 (c+1)).bind fun f=>
     some (.next f)
   else
    some (.stop (.next ())):Int→Option (cD Int (cD Unit Bool))))
    (fun s=>∃i:Nat,s=(i:Int)∧i≤l.length∧∀(k:Nat) (h:k<l.length),k<i→fF l[k] a=fF l[k] b) (fun s=>l.length - s.toNat)
    (fun r=>(r=.next ()∧eD l a=eD l b)∨(r=.stop false∧eD l a≠eD l b)) ?_ aR 0 ⟨0,rfl,by omega,fun k _ h=>by omega⟩ (jI (by omega))
  · obtain ⟨r,hr,h|h⟩:=ib
    · rw [hr,h.1,h.2]; simp [bg]
    · rw [hr,h.1]
      have:(eD l a == eD l b)=false:=by rw [beq_eq_false_iff_ne]; exact h.2
      rw [this]; rfl
  · rintro s ⟨i,rfl,hi,hP⟩
    by_cases hlt:i<l.length
    · have o:=ql (hl l[i] (List.getElem_mem hlt)) ha
      have n:=ql (hl l[i] (List.getElem_mem hlt)) hb
      simp only [dH (show (i:Int)<(l.length:Int) by omega),cond_true,ba hlt,Option.bind_some,o,n]
      by_cases hm:fF l[i] a=fF l[i] b
      · refine .inl ⟨((i+1:Nat):Int),?_,⟨i+1,rfl,by omega,fun k d m=>?_⟩,by omega⟩
        · rw [hm]; simp only [beq_self_eq_true,Bool.not_true,cond_false,jM (show i<_ by omega),Option.bind_some]
        · by_cases hk:k=i
          · subst hk; exact hm
          · exact hP k d (by omega)
      · refine .inr ⟨_,?_,.inr ⟨rfl,fun h=>hm ?_⟩⟩
        · rw [show (fF l[i] a == fF l[i] b)=false by rw [beq_eq_false_iff_ne]; exact hm]; rfl
        · have:=congrArg (fun z=>z[i]?) h
          simpa [eD,hlt] using this
    · refine .inr ⟨_,by simp only [dI (show ¬ (i:Int)<(l.length:Int) by omega),cond_false],.inl ⟨rfl,?_⟩⟩
      unfold eD
      apply List.ext_getElem (by simp)
      intro k d m
      have:k<l.length:=by simpa using d
      simpa using hP k this (by omega)
theorem oM {l:List (az 4)} (hl:∀v∈l,W4 v) (hn:l.length≤1000000):M.g6 l=some (qq l):=by
  unfold M.g6
  refine aL (eO (n:=256) (by omega)) ?_
  let f:Nat→Int:=fun i=>(cls (eD l) i:Int)
  refine aL (gj (fun i=>(lE f 256 i,((D (eD l) i).length:Int),(i:Int))) 256 (r:=qq l) (fun b hb=>?_) ?_ aR (jI (by omega))) rfl
  · have hlen:(lE f 256 b).length=256:=tH (by omega)
    have t:cZ (lE f 256 b) (b:Int) ((D (eD l) b).length:Int)=some ((lE f 256 b).set b ((D (eD l) b).length:Int)):=dK (by omega)
    have hD:=xw (σ:=eD l) b
    have hX:((lE f 256 b).set b ((D (eD l) b).length:Int)).length=256:=by rw [List.length_set,hlen]
    have hinner:=ma (body:=(fun (c:Int)=>
       bif (decide (c<(b:Int))) then
        (M.d4 l (IntKind.u8.wrap c) (IntKind.u8.wrap (b:Int))).bind fun j=>
        bif j then
         (bo ((lE f 256 b).set b ((D (eD l) b).length:Int)) c).bind fun p=>
         (cZ ((lE f 256 b).set b ((D (eD l) b).length:Int)) (b:Int) p).bind fun m=>
         some (.stop m)
        else
         (bU .i64 (c+1)).bind fun g=>
         some (.next g)
       else
        some (.stop ((lE f 256 b).set b ((D (eD l) b).length:Int))):Int→Option (cD Int (List Int))))
      (fun s=>∃a:Nat,s=(a:Int)∧a≤b∧∀k,k<a→eD l k≠eD l b) (fun s=>b - s.toNat) (fun r=>r=lE f 256 (b+1)) ?_ aR 0 ⟨0,rfl,by omega,fun k h=>by omega⟩ (jI (by omega))
    · obtain ⟨r,hr,rfl⟩:=hinner
      have u:(lE f 256 (b+1)).length=256:=tH (by omega)
      have d:bo (lE f 256 (b+1)) (b:Int)=some (f b):=by rw [ba (by omega),tI (by omega)]
      simp only [dH (show (b:Int)<256 by omega),cond_true,t,Option.bind_some]
      refine aL (x:=(lE f 256 (b+1),((D (eD l) (b+1)).length:Int))) (aL hr ?_) ?_
      · simp only [d,Option.bind_some]
        by_cases hm:eD l b∈D (eD l) b
        · obtain ⟨c1,c2⟩:=ut hb hm
          rw [show (f b == ((D (eD l) b).length:Int))=false by rw [beq_eq_false_iff_ne]; simp only [f]; omega,xv hm]
          rfl
        · obtain ⟨c1,c2⟩:=qp hb hm
          rw [show (f b == ((D (eD l) b).length:Int))=true by rw [beq_iff_eq]; simp only [f]; omega,c2]
          simp only [cond_true,jM (show (D (eD l) b).length<_ by omega),Option.bind_some,List.length_append,List.length_singleton]
      · simp only [jM (show b<_ by omega),Option.bind_some]
    · rintro s ⟨a,rfl,ha,hP⟩
      by_cases hlt:a<b
      · have d:=pc hl hn (a:=a) (b:=b) (by omega) hb
        simp only [dH (show (a:Int)<(b:Int) by omega),cond_true,kK (show (0:Int)≤(a:Int) by omega) (by omega),kK (show (0:Int)≤(b:Int) by omega) (by omega),d,Option.bind_some]
        by_cases he:eD l a=eD l b
        · refine .inr ⟨lE f 256 (b+1),?_,rfl⟩
          have q:bo ((lE f 256 b).set b ((D (eD l) b).length:Int)) (a:Int)=some (f a):=by
            rw [ba (by omega),List.getElem_set,if_neg (by omega),tI hlt]
          have e:cZ ((lE f 256 b).set b ((D (eD l) b).length:Int)) (b:Int) (f a)=some (((lE f 256 b).set b ((D (eD l) b).length:Int)).set b (f a)):=dK (by omega)
          rw [List.set_set,tG (f:=f) hb (f a) (by simp only [f,cls,he])] at e
          rw [he]
          simp only [beq_self_eq_true,cond_true,q,e,Option.bind_some]
        · refine .inl ⟨((a+1:Nat):Int),?_,⟨a+1,rfl,by omega,fun k hk=>?_⟩,by omega⟩
          · rw [show (eD l a == eD l b)=false by rw [beq_eq_false_iff_ne]; exact he]
            simp only [cond_false,jM (show a<_ by omega),Option.bind_some]
          · by_cases h:k=a
            · subst h; exact he
            · exact hP k (by omega)
      · refine .inr ⟨(lE f 256 b).set b ((D (eD l) b).length:Int),by simp only [dI (show ¬ (a:Int)<(b:Int) by omega),cond_false],?_⟩
        refine tG hb _ ?_
        have hm:eD l b∉D (eD l) b:=by
          intro h
          obtain ⟨k,w,o⟩:=wn.1 h
          exact hP k (by omega) o
        simp only [f,(qp hb hm).1]
  · simp only [dI (show ¬ ((256:Nat):Int)<256 by omega),cond_false]
    rw [xH]; rfl
end Go.Proofs.YtlcdifnmkafcfaaGreat
namespace Go.Proofs.YtlcdifnmkafcfaaGreat
open Go.Lx
def Mk (m:List Bool) (i:Int):Prop:=0≤i∧m[i.toNat]?=some true
theorem sZ {m:List Bool} {i:Nat}:Mk m (i:Int)↔m[i]?=some true:=by
  unfold Mk
  rw [Int.toNat_natCast]
  exact ⟨fun h=>h.2,fun h=>⟨by omega,h⟩⟩
theorem ti {m:List Bool} {i:Int} (h0:0≤i) (h1:i<m.length):∃b,bo m i=some b∧(b=true↔Mk m i):=by
  obtain ⟨k,rfl⟩:=Int.eq_ofNat_of_zero_le h0
  have hk:k<m.length:=by omega
  refine ⟨m[k],ba hk,?_⟩
  rw [sZ,List.getElem?_eq_getElem hk]
  simp
def rq (m:List Bool) (i:Int):List Bool:=m.set i.toNat true
theorem qg {m:List Bool} {i j:Int} (c:0≤i) (d:i<m.length):Mk (rq m i) j↔j=i∨Mk m j:=by
  unfold Mk rq
  rw [List.getElem?_set]
  constructor
  · rintro ⟨b,a⟩
    by_cases e:j=i
    · exact .inl e
    · rw [if_neg (by omega)] at a
      exact .inr ⟨b,a⟩
  · rintro (rfl|⟨b,a⟩)
    · exact ⟨c,by rw [if_pos rfl,if_pos (by omega)]⟩
    · refine ⟨b,?_⟩
      split
      · rw [if_pos (by omega)]
      · exact a
def cf (m:List Bool):Nat:=m.count false
theorem Bd (m:List Bool):cf m≤m.length:=List.count_le_length
theorem yz {m:List Bool} {i:Int} (a:0≤i) (b:i<m.length) (h:¬ Mk m i):cf (rq m i)+1=cf m:=by
  obtain ⟨k,rfl⟩:=Int.eq_ofNat_of_zero_le a
  have hk:k<m.length:=by omega
  rw [sZ,List.getElem?_eq_getElem hk] at h
  have hf:m[k]=false:=by
    cases hb:m[k]
    · rfl
    · rw [hb] at h; exact absurd rfl h
  unfold cf rq
  rw [Int.toNat_natCast,List.count_set hk,hf]
  have:0<m.count false:=by
    rw [List.count_pos_iff,←hf]
    exact List.getElem_mem hk
  simp
  omega
def yk (m:List Bool):List Int:=((List.range m.length).filter fun i=>m[i]?.getD false).map fun (i:Nat)=>(i:Int)
theorem vc {m:List Bool} (hm:m.length≤1000000000) {ρ:Type} {X:List Int→ρ} {body:List Int×Int→Option (cD (List Int×Int) ρ)}
    (hb:∀a i,body (a,i)=bif decide (i<(m.length:Int)) then ((bo m i).bind fun e=>bif e then (cO 8 a [i]).bind fun l=>some l else some a).bind fun l=>(bU .i64 (i+1)).bind fun t=>some (.next (l,t)) else some (.stop (X a))) :
    aT body aR (([]:List Int),(0:Int))=some (X (yk m)):=by
  refine Is.eq ?_
  refine Is.upto (fun i (st:List Int×Int)=>st.2=(i:Int)∧st.1=((List.range i).filter fun i=>m[i]?.getD false).map fun (i:Nat)=>(i:Int)) m.length (by omega) ⟨rfl,rfl⟩ ?_ ?_
  · rintro i ⟨a,_⟩ hi ⟨rfl,b⟩
    obtain rfl:a=_:=b
    rw [hb]
    refine Is.dt (by omega) ?_
    have hl:(((List.range i).filter fun i=>m[i]?.getD false).map fun (i:Nat)=>(i:Int)).length≤i:=by
      rw [List.length_map]
      exact Nat.le_trans (List.length_filter_le _ _) (by simp)
    refine Is.bnd (P:=fun l=>l=((List.range (i+1)).filter fun i=>m[i]?.getD false).map fun (i:Nat)=>(i:Int)) ?_ fun l hl=>Is.bnq (bc (by omega)) (Is.next ⟨rfl,hl⟩)
    refine Is.bnq (ba hi) ?_
    rw [List.range_succ,List.filter_append,List.map_append]
    refine Is.cnd (fun h=>?_) (fun h=>?_)
    · refine Is.bnq (cV (by simp only [List.length_singleton]; omega)) (Is.pure ?_)
      simp [hi,h]
    · refine Is.pure ?_
      simp [hi,h]
  · rintro ⟨a,_⟩ ⟨rfl,b⟩
    obtain rfl:a=_:=b
    rw [hb]
    exact Is.df (by omega) (Is.stop rfl)
theorem yi {m:List Bool} (hm:m.length≤1000000000):M.j5 m=some (yk m):=by
  unfold M.j5
  exact aL (vc hm (X:=fun a=>a) (fun _ _=>rfl)) rfl
structure FitN (n:T_NFA):Prop where
  pos:1≤n.States
  most:n.States≤2000
  start:0≤n.Start∧n.Start<n.States
  acc:(n.Accept.length:Int)=n.States
  low:∀x∈n.Accept,-1≤x
  arcs:∀a∈n.Arcs,(0≤a.From∧a.From<n.States)∧(0≤a.To∧a.To<n.States)∧(a.Epsilon=true→a.Set=az.zero 4)
  len:n.Arcs.length≤1000000000
  sets:∀a∈n.Arcs,W4 a.Set
inductive qB (n:T_NFA) (S:List Int):Int→Prop where
  | base {s:Int}:s∈S→0≤s→s<n.States→qB n S s
  | arc {a:dh}:a∈n.Arcs→a.Epsilon=true→qB n S a.From→qB n S a.To
theorem qB.lt {n:T_NFA} (hn:FitN n) {S:List Int} {s:Int} (h:qB n S s):0≤s∧s<n.States:=by
  cases h with
  | base _ h0 h1=>exact ⟨h0,h1⟩
  | arc ha _ _=>exact (hn.arcs _ ha).2.1
open Classical in
noncomputable def su (n:T_NFA) (S:List Int):List Int:=((List.range n.States.toNat).filter fun i=>decide (qB n S ((i:Nat):Int))).map fun (i:Nat)=>(i:Int)
open Classical in
theorem yh {n:T_NFA} (hn:FitN n) {S:List Int} {s:Int}:s∈su n S↔qB n S s:=by
  unfold su
  rw [List.mem_map]
  constructor
  · rintro ⟨k,hk,rfl⟩
    exact of_decide_eq_true (List.mem_filter.1 hk).2
  · intro h
    have:=h.lt hn
    obtain ⟨k,rfl⟩:=Int.eq_ofNat_of_zero_le this.1
    exact ⟨k,List.mem_filter.2 ⟨List.mem_range.2 (by omega),decide_eq_true h⟩,rfl⟩
theorem yy (n:T_NFA) (S:List Int):(su n S).length≤n.States.toNat:=by
  unfold su
  rw [List.length_map]
  exact Nat.le_trans (List.length_filter_le _ _) (by simp)
open Classical in
theorem wt {n:T_NFA} {S:List Int} {m:List Bool} (hl:m.length=n.States.toNat) (h:∀s:Int,Mk m s↔qB n S s):yk m=su n S:=by
  unfold yk su
  rw [hl]
  congr 1
  refine List.filter_congr fun i hi=>?_
  rw [List.mem_range] at hi
  have hi':i<m.length:=by omega
  have:=h i
  rw [sZ,List.getElem?_eq_getElem hi'] at this
  rw [List.getElem?_eq_getElem hi',Option.getD_some]
  by_cases hr:qB n S i
  · rw [decide_eq_true hr]
    have:=this.2 hr
    simpa using this
  · rw [decide_eq_false hr]
    cases hb:m[i]
    · rfl
    · exact absurd (this.1 (by rw [hb])) hr
theorem lj {k:Nat} {s:Int}:¬ Mk (List.replicate k false) s:=by
  rintro ⟨_,h⟩
  rw [List.getElem?_replicate] at h
  split at h <;> simp at h
def yP (n:T_NFA) (m:List Bool) (s:Int):Prop:=∀a∈n.Arcs,a.Epsilon=true→a.From=s→Mk m a.To
theorem vJ {n:T_NFA} {S:List Int} {m:List Bool} (h1:∀s∈S,0≤s→s<n.States→Mk m s) (h2:∀s,Mk m s→yP n m s):∀s,qB n S s→Mk m s:=by
  intro s h
  induction h with
  | base hs h0 h1'=>exact h1 _ hs h0 h1'
  | arc ha he _ ih=>exact h2 _ ih _ ha he rfl
section
variable {n:T_NFA} (hn:FitN n) {S:List Int}
include hn
end
end Go.Proofs.YtlcdifnmkafcfaaGreat
namespace Go.Proofs.YtlcdifnmkafcfaaGreat
open Go.Lx
section
variable {n:T_NFA} (hn:FitN n) {S:List Int}
include hn
theorem og:nY 1 n.States false=some (List.replicate n.States.toNat false):=by
  have hp:=hn.pos
  have hm:=hn.most
  have:=eO (B:=1) (n:=n.States.toNat) (z:=false) (by omega)
  rw [show ((n.States.toNat:Nat):Int)=n.States by omega] at this
  exact this
theorem ff (hS:S.length≤1000000000):M.d2 n S=some (su n S):=by
  have hp:=hn.pos
  have hm:=hn.most
  have V:=hn.len
  refine Is.eq ?_
  unfold M.d2
  refine Is.bnq (og hn) ?_
  refine Is.bnd (P:=fun m:List Bool=>m.length=n.States.toNat∧(∀s∈S,0≤s→s<n.States→Mk m s)∧(∀s,Mk m s→qB n S s)) ?_ ?_
  · refine Is.upto (fun i (st:List Bool×Int)=>st.2=(i:Int)∧st.1.length=n.States.toNat∧(∀s∈S.take i,0≤s→s<n.States→Mk st.1 s)∧(∀s,Mk st.1 s→qB n S s)) S.length (by omega)
      ⟨rfl,by simp,by simp,fun s hs=>absurd hs lj⟩ ?_ ?_
    · rintro i ⟨m,_⟩ hi ⟨rfl,l,c,k⟩
      simp only at l c k
      refine Is.dt (by omega) ?_
      refine Is.bnd (P:=fun q:List Bool=>q.length=n.States.toNat∧(∀s,Mk m s→Mk q s)∧(0≤S[i]→S[i]<n.States→Mk q S[i])∧(∀s,Mk q s→qB n S s)) ?_ fun q h=>Is.bnq (bc (by omega)) (Is.next ⟨rfl,h.1,fun s hs v h1'=>?_,h.2.2.2⟩)
      · refine Is.bnd (P:=fun b:Bool=>b=true↔0≤S[i]∧S[i]<n.States) ?_ fun b hb=>?_
        · refine Is.bnq (ba hi) (Is.dcd (fun h=>Is.pure ?_) (fun h=>Is.pure ?_))
          · rw [decide_eq_true_eq]; exact ⟨fun c=>⟨h,c⟩,fun c=>c.2⟩
          · exact ⟨fun c=>(by cases c),fun c=>absurd c.1 h⟩
        · refine Is.cnd (fun h=>?_) (fun h=>?_)
          · obtain ⟨e,g⟩:=hb.1 h
            have hmk:∀s,Mk (rq m S[i]) s↔s=S[i]∨Mk m s:=fun s=>qg e (by omega)
            refine Is.bnq (ba hi) (Is.bnq (kQ e (by omega)) (Is.pure ⟨by rw [List.length_set]; exact l,fun s hs=>(hmk s).2 (.inr hs),fun _ _=>(hmk _).2 (.inl rfl),fun s hs=>?_⟩))
            rcases (hmk s).1 hs with rfl|hs
            · exact .base (List.getElem_mem hi) e g
            · exact k s hs
          · exact Is.pure ⟨l,fun _ h=>h,fun e g=>(by have:=hb.2 ⟨e,g⟩; rw [h] at this; cases this),k⟩
      · rw [List.take_add_one,List.getElem?_eq_getElem hi,List.mem_append] at hs
        rcases hs with hs|hs
        · exact h.2.1 s (c s hs v h1')
        · obtain rfl:s=S[i]:=by simpa using hs
          exact h.2.2.1 v h1'
    · rintro ⟨m,_⟩ ⟨rfl,l,c,k⟩
      rw [List.take_length] at c
      exact Is.df (by omega) (Is.stop ⟨l,c,k⟩)
  rintro G ⟨N,K,L⟩
  refine Is.bnd (P:=fun m:List Bool=>m.length=n.States.toNat∧∀s,Mk m s↔qB n S s) ?_ fun m y=>Is.bnq (yi (by rw [y.1]; omega)) (Is.pure (wt y.1 y.2))
  refine Is.while (fun st:List Bool×Bool=>st.1.length=n.States.toNat∧(∀s∈S,0≤s→s<n.States→Mk st.1 s)∧(∀s,Mk st.1 s→qB n S s)∧(st.2=false→∀s,Mk st.1 s→yP n st.1 s)) (fun st=>2*cf st.1+(bif st.2 then 1 else 0)) ⟨N,K,L,fun h=>(by cases h)⟩ ?_ ?_
  · have:=Bd G
    show 2*cf G+1≤_
    omega
  rintro ⟨m,b⟩ ⟨l,c,k,J⟩
  simp only at l c k J
  cases b with
  | false=>exact Is.cf rfl (Is.stop ⟨l,fun s=>⟨k s,vJ c (J rfl) s⟩⟩)
  | true=>
    refine Is.ct rfl ?_
    refine Is.mono (P:=SP (fun st:List Bool×Bool=>st.1.length=n.States.toNat∧(∀s,Mk m s→Mk st.1 s)∧(∀s,Mk st.1 s→qB n S s)∧(st.2=true→cf st.1<cf m)∧(st.2=false→st.1=m∧∀s,Mk st.1 s→yP n st.1 s)) (fun _=>False)) ?_ ?_
    · refine Is.upto (Q:=fun r:cD (List Bool×Bool) (List Bool)=>SP (fun st:List Bool×Bool=>st.1.length=n.States.toNat∧(∀s,Mk m s→Mk st.1 s)∧(∀s,Mk st.1 s→qB n S s)∧(st.2=true→cf st.1<cf m)∧(st.2=false→st.1=m∧∀s,Mk st.1 s→yP n st.1 s)) (fun _=>False) r)
        (fun i (st:List Bool×Bool×Int)=>st.2.2=(i:Int)∧st.1.length=n.States.toNat∧(∀s,Mk m s→Mk st.1 s)∧(∀s,Mk st.1 s→qB n S s)∧(st.2.1=true→cf st.1<cf m)∧(st.2.1=false→st.1=m∧∀a∈n.Arcs.take i,a.Epsilon=true→Mk m a.From→Mk m a.To)) n.Arcs.length (by omega)
        ⟨rfl,l,fun _ h=>h,k,fun h=>(by cases h),fun _=>⟨rfl,by simp⟩⟩ ?_ ?_
      · rintro i ⟨d,t,_⟩ hi ⟨rfl,g1,p,j,o,f⟩
        simp only at g1 p j o f
        have hai:=List.getElem_mem hi
        have har:=hn.arcs _ hai
        have hmonoc:cf d≤cf m:=by
          cases t with
          | true=>exact Nat.le_of_lt (o rfl)
          | false=>rw [(f rfl).1]; exact Nat.le_refl _
        refine Is.dt (by omega) ?_
        refine Is.bnd (P:=fun st:List Bool×Bool=>st.1.length=n.States.toNat∧(∀s,Mk d s→Mk st.1 s)∧(∀s,Mk st.1 s→qB n S s)∧(st.2=true→cf st.1<cf m)∧(st.2=false→t=false∧st.1=d∧(n.Arcs[i].Epsilon=true→Mk d n.Arcs[i].From→Mk d n.Arcs[i].To))) ?_ ?_
        · refine Is.bnq (ba hi) ?_
          obtain ⟨bf,ef,hf⟩:=ti (m:=d) har.1.1 (by omega)
          obtain ⟨bt,et,ht⟩:=ti (m:=d) har.2.1.1 (by omega)
          refine Is.bnd (P:=fun b:Bool=>b=true↔n.Arcs[i].Epsilon=true∧Mk d n.Arcs[i].From∧¬ Mk d n.Arcs[i].To) ?_ fun b hb=>?_
          · refine Is.cnd (fun h=>Is.bnq ef (Is.cnd (fun c=>Is.bnq et (Is.pure ?_)) (fun c=>Is.pure ?_))) (fun h=>Is.pure ?_)
            · rw [←ht,←hf,c]
              cases bt <;> simp [h]
            · rw [←hf,c]; simp
            · rw [h]; simp
          · refine Is.cnd (fun h=>?_) (fun h=>?_)
            · obtain ⟨e,g,w⟩:=hb.1 h
              have hmk:∀s,Mk (rq d n.Arcs[i].To) s↔s=n.Arcs[i].To∨Mk d s:=fun s=>qg har.2.1.1 (by omega)
              have hc:=yz har.2.1.1 (show n.Arcs[i].To<d.length by omega) w
              refine Is.bnq (kQ har.2.1.1 (by omega)) (Is.pure ⟨by rw [List.length_set]; exact g1,fun s hs=>(hmk s).2 (.inr hs),fun s hs=>?_,fun _=>?_,fun h=>(by cases h)⟩)
              · rcases (hmk s).1 hs with rfl|hs
                · exact .arc hai e (j _ g)
                · exact j s hs
              · show cf (rq d n.Arcs[i].To)<cf m
                omega
            · refine Is.pure ⟨g1,fun _ h=>h,j,o,fun U=>⟨U,rfl,fun e g=>Classical.byContradiction fun w=>?_⟩⟩
              have:=hb.2 ⟨e,g,w⟩
              rw [h] at this; cases this
        · rintro ⟨q,W⟩ ⟨F,D,B,A,z⟩
          simp only at F D B A z
          refine Is.bnq (bc (by omega)) (Is.next ⟨rfl,F,fun s hs=>D s (p s hs),B,A,fun T=>?_⟩)
          obtain ⟨u,x,I⟩:=z T
          obtain ⟨H,R⟩:=f u
          subst x
          refine ⟨H,fun a hat e g=>?_⟩
          rw [List.take_add_one,List.getElem?_eq_getElem hi,List.mem_append] at hat
          rcases hat with hat|hat
          · exact R a hat e g
          · obtain rfl:a=n.Arcs[i]:=by simpa using hat
            rw [H] at I
            exact I e g
      · rintro ⟨d,t,_⟩ ⟨rfl,g1,p,j,o,f⟩
        simp only at g1 p j o f
        rw [List.take_length] at f
        refine Is.df (by omega) (Is.stop ⟨g1,p,j,o,fun hb=>?_⟩)
        obtain ⟨u,x⟩:=f hb
        exact ⟨u,fun s hs a ha he hf=>by rw [u] at hs ⊢; exact x a ha he (by rw [hf]; exact hs)⟩
    · rintro (⟨d,t⟩|r) hr
      · obtain ⟨g1,p,j,o,f⟩:=hr
        simp only at g1 p j o f
        refine ⟨⟨g1,fun s hs v h1'=>p _ (c s hs v h1'),j,fun hb=>(f hb).2⟩,?_⟩
        cases t with
        | true=>have:=o rfl; show 2*cf d+1<2*cf m+1; omega
        | false=>rw [(f rfl).1]; show 2*cf m+0<2*cf m+1; omega
      · exact hr.elim
omit hn in
theorem tf {N:Nat} {l:List Int} (hl:∀s∈l,0≤s∧s<N) (hlen:l.length≤1000000000) {body:List Bool×Int→Option (cD (List Bool×Int) (List Bool))}
    (hb:∀m i,body (m,i)=bif decide (i<(l.length:Int)) then (bo l i).bind fun e=>(cZ m e true).bind fun c=>(bU .i64 (i+1)).bind fun t=>some (.next (c,t)) else some (.stop m)) :
    Is (aT body aR (List.replicate N false,(0:Int))) fun m=>m.length=N∧∀s,Mk m s↔s∈l:=by
  refine Is.upto (fun i (st:List Bool×Int)=>st.2=(i:Int)∧st.1.length=N∧∀s,Mk st.1 s↔s∈l.take i) l.length (by omega) ⟨rfl,by simp,fun s=>⟨fun h=>absurd h lj,fun h=>by simp at h⟩⟩ ?_ ?_
  · rintro i ⟨m,_⟩ hi ⟨rfl,b,a⟩
    simp only at b a
    have he:=hl l[i] (List.getElem_mem hi)
    rw [hb]
    refine Is.dt (by omega) (Is.bnq (ba hi) (Is.bnq (kQ he.1 (by omega)) (Is.bnq (bc (by omega)) (Is.next ⟨rfl,by rw [List.length_set]; exact b,fun s=>?_⟩))))
    rw [show (m.set l[i].toNat true)=rq m l[i] from rfl,qg he.1 (by omega),a,List.take_add_one,List.getElem?_eq_getElem hi,List.mem_append]
    simp only [Option.toList_some,List.mem_singleton]
    exact Or.comm
  · rintro ⟨m,_⟩ ⟨rfl,b,a⟩
    rw [hb]
    rw [List.take_length] at a
    exact Is.df (by omega) (Is.stop ⟨b,a⟩)
open Classical in
noncomputable def BZ (n:T_NFA) (L:List Int) (b:Nat):List Int:=(n.Arcs.filter fun a=>!a.Epsilon && (decide (a.From∈L) && fF a.Set b)).map (·.To)
noncomputable def Dq (n:T_NFA) (S:List Int) (b:Nat):List Int:=su n (BZ n (su n S) b)
omit hn in
theorem xF (n:T_NFA) (L:List Int) (b:Nat):(BZ n L b).length≤n.Arcs.length:=by
  unfold BZ
  rw [List.length_map]
  exact List.length_filter_le _ _
open Classical in
theorem vG {L:List Int} {b:Nat} {m:List Bool} (hm:∀s,Mk m s↔s∈L) (hml:m.length=n.States.toNat) {H:az 4→Option Bool} (hH:∀v,W4 v→H v=some (fF v b)) {body:List Int×Int→Option (cD (List Int×Int) (List Int))}
    (hb:∀a i,body (a,i)=bif decide (i<(n.Arcs.length:Int)) then ((bo n.Arcs i).bind fun e=>(bif (!e.Epsilon) then (bo m e.From).bind fun q=>bif q then (H e.Set).bind fun r=>some r else some false else some false).bind fun r=>bif r then (cO 8 a [e.To]).bind fun l=>some l else some a).bind fun l=>(bU .i64 (i+1)).bind fun t=>some (.next (l,t)) else some (.stop a)) :
    aT body aR (([]:List Int),(0:Int))=some (BZ n L b):=by
  have hp:=hn.pos
  have hlen:=hn.len
  refine Is.eq ?_
  refine Is.upto (fun i (st:List Int×Int)=>st.2=(i:Int)∧st.1=((n.Arcs.take i).filter fun a=>!a.Epsilon && (decide (a.From∈L) && fF a.Set b)).map (·.To)) n.Arcs.length (by omega) ⟨rfl,rfl⟩ ?_ ?_
  · rintro i ⟨a,_⟩ hi ⟨rfl,c⟩
    obtain rfl:a=_:=c
    have hai:=List.getElem_mem hi
    have har:=hn.arcs _ hai
    rw [hb]
    refine Is.dt (by omega) ?_
    have hl:(((n.Arcs.take i).filter fun a=>!a.Epsilon && (decide (a.From∈L) && fF a.Set b)).map (·.To)).length≤i:=by
      rw [List.length_map]
      refine Nat.le_trans (List.length_filter_le _ _) ?_
      rw [List.length_take]; omega
    refine Is.bnd (P:=fun l=>l=((n.Arcs.take (i+1)).filter fun a=>!a.Epsilon && (decide (a.From∈L) && fF a.Set b)).map (·.To)) ?_ fun l hl=>Is.bnq (bc (by omega)) (Is.next ⟨rfl,hl⟩)
    refine Is.bnq (ba hi) ?_
    rw [List.take_add_one,List.getElem?_eq_getElem hi,List.filter_append,List.map_append]
    refine Is.bnq (x:=!n.Arcs[i].Epsilon && (decide (n.Arcs[i].From∈L) && fF n.Arcs[i].Set b)) ?_ ?_
    · obtain ⟨q,eq,hq⟩:=ti (m:=m) har.1.1 (by omega)
      have d:q=decide (n.Arcs[i].From∈L):=by
        rw [Bool.eq_iff_iff,hq,hm,decide_eq_true_eq]
      subst d
      cases n.Arcs[i].Epsilon
      · refine aL eq ?_
        cases decide (n.Arcs[i].From∈L)
        · rfl
        · exact aL (hH _ (hn.sets _ hai)) rfl
      · rfl
    refine Is.cnd (fun h=>?_) (fun h=>?_)
    · refine Is.bnq (cV (by simp only [List.length_singleton]; omega)) (Is.pure ?_)
      simp only [Option.toList_some,List.filter_cons,h,if_true,List.filter_nil,List.map_cons,List.map_nil]
    · refine Is.pure ?_
      simp only [Option.toList_some,List.filter_cons,h,Bool.false_eq_true,if_false,List.filter_nil,List.map_nil,List.append_nil]
  · rintro ⟨a,_⟩ ⟨rfl,c⟩
    obtain rfl:a=_:=c
    rw [hb]
    refine Is.df (by omega) (Is.stop ?_)
    rw [List.take_length]
    rfl
theorem wM {S:List Int}:∀s∈su n S,0≤s∧s<(n.States.toNat:Int):=by
  intro s hs
  have:=((yh hn).1 hs).lt hn
  omega
theorem pE {S:List Int}:(su n S).length≤2000:=by
  have:=yy n S
  have:=hn.most
  omega
theorem sC (hS:S.length≤1000000000) {b:Nat} (hb:b<256):M.j6 n S (b:Int)=some (Dq n S b):=by
  have hlen:=hn.len
  refine Is.eq ?_
  unfold M.j6
  refine Is.bnq (og hn) (Is.bnq (ff hn hS) ?_)
  have hcs:=pE hn (S:=S)
  refine Is.bnd (P:=fun m:List Bool=>m.length=n.States.toNat∧∀s,Mk m s↔s∈su n S) (tf (wM hn) (by omega) (fun _ _=>rfl)) ?_
  rintro m ⟨c,a⟩
  refine Is.bnq (vG hn (b:=b) a c (H:=fun v=>M.g5 v (b:Int)) (fun v hv=>ql hv hb) (fun _ _=>rfl)) ?_
  have:=xF n (su n S) b
  exact Is.bnq (ff hn (by omega)) (Is.pure rfl)
end
def pH (acc:List Int) (o:Int) (s:Int):Int:=bif decide (0≤acc.getD s.toNat 0) && (decide (o<0) || decide (acc.getD s.toNat 0<o)) then acc.getD s.toNat 0 else o
theorem wV (e o:Int):(bif decide (0≤e) then bif decide (o<0) then some true else some (decide (e<o)) else some false).bind (fun x=>bif x then some e else some o)=some (bif decide (0≤e) && (decide (o<0) || decide (e<o)) then e else o):=by
  cases decide (0≤e) <;> cases decide (o<0) <;> cases decide (e<o) <;> rfl
def Ai (acc:List Int) (l:List Int):Int:=l.foldl (pH acc) (-1)
theorem vu {acc l:List Int} (hl:∀s∈l,0≤s∧s<(acc.length:Int)) (hlen:l.length≤1000000000) {body:Int×Int→Option (cD (Int×Int) Int)}
    (hb:∀o i,body (o,i)=bif decide (i<(l.length:Int)) then ((bo l i).bind fun e=>(bo acc e).bind fun b=>(bif decide (0≤b) then bif decide (o<0) then some true else some (decide (b<o)) else some false).bind fun x=>bif x then some b else some o).bind fun c=>(bU .i64 (i+1)).bind fun t=>some (.next (c,t)) else some (.stop o)) :
    aT body aR (((-1):Int),(0:Int))=some (Ai acc l):=by
  refine Is.eq ?_
  refine Is.upto (fun i (st:Int×Int)=>st.2=(i:Int)∧st.1=(l.take i).foldl (pH acc) (-1)) l.length (by omega) ⟨rfl,rfl⟩ ?_ ?_
  · rintro i ⟨o,_⟩ hi ⟨rfl,a⟩
    obtain rfl:o=_:=a
    have he:=hl l[i] (List.getElem_mem hi)
    rw [hb]
    refine Is.dt (by omega) (Is.bnq (x:=pH acc ((l.take i).foldl (pH acc) (-1)) l[i]) ?_ (Is.bnq (bc (by omega)) (Is.next ⟨rfl,?_⟩)))
    · refine aL (ba hi) (aL (wu (d:=0) he.1 he.2) ?_)
      exact wV _ _
    · rw [List.take_add_one,List.getElem?_eq_getElem hi,List.foldl_append]
      rfl
  · rintro ⟨o,_⟩ ⟨rfl,a⟩
    obtain rfl:o=_:=a
    rw [hb]
    refine Is.df (by omega) (Is.stop ?_)
    rw [List.take_length]
    rfl
theorem ws {n:T_NFA} {l:List Int} (hl:∀s∈l,0≤s∧s<(n.Accept.length:Int)) (hlen:l.length≤1000000000):M.i0 n l=some (Ai n.Accept l):=by
  unfold M.i0
  exact aL (vu hl hlen (fun _ _=>rfl)) rfl
section
variable {n:T_NFA} (hn:FitN n)
include hn
theorem rW (l:List Int) (h:∃T,l=su n T):(∀s∈l,0≤s∧s<(n.Accept.length:Int))∧l.length≤2000:=by
  obtain ⟨T,rfl⟩:=h
  have h1:=hn.acc
  have h2:=hn.pos
  exact ⟨fun s hs=>by have:=wM hn s hs; omega,pE hn⟩
end
end Go.Proofs.YtlcdifnmkafcfaaGreat
namespace Go.Proofs.YtlcdifnmkafcfaaGreat
open Go.Lx
def cols (d:T_DFA):Nat:=(d.Next.getD 0 []).length
structure Ok (d:T_DFA):Prop where
  cls:d.Class.length=256
  pos:1≤d.Next.length
  max:d.Next.length≤500
  acc:d.Accept.length=d.Next.length
  col:1≤cols d
  inc:∀c∈d.Class,0≤c∧c<(cols d:Int)
  row:∀r∈d.Next,r.length=cols d∧∀t∈r,-1≤t∧t<(d.Next.length:Int)
  accs:∀a∈d.Accept,-1≤a
end Go.Proofs.YtlcdifnmkafcfaaGreat
namespace Go.Proofs.YtlcdifnmkafcfaaGreat
open Go.Lx
structure VN (n:T_NFA):Prop where
  pos:1≤n.States
  most:n.States≤2000
  start:0≤n.Start∧n.Start<n.States
  acc:(n.Accept.length:Int)=n.States
  low:∀x∈n.Accept,-1≤x
  arcs:∀a∈n.Arcs,(0≤a.From∧a.From<n.States)∧(0≤a.To∧a.To<n.States)∧(a.Epsilon=true→a.Set=az.zero 4)
def AS (n:T_NFA):Prop:=1≤n.States∧n.States≤2000∧(0≤n.Start∧n.Start<n.States)∧(n.Accept.length:Int)=n.States
theorem VN.fit {n:T_NFA} (h:VN n) (hl:n.Arcs.length≤1000000000) (hs:∀a∈n.Arcs,W4 a.Set):FitN n:=⟨h.pos,h.most,h.start,h.acc,h.low,h.arcs,hl,hs⟩
theorem VN.pre {n:T_NFA} (h:VN n):AS n:=⟨h.pos,h.most,h.start,h.acc⟩
def wZ (n:T_NFA) (a:dh):Prop:=(0≤a.From∧a.From<n.States)∧(0≤a.To∧a.To<n.States)∧(a.Epsilon=true→a.Set=az.zero 4)
theorem iz {α:Type} {l:List α} {i:Nat} (hi:i<l.length) {x:α}:x∈l.take (i+1)↔x∈l.take i∨x=l[i]:=by
  rw [List.take_add_one,List.getElem?_eq_getElem hi,List.mem_append]
  simp
theorem pS {n:T_NFA} (hl:n.Arcs.length≤9223372036854775807) (ha:n.Accept.length≤9223372036854775807):Is (M.h0 n) (fun b=>b=true↔VN n):=by
  unfold M.h0
  refine Is.bnd (P:=fun b:Bool=>b=false↔AS n) ?_ fun b hb=>?_
  · refine Is.dcd (fun h=>Is.pure ⟨fun e=>(by cases e),fun e=>by have:=e.1; omega⟩) (fun g=>?_)
    refine Is.dcd (fun h=>Is.pure ⟨fun e=>(by cases e),fun e=>by have:=e.2.1; omega⟩) (fun f=>?_)
    refine Is.dcd (fun h=>Is.pure ⟨fun e=>(by cases e),fun e=>by have:=e.2.2.1.1; omega⟩) (fun d=>?_)
    refine Is.dcd (fun h=>Is.pure ⟨fun e=>(by cases e),fun e=>by have:=e.2.2.1.2; omega⟩) (fun c=>Is.pure ?_)
    exact ⟨fun e=>⟨by omega,by omega,⟨by omega,by omega⟩,eM e⟩,fun e=>mx e.2.2.2⟩
  refine Is.cnd (fun h=>Is.pure ⟨fun e=>(by cases e),fun e=>by have:=hb.2 e.pre; rw [h] at this; cases this⟩) (fun h=>?_)
  have hpre:=hb.1 h
  refine Is.bs (P:=fun _:Unit=>∀x∈n.Accept,-1≤x) ?_ fun _ hacc=>Is.bs (P:=fun _:Unit=>∀a∈n.Arcs,wZ n a) ?_ fun _ harc=>Is.pure ⟨fun _=>⟨hpre.1,hpre.2.1,hpre.2.2.1,hpre.2.2.2,hacc,harc⟩,fun _=>rfl⟩
  · refine Is.upto (fun i (st:Int)=>st=(i:Int)∧∀x∈n.Accept.take i,-1≤x) n.Accept.length ha ⟨rfl,by simp⟩ ?_ ?_
    · rintro i _ hi ⟨rfl,hJ⟩
      refine Is.dt (by omega) (Is.bnq (ba hi) (Is.dcd (fun h=>Is.stop ⟨fun e=>(by cases e),fun e=>?_⟩) (fun h=>Is.bnq (bc (by omega)) (Is.next ⟨rfl,fun x hx=>?_⟩))))
      · have:=e.low _ (List.getElem_mem hi); omega
      · rcases (iz hi).1 hx with hx|rfl
        · exact hJ x hx
        · omega
    · rintro _ ⟨rfl,hJ⟩
      rw [List.take_length] at hJ
      exact Is.df (by omega) (Is.stop hJ)
  · refine Is.upto (fun i (st:Int)=>st=(i:Int)∧∀a∈n.Arcs.take i,wZ n a) n.Arcs.length hl ⟨rfl,by simp⟩ ?_ ?_
    · rintro i _ hi ⟨rfl,hJ⟩
      refine Is.dt (by omega) (Is.bnq (ba hi) (Is.bnd (P:=fun b:Bool=>b=false↔wZ n n.Arcs[i]) ?_ fun b hb=>Is.cnd (fun h=>Is.stop ⟨fun e=>(by cases e),fun e=>?_⟩) (fun h=>Is.bnq (bc (by omega)) (Is.next ⟨rfl,fun x hx=>?_⟩))))
      · refine Is.dcd (fun h=>Is.pure ⟨fun e=>(by cases e),fun e=>by have:=e.1.1; omega⟩) (fun g=>?_)
        refine Is.dcd (fun h=>Is.pure ⟨fun e=>(by cases e),fun e=>by have:=e.1.2; omega⟩) (fun f=>?_)
        refine Is.dcd (fun h=>Is.pure ⟨fun e=>(by cases e),fun e=>by have:=e.2.1.1; omega⟩) (fun d=>?_)
        refine Is.dcd (fun h=>Is.pure ⟨fun e=>(by cases e),fun e=>by have:=e.2.1.2; omega⟩) (fun c=>?_)
        refine Is.cnd (fun he=>Is.pure ?_) (fun he=>Is.pure ⟨fun _=>⟨by omega,by omega,fun e=>by rw [he] at e; cases e⟩,fun _=>rfl⟩)
        rw [bne_eq_false_iff_eq]
        exact ⟨fun e=>⟨by omega,by omega,fun _=>e⟩,fun e=>e.2.2 he⟩
      · have:=hb.2 (e.arcs _ (List.getElem_mem hi)); rw [h] at this; cases this
      · rcases (iz hi).1 hx with hx|rfl
        · exact hJ x hx
        · exact hb.1 h
    · rintro _ ⟨rfl,hJ⟩
      rw [List.take_length] at hJ
      exact Is.df (by omega) (Is.stop hJ)
end Go.Proofs.YtlcdifnmkafcfaaGreat
namespace Go.Proofs.YtlcdifnmkafcfaaGreat
open Go.Lx
theorem rk {α:Type} [DecidableEq α]:∀(l m:List α),l.Nodup→(∀x∈l,x∈m)→l.length≤m.length
  | [],_,_,_=>Nat.zero_le _
  | x::l,m,hn,hs=>by
    have hx:=hs x (by simp)
    have a:=List.nodup_cons.1 hn
    have:=rk l (m.erase x) a.2 fun y hy=>(List.mem_erase_of_ne (fun e=>a.1 (by rw [←e]; exact hy))).2 (hs y (by simp [hy]))
    rw [List.length_erase_of_mem hx] at this
    have:=List.length_pos_of_mem hx
    simp only [List.length_cons]; omega
def gO (σ:Nat→List Bool) (i:Nat) (fb:List Int):Prop:=fb.length=(D σ i).length∧∀c,c<fb.length→∃b:Nat,b<i∧fb[c]?=some (b:Int)∧(D σ i)[c]?=some (σ b)
theorem rG {l:List (az 4)} {N:Int} (hN:N=256) {body:List Int×Int→Option (cD (List Int×Int) (List Int))}
    (hb:∀a i,body (a,i)=bif decide (i<N) then ((bo (qq l) i).bind fun e=>bif (e == (a.length:Int)) then (cO 1 a [(IntKind.u8.wrap i)]).bind fun l=>some l else some a).bind fun l=>(bU .i64 (i+1)).bind fun t=>some (.next (l,t)) else some (.stop a)) :
    Is (aT body aR (([]:List Int),(0:Int))) (gO (eD l) 256):=by
  subst hN
  refine Is.upto (fun i (st:List Int×Int)=>st.2=(i:Int)∧gO (eD l) i st.1) 256 (by omega) ⟨rfl,rfl,fun c hc=>by simp at hc⟩ ?_ ?_
  · rintro i ⟨a,_⟩ hi ⟨rfl,d⟩
    simp only at d
    rw [hb]
    have hlen:(qq l).length=256:=by simp [qq]
    have hD:=xw (σ:=eD l) i
    refine Is.dt (by omega) (Is.bnd (P:=gO (eD l) (i+1)) ?_ fun k j=>Is.bnq (bc (by omega)) (Is.next ⟨rfl,j⟩))
    refine Is.bnq (x:=(cls (eD l) i:Int)) (by rw [ba (by omega)]; simp [qq]) ?_
    by_cases hm:eD l i∈D (eD l) i
    · have hc:=(ut hi hm).2
      refine Is.cf (bM (by have:=d.1; omega)) (Is.pure ⟨by rw [xv hm]; exact d.1,fun c hc=>?_⟩)
      obtain ⟨b,g1,h,g⟩:=d.2 c hc
      exact ⟨b,by omega,h,by rw [xv hm]; exact g⟩
    · obtain ⟨hc,f⟩:=qp hi hm
      have ha:a.length=(D (eD l) i).length:=d.1
      refine Is.ct (kb (by omega)) (Is.bnq (cV (by simp only [List.length_singleton]; omega)) (Is.pure ⟨by rw [f]; simp only [List.length_append,List.length_singleton]; omega,fun c hc=>?_⟩))
      rw [qG (n:=i) (by omega)]
      simp only [List.length_append,List.length_singleton] at hc
      rcases Nat.lt_or_eq_of_le (Nat.le_of_lt_succ hc) with hlt|heq
      · obtain ⟨b,g1,h,g⟩:=d.2 c hlt
        exact ⟨b,by omega,by rw [List.getElem?_append_left hlt]; exact h,by rw [f,List.getElem?_append_left (by omega)]; exact g⟩
      · subst heq
        exact ⟨i,by omega,by simp,by rw [f,ha]; simp⟩
  · rintro ⟨a,_⟩ ⟨rfl,d⟩
    rw [hb]
    exact Is.df (by omega) (Is.stop d)
theorem gO.at {l:List (az 4)} {fb:List Int} (h:gO (eD l) 256 fb) {b:Nat} (hb:b<256):∃b':Nat,b'<256∧cls (eD l) b<fb.length∧fb[cls (eD l) b]?=some (b':Int)∧eD l b'=eD l b:=by
  have hm:eD l b∈D (eD l) 256:=wn.2 ⟨b,hb,rfl⟩
  have hlt:(D (eD l) 256).idxOf (eD l b)<(D (eD l) 256).length:=List.idxOf_lt_length_of_mem hm
  have hc:cls (eD l) b<fb.length:=by rw [h.1]; exact hlt
  obtain ⟨b',g1,c,a⟩:=h.2 _ hc
  refine ⟨b',g1,hc,c,?_⟩
  unfold cls at a
  rw [List.getElem?_eq_getElem hlt,List.getElem_idxOf hlt] at a
  exact (Option.some.inj a).symm
theorem gO.byte {l:List (az 4)} {fb:List Int} (h:gO (eD l) 256 fb) {c:Nat} (hc:c<fb.length):∃b:Nat,b<256∧bo fb (c:Int)=some (b:Int):=by
  obtain ⟨b,g1,g2,_⟩:=h.2 c hc
  refine ⟨b,g1,?_⟩
  rw [List.getElem?_eq_getElem hc] at g2
  rw [ba hc,Option.some.inj g2]
theorem gO.len {l:List (az 4)} {fb:List Int} (h:gO (eD l) 256 fb):1≤fb.length∧fb.length≤256:=by
  have h1:=h.at (b:=0) (by omega)
  have h2:=xw (σ:=eD l) 256
  obtain ⟨_,_,h3,_⟩:=h1
  have:=h.1
  omega
theorem zb {a b:List Int} (h:a.length≤1000000000):M.j7 a b=some (decide (a=b)):=by
  refine Is.eq ?_
  unfold M.j7
  by_cases hl:a.length=b.length
  · refine Is.cf (mx (by omega)) ?_
    refine Is.bs (P:=fun _:Unit=>a=b) (Q:=fun r=>r=decide (a=b)) ?_ fun _ h=>Is.pure (decide_eq_true h).symm
    refine Is.upto (fun i (st:Int)=>st=(i:Int)∧a.take i=b.take i) a.length (by omega) ⟨rfl,rfl⟩ ?_ ?_
    · rintro i _ hi ⟨rfl,hJ⟩
      refine Is.dt (by omega) (Is.bnq (ba hi) (Is.bnq (ba (by omega)) (Is.cnd (fun hc=>Is.stop ?_) (fun hc=>Is.bnq (bc (by omega)) (Is.next ⟨rfl,?_⟩)))))
      · refine (decide_eq_false fun e=>?_).symm
        subst e
        exact fN hc rfl
      · rw [List.take_add_one,List.take_add_one,hJ,List.getElem?_eq_getElem hi,List.getElem?_eq_getElem (by omega),eM hc]
    · rintro _ ⟨rfl,hJ⟩
      rw [List.take_length,hl,List.take_length] at hJ
      exact Is.df (by omega) (Is.stop hJ)
  · exact Is.ct (ij (by omega)) (Is.pure (decide_eq_false fun e=>hl (by rw [e])).symm)
theorem yo {l:List (List Int)} {S:List Int} (hl:l.length≤1000000000) (hs:∀T∈l,T.length≤1000000000) :
    Is (M.j3 l S) fun k=>(k<0∧S∉l)∨∃j:Nat,k=(j:Int)∧l[j]?=some S:=by
  unfold M.j3
  refine Is.bs (P:=fun _:Unit=>S∉l) (Q:=fun k=>(k<0∧S∉l)∨∃j:Nat,k=(j:Int)∧l[j]?=some S) ?_ fun _ h=>Is.pure (.inl ⟨by omega,h⟩)
  refine Is.upto (fun i (st:Int)=>st=(i:Int)∧S∉l.take i) l.length (by omega) ⟨rfl,by simp⟩ ?_ ?_
  · rintro i _ hi ⟨rfl,hJ⟩
    refine Is.dt (by omega) (Is.bnq (ba hi) (Is.bnq (zb (hs _ (List.getElem_mem hi))) (Is.cnd (fun hc=>Is.stop ?_) (fun hc=>Is.bnq (bc (by omega)) (Is.next ⟨rfl,fun hm=>?_⟩)))))
    · exact .inr ⟨i,rfl,by rw [List.getElem?_eq_getElem hi,of_decide_eq_true hc]⟩
    · rcases (iz hi).1 hm with hm|rfl
      · exact hJ hm
      · exact of_decide_eq_false hc rfl
  · rintro _ ⟨rfl,hJ⟩
    rw [List.take_length] at hJ
    exact Is.df (by omega) (Is.stop hJ)
section
variable {n:T_NFA} (hn:FitN n) (hlen:n.Arcs.length≤1000000)
include hn
end
end Go.Proofs.YtlcdifnmkafcfaaGreat
set_option linter.unusedVariables false
namespace Go.Proofs.YtlcdifnmkafcfaaGreat
open Go.Lx
section
variable {α β:Type} {Q:β→Prop}
theorem Is.idx {l:List α} {i:Int} {f:α→Option β} (h0:0≤i) (h1:i<l.length) (k:∀x,x∈l→l[i.toNat]?=some x→Is (f x) Q):Is ((bo l i).bind f) Q:=by
  obtain ⟨n,rfl⟩:=Int.eq_ofNat_of_zero_le h0
  have hn:n<l.length:=by omega
  refine Is.bnq (ba hn) (k _ (List.getElem_mem hn) ?_)
  show l[((n:Nat):Int).toNat]?=_
  rw [Int.toNat_natCast,List.getElem?_eq_getElem hn]
theorem Is.setv {l:List α} {i:Int} {x:α} {f:List α→Option β} (h0:0≤i) (h1:i<l.length) (k:Is (f (l.set i.toNat x)) Q):Is ((cZ l i x).bind f) Q:=Is.bnq (kQ h0 h1) k
theorem Is.app1 {B:Nat} {l:List α} {x:α} {f:List α→Option β} (h:(l.length+1)*B≤140737488355328) (k:Is (f (l++[x])) Q):Is ((cO B l [x]).bind f) Q:=Is.bnq (cV (by simpa using h)) k
theorem Is.add1 {i:Nat} {f:Int→Option β} (h:i<9223372036854775807) (k:Is (f ((i+1:Nat):Int)) Q):Is ((bU .i64 ((i:Int)+1)).bind f) Q:=Is.bnq (bc h) k
end
theorem nZ {α:Type} {l:List α} {i:Nat} {x y:α} (h:y∈l.set i x):y∈l∨y=x:=List.mem_or_eq_of_mem_set h
def vA:List Bool→Nat
  | []=>0
  | b::r=>(if b then 0 else 1)+vA r
theorem wO:∀r:List Bool,vA r≤r.length
  | []=>Nat.le_refl _
  | b::r=>by
    have:=wO r
    simp only [vA,List.length_cons]; split <;> omega
theorem qu:∀(r:List Bool) (k:Nat),vA (r.set k true)≤vA r∧(r[k]?=some false→vA (r.set k true)+1=vA r)
  | [],k=>by simp
  | b::r,0=>by cases b <;> simp [vA]; omega
  | b::r,k+1=>by
    have:=qu r k
    simp only [vA,List.set_cons_succ,List.getElem?_cons_succ]
    exact ⟨by omega,fun h=>by have:=this.2 h; omega⟩
def dZ (t:List (List Bool)):Nat:=(t.map vA).sum
theorem ov:∀(t:List (List Bool)) (i:Nat) (r r':List Bool),t[i]?=some r→dZ (t.set i r')+vA r=dZ t+vA r'
  | [],i,r,r',h=>by simp at h
  | a::t,0,r,r',h=>by
    simp only [List.getElem?_cons_zero,Option.some.injEq] at h
    subst h
    simp only [dZ,List.set_cons_zero,List.map_cons,List.sum_cons]; omega
  | a::t,i+1,r,r',h=>by
    simp only [List.getElem?_cons_succ] at h
    have:=ov t i r r' h
    simp only [dZ,List.set_cons_succ,List.map_cons,List.sum_cons] at this ⊢; omega
def Gr (m:Nat) (t:List (List Bool)):Prop:=t.length=m∧∀r∈t,r.length=m
theorem Gr.set {m:Nat} {t:List (List Bool)} (h:Gr m t) {i:Nat} {r:List Bool} (hr:r.length=m):Gr m (t.set i r):=
  ⟨by rw [List.length_set]; exact h.1,fun x hx=>(nZ hx).elim (h.2 x) fun e=>by rw [e]; exact hr⟩
def Gp (m i:Nat) (t:List (List Bool)):Prop:=t.length=m∧∀j r,j<i→t[j]?=some r→r.length=m
theorem Gp.all {m:Nat} {t:List (List Bool)} (h:Gp m m t):Gr m t:=⟨h.1,fun r hr=>by
  obtain ⟨j,hj⟩:=List.getElem?_of_mem hr
  exact h.2 j r (by have:=(List.getElem?_eq_some_iff.1 hj).1; have:=h.1; omega) hj⟩
theorem Gp.put {m i:Nat} {t:List (List Bool)} (h:Gp m i t) {k:Nat} {r:List Bool} (hr:r.length=m) (hk:k≤i):Gp m (if k=i then i+1 else i) (t.set k r):=by
  refine ⟨by rw [List.length_set]; exact h.1,fun j x hj hx=>?_⟩
  by_cases e:k=j
  · subst e
    have a:k<t.length:=by have:=(List.getElem?_eq_some_iff.1 hx).1; rwa [List.length_set] at this
    rw [List.getElem?_set_self a] at hx
    rw [←Option.some.inj hx]; exact hr
  · rw [List.getElem?_set_ne e] at hx
    refine h.2 j x ?_ hx
    split at hj <;> omega
section
variable {d:T_DFA} (h:Ok d) (h6:cols d≤256)
include h
omit h in
theorem po {e:Int} (h1:e<d.Next.length):Is (M.d8 d e) (fun v:Int=>0≤v∧v≤(d.Next.length:Int)):=by
  unfold M.d8
  exact Is.dcd (fun _=>Is.pure ⟨by omega,by omega⟩) (fun _=>Is.pure ⟨by omega,by omega⟩)
theorem tX {i c:Nat} (hc:c<cols d) {β:Type} {f:Int→Option β} {Q:β→Prop} (k:∀v:Int,0≤v∧v≤(d.Next.length:Int)→Is (f v) Q) :
    Is (((bif decide ((i:Int)<(d.Next.length:Int)) then (bo d.Next i).bind fun r=>(bo r c).bind fun e=>(M.d8 d e).bind fun v=>some v else some (d.Next.length:Int))).bind f) Q:=by
  refine Is.bnd (P:=fun v:Int=>0≤v∧v≤(d.Next.length:Int)) (Is.dcd (fun hi=>?_) (fun _=>Is.pure ⟨by omega,by omega⟩)) k
  refine Is.idx (by omega) hi fun r hr _=>?_
  have a:=h.row r hr
  refine Is.idx (by omega) (by rw [a.1]; omega) fun e he _=>?_
  exact Is.bnd (po (a.2 e he).2) fun v hv=>Is.pure hv
include h6 in
theorem rM:Is (M.f5 d) (Gr (d.Next.length+1)):=by
  have hm:=h.max
  unfold M.f5
  refine Is.add1 (by omega) (Is.bnq (eO (by omega)) ?_)
  refine Is.bnd (P:=Gr (d.Next.length+1)) ?_ fun K A=>?_
  · refine Is.upto (fun i (st:List (List Bool)×Int)=>st.2=(i:Int)∧Gp (d.Next.length+1) i st.1) (d.Next.length+1) (by omega) ⟨rfl,by simp,fun j r hj=>by omega⟩ ?_ ?_
    · rintro i ⟨t,_⟩ hi ⟨rfl,ht⟩
      simp only at ht
      refine Is.dt (by omega) (Is.bnd (P:=Gp (d.Next.length+1) (i+1)) ?_ fun q n=>Is.add1 (by omega) (Is.next ⟨rfl,n⟩))
      refine Is.bnq (eO (by omega)) (Is.setv (by omega) (by rw [ht.1]; omega) ?_)
      refine Is.upto (fun j (st:List (List Bool)×Int)=>st.2=(j:Int)∧Gp (d.Next.length+1) (i+1) st.1) (d.Next.length+1) (by omega) ⟨rfl,?_⟩ ?_ ?_
      · have:=ht.put (k:=i) (r:=List.replicate (d.Next.length+1) false) (by simp) (Nat.le_refl _)
        rw [if_pos rfl] at this
        exact this
      · rintro j ⟨q,_⟩ hj ⟨rfl,n⟩
        simp only at n
        have acc:∀k:Nat,Is (bif decide ((k:Int)<(d.Next.length:Int)) then (bo d.Accept k).bind fun e=>some e else some ((-1):Int)) (fun _=>True):=fun k=>
          Is.dcd (fun hk=>Is.idx (by omega) (by rw [h.acc]; exact hk) fun _ _ _=>Is.pure trivial) (fun _=>Is.pure trivial)
        refine Is.dt (by omega) (Is.bnd (acc i) fun _ _=>Is.bnd (acc j) fun _ _=>Is.idx (by omega) (by rw [n.1]; omega) fun r hr p=>?_)
        have hrl:=n.2 i r (by omega) (by simpa using p)
        refine Is.setv (by omega) (by rw [hrl]; omega) (Is.setv (by omega) (by rw [n.1]; omega) (Is.add1 (by omega) (Is.next ⟨rfl,?_⟩)))
        simp only [Int.toNat_natCast]
        generalize hV:r.set j _=B
        have:=n.put (k:=i) (r:=B) (by rw [←hV,List.length_set]; exact hrl) (by omega)
        rw [if_neg (by omega)] at this
        exact this
      · rintro ⟨q,_⟩ ⟨rfl,n⟩
        exact Is.df (by omega) (Is.stop n)
    · rintro ⟨t,_⟩ ⟨rfl,ht⟩
      exact Is.df (by omega) (Is.stop ht.all)
  have hp:=h.pos
  refine Is.idx (by omega) (by omega) fun G H _=>?_
  have hr0l:=(h.row G H).1
  refine Is.bnq (eO (by omega)) ?_
  refine Is.bnd (P:=fun u:List Bool=>u.length=cols d) ?_ fun u hu=>?_
  · refine Is.upto (fun i (st:List Bool×Int)=>st.2=(i:Int)∧st.1.length=cols d) 256 (by omega) ⟨rfl,by simp [hr0l]⟩ ?_ ?_
    · rintro i ⟨u,_⟩ hi ⟨rfl,hu⟩
      simp only at hu
      refine Is.dt (by omega) (Is.idx (by omega) (by rw [h.cls]; omega) fun c hc _=>?_)
      have:=h.inc c hc
      exact Is.setv this.1 (by rw [hu]; exact this.2) (Is.add1 (by omega) (Is.next ⟨rfl,by rw [List.length_set]; exact hu⟩))
    · rintro ⟨u,_⟩ ⟨rfl,hu⟩
      exact Is.df (by omega) (Is.stop hu)
  refine Is.bnd (P:=Gr (d.Next.length+1)) ?_ fun t ht=>Is.pure ht
  generalize hM:d.Next.length+1=m at A ⊢
  have hfm:∀t:List (List Bool),Gr m t→dZ t≤m*m:=by
    intro t ht
    have:∀l:List (List Bool),(∀r∈l,r.length=m)→dZ l≤l.length*m:=by
      intro l
      induction l with
      | nil=>intro _; simp [dZ]
      | cons a l ih=>
        intro hl
        have J:=ih fun r hr=>hl r (by simp [hr])
        have n:=wO a
        have L:=hl a (by simp)
        simp only [dZ,List.map_cons,List.sum_cons,List.length_cons,Nat.succ_mul] at J ⊢; omega
    have:=this t ht.2
    rw [ht.1] at this; exact this
  have hmm:m*m≤251001:=Nat.le_trans (Nat.mul_le_mul (show m≤501 by omega) (show m≤501 by omega)) (by decide)
  refine Is.while (fun st:List (List Bool)×Bool=>Gr m st.1) (fun st=>2*dZ st.1+(if st.2 then 1 else 0)) A (by have:=hfm _ A; simp only; split <;> omega) ?_
  rintro ⟨t,more⟩ ht
  simp only at ht
  refine Is.cnd (fun hmore=>?_) (fun _=>Is.stop ht)
  subst hmore
  refine Is.upto (Q:=SP (fun s':List (List Bool)×Bool=>Gr m s'.1∧2*dZ s'.1+(if s'.2 then 1 else 0)<2*dZ t+(if true then 1 else 0)) (Gr m))
    (fun i (st:List (List Bool)×Bool×Int)=>st.2.2=(i:Int)∧Gr m st.1∧dZ st.1≤dZ t∧(st.2.1=true→dZ st.1<dZ t)) m (by omega) ⟨rfl,ht,Nat.le_refl _,by simp⟩ ?_ ?_
  · rintro i ⟨o,y,_⟩ hi ⟨rfl,g1,g,f⟩
    simp only at g1 g f
    refine Is.dt (by omega) (Is.bnd (P:=fun st:List (List Bool)×Bool=>Gr m st.1∧dZ st.1≤dZ t∧(st.2=true→dZ st.1<dZ t)) ?_ (fun ⟨q,D⟩ ⟨x,w,v⟩=>Is.add1 (by omega) (Is.next ⟨rfl,x,w,v⟩)))
    refine Is.upto (fun k (st:List (List Bool)×Bool×Int)=>st.2.2=(k:Int)∧Gr m st.1∧dZ st.1≤dZ t∧(st.2.1=true→dZ st.1<dZ t)) i (by omega) ⟨rfl,g1,g,f⟩ ?_ ?_
    · rintro k ⟨o,y,_⟩ hk ⟨rfl,g1,g,f⟩
      simp only at g1 g f
      refine Is.dt (by omega) (Is.bnd (P:=fun st:List (List Bool)×Bool=>Gr m st.1∧dZ st.1≤dZ t∧(st.2=true→dZ st.1<dZ t)) ?_ (fun ⟨q,D⟩ ⟨x,w,v⟩=>Is.add1 (by omega) (Is.next ⟨rfl,x,w,v⟩)))
      refine Is.while (fun st:List (List Bool)×Bool×Int=>∃c:Nat,st.2.2=(c:Int)∧c≤u.length∧Gr m st.1∧dZ st.1≤dZ t∧(st.2.1=true→dZ st.1<dZ t)) (fun st=>u.length - st.2.2.toNat) ⟨0,rfl,by omega,g1,g,f⟩ (by show u.length - _≤_; omega) ?_
      rintro ⟨o,y,_⟩ ⟨c,rfl,hcu,g1,g,f⟩
      simp only at g1 g f hcu
      refine Is.bnd (P:=fun b=>b=true→c<u.length∧∃r,o[i]?=some r∧r[k]?=some false) ?_ fun b hb=>Is.cnd (fun e=>?_) (fun _=>Is.stop ⟨g1,g,f⟩)
      · refine Is.dcd (fun hc=>?_) (fun _=>Is.pure (fun e=>by cases e))
        refine Is.idx (by omega) (by rw [g1.1]; omega) fun r hr p=>Is.idx (by omega) (by rw [g1.2 r hr]; omega) fun b hb I=>Is.pure fun e=>⟨by omega,r,by simpa using p,?_⟩
        cases b
        · simpa using I
        · cases e
      · obtain ⟨hc,r,hr,hrk⟩:=hb e
        refine Is.bnd (P:=fun st:List (List Bool)×Bool=>Gr m st.1∧dZ st.1≤dZ t∧(st.2=true→dZ st.1<dZ t)) ?_ (fun ⟨q,D⟩ ⟨x,w,v⟩=>Is.add1 (by omega) (Is.next ⟨⟨c+1,rfl,by omega,x,w,v⟩,by show u.length - ((c+1:Nat):Int).toNat<u.length - ((c:Nat):Int).toNat; omega⟩))
        refine Is.idx (by omega) (by omega) fun uc _ _=>Is.cnd (fun _=>Is.pure ⟨g1,g,f⟩) (fun _=>?_)
        refine tX h (i:=i) (c:=c) (by omega) fun a ha=>tX h (i:=k) (c:=c) (by omega) fun b hb=>?_
        refine Is.idx ha.1 (by rw [g1.1]; omega) fun ra hra _=>Is.idx hb.1 (by rw [g1.2 ra hra]; omega) fun e _ _=>Is.cnd (fun _=>?_) (fun _=>Is.pure ⟨g1,g,f⟩)
        refine Is.idx (by omega) (by rw [g1.1]; omega) fun r' hr' p=>Is.idx (by omega) (by rw [g1.1]; omega) fun B hr2m _=>?_
        rw [Int.toNat_natCast,hr] at p
        obtain rfl:=Option.some.inj p
        have hrl:=g1.2 r hr'
        refine Is.setv (by omega) (by rw [hrl]; omega) (Is.setv (by omega) (by rw [g1.1]; omega) ?_)
        rw [Int.toNat_natCast,Int.toNat_natCast]
        have z:Gr m (o.set i (r.set k true)):=g1.set (by rw [List.length_set]; exact hrl)
        have T:=ov o i r (r.set k true) hr
        have S:=(qu r k).2 hrk
        refine Is.idx (by omega) (by rw [z.1]; omega) fun s F hr3b=>Is.setv (by omega) (by rw [z.2 s F]; omega) (Is.setv (by omega) (by rw [z.1]; omega) (Is.pure ?_))
        rw [Int.toNat_natCast] at hr3b
        rw [Int.toNat_natCast,Int.toNat_natCast]
        have R:=ov (o.set i (r.set k true)) k s (s.set i true) hr3b
        have N:=(qu s i).1
        refine ⟨z.set (by rw [List.length_set]; exact z.2 s F),?_,fun _=>?_⟩
        · simp only; omega
        · simp only; omega
    · rintro ⟨o,y,_⟩ ⟨rfl,g1,g,f⟩
      exact Is.df (by omega) (Is.stop ⟨g1,g,f⟩)
  · rintro ⟨o,y,_⟩ ⟨rfl,g1,g,f⟩
    simp only at g1 g f
    refine Is.df (by omega) (Is.stop ⟨g1,?_⟩)
    cases y
    · simp only [Bool.false_eq_true,if_false,if_true]; omega
    · have:=f rfl
      simp only [if_true]; omega
end
end Go.Proofs.YtlcdifnmkafcfaaGreat
set_option linter.unusedVariables false
namespace Go.Proofs.YtlcdifnmkafcfaaGreat
open Go.Lx
def Bt (lo hi:Int) (l:List Int):Prop:=∀x∈l,lo≤x∧x<hi
theorem Bt.set {lo hi:Int} {l:List Int} (h:Bt lo hi l) {i:Nat} {x:Int} (hx:lo≤x∧x<hi):Bt lo hi (l.set i x):=fun y hy=>(nZ hy).elim (h y) fun e=>by rw [e]; exact hx
theorem Bt.more {lo hi hi':Int} {l:List Int} (h:Bt lo hi l) (hh:hi≤hi'):Bt lo hi' l:=fun y hy=>⟨(h y hy).1,Int.lt_of_lt_of_le (h y hy).2 hh⟩
theorem Bt.app {lo hi:Int} {l:List Int} {x:Int} (h:Bt lo hi l) (hx:lo≤x∧x<hi):Bt lo hi (l++[x]):=fun y hy=>by
  rcases List.mem_append.1 hy with hy|hy
  · exact h y hy
  · rw [List.mem_singleton.1 hy]; exact hx
theorem Bt.rep {lo hi x:Int} (n:Nat) (hx:lo≤x∧x<hi):Bt lo hi (List.replicate n x):=fun y hy=>by rw [(List.mem_replicate.1 hy).2]; exact hx
structure WM (m:T_DFA):Prop where
  cls:m.Class.length=256
  pos:1≤m.Next.length
  acc:m.Accept.length=m.Next.length
  inc:Bt 0 ((cols m:Nat):Int) m.Class
  row:∀r∈m.Next,r.length=cols m∧Bt (-1) (m.Next.length:Int) r
theorem uk {m:Nat} {l:List Int} (hn:l.Nodup) (h:Bt 0 (m:Int) l):l.length≤m:=by
  have:=rk l ((List.range m).map fun (i:Nat)=>(i:Int)) hn fun x hx=>by
    have:=h x hx
    exact List.mem_map.2 ⟨x.toNat,List.mem_range.2 (by omega),by omega⟩
  simpa using this
def Rows (k:Nat) (hi:Int) (l:List (List Int)):Prop:=∀r∈l,r.length=k∧Bt (-1) hi r
theorem Rows.app {k:Nat} {hi hi':Int} {l:List (List Int)} {r:List Int} (h:Rows k hi l) (hh:hi≤hi') (hr:r.length=k∧Bt (-1) hi' r):Rows k hi' (l++[r]):=fun x hx=>by
  rcases List.mem_append.1 hx with hx|hx
  · exact ⟨(h x hx).1,(h x hx).2.more hh⟩
  · rw [List.mem_singleton.1 hx]; exact hr
section
variable {d:T_DFA} (h:Ok d) (h6:cols d≤256)
include h
theorem xK {s:Int} {b:Nat} (h1:0≤s) (h2:s<d.Next.length) (hb:b<256):Is (M.j4 d s (b:Int)) (fun e=>-1≤e∧e<(d.Next.length:Int)):=by
  unfold M.j4
  refine Is.df (by omega) (Is.idx h1 h2 fun r hr _=>Is.idx (by omega) (by rw [h.cls]; omega) fun c hc _=>?_)
  have:=h.inc c hc
  have hr2:=h.row r hr
  exact Is.idx this.1 (by rw [hr2.1]; exact this.2) fun e he _=>Is.pure (hr2.2 e he)
include h6
theorem ta:Is (M.f6 d) WM:=by
  have hm:=h.max
  have hp:=h.pos
  generalize hN:d.Next.length=n at hm hp
  unfold M.f6
  refine Is.bnd (rM h h6) fun t ht=>?_
  rw [hN] at ht ⊢
  refine Is.add1 (by omega) (Is.bnq (eO (by omega)) ?_)
  -- the representatives
  refine Is.bnd (P:=fun l:List Int=>l.length=n+1∧Bt 0 ((n+1:Nat):Int) l) ?_ fun rep hrep=>?_
  · refine Is.upto (fun i (st:List Int×Int)=>st.2=(i:Int)∧st.1.length=n+1∧Bt 0 ((n+1:Nat):Int) st.1) (n+1) (by omega) ⟨rfl,by simp,Bt.rep _ (by omega)⟩ ?_ ?_
    · rintro i ⟨l,_⟩ hi ⟨rfl,g1,A⟩
      simp only at g1 A
      refine Is.dt (by omega) (Is.bnd (P:=fun l:List Int=>l.length=n+1∧Bt 0 ((n+1:Nat):Int) l) ?_ fun X R=>Is.add1 (by omega) (Is.next ⟨rfl,R⟩))
      refine Is.setv (by omega) (by rw [g1]; omega) (Is.bnq (x:=((n:Int) - 1)) (cJ (by omega) (by omega)) ?_)
      refine Is.while (fun st:List Int×Int=>-1≤st.2∧st.2<(n:Int)∧st.1.length=n+1∧Bt 0 ((n+1:Nat):Int) st.1) (fun st=>(st.2+1).toNat) ⟨by simp only; omega,by simp only; omega,by rw [List.length_set]; exact g1,A.set (by omega)⟩ (by simp only; omega) ?_
      rintro ⟨l,k⟩ ⟨q,m,f,s⟩
      simp only at q m f s
      refine Is.dcd (fun hk=>?_) (fun _=>Is.stop ⟨f,s⟩)
      refine Is.bnd (P:=fun l:List Int=>l.length=n+1∧Bt 0 ((n+1:Nat):Int) l) ?_ fun X R=>Is.bnq (x:=k - 1) (cJ (by omega) (by omega)) (Is.next ⟨⟨by simp only; omega,by simp only; omega,R⟩,by simp only; omega⟩)
      refine Is.bnd (P:=fun _=>True) ?_ fun e _=>Is.cnd (fun _=>Is.setv (by omega) (by rw [f]; omega) (Is.pure ⟨by rw [List.length_set]; exact f,s.set (by omega)⟩)) (fun _=>Is.pure ⟨f,s⟩)
      refine Is.idx (by omega) (by rw [ht.1]; omega) fun r hr _=>Is.idx (by omega) (by rw [ht.2 r hr]; omega) fun b _ _=>Is.cnd (fun _=>Is.idx (by omega) (by rw [ht.2 r hr]; omega) fun _ _ _=>Is.pure trivial) (fun _=>Is.pure trivial)
    · rintro ⟨l,_⟩ ⟨rfl,g1,A⟩
      exact Is.df (by omega) (Is.stop ⟨g1,A⟩)
  obtain ⟨W,T⟩:=hrep
  refine Is.idx (by omega) (by omega) fun r0 a2 _=>?_
  -- the order and the rows
  refine Is.bnd (P:=fun st:List Int×List (List Int)=>1≤st.1.length∧st.1.length≤n+1∧Bt 0 ((n+1:Nat):Int) st.1∧st.2.length=st.1.length∧Rows 256 (st.1.length:Int) st.2) ?_ ?_
  · refine Is.while (fun st:List Int×List (List Int)×Int=>∃i:Nat,st.2.2=(i:Int)∧i≤st.1.length∧1≤st.1.length∧st.1.Nodup∧Bt 0 ((n+1:Nat):Int) st.1∧st.2.1.length=i∧Rows 256 (st.1.length:Int) st.2.1) (fun st=>n+1 - st.2.2.toNat)
      ⟨0,rfl,by simp,by simp,by simp,fun x hx=>by rw [List.mem_singleton.1 hx]; exact T _ a2,rfl,fun r hr=>by cases hr⟩ (by simp only; omega) ?_
    rintro ⟨od,rows,_⟩ ⟨i,rfl,hi,g1,A,H,S,G⟩
    simp only at hi g1 A H S G
    have hle:=uk A H
    refine Is.dcd (fun hlt=>?_) (fun hge=>Is.stop ⟨g1,hle,H,by simp only; omega,G⟩)
    refine Is.bnd (P:=fun st:List Int×List (List Int)=>1≤st.1.length∧od.length≤st.1.length∧st.1.Nodup∧Bt 0 ((n+1:Nat):Int) st.1∧st.2.length=i+1∧Rows 256 (st.1.length:Int) st.2) ?_ (fun ⟨L,p⟩ ⟨q,m,f,s,F,I⟩=>Is.add1 (by omega) (Is.next ⟨⟨i+1,rfl,by simp only at m ⊢; omega,q,f,s,F,I⟩,by show n+1 - ((i+1:Nat):Int).toNat<n+1 - ((i:Nat):Int).toNat; omega⟩))
    refine Is.bnq (eO (B:=8) (n:=256) (by omega)) ?_
    refine Is.bnd (P:=fun st:List Int×List Int=>1≤st.1.length∧od.length≤st.1.length∧st.1.Nodup∧Bt 0 ((n+1:Nat):Int) st.1∧st.2.length=256∧Bt (-1) (st.1.length:Int) st.2) ?_ (fun ⟨L,row⟩ ⟨q,m,f,s,F,I⟩=>Is.app1 (by simp only at m; omega) (Is.pure ⟨q,m,f,s,by simp only [List.length_append,List.length_singleton]; omega,G.app (by simp only at m ⊢; omega) ⟨F,I⟩⟩))
    refine Is.upto (fun b (st:List Int×List Int×Int)=>st.2.2=(b:Int)∧1≤st.1.length∧od.length≤st.1.length∧st.1.Nodup∧Bt 0 ((n+1:Nat):Int) st.1∧st.2.1.length=256∧Bt (-1) (st.1.length:Int) st.2.1) 256 (by omega)
      ⟨rfl,g1,Nat.le_refl _,A,H,List.length_replicate,Bt.rep _ (by simp only; omega)⟩ ?_ ?_
    · rintro b ⟨D,row,_⟩ hb ⟨rfl,q,m,f,s,F,I⟩
      simp only at q m f s F I
      have a8:=uk f s
      refine Is.dt (by omega) (Is.bnd (P:=fun st:List Int×List Int=>1≤st.1.length∧od.length≤st.1.length∧st.1.Nodup∧Bt 0 ((n+1:Nat):Int) st.1∧st.2.length=256∧Bt (-1) (st.1.length:Int) st.2) ?_ (fun ⟨L,p⟩ hq=>Is.add1 (by omega) (Is.next ⟨rfl,hq⟩)))
      refine Is.setv (by omega) (by rw [F]; omega) ?_
      have q5':(row.set ((b:Nat):Int).toNat (-1)).length=256:=by rw [List.length_set]; exact F
      have q6':Bt (-1) (D.length:Int) (row.set ((b:Nat):Int).toNat (-1)):=I.set (by omega)
      refine Is.idx (by omega) (by omega) fun o ho _=>Is.cnd (fun _=>Is.pure ⟨q,m,f,s,q5',q6'⟩) (fun hne=>?_)
      have a3:=s o ho
      have a7:=eN hne
      have hw:IntKind.u8.wrap (b:Int)=(b:Int):=qG hb
      rw [hw]
      refine Is.bnd (xK h a3.1 (by rw [hN]; omega) hb) fun e he=>Is.bnd (po he.2) fun v hv=>?_
      rw [hN] at hv
      refine Is.idx hv.1 (by rw [W]; omega) fun u hu _=>Is.cnd (fun _=>Is.pure ⟨q,m,f,s,q5',q6'⟩) (fun hun=>?_)
      have a0:=T u hu
      refine Is.bnd (P:=fun row:List Int=>row.length=256∧Bt (-1) (D.length:Int) row∧(row[b]?=some (-1)→u∉D)) ?_ fun a5 a1=>?_
      · refine Is.upto (fun k (st:List Int×Int)=>st.2=(k:Int)∧st.1.length=256∧Bt (-1) (D.length:Int) st.1∧(st.1[b]?=some (-1)→u∉D.take k)) D.length (by omega) ⟨rfl,q5',q6',fun _=>by simp⟩ ?_ ?_
        · rintro k ⟨V,_⟩ hk ⟨rfl,g,p,w⟩
          simp only at g p w
          refine Is.dt (by omega) (Is.bnd (P:=fun row:List Int=>row.length=256∧Bt (-1) (D.length:Int) row∧(row[b]?=some (-1)→u∉D.take (k+1))) ?_ fun r hr=>Is.add1 (by omega) (Is.next ⟨rfl,hr⟩))
          refine Is.bnq (ba hk) (Is.cnd (fun e=>Is.setv (by omega) (by rw [g]; omega) (Is.pure ⟨by rw [List.length_set]; exact g,p.set (by omega),fun hx=>?_⟩)) (fun e=>Is.pure ⟨g,p,fun hx=>?_⟩))
          · rw [Int.toNat_natCast,List.getElem?_set_self (by omega)] at hx
            have:=Option.some.inj hx
            omega
          · have:=eN e
            rw [List.take_succ_eq_append_getElem hk,List.mem_append,List.mem_singleton]
            rintro (hm|hm)
            · exact w hx hm
            · exact this hm.symm
        · rintro ⟨V,_⟩ ⟨rfl,g,p,w⟩
          rw [List.take_length] at w
          exact Is.df (by omega) (Is.stop ⟨g,p,w⟩)
      · obtain ⟨g,p,w⟩:=a1
        refine Is.idx (by omega) (by rw [g]; omega) fun x hx J=>Is.dcd (fun hneg=>?_) (fun _=>Is.pure ⟨q,m,f,s,g,p⟩)
        have hxl:=p x hx
        obtain rfl:x=-1:=by omega
        have hni:=w (by simpa using J)
        refine Is.setv (by omega) (by rw [g]; omega) (Is.app1 (by omega) (Is.pure ⟨by simp,by simp only [List.length_append,List.length_singleton]; omega,?_,s.app a0,by rw [List.length_set]; exact g,?_⟩))
        · exact List.nodup_append.2 ⟨f,by simp,fun x hx y hy=>by rw [List.mem_singleton.1 hy]; exact fun e=>hni (e ▸ hx)⟩
        · simp only [List.length_append,List.length_singleton]
          exact (p.more (by omega)).set (by omega)
    · rintro ⟨D,row,_⟩ ⟨rfl,hq⟩
      exact Is.df (by omega) (Is.stop hq)
  rintro ⟨od,rows⟩ ⟨g1,A,H,S,G⟩
  simp only at g1 A H S G
  -- the classes
  refine Is.bnq (eO (B:=8) (n:=256) (by omega)) ?_
  refine Is.bnd (P:=fun st:List Int×List Int=>st.1.length=256∧Bt 0 (st.2.length:Int) st.1∧st.2.length≤256∧Bt 0 256 st.2) ?_ ?_
  · refine Is.upto (fun b (st:List Int×List Int×Int)=>st.2.2=(b:Int)∧st.1.length=256∧(∀j x,j<b→st.1[j]?=some x→0≤x∧x<(st.2.1.length:Int))∧st.2.1.length≤b∧Bt 0 256 st.2.1) 256 (by omega) ⟨rfl,List.length_replicate,fun j x hj=>by omega,Nat.le_refl _,fun x hx=>by cases hx⟩ ?_ ?_
    · rintro b ⟨cl,bs,_⟩ hb ⟨rfl,q,m,f,s⟩
      simp only at q m f s
      refine Is.dt (by omega) (Is.bnd (P:=fun st:List Int×List Int=>st.1.length=256∧(∀j x,j<b+1→st.1[j]?=some x→0≤x∧x<(st.2.length:Int))∧st.2.length≤b+1∧Bt 0 256 st.2) ?_ (fun ⟨L,p⟩ hq=>Is.add1 (by omega) (Is.next ⟨rfl,hq⟩)))
      refine Is.setv (by omega) (by rw [q]; omega) ?_
      refine Is.bnd (P:=fun K:List Int=>K.length=256∧(∀j x,j<b→K[j]?=some x→0≤x∧x<(bs.length:Int))∧∀x,K[b]?=some x→x=-1∨(0≤x∧x<(bs.length:Int))) ?_ fun K N=>?_
      · refine Is.while (fun st:List Int×Int=>∃c:Nat,st.2=(c:Int)∧c≤bs.length∧st.1.length=256∧(∀j x,j<b→st.1[j]?=some x→0≤x∧x<(bs.length:Int))∧∀x,st.1[b]?=some x→x=-1∨(0≤x∧x<(bs.length:Int))) (fun st=>bs.length - st.2.toNat)
          ⟨0,rfl,by omega,by rw [List.length_set]; exact q,fun j x hj hx=>?_,fun x hx=>?_⟩ (by simp only; omega) ?_
        · rw [Int.toNat_natCast,List.getElem?_set_ne (by omega)] at hx
          exact m j x hj hx
        · rw [Int.toNat_natCast,List.getElem?_set_self (by omega)] at hx
          exact .inl (Option.some.inj hx).symm
        rintro ⟨c1,_⟩ ⟨c,rfl,hc,g,p,w⟩
        simp only at hc g p w
        refine Is.bnd (P:=fun e=>e=true→c<bs.length) ?_ fun e he=>Is.cnd (fun e1=>?_) (fun _=>Is.stop ⟨g,p,w⟩)
        · refine Is.dcd (fun hc=>?_) (fun _=>Is.pure fun e=>by cases e)
          exact Is.idx (by omega) (by rw [g]; omega) fun _ _ _=>Is.pure fun _=>by omega
        · have hcl:=he e1
          refine Is.bnd (P:=fun c2:List Int=>c2.length=256∧(∀j x,j<b→c2[j]?=some x→0≤x∧x<(bs.length:Int))∧∀x,c2[b]?=some x→x=-1∨(0≤x∧x<(bs.length:Int))) ?_ fun c2 N=>Is.add1 (by omega) (Is.next ⟨⟨c+1,rfl,by omega,N⟩,by show bs.length - ((c+1:Nat):Int).toNat<bs.length - ((c:Nat):Int).toNat; omega⟩)
          refine Is.bnd (P:=fun _=>True) ?_ fun e _=>Is.cnd (fun _=>Is.setv (by omega) (by rw [g]; omega) (Is.pure ⟨by rw [List.length_set]; exact g,fun j x hj hx=>?_,fun x hx=>?_⟩)) (fun _=>Is.pure ⟨g,p,w⟩)
          · refine Is.upto (fun i (st:Bool×Int)=>st.2=(i:Int)) rows.length (by omega) rfl ?_ ?_
            · rintro i ⟨sm,_⟩ hi rfl
              refine Is.dt (by omega) (Is.cnd (fun _=>?_) (fun _=>Is.add1 (by omega) (Is.next rfl)))
              refine Is.bnq (ba hi) ?_
              have hr:=G _ (List.getElem_mem hi)
              refine Is.idx (by omega) (by rw [hr.1]; omega) fun _ _ _=>Is.idx (by omega) (by omega) fun y hy _=>?_
              have:=s y hy
              exact Is.idx this.1 (by rw [hr.1]; omega) fun _ _ _=>Is.add1 (by omega) (Is.next rfl)
            · rintro ⟨sm,_⟩ rfl
              exact Is.df (by omega) (Is.stop trivial)
          · rw [Int.toNat_natCast,List.getElem?_set_ne (by omega)] at hx
            exact p j x hj hx
          · rw [Int.toNat_natCast,List.getElem?_set_self (by omega)] at hx
            have:=Option.some.inj hx
            exact .inr (by omega)
      · obtain ⟨g,p,w⟩:=N
        refine Is.idx (by omega) (by rw [g]; omega) fun x hx J=>?_
        rw [Int.toNat_natCast] at J
        refine Is.dcd (fun hneg=>?_) (fun hnn=>Is.pure ⟨g,fun j y hj hy=>?_,by simp only; omega,s⟩)
        · refine Is.setv (by omega) (by rw [g]; omega) (Is.app1 (by omega) (Is.pure ⟨by rw [List.length_set]; exact g,fun j y hj hy=>?_,by simp only [List.length_append,List.length_singleton]; omega,s.app (by omega)⟩))
          simp only [List.length_append,List.length_singleton]
          rw [Int.toNat_natCast] at hy
          by_cases e:b=j
          · subst e
            rw [List.getElem?_set_self (by omega)] at hy
            have:=Option.some.inj hy
            omega
          · rw [List.getElem?_set_ne e] at hy
            have:=p j y (by omega) hy
            omega
        · by_cases e:b=j
          · subst e
            rw [J] at hy
            have:=w y (J.trans hy)
            have:=Option.some.inj hy
            rcases w x J with Q|Q
            · omega
            · rw [←this]; exact Q
          · exact p j y (by omega) hy
    · rintro ⟨cl,bs,_⟩ ⟨rfl,q,m,f,s⟩
      simp only at q m f s
      refine Is.df (by omega) (Is.stop ⟨q,fun x hx=>?_,f,s⟩)
      obtain ⟨j,hj⟩:=List.getElem?_of_mem hx
      have Q:j<cl.length:=(List.getElem?_eq_some_iff.1 hj).1
      exact m j x (by omega) hj
  rintro ⟨cl,bs⟩ ⟨c1,c2,c3,U⟩
  simp only at c1 c2 c3 U
  -- the rows of the classes
  refine Is.bnd (P:=fun st:List (List Int)×List Int=>st.1.length=rows.length∧st.2.length=rows.length∧Rows bs.length (od.length:Int) st.1) ?_ ?_
  · refine Is.upto (fun i (st:List (List Int)×List Int×Int)=>st.2.2=(i:Int)∧st.1.length=i∧st.2.1.length=i∧Rows bs.length (od.length:Int) st.1) rows.length (by omega) ⟨rfl,rfl,rfl,fun r hr=>by cases hr⟩ ?_ ?_
    · rintro i ⟨nx,ac,_⟩ hi ⟨rfl,q,m,f⟩
      simp only at q m f
      refine Is.dt (by omega) (Is.bnd (P:=fun st:List (List Int)×List Int=>st.1.length=i+1∧st.2.length=i+1∧Rows bs.length (od.length:Int) st.1) ?_ (fun ⟨a,b⟩ hq=>Is.add1 (by omega) (Is.next ⟨rfl,hq⟩)))
      refine Is.bnd (P:=fun r:List Int=>r.length=bs.length∧Bt (-1) (od.length:Int) r) ?_ fun r hr=>?_
      · refine Is.upto (fun c (st:List Int×Int)=>st.2=(c:Int)∧st.1.length=c∧Bt (-1) (od.length:Int) st.1) bs.length (by omega) ⟨rfl,rfl,fun x hx=>by cases hx⟩ ?_ ?_
        · rintro c ⟨r,_⟩ hc ⟨rfl,g,p⟩
          simp only at g p
          have hr:=G _ (List.getElem_mem hi)
          refine Is.dt (by omega) (Is.bnq (ba hi) (Is.idx (by omega) (by omega) fun y hy _=>?_))
          have Y:=U y hy
          exact Is.idx Y.1 (by rw [hr.1]; omega) fun z hz _=>Is.app1 (by omega) (Is.add1 (by omega) (Is.next ⟨rfl,by simp [g],p.app (hr.2 z hz)⟩))
        · rintro ⟨r,_⟩ ⟨rfl,g,p⟩
          exact Is.df (by omega) (Is.stop ⟨g,p⟩)
      · refine Is.app1 (by omega) (Is.idx (by omega) (by omega) fun o ho _=>Is.cnd (fun _=>Is.app1 (by omega) (Is.pure ⟨by simp [q],by simp [m],f.app (Int.le_refl _) hr⟩)) (fun hne=>?_))
        have:=H o ho
        have:=eN hne
        exact Is.idx (by omega) (by rw [h.acc,hN]; omega) fun _ _ _=>Is.app1 (by omega) (Is.pure ⟨by simp [q],by simp [m],f.app (Int.le_refl _) hr⟩)
    · rintro ⟨nx,ac,_⟩ ⟨rfl,q,m,f⟩
      exact Is.df (by omega) (Is.stop ⟨q,m,f⟩)
  rintro ⟨nx,ac⟩ ⟨q,m,f⟩
  simp only at q m f
  have hcols:cols ⟨cl,nx,ac⟩=bs.length:=by
    have:0<nx.length:=by omega
    unfold cols
    rw [List.getD_eq_getElem?_getD,show (⟨cl,nx,ac⟩:T_DFA).Next=nx from rfl,List.getElem?_eq_getElem this]
    exact (f _ (List.getElem_mem this)).1
  refine Is.pure ⟨c1,by show 1≤nx.length; omega,by show ac.length=nx.length; omega,by rw [hcols]; exact c2,fun r hr=>?_⟩
  rw [hcols]
  have:=f r hr
  exact ⟨this.1,this.2.more (by show (od.length:Int)≤(nx.length:Int); omega)⟩
end
end Go.Proofs.YtlcdifnmkafcfaaGreat
set_option linter.unusedVariables false
namespace Go.Proofs.YtlcdifnmkafcfaaGreat
open Go.Lx
theorem wU (acc:List Int) (l:List Int):-1≤Ai acc l:=by
  have:∀(l:List Int) (o:Int),-1≤o→-1≤l.foldl (pH acc) o:=by
    intro l
    induction l with
    | nil=>exact fun _ h=>h
    | cons x l ih=>
      intro o ho
      refine ih _ ?_
      unfold pH
      cases h:decide (0≤acc.getD x.toNat 0) && (decide (o<0) || decide (acc.getD x.toNat 0<o))
      · exact ho
      · rw [Bool.and_eq_true,decide_eq_true_eq] at h
        show -1≤acc.getD x.toNat 0
        omega
  exact this l _ (by omega)
section
variable {n:T_NFA} (hn:FitN n) (hlen:n.Arcs.length≤1000000)
include hn
def CS (n:T_NFA) (l:List (List Int)):Prop:=∀T∈l,∃U,T=su n U
omit hn in
theorem CS.app {l:List (List Int)} (h:CS n l) (U:List Int):CS n (l++[su n U]):=fun T hT=>by
  rcases List.mem_append.1 hT with hT|hT
  · exact h T hT
  · exact ⟨U,List.mem_singleton.1 hT⟩
theorem CS.len {l:List (List Int)} (h:CS n l) {T:List Int} (hT:T∈l):T.length≤2000∧∀s∈T,0≤s∧s<(n.Accept.length:Int):=by
  have:=rW hn T (h T hT)
  exact ⟨this.2,this.1⟩
include hlen
theorem vP:Is (M.d9 n) fun r=>r.2=0→Ok r.1∧cols r.1≤256:=by
  have hv:∃b,M.h0 n=some b∧b=true:=by
    obtain ⟨b,hb,h⟩:=pS (n:=n) (by omega) (by have:=hn.acc; have:=hn.most; omega)
    exact ⟨b,hb,h.2 ⟨hn.pos,hn.most,hn.start,hn.acc,hn.low,hn.arcs⟩⟩
  obtain ⟨_,hv,rfl⟩:=hv
  unfold M.d9
  refine Is.bnq hv (Is.cf rfl ?_)
  refine Is.bnd (P:=fun l:List (az 4)=>l.length≤n.Arcs.length∧∀v∈l,W4 v) ?_ fun lb hlb=>?_
  · refine Is.upto (fun i (st:List (az 4)×Int)=>st.2=(i:Int)∧st.1.length≤i∧∀v∈st.1,W4 v) n.Arcs.length (by omega) ⟨rfl,Nat.le_refl _,fun v hv=>by cases hv⟩ ?_ ?_
    · rintro i ⟨a,_⟩ hi ⟨rfl,y,w⟩
      simp only at y w
      refine Is.dt (by omega) (Is.bnd (P:=fun l:List (az 4)=>l.length≤i+1∧∀v∈l,W4 v) ?_ fun l hl=>Is.add1 (by omega) (Is.next ⟨rfl,hl⟩))
      refine Is.bnq (ba hi) (Is.cnd (fun h=>?_) (fun h=>Is.pure ⟨by omega,w⟩))
      refine Is.app1 (by omega) (Is.pure ⟨by simp only [List.length_append,List.length_singleton]; omega,fun v hv=>?_⟩)
      rcases List.mem_append.1 hv with hv|hv
      · exact w v hv
      · rw [List.mem_singleton.1 hv]; exact hn.sets _ (List.getElem_mem hi)
    · rintro ⟨a,_⟩ ⟨rfl,h⟩
      exact Is.df (by omega) (Is.stop h)
  refine Is.bnq (oM hlb.2 (by omega)) ?_
  refine Is.bnd (P:=gO (eD lb) 256) ?_ fun fb hfb=>?_
  · unfold M.j9
    exact Is.bnd (rG rfl (fun _ _=>rfl)) fun _ h=>Is.pure h
  have hfl:=hfb.len
  refine Is.bnq (ff hn (by simp)) ?_
  refine Is.bs (P:=fun st:List (List Int)×List Int=>1≤st.1.length∧st.1.length≤500∧st.2.length=st.1.length∧Rows fb.length (st.1.length:Int) st.1∧∀a∈st.2,-1≤a) (Q:=fun r:T_DFA×Int=>r.2=0→Ok r.1∧cols r.1≤256) ?_ ?_
  · refine Is.while (fun st:List (List Int)×List (List Int)×List Int×Int=>∃i:Nat,st.2.2.2=(i:Int)∧i≤st.1.length∧st.2.1.length=i∧st.2.2.1.length=i∧CS n st.1∧1≤st.1.length∧st.1.length≤500∧Rows fb.length (st.1.length:Int) st.2.1∧∀a∈st.2.2.1,-1≤a) (fun st=>501 - st.2.2.2.toNat)
      ⟨0,rfl,by simp,rfl,rfl,fun T hT=>⟨_,List.mem_singleton.1 hT⟩,by simp,by simp,(fun r hr=>by cases hr),(fun a ha=>by cases ha)⟩ (by first|omega|(simp only; omega)) ?_
    rintro ⟨sets,nx,ac,_⟩ ⟨i,rfl,hi,hnx,hac,hcs,y,z,hrw,haa⟩
    simp only at hi hnx hac hcs y z hrw haa
    refine Is.dcd (fun hil=>?_) (fun hge=>Is.stop ?_)
    case refine_2=>
      show 1≤nx.length∧_
      have e:nx.length=sets.length:=by omega
      rw [e]
      exact ⟨y,z,(by show ac.length=_; omega),hrw,haa⟩
    have hil:i<sets.length:=by omega
    refine Is.bs (P:=fun st:List (List Int)×List (List Int)×List Int=>st.2.1.length=i+1∧st.2.2.length=i+1∧CS n st.1∧sets.length≤st.1.length∧st.1.length≤500∧Rows fb.length (st.1.length:Int) st.2.1∧∀a∈st.2.2,-1≤a) ?_ ?_
    · refine Is.bnd (P:=fun st:List (List Int)×List Int=>st.2.length=fb.length∧CS n st.1∧sets.length≤st.1.length∧st.1.length≤sets.length+256∧Bt (-1) (st.1.length:Int) st.2) ?_ ?_
      · refine Is.upto (fun c (st:List (List Int)×List Int×Int)=>st.2.2=(c:Int)∧st.2.1.length=c∧CS n st.1∧sets.length≤st.1.length∧st.1.length≤sets.length+c∧Bt (-1) (st.1.length:Int) st.2.1) fb.length (by omega)
          ⟨rfl,rfl,hcs,Nat.le_refl _,Nat.le_refl _,fun x hx=>by cases hx⟩ ?_ ?_
        · rintro c ⟨p,row,_⟩ hc ⟨rfl,g1,d,g,m,f⟩
          simp only at g1 d g m f
          refine Is.dt (by omega) ?_
          obtain ⟨b,H,G⟩:=hfb.byte hc
          refine Is.bnd (P:=fun st:List (List Int)×List Int=>st.2.length=c+1∧CS n st.1∧sets.length≤st.1.length∧st.1.length≤sets.length+(c+1)∧Bt (-1) (st.1.length:Int) st.2) ?_ fun st h=>Is.add1 (by omega) (Is.next ⟨rfl,h⟩)
          refine Is.idx (by omega) (by omega) fun S hS _=>?_
          have hSl:=d.len hn hS
          have hsl:=(rW hn (Dq n S b) ⟨_,rfl⟩).2
          refine Is.bnq G (Is.bnq (sC hn (by omega) H) (Is.bnq (ff hn (by omega)) ?_))
          refine Is.cnd (fun _=>Is.app1 (by omega) (Is.pure ⟨by simp only [List.length_append,List.length_singleton]; omega,d,g,by first|omega|(simp only; omega),f.app (by first|omega|(simp only; omega))⟩)) (fun _=>?_)
          refine Is.bnd (yo (l:=p) (by omega) (fun T hT=>by have:=(d.len hn hT).1; omega)) fun k hk=>?_
          refine Is.bnd (P:=fun st:List (List Int)×Int=>CS n st.1∧sets.length≤st.1.length∧p.length≤st.1.length∧st.1.length≤sets.length+(c+1)∧0≤st.2∧st.2<(st.1.length:Int)) ?_ ?_
          · refine Is.dcd (fun _=>Is.app1 (by omega) (Is.pure ⟨d.app _,by simp only [List.length_append,List.length_singleton]; omega,by simp,by simp only [List.length_append,List.length_singleton]; omega,by first|omega|(simp only; omega),by simp only [List.length_append,List.length_singleton]; omega⟩)) (fun F=>Is.pure ⟨d,g,Nat.le_refl _,by first|omega|(simp only; omega),by first|omega|(simp only; omega),?_⟩)
            rcases hk with ⟨hk,_⟩|⟨j,rfl,hj⟩
            · exact absurd hk F
            · have:=(List.getElem?_eq_some_iff.1 hj).1
              simp only; omega
          · rintro ⟨I,K⟩ ⟨u,q,t,o,s,D⟩
            simp only at q t o s D
            exact Is.app1 (by omega) (Is.pure ⟨by simp only [List.length_append,List.length_singleton]; omega,u,q,o,(f.more (by first|omega|(simp only; omega))).app (by first|omega|(simp only; omega))⟩)
        · rintro ⟨p,row,_⟩ ⟨rfl,g1,d,g,m,f⟩
          exact Is.df (by omega) (Is.stop ⟨g1,d,g,by simp only at m ⊢; omega,f⟩)
      · rintro ⟨p,row⟩ ⟨g1,d,g,m,f⟩
        simp only at g1 d g m f
        refine Is.dcd (fun h=>Is.stop (by show (11:Int)=0→_; exact fun e=>absurd e (by decide))) (fun h=>?_)
        refine Is.idx (by omega) (by omega) fun S hS _=>?_
        have hSl:=d.len hn hS
        refine Is.app1 (by omega) (Is.bnq (ws hSl.2 (by omega)) (Is.app1 (by omega) (Is.next ⟨by simp only [List.length_append,List.length_singleton]; omega,by simp only [List.length_append,List.length_singleton]; omega,d,g,by first|omega|(simp only; omega),hrw.app (by first|omega|(simp only; omega)) ⟨g1,f⟩,fun a ha=>?_⟩)))
        rcases List.mem_append.1 ha with ha|ha
        · exact haa a ha
        · rw [List.mem_singleton.1 ha]; exact wU _ _
    · rintro ⟨p,J,L⟩ ⟨g1,d,g,m,f,B,A⟩
      simp only at g1 d g m f B A
      exact Is.add1 (by omega) (Is.next ⟨⟨i+1,rfl,by first|omega|(simp only; omega),g1,d,g,by first|omega|(simp only; omega),f,B,A⟩,by show 501 - ((i+1:Nat):Int).toNat<501 - ((i:Nat):Int).toNat; omega⟩)
  · rintro ⟨nx,ac⟩ ⟨u,q,t,o,s⟩
    simp only at u q t o s
    refine Is.pure fun _=>?_
    have hcols:cols ⟨qq lb,nx,ac⟩=fb.length:=by
      have:0<nx.length:=by omega
      unfold cols
      rw [List.getD_eq_getElem?_getD,show (⟨qq lb,nx,ac⟩:T_DFA).Next=nx from rfl,List.getElem?_eq_getElem this]
      exact (o _ (List.getElem_mem this)).1
    refine ⟨⟨by simp [qq],u,q,t,by rw [hcols]; exact hfl.1,fun c hc=>?_,fun r hr=>?_,s⟩,by rw [hcols]; exact hfl.2⟩
    · rw [hcols]
      obtain ⟨b,hb,rfl⟩:=List.mem_map.1 (show c∈(List.range 256).map fun i=>(cls (eD lb) i:Int) from hc)
      obtain ⟨_,_,w,_⟩:=hfb.at (List.mem_range.1 hb)
      omega
    · rw [hcols]
      exact o r hr
end
end Go.Proofs.YtlcdifnmkafcfaaGreat
namespace Go.Proofs.YtlcdifnmkafcfaaGreat
open Go.Lx
inductive bP:T_Regex→Prop where
  | mk (x:T_Regex):(uE .i64) x.Kind→(fun v=>∀x∈v.1,uE .u64 x) x.Set→(∀y∈x.Kids,bP y)→x.Kids.length≤maxLen→bP x
end Go.Proofs.YtlcdifnmkafcfaaGreat
namespace Go.Proofs.YtlcdifnmkafcfaaGreat
open Go.Lx
theorem T_Regex.ind {P:T_Regex→Prop} (h:∀k s l,(∀y∈l,P y)→P ⟨k,s,l⟩):∀x,P x
  | ⟨k,s,l⟩=>h k s l fun y _=>T_Regex.ind h y
theorem iy {k s l} (h:bP ⟨k,s,l⟩):∀y∈l,bP y:=by cases h; assumption
theorem sT {k s l} (h:bP ⟨k,s,l⟩):l.length≤maxLen:=by cases h; assumption
theorem wa {k s l} (h:bP ⟨k,s,l⟩):∀x∈s.1,uE .u64 x:=by cases h; assumption
def gS (k:Int) (s:az 4) (n:Nat):Bool:=
  bif k == 1 || k == 2 then n == 0 && s == az.zero 4
  else bif k == 3 then n == 0 && s != az.zero 4
  else bif k == 4 || k == 5 then decide (2≤n) && s == az.zero 4
  else bif k == 6 then n == 1 && s == az.zero 4
  else false
def V:Nat→T_Regex→Bool
  | 0,_=>false
  | d+1,x=>gS x.Kind x.Set x.Kids.length && x.Kids.all (V d)
theorem ol {α ρ:Type} {l:List α} {f:α→Option Bool} {p:α→Bool} {X Y:ρ} (hf:∀y∈l,f y=some (p y)) (hl:l.length≤9223372036854775807) :
    aT (fun (i:Int)=>bif decide (i<(l.length:Int)) then (bo l i).bind fun e=>(f e).bind fun r=>bif (!r) then some (.stop X) else (bU .i64 (i+1)).bind fun t=>some (.next t)
      else some (.stop Y)) aR (0:Int)=some (if l.all p then Y else X):=by
  refine Is.eq ?_
  refine Is.upto (fun i s=>s=(i:Int)∧(l.take i).all p=true) l.length hl ⟨rfl,by simp⟩ ?_ ?_
  · rintro i _ hi ⟨rfl,hJ⟩
    refine Is.dt (by omega) (Is.bnq (ba hi) (Is.bnq (hf _ (List.getElem_mem hi)) ?_))
    refine Is.cnd (fun h=>?_) (fun h=>?_)
    · have h:p l[i]=false:=by simpa using h
      refine Is.stop ?_
      rw [if_neg]
      intro a
      have:=List.all_eq_true.1 a _ (List.getElem_mem hi)
      rw [h] at this; exact absurd this (by simp)
    · have h:p l[i]=true:=by simpa using h
      refine Is.bnq (bc (by omega)) (Is.next ⟨rfl,?_⟩)
      rw [List.take_add_one,List.all_append,hJ,List.getElem?_eq_getElem hi]
      simp [h]
  · rintro _ ⟨rfl,hJ⟩
    refine Is.df (by omega) (Is.stop ?_)
    rw [List.take_length] at hJ
    rw [if_pos hJ]
theorem rr {α ρ:Type} {l:List α} {f:α→Option Bool} {p:α→Bool} {X Y:ρ} (hf:∀y∈l,f y=some (p y)) (hl:l.length≤9223372036854775807) :
    aT (fun (i:Int)=>bif decide (i<(l.length:Int)) then (bo l i).bind fun e=>(f e).bind fun r=>bif r then some (.stop X) else (bU .i64 (i+1)).bind fun t=>some (.next t)
      else some (.stop Y)) aR (0:Int)=some (if l.any p then X else Y):=by
  refine Is.eq ?_
  refine Is.upto (fun i s=>s=(i:Int)∧(l.take i).any p=false) l.length hl ⟨rfl,by simp⟩ ?_ ?_
  · rintro i _ hi ⟨rfl,hJ⟩
    refine Is.dt (by omega) (Is.bnq (ba hi) (Is.bnq (hf _ (List.getElem_mem hi)) ?_))
    refine Is.cnd (fun h=>?_) (fun h=>?_)
    · refine Is.stop ?_
      rw [if_pos]
      exact List.any_eq_true.2 ⟨_,List.getElem_mem hi,h⟩
    · refine Is.bnq (bc (by omega)) (Is.next ⟨rfl,?_⟩)
      rw [List.take_add_one,List.any_append,hJ,List.getElem?_eq_getElem hi]
      simp [h]
  · rintro _ ⟨rfl,hJ⟩
    refine Is.df (by omega) (Is.stop ?_)
    rw [List.take_length] at hJ
    rw [if_neg (by simp [hJ])]
theorem vD:∀(d fl:Nat) (x:T_Regex),bP x→d≤30→d<fl→M.c9 fl x d=some (V d x):=by
  intro d
  induction d with
  | zero=>
    intro fl x _ _ hf
    obtain ⟨fl,rfl⟩:∃f,fl=f+1:=⟨fl - 1,by omega⟩
    simp [M.c9,V]
  | succ d ih=>
    intro fl x ok hd hf
    obtain ⟨fl,rfl⟩:∃f,fl=f+1:=⟨fl - 1,by omega⟩
    obtain ⟨k,s,l⟩:=x
    have hl:l.length≤9223372036854775807:=Nat.le_trans (sT ok) (by decide)
    have p:bU .i64 ((d+1:Nat) - 1:Int)=some (d:Int):=by rw [cJ (by omega) (by omega)]; congr 1; omega
    have q:(((d+1:Nat):Int) == 0)=false:=bM (by omega)
    have hloop:=ol (ρ:=cD Unit Bool) (f:=fun e=>M.c9 fl e d) (X:=.stop false) (Y:=.next ()) (fun y hy=>ih fl y (iy ok y hy) (by omega) (by omega)) hl
    have hb:(s != az.zero 4)=!(s == az.zero 4):=rfl
    unfold M.c9 V gS
    simp only [p,q,Option.bind_some,cond_false,hb]
    rw [hloop]
    have a:l.length=0→l.all (V d)=true:=by intro h; rw [List.eq_nil_of_length_eq_zero h]; rfl
    generalize l.all (V d)=A at a ⊢
    generalize (s == az.zero 4)=z
    generalize l.length=n at a ⊢
    have ea:k=1∨k=2∨k=3∨k=4∨k=5∨k=6∨(k≠1∧k≠2∧k≠3∧k≠4∧k≠5∧k≠6):=by omega
    clear hloop hl ok ih hb
    have F:∀m:Nat,decide ((m:Int)+1+1<2)=false:=fun m=>dI (by omega)
    have D:∀m:Nat,decide ((m:Int)+1+1≤0)=false:=fun m=>dI (by omega)
    have B:∀m:Nat,((m:Int)+1+1 == 0)=false:=fun m=>bM (by omega)
    have w:∀m:Nat,((m:Int)+1+1 == 1)=false:=fun m=>bM (by omega)
    have v4:∀m:Nat,((m:Int)+1+1 != 1)=true:=fun m=>ij (by omega)
    have v:∀m:Nat,decide ((0:Int)<(m:Int)+1+1)=true:=fun m=>dH (by omega)
    have u:∀m:Nat,decide ((1:Int)<(m:Int)+1+1)=true:=fun m=>dH (by omega)
    have t:∀m:Nat,decide ((m:Int)+1+1<0)=false:=fun m=>dI (by omega)
    have r:∀m:Nat,decide ((m:Int)+1+1<1)=false:=fun m=>dI (by omega)
    rcases ea with rfl|rfl|rfl|rfl|rfl|rfl|⟨o,j,b,i,g,c⟩ <;> rcases n with _|_|n <;> cases z <;> cases A <;> first|exact absurd (a rfl) (by decide)|(simp [bg, *]; done)|(have N:=bM o; have L:=bM j; have K:=bM b; have J:=bM i; have I:=bM g; have H:=bM c; have G:=ij b; simp [bg, *])
theorem qV:∀(d fl:Nat) (x:T_Regex),bP x→d≤30→d<fl→M.d3 fl x ((30 - d:Nat):Int)=some (V d x):=by
  intro d
  induction d with
  | zero=>
    intro fl x _ _ hf
    obtain ⟨fl,rfl⟩:∃f,fl=f+1:=⟨fl - 1,by omega⟩
    simp [M.d3,V]
  | succ d ih=>
    intro fl x ok hd hf
    obtain ⟨fl,rfl⟩:∃f,fl=f+1:=⟨fl - 1,by omega⟩
    obtain ⟨k,s,l⟩:=x
    have hl:l.length≤9223372036854775807:=Nat.le_trans (sT ok) (by decide)
    have p:bU .i64 (((30 - (d+1):Nat):Int)+1)=some ((30 - d:Nat):Int):=by rw [cJ (by omega) (by omega)]; congr 1; omega
    have q:decide (30≤((30 - (d+1):Nat):Int))=false:=decide_eq_false (by omega)
    have hloop:=ol (ρ:=cD Unit Bool) (f:=fun e=>M.d3 fl e ((30 - d:Nat):Int)) (X:=.stop false) (Y:=.next ()) (fun y hy=>ih fl y (iy ok y hy) (by omega) (by omega)) hl
    have hb:(s != az.zero 4)=!(s == az.zero 4):=rfl
    unfold M.d3 V gS
    simp only [p,q,Option.bind_some,cond_false,hb]
    rw [hloop]
    have a:l.length=0→l.all (V d)=true:=by intro h; rw [List.eq_nil_of_length_eq_zero h]; rfl
    generalize l.all (V d)=A at a ⊢
    generalize (s == az.zero 4)=z
    generalize l.length=n at a ⊢
    have ea:k=1∨k=2∨k=3∨k=4∨k=5∨k=6∨(k≠1∧k≠2∧k≠3∧k≠4∧k≠5∧k≠6):=by omega
    clear hloop hl ok ih hb
    have F:∀m:Nat,decide ((m:Int)+1+1<2)=false:=fun m=>dI (by omega)
    have D:∀m:Nat,decide ((m:Int)+1+1≤0)=false:=fun m=>dI (by omega)
    have B:∀m:Nat,((m:Int)+1+1 == 0)=false:=fun m=>bM (by omega)
    have w:∀m:Nat,((m:Int)+1+1 == 1)=false:=fun m=>bM (by omega)
    have v4:∀m:Nat,((m:Int)+1+1 != 1)=true:=fun m=>ij (by omega)
    have v:∀m:Nat,decide ((0:Int)<(m:Int)+1+1)=true:=fun m=>dH (by omega)
    have u:∀m:Nat,decide ((1:Int)<(m:Int)+1+1)=true:=fun m=>dH (by omega)
    have t:∀m:Nat,decide ((m:Int)+1+1<0)=false:=fun m=>dI (by omega)
    have r:∀m:Nat,decide ((m:Int)+1+1<1)=false:=fun m=>dI (by omega)
    rcases ea with rfl|rfl|rfl|rfl|rfl|rfl|⟨o,j,b,i,g,c⟩ <;> rcases n with _|_|n <;> cases z <;> cases A <;> first|exact absurd (a rfl) (by decide)|(simp [bg, *]; done)|(have N:=bM o; have L:=bM j; have K:=bM b; have J:=bM i; have I:=bM g; have H:=bM c; have G:=ij b; simp [bg, *])
theorem sj {x:T_Regex} (ok:bP x):M.h7 x=some (V 30 x):=by
  unfold M.h7
  rw [show M.c9 aR x 30=some (V 30 x) from vD 30 aR x ok (by omega) (by unfold aR; omega)]
  rfl
theorem iY {x:T_Regex} (ok:bP x):M.f7 x=some (V 30 x):=by
  unfold M.f7
  rw [show M.d3 aR x 0=some (V 30 x) from qV 30 aR x ok (by omega) (by unfold aR; omega)]
  rfl
mutual
def parts:T_Regex→Nat
  | ⟨_,_,l⟩=>bm l+1
def bm:List T_Regex→Nat
  | []=>0
  | y::l=>parts y+bm l
end
mutual
def height:T_Regex→Nat
  | ⟨_,_,l⟩=>bK l+1
def bK:List T_Regex→Nat
  | []=>0
  | y::l=>max (height y) (bK l)
end
theorem gK (l m:List T_Regex):bm (l++m)=bm l+bm m:=by
  induction l with
  | nil=>simp [bm]
  | cons y l ih=>simp only [List.cons_append,bm,ih]; omega
theorem jn (l m:List T_Regex):bK (l++m)=max (bK l) (bK m):=by
  induction l with
  | nil=>simp [bK]
  | cons y l ih=>simp only [List.cons_append,bK,ih]; omega
theorem dM {l:List T_Regex} {y:T_Regex} (h:y∈l):parts y≤bm l:=by
  induction l with
  | nil=>cases h
  | cons z l ih=>
    simp only [bm]
    rcases List.mem_cons.1 h with rfl|h
    · omega
    · have:=ih h; omega
theorem ew {l:List T_Regex} {y:T_Regex} (h:y∈l):height y≤bK l:=by
  induction l with
  | nil=>cases h
  | cons z l ih=>
    simp only [bK]
    rcases List.mem_cons.1 h with rfl|h
    · omega
    · have:=ih h; omega
theorem jC (x:T_Regex):1≤parts x:=by obtain ⟨k,s,l⟩:=x; simp [parts]
theorem fG (l:List T_Regex):l.length≤bm l:=by
  induction l with
  | nil=>simp
  | cons y l ih=>simp only [List.length_cons,bm]; have:=jC y; omega
end Go.Proofs.YtlcdifnmkafcfaaGreat
namespace Go.Proofs.YtlcdifnmkafcfaaGreat
open Go.Lx
open Classical
def dc:T_Regex:=⟨1,az.zero 4,[]⟩
def cN:T_Regex:=⟨2,az.zero 4,[]⟩
mutual
def nb:T_Regex→Bool
  | ⟨k,_,l⟩=>bif k == 2 || k == 6 then true else bif k == 4 then Ar l else bif k == 5 then Aq l else false
def Ar:List T_Regex→Bool
  | []=>true
  | y::l=>nb y && Ar l
def Aq:List T_Regex→Bool
  | []=>false
  | y::l=>nb y || Aq l
end
def mn (r:T_Regex):List T_Regex:=(bif r.Kind == 5 then r.Kids else [r]).filter (·.Kind != 1)
noncomputable def fX (ks:List T_Regex) (k:T_Regex):List T_Regex:=if k∈ks then ks else ks++[k]
noncomputable def kM (l:List T_Regex):List T_Regex:=(l.flatMap mn).foldl fX []
def wr (k:Int) (e:T_Regex):List T_Regex→T_Regex
  | []=>e
  | [y]=>y
  | y::z::l=>⟨k,az.zero 4,y::z::l⟩
noncomputable def un (l:List T_Regex):T_Regex:=wr 5 dc (kM l)
def ne (l:List T_Regex):List T_Regex:=l.filter (·.Kind != 2)
def ct (l:List T_Regex):T_Regex:=match l.find? (·.Kind == 1) with
  | some e=>e
  | none=>wr 4 cN (ne l)
mutual
noncomputable def dr:T_Regex→Nat→T_Regex
  | ⟨k,s,l⟩,b=>bif k == 3 then (bif fF s b then cN else dc) else bif k == 4 then un (lr l b) else bif k == 5 then un (lq l b)
    else bif k == 6 then ct [(lq l b).headD dc,⟨k,s,l⟩] else dc
noncomputable def lr:List T_Regex→Nat→List T_Regex
  | [],_=>[]
  | y::l,b=>ct (dr y b::l)::(bif nb y then lr l b else [])
noncomputable def lq:List T_Regex→Nat→List T_Regex
  | [],_=>[]
  | y::l,b=>dr y b::lq l b
end
inductive St (P:List Nat→Prop):List Nat→Prop where
  | nil:St P []
  | cons {u v:List Nat}:P u→St P v→St P (u++v)
mutual
def L:T_Regex→List Nat→Prop
  | ⟨k,s,l⟩=>fun w=>(k=2∧w=[])∨(k=3∧∃b,w=[b]∧fF s b=true)∨(k=4∧LC l w)∨(k=5∧LU l w)∨(k=6∧St (LH l) w)
def LC:List T_Regex→List Nat→Prop
  | []=>fun w=>w=[]
  | y::l=>fun w=>∃u v,w=u++v∧L y u∧LC l v
def LU:List T_Regex→List Nat→Prop
  | []=>fun _=>False
  | y::l=>fun w=>L y w∨LU l w
def LH:List T_Regex→List Nat→Prop
  | []=>fun _=>False
  | y::_=>fun w=>L y w
end
theorem Aw {s l w}:¬ L ⟨1,s,l⟩ w:=by simp [L]
theorem yY {x:T_Regex} {w:List Nat} (h:x.Kind=1):¬ L x w:=by obtain ⟨k,s,l⟩:=x; cases h; exact Aw
theorem zt {s l w}:L ⟨2,s,l⟩ w↔w=[]:=by simp [L]
theorem BR {x:T_Regex} {w:List Nat} (h:x.Kind=2):L x w↔w=[]:=by obtain ⟨k,s,l⟩:=x; cases h; exact zt
theorem Av {s l w}:L ⟨3,s,l⟩ w↔∃b,w=[b]∧fF s b=true:=by simp [L]
theorem BS {s l w}:L ⟨4,s,l⟩ w↔LC l w:=by simp [L]
theorem Au {s l w}:L ⟨5,s,l⟩ w↔LU l w:=by simp [L]
theorem An {s l w}:L ⟨6,s,l⟩ w↔St (LH l) w:=by simp [L]
theorem BT {k s l w} (h2:k≠2) (h3:k≠3) (h4:k≠4) (h5:k≠5) (h6:k≠6):¬ L ⟨k,s,l⟩ w:=by simp [L,h2,h3,h4,h5,h6]
theorem oF {l:List T_Regex} {w:List Nat}:LU l w↔∃y∈l,L y w:=by
  induction l with
  | nil=>simp [LU]
  | cons y l ih=>simp [LU,ih]
theorem wg (l:List T_Regex):Ar l=l.all nb:=by
  induction l with
  | nil=>rfl
  | cons y l ih=>simp [Ar,ih]
theorem sY (l:List T_Regex):Aq l=l.any nb:=by
  induction l with
  | nil=>rfl
  | cons y l ih=>simp [Aq,ih]
theorem Ao {l:List T_Regex}:LC l []↔∀y∈l,L y []:=by
  induction l with
  | nil=>simp [LC]
  | cons y l ih=>
    simp only [LC,List.nil_eq,List.append_eq_nil_iff,List.mem_cons,forall_eq_or_imp]
    rw [←ih]
    exact ⟨fun ⟨u,v,⟨e1,e2⟩,h1,h2⟩=>by subst e1; subst e2; exact ⟨h1,h2⟩,fun ⟨h1,h2⟩=>⟨[],[],⟨rfl,rfl⟩,h1,h2⟩⟩
theorem ul {α:Type} {a:α} {l:List α} {P:α→Prop}:(∃r,r∈a::l∧P r)↔P a∨∃r,r∈l∧P r:=by simp
theorem ea (k:Int):k=2∨k=3∨k=4∨k=5∨k=6∨(k≠2∧k≠3∧k≠4∧k≠5∧k≠6):=by omega
theorem we:∀x,nb x=true↔L x []:=by
  refine T_Regex.ind fun k s l ih=>?_
  rcases ea k with rfl|rfl|rfl|rfl|rfl|⟨c,d,b,a,h6⟩
  · simp [nb,zt]
  · simp [nb,Av]
  · rw [BS,Ao]
    show Ar l=true↔_
    rw [wg,List.all_eq_true]
    exact ⟨fun h y hy=>(ih y hy).1 (h y hy),fun h y hy=>(ih y hy).2 (h y hy)⟩
  · rw [Au,oF]
    show Aq l=true↔_
    rw [sY,List.any_eq_true]
    exact ⟨fun ⟨y,hy,h⟩=>⟨y,hy,(ih y hy).1 h⟩,fun ⟨y,hy,h⟩=>⟨y,hy,(ih y hy).2 h⟩⟩
  · rw [An]
    exact ⟨fun _=>.nil,fun _=>rfl⟩
  · have:=@BT k s l [] c d b a h6
    simp [nb,bM c,bM b,bM a,bM h6,this]
theorem wm {ks:List T_Regex} {k a:T_Regex}:a∈fX ks k↔a∈ks∨a=k:=by
  unfold fX
  split
  · rename_i h
    exact ⟨.inl,fun h'=>h'.elim id fun e=>e ▸ h⟩
  · simp
theorem pr (l:List T_Regex):∀ks a,a∈l.foldl fX ks↔a∈ks∨a∈l:=by
  induction l with
  | nil=>simp
  | cons y l ih=>
    intro ks a
    rw [List.foldl_cons,ih,wm,List.mem_cons,or_assoc]
theorem jF {l:List T_Regex} {a:T_Regex}:a∈kM l↔∃r∈l,a∈mn r:=by
  unfold kM
  rw [pr,List.mem_flatMap]
  simp
theorem sW {ks:List T_Regex} {k:T_Regex} (h:ks.Nodup):(fX ks k).Nodup:=by
  unfold fX
  split
  · exact h
  · rename_i hk
    rw [List.nodup_append]
    exact ⟨h,by simp,fun a ha b hb=>by simp at hb; subst hb; exact fun e=>hk (e ▸ ha)⟩
theorem rl (l:List T_Regex):∀ks,ks.Nodup→(l.foldl fX ks).Nodup:=by
  induction l with
  | nil=>exact fun _ h=>h
  | cons y l ih=>exact fun ks h=>ih _ (sW h)
theorem jD (l:List T_Regex):(kM l).Nodup:=rl _ _ List.nodup_nil
theorem uU {α:Type} {l:List α}:∀ {m:List α},l.Nodup→(∀x∈l,x∈m)→l.length≤m.length:=by
  induction l with
  | nil=>intro m _ _; simp
  | cons a l ih=>
    intro m hn h
    have ha:=h a (by simp)
    obtain ⟨c,b,rfl⟩:=List.append_of_mem ha
    rw [List.nodup_cons] at hn
    have:=ih (m:=c++b) hn.2 (fun x hx=>by
      have hm:=h x (List.mem_cons_of_mem _ hx)
      simp only [List.mem_append,List.mem_cons] at hm ⊢
      rcases hm with hm|rfl|hm
      · exact .inl hm
      · exact absurd hx hn.1
      · exact .inr hm)
    simp only [List.length_append,List.length_cons] at this ⊢
    omega
theorem xo {r:T_Regex} {w:List Nat}:L r w↔∃a∈mn r,L a w:=by
  obtain ⟨k,s,l⟩:=r
  unfold mn
  by_cases h:k=5
  · subst h
    rw [Au,oF]
    simp only [beq_self_eq_true,cond_true,List.mem_filter]
    exact ⟨fun ⟨y,hy,h⟩=>⟨y,⟨hy,ij fun e=>yY e h⟩,h⟩,fun ⟨y,hy,h⟩=>⟨y,hy.1,h⟩⟩
  · simp only [bM h,cond_false,List.mem_filter,List.mem_singleton]
    exact ⟨fun h'=>⟨_,⟨rfl,ij fun e=>yY e h'⟩,h'⟩,fun ⟨y,hy,h⟩=>hy.1 ▸ h⟩
theorem Ay {e:T_Regex} {l:List T_Regex} {w:List Nat} (he:∀w,¬ L e w):L (wr 5 e l) w↔∃y∈l,L y w:=by
  match l with
  | []=>simp [wr,he]
  | [y]=>simp [wr]
  | y::z::l=>rw [wr,Au,oF]
theorem Az {l:List T_Regex} {w:List Nat}:L (un l) w↔∃r∈l,L r w:=by
  unfold un
  rw [Ay (e:=dc) fun w=>(Aw:¬ L dc w)]
  constructor
  · rintro ⟨a,ha,h⟩
    obtain ⟨r,hr,hra⟩:=jF.1 ha
    exact ⟨r,hr,xo.2 ⟨a,hra,h⟩⟩
  · rintro ⟨r,hr,h⟩
    obtain ⟨a,ha,h⟩:=xo.1 h
    exact ⟨a,jF.2 ⟨r,hr,ha⟩,h⟩
theorem BU {l:List T_Regex}:∀ {w:List Nat},LC (ne l) w↔LC l w:=by
  induction l with
  | nil=>intro w; rfl
  | cons y l ih=>
    intro w
    unfold ne
    by_cases h:y.Kind=2
    · rw [List.filter_cons,if_neg (by simp [h])]
      show LC (ne l) w↔_
      rw [ih]
      simp only [LC]
      constructor
      · exact fun h'=>⟨[],w,rfl,(BR h).2 rfl,h'⟩
      · rintro ⟨u,v,rfl,hu,hv⟩
        rw [(BR h).1 hu]
        exact hv
    · rw [List.filter_cons,if_pos (by simp [h])]
      show LC (y::ne l) w↔_
      simp only [LC,ih]
theorem Ap {l:List T_Regex}:∀ {w:List Nat},LC l w→∀y∈l,∃u,L y u:=by
  induction l with
  | nil=>intro w _ y hy; cases hy
  | cons z l ih=>
    rintro w ⟨u,v,rfl,hu,hv⟩ y hy
    rcases List.mem_cons.1 hy with rfl|hy
    · exact ⟨u,hu⟩
    · exact ih hv y hy
theorem Bc {l:List T_Regex} {w:List Nat}:L (ct l) w↔LC l w:=by
  unfold ct
  split
  · rename_i e he
    have a:e.Kind=1:=by simpa using List.find?_some he
    exact ⟨fun h=>absurd h (yY a),fun h=>by obtain ⟨u,hu⟩:=Ap h e (List.mem_of_find?_eq_some he); exact absurd hu (yY a)⟩
  · rw [←BU]
    match ne l with
    | []=>rw [wr,LC]; exact zt
    | [y]=>simp [wr,LC]
    | y::z::l=>rw [wr,BS]
theorem fR {b:Nat} {w u v:List Nat}:b::w=u++v↔(u=[]∧v=b::w)∨∃u',u=b::u'∧w=u'++v:=by
  cases u with
  | nil=>simp [eq_comm]
  | cons c u=>
    simp only [List.cons_append,List.cons.injEq,reduceCtorEq,false_and,false_or]
    exact ⟨fun ⟨h1,h2⟩=>⟨u,⟨h1.symm,rfl⟩,h2⟩,fun ⟨u',⟨h1,h2⟩,h3⟩=>⟨h1.symm,h2 ▸ h3⟩⟩
theorem qA {P:List Nat→Prop} {b:Nat} {w:List Nat}:St P (b::w)↔∃u v,w=u++v∧P (b::u)∧St P v:=by
  constructor
  · intro h
    generalize hx:b::w=x at h
    induction h with
    | nil=>cases hx
    | @cons u v hu hv ih=>
      rcases fR.1 hx with ⟨rfl,rfl⟩|⟨u',rfl,rfl⟩
      · exact ih rfl
      · exact ⟨u',v,rfl,hu,hv⟩
  · rintro ⟨u,v,rfl,hu,hv⟩
    exact .cons (u:=b::u) hu hv
theorem za {y:T_Regex} {l:List T_Regex} {b:Nat} {w:List Nat} :
    LC (y::l) (b::w)↔(L y []∧LC l (b::w))∨∃u v,w=u++v∧L y (b::u)∧LC l v:=by
  simp only [LC]
  constructor
  · rintro ⟨u,v,h,hu,hv⟩
    rcases fR.1 h with ⟨rfl,rfl⟩|⟨u',rfl,rfl⟩
    · exact .inl ⟨hu,hv⟩
    · exact .inr ⟨u',v,rfl,hu,hv⟩
  · rintro (⟨hu,hv⟩|⟨u,v,rfl,hu,hv⟩)
    · exact ⟨[],_,rfl,hu,hv⟩
    · exact ⟨b::u,v,rfl,hu,hv⟩
theorem Bb {l:List T_Regex} {b:Nat}:∀ {w:List Nat},(∀y∈l,∀w,L (dr y b) w↔L y (b::w))→((∃r∈lr l b,L r w)↔LC l (b::w)):=by
  induction l with
  | nil=>intro w _; simp [lr,LC]
  | cons y l ih=>
    intro w h
    rw [za,lr]
    simp only [ul,Bc]
    have a:LC (dr y b::l) w↔∃u v,w=u++v∧L y (b::u)∧LC l v:=by simp only [LC,h y (by simp)]
    rw [a,←we]
    cases hn:nb y
    · simp
    · have:=ih (w:=w) fun z hz=>h z (List.mem_cons_of_mem _ hz)
      simp only [cond_true,this,true_and]
      exact or_comm
theorem Ba {l:List T_Regex} {b:Nat} {w:List Nat} (h:∀y∈l,∀w,L (dr y b) w↔L y (b::w)):(∃r∈lq l b,L r w)↔LU l (b::w):=by
  induction l with
  | nil=>simp [lq,LU]
  | cons y l ih=>
    rw [lq,LU]
    simp only [ul,h y (by simp),ih fun z hz=>h z (List.mem_cons_of_mem _ hz)]
theorem Ck:∀x b w,L (dr x b) w↔L x (b::w):=by
  intro x b
  revert x
  refine T_Regex.ind fun k s l ih w=>?_
  rcases ea k with rfl|rfl|rfl|rfl|rfl|⟨g,e,d,a,h6⟩
  · rw [zt]
    simp [dr,dc,Aw]
  · rw [Av]
    simp only [dr,beq_self_eq_true,cond_true]
    cases hm:fF s b
    · simp only [cond_false]
      refine ⟨fun h=>absurd h Aw,?_⟩
      rintro ⟨c,hc,h⟩
      simp only [List.cons.injEq] at hc
      rw [←hc.1,hm] at h
      cases h
    · simp only [cond_true]
      refine zt.trans ⟨fun h=>⟨b,by rw [h],hm⟩,?_⟩
      rintro ⟨c,hc,h⟩
      simp only [List.cons.injEq] at hc
      exact hc.2
  · rw [BS]
    show L (un (lr l b)) w↔_
    rw [Az,Bb ih]
  · rw [Au]
    show L (un (lq l b)) w↔_
    rw [Az,Ba ih]
  · rw [An]
    show L (ct [(lq l b).headD dc,⟨6,s,l⟩]) w↔_
    rw [Bc,qA]
    have hh:∀u,L ((lq l b).headD dc) u↔LH l (b::u):=by
      intro u
      cases l with
      | nil=>simp [lq,LH,dc,Aw]
      | cons y l=>simp [lq,LH,ih]
    simp only [LC,hh,An]
    constructor
    · rintro ⟨u,v,rfl,hu,f,i,rfl,hv,rfl⟩
      exact ⟨u,f,by simp,hu,hv⟩
    · rintro ⟨u,v,rfl,hu,hv⟩
      exact ⟨u,v,rfl,hu,v,[],by simp,hv,rfl⟩
  · rw [iff_false_intro (BT g e d a h6)]
    simp [dr,bM e,bM d,bM a,bM h6,dc,Aw]
noncomputable def fP (x:T_Regex) (w:List Nat):T_Regex:=w.foldl dr x
theorem AY (w:List Nat):∀x u,L (fP x w) u↔L x (w++u):=by
  induction w with
  | nil=>intro x u; rfl
  | cons b w ih=>
    intro x u
    show L (fP (dr x b) w) u↔_
    rw [ih,Ck]
    rfl
end Go.Proofs.YtlcdifnmkafcfaaGreat
