/- Part 12. -/
import Derived.Test.YtlcdifnmkafcfaaGreatKLexrepairConfusions11
set_option linter.unusedVariables false
set_option linter.unusedSimpArgs false
set_option maxRecDepth 100000
namespace Go.Proofs.YtlcdifnmkafcfaaGreat
open Go.Lx Go.RowKit
theorem ji {r:Bool} (hM:M.i2=some r) {g0:Hp} {U:World} (hi:dw g0 U) :
    bl Tryz.prog 8 #[] U (fun v w'=>∃g',(dl aY false g' v r)∧dE g0 U g' w'):=by
 unfold M.i2 at hM;have a:=Sep.start hi;refine aJ Tryz.func8 Z Tryz.ntmps8 Z ?_;have o:=bX;refine SR<|Oa (Bo false) Z Z<|NR ?_;obtain ⟨e9,t1,hM⟩:=ab hM;refine C [] oh Z (cE t1 a.imm) Z ?_;rintro v1 A8 ⟨D1,q9,n6⟩;have C2:=n6.le a.imm;replace a:=a.call n6;obtain ⟨F8,rfl,x2⟩:=q9;obtain ⟨E2,E1,E0,D9,rfl,v0,u9,u8,u7⟩:=x2;obtain ⟨v2,rfl,h5⟩:=v0;cases u9;cases u8;cases u7;obtain ⟨B6,t0,hM⟩:=ab hM;refine C [] Ct Z (lW t0 a.imm) Z ?_;rintro v3 A7 ⟨D0,z6,q8,n5⟩;have t6:=n5.ext.le a.imm;replace a:=a.callOwn n5;simp only [List.cons_append,List.nil_append] at a;replace h5:=h5.mono t6;have s9:=a;obtain ⟨C9,t5,x8,a⟩:=a.relRow (i:=0) rfl q8;replace h5:=h5.mono t5;obtain ⟨l1,t7,hM⟩:=ab hM;refine C [Ag [v2,Bo e9.Layout,I6 e9.Misspelling,I6 e9.Unclosed],v3] Cx Z (kv t7 a.imm (⟨[v2],[Bo e9.Layout],[I6 e9.Misspelling],[I6 e9.Unclosed],Z,⟨_,Z,h5⟩,Z,Z,Z⟩) x8) Z ?_;rintro v4 A6 ⟨C8,b6,V,t9⟩;obtain ⟨H,B9,a⟩:=s9.lentOwn t9;simp only [List.cons_append,List.nil_append] at a;have V:al bY H b6 l1:=al.flat (fun _ _ _ _ h=>h) V;refine Oa v4 Z Z<|aa<|ay ?_;obtain ⟨p0,p4,y0⟩:=ab hM;refine aB (fun E w=>E 1=v4∧E 14=Bo p0∧E.ds=[]∧Sp g0 U H w [.row v4 43 bY.sz l1.length b6]) ?_ ?_
 ·have hM:=p4;have d:=aL.refl H;refine ai<|Om v4 Z Z ?_;obtain ⟨a2,G2,r3⟩:=a.rowShape (i:=0) rfl;refine O (aR (v:=v4) Dl Z r3) Z<|O (dx Z Z) Z<|Om (Bo ((l1.length:Int) != 3)) Z Z ?_;rcases an hM with ⟨a0,hM⟩|⟨a0,hM⟩
  ·refine OJ a0 Z Z Z<|OJ a0 Z Z Z<|OJ a0 Z Z Z<|OJ a0 Z Z Z<|OJ a0 Z Z Z<|O (az (v:=Bo true) Z a0 Z) Z<|aa ?_;obtain rfl:=si hM;exact ⟨Z,Z,o,(a.sub (.cons_cons _ (.cons _ .slnil)))⟩
  refine OI a0 Z Z (aj (v:=v4) Z) Z ?_;obtain ⟨x,j6,hM⟩:=ab hM;obtain ⟨b2,G1,r2,F5,w8,x5⟩:=a.rowEl (i:=0) rfl V j6;obtain ⟨E9,E5,E4,E3,rfl,w2,v7,v6,v5⟩:=w8;cases w2;cases v7;cases v6;cases v5;refine OI a0 Z Z (ax Dl ew (v:=v4) Z r2 Z (ad j6).1 (ad j6).2.1) Z<|OI a0 Z Z (aQ (cs:=[I6 x.Kind,I6 x.At,ah x.Text,I6 x.Look]) ew Z Z (.inl Z) (x5 _ (a.at (i:=0) Z)) (v:=Ag [I6 x.Kind,I6 x.At,ah x.Text,I6 x.Look]) Z) Z<|OI a0 Z Z (bv (vs:=[(0,I6 (-1)),(1,I6 2),(2,ah [39,97,98,32,99]),(3,I6 6)]) (cs:=[I6 (-1),I6 2,ah [39,97,98,32,99],I6 6]) Z (by kernel_rfl)) Z ?_;refine OI a0 Z Z (vy (xs:=[I6 x.Kind,I6 x.At,ah x.Text,I6 x.Look]) (ys:=[I6 (-1),I6 2,ah [39,97,98,32,99],I6 6]) Z Z BD (ob Dj (by kernel_rfl) (.cons (by decide) (eo (cs:=[I6 x.Kind,I6 x.At,ah x.Text,I6 x.Look]) aW Z) (eo (cs:=[I6 (-1),I6 2,ah [39,97,98,32,99],I6 6]) aW Z) (li Di _ _) (.cons (by decide) (eo (cs:=[I6 x.Kind,I6 x.At,ah x.Text,I6 x.Look]) aW Z) (eo (cs:=[I6 (-1),I6 2,ah [39,97,98,32,99],I6 6]) aW Z) (li Di _ _) (.cons (by decide) (eo (cs:=[I6 x.Kind,I6 x.At,ah x.Text,I6 x.Look]) db Z) (eo (cs:=[I6 (-1),I6 2,ah [39,97,98,32,99],I6 6]) db Z) (xZ CV _ _) (.cons (by decide) (eo (cs:=[I6 x.Kind,I6 x.At,ah x.Text,I6 x.Look]) aW Z) (eo (cs:=[I6 (-1),I6 2,ah [39,97,98,32,99],I6 6]) aW Z) (li Di _ _) .nil)))))) Z ?_;refine O (aw (v:=Bo (!((x.Kind == (-1)) && ((x.At == 2) && ((x.Text == [39,97,98,32,99]) && ((x.Look == 6) && true)))))) Z a0 Z) Z<|aa ?_;obtain rfl:=si hM;exact ⟨Z,Z,o,(a.sub (.cons_cons _ (.cons _ .slnil)))⟩
 clear a;rintro E w ⟨y2,y1,o,a⟩;have hM:=y0;obtain ⟨E,rfl⟩:=cq y2 y1;rcases an hM with ⟨k7,hM⟩|⟨k7,hM⟩
 ·refine ak Z k7<|SR<|Oa (Bo false) Z Z<|aa<|aH ?_;obtain rfl:=si hM;refine aI o ?_;exact ⟨_,bC Tryz.results8 (aK (v:=Bo false) Z),H,⟨[Bo false],Z,Z⟩,a.ext⟩
 refine ag Z k7<|ao ?_;obtain ⟨j0,p3,x9⟩:=ab hM;refine aB (fun E w=>∃(i9:Hp),E 0=Bo j0∧E.ds=[]∧aL H i9∧Sp g0 U i9 w []) ?_ ?_
 ·have hM:=p3;have d:=aL.refl H;obtain ⟨i4,i6,hM⟩:=ab hM;rcases an hM with ⟨Y,hM⟩|⟨Y,hM⟩
  ·obtain ⟨e8,j3,hM⟩:=ab hM;rcases an hM with ⟨l,hM⟩|⟨l,hM⟩
   ·obtain ⟨t,i5,hM⟩:=ab hM;obtain ⟨k,f3,hM⟩:=ab hM;obtain ⟨B8,f2,hM⟩:=ab hM;obtain ⟨a1,f1,hM⟩:=ab hM;rcases an hM with ⟨j,hM⟩|⟨j,hM⟩
    ·obtain ⟨m,f0,hM⟩:=ab hM;obtain ⟨B7,c0,hM⟩:=ab hM;obtain ⟨G,b9,hM⟩:=ab hM;refine cQ (.s 0 (.q 1 (.q 2 (.s 3 (.q 4 (.q 5 (.q 6 (.q 8 (.q 9 (.q 10 (.q 12 (.c 7 (.c 11 (.s 13 (.s 14 (.q 15 (.q 16 (.q 18 (.q 20 (.c 17 (.c 19 (.s 21 (.s 22 (.q 23 (.q 24 (.leaf))))) (.c 21 (.s 19 (.s 22 (.q 23 (.q 24 (.leaf))))) (.n))) (.c 21 (.s 17 (.s 19 (.s 22 (.q 23 (.q 24 (.leaf)))))) (.n))))))))) (.c 13 (.s 11 (.s 14 (.q 15 (.q 16 (.q 18 (.q 20 (.c 17 (.c 19 (.s 21 (.s 22 (.q 23 (.q 24 (.leaf))))) (.c 21 (.s 19 (.s 22 (.q 23 (.q 24 (.leaf))))) (.n))) (.c 21 (.s 17 (.s 19 (.s 22 (.q 23 (.q 24 (.leaf)))))) (.n))))))))) (.n))) (.c 13 (.s 7 (.s 11 (.s 14 (.q 15 (.q 16 (.q 18 (.q 20 (.c 17 (.c 19 (.s 21 (.s 22 (.q 23 (.q 24 (.leaf))))) (.c 21 (.s 19 (.s 22 (.q 23 (.q 24 (.leaf))))) (.n))) (.c 21 (.s 17 (.s 19 (.s 22 (.q 23 (.q 24 (.leaf)))))) (.n)))))))))) (.n)))))))))))))) (SS g0 U H [.row v4 43 bY.sz l1.length b6]) mo (by decide +kernel) ?_;have a:=a.drew;have b:SS g0 U H [.row v4 43 bY.sz l1.length b6] _:=⟨H,aL.refl _,a⟩;refine A1 Z<|C [ah [104,119,105,108,101],ah [119,104,105,108,101]] rI Z (cr i6 a.imm) Z ?_;rintro v51 A5 ⟨C7,q7,n4⟩;have m7:=n4.le a.imm;replace a:=a.call n4;replace V:=V.mono m7;replace d:=d.trans m7;obtain ⟨D8,rfl,u6⟩:=q7;cases u6;refine aa ?_;replace b:=b.to d a;refine ⟨fun _=>b,?_⟩;refine A Z b (fun e ⟨g,f,a⟩=>bw Z Z) Z<|A Z b (fun e ⟨g,f,a⟩=>aj (v:=Bo (i4 == 1)) Z) Z<|A1 Z<|CI Y Z Z [ah [99,97],ah [97,98,99]] rI Z (cr j3 a.imm) Z ?_;rintro B4 A4 ⟨C6,q6,n3⟩;have m6:=n3.le a.imm;replace a:=a.call n3;replace V:=V.mono m6;replace d:=d.trans m6;obtain ⟨D7,rfl,u5⟩:=q6;cases u5;refine aa ?_;replace b:=b.to d a;refine ⟨fun _=>b,?_⟩;refine AG Z Z Z Z (by rw [Y]; rfl) b (fun e ⟨g,f,a⟩=>bw Z Z) Z<|A Z b (fun e ⟨g,f,a⟩=>az (v:=Bo (e8 == 3)) Z Y Z) Z<|A Z b (fun e ⟨g,f,a⟩=>aj (v:=Bo (e8 == 3)) Z) Z<|AG Z Z Z Z (by rw [l]; rfl) b (fun e ⟨g,f,a⟩=>aj (v:=v4) Z) Z ?_;obtain ⟨b7,G0,r1,D6,u4,x4⟩:=a.rowEl (i:=0) rfl V f3;obtain ⟨D5,D4,D3,D2,rfl,u3,u2,u1,u0⟩:=u4;cases u3;cases u2;cases u1;cases u0
     refine AG Z Z Z Z (by rw [l]; rfl) b (fun e ⟨g,f,a⟩=>ax Dl ew (v:=v4) Z r1 Z (ad f3).1 (ad f3).2.1) Z<|AG Z Z Z Z (by rw [l]; rfl) b (fun e ⟨g,f,a⟩=>aQ (cs:=[I6 k.Kind,I6 k.At,ah k.Text,I6 k.Look]) ew Z Z (.inl Z) (x4 _ (a.at (i:=0) Z)) (v:=Ag [I6 k.Kind,I6 k.At,ah k.Text,I6 k.Look]) Z) Z<|AG Z Z Z Z (by rw [l]; rfl) b (fun e ⟨g,f,a⟩=>bv (vs:=[(0,I6 3),(1,I6 6)]) (cs:=[I6 3,I6 6]) Z (by kernel_rfl)) Z ?_;refine A2 Z ?_ ?_
     ·refine CI l Z Z [] oh Z (cE i5 a.imm) Z ?_;rintro m2 p2 ⟨y5,q5,h1⟩;have i8:=h1.le a.imm;replace a:=a.call h1;replace d:=d.trans i8;obtain ⟨y9,rfl,k0⟩:=q5;obtain ⟨y8,y7,y6,z5,rfl,j9,j8,j7,k6⟩:=k0;obtain ⟨f8,rfl,n8⟩:=j9;cases j8;cases j7;cases k6;refine aa ?_;replace b:=b.to d a;refine ⟨fun _=>b,?_⟩;refine A2 Z ?_ ?_
      ·refine CI l Z Z [Ag [f8,Bo t.Layout,I6 t.Misspelling,I6 t.Unclosed],Ag [I6 k.Kind,I6 k.At,ah k.Text,I6 k.Look]] jU Z (bz f2 a.imm (⟨[f8],[Bo t.Layout],[I6 t.Misspelling],[I6 t.Unclosed],Z,⟨_,Z,n8⟩,Z,Z,Z⟩) (⟨[I6 k.Kind],[I6 k.At],[ah k.Text],[I6 k.Look],Z,Z,Z,Z,Z⟩)) Z ?_;rintro e7 l8 ⟨o7,l2,q3,d5⟩;have e5:=d5.ext.le a.imm;replace a:=a.callOwn d5;simp only [List.cons_append,List.nil_append] at a;replace d:=d.trans e5;refine aa ?_;replace b:=b.to d (a.sub (.cons _ (.cons_cons _ .slnil)));refine ⟨fun _=>b,?_⟩;refine A1 Z<|kC Z Z Z (by rw [l]; rfl)<|bF (τ:=aZ) [Ag [I6 3,I6 6]] [(bh.mk 3 6)] De eu (by decide) a Z Z Z ⟨⟨[I6 3],[I6 6],Z,Z,Z⟩,trivial⟩ Z ?_;intro f7 l7 l0 j5 a;refine aa ?_;replace b:=b.to d (a.sub (.cons _ (.cons _ (.cons_cons _ .slnil))));refine ⟨fun _=>b,?_⟩;refine A1 Z ?_;have s8:=a;have hagg5L21:=d;obtain ⟨o6,d3,b4,a⟩:=a.relRow (i:=1) rfl q3;replace j5:=j5.mono d3;replace d:=d.trans d3;obtain ⟨o5,d2,h7,a⟩:=a.relRow (i:=0) rfl j5;replace b4:=b4.mono d2;replace d:=d.trans d2;refine CI l Z Z [e7,f7] jT Z (ce f1 a.imm b4 h7) Z ?_;rintro m1 l6 ⟨o4,g4,h0⟩;obtain ⟨o3,g6,a⟩:=s8.lent h0;replace d:=hagg5L21.trans g6;obtain ⟨o9,rfl,h3⟩:=g4;cases h3;refine aa ?_;replace b:=b.to d (a.sub (.cons _ (.cons _ (.cons_cons _ .slnil))));refine ⟨fun _=>b,?_⟩;refine A Z b (fun e ⟨g,f,a⟩=>az (v:=Bo a1) Z l Z) Z<|A Z b (fun e ⟨g,f,a⟩=>aj (v:=Bo a1) Z) Z<|AG Z Z Z Z (by rw [j]; rfl) b (fun e ⟨g,f,a⟩=>bv (vs:=[(0,I6 1),(2,ah [102,105])]) (cs:=[I6 1,I6 0,ah [102,105],I6 0]) Z (by kernel_rfl)) Z<|AG Z Z Z Z (by rw [j]; rfl) b (fun e ⟨g,f,a⟩=>bv (vs:=[(0,I6 0),(1,I6 4)]) (cs:=[I6 0,I6 4]) Z (by kernel_rfl)) Z<|A2 Z ?_ ?_
       ·refine CI j Z Z [] oh Z (cE f0 a.imm) Z ?_;rintro c9 f4 ⟨h8,g3,P⟩;have T:=P.le a.imm;replace a:=a.call P;replace d:=d.trans T;obtain ⟨i3,rfl,b1⟩:=g3;obtain ⟨i2,i1,i0,h9,rfl,b0,a9,a8,a7⟩:=b1;obtain ⟨J,rfl,d6⟩:=b0;cases a9;cases a8;cases a7;refine aa ?_;replace b:=b.to d (a.sub (.cons _ (.cons _ (.cons_cons _ .slnil))));refine ⟨fun _=>b,?_⟩;refine A2 Z ?_ ?_
        ·refine CI j Z Z [Ag [J,Bo m.Layout,I6 m.Misspelling,I6 m.Unclosed],Ag [I6 1,I6 0,ah [102,105],I6 0]] jU Z (bz c0 a.imm (⟨[J],[Bo m.Layout],[I6 m.Misspelling],[I6 m.Unclosed],Z,⟨_,Z,d6⟩,Z,Z,Z⟩) (⟨[I6 1],[I6 0],[ah [102,105]],[I6 0],Z,Z,Z,Z,Z⟩)) Z ?_;rintro F c7 ⟨e0,c4,g1,B⟩;have D:=B.ext.le a.imm;replace a:=a.callOwn B;simp only [List.cons_append,List.nil_append] at a;replace d:=d.trans D;refine aa ?_;replace b:=b.to d (a.sub (.cons _ (.cons _ (.cons _ (.cons_cons _ .slnil)))));refine ⟨fun _=>b,?_⟩;refine A1 Z<|kC Z Z Z (by rw [j]; rfl)<|bF (τ:=aZ) [Ag [I6 0,I6 4]] [(bh.mk 0 4)] De eu (by decide) a Z Z Z ⟨⟨[I6 0],[I6 4],Z,Z,Z⟩,trivial⟩ Z ?_;intro I c6 c3 a6 a;refine aa ?_;replace b:=b.to d (a.sub (.cons _ (.cons _ (.cons _ (.cons _ (.cons_cons _ .slnil))))));refine ⟨fun _=>b,?_⟩;refine A1 Z ?_;have s7:=a;have hagg5L22:=d;obtain ⟨d9,z,u,a⟩:=a.relRow (i:=1) rfl g1;replace a6:=a6.mono z;replace d:=d.trans z;obtain ⟨d8,y,R,a⟩:=a.relRow (i:=0) rfl a6;replace u:=u.mono y;replace d:=d.trans y;refine CI j Z Z [F,I] jT Z (ce b9 a.imm u R) Z ?_;rintro c8 c5 ⟨d7,K,N⟩;obtain ⟨S,L,a⟩:=s7.lent N;replace d:=hagg5L22.trans L;obtain ⟨e1,rfl,Q⟩:=K;cases Q;refine aa ?_;replace b:=b.to d (a.sub (.cons _ (.cons _ (.cons _ (.cons _ (.cons_cons _ .slnil))))));refine ⟨fun _=>b,?_⟩;refine A Z b (fun e ⟨g,f,a⟩=>az (v:=Bo G) Z j Z) Z<|A Z b (fun e ⟨g,f,a⟩=>ba (v:=Bo G) Z) Z<|AN ?_;obtain rfl:=si hM;exact ⟨S,Z,o,d,(a.sub (.cons _ (.cons _ (.cons _ (.cons _ (.cons _ .slnil))))))⟩
        refine A2 Z ?_ ?_
        ·refine kC Z Z Z (by rw [j]; rfl)<|bF (τ:=aZ) [Ag [I6 0,I6 4]] [(bh.mk 0 4)] De eu (by decide) a Z Z Z ⟨⟨[I6 0],[I6 4],Z,Z,Z⟩,trivial⟩ Z ?_;intro F c7 c4 p a;refine aa ?_;replace b:=b.to d (a.sub (.cons _ (.cons _ (.cons _ (.cons_cons _ .slnil)))));refine ⟨fun _=>b,?_⟩;refine A1 Z<|CI j Z Z [Ag [J,Bo m.Layout,I6 m.Misspelling,I6 m.Unclosed],Ag [I6 1,I6 0,ah [102,105],I6 0]] jU Z (bz c0 a.imm (⟨[J],[Bo m.Layout],[I6 m.Misspelling],[I6 m.Unclosed],Z,⟨_,Z,d6⟩,Z,Z,Z⟩) (⟨[I6 1],[I6 0],[ah [102,105]],[I6 0],Z,Z,Z,Z,Z⟩)) Z ?_;rintro I c6 ⟨e0,c3,a5,B⟩;have D:=B.ext.le a.imm;replace a:=a.callOwn B;simp only [List.cons_append,List.nil_append] at a;replace p:=p.mono D;replace d:=d.trans D;refine aa ?_;replace b:=b.to d (a.sub (.cons _ (.cons _ (.cons _ (.cons _ (.cons_cons _ .slnil))))));refine ⟨fun _=>b,?_⟩;refine A1 Z ?_;have s6:=a;have hagg5L23:=d;obtain ⟨d9,z,u,a⟩:=a.relRow (i:=0) rfl a5;replace p:=p.mono z;replace d:=d.trans z;obtain ⟨d8,y,R,a⟩:=a.relRow (i:=0) rfl p;replace u:=u.mono y;replace d:=d.trans y;refine CI j Z Z [I,F] jT Z (ce b9 a.imm u R) Z ?_;rintro c8 c5 ⟨d7,K,N⟩;obtain ⟨S,L,a⟩:=s6.lent N;replace d:=hagg5L23.trans L;obtain ⟨e1,rfl,Q⟩:=K;cases Q;refine aa ?_;replace b:=b.to d (a.sub (.cons _ (.cons _ (.cons _ (.cons _ (.cons_cons _ .slnil))))));refine ⟨fun _=>b,?_⟩;refine A Z b (fun e ⟨g,f,a⟩=>az (v:=Bo G) Z j Z) Z<|A Z b (fun e ⟨g,f,a⟩=>ba (v:=Bo G) Z) Z<|AN ?_;obtain rfl:=si hM;exact ⟨S,Z,o,d,(a.sub (.cons _ (.cons _ (.cons _ (.cons _ (.cons _ .slnil))))))⟩
        trivial
       refine A2 Z ?_ ?_
       ·refine kC Z Z Z (by rw [j]; rfl)<|bF (τ:=aZ) [Ag [I6 0,I6 4]] [(bh.mk 0 4)] De eu (by decide) a Z Z Z ⟨⟨[I6 0],[I6 4],Z,Z,Z⟩,trivial⟩ Z ?_;intro c9 f4 c4 p a;refine aa ?_;replace b:=b.to d (a.sub (.cons _ (.cons _ (.cons _ (.cons_cons _ .slnil)))));refine ⟨fun _=>b,?_⟩;refine A1 Z<|CI j Z Z [] oh Z (cE f0 a.imm) Z ?_;rintro J c7 ⟨h8,g2,P⟩;have T:=P.le a.imm;replace a:=a.call P;replace p:=p.mono T;replace d:=d.trans T;obtain ⟨i3,rfl,b1⟩:=g2;obtain ⟨i2,i1,i0,h9,rfl,b0,a9,a8,a7⟩:=b1;obtain ⟨F,rfl,h4⟩:=b0;cases a9;cases a8;cases a7;refine aa ?_;replace b:=b.to d (a.sub (.cons _ (.cons _ (.cons _ (.cons_cons _ .slnil)))));refine ⟨fun _=>b,?_⟩;refine A1 Z<|CI j Z Z [Ag [F,Bo m.Layout,I6 m.Misspelling,I6 m.Unclosed],Ag [I6 1,I6 0,ah [102,105],I6 0]] jU Z (bz c0 a.imm (⟨[F],[Bo m.Layout],[I6 m.Misspelling],[I6 m.Unclosed],Z,⟨_,Z,h4⟩,Z,Z,Z⟩) (⟨[I6 1],[I6 0],[ah [102,105]],[I6 0],Z,Z,Z,Z,Z⟩)) Z ?_;rintro I c6 ⟨e0,c3,a5,B⟩;have D:=B.ext.le a.imm;replace a:=a.callOwn B;simp only [List.cons_append,List.nil_append] at a;replace p:=p.mono D;replace d:=d.trans D;refine aa ?_;replace b:=b.to d (a.sub (.cons _ (.cons _ (.cons _ (.cons _ (.cons_cons _ .slnil))))));refine ⟨fun _=>b,?_⟩;refine A1 Z ?_;have s5:=a;have hagg5L24:=d;obtain ⟨d9,z,u,a⟩:=a.relRow (i:=0) rfl a5;replace p:=p.mono z;replace d:=d.trans z;obtain ⟨d8,y,R,a⟩:=a.relRow (i:=0) rfl p;replace u:=u.mono y;replace d:=d.trans y;refine CI j Z Z [I,c9] jT Z (ce b9 a.imm u R) Z ?_;rintro c8 c5 ⟨d7,K,N⟩;obtain ⟨S,L,a⟩:=s5.lent N;replace d:=hagg5L24.trans L;obtain ⟨e1,rfl,Q⟩:=K;cases Q;refine aa ?_;replace b:=b.to d (a.sub (.cons _ (.cons _ (.cons _ (.cons _ (.cons_cons _ .slnil))))));refine ⟨fun _=>b,?_⟩;refine A Z b (fun e ⟨g,f,a⟩=>az (v:=Bo G) Z j Z) Z<|A Z b (fun e ⟨g,f,a⟩=>ba (v:=Bo G) Z) Z<|AN ?_;obtain rfl:=si hM;exact ⟨S,Z,o,d,(a.sub (.cons _ (.cons _ (.cons _ (.cons _ (.cons _ .slnil))))))⟩
       trivial
      refine A2 Z ?_ ?_
      ·refine kC Z Z Z (by rw [l]; rfl)<|bF (τ:=aZ) [Ag [I6 3,I6 6]] [(bh.mk 3 6)] De eu (by decide) a Z Z Z ⟨⟨[I6 3],[I6 6],Z,Z,Z⟩,trivial⟩ Z ?_;intro e7 l8 l2 X a;refine aa ?_;replace b:=b.to d (a.sub (.cons _ (.cons_cons _ .slnil)));refine ⟨fun _=>b,?_⟩;refine A1 Z<|CI l Z Z [Ag [f8,Bo t.Layout,I6 t.Misspelling,I6 t.Unclosed],Ag [I6 k.Kind,I6 k.At,ah k.Text,I6 k.Look]] jU Z (bz f2 a.imm (⟨[f8],[Bo t.Layout],[I6 t.Misspelling],[I6 t.Unclosed],Z,⟨_,Z,n8⟩,Z,Z,Z⟩) (⟨[I6 k.Kind],[I6 k.At],[ah k.Text],[I6 k.Look],Z,Z,Z,Z,Z⟩)) Z ?_;rintro f7 l7 ⟨o7,l0,j2,d5⟩;have e5:=d5.ext.le a.imm;replace a:=a.callOwn d5;simp only [List.cons_append,List.nil_append] at a;replace X:=X.mono e5;replace d:=d.trans e5;refine aa ?_;replace b:=b.to d (a.sub (.cons _ (.cons _ (.cons_cons _ .slnil))));refine ⟨fun _=>b,?_⟩;refine A1 Z ?_;have s4:=a;have hagg5L25:=d;obtain ⟨o6,d3,b4,a⟩:=a.relRow (i:=0) rfl j2;replace X:=X.mono d3;replace d:=d.trans d3;obtain ⟨o5,d2,h7,a⟩:=a.relRow (i:=0) rfl X;replace b4:=b4.mono d2;replace d:=d.trans d2;refine CI l Z Z [f7,e7] jT Z (ce f1 a.imm b4 h7) Z ?_;rintro m1 l6 ⟨o4,g4,h0⟩;obtain ⟨o3,g6,a⟩:=s4.lent h0;replace d:=hagg5L25.trans g6;obtain ⟨o9,rfl,h3⟩:=g4;cases h3;refine aa ?_;replace b:=b.to d (a.sub (.cons _ (.cons _ (.cons_cons _ .slnil))));refine ⟨fun _=>b,?_⟩;refine A Z b (fun e ⟨g,f,a⟩=>az (v:=Bo a1) Z l Z) Z<|A Z b (fun e ⟨g,f,a⟩=>aj (v:=Bo a1) Z) Z<|AG Z Z Z Z (by rw [j]; rfl) b (fun e ⟨g,f,a⟩=>bv (vs:=[(0,I6 1),(2,ah [102,105])]) (cs:=[I6 1,I6 0,ah [102,105],I6 0]) Z (by kernel_rfl)) Z<|AG Z Z Z Z (by rw [j]; rfl) b (fun e ⟨g,f,a⟩=>bv (vs:=[(0,I6 0),(1,I6 4)]) (cs:=[I6 0,I6 4]) Z (by kernel_rfl)) Z<|A2 Z ?_ ?_
       ·refine CI j Z Z [] oh Z (cE f0 a.imm) Z ?_;rintro c9 f4 ⟨h8,g3,P⟩;have T:=P.le a.imm;replace a:=a.call P;replace d:=d.trans T;obtain ⟨i3,rfl,b1⟩:=g3;obtain ⟨i2,i1,i0,h9,rfl,b0,a9,a8,a7⟩:=b1;obtain ⟨J,rfl,d6⟩:=b0;cases a9;cases a8;cases a7;refine aa ?_;replace b:=b.to d (a.sub (.cons _ (.cons _ (.cons_cons _ .slnil))));refine ⟨fun _=>b,?_⟩;refine A2 Z ?_ ?_
        ·refine CI j Z Z [Ag [J,Bo m.Layout,I6 m.Misspelling,I6 m.Unclosed],Ag [I6 1,I6 0,ah [102,105],I6 0]] jU Z (bz c0 a.imm (⟨[J],[Bo m.Layout],[I6 m.Misspelling],[I6 m.Unclosed],Z,⟨_,Z,d6⟩,Z,Z,Z⟩) (⟨[I6 1],[I6 0],[ah [102,105]],[I6 0],Z,Z,Z,Z,Z⟩)) Z ?_;rintro F c7 ⟨e0,c4,g1,B⟩;have D:=B.ext.le a.imm;replace a:=a.callOwn B;simp only [List.cons_append,List.nil_append] at a;replace d:=d.trans D;refine aa ?_;replace b:=b.to d (a.sub (.cons _ (.cons _ (.cons _ (.cons_cons _ .slnil)))));refine ⟨fun _=>b,?_⟩;refine A1 Z<|kC Z Z Z (by rw [j]; rfl)<|bF (τ:=aZ) [Ag [I6 0,I6 4]] [(bh.mk 0 4)] De eu (by decide) a Z Z Z ⟨⟨[I6 0],[I6 4],Z,Z,Z⟩,trivial⟩ Z ?_;intro I c6 c3 a6 a;refine aa ?_;replace b:=b.to d (a.sub (.cons _ (.cons _ (.cons _ (.cons _ (.cons_cons _ .slnil))))));refine ⟨fun _=>b,?_⟩;refine A1 Z ?_;have s3:=a;have hagg5L26:=d;obtain ⟨d9,z,u,a⟩:=a.relRow (i:=1) rfl g1;replace a6:=a6.mono z;replace d:=d.trans z;obtain ⟨d8,y,R,a⟩:=a.relRow (i:=0) rfl a6;replace u:=u.mono y;replace d:=d.trans y;refine CI j Z Z [F,I] jT Z (ce b9 a.imm u R) Z ?_;rintro c8 c5 ⟨d7,K,N⟩;obtain ⟨S,L,a⟩:=s3.lent N;replace d:=hagg5L26.trans L;obtain ⟨e1,rfl,Q⟩:=K;cases Q;refine aa ?_;replace b:=b.to d (a.sub (.cons _ (.cons _ (.cons _ (.cons _ (.cons_cons _ .slnil))))));refine ⟨fun _=>b,?_⟩;refine A Z b (fun e ⟨g,f,a⟩=>az (v:=Bo G) Z j Z) Z<|A Z b (fun e ⟨g,f,a⟩=>ba (v:=Bo G) Z) Z<|AN ?_;obtain rfl:=si hM;exact ⟨S,Z,o,d,(a.sub (.cons _ (.cons _ (.cons _ (.cons _ (.cons _ .slnil))))))⟩
        refine A2 Z ?_ ?_
        ·refine kC Z Z Z (by rw [j]; rfl)<|bF (τ:=aZ) [Ag [I6 0,I6 4]] [(bh.mk 0 4)] De eu (by decide) a Z Z Z ⟨⟨[I6 0],[I6 4],Z,Z,Z⟩,trivial⟩ Z ?_;intro F c7 c4 p a;refine aa ?_;replace b:=b.to d (a.sub (.cons _ (.cons _ (.cons _ (.cons_cons _ .slnil)))));refine ⟨fun _=>b,?_⟩;refine A1 Z<|CI j Z Z [Ag [J,Bo m.Layout,I6 m.Misspelling,I6 m.Unclosed],Ag [I6 1,I6 0,ah [102,105],I6 0]] jU Z (bz c0 a.imm (⟨[J],[Bo m.Layout],[I6 m.Misspelling],[I6 m.Unclosed],Z,⟨_,Z,d6⟩,Z,Z,Z⟩) (⟨[I6 1],[I6 0],[ah [102,105]],[I6 0],Z,Z,Z,Z,Z⟩)) Z ?_;rintro I c6 ⟨e0,c3,a5,B⟩;have D:=B.ext.le a.imm;replace a:=a.callOwn B;simp only [List.cons_append,List.nil_append] at a;replace p:=p.mono D;replace d:=d.trans D;refine aa ?_;replace b:=b.to d (a.sub (.cons _ (.cons _ (.cons _ (.cons _ (.cons_cons _ .slnil))))));refine ⟨fun _=>b,?_⟩;refine A1 Z ?_;have s2:=a;have hagg5L27:=d;obtain ⟨d9,z,u,a⟩:=a.relRow (i:=0) rfl a5;replace p:=p.mono z;replace d:=d.trans z;obtain ⟨d8,y,R,a⟩:=a.relRow (i:=0) rfl p;replace u:=u.mono y;replace d:=d.trans y;refine CI j Z Z [I,F] jT Z (ce b9 a.imm u R) Z ?_;rintro c8 c5 ⟨d7,K,N⟩;obtain ⟨S,L,a⟩:=s2.lent N;replace d:=hagg5L27.trans L;obtain ⟨e1,rfl,Q⟩:=K;cases Q;refine aa ?_;replace b:=b.to d (a.sub (.cons _ (.cons _ (.cons _ (.cons _ (.cons_cons _ .slnil))))));refine ⟨fun _=>b,?_⟩;refine A Z b (fun e ⟨g,f,a⟩=>az (v:=Bo G) Z j Z) Z<|A Z b (fun e ⟨g,f,a⟩=>ba (v:=Bo G) Z) Z<|AN ?_;obtain rfl:=si hM;exact ⟨S,Z,o,d,(a.sub (.cons _ (.cons _ (.cons _ (.cons _ (.cons _ .slnil))))))⟩
        trivial
       refine A2 Z ?_ ?_
       ·refine kC Z Z Z (by rw [j]; rfl)<|bF (τ:=aZ) [Ag [I6 0,I6 4]] [(bh.mk 0 4)] De eu (by decide) a Z Z Z ⟨⟨[I6 0],[I6 4],Z,Z,Z⟩,trivial⟩ Z ?_;intro c9 f4 c4 p a;refine aa ?_;replace b:=b.to d (a.sub (.cons _ (.cons _ (.cons _ (.cons_cons _ .slnil)))));refine ⟨fun _=>b,?_⟩;refine A1 Z<|CI j Z Z [] oh Z (cE f0 a.imm) Z ?_;rintro J c7 ⟨h8,g2,P⟩;have T:=P.le a.imm;replace a:=a.call P;replace p:=p.mono T;replace d:=d.trans T;obtain ⟨i3,rfl,b1⟩:=g2;obtain ⟨i2,i1,i0,h9,rfl,b0,a9,a8,a7⟩:=b1;obtain ⟨F,rfl,h4⟩:=b0;cases a9;cases a8;cases a7;refine aa ?_;replace b:=b.to d (a.sub (.cons _ (.cons _ (.cons _ (.cons_cons _ .slnil)))));refine ⟨fun _=>b,?_⟩;refine A1 Z<|CI j Z Z [Ag [F,Bo m.Layout,I6 m.Misspelling,I6 m.Unclosed],Ag [I6 1,I6 0,ah [102,105],I6 0]] jU Z (bz c0 a.imm (⟨[F],[Bo m.Layout],[I6 m.Misspelling],[I6 m.Unclosed],Z,⟨_,Z,h4⟩,Z,Z,Z⟩) (⟨[I6 1],[I6 0],[ah [102,105]],[I6 0],Z,Z,Z,Z,Z⟩)) Z ?_;rintro I c6 ⟨e0,c3,a5,B⟩;have D:=B.ext.le a.imm;replace a:=a.callOwn B;simp only [List.cons_append,List.nil_append] at a;replace p:=p.mono D;replace d:=d.trans D;refine aa ?_;replace b:=b.to d (a.sub (.cons _ (.cons _ (.cons _ (.cons _ (.cons_cons _ .slnil))))));refine ⟨fun _=>b,?_⟩;refine A1 Z ?_;have s1:=a;have hagg5L28:=d;obtain ⟨d9,z,u,a⟩:=a.relRow (i:=0) rfl a5;replace p:=p.mono z;replace d:=d.trans z;obtain ⟨d8,y,R,a⟩:=a.relRow (i:=0) rfl p;replace u:=u.mono y;replace d:=d.trans y;refine CI j Z Z [I,c9] jT Z (ce b9 a.imm u R) Z ?_;rintro c8 c5 ⟨d7,K,N⟩;obtain ⟨S,L,a⟩:=s1.lent N;replace d:=hagg5L28.trans L;obtain ⟨e1,rfl,Q⟩:=K;cases Q;refine aa ?_;replace b:=b.to d (a.sub (.cons _ (.cons _ (.cons _ (.cons _ (.cons_cons _ .slnil))))));refine ⟨fun _=>b,?_⟩;refine A Z b (fun e ⟨g,f,a⟩=>az (v:=Bo G) Z j Z) Z<|A Z b (fun e ⟨g,f,a⟩=>ba (v:=Bo G) Z) Z<|AN ?_;obtain rfl:=si hM;exact ⟨S,Z,o,d,(a.sub (.cons _ (.cons _ (.cons _ (.cons _ (.cons _ .slnil))))))⟩
       trivial
      trivial
     refine A2 Z ?_ ?_
     ·refine kC Z Z Z (by rw [l]; rfl)<|bF (τ:=aZ) [Ag [I6 3,I6 6]] [(bh.mk 3 6)] De eu (by decide) a Z Z Z ⟨⟨[I6 3],[I6 6],Z,Z,Z⟩,trivial⟩ Z ?_;intro m2 p2 l2 X a;refine aa ?_;replace b:=b.to d (a.sub (.cons _ (.cons_cons _ .slnil)));refine ⟨fun _=>b,?_⟩;refine A1 Z<|CI l Z Z [] oh Z (cE i5 a.imm) Z ?_;rintro f8 l8 ⟨y5,q4,h1⟩;have i8:=h1.le a.imm;replace a:=a.call h1;replace X:=X.mono i8;replace d:=d.trans i8;obtain ⟨y9,rfl,k0⟩:=q4;obtain ⟨y8,y7,y6,z5,rfl,j9,j8,j7,k6⟩:=k0;obtain ⟨e7,rfl,x7⟩:=j9;cases j8;cases j7;cases k6;refine aa ?_;replace b:=b.to d (a.sub (.cons _ (.cons_cons _ .slnil)));refine ⟨fun _=>b,?_⟩;refine A1 Z<|CI l Z Z [Ag [e7,Bo t.Layout,I6 t.Misspelling,I6 t.Unclosed],Ag [I6 k.Kind,I6 k.At,ah k.Text,I6 k.Look]] jU Z (bz f2 a.imm (⟨[e7],[Bo t.Layout],[I6 t.Misspelling],[I6 t.Unclosed],Z,⟨_,Z,x7⟩,Z,Z,Z⟩) (⟨[I6 k.Kind],[I6 k.At],[ah k.Text],[I6 k.Look],Z,Z,Z,Z,Z⟩)) Z ?_;rintro f7 l7 ⟨o7,l0,j2,d5⟩;have e5:=d5.ext.le a.imm;replace a:=a.callOwn d5;simp only [List.cons_append,List.nil_append] at a;replace X:=X.mono e5;replace d:=d.trans e5;refine aa ?_;replace b:=b.to d (a.sub (.cons _ (.cons _ (.cons_cons _ .slnil))));refine ⟨fun _=>b,?_⟩;refine A1 Z ?_;have s0:=a;have hagg5L29:=d;obtain ⟨o6,d3,b4,a⟩:=a.relRow (i:=0) rfl j2;replace X:=X.mono d3;replace d:=d.trans d3;obtain ⟨o5,d2,h7,a⟩:=a.relRow (i:=0) rfl X;replace b4:=b4.mono d2;replace d:=d.trans d2;refine CI l Z Z [f7,m2] jT Z (ce f1 a.imm b4 h7) Z ?_;rintro m1 l6 ⟨o4,g4,h0⟩;obtain ⟨o3,g6,a⟩:=s0.lent h0;replace d:=hagg5L29.trans g6;obtain ⟨o9,rfl,h3⟩:=g4;cases h3;refine aa ?_;replace b:=b.to d (a.sub (.cons _ (.cons _ (.cons_cons _ .slnil))));refine ⟨fun _=>b,?_⟩;refine A Z b (fun e ⟨g,f,a⟩=>az (v:=Bo a1) Z l Z) Z<|A Z b (fun e ⟨g,f,a⟩=>aj (v:=Bo a1) Z) Z<|AG Z Z Z Z (by rw [j]; rfl) b (fun e ⟨g,f,a⟩=>bv (vs:=[(0,I6 1),(2,ah [102,105])]) (cs:=[I6 1,I6 0,ah [102,105],I6 0]) Z (by kernel_rfl)) Z<|AG Z Z Z Z (by rw [j]; rfl) b (fun e ⟨g,f,a⟩=>bv (vs:=[(0,I6 0),(1,I6 4)]) (cs:=[I6 0,I6 4]) Z (by kernel_rfl)) Z<|A2 Z ?_ ?_
      ·refine CI j Z Z [] oh Z (cE f0 a.imm) Z ?_;rintro c9 f4 ⟨h8,g3,P⟩;have T:=P.le a.imm;replace a:=a.call P;replace d:=d.trans T;obtain ⟨i3,rfl,b1⟩:=g3;obtain ⟨i2,i1,i0,h9,rfl,b0,a9,a8,a7⟩:=b1;obtain ⟨J,rfl,d6⟩:=b0;cases a9;cases a8;cases a7;refine aa ?_;replace b:=b.to d (a.sub (.cons _ (.cons _ (.cons_cons _ .slnil))));refine ⟨fun _=>b,?_⟩;refine A2 Z ?_ ?_
       ·refine CI j Z Z [Ag [J,Bo m.Layout,I6 m.Misspelling,I6 m.Unclosed],Ag [I6 1,I6 0,ah [102,105],I6 0]] jU Z (bz c0 a.imm (⟨[J],[Bo m.Layout],[I6 m.Misspelling],[I6 m.Unclosed],Z,⟨_,Z,d6⟩,Z,Z,Z⟩) (⟨[I6 1],[I6 0],[ah [102,105]],[I6 0],Z,Z,Z,Z,Z⟩)) Z ?_;rintro F c7 ⟨e0,c4,g1,B⟩;have D:=B.ext.le a.imm;replace a:=a.callOwn B;simp only [List.cons_append,List.nil_append] at a;replace d:=d.trans D;refine aa ?_;replace b:=b.to d (a.sub (.cons _ (.cons _ (.cons _ (.cons_cons _ .slnil)))));refine ⟨fun _=>b,?_⟩;refine A1 Z<|kC Z Z Z (by rw [j]; rfl)<|bF (τ:=aZ) [Ag [I6 0,I6 4]] [(bh.mk 0 4)] De eu (by decide) a Z Z Z ⟨⟨[I6 0],[I6 4],Z,Z,Z⟩,trivial⟩ Z ?_;intro I c6 c3 a6 a;refine aa ?_;replace b:=b.to d (a.sub (.cons _ (.cons _ (.cons _ (.cons _ (.cons_cons _ .slnil))))));refine ⟨fun _=>b,?_⟩;refine A1 Z ?_;have r9:=a;have hagg5L30:=d;obtain ⟨d9,z,u,a⟩:=a.relRow (i:=1) rfl g1;replace a6:=a6.mono z;replace d:=d.trans z;obtain ⟨d8,y,R,a⟩:=a.relRow (i:=0) rfl a6;replace u:=u.mono y;replace d:=d.trans y;refine CI j Z Z [F,I] jT Z (ce b9 a.imm u R) Z ?_;rintro c8 c5 ⟨d7,K,N⟩;obtain ⟨S,L,a⟩:=r9.lent N;replace d:=hagg5L30.trans L;obtain ⟨e1,rfl,Q⟩:=K;cases Q;refine aa ?_;replace b:=b.to d (a.sub (.cons _ (.cons _ (.cons _ (.cons _ (.cons_cons _ .slnil))))));refine ⟨fun _=>b,?_⟩;refine A Z b (fun e ⟨g,f,a⟩=>az (v:=Bo G) Z j Z) Z<|A Z b (fun e ⟨g,f,a⟩=>ba (v:=Bo G) Z) Z<|AN ?_;obtain rfl:=si hM;exact ⟨S,Z,o,d,(a.sub (.cons _ (.cons _ (.cons _ (.cons _ (.cons _ .slnil))))))⟩
       refine A2 Z ?_ ?_
       ·refine kC Z Z Z (by rw [j]; rfl)<|bF (τ:=aZ) [Ag [I6 0,I6 4]] [(bh.mk 0 4)] De eu (by decide) a Z Z Z ⟨⟨[I6 0],[I6 4],Z,Z,Z⟩,trivial⟩ Z ?_;intro F c7 c4 p a;refine aa ?_;replace b:=b.to d (a.sub (.cons _ (.cons _ (.cons _ (.cons_cons _ .slnil)))));refine ⟨fun _=>b,?_⟩;refine A1 Z<|CI j Z Z [Ag [J,Bo m.Layout,I6 m.Misspelling,I6 m.Unclosed],Ag [I6 1,I6 0,ah [102,105],I6 0]] jU Z (bz c0 a.imm (⟨[J],[Bo m.Layout],[I6 m.Misspelling],[I6 m.Unclosed],Z,⟨_,Z,d6⟩,Z,Z,Z⟩) (⟨[I6 1],[I6 0],[ah [102,105]],[I6 0],Z,Z,Z,Z,Z⟩)) Z ?_;rintro I c6 ⟨e0,c3,a5,B⟩;have D:=B.ext.le a.imm;replace a:=a.callOwn B;simp only [List.cons_append,List.nil_append] at a;replace p:=p.mono D;replace d:=d.trans D;refine aa ?_;replace b:=b.to d (a.sub (.cons _ (.cons _ (.cons _ (.cons _ (.cons_cons _ .slnil))))));refine ⟨fun _=>b,?_⟩;refine A1 Z ?_;have r8:=a;have hagg5L31:=d;obtain ⟨d9,z,u,a⟩:=a.relRow (i:=0) rfl a5;replace p:=p.mono z;replace d:=d.trans z;obtain ⟨d8,y,R,a⟩:=a.relRow (i:=0) rfl p;replace u:=u.mono y;replace d:=d.trans y;refine CI j Z Z [I,F] jT Z (ce b9 a.imm u R) Z ?_;rintro c8 c5 ⟨d7,K,N⟩;obtain ⟨S,L,a⟩:=r8.lent N;replace d:=hagg5L31.trans L;obtain ⟨e1,rfl,Q⟩:=K;cases Q;refine aa ?_;replace b:=b.to d (a.sub (.cons _ (.cons _ (.cons _ (.cons _ (.cons_cons _ .slnil))))));refine ⟨fun _=>b,?_⟩;refine A Z b (fun e ⟨g,f,a⟩=>az (v:=Bo G) Z j Z) Z<|A Z b (fun e ⟨g,f,a⟩=>ba (v:=Bo G) Z) Z<|AN ?_;obtain rfl:=si hM;exact ⟨S,Z,o,d,(a.sub (.cons _ (.cons _ (.cons _ (.cons _ (.cons _ .slnil))))))⟩
       trivial
      refine A2 Z ?_ ?_
      ·refine kC Z Z Z (by rw [j]; rfl)<|bF (τ:=aZ) [Ag [I6 0,I6 4]] [(bh.mk 0 4)] De eu (by decide) a Z Z Z ⟨⟨[I6 0],[I6 4],Z,Z,Z⟩,trivial⟩ Z ?_;intro c9 f4 c4 p a;refine aa ?_;replace b:=b.to d (a.sub (.cons _ (.cons _ (.cons _ (.cons_cons _ .slnil)))));refine ⟨fun _=>b,?_⟩;refine A1 Z<|CI j Z Z [] oh Z (cE f0 a.imm) Z ?_;rintro J c7 ⟨h8,g2,P⟩;have T:=P.le a.imm;replace a:=a.call P;replace p:=p.mono T;replace d:=d.trans T;obtain ⟨i3,rfl,b1⟩:=g2;obtain ⟨i2,i1,i0,h9,rfl,b0,a9,a8,a7⟩:=b1;obtain ⟨F,rfl,h4⟩:=b0;cases a9;cases a8;cases a7;refine aa ?_;replace b:=b.to d (a.sub (.cons _ (.cons _ (.cons _ (.cons_cons _ .slnil)))));refine ⟨fun _=>b,?_⟩;refine A1 Z<|CI j Z Z [Ag [F,Bo m.Layout,I6 m.Misspelling,I6 m.Unclosed],Ag [I6 1,I6 0,ah [102,105],I6 0]] jU Z (bz c0 a.imm (⟨[F],[Bo m.Layout],[I6 m.Misspelling],[I6 m.Unclosed],Z,⟨_,Z,h4⟩,Z,Z,Z⟩) (⟨[I6 1],[I6 0],[ah [102,105]],[I6 0],Z,Z,Z,Z,Z⟩)) Z ?_;rintro I c6 ⟨e0,c3,a5,B⟩;have D:=B.ext.le a.imm;replace a:=a.callOwn B;simp only [List.cons_append,List.nil_append] at a;replace p:=p.mono D;replace d:=d.trans D;refine aa ?_;replace b:=b.to d (a.sub (.cons _ (.cons _ (.cons _ (.cons _ (.cons_cons _ .slnil))))));refine ⟨fun _=>b,?_⟩;refine A1 Z ?_;have r7:=a;have hagg5L32:=d;obtain ⟨d9,z,u,a⟩:=a.relRow (i:=0) rfl a5;replace p:=p.mono z;replace d:=d.trans z;obtain ⟨d8,y,R,a⟩:=a.relRow (i:=0) rfl p;replace u:=u.mono y;replace d:=d.trans y;refine CI j Z Z [I,c9] jT Z (ce b9 a.imm u R) Z ?_;rintro c8 c5 ⟨d7,K,N⟩;obtain ⟨S,L,a⟩:=r7.lent N;replace d:=hagg5L32.trans L;obtain ⟨e1,rfl,Q⟩:=K;cases Q;refine aa ?_;replace b:=b.to d (a.sub (.cons _ (.cons _ (.cons _ (.cons _ (.cons_cons _ .slnil))))));refine ⟨fun _=>b,?_⟩;refine A Z b (fun e ⟨g,f,a⟩=>az (v:=Bo G) Z j Z) Z<|A Z b (fun e ⟨g,f,a⟩=>ba (v:=Bo G) Z) Z<|AN ?_;obtain rfl:=si hM;exact ⟨S,Z,o,d,(a.sub (.cons _ (.cons _ (.cons _ (.cons _ (.cons _ .slnil))))))⟩
      trivial
     trivial
    refine cQ (.s 0 (.q 1 (.q 2 (.s 3 (.q 4 (.q 5 (.q 6 (.q 8 (.q 9 (.q 10 (.q 12 (.c 7 (.c 11 (.s 13 (.s 14 (.q 15 (.q 16 (.q 18 (.q 20 (.c 17 (.c 19 (.s 21 (.s 22 (.q 23 (.q 24 (.leaf))))) (.c 21 (.s 19 (.s 22 (.q 23 (.q 24 (.leaf))))) (.n))) (.c 21 (.s 17 (.s 19 (.s 22 (.q 23 (.q 24 (.leaf)))))) (.n))))))))) (.c 13 (.s 11 (.s 14 (.q 15 (.q 16 (.q 18 (.q 20 (.c 17 (.c 19 (.s 21 (.s 22 (.q 23 (.q 24 (.leaf))))) (.c 21 (.s 19 (.s 22 (.q 23 (.q 24 (.leaf))))) (.n))) (.c 21 (.s 17 (.s 19 (.s 22 (.q 23 (.q 24 (.leaf)))))) (.n))))))))) (.n))) (.c 13 (.s 7 (.s 11 (.s 14 (.q 15 (.q 16 (.q 18 (.q 20 (.c 17 (.c 19 (.s 21 (.s 22 (.q 23 (.q 24 (.leaf))))) (.c 21 (.s 19 (.s 22 (.q 23 (.q 24 (.leaf))))) (.n))) (.c 21 (.s 17 (.s 19 (.s 22 (.q 23 (.q 24 (.leaf)))))) (.n)))))))))) (.n)))))))))))))) (SS g0 U H [.row v4 43 bY.sz l1.length b6]) mo (by decide +kernel) ?_;have a:=a.drew;have b:SS g0 U H [.row v4 43 bY.sz l1.length b6] _:=⟨H,aL.refl _,a⟩;refine A1 Z<|C [ah [104,119,105,108,101],ah [119,104,105,108,101]] rI Z (cr i6 a.imm) Z ?_;rintro B3 A3 ⟨C5,q2,n2⟩;have m5:=n2.le a.imm;replace a:=a.call n2;replace V:=V.mono m5;replace d:=d.trans m5;obtain ⟨F7,rfl,x1⟩:=q2;cases x1;refine aa ?_;replace b:=b.to d a;refine ⟨fun _=>b,?_⟩;refine A Z b (fun e ⟨g,f,a⟩=>bw Z Z) Z<|A Z b (fun e ⟨g,f,a⟩=>aj (v:=Bo (i4 == 1)) Z) Z<|A1 Z<|CI Y Z Z [ah [99,97],ah [97,98,99]] rI Z (cr j3 a.imm) Z ?_;rintro B2 A0 ⟨C4,q1,n1⟩;have m4:=n1.le a.imm;replace a:=a.call n1;replace V:=V.mono m4;replace d:=d.trans m4;obtain ⟨F6,rfl,x0⟩:=q1;cases x0;refine aa ?_;replace b:=b.to d a;refine ⟨fun _=>b,?_⟩;refine AG Z Z Z Z (by rw [Y]; rfl) b (fun e ⟨g,f,a⟩=>bw Z Z) Z<|A Z b (fun e ⟨g,f,a⟩=>az (v:=Bo (e8 == 3)) Z Y Z) Z<|A Z b (fun e ⟨g,f,a⟩=>aj (v:=Bo (e8 == 3)) Z) Z<|AG Z Z Z Z (by rw [l]; rfl) b (fun e ⟨g,f,a⟩=>aj (v:=v4) Z) Z ?_;obtain ⟨b8,F9,r0,F4,w7,x3⟩:=a.rowEl (i:=0) rfl V f3;obtain ⟨F3,F2,F1,F0,rfl,w6,w5,w4,w3⟩:=w7;cases w6;cases w5;cases w4;cases w3
    refine AG Z Z Z Z (by rw [l]; rfl) b (fun e ⟨g,f,a⟩=>ax Dl ew (v:=v4) Z r0 Z (ad f3).1 (ad f3).2.1) Z<|AG Z Z Z Z (by rw [l]; rfl) b (fun e ⟨g,f,a⟩=>aQ (cs:=[I6 k.Kind,I6 k.At,ah k.Text,I6 k.Look]) ew Z Z (.inl Z) (x3 _ (a.at (i:=0) Z)) (v:=Ag [I6 k.Kind,I6 k.At,ah k.Text,I6 k.Look]) Z) Z<|AG Z Z Z Z (by rw [l]; rfl) b (fun e ⟨g,f,a⟩=>bv (vs:=[(0,I6 3),(1,I6 6)]) (cs:=[I6 3,I6 6]) Z (by kernel_rfl)) Z ?_;refine A2 Z ?_ ?_
    ·refine CI l Z Z [] oh Z (cE i5 a.imm) Z ?_;rintro m0 p1 ⟨y4,q0,g8⟩;have i7:=g8.le a.imm;replace a:=a.call g8;replace d:=d.trans i7;obtain ⟨z4,rfl,k5⟩:=q0;obtain ⟨z3,z2,z1,z0,rfl,k4,k3,k2,k1⟩:=k5;obtain ⟨f6,rfl,n7⟩:=k4;cases k3;cases k2;cases k1;refine aa ?_;replace b:=b.to d a;refine ⟨fun _=>b,?_⟩;refine A2 Z ?_ ?_
     ·refine CI l Z Z [Ag [f6,Bo t.Layout,I6 t.Misspelling,I6 t.Unclosed],Ag [I6 k.Kind,I6 k.At,ah k.Text,I6 k.Look]] jU Z (bz f2 a.imm (⟨[f6],[Bo t.Layout],[I6 t.Misspelling],[I6 t.Unclosed],Z,⟨_,Z,n7⟩,Z,Z,Z⟩) (⟨[I6 k.Kind],[I6 k.At],[ah k.Text],[I6 k.Look],Z,Z,Z,Z,Z⟩)) Z ?_;rintro e6 l5 ⟨o2,k9,p8,d4⟩;have e3:=d4.ext.le a.imm;replace a:=a.callOwn d4;simp only [List.cons_append,List.nil_append] at a;replace d:=d.trans e3;refine aa ?_;replace b:=b.to d (a.sub (.cons _ (.cons_cons _ .slnil)));refine ⟨fun _=>b,?_⟩;refine A1 Z<|kC Z Z Z (by rw [l]; rfl)<|bF (τ:=aZ) [Ag [I6 3,I6 6]] [(bh.mk 3 6)] De eu (by decide) a Z Z Z ⟨⟨[I6 3],[I6 6],Z,Z,Z⟩,trivial⟩ Z ?_;intro f5 l4 k8 j4 a;refine aa ?_;replace b:=b.to d (a.sub (.cons _ (.cons _ (.cons_cons _ .slnil))));refine ⟨fun _=>b,?_⟩;refine A1 Z ?_;have r6:=a;have hagg5L33:=d;obtain ⟨o1,d1,b3,a⟩:=a.relRow (i:=1) rfl p8;replace j4:=j4.mono d1;replace d:=d.trans d1;obtain ⟨o0,d0,h6,a⟩:=a.relRow (i:=0) rfl j4;replace b3:=b3.mono d0;replace d:=d.trans d0;refine CI l Z Z [e6,f5] jT Z (ce f1 a.imm b3 h6) Z ?_;rintro l9 l3 ⟨n9,f9,g7⟩;obtain ⟨b5,g5,a⟩:=r6.lent g7;replace d:=hagg5L33.trans g5;obtain ⟨o8,rfl,h2⟩:=f9;cases h2;refine aa ?_;replace b:=b.to d (a.sub (.cons _ (.cons _ (.cons_cons _ .slnil))));refine ⟨fun _=>b,?_⟩;refine A Z b (fun e ⟨g,f,a⟩=>az (v:=Bo a1) Z l Z) Z<|A Z b (fun e ⟨g,f,a⟩=>aj (v:=Bo a1) Z) Z<|AK Z Z Z Z (by rw [j]; rfl) b Z<|AK Z Z Z Z (by rw [j]; rfl) b Z<|A2 Z ?_ ?_
      ·refine OJ j Z Z Z<|aa ⟨fun _=>b,?_⟩;refine A2 Z ?_ ?_
       ·refine OJ j Z Z Z<|aa ⟨fun _=>b,?_⟩;refine A1 Z<|OJ j Z Z Z<|aa ⟨fun _=>b,?_⟩;refine A1 Z<|OJ j Z Z Z<|aa ⟨fun _=>b,?_⟩;refine A Z b (fun e ⟨g,f,a⟩=>aw (v:=Bo false) Z j Z) Z<|A Z b (fun e ⟨g,f,a⟩=>ba (v:=Bo false) Z) Z<|AN ?_;obtain rfl:=si hM;exact ⟨b5,Z,o,d,(a.sub (.cons _ (.cons _ (.cons _ .slnil))))⟩
       refine A2 Z ?_ ?_
       ·refine OJ j Z Z Z<|aa ⟨fun _=>b,?_⟩;refine A1 Z<|OJ j Z Z Z<|aa ⟨fun _=>b,?_⟩;refine A1 Z<|OJ j Z Z Z<|aa ⟨fun _=>b,?_⟩;refine A Z b (fun e ⟨g,f,a⟩=>aw (v:=Bo false) Z j Z) Z<|A Z b (fun e ⟨g,f,a⟩=>ba (v:=Bo false) Z) Z<|AN ?_;obtain rfl:=si hM;exact ⟨b5,Z,o,d,(a.sub (.cons _ (.cons _ (.cons _ .slnil))))⟩
       trivial
      refine A2 Z ?_ ?_
      ·refine OJ j Z Z Z<|aa ⟨fun _=>b,?_⟩;refine A1 Z<|OJ j Z Z Z<|aa ⟨fun _=>b,?_⟩;refine A1 Z<|OJ j Z Z Z<|aa ⟨fun _=>b,?_⟩;refine A1 Z<|OJ j Z Z Z<|aa ⟨fun _=>b,?_⟩;refine A Z b (fun e ⟨g,f,a⟩=>aw (v:=Bo false) Z j Z) Z<|A Z b (fun e ⟨g,f,a⟩=>ba (v:=Bo false) Z) Z<|AN ?_;obtain rfl:=si hM;exact ⟨b5,Z,o,d,(a.sub (.cons _ (.cons _ (.cons _ .slnil))))⟩
      trivial
     refine A2 Z ?_ ?_
     ·refine kC Z Z Z (by rw [l]; rfl)<|bF (τ:=aZ) [Ag [I6 3,I6 6]] [(bh.mk 3 6)] De eu (by decide) a Z Z Z ⟨⟨[I6 3],[I6 6],Z,Z,Z⟩,trivial⟩ Z ?_;intro e6 l5 k9 W a;refine aa ?_;replace b:=b.to d (a.sub (.cons _ (.cons_cons _ .slnil)));refine ⟨fun _=>b,?_⟩;refine A1 Z<|CI l Z Z [Ag [f6,Bo t.Layout,I6 t.Misspelling,I6 t.Unclosed],Ag [I6 k.Kind,I6 k.At,ah k.Text,I6 k.Look]] jU Z (bz f2 a.imm (⟨[f6],[Bo t.Layout],[I6 t.Misspelling],[I6 t.Unclosed],Z,⟨_,Z,n7⟩,Z,Z,Z⟩) (⟨[I6 k.Kind],[I6 k.At],[ah k.Text],[I6 k.Look],Z,Z,Z,Z,Z⟩)) Z ?_;rintro f5 l4 ⟨o2,k8,j1,d4⟩;have e3:=d4.ext.le a.imm;replace a:=a.callOwn d4;simp only [List.cons_append,List.nil_append] at a;replace W:=W.mono e3;replace d:=d.trans e3;refine aa ?_;replace b:=b.to d (a.sub (.cons _ (.cons _ (.cons_cons _ .slnil))));refine ⟨fun _=>b,?_⟩;refine A1 Z ?_;have r5:=a;have hagg5L34:=d;obtain ⟨o1,d1,b3,a⟩:=a.relRow (i:=0) rfl j1;replace W:=W.mono d1;replace d:=d.trans d1;obtain ⟨o0,d0,h6,a⟩:=a.relRow (i:=0) rfl W;replace b3:=b3.mono d0;replace d:=d.trans d0;refine CI l Z Z [f5,e6] jT Z (ce f1 a.imm b3 h6) Z ?_;rintro l9 l3 ⟨n9,f9,g7⟩;obtain ⟨b5,g5,a⟩:=r5.lent g7;replace d:=hagg5L34.trans g5;obtain ⟨o8,rfl,h2⟩:=f9;cases h2;refine aa ?_;replace b:=b.to d (a.sub (.cons _ (.cons _ (.cons_cons _ .slnil))));refine ⟨fun _=>b,?_⟩;refine A Z b (fun e ⟨g,f,a⟩=>az (v:=Bo a1) Z l Z) Z<|A Z b (fun e ⟨g,f,a⟩=>aj (v:=Bo a1) Z) Z<|AK Z Z Z Z (by rw [j]; rfl) b Z<|AK Z Z Z Z (by rw [j]; rfl) b Z<|A2 Z ?_ ?_
      ·refine OJ j Z Z Z<|aa ⟨fun _=>b,?_⟩;refine A2 Z ?_ ?_
       ·refine OJ j Z Z Z<|aa ⟨fun _=>b,?_⟩;refine A1 Z<|OJ j Z Z Z<|aa ⟨fun _=>b,?_⟩;refine A1 Z<|OJ j Z Z Z<|aa ⟨fun _=>b,?_⟩;refine A Z b (fun e ⟨g,f,a⟩=>aw (v:=Bo false) Z j Z) Z<|A Z b (fun e ⟨g,f,a⟩=>ba (v:=Bo false) Z) Z<|AN ?_;obtain rfl:=si hM;exact ⟨b5,Z,o,d,(a.sub (.cons _ (.cons _ (.cons _ .slnil))))⟩
       refine A2 Z ?_ ?_
       ·refine OJ j Z Z Z<|aa ⟨fun _=>b,?_⟩;refine A1 Z<|OJ j Z Z Z<|aa ⟨fun _=>b,?_⟩;refine A1 Z<|OJ j Z Z Z<|aa ⟨fun _=>b,?_⟩;refine A Z b (fun e ⟨g,f,a⟩=>aw (v:=Bo false) Z j Z) Z<|A Z b (fun e ⟨g,f,a⟩=>ba (v:=Bo false) Z) Z<|AN ?_;obtain rfl:=si hM;exact ⟨b5,Z,o,d,(a.sub (.cons _ (.cons _ (.cons _ .slnil))))⟩
       trivial
      refine A2 Z ?_ ?_
      ·refine OJ j Z Z Z<|aa ⟨fun _=>b,?_⟩;refine A1 Z<|OJ j Z Z Z<|aa ⟨fun _=>b,?_⟩;refine A1 Z<|OJ j Z Z Z<|aa ⟨fun _=>b,?_⟩;refine A1 Z<|OJ j Z Z Z<|aa ⟨fun _=>b,?_⟩;refine A Z b (fun e ⟨g,f,a⟩=>aw (v:=Bo false) Z j Z) Z<|A Z b (fun e ⟨g,f,a⟩=>ba (v:=Bo false) Z) Z<|AN ?_;obtain rfl:=si hM;exact ⟨b5,Z,o,d,(a.sub (.cons _ (.cons _ (.cons _ .slnil))))⟩
      trivial
     trivial
    refine A2 Z ?_ ?_
    ·refine kC Z Z Z (by rw [l]; rfl)<|bF (τ:=aZ) [Ag [I6 3,I6 6]] [(bh.mk 3 6)] De eu (by decide) a Z Z Z ⟨⟨[I6 3],[I6 6],Z,Z,Z⟩,trivial⟩ Z ?_;intro m0 p1 k9 W a;refine aa ?_;replace b:=b.to d (a.sub (.cons _ (.cons_cons _ .slnil)));refine ⟨fun _=>b,?_⟩;refine A1 Z<|CI l Z Z [] oh Z (cE i5 a.imm) Z ?_;rintro f6 l5 ⟨y4,p9,g8⟩;have i7:=g8.le a.imm;replace a:=a.call g8;replace W:=W.mono i7;replace d:=d.trans i7;obtain ⟨z4,rfl,k5⟩:=p9;obtain ⟨z3,z2,z1,z0,rfl,k4,k3,k2,k1⟩:=k5;obtain ⟨e6,rfl,x6⟩:=k4;cases k3;cases k2;cases k1;refine aa ?_;replace b:=b.to d (a.sub (.cons _ (.cons_cons _ .slnil)));refine ⟨fun _=>b,?_⟩;refine A1 Z<|CI l Z Z [Ag [e6,Bo t.Layout,I6 t.Misspelling,I6 t.Unclosed],Ag [I6 k.Kind,I6 k.At,ah k.Text,I6 k.Look]] jU Z (bz f2 a.imm (⟨[e6],[Bo t.Layout],[I6 t.Misspelling],[I6 t.Unclosed],Z,⟨_,Z,x6⟩,Z,Z,Z⟩) (⟨[I6 k.Kind],[I6 k.At],[ah k.Text],[I6 k.Look],Z,Z,Z,Z,Z⟩)) Z ?_;rintro f5 l4 ⟨o2,k8,j1,d4⟩;have e3:=d4.ext.le a.imm;replace a:=a.callOwn d4;simp only [List.cons_append,List.nil_append] at a;replace W:=W.mono e3;replace d:=d.trans e3;refine aa ?_;replace b:=b.to d (a.sub (.cons _ (.cons _ (.cons_cons _ .slnil))));refine ⟨fun _=>b,?_⟩;refine A1 Z ?_;have r4:=a;have hagg5L35:=d;obtain ⟨o1,d1,b3,a⟩:=a.relRow (i:=0) rfl j1;replace W:=W.mono d1;replace d:=d.trans d1;obtain ⟨o0,d0,h6,a⟩:=a.relRow (i:=0) rfl W;replace b3:=b3.mono d0;replace d:=d.trans d0;refine CI l Z Z [f5,m0] jT Z (ce f1 a.imm b3 h6) Z ?_;rintro l9 l3 ⟨n9,f9,g7⟩;obtain ⟨b5,g5,a⟩:=r4.lent g7;replace d:=hagg5L35.trans g5;obtain ⟨o8,rfl,h2⟩:=f9;cases h2;refine aa ?_;replace b:=b.to d (a.sub (.cons _ (.cons _ (.cons_cons _ .slnil))));refine ⟨fun _=>b,?_⟩;refine A Z b (fun e ⟨g,f,a⟩=>az (v:=Bo a1) Z l Z) Z<|A Z b (fun e ⟨g,f,a⟩=>aj (v:=Bo a1) Z) Z<|AK Z Z Z Z (by rw [j]; rfl) b Z<|AK Z Z Z Z (by rw [j]; rfl) b Z<|A2 Z ?_ ?_
     ·refine OJ j Z Z Z<|aa ⟨fun _=>b,?_⟩;refine A2 Z ?_ ?_
      ·refine OJ j Z Z Z<|aa ⟨fun _=>b,?_⟩;refine A1 Z<|OJ j Z Z Z<|aa ⟨fun _=>b,?_⟩;refine A1 Z<|OJ j Z Z Z<|aa ⟨fun _=>b,?_⟩;refine A Z b (fun e ⟨g,f,a⟩=>aw (v:=Bo false) Z j Z) Z<|A Z b (fun e ⟨g,f,a⟩=>ba (v:=Bo false) Z) Z<|AN ?_;obtain rfl:=si hM;exact ⟨b5,Z,o,d,(a.sub (.cons _ (.cons _ (.cons _ .slnil))))⟩
      refine A2 Z ?_ ?_
      ·refine OJ j Z Z Z<|aa ⟨fun _=>b,?_⟩;refine A1 Z<|OJ j Z Z Z<|aa ⟨fun _=>b,?_⟩;refine A1 Z<|OJ j Z Z Z<|aa ⟨fun _=>b,?_⟩;refine A Z b (fun e ⟨g,f,a⟩=>aw (v:=Bo false) Z j Z) Z<|A Z b (fun e ⟨g,f,a⟩=>ba (v:=Bo false) Z) Z<|AN ?_;obtain rfl:=si hM;exact ⟨b5,Z,o,d,(a.sub (.cons _ (.cons _ (.cons _ .slnil))))⟩
      trivial
     refine A2 Z ?_ ?_
     ·refine OJ j Z Z Z<|aa ⟨fun _=>b,?_⟩;refine A1 Z<|OJ j Z Z Z<|aa ⟨fun _=>b,?_⟩;refine A1 Z<|OJ j Z Z Z<|aa ⟨fun _=>b,?_⟩;refine A1 Z<|OJ j Z Z Z<|aa ⟨fun _=>b,?_⟩;refine A Z b (fun e ⟨g,f,a⟩=>aw (v:=Bo false) Z j Z) Z<|A Z b (fun e ⟨g,f,a⟩=>ba (v:=Bo false) Z) Z<|AN ?_;obtain rfl:=si hM;exact ⟨b5,Z,o,d,(a.sub (.cons _ (.cons _ (.cons _ .slnil))))⟩
     trivial
    trivial
   refine cQ (.s 0 (.q 1 (.q 2 (.s 3 (.q 4 (.q 5 (.q 6 (.q 8 (.q 9 (.q 10 (.q 12 (.c 7 (.c 11 (.s 13 (.s 14 (.q 15 (.q 16 (.q 18 (.q 20 (.c 17 (.c 19 (.s 21 (.s 22 (.q 23 (.q 24 (.leaf))))) (.c 21 (.s 19 (.s 22 (.q 23 (.q 24 (.leaf))))) (.n))) (.c 21 (.s 17 (.s 19 (.s 22 (.q 23 (.q 24 (.leaf)))))) (.n))))))))) (.c 13 (.s 11 (.s 14 (.q 15 (.q 16 (.q 18 (.q 20 (.c 17 (.c 19 (.s 21 (.s 22 (.q 23 (.q 24 (.leaf))))) (.c 21 (.s 19 (.s 22 (.q 23 (.q 24 (.leaf))))) (.n))) (.c 21 (.s 17 (.s 19 (.s 22 (.q 23 (.q 24 (.leaf)))))) (.n))))))))) (.n))) (.c 13 (.s 7 (.s 11 (.s 14 (.q 15 (.q 16 (.q 18 (.q 20 (.c 17 (.c 19 (.s 21 (.s 22 (.q 23 (.q 24 (.leaf))))) (.c 21 (.s 19 (.s 22 (.q 23 (.q 24 (.leaf))))) (.n))) (.c 21 (.s 17 (.s 19 (.s 22 (.q 23 (.q 24 (.leaf)))))) (.n)))))))))) (.n)))))))))))))) (SS g0 U H [.row v4 43 bY.sz l1.length b6]) mo (by decide +kernel) ?_;have a:=a.drew;have b:SS g0 U H [.row v4 43 bY.sz l1.length b6] _:=⟨H,aL.refl _,a⟩;refine A1 Z<|C [ah [104,119,105,108,101],ah [119,104,105,108,101]] rI Z (cr i6 a.imm) Z ?_;rintro B1 z9 ⟨C3,p7,n0⟩;have t4:=n0.le a.imm;replace a:=a.call n0;replace d:=d.trans t4;obtain ⟨E8,rfl,w1⟩:=p7;cases w1;refine aa ?_;replace b:=b.to d a;refine ⟨fun _=>b,?_⟩;refine A Z b (fun e ⟨g,f,a⟩=>bw Z Z) Z<|A Z b (fun e ⟨g,f,a⟩=>aj (v:=Bo (i4 == 1)) Z) Z<|A1 Z<|CI Y Z Z [ah [99,97],ah [97,98,99]] rI Z (cr j3 a.imm) Z ?_;rintro B0 z8 ⟨c2,p6,m9⟩;have t3:=m9.le a.imm;replace a:=a.call m9;replace d:=d.trans t3;obtain ⟨E7,rfl,v9⟩:=p6;cases v9;refine aa ?_;replace b:=b.to d a;refine ⟨fun _=>b,?_⟩;refine AG Z Z Z Z (by rw [Y]; rfl) b (fun e ⟨g,f,a⟩=>bw Z Z) Z<|A Z b (fun e ⟨g,f,a⟩=>az (v:=Bo (e8 == 3)) Z Y Z) Z<|A Z b (fun e ⟨g,f,a⟩=>aj (v:=Bo (e8 == 3)) Z) Z<|AK Z Z Z Z (by rw [l]; rfl) b Z<|AK Z Z Z Z (by rw [l]; rfl) b Z<|AK Z Z Z Z (by rw [l]; rfl) b Z<|AK Z Z Z Z (by rw [l]; rfl) b Z<|A2 Z ?_ ?_
   ·refine OJ l Z Z Z<|aa ⟨fun _=>b,?_⟩;refine A2 Z ?_ ?_
    ·refine OJ l Z Z Z<|aa ⟨fun _=>b,?_⟩;refine A1 Z<|OJ l Z Z Z<|aa ⟨fun _=>b,?_⟩;refine A1 Z<|OJ l Z Z Z<|aa ⟨fun _=>b,?_⟩;refine A Z b (fun e ⟨g,f,a⟩=>aw (v:=Bo false) Z l Z) Z<|A Z b (fun e ⟨g,f,a⟩=>aj (v:=Bo false) Z) Z<|AK Z Z Z Z Z b Z<|AK Z Z Z Z Z b Z<|A2 Z ?_ ?_
     ·refine OK Z Z Z Z Z<|aa ⟨fun _=>b,?_⟩;refine A2 Z ?_ ?_
      ·refine OK Z Z Z Z Z<|aa ⟨fun _=>b,?_⟩;refine A1 Z<|OK Z Z Z Z Z<|aa ⟨fun _=>b,?_⟩;refine A1 Z<|OK Z Z Z Z Z<|aa ⟨fun _=>b,?_⟩;refine A Z b (fun e ⟨g,f,a⟩=>aw (v:=Bo false) Z Z Z) Z<|A Z b (fun e ⟨g,f,a⟩=>ba (v:=Bo false) Z) Z<|AN ?_;obtain rfl:=si hM;exact ⟨c2,Z,o,d,(a.sub (.cons _ .slnil))⟩
      refine A2 Z ?_ ?_
      ·refine OK Z Z Z Z Z<|aa ⟨fun _=>b,?_⟩;refine A1 Z<|OK Z Z Z Z Z<|aa ⟨fun _=>b,?_⟩;refine A1 Z<|OK Z Z Z Z Z<|aa ⟨fun _=>b,?_⟩;refine A Z b (fun e ⟨g,f,a⟩=>aw (v:=Bo false) Z Z Z) Z<|A Z b (fun e ⟨g,f,a⟩=>ba (v:=Bo false) Z) Z<|AN ?_;obtain rfl:=si hM;exact ⟨c2,Z,o,d,(a.sub (.cons _ .slnil))⟩
      trivial
     refine A2 Z ?_ ?_
     ·refine OK Z Z Z Z Z<|aa ⟨fun _=>b,?_⟩;refine A1 Z<|OK Z Z Z Z Z<|aa ⟨fun _=>b,?_⟩;refine A1 Z<|OK Z Z Z Z Z<|aa ⟨fun _=>b,?_⟩;refine A1 Z<|OK Z Z Z Z Z<|aa ⟨fun _=>b,?_⟩;refine A Z b (fun e ⟨g,f,a⟩=>aw (v:=Bo false) Z Z Z) Z<|A Z b (fun e ⟨g,f,a⟩=>ba (v:=Bo false) Z) Z<|AN ?_;obtain rfl:=si hM;exact ⟨c2,Z,o,d,(a.sub (.cons _ .slnil))⟩
     trivial
    refine A2 Z ?_ ?_
    ·refine OJ l Z Z Z<|aa ⟨fun _=>b,?_⟩;refine A1 Z<|OJ l Z Z Z<|aa ⟨fun _=>b,?_⟩;refine A1 Z<|OJ l Z Z Z<|aa ⟨fun _=>b,?_⟩;refine A Z b (fun e ⟨g,f,a⟩=>aw (v:=Bo false) Z l Z) Z<|A Z b (fun e ⟨g,f,a⟩=>aj (v:=Bo false) Z) Z<|AK Z Z Z Z Z b Z<|AK Z Z Z Z Z b Z<|A2 Z ?_ ?_
     ·refine OK Z Z Z Z Z<|aa ⟨fun _=>b,?_⟩;refine A2 Z ?_ ?_
      ·refine OK Z Z Z Z Z<|aa ⟨fun _=>b,?_⟩;refine A1 Z<|OK Z Z Z Z Z<|aa ⟨fun _=>b,?_⟩;refine A1 Z<|OK Z Z Z Z Z<|aa ⟨fun _=>b,?_⟩;refine A Z b (fun e ⟨g,f,a⟩=>aw (v:=Bo false) Z Z Z) Z<|A Z b (fun e ⟨g,f,a⟩=>ba (v:=Bo false) Z) Z<|AN ?_;obtain rfl:=si hM;exact ⟨c2,Z,o,d,(a.sub (.cons _ .slnil))⟩
      refine A2 Z ?_ ?_
      ·refine OK Z Z Z Z Z<|aa ⟨fun _=>b,?_⟩;refine A1 Z<|OK Z Z Z Z Z<|aa ⟨fun _=>b,?_⟩;refine A1 Z<|OK Z Z Z Z Z<|aa ⟨fun _=>b,?_⟩;refine A Z b (fun e ⟨g,f,a⟩=>aw (v:=Bo false) Z Z Z) Z<|A Z b (fun e ⟨g,f,a⟩=>ba (v:=Bo false) Z) Z<|AN ?_;obtain rfl:=si hM;exact ⟨c2,Z,o,d,(a.sub (.cons _ .slnil))⟩
      trivial
     refine A2 Z ?_ ?_
     ·refine OK Z Z Z Z Z<|aa ⟨fun _=>b,?_⟩;refine A1 Z<|OK Z Z Z Z Z<|aa ⟨fun _=>b,?_⟩;refine A1 Z<|OK Z Z Z Z Z<|aa ⟨fun _=>b,?_⟩;refine A1 Z<|OK Z Z Z Z Z<|aa ⟨fun _=>b,?_⟩;refine A Z b (fun e ⟨g,f,a⟩=>aw (v:=Bo false) Z Z Z) Z<|A Z b (fun e ⟨g,f,a⟩=>ba (v:=Bo false) Z) Z<|AN ?_;obtain rfl:=si hM;exact ⟨c2,Z,o,d,(a.sub (.cons _ .slnil))⟩
     trivial
    trivial
   refine A2 Z ?_ ?_
   ·refine OJ l Z Z Z<|aa ⟨fun _=>b,?_⟩;refine A1 Z<|OJ l Z Z Z<|aa ⟨fun _=>b,?_⟩;refine A1 Z<|OJ l Z Z Z<|aa ⟨fun _=>b,?_⟩;refine A1 Z<|OJ l Z Z Z<|aa ⟨fun _=>b,?_⟩;refine A Z b (fun e ⟨g,f,a⟩=>aw (v:=Bo false) Z l Z) Z<|A Z b (fun e ⟨g,f,a⟩=>aj (v:=Bo false) Z) Z<|AK Z Z Z Z Z b Z<|AK Z Z Z Z Z b Z<|A2 Z ?_ ?_
    ·refine OK Z Z Z Z Z<|aa ⟨fun _=>b,?_⟩;refine A2 Z ?_ ?_
     ·refine OK Z Z Z Z Z<|aa ⟨fun _=>b,?_⟩;refine A1 Z<|OK Z Z Z Z Z<|aa ⟨fun _=>b,?_⟩;refine A1 Z<|OK Z Z Z Z Z<|aa ⟨fun _=>b,?_⟩;refine A Z b (fun e ⟨g,f,a⟩=>aw (v:=Bo false) Z Z Z) Z<|A Z b (fun e ⟨g,f,a⟩=>ba (v:=Bo false) Z) Z<|AN ?_;obtain rfl:=si hM;exact ⟨c2,Z,o,d,(a.sub (.cons _ .slnil))⟩
     refine A2 Z ?_ ?_
     ·refine OK Z Z Z Z Z<|aa ⟨fun _=>b,?_⟩;refine A1 Z<|OK Z Z Z Z Z<|aa ⟨fun _=>b,?_⟩;refine A1 Z<|OK Z Z Z Z Z<|aa ⟨fun _=>b,?_⟩;refine A Z b (fun e ⟨g,f,a⟩=>aw (v:=Bo false) Z Z Z) Z<|A Z b (fun e ⟨g,f,a⟩=>ba (v:=Bo false) Z) Z<|AN ?_;obtain rfl:=si hM;exact ⟨c2,Z,o,d,(a.sub (.cons _ .slnil))⟩
     trivial
    refine A2 Z ?_ ?_
    ·refine OK Z Z Z Z Z<|aa ⟨fun _=>b,?_⟩;refine A1 Z<|OK Z Z Z Z Z<|aa ⟨fun _=>b,?_⟩;refine A1 Z<|OK Z Z Z Z Z<|aa ⟨fun _=>b,?_⟩;refine A1 Z<|OK Z Z Z Z Z<|aa ⟨fun _=>b,?_⟩;refine A Z b (fun e ⟨g,f,a⟩=>aw (v:=Bo false) Z Z Z) Z<|A Z b (fun e ⟨g,f,a⟩=>ba (v:=Bo false) Z) Z<|AN ?_;obtain rfl:=si hM;exact ⟨c2,Z,o,d,(a.sub (.cons _ .slnil))⟩
    trivial
   trivial
  refine cQ (.s 0 (.q 1 (.q 2 (.s 3 (.q 4 (.q 5 (.q 6 (.q 8 (.q 9 (.q 10 (.q 12 (.c 7 (.c 11 (.s 13 (.s 14 (.q 15 (.q 16 (.q 18 (.q 20 (.c 17 (.c 19 (.s 21 (.s 22 (.q 23 (.q 24 (.leaf))))) (.c 21 (.s 19 (.s 22 (.q 23 (.q 24 (.leaf))))) (.n))) (.c 21 (.s 17 (.s 19 (.s 22 (.q 23 (.q 24 (.leaf)))))) (.n))))))))) (.c 13 (.s 11 (.s 14 (.q 15 (.q 16 (.q 18 (.q 20 (.c 17 (.c 19 (.s 21 (.s 22 (.q 23 (.q 24 (.leaf))))) (.c 21 (.s 19 (.s 22 (.q 23 (.q 24 (.leaf))))) (.n))) (.c 21 (.s 17 (.s 19 (.s 22 (.q 23 (.q 24 (.leaf)))))) (.n))))))))) (.n))) (.c 13 (.s 7 (.s 11 (.s 14 (.q 15 (.q 16 (.q 18 (.q 20 (.c 17 (.c 19 (.s 21 (.s 22 (.q 23 (.q 24 (.leaf))))) (.c 21 (.s 19 (.s 22 (.q 23 (.q 24 (.leaf))))) (.n))) (.c 21 (.s 17 (.s 19 (.s 22 (.q 23 (.q 24 (.leaf)))))) (.n)))))))))) (.n)))))))))))))) (SS g0 U H [.row v4 43 bY.sz l1.length b6]) mo (by decide +kernel) ?_;have a:=a.drew;have b:SS g0 U H [.row v4 43 bY.sz l1.length b6] _:=⟨H,aL.refl _,a⟩;refine A1 Z<|C [ah [104,119,105,108,101],ah [119,104,105,108,101]] rI Z (cr i6 a.imm) Z ?_;rintro A9 z7 ⟨c1,p5,m8⟩;have t2:=m8.le a.imm;replace a:=a.call m8;replace d:=d.trans t2;obtain ⟨E6,rfl,v8⟩:=p5;cases v8;refine aa ?_;replace b:=b.to d a;refine ⟨fun _=>b,?_⟩;refine A Z b (fun e ⟨g,f,a⟩=>bw Z Z) Z<|A Z b (fun e ⟨g,f,a⟩=>aj (v:=Bo (i4 == 1)) Z) Z<|A1 Z<|OJ Y Z Z Z<|aa ⟨fun _=>b,?_⟩;refine AK Z Z Z Z (by rw [Y]; rfl) b Z<|A Z b (fun e ⟨g,f,a⟩=>aw (v:=Bo false) Z Y Z) Z<|A Z b (fun e ⟨g,f,a⟩=>aj (v:=Bo false) Z) Z<|AK Z Z Z Z Z b Z<|AK Z Z Z Z Z b Z<|AK Z Z Z Z Z b Z<|AK Z Z Z Z Z b Z<|A2 Z ?_ ?_
  ·refine OK Z Z Z Z Z<|aa ⟨fun _=>b,?_⟩;refine A2 Z ?_ ?_
   ·refine OK Z Z Z Z Z<|aa ⟨fun _=>b,?_⟩;refine A1 Z<|OK Z Z Z Z Z<|aa ⟨fun _=>b,?_⟩;refine A1 Z<|OK Z Z Z Z Z<|aa ⟨fun _=>b,?_⟩;refine A Z b (fun e ⟨g,f,a⟩=>aw (v:=Bo false) Z Z Z) Z<|A Z b (fun e ⟨g,f,a⟩=>aj (v:=Bo false) Z) Z<|AK Z Z Z Z Z b Z<|AK Z Z Z Z Z b Z<|A2 Z ?_ ?_
    ·refine OK Z Z Z Z Z<|aa ⟨fun _=>b,?_⟩;refine A2 Z ?_ ?_
     ·refine OK Z Z Z Z Z<|aa ⟨fun _=>b,?_⟩;refine A1 Z<|OK Z Z Z Z Z<|aa ⟨fun _=>b,?_⟩;refine A1 Z<|OK Z Z Z Z Z<|aa ⟨fun _=>b,?_⟩;refine A Z b (fun e ⟨g,f,a⟩=>aw (v:=Bo false) Z Z Z) Z<|A Z b (fun e ⟨g,f,a⟩=>ba (v:=Bo false) Z) Z<|AN ?_;obtain rfl:=si hM;exact ⟨c1,Z,o,d,(a.sub (.cons _ .slnil))⟩
     refine A2 Z ?_ ?_
     ·refine OK Z Z Z Z Z<|aa ⟨fun _=>b,?_⟩;refine A1 Z<|OK Z Z Z Z Z<|aa ⟨fun _=>b,?_⟩;refine A1 Z<|OK Z Z Z Z Z<|aa ⟨fun _=>b,?_⟩;refine A Z b (fun e ⟨g,f,a⟩=>aw (v:=Bo false) Z Z Z) Z<|A Z b (fun e ⟨g,f,a⟩=>ba (v:=Bo false) Z) Z<|AN ?_;obtain rfl:=si hM;exact ⟨c1,Z,o,d,(a.sub (.cons _ .slnil))⟩
     trivial
    refine A2 Z ?_ ?_
    ·refine OK Z Z Z Z Z<|aa ⟨fun _=>b,?_⟩;refine A1 Z<|OK Z Z Z Z Z<|aa ⟨fun _=>b,?_⟩;refine A1 Z<|OK Z Z Z Z Z<|aa ⟨fun _=>b,?_⟩;refine A1 Z<|OK Z Z Z Z Z<|aa ⟨fun _=>b,?_⟩;refine A Z b (fun e ⟨g,f,a⟩=>aw (v:=Bo false) Z Z Z) Z<|A Z b (fun e ⟨g,f,a⟩=>ba (v:=Bo false) Z) Z<|AN ?_;obtain rfl:=si hM;exact ⟨c1,Z,o,d,(a.sub (.cons _ .slnil))⟩
    trivial
   refine A2 Z ?_ ?_
   ·refine OK Z Z Z Z Z<|aa ⟨fun _=>b,?_⟩;refine A1 Z<|OK Z Z Z Z Z<|aa ⟨fun _=>b,?_⟩;refine A1 Z<|OK Z Z Z Z Z<|aa ⟨fun _=>b,?_⟩;refine A Z b (fun e ⟨g,f,a⟩=>aw (v:=Bo false) Z Z Z) Z<|A Z b (fun e ⟨g,f,a⟩=>aj (v:=Bo false) Z) Z<|AK Z Z Z Z Z b Z<|AK Z Z Z Z Z b Z<|A2 Z ?_ ?_
    ·refine OK Z Z Z Z Z<|aa ⟨fun _=>b,?_⟩;refine A2 Z ?_ ?_
     ·refine OK Z Z Z Z Z<|aa ⟨fun _=>b,?_⟩;refine A1 Z<|OK Z Z Z Z Z<|aa ⟨fun _=>b,?_⟩;refine A1 Z<|OK Z Z Z Z Z<|aa ⟨fun _=>b,?_⟩;refine A Z b (fun e ⟨g,f,a⟩=>aw (v:=Bo false) Z Z Z) Z<|A Z b (fun e ⟨g,f,a⟩=>ba (v:=Bo false) Z) Z<|AN ?_;obtain rfl:=si hM;exact ⟨c1,Z,o,d,(a.sub (.cons _ .slnil))⟩
     refine A2 Z ?_ ?_
     ·refine OK Z Z Z Z Z<|aa ⟨fun _=>b,?_⟩;refine A1 Z<|OK Z Z Z Z Z<|aa ⟨fun _=>b,?_⟩;refine A1 Z<|OK Z Z Z Z Z<|aa ⟨fun _=>b,?_⟩;refine A Z b (fun e ⟨g,f,a⟩=>aw (v:=Bo false) Z Z Z) Z<|A Z b (fun e ⟨g,f,a⟩=>ba (v:=Bo false) Z) Z<|AN ?_;obtain rfl:=si hM;exact ⟨c1,Z,o,d,(a.sub (.cons _ .slnil))⟩
     trivial
    refine A2 Z ?_ ?_
    ·refine OK Z Z Z Z Z<|aa ⟨fun _=>b,?_⟩;refine A1 Z<|OK Z Z Z Z Z<|aa ⟨fun _=>b,?_⟩;refine A1 Z<|OK Z Z Z Z Z<|aa ⟨fun _=>b,?_⟩;refine A1 Z<|OK Z Z Z Z Z<|aa ⟨fun _=>b,?_⟩;refine A Z b (fun e ⟨g,f,a⟩=>aw (v:=Bo false) Z Z Z) Z<|A Z b (fun e ⟨g,f,a⟩=>ba (v:=Bo false) Z) Z<|AN ?_;obtain rfl:=si hM;exact ⟨c1,Z,o,d,(a.sub (.cons _ .slnil))⟩
    trivial
   trivial
  refine A2 Z ?_ ?_
  ·refine OK Z Z Z Z Z<|aa ⟨fun _=>b,?_⟩;refine A1 Z<|OK Z Z Z Z Z<|aa ⟨fun _=>b,?_⟩;refine A1 Z<|OK Z Z Z Z Z<|aa ⟨fun _=>b,?_⟩;refine A1 Z<|OK Z Z Z Z Z<|aa ⟨fun _=>b,?_⟩;refine A Z b (fun e ⟨g,f,a⟩=>aw (v:=Bo false) Z Z Z) Z<|A Z b (fun e ⟨g,f,a⟩=>aj (v:=Bo false) Z) Z<|AK Z Z Z Z Z b Z<|AK Z Z Z Z Z b Z<|A2 Z ?_ ?_
   ·refine OK Z Z Z Z Z<|aa ⟨fun _=>b,?_⟩;refine A2 Z ?_ ?_
    ·refine OK Z Z Z Z Z<|aa ⟨fun _=>b,?_⟩;refine A1 Z<|OK Z Z Z Z Z<|aa ⟨fun _=>b,?_⟩;refine A1 Z<|OK Z Z Z Z Z<|aa ⟨fun _=>b,?_⟩;refine A Z b (fun e ⟨g,f,a⟩=>aw (v:=Bo false) Z Z Z) Z<|A Z b (fun e ⟨g,f,a⟩=>ba (v:=Bo false) Z) Z<|AN ?_;obtain rfl:=si hM;exact ⟨c1,Z,o,d,(a.sub (.cons _ .slnil))⟩
    refine A2 Z ?_ ?_
    ·refine OK Z Z Z Z Z<|aa ⟨fun _=>b,?_⟩;refine A1 Z<|OK Z Z Z Z Z<|aa ⟨fun _=>b,?_⟩;refine A1 Z<|OK Z Z Z Z Z<|aa ⟨fun _=>b,?_⟩;refine A Z b (fun e ⟨g,f,a⟩=>aw (v:=Bo false) Z Z Z) Z<|A Z b (fun e ⟨g,f,a⟩=>ba (v:=Bo false) Z) Z<|AN ?_;obtain rfl:=si hM;exact ⟨c1,Z,o,d,(a.sub (.cons _ .slnil))⟩
    trivial
   refine A2 Z ?_ ?_
   ·refine OK Z Z Z Z Z<|aa ⟨fun _=>b,?_⟩;refine A1 Z<|OK Z Z Z Z Z<|aa ⟨fun _=>b,?_⟩;refine A1 Z<|OK Z Z Z Z Z<|aa ⟨fun _=>b,?_⟩;refine A1 Z<|OK Z Z Z Z Z<|aa ⟨fun _=>b,?_⟩;refine A Z b (fun e ⟨g,f,a⟩=>aw (v:=Bo false) Z Z Z) Z<|A Z b (fun e ⟨g,f,a⟩=>ba (v:=Bo false) Z) Z<|AN ?_;obtain rfl:=si hM;exact ⟨c1,Z,o,d,(a.sub (.cons _ .slnil))⟩
   trivial
  trivial
 clear a;rintro E w ⟨i9,y3,o,C0,a⟩;have hM:=x9;obtain ⟨E,rfl⟩:=cN y3;refine aH ?_;obtain rfl:=si hM;refine aI o ?_;exact ⟨_,bC Tryz.results8 (aK (v:=Bo j0) Z),i9,⟨[Bo j0],Z,Z⟩,a.ext⟩
end Go.Proofs.YtlcdifnmkafcfaaGreat
set_option linter.unusedVariables false
set_option linter.unusedSimpArgs false
namespace Go.Proofs.YtlcdifnmkafcfaaGreat
open Go.Lx Go.RowKit
theorem kQ {j:T_LexSpec} {B:Int} {z:Str} {r:Bool} (hM:M.f1 j B z=some r) {h:Hp} {n:World} (Y:dw h n) {J:List Value} (b8:cO.rel h J j) :
    bl Tryz.prog 33 #[Value.agg J.toArray,I6 B,ah z] n (fun v w'=>∃g',(dl aY false g' v r)∧dE h n g' w'):=by
 unfold M.f1 at hM;obtain ⟨e4,e0,d9,d8,rfl,a9,a6,a5,a4⟩:=b8;obtain ⟨t,rfl,c1⟩:=a9;cases a6;cases a5;cases a4;have b:=Sep.start Y;refine aJ Tryz.func33 Z Tryz.ntmps33 Z ?_;have p:=bX;refine SR<|Ob [t,Bo j.Layout,I6 j.Misspelling,I6 j.Unclosed] b Z Z ?_;intro L c9 b;refine Oa (Bo false) Z Z<|NR<|Of Da cV Z Z Z Z Z Z<|Ol t cV b 0 0 Z Z Z Z<|Om (I6 B) Z Z ?_;obtain ⟨c,D,hM⟩:=ab hM;obtain ⟨b2,d1,f0,S,d7,a3,b9⟩:=c1.at D;obtain ⟨d6,d5,d4,e9,e8,rfl,a2,a1,a0,b7,b6⟩:=a3;cases a2;cases a1;cases a0;cases b7;cases b6;refine O (ax Dd dN (v:=t) Z S Z (ad D).1 (ad D).2.1) Z<|Oe [ah c.Name,I6 c.Kind,ah c.Pattern,ah c.Sample,ah c.Close] dN Z (b9 _ b.imm) Z Z<|bc dN b (zs:=[ah [],I6 0,ah [],ah [],ah []]) Z Z ?_;intro K c8 b;refine dn dN b 0 [ah c.Name,I6 c.Kind,ah c.Pattern,ah c.Sample,ah c.Close] Z Z Z (jS Z) Z Z ?_;intro c7 b;refine aa ?_;obtain ⟨y,P,c2⟩:=ab hM;refine aB (fun E w=>∃(x:Hp),E 6=Bo y∧E.ds=[]∧aL h x∧Sp h n x w []) ?_ ?_
 ·have hM:=P;have m:=aL.refl h;refine cQ (.q 0 (.q 1 (.q 2 (.q 3 (.q 4 (.q 5 (.q 6 (.q 7 (.q 8 (.q 9 (.q 10 (.q 11 (.q 12 (.q 13 (.q 14 (.q 16 (.q 17 (.q 18 (.q 19 (.s 15 (.s 20 (.q 21 (.q 22 (.leaf)))))))))))))))))))))))) (SS h n h [bx K 60 ([ah c.Name,I6 c.Kind,ah c.Pattern,ah c.Sample,ah c.Close]),bx L 24 ([t,Bo j.Layout,I6 j.Misspelling,I6 j.Unclosed])]) mo (by decide +kernel) ?_;have b:=b.drew;have a:SS h n h [bx K 60 ([ah c.Name,I6 c.Kind,ah c.Pattern,ah c.Sample,ah c.Close]),bx L 24 ([t,Bo j.Layout,I6 j.Misspelling,I6 j.Unclosed])] _:=⟨h,aL.refl _,b⟩;refine A Z a (fun d ⟨f,e,b⟩=>ap Da aW Z Z (by decide) Z Z) Z<|A Z a (fun d ⟨f,e,b⟩=>aV (v:=I6 j.Unclosed) aW Z (b.cell (i:=1) (o:=3) Z Z)) Z<|A Z a (fun d ⟨f,e,b⟩=>dF Z Z) Z<|A Z a (fun d ⟨f,e,b⟩=>aj (v:=Bo (decide (0<j.Unclosed))) Z) Z ?_;rcases an hM with ⟨l,hM⟩|⟨l,hM⟩
  ·refine AG Z Z Z Z (by rw [l]; rfl) a (fun d ⟨f,e,b⟩=>ap Df aW Z Z (by decide) Z Z) Z<|AG Z Z Z Z (by rw [l]; rfl) a (fun d ⟨f,e,b⟩=>aV (v:=I6 c.Kind) aW Z (b.cell (i:=0) (o:=1) Z Z)) Z<|AG Z Z Z Z (by rw [l]; rfl) a (fun d ⟨f,e,b⟩=>dx Z Z) Z<|A Z a (fun d ⟨f,e,b⟩=>az (v:=Bo (c.Kind != 2)) Z l Z) Z<|A Z a (fun d ⟨f,e,b⟩=>aj (v:=Bo (c.Kind != 2)) Z) Z ?_;rcases an hM with ⟨k,hM⟩|⟨k,hM⟩
   ·refine AG Z Z Z Z (by rw [k]; rfl) a (fun d ⟨f,e,b⟩=>ap Df db Z Z (by decide) Z Z) Z<|AG Z Z Z Z (by rw [k]; rfl) a (fun d ⟨f,e,b⟩=>aV (v:=ah c.Close) db Z (b.cell (i:=0) (o:=4) Z Z)) Z<|AG Z Z Z Z (by rw [k]; rfl) a (fun d ⟨f,e,b⟩=>vx Z Z) Z<|A Z a (fun d ⟨f,e,b⟩=>az (v:=Bo (c.Close != [])) Z k Z) Z<|A Z a (fun d ⟨f,e,b⟩=>aj (v:=Bo (c.Close != [])) Z) Z ?_;rcases an hM with ⟨g,hM⟩|⟨g,hM⟩
    ·refine AG Z Z Z Z (by rw [g]; rfl) a (fun d ⟨f,e,b⟩=>cv (cs:=[ah c.Name,I6 c.Kind,ah c.Pattern,ah c.Sample,ah c.Close]) dN Z Z (b.cells (i:=0) Z)) Z<|AG Z Z Z Z (by rw [g]; rfl) a (fun d ⟨f,e,b⟩=>aj (v:=ah z) Z) Z<|AG Z Z Z Z (by rw [g]; rfl) a (fun d ⟨f,e,b⟩=>ap Df db Z Z (by decide) Z Z) Z<|AG Z Z Z Z (by rw [g]; rfl) a (fun d ⟨f,e,b⟩=>aV (v:=ah c.Close) db Z (b.cell (i:=0) (o:=4) Z Z)) Z ?_;obtain ⟨N,T,hM⟩:=ab hM;refine AG Z Z Z Z (by rw [g]; rfl) a (fun d ⟨f,e,b⟩=>pP Z Z T) Z<|A1 Z ?_;obtain ⟨u,V,hM⟩:=ab hM;refine CI g Z Z [Ag [ah c.Name,I6 c.Kind,ah c.Pattern,ah c.Sample,ah c.Close]] wz Z (dJ V b.imm (⟨[ah c.Name],[I6 c.Kind],[ah c.Pattern],[ah c.Sample],[ah c.Close],Z,Z,Z,Z,Z,Z⟩)) Z ?_;rintro v5 c6 ⟨d3,R,I⟩;have X:=I.le b.imm;replace b:=b.call I;replace m:=m.trans X;obtain ⟨e7,rfl,b5⟩:=R;obtain ⟨e6,e5,e3,rfl,b4,b0,a8⟩:=ae.1 b5;cases b4;cases b0;obtain ⟨F,rfl,c0⟩:=a8;refine aa ?_;replace a:=a.to m b;refine ⟨fun _=>a,?_⟩;refine A1 Z ?_;obtain ⟨G,U,hM⟩:=ab hM;refine CI g Z Z [Ag (([I6 u.Kind])++((u.Set.1.map (U6))++([F]))),ah N] zI Z (fL U b.imm (ae.2 ⟨[I6 u.Kind],u.Set.1.map (U6),[F],Z,Z,Z,⟨_,Z,c0⟩⟩)) Z ?_;rintro v7 c5 ⟨c4,Q,H⟩;have W:=H.le b.imm;replace b:=b.call H;replace m:=m.trans W;obtain ⟨e2,rfl,a7⟩:=Q;cases a7;refine aa ?_;replace a:=a.to m b;refine ⟨fun _=>a,?_⟩;refine A Z a (fun d ⟨f,e,b⟩=>az (v:=Bo G) Z g Z) Z<|A Z a (fun d ⟨f,e,b⟩=>ba (v:=Bo G) Z) Z<|AN ?_;obtain rfl:=si hM;exact ⟨c4,Z,p,m,(b.sub (.cons _ (.cons _ .slnil)))⟩
    refine AK Z Z Z Z (by rw [g]; rfl) a Z<|AK Z Z Z Z (by rw [g]; rfl) a Z<|AK Z Z Z Z (by rw [g]; rfl) a Z<|AK Z Z Z Z (by rw [g]; rfl) a Z<|AK Z Z Z Z (by rw [g]; rfl) a Z<|A1 Z<|OJ g Z Z Z<|aa ⟨fun _=>a,?_⟩;refine A1 Z<|OJ g Z Z Z<|aa ⟨fun _=>a,?_⟩;refine A Z a (fun d ⟨f,e,b⟩=>aw (v:=Bo false) Z g Z) Z<|A Z a (fun d ⟨f,e,b⟩=>ba (v:=Bo false) Z) Z<|AN ?_;obtain rfl:=si hM;exact ⟨h,Z,p,(aL.refl _),(b.sub (.cons _ (.cons _ .slnil)))⟩
   refine AK Z Z Z Z (by rw [k]; rfl) a Z<|AK Z Z Z Z (by rw [k]; rfl) a Z<|AK Z Z Z Z (by rw [k]; rfl) a Z<|A Z a (fun d ⟨f,e,b⟩=>aw (v:=Bo false) Z k Z) Z<|A Z a (fun d ⟨f,e,b⟩=>aj (v:=Bo false) Z) Z<|AK Z Z Z Z Z a Z<|AK Z Z Z Z Z a Z<|AK Z Z Z Z Z a Z<|AK Z Z Z Z Z a Z<|AK Z Z Z Z Z a Z<|A1 Z<|OK Z Z Z Z Z<|aa ⟨fun _=>a,?_⟩;refine A1 Z<|OK Z Z Z Z Z<|aa ⟨fun _=>a,?_⟩;refine A Z a (fun d ⟨f,e,b⟩=>aw (v:=Bo false) Z Z Z) Z<|A Z a (fun d ⟨f,e,b⟩=>ba (v:=Bo false) Z) Z<|AN ?_;obtain rfl:=si hM;exact ⟨h,Z,p,(aL.refl _),(b.sub (.cons _ (.cons _ .slnil)))⟩
  refine AK Z Z Z Z (by rw [l]; rfl) a Z<|AK Z Z Z Z (by rw [l]; rfl) a Z<|AK Z Z Z Z (by rw [l]; rfl) a Z<|A Z a (fun d ⟨f,e,b⟩=>aw (v:=Bo false) Z l Z) Z<|A Z a (fun d ⟨f,e,b⟩=>aj (v:=Bo false) Z) Z<|AK Z Z Z Z Z a Z<|AK Z Z Z Z Z a Z<|AK Z Z Z Z Z a Z<|A Z a (fun d ⟨f,e,b⟩=>aw (v:=Bo false) Z Z Z) Z<|A Z a (fun d ⟨f,e,b⟩=>aj (v:=Bo false) Z) Z<|AK Z Z Z Z Z a Z<|AK Z Z Z Z Z a Z<|AK Z Z Z Z Z a Z<|AK Z Z Z Z Z a Z ?_;refine AK Z Z Z Z Z a Z<|A1 Z<|OK Z Z Z Z Z<|aa ⟨fun _=>a,?_⟩;refine A1 Z<|OK Z Z Z Z Z<|aa ⟨fun _=>a,?_⟩;refine A Z a (fun d ⟨f,e,b⟩=>aw (v:=Bo false) Z Z Z) Z<|A Z a (fun d ⟨f,e,b⟩=>ba (v:=Bo false) Z) Z<|AN ?_;obtain rfl:=si hM;exact ⟨h,Z,p,(aL.refl _),(b.sub (.cons _ (.cons _ .slnil)))⟩
 clear b;rintro E w ⟨x,c3,p,d2,b⟩;have hM:=c2;obtain ⟨E,rfl⟩:=cN c3;refine aH ?_;obtain rfl:=si hM;refine aI p ?_;exact ⟨_,bC Tryz.results33 (aK (v:=Bo y) Z),x,⟨[Bo y],Z,Z⟩,b.ext⟩
end Go.Proofs.YtlcdifnmkafcfaaGreat
set_option linter.unusedVariables false
set_option linter.unusedSimpArgs false
namespace Go.Proofs.YtlcdifnmkafcfaaGreat
open Go.Lx Go.RowKit
theorem kP {n:Str} {m:Str} {r:Int} (hM:M.e1 n m=some r) {c:Hp} {l:World} (hi:dw c l) :
    bl Tryz.prog 34 #[ah n,ah m] l (fun v w'=>∃g',(dl (aq .i64) false g' v r)∧dE c l g' w'):=by
 unfold M.e1 at hM;have a:=Sep.start hi;refine aJ Tryz.func34 Z Tryz.ntmps34 Z ?_;have f:=bX;refine SR<|Oa (I6 0) Z Z<|NR<|Om (ah n) Z Z<|O (bQ CV Z) Z ?_;obtain ⟨t1,m5,hM⟩:=ab hM;refine O (aM Z Z m5) Z ?_;obtain ⟨l1,o9,hM⟩:=ab hM;refine sc (τ:=(aq .i64)) (eI:=3) (A:=[]) (B:=[]) Db bP Z (by decide) a Z Z o9 Z ?_;intro v1 w7 d9 G1 u5 a;replace a:Sp c l c _ (.row v1 27 1 l1.length d9::(G1++[])):=a;refine Oa v1 Z Z<|aa ?_;obtain ⟨W,j0,t8⟩:=ab hM;refine aB (fun E w=>∃(D:Value) (N:List Value) (d4:List Res),E 0=ah n∧E 1=ah m∧E 5=D∧E.ds=[]∧dD (fk (aq .i64) 3) c N W d4∧Sp c l c w (.row D 27 1 W.length N::(d4++[]))) ?_ ?_
 ·have hM:=j0;have A6:=aL.refl c;refine SR<|Oa (I6 0) Z Z<|aa<|am<|aT (fun (b1:(List (List Int))×Int) E w=>match b1 with|(V,d)=>∃(u:Value) (L:List Value) (a2:List Res),E 0=ah n∧E 1=ah m∧E 5=u∧E 6=I6 d∧E.ds=[]∧dD (fk (aq .i64) 3) c L V a2∧Sp c l c w (.row u 27 1 V.length L::(a2++[]))) hM ⟨v1,d9,G1,Z,Z,Z,Z,f,u5,a⟩ ?_;clear a hM;rintro ⟨V,d⟩ y8 E w hM ⟨u,L,a2,q,p,o,t,f,f4,a⟩;obtain ⟨E,rfl⟩:=cm q p o t;refine ay<|SR<|Om (I6 d) Z Z<|Om (ah n) Z Z<|O (bQ CV Z) Z<|O (dj Z Z) Z<|aa ?_;rcases an hM with ⟨d2,hM⟩|⟨d2,hM⟩
  ·refine ak Z d2<|ao ?_;obtain ⟨d6,i9,t7⟩:=ab hM;refine aB (fun E w=>∃(U:Value) (R:List Value) (a1:List Res),E 0=ah n∧E 1=ah m∧E 5=U∧E 6=I6 d∧E.ds=[]∧dD (fk (aq .i64) 3) c R d6 a1∧Sp c l c w (.row U 27 1 d6.length R::(a1++[]))) ?_ ?_
   ·have hM:=i9;refine am<|SR<|Om u Z Z<|Om (I6 d) Z Z<|Om (ah m) Z Z<|O (bQ CV Z) Z ?_;obtain ⟨x6,m4,hM⟩:=ab hM;refine O (aM Z Z m4) Z ?_;obtain ⟨h7,o8,hM⟩:=ab hM;refine cD (τ:=(aq .i64)) (zc:=[I6 0]) (zx:=0) CT aW Z Z (by decide) a Z Z o8 Z ?_;intro e0 w6 h1 o3 a;obtain ⟨g8,b5,hM⟩:=ab hM;have o4:=cd (a.rowShape (i:=0) rfl);obtain ⟨F9,D8,k9,w5,d8,g4,m9,u2,n3⟩:=Sep.gridSet (A:=[.row e0 3 (aq .i64).sz h7.length h1,.row u 27 1 V.length L]) (B:=[]) a f4 (i:=1) (j:=0) rfl rfl (by decide) o3 b5;refine O (ax Db bP (v:=u) Z k9 Z (aS b5).1 (aS b5).2.1) Z<|O0 (qP bP Z (v:=e0) Z o4 m9) ?_;have a:=n3;replace a:Sp c l c _ (.row u 27 1 g8.length d8::(g4++[])):=a;refine NR<|Oa (I6 0) Z Z<|aa<|am<|aT (fun (b1:(List (List Int))×Int) E w=>match b1 with|(s,g)=>∃(b:Value) (e:List Value) (K:List Res),E 0=ah n∧E 1=ah m∧E 5=b∧E 6=I6 d∧E 7=I6 g∧E.ds=[]∧dD (fk (aq .i64) 3) c e s K∧Sp c l c w (.row b 27 1 s.length e::(K++[]))) hM ⟨u,d8,g4,Z,Z,Z,Z,Z,f,u2,a⟩ ?_;clear a hM;rintro ⟨s,g⟩ y7 E w hM ⟨b,e,K,q,p,o,t,x,f,y,a⟩;obtain ⟨E,rfl⟩:=cZ q p o t x;refine ay<|SR<|Om (I6 g) Z Z<|Om (ah m) Z Z<|O (bQ CV Z) Z<|O (dj Z Z) Z<|aa ?_;rcases an hM with ⟨d1,hM⟩|⟨d1,hM⟩
    ·refine ak Z d1<|ao ?_;obtain ⟨d5,i8,t6⟩:=ab hM;refine aB (fun E w=>∃(T:Value) (Q:List Value) (a0:List Res),E 0=ah n∧E 1=ah m∧E 5=T∧E 6=I6 d∧E 7=I6 g∧E.ds=[]∧dD (fk (aq .i64) 3) c Q d5 a0∧Sp c l c w (.row T 27 1 d5.length Q::(a0++[]))) ?_ ?_
     ·have hM:=i8;refine am<|ay ?_;obtain ⟨h0,i7,t5⟩:=ab hM;refine aB (fun E w=>E 0=ah n∧E 1=ah m∧E 5=b∧E 6=I6 d∧E 7=I6 g∧E 37=Bo h0∧E.ds=[]∧Sp c l c w (.row b 27 1 s.length e::(K++[]))) ?_ ?_
      ·have hM:=i7;refine ai<|Om (I6 d) Z Z<|O (bw Z Z) Z<|Om (Bo (d == 0)) Z Z ?_;rcases an hM with ⟨G,hM⟩|⟨G,hM⟩
       ·refine OJ G Z Z Z<|OJ G Z Z Z<|O (az (v:=Bo true) Z G Z) Z<|aa ?_;obtain rfl:=si hM;exact ⟨Z,Z,Z,Z,Z,Z,f,a⟩
       refine OI G Z Z (aj (v:=I6 g) Z) Z<|OI G Z Z (bw Z Z) Z<|O (aw (v:=Bo (g == 0)) Z G Z) Z<|aa ?_;obtain rfl:=si hM;exact ⟨Z,Z,Z,Z,Z,Z,f,a⟩
      clear a;rintro E w ⟨q,p,o,t,x,u7,f,a⟩;have hM:=t5;obtain ⟨E,rfl⟩:=dP q p o t x u7;rcases an hM with ⟨d0,hM⟩|⟨d0,hM⟩
      ·refine ak Z d0<|SR<|Om b Z Z<|Om (I6 d) Z Z ?_;obtain ⟨B2,c7,hM⟩:=ab hM;obtain ⟨F8,D7,k8,e2,y6,i4,q4,q0,s5⟩:=a.gridAt (i:=0) rfl y c7;obtain ⟨A5,w4,rfl,o2⟩:=q0;refine O (ax Db bP (v:=b) Z k8 Z (ad c7).1 (ad c7).2.1) Z<|Oc e2 bP (s5 _ (a.at (i:=0) Z)) Z Z<|Om (I6 g) Z Z<|Om (I6 d) Z Z<|Om (I6 g) Z Z ?_;obtain ⟨e7,m3,hM⟩:=ab hM;refine O (aM Z Z m3) Z ?_;obtain ⟨v4,b4,hM⟩:=ab hM;obtain ⟨g7,i1,hM⟩:=ab hM;obtain ⟨F7,D6,k7,h4,g3,m8,u0,o7,n2⟩:=Sep.gridPut (A:=[.row b 27 1 s.length e]) (B:=[]) a y i4 q4 o2 b4 i1 (cs:=[I6 e7]) rfl;refine O (ax CT aW (v:=e2) Z k7 Z (aS b4).1 (aS b4).2.1) Z<|O0 (cb aW Z (v:=I6 e7) Z Z m8) ?_;have a:=n2;replace a:Sp c l c h4 (.row b 27 1 g7.length e::(g3++[])):=by rw [o7]; exact a
       refine aa<|aN ?_;obtain rfl:=si hM;exact ⟨b,e,g3,Z,Z,Z,Z,Z,f,u0,a⟩
      refine ag Z d0<|ao<|SR<|Oa (I6 1) Z Z<|aa ?_;obtain ⟨d7,i6,t4⟩:=ab hM;refine aB (fun E w=>E 0=ah n∧E 1=ah m∧E 5=b∧E 6=I6 d∧E 7=I6 g∧E 8=I6 d7∧E.ds=[]∧Sp c l c w (.row b 27 1 s.length e::(K++[]))) ?_ ?_
      ·have hM:=i6;refine ay<|cM mo (by decide +kernel) ?_;have a:=a.drew;refine S (aj (v:=ah n) Z) Z<|S (aj (v:=I6 d) Z) Z ?_;obtain ⟨x5,m2,hM⟩:=ab hM;refine S (dh Z Z m2) Z ?_;obtain ⟨E0,t2,hM⟩:=ab hM;refine S (cc CV Z Z t2) Z<|S (aj (v:=ah m) Z) Z<|S (aj (v:=I6 g) Z) Z ?_;obtain ⟨x4,m1,hM⟩:=ab hM;refine S (dh Z Z m1) Z ?_;obtain ⟨D9,t0,hM⟩:=ab hM;refine S (cc CV Z Z t0) Z<|S (bw Z Z) Z<|bU ?_;rcases an hM with ⟨c9,hM⟩|⟨c9,hM⟩
       ·refine ak Z c9<|ai<|Oa (I6 0) Z Z<|aa ?_;obtain rfl:=si hM;exact ⟨Z,Z,Z,Z,Z,Z,f,a⟩
       refine ag Z c9<|ao ?_;obtain rfl:=si hM;exact ⟨Z,Z,Z,Z,Z,Z,f,a⟩
      clear a;rintro E w ⟨q,p,o,t,x,u6,f,a⟩;have hM:=t4;obtain ⟨E,rfl⟩:=dP q p o t x u6;refine ay<|cI 36 mo (by decide +kernel) ?_;have a:=a.drew;refine S (aj (v:=b) Z) Z<|S (aj (v:=I6 d) Z) Z ?_;obtain ⟨B1,J,hM⟩:=ab hM;obtain ⟨F6,D5,k6,b0,y5,i3,q3,p9,s4⟩:=a.gridAt (i:=0) rfl y J;obtain ⟨A4,w3,rfl,o1⟩:=p9;refine S (ax Db bP (v:=b) Z k6 Z (ad J).1 (ad J).2.1) Z<|S (aQ (cs:=[b0]) bP Z Z (.inr Z) (s4 _ (a.at (i:=0) Z)) (v:=b0) Z) Z<|S (aj (v:=I6 g) Z) Z<|S (aj (v:=b) Z) Z<|S (aj (v:=I6 d) Z) Z ?_;obtain ⟨x3,b7,hM⟩:=ab hM;refine S (dh Z Z b7) Z ?_;obtain ⟨B0,I,hM⟩:=ab hM;obtain ⟨F5,D4,k5,a9,y4,z4,f3,p8,s3⟩:=a.gridAt (i:=0) rfl y I;obtain ⟨A3,w2,rfl,o0⟩:=p8;refine S (ax Db bP (v:=b) Z k5 Z (ad I).1 (ad I).2.1) Z<|S (aQ (cs:=[a9]) bP Z Z (.inr Z) (s3 _ (a.at (i:=0) Z)) (v:=a9) Z) Z<|S (aj (v:=I6 g) Z) Z ?_;obtain ⟨f8,c6,hM⟩:=ab hM;obtain ⟨F4,D3,k4,B8,r0,s2⟩:=a.rowEl (jl (A:=[.row b 27 1 s.length e]) (B:=[]) f3) o0 c6;cases r0;refine S (ax CT aW (v:=a9) Z k4 Z (ad c6).1 (ad c6).2.1) Z<|S (aQ (cs:=[I6 f8]) aW Z Z (.inr Z) (s2 _ (a.at (jl (A:=[.row b 27 1 s.length e]) (B:=[]) f3))) (v:=I6 f8) Z) Z ?_;obtain ⟨e6,m0,hM⟩:=ab hM;refine S (aM Z Z m0) Z<|S (aj (v:=b) Z) Z<|S (aj (v:=I6 d) Z) Z ?_;obtain ⟨F3,D2,k3,a8,y3,z3,f2,p7,s1⟩:=a.gridAt (i:=0) rfl y J;obtain ⟨A0,w1,rfl,n9⟩:=p7;refine S (ax Db bP (v:=b) Z k3 Z (ad J).1 (ad J).2.1) Z<|S (aQ (cs:=[a8]) bP Z Z (.inr Z) (s1 _ (a.at (i:=0) Z)) (v:=a8) Z) Z<|S (aj (v:=I6 g) Z) Z ?_;obtain ⟨x2,b6,hM⟩:=ab hM;refine S (dh Z Z b6) Z ?_;obtain ⟨f7,c5,hM⟩:=ab hM;obtain ⟨F2,D1,k2,B7,q9,s0⟩:=a.rowEl (jl (A:=[.row b 27 1 s.length e]) (B:=[]) f2) n9 c5;cases q9
      refine S (ax CT aW (v:=a8) Z k2 Z (ad c5).1 (ad c5).2.1) Z<|S (aQ (cs:=[I6 f7]) aW Z Z (.inr Z) (s0 _ (a.at (jl (A:=[.row b 27 1 s.length e]) (B:=[]) f2))) (v:=I6 f7) Z) Z ?_;obtain ⟨e5,l9,hM⟩:=ab hM;refine S (aM Z Z l9) Z<|S (aj (v:=b) Z) Z<|S (aj (v:=I6 d) Z) Z<|S (dh Z Z b7) Z ?_;obtain ⟨F1,D0,k1,a7,y2,z2,f1,p6,r9⟩:=a.gridAt (i:=0) rfl y I;obtain ⟨z9,v9,rfl,n8⟩:=p6;refine S (ax Db bP (v:=b) Z k1 Z (ad I).1 (ad I).2.1) Z<|S (aQ (cs:=[a7]) bP Z Z (.inr Z) (r9 _ (a.at (i:=0) Z)) (v:=a7) Z) Z<|S (aj (v:=I6 g) Z) Z<|S (dh Z Z b6) Z ?_;obtain ⟨f6,c4,hM⟩:=ab hM;obtain ⟨F0,C9,k0,B6,q8,r8⟩:=a.rowEl (jl (A:=[.row b 27 1 s.length e]) (B:=[]) f1) n8 c4;cases q8;refine S (ax CT aW (v:=a7) Z k0 Z (ad c4).1 (ad c4).2.1) Z<|S (aQ (cs:=[I6 f6]) aW Z Z (.inr Z) (r8 _ (a.at (jl (A:=[.row b 27 1 s.length e]) (B:=[]) f1))) (v:=I6 f6) Z) Z<|S (aj (v:=I6 d7) Z) Z ?_;obtain ⟨e4,l8,hM⟩:=ab hM;refine S (aM Z Z l8) Z<|S (vz Z Z Z) Z ?_;obtain ⟨v3,b3,hM⟩:=ab hM;obtain ⟨z,i0,hM⟩:=ab hM;obtain ⟨E9,C8,j9,h3,d3,m7,P,o6,n1⟩:=Sep.gridPut (A:=[.row b 27 1 s.length e]) (B:=[]) a y i3 q3 o1 b3 i0 (cs:=[I6 (nN e6 e5 e4)]) rfl;refine S (ax CT aW (v:=b0) Z j9 Z (aS b3).1 (aS b3).2.1) Z<|bU<|O0 (cb aW Z (v:=I6 (nN e6 e5 e4)) Z Z m7) ?_;have a:=n1;replace a:Sp c l c h3 (.row b 27 1 z.length e::(d3++[])):=by rw [o6]; exact a
      refine aa ?_;obtain ⟨g9,i5,t3⟩:=ab hM;refine aB (fun E w=>E 0=ah n∧E 1=ah m∧E 5=b∧E 6=I6 d∧E 7=I6 g∧E 119=Bo g9∧E.ds=[]∧Sp c l c w (.row b 27 1 z.length e::(d3++[]))) ?_ ?_
      ·have hM:=i5;refine cM mo (by decide +kernel) ?_;have a:=a.drew;refine S (aj (v:=I6 d) Z) Z<|S (dF Z Z) Z<|S (aj (v:=Bo (decide (1<d))) Z) Z ?_;rcases an hM with ⟨F,hM⟩|⟨F,hM⟩
       ·refine SI F Z Z (aj (v:=I6 g) Z) Z<|SI F Z Z (dF Z Z) Z<|S (az (v:=Bo (decide (1<g))) Z F Z) Z<|S (aj (v:=Bo (decide (1<g))) Z) Z ?_;rcases an hM with ⟨k,hM⟩|⟨k,hM⟩
        ·refine SI k Z Z (aj (v:=ah n) Z) Z<|SI k Z Z (aj (v:=I6 d) Z) Z<|SI k Z Z (dh Z Z b7) Z ?_;obtain ⟨g1,s9,hM⟩:=ab hM;refine SI k Z Z (cc CV Z Z s9) Z<|SI k Z Z (aj (v:=ah m) Z) Z<|SI k Z Z (aj (v:=I6 g) Z) Z ?_;obtain ⟨x1,l7,hM⟩:=ab hM;refine SI k Z Z (dh Z Z l7) Z ?_;obtain ⟨f9,s8,hM⟩:=ab hM;refine SI k Z Z (cc CV Z Z s8) Z<|SI k Z Z (bw Z Z) Z<|S (az (v:=Bo (g1 == f9)) Z k Z) Z<|S (aj (v:=Bo (g1 == f9)) Z) Z ?_;rcases an hM with ⟨h,hM⟩|⟨h,hM⟩
         ·refine SI h Z Z (aj (v:=ah n) Z) Z<|SI h Z Z (aj (v:=I6 d) Z) Z ?_;obtain ⟨x0,l6,hM⟩:=ab hM;refine SI h Z Z (dh Z Z l6) Z ?_;obtain ⟨v0,s7,hM⟩:=ab hM;refine SI h Z Z (cc CV Z Z s7) Z<|SI h Z Z (aj (v:=ah m) Z) Z<|SI h Z Z (aj (v:=I6 g) Z) Z<|SI h Z Z (dh Z Z b6) Z ?_;obtain ⟨u9,s6,hM⟩:=ab hM;refine SI h Z Z (cc CV Z Z s6) Z<|SI h Z Z (bw Z Z) Z<|S (az (v:=Bo (v0 == u9)) Z h Z) Z<|bU ?_;obtain rfl:=si hM;exact ⟨Z,Z,Z,Z,Z,Z,f,a⟩
         refine SJ h Z Z Z<|SJ h Z Z Z<|SJ h Z Z Z<|SJ h Z Z Z<|SJ h Z Z Z<|SJ h Z Z Z<|SJ h Z Z Z<|SJ h Z Z Z<|SJ h Z Z Z<|S (aw (v:=Bo false) Z h Z) Z<|bU ?_;obtain rfl:=si hM;exact ⟨Z,Z,Z,Z,Z,Z,f,a⟩
        refine SJ k Z Z Z<|SJ k Z Z Z<|SJ k Z Z Z<|SJ k Z Z Z<|SJ k Z Z Z<|SJ k Z Z Z<|SJ k Z Z Z<|SJ k Z Z Z<|SJ k Z Z Z<|S (aw (v:=Bo false) Z k Z) Z<|S (aj (v:=Bo false) Z) Z<|SK Z Z Z Z Z<|SK Z Z Z Z Z<|SK Z Z Z Z Z<|SK Z Z Z Z Z<|SK Z Z Z Z Z<|SK Z Z Z Z Z<|SK Z Z Z Z Z<|SK Z Z Z Z Z ?_;refine SK Z Z Z Z Z<|S (aw (v:=Bo false) Z Z Z) Z<|bU ?_;obtain rfl:=si hM;exact ⟨Z,Z,Z,Z,Z,Z,f,a⟩
       refine SJ F Z Z Z<|SJ F Z Z Z<|S (aw (v:=Bo false) Z F Z) Z<|S (aj (v:=Bo false) Z) Z<|SK Z Z Z Z Z<|SK Z Z Z Z Z<|SK Z Z Z Z Z<|SK Z Z Z Z Z<|SK Z Z Z Z Z<|SK Z Z Z Z Z<|SK Z Z Z Z Z<|SK Z Z Z Z Z<|SK Z Z Z Z Z<|S (aw (v:=Bo false) Z Z Z) Z<|S (aj (v:=Bo false) Z) Z<|SK Z Z Z Z Z<|SK Z Z Z Z Z<|SK Z Z Z Z Z<|SK Z Z Z Z Z<|SK Z Z Z Z Z<|SK Z Z Z Z Z<|SK Z Z Z Z Z ?_;refine SK Z Z Z Z Z<|SK Z Z Z Z Z<|S (aw (v:=Bo false) Z Z Z) Z<|bU ?_;obtain rfl:=si hM;exact ⟨Z,Z,Z,Z,Z,Z,f,a⟩
      clear a;rintro E w ⟨q,p,o,t,x,u8,f,a⟩;have hM:=t3;obtain ⟨E,rfl⟩:=dP q p o t x u8;rcases an hM with ⟨c8,hM⟩|⟨c8,hM⟩
      ·refine ak Z c8<|cI 24 mo (by decide +kernel) ?_;have a:=a.drew;refine S (aj (v:=b) Z) Z<|S (aj (v:=I6 d) Z) Z ?_;obtain ⟨A9,H,hM⟩:=ab hM;obtain ⟨E8,C7,j8,a6,y1,i2,q2,p5,r7⟩:=a.gridAt (i:=0) rfl P H;obtain ⟨z8,v8,rfl,n7⟩:=p5;refine S (ax Db bP (v:=b) Z j8 Z (ad H).1 (ad H).2.1) Z<|S (aQ (cs:=[a6]) bP Z Z (.inr Z) (r7 _ (a.at (i:=0) Z)) (v:=a6) Z) Z<|S (aj (v:=I6 g) Z) Z<|S (aj (v:=b) Z) Z<|S (aj (v:=I6 d) Z) Z ?_;obtain ⟨E7,C6,j7,a5,y0,z1,f0,p4,r6⟩:=a.gridAt (i:=0) rfl P H;obtain ⟨z7,v7,rfl,n6⟩:=p4;refine S (ax Db bP (v:=b) Z j7 Z (ad H).1 (ad H).2.1) Z<|S (aQ (cs:=[a5]) bP Z Z (.inr Z) (r6 _ (a.at (i:=0) Z)) (v:=a5) Z) Z<|S (aj (v:=I6 g) Z) Z ?_;obtain ⟨Y,c3,hM⟩:=ab hM;obtain ⟨E6,C5,j6,B5,q7,r5⟩:=a.rowEl (jl (A:=[.row b 27 1 z.length e]) (B:=[]) f0) n6 c3;cases q7;refine S (ax CT aW (v:=a5) Z j6 Z (ad c3).1 (ad c3).2.1) Z<|S (aQ (cs:=[I6 Y]) aW Z Z (.inr Z) (r5 _ (a.at (jl (A:=[.row b 27 1 z.length e]) (B:=[]) f0))) (v:=I6 Y) Z) Z<|S (aj (v:=b) Z) Z<|S (aj (v:=I6 d) Z) Z ?_;obtain ⟨w9,l5,hM⟩:=ab hM;refine S (dh Z Z l5) Z ?_;obtain ⟨A8,c2,hM⟩:=ab hM;obtain ⟨E5,C4,j5,a4,x9,z0,e9,p3,r4⟩:=a.gridAt (i:=0) rfl P c2;obtain ⟨z6,v6,rfl,n5⟩:=p3;refine S (ax Db bP (v:=b) Z j5 Z (ad c2).1 (ad c2).2.1) Z<|S (aQ (cs:=[a4]) bP Z Z (.inr Z) (r4 _ (a.at (i:=0) Z)) (v:=a4) Z) Z<|S (aj (v:=I6 g) Z) Z ?_;obtain ⟨w8,l4,hM⟩:=ab hM;refine S (dh Z Z l4) Z ?_;obtain ⟨f5,c1,hM⟩:=ab hM;obtain ⟨E4,C3,j4,B4,q6,r3⟩:=a.rowEl (jl (A:=[.row b 27 1 z.length e]) (B:=[]) e9) n5 c1;cases q6;refine S (ax CT aW (v:=a4) Z j4 Z (ad c1).1 (ad c1).2.1) Z<|S (aQ (cs:=[I6 f5]) aW Z Z (.inr Z) (r3 _ (a.at (jl (A:=[.row b 27 1 z.length e]) (B:=[]) e9))) (v:=I6 f5) Z) Z ?_;obtain ⟨e3,l3,hM⟩:=ab hM;refine S (aM Z Z l3) Z<|S (vA Z Z) Z ?_;obtain ⟨v2,b2,hM⟩:=ab hM;obtain ⟨g6,h9,hM⟩:=ab hM
       obtain ⟨E3,C2,j3,h2,g2,m6,t9,o5,n0⟩:=Sep.gridPut (A:=[.row b 27 1 z.length e]) (B:=[]) a P i2 q2 n7 b2 h9 (cs:=[I6 (mF Y e3)]) rfl;refine S (ax CT aW (v:=a6) Z j3 Z (aS b2).1 (aS b2).2.1) Z<|bU<|O0 (cb aW Z (v:=I6 (mF Y e3)) Z Z m6) ?_;have a:=n0;replace a:Sp c l c h2 (.row b 27 1 g6.length e::(g2++[])):=by rw [o5]; exact a
       refine aa ?_;obtain rfl:=si hM;exact ⟨b,e,g2,Z,Z,Z,Z,Z,f,t9,a⟩
      refine ag Z c8<|ao ?_;obtain rfl:=si hM;exact ⟨b,e,d3,Z,Z,Z,Z,Z,f,P,a⟩
     clear a;rintro E w ⟨T,Q,a0,q,p,o,t,x,f,u1,a⟩;have hM:=t6;obtain ⟨E,rfl⟩:=cZ q p o t x;refine ai<|Om (I6 g) Z Z ?_;obtain ⟨h6,l2,hM⟩:=ab hM;refine O (aM Z Z l2) Z<|Oa (I6 h6) Z Z<|aa ?_;obtain rfl:=si hM;exact ⟨T,Q,a0,Z,Z,Z,Z,Z,f,u1,a⟩
    refine ag Z d1<|aN ?_;obtain rfl:=si hM;refine fun hr=>?_
    have hM:=congrArg some hr;obtain rfl:=si hM;exact ⟨b,e,K,Z,Z,Z,Z,f,y,a⟩
   clear a;rintro E w ⟨U,R,a1,q,p,o,t,f,u3,a⟩;have hM:=t7;obtain ⟨E,rfl⟩:=cm q p o t;refine ai<|Om (I6 d) Z Z ?_;obtain ⟨h5,l0,hM⟩:=ab hM;refine O (aM Z Z l0) Z<|Oa (I6 h5) Z Z<|aa ?_;obtain rfl:=si hM;exact ⟨U,R,a1,Z,Z,Z,Z,f,u3,a⟩
  refine ag Z d2<|aN ?_;obtain rfl:=si hM;refine fun hr=>?_
  have hM:=congrArg some hr;obtain rfl:=si hM;exact ⟨u,L,a2,Z,Z,Z,f,f4,a⟩
 clear a;rintro E w ⟨D,N,d4,q,p,o,f,u4,a⟩;have hM:=t8;obtain ⟨E,rfl⟩:=cg q p o;refine SR<|Om D Z Z<|Om (ah n) Z Z<|O (bQ CV Z) Z ?_;obtain ⟨A7,c0,hM⟩:=ab hM;obtain ⟨E2,C0,j2,e1,x8,y9,e8,p0,r2⟩:=a.gridAt (i:=0) rfl u4 c0;obtain ⟨z5,v5,rfl,n4⟩:=p0;refine O (ax Db bP (v:=D) Z j2 Z (ad c0).1 (ad c0).2.1) Z<|Oc e1 bP (r2 _ (a.at (i:=0) Z)) Z Z<|Om (ah m) Z Z<|O (bQ CV Z) Z ?_;obtain ⟨X,b9,hM⟩:=ab hM;obtain ⟨E1,B9,j1,B3,q5,r1⟩:=a.rowEl (jl (A:=[.row D 27 1 W.length N]) (B:=[]) e8) n4 b9;cases q5;refine O (ax CT aW (v:=e1) Z j1 Z (ad b9).1 (ad b9).2.1) Z<|Oc (I6 X) aW (r1 _ (a.at (jl (A:=[.row D 27 1 W.length N]) (B:=[]) e8))) Z Z<|Oa (I6 X) Z Z<|aa<|aH ?_;obtain rfl:=si hM;refine aI f ?_;exact ⟨_,bC Tryz.results34 (aK (v:=I6 X) Z),c,⟨[I6 X],Z,Z⟩,a.ext⟩
theorem jP {b:T_LexSpec} {c:T_Token} {r:(List bh)} (hM:M.e2 b c=some r) {l:Hp} {B:World} (hi:dw l B) {c4:List Value} (j2:cO.rel l c4 b) {c3:List Value} (j0:bY.rel l c3 c) :
    bl Tryz.prog 18 #[Value.agg c4.toArray,Value.agg c3.toArray] B (fun v w'=>∃g' y0,(al aZ g' y0 r)∧Sep l B g' w' [.row v 47 aZ.sz r.length y0]):=by
 unfold M.e2 at hM;obtain ⟨p5,n8,n0,m9,rfl,i9,h5,g7,g6⟩:=j2;obtain ⟨f,rfl,I⟩:=i9;cases h5;cases g7;cases g6;obtain ⟨m8,m7,m6,p6,rfl,g5,g4,g3,j1⟩:=j0;cases g5;cases g4;cases g3;cases j1;have a:=Sep.start hi;refine aJ Tryz.func18 Z Tryz.ntmps18 Z ?_;have e:=bX;refine SR<|Ob [f,Bo b.Layout,I6 b.Misspelling,I6 b.Unclosed] a Z Z ?_;intro z l5 a;refine Ob [I6 c.Kind,I6 c.At,ah c.Text,I6 c.Look] a Z Z ?_;intro y k8 a;refine Oa (Z0) Z Z<|NR<|Oa (Z0) Z Z<|aa ?_;obtain ⟨b5,d9,k0⟩:=ab hM;refine aB (fun E w=>∃(U:Hp) (L:Value) (V:List Value),E 5=L∧E.ds=[]∧aL l U∧al aZ U V b5∧Sp l B U w [.row L 47 aZ.sz b5.length V]) ?_ ?_
 ·have hM:=d9;have m5:=aL.refl l;refine SR<|Oa (I6 0) Z Z<|aa<|am ?_;have a:=a.nilRow 47 aZ.sz;refine aT (fun (d2:(List bh)×Int) E w=>match d2 with|(N,d)=>∃(x:Hp) (j:Value) (A:List Value),E 2=P0 z∧E 3=P0 y∧E 5=j∧E 6=I6 d∧E.ds=[]∧aL l x∧al aZ x A N∧Sp l B x w [.row j 47 aZ.sz N.length A,bx y 43 ([I6 c.Kind,I6 c.At,ah c.Text,I6 c.Look]),bx z 24 ([f,Bo b.Layout,I6 b.Misspelling,I6 b.Unclosed])]) hM ⟨l,(Z0),[],Z,Z,Z,Z,e,(aL.refl _),al.nil,a⟩ ?_;clear a hM;rintro ⟨N,d⟩ o2 E w hM ⟨x,j,A,H,G,s,F,e,Q,t,a⟩;obtain ⟨E,rfl⟩:=cm H G s F;replace I:=I.mono Q;have q:=aL.refl x;refine ay<|SR<|Om (I6 d) Z Z<|Of Da cV Z Z Z Z Z Z<|Ol f cV a 2 0 Z Z Z Z ?_;obtain ⟨q6,q1,e6⟩:=I.shape;refine O (aR (v:=f) Dd Z e6) Z<|O (bu Z Z) Z<|aa ?_;rcases an hM with ⟨a9,hM⟩|⟨a9,hM⟩
  ·refine ak Z a9<|ao ?_;obtain ⟨b3,d8,j9⟩:=ab hM;refine aB (fun E w=>∃(T:Hp) (a0:Value) (X:List Value),E 2=P0 z∧E 3=P0 y∧E 5=a0∧E 6=I6 d∧E.ds=[]∧aL x T∧al aZ T X b3∧Sp l B T w [.row a0 47 aZ.sz b3.length X,bx y 43 ([I6 c.Kind,I6 c.At,ah c.Text,I6 c.Look]),bx z 24 ([f,Bo b.Layout,I6 b.Misspelling,I6 b.Unclosed])]) ?_ ?_
   ·have hM:=d8;refine am<|ay<|SR<|Of Dj aW Z Z Z Z Z Z<|Ol (I6 c.Kind) aW a 1 0 Z Z Z Z<|O (bw Z Z) Z<|aa ?_;rcases an hM with ⟨a8,hM⟩|⟨a8,hM⟩
    ·refine ak Z a8 ?_;obtain ⟨b0,d7,j8⟩:=ab hM;refine aB (fun E w=>∃(R:Hp) (Y:Value) (W:List Value),E 2=P0 z∧E 3=P0 y∧E 5=Y∧E 6=I6 d∧E.ds=[]∧aL x R∧al aZ R W b0∧Sp l B R w [.row Y 47 aZ.sz b0.length W,bx y 43 ([I6 c.Kind,I6 c.At,ah c.Text,I6 c.Look]),bx z 24 ([f,Bo b.Layout,I6 b.Misspelling,I6 b.Unclosed])]) ?_ ?_
     ·have hM:=d7;refine SR<|On [f,Bo b.Layout,I6 b.Misspelling,I6 b.Unclosed] kg Z a 2 Z Z Z<|Om (I6 d) Z Z<|Of Dj db Z Z Z Z Z Z<|Ol (ah c.Text) db a 1 2 Z Z Z Z ?_;obtain ⟨l8,f0,hM⟩:=ab hM;refine C [Ag [f,Bo b.Layout,I6 b.Misspelling,I6 b.Unclosed],I6 d,ah c.Text] Cp Z (kQ f0 a.imm (⟨[f],[Bo b.Layout],[I6 b.Misspelling],[I6 b.Unclosed],Z,⟨_,Z,I⟩,Z,Z,Z⟩)) Z ?_;rintro l7 l4 ⟨c2,e1,c1⟩;have b9:=c1.le a.imm;replace a:=a.call c1;replace t:=t.mono b9;replace q:=q.trans b9;obtain ⟨p4,rfl,i8⟩:=e1;cases i8;refine aa ?_;rcases an hM with ⟨a7,hM⟩|⟨a7,hM⟩
      ·refine ak Z a7<|ai<|Om j Z Z<|Om (I6 d) Z Z<|Of Da aW Z Z Z Z Z Z<|Ol (I6 b.Unclosed) aW a 2 3 Z Z Z Z<|O (bv (vs:=[(0,I6 d),(1,I6 b.Unclosed)]) (cs:=[I6 d,I6 b.Unclosed]) Z (by kernel_rfl)) Z<|bF (τ:=aZ) [Ag [I6 d,I6 b.Unclosed]] [(bh.mk d b.Unclosed)] De eu (by decide) a Z Z Z ⟨⟨[I6 d],[I6 b.Unclosed],Z,Z,Z⟩,trivial⟩ Z ?_;intro d0 l3 k7 f5 a;obtain ⟨k5,d4,hM⟩:=ab hM;refine bI De eu Z (by decide) (by decide) a (i:=1) Z t (v:=j) Z (u:=d0) Z (a.rowSrc (i:=0) Z) f5 d4 Z ?_;intro b7 l2 c8 f4 a;refine Oa b7 Z Z<|aa ?_;obtain rfl:=si hM;exact ⟨c2,b7,c8,Z,Z,Z,Z,e,q,f4,(a.sub (.cons _ (.cons_cons _ (.cons_cons _ (.cons_cons _ .slnil)))))⟩
      refine ag Z a7<|ao ?_;obtain rfl:=si hM;exact ⟨c2,j,A,Z,Z,Z,Z,e,q,t,a⟩
     clear a;rintro E w ⟨R,Y,W,H,G,s,F,e,f9,f6,a⟩;have hM:=j8;obtain ⟨E,rfl⟩:=cm H G s F;replace q:=q.trans f9;refine aN ?_;obtain rfl:=si hM;exact ⟨R,Y,W,Z,Z,Z,Z,e,q,f6,a⟩
    refine ag Z a8<|ao<|ay ?_;obtain ⟨c6,d6,j7⟩:=ab hM;refine aB (fun E w=>E 2=P0 z∧E 3=P0 y∧E 5=j∧E 6=I6 d∧E 64=Bo c6∧E.ds=[]∧Sp l B x w [.row j 47 aZ.sz N.length A,bx y 43 ([I6 c.Kind,I6 c.At,ah c.Text,I6 c.Look]),bx z 24 ([f,Bo b.Layout,I6 b.Misspelling,I6 b.Unclosed])]) ?_ ?_
    ·have hM:=d6;refine ai<|Of Dj aW Z Z Z Z Z Z<|Ol (I6 c.Kind) aW a 1 0 Z Z Z Z<|O (bu Z Z) Z<|Om (Bo (decide (c.Kind<0))) Z Z ?_;rcases an hM with ⟨k,hM⟩|⟨k,hM⟩
     ·refine OJ k Z Z Z<|OJ k Z Z Z<|OJ k Z Z Z<|OJ k Z Z Z<|OJ k Z Z Z<|OJ k Z Z Z<|O (az (v:=Bo true) Z k Z) Z<|Om (Bo true) Z Z<|OK Z Z Z Z Z<|OK Z Z Z Z Z<|OK Z Z Z Z Z<|O (az (v:=Bo true) Z Z Z) Z<|Om (Bo true) Z Z<|OK Z Z Z Z Z<|OK Z Z Z Z Z<|OK Z Z Z Z Z<|OK Z Z Z Z Z<|OK Z Z Z Z Z<|OK Z Z Z Z Z<|OK Z Z Z Z Z ?_;refine OK Z Z Z Z Z<|O (az (v:=Bo true) Z Z Z) Z<|Om (Bo true) Z Z<|OK Z Z Z Z Z<|OK Z Z Z Z Z<|OK Z Z Z Z Z<|OK Z Z Z Z Z<|OK Z Z Z Z Z<|OK Z Z Z Z Z<|OK Z Z Z Z Z<|O (az (v:=Bo true) Z Z Z) Z<|aa ?_;obtain rfl:=si hM;exact ⟨Z,Z,Z,Z,Z,e,a⟩
     refine OI k Z Z (ap Dj aW Z Z (by decide) Z Z) Z<|OI k Z Z (aV (v:=I6 c.Kind) aW Z (a.cell (i:=1) (o:=0) Z Z)) Z<|OI k Z Z (ap Da cV Z Z (by decide) Z Z) Z<|OI k Z Z (aV (v:=f) cV Z (a.cell (i:=2) (o:=0) Z Z)) Z ?_;obtain ⟨q5,q0,e5⟩:=I.shape;refine OI k Z Z (aR (v:=f) Dd Z e5) Z<|OI k Z Z (dz Z Z) Z<|O (aw (v:=Bo (decide ((b.Defs.length:Int)≤c.Kind))) Z k Z) Z<|Om (Bo (decide ((b.Defs.length:Int)≤c.Kind))) Z Z ?_;rcases an hM with ⟨D,hM⟩|⟨D,hM⟩
     ·refine OJ D Z Z Z<|OJ D Z Z Z<|OJ D Z Z Z<|O (az (v:=Bo true) Z D Z) Z<|Om (Bo true) Z Z<|OK Z Z Z Z Z<|OK Z Z Z Z Z<|OK Z Z Z Z Z<|OK Z Z Z Z Z<|OK Z Z Z Z Z<|OK Z Z Z Z Z<|OK Z Z Z Z Z<|OK Z Z Z Z Z<|O (az (v:=Bo true) Z Z Z) Z<|Om (Bo true) Z Z<|OK Z Z Z Z Z<|OK Z Z Z Z Z<|OK Z Z Z Z Z<|OK Z Z Z Z Z<|OK Z Z Z Z Z<|OK Z Z Z Z Z<|OK Z Z Z Z Z ?_;refine O (az (v:=Bo true) Z Z Z) Z<|aa ?_;obtain rfl:=si hM;exact ⟨Z,Z,Z,Z,Z,e,a⟩
     refine OI D Z Z (ap Da aW Z Z (by decide) Z Z) Z<|OI D Z Z (aV (v:=I6 b.Misspelling) aW Z (a.cell (i:=2) (o:=2) Z Z)) Z<|OI D Z Z (bu Z Z) Z<|O (aw (v:=Bo (decide (b.Misspelling<1))) Z D Z) Z<|Om (Bo (decide (b.Misspelling<1))) Z Z ?_;rcases an hM with ⟨g,hM⟩|⟨g,hM⟩
     ·refine OJ g Z Z Z<|OJ g Z Z Z<|OJ g Z Z Z<|OJ g Z Z Z<|OJ g Z Z Z<|OJ g Z Z Z<|OJ g Z Z Z<|OJ g Z Z Z<|O (az (v:=Bo true) Z g Z) Z<|Om (Bo true) Z Z<|OK Z Z Z Z Z<|OK Z Z Z Z Z<|OK Z Z Z Z Z<|OK Z Z Z Z Z<|OK Z Z Z Z Z<|OK Z Z Z Z Z<|OK Z Z Z Z Z<|O (az (v:=Bo true) Z Z Z) Z<|aa ?_;obtain rfl:=si hM;exact ⟨Z,Z,Z,Z,Z,e,a⟩
     refine OI g Z Z (ap Da cV Z Z (by decide) Z Z) Z<|OI g Z Z (aV (v:=f) cV Z (a.cell (i:=2) (o:=0) Z Z)) Z<|OI g Z Z (ap Dj aW Z Z (by decide) Z Z) Z<|OI g Z Z (aV (v:=I6 c.Kind) aW Z (a.cell (i:=1) (o:=0) Z Z)) Z ?_;obtain ⟨m,a4,hM⟩:=ab hM;obtain ⟨q4,m1,p9,e4,p3,i7,j5⟩:=I.at a4;obtain ⟨p0,o9,o8,o7,o6,rfl,i6,i5,i4,i3,i2⟩:=i7;cases i6;cases i5;cases i4;cases i3;cases i2;refine OI g Z Z (ax Dd dN (v:=f) Z e4 Z (ad a4).1 (ad a4).2.1) Z<|OI g Z Z (ap Df aW Z Z (by decide) Z Z) Z<|OI g Z Z (aQ (cs:=[I6 m.Kind]) aW Z Z (.inr Z) (di (cs:=[ah m.Name,I6 m.Kind,ah m.Pattern,ah m.Sample,ah m.Close]) (j5 _ a.imm) ([ah m.Name]) ([I6 m.Kind]) ([ah m.Pattern,ah m.Sample,ah m.Close]) Z Z) (v:=I6 m.Kind) Z) Z<|OI g Z Z (dx Z Z) Z<|O (aw (v:=Bo (m.Kind != 1)) Z g Z) Z ?_;refine Om (Bo (m.Kind != 1)) Z Z ?_;rcases an hM with ⟨h,hM⟩|⟨h,hM⟩
     ·refine OJ h Z Z Z<|OJ h Z Z Z<|OJ h Z Z Z<|OJ h Z Z Z<|OJ h Z Z Z<|OJ h Z Z Z<|OJ h Z Z Z<|O (az (v:=Bo true) Z h Z) Z<|aa ?_;obtain rfl:=si hM;exact ⟨Z,Z,Z,Z,Z,e,a⟩
     refine OI h Z Z (ap Da cV Z Z (by decide) Z Z) Z<|OI h Z Z (aV (v:=f) cV Z (a.cell (i:=2) (o:=0) Z Z)) Z<|OI h Z Z (aj (v:=I6 d) Z) Z ?_;obtain ⟨p,a3,hM⟩:=ab hM;obtain ⟨q3,m0,p8,e3,o5,i1,j4⟩:=I.at a3;obtain ⟨o4,o3,o1,o0,n9,rfl,i0,h9,h8,h7,h6⟩:=i1;cases i0;cases h9;cases h8;cases h7;cases h6;refine OI h Z Z (ax Dd dN (v:=f) Z e3 Z (ad a3).1 (ad a3).2.1) Z<|OI h Z Z (ap Df aW Z Z (by decide) Z Z) Z<|OI h Z Z (aQ (cs:=[I6 p.Kind]) aW Z Z (.inr Z) (di (cs:=[ah p.Name,I6 p.Kind,ah p.Pattern,ah p.Sample,ah p.Close]) (j4 _ a.imm) ([ah p.Name]) ([I6 p.Kind]) ([ah p.Pattern,ah p.Sample,ah p.Close]) Z Z) (v:=I6 p.Kind) Z) Z<|OI h Z Z (dx Z Z) Z<|O (aw (v:=Bo (p.Kind != 3)) Z h Z) Z ?_;refine aa ?_;obtain rfl:=si hM;exact ⟨Z,Z,Z,Z,Z,e,a⟩
    clear a;rintro E w ⟨H,G,s,F,k3,e,a⟩;have hM:=j7;obtain ⟨E,rfl⟩:=cZ H G s F k3;rcases an hM with ⟨a6,hM⟩|⟨a6,hM⟩
    ·refine ak Z a6<|aN ?_;obtain rfl:=si hM;exact ⟨x,j,A,Z,Z,Z,Z,e,(aL.refl _),t,a⟩
    refine ag Z a6<|ao<|ay<|cI 8 mo (by decide +kernel) ?_;have a:=a.drew;refine S (ap Dj db Z Z (by decide) Z Z) Z<|S (aV (v:=ah c.Text) db Z (a.cell (i:=1) (o:=2) Z Z)) Z<|S (ap Da cV Z Z (by decide) Z Z) Z<|S (aV (v:=f) cV Z (a.cell (i:=2) (o:=0) Z Z)) Z<|S (aj (v:=I6 d) Z) Z ?_;obtain ⟨n,a2,hM⟩:=ab hM;obtain ⟨q2,l9,p7,e2,n7,h4,j3⟩:=I.at a2;obtain ⟨n6,n5,n4,n3,n2,rfl,h3,h2,h1,h0,g9⟩:=h4;cases h3;cases h2;cases h1;cases h0;cases g9;refine S (ax Dd dN (v:=f) Z e2 Z (ad a2).1 (ad a2).2.1) Z<|S (ap Df db Z Z (by decide) Z Z) Z<|S (aQ (cs:=[ah n.Sample]) db Z Z (.inr Z) (di (cs:=[ah n.Name,I6 n.Kind,ah n.Pattern,ah n.Sample,ah n.Close]) (j3 _ a.imm) ([ah n.Name,I6 n.Kind,ah n.Pattern]) ([ah n.Sample]) ([ah n.Close]) Z Z) (v:=ah n.Sample) Z) Z<|bU ?_;obtain ⟨J,e9,hM⟩:=ab hM;refine C [ah c.Text,ah n.Sample] Co Z (kP e9 a.imm) Z ?_;rintro l6 l1 ⟨a1,e0,c0⟩;have b8:=c0.le a.imm;replace a:=a.call c0;replace t:=t.mono b8;replace q:=q.trans b8;obtain ⟨n1,rfl,g8⟩:=e0;cases g8;refine Oa (I6 J) Z Z<|aa ?_;obtain ⟨c5,d5,j6⟩:=ab hM;refine aB (fun E w=>E 2=P0 z∧E 3=P0 y∧E 5=j∧E 6=I6 d∧E 7=I6 J∧E 79=Bo c5∧E.ds=[]∧Sp l B a1 w [.row j 47 aZ.sz N.length A,bx y 43 ([I6 c.Kind,I6 c.At,ah c.Text,I6 c.Look]),bx z 24 ([f,Bo b.Layout,I6 b.Misspelling,I6 b.Unclosed])]) ?_ ?_
    ·have hM:=d5;have m4:=aL.refl a1;refine ai<|Om (I6 J) Z Z<|O (bw Z Z) Z<|Om (Bo (J == 1)) Z Z ?_;rcases an hM with ⟨K,hM⟩|⟨K,hM⟩
     ·refine OJ K Z Z Z<|OJ K Z Z Z<|O (az (v:=Bo true) Z K Z) Z<|aa ?_;obtain rfl:=si hM;exact ⟨Z,Z,Z,Z,Z,Z,e,a⟩
     refine OI K Z Z (aj (v:=I6 J) Z) Z<|OI K Z Z (bw Z Z) Z<|O (aw (v:=Bo (J == 2)) Z K Z) Z<|aa ?_;obtain rfl:=si hM;exact ⟨Z,Z,Z,Z,Z,Z,e,a⟩
    clear a;rintro E w ⟨H,G,s,F,k2,k1,e,a⟩;have hM:=j6;obtain ⟨E,rfl⟩:=dP H G s F k2 k1;rcases an hM with ⟨a5,hM⟩|⟨a5,hM⟩
    ·refine ak Z a5<|ai<|Om j Z Z<|Om (I6 d) Z Z<|Om (I6 J) Z Z<|Of Da aW Z Z Z Z Z Z<|Ol (I6 b.Misspelling) aW a 2 2 Z Z Z Z ?_;obtain ⟨P,e8,hM⟩:=ab hM;refine O (pO Z Z e8) Z<|O (bv (vs:=[(0,I6 d),(1,I6 P)]) (cs:=[I6 d,I6 P]) Z (by kernel_rfl)) Z<|bF (τ:=aZ) [Ag [I6 d,I6 P]] [(bh.mk d P)] De eu (by decide) a Z Z Z ⟨⟨[I6 d],[I6 P],Z,Z,Z⟩,trivial⟩ Z ?_;intro c9 l0 k6 f3 a;obtain ⟨k4,d3,hM⟩:=ab hM;refine bI De eu Z (by decide) (by decide) a (i:=1) Z t (v:=j) Z (u:=c9) Z (a.rowSrc (i:=0) Z) f3 d3 Z ?_;intro b6 k9 c7 f2 a;refine Oa b6 Z Z<|aa ?_;obtain rfl:=si hM;exact ⟨a1,b6,c7,Z,Z,Z,Z,e,q,f2,(a.sub (.cons _ (.cons_cons _ (.cons_cons _ (.cons_cons _ .slnil)))))⟩
    refine ag Z a5<|ao ?_;obtain rfl:=si hM;exact ⟨a1,j,A,Z,Z,Z,Z,e,q,t,a⟩
   clear a;rintro E w ⟨T,a0,X,H,G,s,F,e,g1,f7,a⟩;have hM:=j9;obtain ⟨E,rfl⟩:=cm H G s F;replace Q:=Q.trans g1;refine ai<|Om (I6 d) Z Z ?_;obtain ⟨d1,e7,hM⟩:=ab hM;refine O (aM Z Z e7) Z<|Oa (I6 d1) Z Z<|aa ?_;obtain rfl:=si hM;exact ⟨T,a0,X,Z,Z,Z,Z,e,Q,f7,a⟩
  refine ag Z a9<|aN ?_;obtain rfl:=si hM;refine fun hr=>?_
  have hM:=congrArg some hr;obtain rfl:=si hM;exact ⟨x,j,A,Z,e,Q,t,(a.sub (.cons_cons _ (.cons _ (.cons _ .slnil))))⟩
 clear a;rintro E w ⟨U,L,V,s,e,m3,f1,a⟩;have hM:=k0;obtain ⟨E,rfl⟩:=cN s;refine SR<|Om L Z Z<|Oa L Z Z<|aa<|aH ?_;obtain rfl:=si hM;refine aI e ?_;exact ⟨_,bC Tryz.results18 (aK (v:=L) Z),U,V,f1,a⟩
end Go.Proofs.YtlcdifnmkafcfaaGreat
set_option linter.unusedVariables false
set_option linter.unusedSimpArgs false
namespace Go.Proofs.YtlcdifnmkafcfaaGreat
open Go.Lx Go.RowKit
theorem fv {c:T_LexSpec} {b:T_Token} {r:Bool} (hM:M.c0 c b=some r) {p:Hp} {t:World} (hi:dw p t) {b8:List Value} (i1:cO.rel p b8 c) {b7:List Value} (g3:bY.rel p b7 b) :
    bl Tryz.prog 6 #[Value.agg b8.toArray,Value.agg b7.toArray] t (fun v w'=>∃g',(dl aY false g' v r)∧dE p t g' w'):=by
 unfold M.c0 at hM;obtain ⟨m2,m1,m0,l9,rfl,g2,g1,f9,f8⟩:=i1;obtain ⟨h,rfl,s⟩:=g2;cases g1;cases f9;cases f8;obtain ⟨l8,l7,l6,n9,rfl,f7,f6,f5,i0⟩:=g3;cases f7;cases f6;cases f5;cases i0;have a:=Sep.start hi;refine aJ Tryz.func6 Z Tryz.ntmps6 Z ?_;have f:=bX;refine SR<|Ob [h,Bo c.Layout,I6 c.Misspelling,I6 c.Unclosed] a Z Z ?_;intro z k4 a;refine Ob [I6 b.Kind,I6 b.At,ah b.Text,I6 b.Look] a Z Z ?_;intro y k0 a;refine Oa (Bo false) Z Z<|aa<|ay ?_;obtain ⟨c0,d0,i9⟩:=ab hM;refine aB (fun E w=>∃(a2:Hp),E 2=P0 z∧E 3=P0 y∧E 15=Bo c0∧E.ds=[]∧aL p a2∧Sp p t a2 w [bx y 43 ([I6 b.Kind,I6 b.At,ah b.Text,I6 b.Look]),bx z 24 ([h,Bo c.Layout,I6 c.Misspelling,I6 c.Unclosed])]) ?_ ?_
 ·have hM:=d0;have J:=aL.refl p;refine ai<|On [h,Bo c.Layout,I6 c.Misspelling,I6 c.Unclosed] kg Z a 1 Z Z Z ?_;obtain ⟨c5,e6,hM⟩:=ab hM;refine C [Ag [h,Bo c.Layout,I6 c.Misspelling,I6 c.Unclosed]] CM Z (nU e6 a.imm (⟨[h],[Bo c.Layout],[I6 c.Misspelling],[I6 c.Unclosed],Z,⟨_,Z,s⟩,Z,Z,Z⟩)) Z ?_;rintro v3 j9 ⟨b6,d2,b0⟩;have f0:=b0.le a.imm;replace a:=a.call b0;replace J:=J.trans f0;obtain ⟨n8,rfl,h9⟩:=d2;cases h9;refine O (du Z) Z<|Om (Bo (!c5)) Z Z ?_;rcases an hM with ⟨n,hM⟩|⟨n,hM⟩
  ·refine OJ n Z Z Z<|OJ n Z Z Z<|OJ n Z Z Z<|OJ n Z Z Z<|O (az (v:=Bo true) Z n Z) Z<|aa ?_;obtain rfl:=si hM;exact ⟨b6,Z,Z,Z,f,J,a⟩
  refine OI n Z Z (ap Dj db Z Z (by decide) Z Z) Z<|OI n Z Z (aV (v:=ah b.Text) db Z (a.cell (i:=0) (o:=2) Z Z)) Z<|OI n Z Z (bQ CV Z) Z<|OI n Z Z (dF Z Z) Z<|O (aw (v:=Bo (decide (20<(b.Text.length:Int)))) Z n Z) Z<|aa ?_;obtain rfl:=si hM;exact ⟨b6,Z,Z,Z,f,J,a⟩
 clear a;rintro E w ⟨a2,B,A,j2,f,f1,a⟩;have hM:=i9;obtain ⟨E,rfl⟩:=cg B A j2;replace s:=s.mono f1;rcases an hM with ⟨Y,hM⟩|⟨Y,hM⟩
 ·refine ak Z Y<|SR ?_;obtain ⟨Q,e5,hM⟩:=ab hM;refine C [] CJ Z (ji e5 a.imm) Z ?_;rintro v4 j8 ⟨j3,d1,a9⟩;have l0:=a9.le a.imm;replace a:=a.call a9;obtain ⟨n7,rfl,h8⟩:=d1;cases h8;refine Oa (Bo Q) Z Z<|aa<|aH ?_;obtain rfl:=si hM;refine aI f ?_;exact ⟨_,bC Tryz.results6 (aK (v:=Bo Q) Z),j3,⟨[Bo Q],Z,Z⟩,a.ext⟩
 refine ag Z Y<|ao<|SR<|On [h,Bo c.Layout,I6 c.Misspelling,I6 c.Unclosed] kg Z a 1 Z Z Z<|On [I6 b.Kind,I6 b.At,ah b.Text,I6 b.Look] ew Z a 0 Z Z Z ?_;obtain ⟨I,e4,hM⟩:=ab hM;refine C [Ag [h,Bo c.Layout,I6 c.Misspelling,I6 c.Unclosed],Ag [I6 b.Kind,I6 b.At,ah b.Text,I6 b.Look]] jU Z (bz e4 a.imm (⟨[h],[Bo c.Layout],[I6 c.Misspelling],[I6 c.Unclosed],Z,⟨_,Z,s⟩,Z,Z,Z⟩) (⟨[I6 b.Kind],[I6 b.At],[ah b.Text],[I6 b.Look],Z,Z,Z,Z,Z⟩)) Z ?_;rintro v5 j7 ⟨u,N,F,a8⟩;have e9:=a8.ext.le a.imm;replace a:=a.callOwn a8;simp only [List.cons_append,List.nil_append] at a;replace s:=s.mono e9;refine Oa v5 Z Z<|aa ?_;obtain ⟨o3,c9,b5⟩:=cB hM;refine aB (fun E w=>∃u9:Unit,o3=.next u9∧∃(D:Value) (L:List Value),E 2=P0 z∧E 3=P0 y∧E 5=D∧E.ds=[]∧al aZ u L I∧Sp p t u w [.row D 47 aZ.sz I.length L,bx y 43 ([I6 b.Kind,I6 b.At,ah b.Text,I6 b.Look]),bx z 24 ([h,Bo c.Layout,I6 c.Misspelling,I6 c.Unclosed])]) ?_ ?_
 ·have hM:=c9;have l:=aL.refl u;refine SR<|Oa (I6 0) Z Z<|aa<|am<|aT (fun (m:Int) E w=>E 2=P0 z∧E 3=P0 y∧E 5=v5∧E 6=I6 m∧E.ds=[]∧Sp p t u w [.row v5 47 aZ.sz I.length N,bx y 43 ([I6 b.Kind,I6 b.At,ah b.Text,I6 b.Look]),bx z 24 ([h,Bo c.Layout,I6 c.Misspelling,I6 c.Unclosed])]) hM ⟨Z,Z,Z,Z,f,a⟩ ?_;clear a hM;rintro m o2 E w hM ⟨B,A,H,a1,f,a⟩;obtain ⟨E,rfl⟩:=cm B A H a1;refine ay<|SR<|Om (I6 m) Z Z<|Om v5 Z Z ?_;obtain ⟨a6,o6,d9⟩:=a.rowShape (i:=0) rfl;refine O (aR (v:=v5) De Z d9) Z<|O (bu Z Z) Z<|aa ?_;rcases an hM with ⟨X,hM⟩|⟨X,hM⟩
  ·refine ak Z X<|ao<|ay<|am ?_;obtain ⟨b9,c8,i8⟩:=ab hM;refine aB (fun E w=>E 2=P0 z∧E 3=P0 y∧E 5=v5∧E 6=I6 m∧E 59=Bo b9∧E.ds=[]∧Sp p t u w [.row v5 47 aZ.sz I.length N,bx y 43 ([I6 b.Kind,I6 b.At,ah b.Text,I6 b.Look]),bx z 24 ([h,Bo c.Layout,I6 c.Misspelling,I6 c.Unclosed])]) ?_ ?_
   ·have hM:=c8;refine cM mo (by decide +kernel) ?_;have a:=a.drew;refine S (aj (v:=v5) Z) Z<|S (aj (v:=I6 m) Z) Z ?_;obtain ⟨e,q,hM⟩:=ab hM;obtain ⟨p0,o5,d8,n6,h7,i5⟩:=a.rowEl (i:=0) rfl F q;obtain ⟨n5,n4,rfl,h6,h5⟩:=h7;cases h6;cases h5;refine S (ax De eu (v:=v5) Z d8 Z (ad q).1 (ad q).2.1) Z<|S (ap Dx aW Z Z (by decide) Z Z) Z<|S (aQ (cs:=[I6 e.Kind]) aW Z Z (.inr Z) (di (cs:=[I6 e.Kind,I6 e.Price]) (i5 _ (a.at (i:=0) Z)) ([]) ([I6 e.Kind]) ([I6 e.Price]) Z Z) (v:=I6 e.Kind) Z) Z<|S (ap Dj aW Z Z (by decide) Z Z) Z<|S (aV (v:=I6 b.Kind) aW Z (a.cell (i:=1) (o:=0) Z Z)) Z<|S (bw Z Z) Z<|S (aj (v:=Bo (e.Kind == b.Kind)) Z) Z ?_;rcases an hM with ⟨g,hM⟩|⟨g,hM⟩
    ·refine SJ g Z Z Z<|SJ g Z Z Z<|SJ g Z Z Z<|SJ g Z Z Z<|SJ g Z Z Z<|SJ g Z Z Z<|S (az (v:=Bo true) Z g Z) Z<|S (aj (v:=Bo true) Z) Z<|SK Z Z Z Z Z<|SK Z Z Z Z Z<|SK Z Z Z Z Z<|mT Z Z Z Z<|mT Z Z Z Z<|mT Z Z Z Z<|mT Z Z Z Z<|mT Z Z Z Z<|mT Z Z Z Z<|mT Z Z Z Z<|mT Z Z Z Z<|mT Z Z Z Z<|mT Z Z Z Z<|mT Z Z Z Z<|mT Z Z Z Z ?_;refine SK Z Z Z Z Z<|S (az (v:=Bo true) Z Z Z) Z<|bU ?_;obtain rfl:=si hM;exact ⟨Z,Z,Z,Z,Z,f,a⟩
    refine SI g Z Z (aj (v:=v5) Z) Z<|SI g Z Z (aj (v:=I6 m) Z) Z ?_;obtain ⟨o9,o4,d7,n3,h4,i4⟩:=a.rowEl (i:=0) rfl F q;obtain ⟨n2,n1,rfl,h3,h2⟩:=h4;cases h3;cases h2;refine SI g Z Z (ax De eu (v:=v5) Z d7 Z (ad q).1 (ad q).2.1) Z<|SI g Z Z (ap Dx aW Z Z (by decide) Z Z) Z<|SI g Z Z (aQ (cs:=[I6 e.Price]) aW Z Z (.inr Z) (di (cs:=[I6 e.Kind,I6 e.Price]) (i4 _ (a.at (i:=0) Z)) ([I6 e.Kind]) ([I6 e.Price]) ([]) Z Z) (v:=I6 e.Price) Z) Z<|SI g Z Z (bu Z Z) Z<|S (aw (v:=Bo (decide (e.Price<1))) Z g Z) Z ?_;refine S (aj (v:=Bo (decide (e.Price<1))) Z) Z ?_;rcases an hM with ⟨k,hM⟩|⟨k,hM⟩
    ·refine SJ k Z Z Z<|SJ k Z Z Z<|SJ k Z Z Z<|mT Z Z Z Z<|mT Z Z Z Z<|mT Z Z Z Z<|mT Z Z Z Z<|mT Z Z Z Z<|mT Z Z Z Z<|mT Z Z Z Z<|mT Z Z Z Z<|mT Z Z Z Z<|mT Z Z Z Z<|mT Z Z Z Z<|mT Z Z Z Z<|SJ k Z Z Z<|S (az (v:=Bo true) Z k Z) Z<|bU ?_;obtain rfl:=si hM;exact ⟨Z,Z,Z,Z,Z,f,a⟩
    refine SI k Z Z (aj (v:=I6 m) Z) Z<|SI k Z Z (dF Z Z) Z<|SI k Z Z (aj (v:=Bo (decide (0<m))) Z) Z ?_;rcases an hM with ⟨d,hM⟩|⟨d,hM⟩
    ·refine SI d Z Z (aj (v:=v5) Z) Z<|SI d Z Z (aj (v:=I6 m) Z) Z ?_;obtain ⟨o8,o1,d6,n0,h1,i3⟩:=a.rowEl (i:=0) rfl F q;obtain ⟨m9,m8,rfl,h0,g9⟩:=h1;cases h0;cases g9;refine SI d Z Z (ax De eu (v:=v5) Z d6 Z (ad q).1 (ad q).2.1) Z<|SI d Z Z (ap Dx aW Z Z (by decide) Z Z) Z<|SI d Z Z (aQ (cs:=[I6 e.Kind]) aW Z Z (.inr Z) (di (cs:=[I6 e.Kind,I6 e.Price]) (i3 _ (a.at (i:=0) Z)) ([]) ([I6 e.Kind]) ([I6 e.Price]) Z Z) (v:=I6 e.Kind) Z) Z<|SI d Z Z (aj (v:=v5) Z) Z<|SI d Z Z (aj (v:=I6 m) Z) Z ?_;obtain ⟨k7,e1,hM⟩:=ab hM;refine SI d Z Z (dh Z Z e1) Z ?_;obtain ⟨x,V,hM⟩:=ab hM;obtain ⟨o7,o0,d5,m7,g8,i2⟩:=a.rowEl (i:=0) rfl F V;obtain ⟨m6,m5,rfl,g7,g6⟩:=g8;cases g7;cases g6;refine SI d Z Z (ax De eu (v:=v5) Z d5 Z (ad V).1 (ad V).2.1) Z<|SI d Z Z (ap Dx aW Z Z (by decide) Z Z) Z<|SI d Z Z (aQ (cs:=[I6 x.Kind]) aW Z Z (.inr Z) (di (cs:=[I6 x.Kind,I6 x.Price]) (i2 _ (a.at (i:=0) Z)) ([]) ([I6 x.Kind]) ([I6 x.Price]) Z Z) (v:=I6 x.Kind) Z) Z<|SI d Z Z (dj Z Z) Z<|SI k Z Z (az (v:=Bo (decide (e.Kind≤x.Kind))) Z d Z) Z ?_;refine S (aw (v:=Bo (decide (e.Kind≤x.Kind))) Z k Z) Z<|bU ?_;obtain rfl:=si hM;exact ⟨Z,Z,Z,Z,Z,f,a⟩
    refine SJ d Z Z Z<|SJ d Z Z Z<|SJ d Z Z Z<|SJ d Z Z Z<|SJ d Z Z Z<|SJ d Z Z Z<|SJ d Z Z Z<|SJ d Z Z Z<|SJ d Z Z Z<|SJ d Z Z Z<|SJ d Z Z Z<|SJ d Z Z Z<|SI k Z Z (aw (v:=Bo false) Z d Z) Z<|S (aw (v:=Bo false) Z k Z) Z<|bU ?_;obtain rfl:=si hM;exact ⟨Z,Z,Z,Z,Z,f,a⟩
   clear a;rintro E w ⟨B,A,H,a1,j0,f,a⟩;have hM:=i8;obtain ⟨E,rfl⟩:=cZ B A H a1 j0;rcases an hM with ⟨W,hM⟩|⟨W,hM⟩
   ·refine ak Z W<|SR<|Oa (Bo false) Z Z<|aa<|aH ?_;obtain rfl:=si hM;refine fun T=>?_
    have hM:=congrArg some T;obtain rfl:=si hM;have hM:=b5;obtain rfl:=si hM;refine aI f ?_;exact ⟨_,bC Tryz.results6 (aK (v:=Bo false) Z),u,⟨[Bo false],Z,Z⟩,a.ext⟩
   refine ag Z W<|ao<|ai<|Om (I6 m) Z Z ?_;obtain ⟨c3,e0,hM⟩:=ab hM;refine O (aM Z Z e0) Z<|Oa (I6 c3) Z Z<|aa ?_;obtain rfl:=si hM;exact ⟨Z,Z,Z,Z,f,a⟩
  refine ag Z X<|aN ?_;obtain rfl:=si hM;refine fun T=>?_
  have hM:=congrArg some T;obtain rfl:=si hM;exact ⟨(),Z,v5,N,Z,Z,Z,f,F,a⟩
 clear a;rintro E w ⟨_,rfl,D,L,B,A,H,f,G,a⟩;have hM:=b5
 dsimp only [bZ] at hM
 obtain ⟨E,rfl⟩:=cg B A H;obtain ⟨P,c7,i7⟩:=ab hM;refine aB (fun E w=>∃(K:Hp),E 4=Bo P∧E.ds=[]∧aL u K∧Sp p t K w []) ?_ ?_
 ·have hM:=c7;have l:=aL.refl u;refine ai ?_;obtain ⟨c4,e3,hM⟩:=ab hM;refine C [] CJ Z (ji e3 a.imm) Z ?_;rintro k6 k3 ⟨j5,d4,b4⟩;have U:=b4.le a.imm;replace a:=a.call b4;replace s:=s.mono U;replace G:=G.mono U;replace l:=l.trans U;obtain ⟨m4,rfl,g5⟩:=d4;cases g5;refine Om (Bo c4) Z Z ?_;rcases an hM with ⟨j,hM⟩|⟨j,hM⟩
  ·refine OI j Z Z (aj (v:=D) Z) Z<|OI j Z Z (cv (cs:=[h,Bo c.Layout,I6 c.Misspelling,I6 c.Unclosed]) kg Z Z (a.cells (i:=2) Z)) Z<|OI j Z Z (cv (cs:=[I6 b.Kind,I6 b.At,ah b.Text,I6 b.Look]) ew Z Z (a.cells (i:=1) Z)) Z ?_;obtain ⟨k8,e8,hM⟩:=ab hM;refine CI j Z Z [Ag [h,Bo c.Layout,I6 c.Misspelling,I6 c.Unclosed],Ag [I6 b.Kind,I6 b.At,ah b.Text,I6 b.Look]] Cw Z (jP e8 a.imm (⟨[h],[Bo c.Layout],[I6 c.Misspelling],[I6 c.Unclosed],Z,⟨_,Z,s⟩,Z,Z,Z⟩) (⟨[I6 b.Kind],[I6 b.At],[ah b.Text],[I6 b.Look],Z,Z,Z,Z,Z⟩)) Z ?_;rintro c1 k2 ⟨l5,j6,R,b3⟩;have a7:=b3.ext.le a.imm;replace a:=a.callOwn b3;simp only [List.cons_append,List.nil_append] at a;replace G:=G.mono a7;replace l:=l.trans a7;have e2:=a;have hagg5L2:=l;obtain ⟨l4,a5,a0,a⟩:=a.relRow (i:=1) rfl G;replace R:=R.mono a5;replace l:=l.trans a5;obtain ⟨l3,a4,i6,a⟩:=a.relRow (i:=0) rfl R;replace a0:=a0.mono a4;replace l:=l.trans a4;obtain ⟨a3,e7,hM⟩:=ab hM;refine CI j Z Z [D,c1] jT Z (ce e7 a.imm a0 i6) Z ?_;rintro k5 k1 ⟨l2,d3,f4⟩;obtain ⟨j4,f2,a⟩:=e2.lent f4;replace l:=hagg5L2.trans f2;obtain ⟨m3,rfl,g4⟩:=d3;cases g4;refine O (az (v:=Bo a3) Z j Z) Z<|Oa (Bo a3) Z Z<|aa ?_;obtain rfl:=si hM;exact ⟨j4,Z,f,l,(a.sub (.cons _ (.cons _ (.cons _ (.cons _ .slnil)))))⟩
  refine OJ j Z Z Z<|OJ j Z Z Z<|OJ j Z Z Z<|OJ j Z Z Z<|OJ j Z Z Z<|O (aw (v:=Bo false) Z j Z) Z<|Oa (Bo false) Z Z<|aa ?_;obtain rfl:=si hM;exact ⟨j5,Z,f,l,(a.sub (.cons _ (.cons _ (.cons _ .slnil))))⟩
 clear a;rintro E w ⟨K,j1,f,l1,a⟩;have hM:=i7;obtain ⟨E,rfl⟩:=cN j1;refine aH ?_;obtain rfl:=si hM;refine aI f ?_;exact ⟨_,bC Tryz.results6 (aK (v:=Bo P) Z),K,⟨[Bo P],Z,Z⟩,a.ext⟩
end Go.Proofs.YtlcdifnmkafcfaaGreat
namespace Go.Lx
theorem gj {σ ρ:Type} {body:σ→Option (cJ σ ρ)} (S:Nat→σ) (n:Nat) {r:ρ} (h:∀i,i<n→body (S i)=some (.next (S (i+1)))) (hn:body (S n)=some (.stop r)) :
    ∀k,n<k→bg body k (S 0)=some r:=by
  have gL:∀m i k,i+m=n→m<k→bg body k (S i)=some r:=by
    intro m
    induction m with
    | zero=>
      intro i k hi hk
      match k,hk with
      | k+1,_=>
        have:i=n:=by omega
        subst this
        simp only [bg,hn]
    | succ m ih=>
      intro i k hi hk
      match k,hk with
      | k+1,hk=>
        simp only [bg,h i (by omega)]
        exact ih (i+1) k (by omega) (by omega)
  intro k hk
  exact gL n 0 k (by omega) hk
theorem lU {σ ρ:Type} {body:σ→Option (cJ σ ρ)} (I:σ→Prop) (μ:σ→Nat) (Post:ρ→Prop)
    (h:∀s,I s→(∃s',body s=some (.next s')∧I s'∧μ s'<μ s)∨(∃r,body s=some (.stop r)∧Post r)) :
    ∀k s,I s→μ s<k→∃r,bg body k s=some r∧Post r:=by
  intro k
  induction k with
  | zero=>intro s _ hk; omega
  | succ k ih=>
    intro s hI hk
    rcases h s hI with ⟨s',hb,hI',hlt⟩|⟨r,hb,hp⟩
    · obtain ⟨r,hr,hp⟩:=ih s' hI' (by omega)
      exact ⟨r,by simp only [bg,hb]; exact hr,hp⟩
    · exact ⟨r,by simp only [bg,hb],hp⟩
theorem aO {α β:Type} {o:Option α} {x:α} {k:α→Option β} {r:Option β} (h:o=some x) (hk:k x=r):o.bind k=r:=by rw [h]; exact hk
theorem cX {σ ρ:Type} {o:Option (cJ σ ρ)} {x:σ} {k:σ→Option ρ} {r:Option ρ} (h:o=some (.next x)) (hk:k x=r):bk o k=r:=by rw [h]; exact hk
theorem dU {σ ρ:Type} {o:Option (cJ σ ρ)} {x:ρ} {k:σ→Option ρ} (h:o=some (.stop x)):bk o k=some x:=by rw [h]; rfl
theorem jD {n:Nat} (h:n≤4611686018427387903):n<aU:=by unfold aU; omega
theorem ei {n:Int} (h0:-9223372036854775808≤n) (h1:n≤9223372036854775807):IntKind.i64.wrap n=n:=by rw [IntKind.wrap_i64]; omega
theorem kD {n:Int} (h0:0≤n) (h1:n≤255):IntKind.u8.wrap n=n:=by simp [IntKind.wrap,IntKind.bits,IntKind.signed]; omega
theorem gQ {n:Int} (h0:0≤n) (h1:n<18446744073709551616):IntKind.u64.wrap n=n:=by simp [IntKind.wrap,IntKind.bits,IntKind.signed]; omega
theorem dv {n:Int} (h0:-9223372036854775808≤n) (h1:n≤9223372036854775807):bV .i64 n=some n:=by unfold bV; rw [if_pos (ei h0 h1)]
theorem gq {a b:Nat} (ha:a<18446744073709551616) (hb:b<18446744073709551616):bits .or .u64 (a:Int) (b:Int)=((a ||| b:Nat):Int):=by
  simp only [bits]
  have h:a ||| b<18446744073709551616:=Nat.or_lt_two_pow (n:=64) ha hb
  have e:((BitVec.ofInt 64 (a:Int) ||| BitVec.ofInt 64 (b:Int)).toNat)=a ||| b:=by
    rw [BitVec.toNat_or,BitVec.toNat_ofInt,BitVec.toNat_ofInt]
    have d:((a:Int) % (2 ^ 64:Nat)).toNat=a:=by omega
    have c:((b:Int) % (2 ^ 64:Nat)).toNat=b:=by omega
    rw [d,c]
  show IntKind.u64.wrap _=_
  rw [show (BitVec.ofInt (IntKind.u64.bits) (a:Int) ||| BitVec.ofInt (IntKind.u64.bits) (b:Int)).toNat=a ||| b from e]
  exact gQ (by omega) (by omega)
theorem lp {a b:Nat} (ha:a<18446744073709551616) (hb:b<18446744073709551616):bits .and .u64 (a:Int) (b:Int)=((a &&& b:Nat):Int):=by
  simp only [bits]
  have h:a &&& b<18446744073709551616:=Nat.lt_of_le_of_lt Nat.and_le_left ha
  have e:((BitVec.ofInt 64 (a:Int) &&& BitVec.ofInt 64 (b:Int)).toNat)=a &&& b:=by
    rw [BitVec.toNat_and,BitVec.toNat_ofInt,BitVec.toNat_ofInt]
    have d:((a:Int) % (2 ^ 64:Nat)).toNat=a:=by omega
    have c:((b:Int) % (2 ^ 64:Nat)).toNat=b:=by omega
    rw [d,c]
  show IntKind.u64.wrap _=_
  rw [show (BitVec.ofInt (IntKind.u64.bits) (a:Int) &&& BitVec.ofInt (IntKind.u64.bits) (b:Int)).toNat=a &&& b from e]
  exact gQ (by omega) (by omega)
theorem qj {a b:Nat} (ha:a<18446744073709551616) (hb:b<18446744073709551616):bits .xor .u64 (a:Int) (b:Int)=((a ^^^ b:Nat):Int):=by
  simp only [bits]
  have h:a ^^^ b<18446744073709551616:=Nat.xor_lt_two_pow (n:=64) ha hb
  have e:((BitVec.ofInt 64 (a:Int) ^^^ BitVec.ofInt 64 (b:Int)).toNat)=a ^^^ b:=by
    rw [BitVec.toNat_xor,BitVec.toNat_ofInt,BitVec.toNat_ofInt]
    have d:((a:Int) % (2 ^ 64:Nat)).toNat=a:=by omega
    have c:((b:Int) % (2 ^ 64:Nat)).toNat=b:=by omega
    rw [d,c]
  show IntKind.u64.wrap _=_
  rw [show (BitVec.ofInt (IntKind.u64.bits) (a:Int) ^^^ BitVec.ofInt (IntKind.u64.bits) (b:Int)).toNat=a ^^^ b from e]
  exact gQ (by omega) (by omega)
theorem uU {a:Nat} (ha:a<18446744073709551616):ky .u64 (a:Int)=((18446744073709551615 ^^^ a:Nat):Int):=
  qj (a:=18446744073709551615) (b:=a) (by omega) ha
theorem na {t:Nat} (h:t<64):sk .u64 1 (t:Int)=some ((2 ^ t:Nat):Int):=by
  unfold sk
  rw [if_pos (by omega)]
  have e:min ((t:Int).toNat) IntKind.u64.bits=t:=by show min ((t:Int).toNat) 64=t; omega
  rw [e]
  have b:2 ^ t<18446744073709551616:=by
    have:2 ^ t<2 ^ 64:=Nat.pow_lt_pow_right (by omega) h
    omega
  have a:(2:Int) ^ t=((2 ^ t:Nat):Int):=by rw [Int.natCast_pow]; rfl
  have gL:∀p:Nat,p<18446744073709551616→IntKind.u64.wrap (p:Int)=(p:Int):=fun p hp=>gQ (by omega) (by omega)
  rw [Int.one_mul,a,gL _ b]
theorem tC {a t:Nat} (h:t<64):sj .u64 (a:Int) (t:Int)=some ((a >>> t:Nat):Int):=by
  unfold sj
  rw [if_pos (by omega)]
  have e:min ((t:Int).toNat) IntKind.u64.bits=t:=by show min ((t:Int).toNat) 64=t; omega
  rw [e,Nat.shiftRight_eq_div_pow]
  simp
theorem tK {k:IntKind} {a b:Nat} (hb:b≠0) (hw:k.wrap ((a / b:Nat):Int)=((a / b:Nat):Int)):mD k (a:Int) (b:Int)=some ((a / b:Nat):Int):=by
  unfold mD
  have e:(a:Int).tdiv (b:Int)=((a / b:Nat):Int):=by rw [Int.tdiv_eq_ediv_of_nonneg (by omega)]; rfl
  rw [e,if_pos ⟨by omega,hw⟩]
theorem jv {a b:Nat} (hb:b≠0):jM (a:Int) (b:Int)=some ((a % b:Nat):Int):=by
  unfold jM
  rw [if_pos (by omega),Int.tmod_eq_emod_of_nonneg (by omega)]
  rfl
theorem dC {s:Str} {i:Nat} (h:i<s.length):eh s (i:Int)=some ((s[i]).toNat:Int):=by
  unfold eh
  rw [if_pos (by omega)]
  simp [h]
theorem bi {α:Type} {l:List α} {i:Nat} (h:i<l.length):bq l (i:Int)=some l[i]:=by
  unfold bq
  rw [if_pos (by omega)]
  simp [h]
theorem cY {α:Type} {l:List α} {i:Nat} {x:α} (h:i<l.length):cK l (i:Int) x=some (l.set i x):=by
  unfold cK
  rw [if_pos ⟨by omega,by simpa using h⟩]
  simp
theorem da {α:Type} {B:Nat} {l m:List α} (h:(l.length+m.length)*B≤140737488355328):cP B l m=some (l++m):=by unfold cP; rw [if_pos h]
theorem dW {α:Type} {B n:Nat} {z:α} (h:n*B≤140737488355328):mE B (n:Int) z=some (List.replicate n z):=by
  unfold mE
  rw [if_pos ⟨by omega,by rw [←Int.natCast_mul]; omega⟩,Int.toNat_natCast]
end Go.Lx
namespace Go.Lx
theorem uG {σ ρ:Type} {body:σ→Option (cJ σ ρ)} (J:Nat→σ→Prop) (n:Nat) (Post:ρ→Prop)
    (step:∀i s,i<n→J i s→(∃s',body s=some (.next s')∧J (i+1) s')∨(∃r,body s=some (.stop r)∧Post r))
    (last:∀s,J n s→∃r,body s=some (.stop r)∧Post r) (hn:n≤9223372036854775807) {a:σ} (b:J 0 a):∃r,bg body aU a=some r∧Post r:=by
  have gL:∀m i s k,i+m=n→m<k→J i s→∃r,bg body k s=some r∧Post r:=by
    intro m
    induction m with
    | zero=>
      intro i s k hi hk hJ
      match k,hk with
      | k+1,_=>
        have:i=n:=by omega
        subst this
        obtain ⟨r,hb,hp⟩:=last s hJ
        exact ⟨r,by simp only [bg,hb],hp⟩
    | succ m ih=>
      intro i s k hi hk hJ
      match k,hk with
      | k+1,hk=>
        rcases step i s (by omega) hJ with ⟨s',hb,hJ'⟩|⟨r,hb,hp⟩
        · obtain ⟨r,hr,hp⟩:=ih (i+1) s' k (by omega) (by omega) hJ'
          exact ⟨r,by simp only [bg,hb]; exact hr,hp⟩
        · exact ⟨r,by simp only [bg,hb],hp⟩
  exact gL n 0 a aU (by omega) (by unfold aU; omega) b
theorem sS {σ ρ:Type} {body:σ→Option (cJ σ ρ)} (I:σ→Prop) (μ:σ→Nat) (Post:ρ→Prop)
    (h:∀s,I s→(∃s',body s=some (.next s')∧I s'∧μ s'<μ s)∨(∃r,body s=some (.stop r)∧Post r))
    {s0:σ} (h0:I s0) (hm:μ s0≤9223372036854775807):∃r,bg body aU s0=some r∧Post r:=
  lU I μ Post h aU s0 h0 (by unfold aU; omega)
theorem aX {i:Nat} (h:i<9223372036854775807):bV .i64 ((i:Int)+1)=some ((i+1:Nat):Int):=by rw [dv (by omega) (by omega)]; rfl
theorem dS {p:Prop} [Decidable p] (h:p):decide p=true:=decide_eq_true h
theorem dT {p:Prop} [Decidable p] (h:¬ p):decide p=false:=decide_eq_false h
theorem bL {a b:Int} (h:a≠b):(a == b)=false:=by simpa using h
theorem iI {a b:Int} (h:a=b):(a == b)=true:=by simpa using h
theorem go {a b:Int} (h:a≠b):(a != b)=true:=by simpa using h
theorem mi {a b:Int} (h:a=b):(a != b)=false:=by simpa using h
theorem eO {a b:Int} (h:(a != b)=false):a=b:=by simpa using h
theorem fN {a b:Int} (h:(a != b)=true):a≠b:=by simpa using h
theorem em {a b:Int} (h:(a == b)=false):a≠b:=by simpa using h
theorem cH {a b:Int} (h:(a == b)=true):a=b:=by simpa using h
theorem qv {n:Nat} (h:n<256):IntKind.u8.wrap (n:Int)=n:=kD (by omega) (by omega)
theorem nV {α:Type} {l:List α} {i:Int} {d:α} (h0:0≤i) (h:i<l.length):bq l i=some (l.getD i.toNat d):=by
  obtain ⟨n,rfl⟩:=Int.eq_ofNat_of_zero_le h0
  have hn:n<l.length:=by omega
  show bq l (n:Int)=_
  rw [bi hn]
  simp [List.getD_eq_getElem?_getD,hn]
theorem kK {α:Type} {l:List α} {i:Int} {x:α} (h0:0≤i) (h:i<l.length):cK l i x=some (l.set i.toNat x):=by
  obtain ⟨n,rfl⟩:=Int.eq_ofNat_of_zero_le h0
  exact cY (by simpa using h)
def Is {α:Type} (o:Option α) (P:α→Prop):Prop:=∃r,o=some r∧P r
def SP {σ ρ:Type} (P:σ→Prop) (Q:ρ→Prop):cJ σ ρ→Prop
  | .next s=>P s
  | .stop r=>Q r
section
variable {α β σ ρ:Type} {P:α→Prop} {Q:β→Prop}
theorem Is.pure {x:α} (h:P x):Is (some x) P:=⟨x,rfl,h⟩
theorem Is.mono {o:Option α} {P':α→Prop} (h:Is o P) (k:∀x,P x→P' x):Is o P':=h.elim fun r hr=>⟨r,hr.1,k r hr.2⟩
theorem Is.eq {o:Option α} {x:α} (h:Is o (·=x)):o=some x:=by obtain ⟨r,h1,rfl⟩:=h; exact h1
theorem Is.of {o:Option α} {x:α} (h:o=some x) (k:P x):Is o P:=⟨x,h,k⟩
theorem Is.bnd {o:Option α} {f:α→Option β} (h:Is o P) (k:∀x,P x→Is (f x) Q):Is (o.bind f) Q:=by
  obtain ⟨r,rfl,hp⟩:=h
  exact k r hp
theorem Is.bnq {o:Option α} {f:α→Option β} {x:α} (h:o=some x) (k:Is (f x) Q):Is (o.bind f) Q:=by subst h; exact k
theorem Is.bs {P:σ→Prop} {Q:ρ→Prop} {o:Option (cJ σ ρ)} {f:σ→Option ρ} (h:Is o (SP P Q)) (k:∀x,P x→Is (f x) Q):Is (bk o f) Q:=by
  obtain ⟨r,rfl,hp⟩:=h
  cases r with
  | next s=>exact k s hp
  | stop r=>exact ⟨r,rfl,hp⟩
theorem Is.cnd {b:Bool} {x y:Option β} (ht:b=true→Is x Q) (hf:b=false→Is y Q):Is (bif b then x else y) Q:=by
  cases b
  · exact hf rfl
  · exact ht rfl
theorem Is.ct {b:Bool} {x y:Option β} (h:b=true) (k:Is x Q):Is (bif b then x else y) Q:=by subst h; exact k
theorem Is.cf {b:Bool} {x y:Option β} (h:b=false) (k:Is y Q):Is (bif b then x else y) Q:=by subst h; exact k
theorem Is.dcd {p:Prop} [Decidable p] {x y:Option β} (ht:p→Is x Q) (hf:¬ p→Is y Q):Is (bif decide p then x else y) Q:=
  Is.cnd (fun h=>ht (of_decide_eq_true h)) (fun h=>hf (of_decide_eq_false h))
theorem Is.dt {p:Prop} [Decidable p] {x y:Option β} (h:p) (k:Is x Q):Is (bif decide p then x else y) Q:=Is.ct (decide_eq_true h) k
theorem Is.df {p:Prop} [Decidable p] {x y:Option β} (h:¬ p) (k:Is y Q):Is (bif decide p then x else y) Q:=Is.cf (decide_eq_false h) k
theorem Is.upto {body:σ→Option (cJ σ ρ)} {Q:ρ→Prop} (J:Nat→σ→Prop) (n:Nat) (hn:n≤9223372036854775807) {a:σ} (b:J 0 a)
    (step:∀i s,i<n→J i s→Is (body s) (SP (J (i+1)) Q)) (last:∀s,J n s→Is (body s) (SP (fun _=>False) Q)):Is (bg body aU a) Q:=
  uG J n Q (fun i s hi hJ=>by
    obtain ⟨r,hb,hp⟩:=step i s hi hJ
    cases r with
    | next s'=>exact .inl ⟨s',hb,hp⟩
    | stop r=>exact .inr ⟨r,hb,hp⟩) (fun s hJ=>by
    obtain ⟨r,hb,hp⟩:=last s hJ
    cases r with
    | next s'=>exact hp.elim
    | stop r=>exact ⟨r,hb,hp⟩) hn b
theorem Is.while {body:σ→Option (cJ σ ρ)} {Q:ρ→Prop} (I:σ→Prop) (μ:σ→Nat) {s0:σ} (h0:I s0) (hm:μ s0≤9223372036854775807)
    (step:∀s,I s→Is (body s) (SP (fun s'=>I s'∧μ s'<μ s) Q)):Is (bg body aU s0) Q:=
  sS I μ Q (fun s hI=>by
    obtain ⟨r,hb,hp⟩:=step s hI
    cases r with
    | next s'=>exact .inl ⟨s',hb,hp⟩
    | stop r=>exact .inr ⟨r,hb,hp⟩) h0 hm
theorem Is.next {Q:ρ→Prop} {P:σ→Prop} {s:σ} (h:P s):Is (some (cJ.next s:cJ σ ρ)) (SP P Q):=⟨_,rfl,h⟩
theorem Is.stop {Q:ρ→Prop} {P:σ→Prop} {r:ρ} (h:Q r):Is (some (cJ.stop r:cJ σ ρ)) (SP P Q):=⟨_,rfl,h⟩
end
section
variable {K V:Type} [BEq K] [LawfulBEq K]
end
end Go.Lx
namespace Go.Proofs.YtlcdifnmkafcfaaGreat
open Go.Lx
def W4 (v:aA 4):Prop:=∀x∈v.1,0≤x∧x<18446744073709551616
def wd (v:aA 4) (i:Nat):Nat:=(v.1.getD i 0).toNat
def mem (v:aA 4) (b:Nat):Bool:=(wd v (b / 64)).testBit (b % 64)
theorem fY {v:aA 4} (h:W4 v) (i:Nat):wd v i<18446744073709551616:=by
  unfold wd
  by_cases hi:i<v.1.length
  · have:=h v.1[i] (List.getElem_mem hi)
    simp [List.getD_eq_getElem?_getD,hi]; omega
  · simp [List.getD_eq_getElem?_getD,List.getElem?_eq_none (by omega:v.1.length≤i)]
theorem fZ {v:aA 4} (h:W4 v) {i:Nat} (hi:i<4):fU v (i:Int)=some (wd v i:Int):=by
  have hl:i<v.1.length:=by rw [v.2]; exact hi
  have:=h v.1[i] (List.getElem_mem hl)
  unfold fU wd
  rw [if_pos (by omega)]
  simp [List.getD_eq_getElem?_getD,hl]
  omega
def pD (v:aA 4) (i x:Nat):aA 4:=⟨v.1.set i (x:Int),by simp [v.2]⟩
theorem iP {v:aA 4} {i x:Nat} (hi:i<4):ml v (i:Int) (x:Int)=some (pD v i x):=by
  unfold ml pD
  rw [if_pos ⟨by omega,by simpa using hi⟩]
  simp
theorem tq {v:aA 4} {i x j:Nat} (hi:i<4):wd (pD v i x) j=if i=j then x else wd v j:=by
  unfold wd pD
  have hl:i<v.1.length:=by rw [v.2]; exact hi
  simp only [List.getD_eq_getElem?_getD,List.getElem?_set]
  split
  · rename_i h; subst h; simp [hl]
  · rfl
theorem ug {v:aA 4} (h:W4 v) {i x:Nat} (hx:x<18446744073709551616):W4 (pD v i x):=by
  intro y hy
  rcases List.mem_or_eq_of_mem_set hy with hy|rfl
  · exact h y hy
  · omega
theorem xm {v u:aA 4} (hv:W4 v) (hu:W4 u) (h:∀i,i<4→wd v i=wd u i):v=u:=by
  apply Subtype.ext
  apply List.ext_getElem (by rw [v.2,u.2])
  intro i h1 h2
  have hi:i<4:=by rw [v.2] at h1; exact h1
  have:=h i hi
  have a:=hv v.1[i] (List.getElem_mem h1)
  have b:=hu u.1[i] (List.getElem_mem h2)
  simp [wd,List.getD_eq_getElem?_getD,h1,h2] at this
  omega
theorem xx {v u:aA 4} (hv:W4 v) (hu:W4 u) (h:∀b,b<256→mem v b=mem u b):v=u:=by
  refine xm hv hu fun i hi=>Nat.eq_of_testBit_eq fun j=>?_
  by_cases hj:j<64
  · have:=h (64*i+j) (by omega)
    unfold mem at this
    rw [show (64*i+j) / 64=i by omega,show (64*i+j) % 64=j by omega] at this
    exact this
  · have e:∀x,x<18446744073709551616→x.testBit j=false:=fun x hx=>Nat.testBit_lt_two_pow (Nat.lt_of_lt_of_le (by omega:x<2 ^ 64) (Nat.pow_le_pow_right (by omega) (by omega)))
    rw [e _ (fY hv i),e _ (fY hu i)]
theorem eP:W4 (aA.zero 4):=by
  intro x hx
  simp [aA.zero] at hx
  omega
theorem vS (b:Nat):mem (aA.zero 4) b=false:=by
  unfold mem wd aA.zero
  simp only [List.getD_eq_getElem?_getD,List.getElem?_replicate]
  split <;> simp
def ej (v:aA 4) (b:Nat):aA 4:=pD v (b / 64) (wd v (b / 64) ||| 2 ^ (b % 64))
theorem rW {v:aA 4} (h:W4 v) (b:Nat):W4 (ej v b):=by
  refine ug h (Nat.or_lt_two_pow (n:=64) (fY h _) ?_)
  exact Nat.pow_lt_pow_right (by omega) (Nat.mod_lt _ (by omega))
theorem uE {v:aA 4} {b c:Nat} (hb:b<256):mem (ej v b) c=(mem v c || c == b):=by
  unfold mem ej
  rw [tq (by omega)]
  split
  · rename_i h
    rw [Nat.testBit_or,Nat.testBit_two_pow,h]
    congr 1
    rw [Bool.eq_iff_iff]
    simp
    omega
  · rename_i h
    have:(c == b)=false:=by
      rw [beq_eq_false_iff_ne]; rintro rfl; exact h rfl
    rw [this,Bool.or_false]
theorem jd {k:IntKind} {c:Nat} (hk:k.wrap ((c / 64:Nat):Int)=((c / 64:Nat):Int)):mD k (c:Int) 64=some ((c / 64:Nat):Int):=tK (b:=64) (by omega) hk
theorem wb {v:aA 4} (hv:W4 v) {c:Nat} (hc:c<256):M.i3 v (c:Int)=some (mem v c):=by
  have j:=jd (k:=.u8) (c:=c) (kD (by omega) (by omega))
  have g:=fZ hv (i:=c / 64) (by omega)
  have f:jM (c:Int) 64=some ((c % 64:Nat):Int):=jv (b:=64) (by omega)
  have e:=tC (a:=wd v (c / 64)) (t:=c % 64) (by omega)
  have hlt:wd v (c / 64) >>> (c % 64)<18446744073709551616:=Nat.lt_of_le_of_lt (Nat.shiftRight_le _ _) (fY hv _)
  have d:=lp (b:=1) hlt (by omega)
  unfold M.i3 mem
  simp only [j,g,f,e,Option.bind_some]
  rw [show (1:Int)=((1:Nat):Int) from rfl,d]
  congr 1
  rw [Nat.testBit,Nat.and_comm 1,Nat.and_one_is_mod]
  rcases Nat.mod_two_eq_zero_or_one (wd v (c / 64) >>> (c % 64)) with h|h <;> rw [h] <;> rfl
theorem pZ {v:aA 4} (hv:W4 v) {c:Nat} (hc:c<256):M.g3 v (c:Int)=some (mem v c):=wb hv hc
def qX (l:List Nat):aA 4:=l.foldl ej (aA.zero 4)
theorem rp (l:List Nat):∀v,W4 v→W4 (l.foldl ej v):=by
  induction l with
  | nil=>exact fun v h=>h
  | cons b l ih=>exact fun v h=>ih _ (rW h b)
theorem pk (l:List Nat):∀v,(∀b∈l,b<256)→∀c,mem (l.foldl ej v) c=(mem v c || l.contains c):=by
  induction l with
  | nil=>intro v _ c; simp
  | cons b l ih=>
    intro v h c
    rw [List.foldl_cons,ih _ (fun x hx=>h x (by simp [hx])),uE (h b (by simp)),List.contains_cons,Bool.or_assoc]
theorem me (l:List Nat):W4 (qX l):=rp l _ eP
theorem xO {l:List Nat} (h:∀b∈l,b<256) (c:Nat):mem (qX l) c=l.contains c:=by
  unfold qX; rw [pk l _ h,vS,Bool.false_or]
theorem ue {body:aA 4×Int→Option (cJ (aA 4×Int) (aA 4))} (f:Nat→Nat) (a n:Nat) (ha:a+n≤4611686018427387903)
    (h:∀i v,i<n→W4 v→body (v,((a+i:Nat):Int))=some (.next (ej v (f i),((a+(i+1):Nat):Int)))) (hn:∀v,body (v,((a+n:Nat):Int))=some (.stop v)) :
    bg body aU (aA.zero 4,(a:Int))=some (qX ((List.range n).map f)):=by
  have hS:∀i,i≤n→W4 (qX ((List.range i).map f)):=fun i _=>me _
  have:=gj (body:=body) (fun i=>(qX ((List.range i).map f),((a+i:Nat):Int))) n (r:=qX ((List.range n).map f))
    (fun i hi=>by
      have:=h i (qX ((List.range i).map f)) hi (me _)
      rw [this]
      congr 3
      simp [qX,List.range_succ])
    (hn _) aU (jD (by omega))
  simpa [qX] using this
def bW (s:Str):List Nat:=s.map UInt8.toNat
theorem rK (s:Str):(List.range s.length).map (fun i=>((s[i]?).getD 0).toNat)=bW s:=by
  apply List.ext_getElem
  · simp [bW]
  · intro i h1 h2
    have:i<s.length:=by simpa using h1
    simp [bW,this]
theorem Ab (u:UInt8):u.toNat<256:=u.toNat_lt
theorem Bk {s:Str} (hf:s.length≤4611686018427387903):M.h4 s=some (qX (bW s)):=by
  unfold M.h4
  refine aO (ue (fun i=>((s[i]?).getD 0).toNat) 0 s.length (by omega) (fun i v hi hv=>?_) (fun v=>?_)) (by rw [rK])
  · simp only [Nat.zero_add]
    have hb:=Ab s[i]
    have m:=dC hi
    have l:=jd (k:=.u8) (c:=s[i].toNat) (kD (by omega) (by omega))
    have j:=fZ hv (i:=s[i].toNat / 64) (by omega)
    have h:jM (s[i].toNat:Int) 64=some ((s[i].toNat % 64:Nat):Int):=jv (b:=64) (by omega)
    have g:=na (t:=s[i].toNat % 64) (by omega)
    have a:2 ^ (s[i].toNat % 64)<18446744073709551616:=Nat.pow_lt_pow_right (n:=64) (by omega) (Nat.mod_lt _ (by omega))
    have f:=gq (fY hv (s[i].toNat / 64)) a
    have e:=iP (v:=v) (i:=s[i].toNat / 64) (x:=wd v (s[i].toNat / 64) ||| 2 ^ (s[i].toNat % 64)) (by omega)
    have d:bV .i64 ((i:Int)+1)=some ((i+1:Nat):Int):=by rw [dv (by omega) (by omega)]; rfl
    have hd:decide ((i:Int)<(s.length:Int))=true:=by simp; omega
    simp only [hd,cond_true,m,l,j,h,g,f,e,d,Option.bind_some,ej,hi,List.getElem?_eq_getElem,Option.getD_some]
  · simp only [Nat.zero_add]
    have hd:decide ((s.length:Int)<(s.length:Int))=false:=by simp
    simp only [hd,cond_false]
def fq (lo hi:Nat):List Nat:=(List.range (hi+1 - lo)).map (lo+·)
theorem ov {lo hi:Nat} (hlo:lo<256) (hhi:hi<256):M.e8 lo hi=some (qX (fq lo hi)):=by
  unfold M.e8
  rw [ei (n:=(lo:Int)) (by omega) (by omega)]
  refine aO (ue (fun i=>lo+i) lo (hi+1 - lo) (by omega) (fun i v m hv=>?_) (fun v=>?_)) rfl
  · have hb:lo+i<256:=by omega
    have l:=jd (k:=.i64) (c:=lo+i) (ei (by omega) (by omega))
    have j:=fZ hv (i:=(lo+i) / 64) (by omega)
    have h:jM ((lo+i:Nat):Int) 64=some (((lo+i) % 64:Nat):Int):=jv (b:=64) (by omega)
    have g:=na (t:=(lo+i) % 64) (by omega)
    have a:2 ^ ((lo+i) % 64)<18446744073709551616:=Nat.pow_lt_pow_right (n:=64) (by omega) (Nat.mod_lt _ (by omega))
    have f:=gq (fY hv ((lo+i) / 64)) a
    have e:=iP (v:=v) (i:=(lo+i) / 64) (x:=wd v ((lo+i) / 64) ||| 2 ^ ((lo+i) % 64)) (by omega)
    have d:bV .i64 (((lo+i:Nat):Int)+1)=some ((lo+(i+1):Nat):Int):=by rw [dv (by omega) (by omega)]; rfl
    rw [ei (n:=(hi:Int)) (by omega) (by omega)]
    simp only [dS (show ((lo+i:Nat):Int)≤(hi:Int) by omega),cond_true,l,j,h,g,f,e,d,Option.bind_some,ej]
  · rw [ei (n:=(hi:Int)) (by omega) (by omega)]
    simp only [dT (show ¬ ((lo+(hi+1 - lo):Nat):Int)≤(hi:Int) by omega),cond_false]
theorem yM {v:aA 4} (h:∀x∈v.1,uj .u64 x):W4 v:=fun x hx=>by
  obtain ⟨a,b⟩:=h x hx
  have a:0≤x:=a
  have b:x≤18446744073709551615:=b
  omega
def mn (f:Nat→Nat) (a:aA 4) (i:Nat):aA 4:=(List.range i).foldl (fun v j=>pD v j (f j)) a
theorem ly (f:Nat→Nat) (a:aA 4) (i:Nat):mn f a (i+1)=pD (mn f a i) i (f i):=by simp [mn,List.range_succ]
theorem tp {f:Nat→Nat} {a:aA 4} {i j:Nat} (hi:i≤4):wd (mn f a i) j=if j<i then f j else wd a j:=by
  induction i with
  | zero=>simp [mn]
  | succ i ih=>
    rw [ly,tq (by omega),ih (by omega)]
    by_cases h:i=j
    · subst h; rw [if_pos rfl,if_pos (by omega)]
    · rw [if_neg h]
      by_cases b:j<i
      · rw [if_pos b,if_pos (by omega)]
      · rw [if_neg b,if_neg (by omega)]
theorem qm {f:Nat→Nat} {a:aA 4} (h:W4 a) (hf:∀j,f j<18446744073709551616) (i:Nat):W4 (mn f a i):=by
  induction i with
  | zero=>simpa [mn] using h
  | succ i ih=>rw [ly]; exact ug ih (hf i)
theorem vT {f:Nat→Nat} {a:aA 4} {b:Nat} (hb:b<256):mem (mn f a 4) b=(f (b / 64)).testBit (b % 64):=by
  unfold mem; rw [tp (by omega),if_pos (by omega)]
theorem qz {ρ:Type} {body:aA 4×Int→Option (cJ (aA 4×Int) ρ)} {f:Nat→Nat} {a:aA 4} {r:ρ} (ha:W4 a) (hf:∀j,f j<18446744073709551616)
    (h:∀i v,i<4→W4 v→wd v i=wd a i→body (v,(i:Int))=some (.next (pD v i (f i),((i+1:Nat):Int)))) (hn:body (mn f a 4,4)=some (.stop r)) :
    bg body aU (a,0)=some r:=by
  refine gj (body:=body) (fun i=>(mn f a i,(i:Int))) 4 (fun i hi=>?_) hn aU (jD (by omega))
  rw [ly]
  refine h i _ hi (qm ha hf i) ?_
  rw [tp (by omega),if_neg (by omega)]
def ke (a b:aA 4):aA 4:=mn (fun j=>wd a j ||| wd b j) a 4
def kf (a:aA 4):aA 4:=mn (fun j=>18446744073709551615 ^^^ wd a j) a 4
theorem yP {a b:aA 4} (ha:W4 a) (hb:W4 b) (j:Nat):wd a j ||| wd b j<18446744073709551616:=Nat.or_lt_two_pow (n:=64) (fY ha j) (fY hb j)
theorem vO {a:aA 4} (ha:W4 a) (j:Nat):18446744073709551615 ^^^ wd a j<18446744073709551616:=Nat.xor_lt_two_pow (n:=64) (by omega) (fY ha j)
theorem wO {a b:aA 4} (ha:W4 a) (hb:W4 b):W4 (ke a b):=qm ha (yP ha hb) 4
theorem rX {a:aA 4} (ha:W4 a):W4 (kf a):=qm ha (vO ha) 4
theorem uF {a b:aA 4} {c:Nat} (hc:c<256):mem (ke a b) c=(mem a c || mem b c):=by
  unfold ke; rw [vT hc,Nat.testBit_or]; rfl
theorem wP {a b:aA 4} (ha:W4 a) (hb:W4 b):M.g5 a b=some (ke a b):=by
  unfold M.g5
  refine aO (qz (r:=ke a b) ha (yP ha hb) (fun i v hi hv e=>?_) ?_) rfl
  · have c:=fZ hv hi
    have g:=fZ hb hi
    rw [e] at c
    have f:=gq (fY ha i) (fY hb i)
    have d:=iP (v:=v) (x:=wd a i ||| wd b i) hi
    simp only [dS (show (i:Int)<4 by omega),cond_true,c,g,f,d,aX (show i<_ by omega),Option.bind_some]
  · rfl
theorem gO {a:aA 4} (ha:W4 a):M.c3 a=some (kf a):=by
  unfold M.c3
  refine aO (qz (r:=kf a) ha (vO ha) (fun i v hi hv e=>?_) ?_) rfl
  · have b:=fZ hv hi
    rw [e] at b
    have d:=uU (fY ha i)
    have c:=iP (v:=v) (x:=18446744073709551615 ^^^ wd a i) hi
    simp only [dS (show (i:Int)<4 by omega),cond_true,b,d,c,aX (show i<_ by omega),Option.bind_some]
  · rfl
end Go.Proofs.YtlcdifnmkafcfaaGreat
