/- Part 14. -/
import Derived.Test.YtggpjcdhflcfmaaGreatDoorKLexspecSamples13
set_option linter.unusedVariables false
namespace Go.Proofs.YtggpjcdhflcfmaaGreatDoor
open Go.Lx
theorem vk {l:List T_Regex} (ok:∀x∈l,bP x) (hp:bF l≤1048576):Is (M.c7 l) (fun r=>(r=(dc l,0)∧bF l≤500)∨r.2≠0):=by
 by_cases hg:(∀y∈l,V 30 y=true)∧bF l≤500
 ·exact ⟨_,vj ok hg.1 hg.2,.inl ⟨rfl,hg.2⟩⟩
 ·unfold M.c7;refine Is.bnd (uF ok hp) fun e b=>?_
  have a:e≠0:=by
   rcases b with ⟨_,h,_⟩|⟨_,_,h,_⟩|⟨d,c,_,_⟩
   ·omega
   ·omega
   ·exact absurd ⟨d,c⟩ hg
  exact Is.ct (mf a) (Is.pure (.inr a))
theorem zg {x:T_LexSpec} (h6:x.Defs.length≤6) (hf:∀d∈x.Defs,FewD d 30) (hlow:∀d∈x.Defs,height (rx d).1≤8):Is (M.j9 x) (fun _=>True):=by
 obtain ⟨ok,h⟩:=wN hf hlow;unfold M.j9;refine Is.bs (P:=fun l=>l=nj x) (Q:=fun _:Bool=>True) ?_ ?_
 ·refine Is.upto (fun i (b:List T_Regex×Int)=>b.2=(i:Int)∧b.1=(x.Defs.take i).map (fun d=>(rx d).1)) x.Defs.length (by omega) ⟨rfl,rfl⟩ ?_ ?_
  ·rintro i ⟨l,_⟩ a ⟨rfl,e⟩;obtain rfl:l=_:=e;refine Is.dt (by omega) (Is.bnq (aZ a) (Is.bnq (Dy hf (Ii a)).ref (Is.cnd (fun _=>Is.stop trivial) (fun _=>Is.bnq (bO (by simp only [Iy,IF,Ih]; omega)) (Is.bnq (aK (by omega)) (Is.next ⟨rfl,?_⟩))))));rw [It a,Iz]; rfl
  ·rintro ⟨l,_⟩ ⟨rfl,e⟩;obtain rfl:l=_:=e;rw [Ij];exact Is.df (by omega) (Is.stop rfl)
 rintro _ rfl;refine Is.bnd (vk ok (by omega)) fun r f=>?_
 rcases f with ⟨rfl,c⟩|hne
 ·have g:=rX ok c;have hal:=(kM c).2;refine Is.cf rfl (Is.bnd (xB (n:=dc (nj x)) g (by omega)) fun r _=>Is.bnd (P:=fun _=>True) (Is.cnd (fun _=>Is.pure trivial) (fun _=>Is.pure trivial)) fun _ _=>Is.pure trivial)
 ·exact Is.ct (mf hne) (Is.pure trivial)
theorem yB {x:T_LexSpec} (ok:kI x):Is (M.k4 x) (fun b=>b=true→x.Defs.length≤6∧(∀d∈x.Defs,FewD d 30)∧∀d∈x.Defs,height (rx d).1≤8):=by
 have hl:x.Defs.length≤9223372036854775807:=Nat.le_trans ok.1.2 (by decide);unfold M.k4;refine Is.bnd (CK hl 6 30) fun b hb=>Is.cnd (fun _=>Is.pure fun h=>by cases h) (fun e=>?_)
 obtain ⟨h6,hf⟩:=hb (by simpa using e);refine Is.bs (P:=fun _=>∀d∈x.Defs,height (rx d).1≤8) (Q:=fun b:Bool=>b=true→x.Defs.length≤6∧(∀d∈x.Defs,FewD d 30)∧∀d∈x.Defs,height (rx d).1≤8) (Is.upto (fun i c=>c=(i:Int)∧∀d∈x.Defs.take i,height (rx d).1≤8) x.Defs.length hl ⟨rfl,by simp⟩ ?_ ?_) (fun _ hlow=>?_)
 ·rintro i _ a ⟨rfl,hd⟩;have hx:=Dy hf (Ii a);refine Is.dt (by omega) (Is.bnq (aZ a) (Is.bnq (vw hx) (Is.bnq (Ab ba _ hx.ok (by have:=hx.hgt; unfold ba; omega) (by have:=hx.hgt; omega)) (Is.dcd (fun _=>Is.stop fun h=>by cases h) (fun f=>Is.bnq (aK (by omega)) (Is.next ⟨rfl,fun d hm=>?_⟩))))));rw [It a,Iq] at hm;rcases hm with hm|hm
  ·exact hd d hm
  ·rw [Ip.1 hm]; omega
 ·rintro _ ⟨rfl,hd⟩;rw [Ij] at hd;exact Is.df (by omega) (Is.stop hd)
 ·exact Is.bnd (zg h6 hf hlow) fun b _=>Is.pure fun _=>⟨h6,hf,hlow⟩
theorem us (a:T_LexSpec) (o:kI a):M.f4 a=some true:=by
 refine Is.eq ?_;unfold M.f4;refine Is.bnd (yB o) fun b hb=>Is.cnd (fun _=>Is.bnq mM (Is.pure rfl)) (fun h=>?_)
 obtain ⟨h6,hf,hlow⟩:=hb (by simpa using h);obtain ⟨r,q,y⟩:=vX h6 hf hlow;refine Is.bnq (x:=(r.1,r.2.2)) (show M.e1 a=_ from aN q rfl) (Is.cnd (fun _=>Is.bnq mM (Is.pure rfl)) (fun z=>?_));have C:=y (dX z);have f:=C.blt.can.ok;have l:eg r.1 (walkN r.1 0 [])=-1:=by
  rcases C.blt.run [] with ⟨e,_⟩|⟨j,m,e,k,_⟩
  ·exact e
  ·have t:j<a.Defs.length:=by simpa [nj] using m
   rw [yr (nj a) m] at k;have:(nj a)[j]=(rx a.Defs[j]).1:=by simp [nj]
   rw [this] at k;exact absurd k (C.pat _ (Ii t)).2
 refine Is.bnd (P:=fun b=>b=false) ?_ fun b hb=>Is.cf hb ?_
 ·obtain ⟨A,v,u⟩:=tY (d:=r.1) (yi C.blt.can);obtain rfl:A=true:=u.2 f;exact Is.bnq v (Is.cf rfl (Is.bnq (rW f (w:=[]) (by simp)) (Is.pure (by rw [l]; rfl))))
 refine Is.bs (P:=fun _=>True) (Q:=fun b:Bool=>b=true) ?_ (fun _ _=>Is.bnq mM (Is.pure rfl));refine Is.upto (fun i n=>n=(i:Int)) a.Defs.length (by omega) rfl ?_ ?_
 ·rintro i _ c rfl;have hm:=Ii c;obtain ⟨s,hs,p⟩:=xv (x:=a) (i:Int);obtain rfl:=p i c rfl;refine Is.dt (by omega) (Is.bnq hs (Is.bnd (P:=fun b=>b=false) ?_ fun b hb=>Is.cf hb (Is.bnq (aK (by omega)) (Is.next rfl))));refine Is.cnd (fun g=>?_) (fun _=>Is.bnq (rW f (w:=a.Defs[i].Sample) (by have:=(hf _ hm).2.2.1; omega)) (Is.pure (by rw [C.smp i c]; simp)));have g:a.Defs[i].Sample=[]:=by simpa using g
  have e:=C.smp i c;rw [g,l] at e;omega
 ·rintro _ rfl;exact Is.df (by omega) (Is.stop trivial)
end Go.Proofs.YtggpjcdhflcfmaaGreatDoor
