/- Part 18. -/
import Derived.Test.YtbkjljkjhlcmoaaGreatDoorKBoth17
set_option linter.unusedVariables false
set_option linter.unusedSimpArgs false
namespace Go.Proofs.YtbkjljkjhlcmoaaGreatDoor
open Go.Lx Go.RowKit
def eK:Nat:=100000
def xN:Nat:=100
theorem Bz:jh (yq Tryz.prog Cv eK xN (.fn 9) [] CO gN)=true:=by decide +kernel
section
variable {F:Frm} {ρ:List Lx.Place} {t:HpT} {n:Nat} {w:World}
theorem vb (d:th w):aT Tryz.prog 9 #[] w fun v w'=>v=.bool true∧Below w.heap.size w w':=by
 obtain ⟨m,o,c⟩:=lF Bz;have:=(zA xy eK xN).fn (Frm.all w) ws 9 [] [] CO gN w pP (oz d) rfl (by rw [c]; intro h; cases h);rw [c] at this;rcases this with ⟨_,f⟩|⟨v,w',b,_⟩
 ·refine Calls.mono f ?_;rintro e w' ⟨v,rfl,ρ',a,l,n,k,p,j,i⟩;cases k
  exact ⟨_,rfl,(Option.some.inj i).symm,lE j.below⟩
 ·rw [qg (lR (P:=Tryz.prog) (g:=9) (by kernel_rfl))] at b;cases b
noncomputable def Hu (xs:List AV) (t:HpT) (n:Nat):OR:=match xs with
 | []=>bif nX t then .mem (.bool true) t n else .bad
 | _=>.bad
theorem Fj {xs:List AV} {vs:List Value} (b:GI ρ) (hr:HR F ρ (co t n) w) (hx:concL ρ xs=some vs) (a:Hu xs t n≠.bad):fM Tryz.prog 9 vs w (nH F ρ (Hu xs t n)):=by
 unfold Hu at a ⊢;split at a
 ·cases hck:nX t with
  | false=>rw [hck] at a; exact absurd rfl a
  | true=>
   cases hx
   refine .inl ⟨lR (by kernel_rfl),?_⟩;refine Calls.mono (vb (uA hr b hck).1) ?_;rintro e w' ⟨v,rfl,rfl,c⟩;exact ⟨_,rfl,ρ,.bool true,t,n,rfl,bj.refl _,hr.below_ c,rfl⟩
 ·exact absurd rfl a
noncomputable def EV:zh:=fun f=>bif Nat.beq f 9 then some (.mk Hu) else Cv f
theorem Cu:yf Tryz.prog EV:=by
 intro f g h F ρ xs vs t n w hg hr hx hne;unfold EV at h;cases hf:Nat.beq f 9 with
 | false=>rw [hf,cond_false] at h; exact xy f g h F ρ xs vs t n w hg hr hx hne
 | true=>
  rw [hf,cond_true] at h;cases h
  have:=Nat.eq_of_beq_eq_true hf;subst this;exact Fj hg hr hx hne
end
end Go.Proofs.YtbkjljkjhlcmoaaGreatDoor
