/- Part 14. -/
import Derived.Test.YtlcdifnmkafcfaaGreatKLexrepairConfusions13
namespace Go.Proofs.YtlcdifnmkafcfaaGreat
open Go.Lx
open Classical
def big:Nat:=2199023255552
inductive Fit:T_Regex→Prop where
  | mk (x:T_Regex):W4 x.Set→x.Kids.length≤big→(x.Kind=6→∃y,x.Kids=[y])→(x.Kind=1→x=de)→(x.Kind=2→x=cL)→(∀y∈x.Kids,Fit y)→Fit x
theorem Fit.set {x} (h:Fit x):W4 x.Set:=by cases h; assumption
theorem Fit.len {x} (h:Fit x):x.Kids.length≤big:=by cases h; assumption
theorem Fit.star {x} (h:Fit x):x.Kind=6→∃y,x.Kids=[y]:=by cases h; assumption
theorem Fit.none {x} (h:Fit x):x.Kind=1→x=de:=by cases h; assumption
theorem Fit.empty {x} (h:Fit x):x.Kind=2→x=cL:=by cases h; assumption
theorem Fit.kids {x} (h:Fit x):∀y∈x.Kids,Fit y:=by cases h; assumption
theorem ic:Fit de:=.mk _ eP (by simp [de]) (by simp [de]) (fun _=>rfl) (by simp [de]) (by simp [de])
theorem jG:Fit cL:=.mk _ eP (by simp [cL]) (by simp [cL]) (by simp [cL]) (fun _=>rfl) (by simp [cL])
theorem ez {x y:T_Regex} (h:y∈x.Kids):height y<height x:=by
  obtain ⟨k,s,l⟩:=x
  have:height y≤bK l:=ey h
  simp only [height]
  omega
theorem wl:∀fl a b,Fit a→height a<fl→M.e4 fl a b=some (decide (a=b)):=by
  intro fl
  induction fl with
  | zero=>intro a b _ h; omega
  | succ fl ih=>
    rintro ⟨k,s,l⟩ ⟨k',s',l'⟩ hF hh
    unfold M.e4
    refine Is.eq ?_
    have gL:Is (bif k != k' then some true else bif s != s' then some true else some ((l.length:Int) != (l'.length:Int))) (fun r=>r=!decide (k=k'∧s=s'∧l.length=l'.length)):=by
      refine Is.cnd (fun h=>Is.pure ?_) (fun h=>Is.cnd (fun c=>Is.pure ?_) (fun c=>Is.pure ?_))
      · have:=fN h
        simp [this]
      · have:s≠s':=by simpa using c
        simp [this]
      · have n:=eO h
        have m:s=s':=by simpa using c
        subst n; subst m
        by_cases f:l.length=l'.length
        · rw [mi (by omega)]; simp [f]
        · rw [go (by omega)]; simp [f]
    refine Is.bnd gL ?_
    rintro _ rfl
    refine Is.cnd (fun h=>Is.pure ?_) (fun h=>?_)
    · have h:¬ (k=k'∧s=s'∧l.length=l'.length):=of_decide_eq_false (by simpa only [Bool.not_eq_true'] using h)
      refine (dT ?_).symm
      intro e
      injection e with j g d
      exact h ⟨j,g,by rw [d]⟩
    · have h:k=k'∧s=s'∧l.length=l'.length:=of_decide_eq_true (by simpa only [Bool.not_eq_false'] using h)
      obtain ⟨rfl,rfl,hl⟩:=h
      refine Is.bs (P:=fun _=>l=l') (Q:=fun r=>r=decide ((⟨k,s,l⟩:T_Regex)=⟨k,s,l'⟩)) ?_ (fun _ e=>Is.pure (dS (by rw [e])).symm)
      have hb:=hF.len
      refine Is.upto (fun i st=>st=(i:Int)∧l.take i=l'.take i) l.length (Nat.le_trans hb (by decide)) ⟨rfl,rfl⟩ ?_ ?_
      · rintro i _ hi ⟨rfl,hJ⟩
        refine Is.dt (show (i:Int)<(l.length:Int) by omega) (Is.bnq (bi hi) (Is.bnq (bi (hl ▸ hi)) ?_))
        have hk:=ez (x:=⟨k,s,l⟩) (List.getElem_mem hi)
        refine Is.bnq (ih _ _ (hF.kids _ (List.getElem_mem hi)) (by omega)) ?_
        refine Is.cnd (fun h=>Is.stop ?_) (fun h=>?_)
        · have h:l[i]≠l'[i]:=by simpa using h
          refine (dT ?_).symm
          intro e
          injection e with j g d
          subst d
          exact h rfl
        · have h:l[i]=l'[i]:=by simpa using h
          refine Is.bnq (aX (by unfold big at hb; simp only at hb; omega)) (Is.next ⟨rfl,?_⟩)
          rw [List.take_add_one,List.take_add_one,hJ,List.getElem?_eq_getElem hi,List.getElem?_eq_getElem (hl ▸ hi),h]
      · rintro _ ⟨rfl,hJ⟩
        refine Is.df (show ¬ (l.length:Int)<(l.length:Int) by omega) (Is.stop ?_)
        rw [List.take_length,hl,List.take_length] at hJ
        exact hJ
theorem mf:∀fl x,Fit x→height x<fl→M.a5 fl x=some (nb x):=by
  intro fl
  induction fl with
  | zero=>intro a _ h; omega
  | succ fl ih=>
    rintro ⟨k,s,l⟩ hF hh
    have hl:l.length≤9223372036854775807:=Nat.le_trans hF.len (by decide)
    have hk:∀y∈l,M.a5 fl y=some (nb y):=fun y hy=>ih y (hF.kids y hy) (by have:=ez (x:=⟨k,s,l⟩) hy; omega)
    have e:=nS (ρ:=cJ Unit (cJ Unit Bool)) (X:=.stop (.stop false)) (Y:=.next ()) hk hl
    have b:=rh (ρ:=cJ Unit Bool) (X:=.stop true) (Y:=.next ()) hk hl
    unfold M.a5
    rcases ea k with rfl|rfl|rfl|rfl|rfl|⟨b,f,d,c,h6⟩
    · simp [nb,bk]
    · simp [nb,bk]
    · refine Is.eq (Is.bs (P:=fun _=>False) (Is.bnq (x:=false) rfl (Is.cf rfl (Is.ct rfl ?_))) (fun _ h=>h.elim))
      rw [e]
      show Is _ (SP _ (fun r=>r=zS l))
      rw [vR]
      cases l.all nb
      · exact Is.stop rfl
      · exact Is.stop rfl
    · refine Is.eq (Is.bs (P:=fun _=>l.any nb=false) (Q:=fun r=>r=zR l) (Is.bnq (x:=false) rfl (Is.cf rfl (Is.cf rfl (Is.ct rfl ?_)))) (fun _ h=>Is.pure (by rw [sL,h])))
      rw [b,sL]
      cases l.any nb
      · exact Is.next rfl
      · exact Is.stop rfl
    · simp [nb,bk]
    · simp [nb,bk,bL b,bL d,bL c,bL h6]
def FH (x:T_Regex):Prop:=Fit x∧height x<aU
theorem FH.kid {x y:T_Regex} (h:FH x) (hy:y∈x.Kids):FH y:=⟨h.1.kids y hy,by have:=ez hy; have:=h.2; omega⟩
theorem lV (l:List T_Regex):∀ks,ks.length≤(l.foldl fX ks).length:=by
  induction l with
  | nil=>exact fun _=>Nat.le_refl _
  | cons y l ih=>
    intro ks
    refine Nat.le_trans ?_ (ih (fX ks y))
    unfold fX
    split <;> simp
theorem jp {l m:List T_Regex} (h:l.length+m.length≤big):cP 64 l m=some (l++m):=da (by unfold big at h; omega)
theorem yu {r a:T_Regex} (h:FH r) (ha:a∈mc r):FH a:=by
  unfold mc at ha
  rw [List.mem_filter] at ha
  cases hk:r.Kind == 5
  · rw [hk,cond_false,List.mem_singleton] at ha; exact ha.1 ▸ h
  · rw [hk,cond_true] at ha; exact h.kid ha.1
theorem qB {l:List T_Regex} (hF:∀r∈l,FH r) (hl:l.length≤big) (hn:(kF l).length≤big):M.g7 l=some (un l):=by
  refine Is.eq ?_
  unfold M.g7
  refine Is.bnd (P:=fun r=>r=kF l) ?_ ?_
  · refine Is.upto (fun i (st:List T_Regex×Int)=>st.2=(i:Int)∧st.1=kF (l.take i)) l.length (Nat.le_trans hl (by decide)) ⟨rfl,rfl⟩ ?_ ?_
    · rintro i ⟨_,_⟩ hi ⟨rfl,rfl⟩
      refine Is.dt (show (i:Int)<(l.length:Int) by omega) ?_
      have hi':i<9223372036854775807:=by unfold big at hl; omega
      refine Is.bnd (P:=fun r=>r=kF (l.take (i+1))) ?_ (fun r hr=>Is.bnq (aX hi') (Is.next ⟨rfl,hr⟩))
      refine Is.bnq (bi hi) ?_
      have hf:=hF _ (List.getElem_mem hi)
      have hun:kF (l.take (i+1))=(mc l[i]).foldl fX (kF (l.take i)):=by
        unfold kF
        rw [List.take_add_one,List.getElem?_eq_getElem hi,List.flatMap_append,List.foldl_append]
        simp
      have hsum:kF l=((l.drop (i+1)).flatMap mc).foldl fX (kF (l.take (i+1))):=by
        unfold kF
        rw [←List.foldl_append,←List.flatMap_append,List.take_append_drop]
      have hle:(kF (l.take (i+1))).length≤big:=Nat.le_trans (by rw [hsum]; exact lV _ _) hn
      generalize hm:(bif l[i].Kind == 5 then l[i].Kids else [l[i]])=m
      have hmF:∀y∈m,FH y:=by
        intro y hy
        subst hm
        cases hk:l[i].Kind == 5
        · rw [hk,cond_false,List.mem_singleton] at hy; exact hy ▸ hf
        · rw [hk,cond_true] at hy; exact hf.kid hy
      have hml:m.length≤big:=by
        subst hm
        cases hk:l[i].Kind == 5
        · rw [cond_false]; show 1≤big; decide
        · rw [cond_true]; exact hf.1.len
      have ha:mc l[i]=m.filter (·.Kind != 1):=by subst hm; rfl
      refine Is.bnd (P:=fun r=>r=m) ?_ ?_
      · subst hm
        refine Is.cnd (fun h=>Is.pure (by rw [h]; rfl)) (fun h=>Is.pure (by rw [h]; rfl))
      intro r hr
      rw [hr,hun,ha]
      rw [hun,ha] at hle
      refine Is.upto (fun j (st:List T_Regex×Int)=>st.2=(j:Int)∧st.1=((m.take j).filter (·.Kind != 1)).foldl fX (kF (l.take i))) m.length (Nat.le_trans hml (by decide)) ⟨rfl,rfl⟩ ?_ ?_
      · rintro j ⟨_,_⟩ hj ⟨rfl,rfl⟩
        refine Is.dt (show (j:Int)<(m.length:Int) by omega) ?_
        have hj':j<9223372036854775807:=by unfold big at hml; omega
        refine Is.bnd (P:=fun r=>r=((m.take (j+1)).filter (·.Kind != 1)).foldl fX (kF (l.take i))) ?_ (fun r hr=>Is.bnq (aX hj') (Is.next ⟨rfl,hr⟩))
        have c:(m.take (j+1)).filter (·.Kind != 1)=(m.take j).filter (·.Kind != 1)++[m[j]].filter (·.Kind != 1):=by
          rw [List.take_add_one,List.getElem?_eq_getElem hj,List.filter_append]; rfl
        have b:m.filter (·.Kind != 1)=(m.take (j+1)).filter (·.Kind != 1)++(m.drop (j+1)).filter (·.Kind != 1):=by
          rw [←List.filter_append,List.take_append_drop]
        have a:(((m.take (j+1)).filter (·.Kind != 1)).foldl fX (kF (l.take i))).length≤big:=by
          refine Nat.le_trans ?_ hle
          rw [b,List.foldl_append]
          exact lV _ _
        rw [c,List.foldl_append] at a ⊢
        generalize hks:((m.take j).filter (·.Kind != 1)).foldl fX (kF (l.take i))=ks at a ⊢
        have hksF:∀y∈ks,FH y:=by
          intro y hy
          rw [←hks,pd] at hy
          rcases hy with hy|hy
          · obtain ⟨r,hr,hy⟩:=jA.1 hy
            exact yu (hF r (List.mem_of_mem_take hr)) hy
          · exact hmF y (List.mem_of_mem_take (List.mem_filter.1 hy).1)
        have hksl:ks.length≤big:=Nat.le_trans (lV _ _) a
        refine Is.bnq (bi hj) ?_
        refine Is.cnd (fun h=>Is.pure ?_) (fun h=>?_)
        · rw [List.filter_cons,if_neg (by simp [cH h])]; rfl
        · have hfl:[m[j]].filter (·.Kind != 1)=[m[j]]:=by rw [List.filter_cons,if_pos (by simpa using em h)]; rfl
          rw [hfl] at a ⊢
          have hloop:=rh (ρ:=cJ Unit (List T_Regex)) (l:=ks) (f:=fun e=>M.e4 aU e m[j]) (p:=fun e=>decide (e=m[j])) (X:=.stop ks) (Y:=.next ())
            (fun y hy=>wl aU y m[j] (hksF y hy).1 (hksF y hy).2) (Nat.le_trans hksl (by decide))
          rw [hloop]
          by_cases hc:m[j]∈ks
          · rw [if_pos (List.any_eq_true.2 ⟨_,hc,by simp⟩)]
            refine Is.pure ?_
            show ks=fX ks m[j]
            unfold fX
            rw [if_pos hc]
          · rw [if_neg (by
              intro h
              obtain ⟨y,hy,he⟩:=List.any_eq_true.1 h
              exact hc (of_decide_eq_true he ▸ hy))]
            have he:fX ks m[j]=ks++[m[j]]:=by unfold fX; rw [if_neg hc]
            have hlen:ks.length+1≤big:=by
              have:([m[j]].foldl fX ks).length≤big:=a
              rw [List.foldl_cons,List.foldl_nil,he,List.length_append] at this
              exact this
            refine Is.bnq (jp hlen) (Is.pure ?_)
            show ks++[m[j]]=fX ks m[j]
            rw [he]
      · rintro ⟨_,_⟩ ⟨rfl,rfl⟩
        refine Is.df (show ¬ (m.length:Int)<(m.length:Int) by omega) (Is.stop ?_)
        rw [List.take_length]
    · rintro ⟨_,_⟩ ⟨rfl,rfl⟩
      refine Is.df (show ¬ (l.length:Int)<(l.length:Int) by omega) (Is.stop ?_)
      rw [List.take_length]
  · rintro _ rfl
    unfold un
    generalize kF l=ks
    match ks with
    | []=>exact Is.pure rfl
    | [y]=>exact Is.cf (by simp) (Is.ct (by simp) (Is.bnq (bi (i:=0) (by simp)) (Is.pure rfl)))
    | y::z::ks=>exact Is.cf (bL (by simp only [List.length_cons]; omega)) (Is.cf (bL (by simp only [List.length_cons]; omega)) (Is.pure rfl))
theorem pn {l:List T_Regex} (hl:l.length≤big):M.g1 l=some (ct l):=by
  refine Is.eq ?_
  unfold M.g1
  refine Is.bs (P:=fun r=>r=ne l∧l.find? (·.Kind == 1)=none) ?_ ?_
  · refine Is.upto (fun i (st:List T_Regex×Int)=>st.2=(i:Int)∧st.1=ne (l.take i)∧(l.take i).find? (·.Kind == 1)=none) l.length (Nat.le_trans hl (by decide)) ⟨rfl,rfl,rfl⟩ ?_ ?_
    · rintro i ⟨_,_⟩ hi ⟨rfl,rfl,hJ⟩
      refine Is.dt (show (i:Int)<(l.length:Int) by omega) ?_
      have hi':i<9223372036854775807:=by unfold big at hl; omega
      have hnl:(ne (l.take i)).length≤i:=Nat.le_trans (List.length_filter_le _ _) (by rw [List.length_take]; omega)
      have hs:l.take (i+1)=l.take i++[l[i]]:=by rw [List.take_add_one,List.getElem?_eq_getElem hi]; rfl
      refine Is.bs (P:=fun r=>r=ne (l.take (i+1))∧(l.take (i+1)).find? (·.Kind == 1)=none) ?_ (fun r hr=>Is.bnq (aX hi') (Is.next ⟨rfl,hr.1,hr.2⟩))
      refine Is.bnq (bi hi) (Is.cnd (fun h=>Is.stop ?_) (fun h=>?_))
      · have hf:l.find? (·.Kind == 1)=some l[i]:=by
          have:l=l.take i++l[i]::l.drop (i+1):=by rw [List.getElem_cons_drop,List.take_append_drop]
          refine (congrArg (List.find? (fun x=>x.Kind == 1)) this).trans ?_
          rw [List.find?_append,hJ,List.find?_cons,h]
          rfl
        show l[i]=ct l
        unfold ct
        rw [hf]
      · have hf:(l.take (i+1)).find? (·.Kind == 1)=none:=by
          rw [hs,List.find?_append,hJ,List.find?_cons,h]; rfl
        refine Is.cnd (fun a=>?_) (fun a=>Is.next ⟨?_,hf⟩)
        · refine Is.bnq (jp (by simp only [List.length_singleton]; omega)) (Is.next ⟨?_,hf⟩)
          unfold ne
          rw [hs,List.filter_append]
          congr 1
          rw [List.filter_cons,if_pos a]; rfl
        · unfold ne
          rw [hs,List.filter_append,List.filter_cons,if_neg (by rw [a]; simp)]
          simp
    · rintro ⟨_,_⟩ ⟨rfl,rfl,hJ⟩
      refine Is.df (show ¬ (l.length:Int)<(l.length:Int) by omega) (Is.stop ⟨?_,?_⟩)
      · rw [List.take_length]
      · rw [List.take_length] at hJ; exact hJ
  · rintro _ ⟨rfl,hf⟩
    unfold ct
    rw [hf]
    generalize ne l=ks
    match ks with
    | []=>exact Is.pure rfl
    | [y]=>exact Is.cf (by simp) (Is.ct (by simp) (Is.bnq (bi (i:=0) (by simp)) (Is.pure rfl)))
    | y::z::ks=>exact Is.cf (bL (by simp only [List.length_cons]; omega)) (Is.cf (bL (by simp only [List.length_cons]; omega)) (Is.pure rfl))
def Gd (x:T_Regex):Prop:=∀b:Nat,b<256→∀fl,height x<fl→M.a6 fl x b=some (dr x b)
theorem jm {x:T_Regex} (hF:Fit x) (c:x.Kind≠4) (a:x.Kind≠5) (h6:x.Kind≠6):Gd x:=by
  intro b hb fl hfl
  obtain ⟨fl,rfl⟩:∃f,fl=f+1:=⟨fl - 1,by omega⟩
  obtain ⟨k,s,l⟩:=x
  unfold M.a6
  have hm:=wb hF.set hb
  simp only at hm c a h6
  by_cases d:k=3
  · subst d
    simp only [beq_self_eq_true,cond_true,hm,Option.bind_some,dr]
    cases mem s b <;> rfl
  · simp only [bL d,bL c,bL a,bL h6,cond_false,bk,dr]
    rfl
theorem xT {s:aA 4} {y:T_Regex} (hy:Gd y):Gd ⟨6,s,[y]⟩:=by
  intro b hb fl hfl
  obtain ⟨fl,rfl⟩:∃f,fl=f+1:=⟨fl - 1,by omega⟩
  unfold M.a6
  have hh:height y<fl:=by simp only [height,bK] at hfl; omega
  refine Is.eq ?_
  refine Is.bs (P:=fun _=>False) (Is.cf rfl (Is.cf rfl (Is.cf rfl (Is.ct rfl ?_)))) (fun _ h=>h.elim)
  refine Is.bnq (bi (i:=0) (by simp)) (Is.bnq (hy b hb fl hh) (Is.bnq (pn (by show 2≤big; decide)) (Is.stop rfl)))
theorem yc (l:List T_Regex) (b:Nat):(lk l b).length≤l.length:=by
  induction l with
  | nil=>simp [lk]
  | cons y l ih=>
    rw [lk]
    cases nb y
    · simp
    · simp only [cond_true,List.length_cons]; omega
theorem yb (l:List T_Regex) (b:Nat):(lj l b).length=l.length:=by
  induction l with
  | nil=>simp [lj]
  | cons y l ih=>simp [lj,ih]
theorem vl {l:List T_Regex} {i:Nat} (h:i≤l.length):jL l (i:Int) (l.length:Int)=some (l.drop i):=by
  unfold jL
  rw [if_pos ⟨by omega,by omega,by omega⟩]
  simp
theorem uN {s:aA 4} {l:List T_Regex} (hF:∀y∈l,FH y∧Gd y) (hl:l.length≤big) (hd:∀b<256,(kF (lk l b)).length≤big∧∀r∈lk l b,FH r):Gd ⟨4,s,l⟩:=by
  intro b hb fl hfl
  obtain ⟨fl,rfl⟩:∃f,fl=f+1:=⟨fl - 1,by omega⟩
  unfold M.a6
  have hh:∀y∈l,height y<fl:=fun y hy=>by have:=ez (x:=⟨4,s,l⟩) hy; omega
  refine Is.eq ?_
  refine Is.bs (P:=fun _=>False) (Is.cf rfl (Is.ct rfl ?_)) (fun _ h=>h.elim)
  refine Is.bnd (P:=fun r=>r=lk l b) ?_ (fun r hr=>by
    subst hr
    exact Is.bnq (qB (hd b hb).2 (Nat.le_trans (yc l b) hl) (hd b hb).1) (Is.stop rfl))
  refine Is.upto (fun i (st:List T_Regex×Int)=>st.2=(i:Int)∧st.1++lk (l.drop i) b=lk l b∧st.1.length≤i) l.length (Nat.le_trans hl (by decide)) ⟨rfl,by simp,by simp⟩ ?_ ?_
  · rintro i ⟨out,_⟩ hi ⟨rfl,hJ,hlen⟩
    simp only at hJ hlen
    have hi':i<9223372036854775807:=by unfold big at hl; omega
    have hm:=List.getElem_mem hi
    have hds:l.drop i=l[i]::l.drop (i+1):=(List.getElem_cons_drop hi).symm
    refine Is.dt (show (i:Int)<(l.length:Int) by omega) (Is.bnq (bi hi) (Is.bnq (aX hi') (Is.bnq (vl (l:=l) (i:=i+1) hi) ?_)))
    refine Is.bnq ((hF _ hm).2 b hb fl (hh _ hm)) (Is.bnq (jp (by show 1+(l.drop (i+1)).length≤big; rw [List.length_drop]; omega)) ?_)
    refine Is.bnq (pn (by simp only [List.length_append,List.length_singleton,List.length_drop]; omega)) (Is.bnq (jp (by simp only [List.length_singleton]; omega)) ?_)
    refine Is.bnq (mf aU _ (hF _ hm).1.1 (hF _ hm).1.2) ?_
    rw [hds,lk] at hJ
    refine Is.cnd (fun h=>Is.stop ?_) (fun h=>Is.next ⟨rfl,?_,?_⟩)
    · have h:nb l[i]=false:=by simpa using h
      rw [h] at hJ
      exact hJ
    · have h:nb l[i]=true:=by simpa using h
      rw [h] at hJ
      rw [List.append_assoc]
      exact hJ
    · simp only [List.length_append,List.length_singleton]; omega
  · rintro ⟨out,_⟩ ⟨rfl,hJ,hlen⟩
    refine Is.df (show ¬ (l.length:Int)<(l.length:Int) by omega) (Is.stop ?_)
    rw [List.drop_length] at hJ
    simpa [lk] using hJ
theorem wc {s:aA 4} {l:List T_Regex} (hF:∀y∈l,Gd y) (hl:l.length≤big) (hd:∀b<256,(kF (lj l b)).length≤big∧∀r∈lj l b,FH r):Gd ⟨5,s,l⟩:=by
  intro b hb fl hfl
  obtain ⟨fl,rfl⟩:∃f,fl=f+1:=⟨fl - 1,by omega⟩
  unfold M.a6
  have hh:∀y∈l,height y<fl:=fun y hy=>by have:=ez (x:=⟨4,s,l⟩) hy; simp only [height] at hfl this; omega
  refine Is.eq ?_
  refine Is.bs (P:=fun _=>False) (Is.cf rfl (Is.cf rfl (Is.ct rfl ?_))) (fun _ h=>h.elim)
  refine Is.bnd (P:=fun r=>r=lj l b) ?_ (fun r hr=>by
    subst hr
    exact Is.bnq (qB (hd b hb).2 (by rw [yb]; exact hl) (hd b hb).1) (Is.stop rfl))
  refine Is.upto (fun i (st:List T_Regex×Int)=>st.2=(i:Int)∧st.1++lj (l.drop i) b=lj l b∧st.1.length≤i) l.length (Nat.le_trans hl (by decide)) ⟨rfl,by simp,by simp⟩ ?_ ?_
  · rintro i ⟨out,_⟩ hi ⟨rfl,hJ,hlen⟩
    simp only at hJ hlen
    have hi':i<9223372036854775807:=by unfold big at hl; omega
    have hm:=List.getElem_mem hi
    have hds:l.drop i=l[i]::l.drop (i+1):=(List.getElem_cons_drop hi).symm
    refine Is.dt (show (i:Int)<(l.length:Int) by omega) (Is.bnq (bi hi) ?_)
    refine Is.bnq (hF _ hm b hb fl (hh _ hm)) (Is.bnq (jp (by simp only [List.length_singleton]; omega)) (Is.bnq (aX hi') (Is.next ⟨rfl,?_,?_⟩)))
    · rw [hds,lj] at hJ
      rw [List.append_assoc]
      exact hJ
    · simp only [List.length_append,List.length_singleton]; omega
  · rintro ⟨out,_⟩ ⟨rfl,hJ,hlen⟩
    refine Is.df (show ¬ (l.length:Int)<(l.length:Int) by omega) (Is.stop ?_)
    rw [List.drop_length] at hJ
    simpa [lj] using hJ
end Go.Proofs.YtlcdifnmkafcfaaGreat
namespace Go.Proofs.YtlcdifnmkafcfaaGreat
open Go.Lx
open Classical
inductive Cn:T_Regex→Prop where
  | mk (x:T_Regex):W4 x.Set→(x.Kind=6→∃y,x.Kids=[y])→(x.Kind=1→x=de)→(x.Kind=2→x=cL)→(∀y∈x.Kids,Cn y)→Cn x
theorem Cn.set {x} (h:Cn x):W4 x.Set:=by cases h; assumption
theorem Cn.star {x} (h:Cn x):x.Kind=6→∃y,x.Kids=[y]:=by cases h; assumption
theorem Cn.none {x} (h:Cn x):x.Kind=1→x=de:=by cases h; assumption
theorem Cn.empty {x} (h:Cn x):x.Kind=2→x=cL:=by cases h; assumption
theorem Cn.kids {x} (h:Cn x):∀y∈x.Kids,Cn y:=by cases h; assumption
theorem Fit.cn {x} (h:Fit x):Cn x:=by
  induction h with
  | mk x h1 _ h3 h4 h5 _ ih=>exact .mk x h1 h3 h4 h5 ih
theorem mQ:Cn de:=ic.cn
theorem rE:Cn cL:=jG.cn
theorem yf {k:Int} {l:List T_Regex} (hk:k=4∨k=5) (h:∀y∈l,Cn y):Cn ⟨k,aA.zero 4,l⟩:=
  .mk _ eP (fun e=>by simp only at e; omega) (fun e=>by simp only at e; omega) (fun e=>by simp only at e; omega) h
theorem yR {k:Int} {e:T_Regex} {l:List T_Regex} (hk:k=4∨k=5) (he:Cn e) (h:∀y∈l,Cn y):Cn (wr k e l):=by
  match l with
  | []=>exact he
  | [y]=>exact h y (by simp)
  | y::z::l=>exact yf hk h
theorem yt {r a:T_Regex} (h:Cn r) (ha:a∈mc r):Cn a:=by
  unfold mc at ha
  rw [List.mem_filter] at ha
  cases hk:r.Kind == 5
  · rw [hk,cond_false,List.mem_singleton] at ha; exact ha.1 ▸ h
  · rw [hk,cond_true] at ha; exact h.kids a ha.1
theorem yS {l:List T_Regex} (h:∀r∈l,Cn r):Cn (un l):=yR (.inr rfl) mQ fun y hy=>by
  obtain ⟨r,hr,hy⟩:=jA.1 hy
  exact yt (h r hr) hy
theorem wu {l:List T_Regex} (h:∀r∈l,Cn r):Cn (ct l):=by
  unfold ct
  split
  · rename_i e he; exact h e (List.mem_of_find?_eq_some he)
  · exact yR (.inl rfl) rE fun y hy=>h y (List.mem_filter.1 hy).1
theorem pW {l:List T_Regex} {b:Nat} {r:T_Regex} (h:r∈lk l b):∃pre y l',l=pre++y::l'∧r=ct (dr y b::l'):=by
  induction l with
  | nil=>cases h
  | cons y l ih=>
    rw [lk,List.mem_cons] at h
    rcases h with rfl|h
    · exact ⟨[],y,l,rfl,rfl⟩
    · cases hn:nb y
      · rw [hn] at h; cases h
      · rw [hn] at h
        obtain ⟨pre,z,l',rfl,rfl⟩:=ih h
        exact ⟨y::pre,z,l',rfl,rfl⟩
theorem mM {l:List T_Regex} {b:Nat} {r:T_Regex}:r∈lj l b↔∃y∈l,r=dr y b:=by
  induction l with
  | nil=>simp [lj]
  | cons y l ih=>simp [lj,ih]
theorem zy {s l b}:dr ⟨4,s,l⟩ b=un (lk l b):=by rw [dr]; rfl
theorem zw {s l b}:dr ⟨5,s,l⟩ b=un (lj l b):=by rw [dr]; rfl
theorem zv {s y b}:dr ⟨6,s,[y]⟩ b=ct [dr y b,⟨6,s,[y]⟩]:=by rw [dr,lj,lj]; rfl
theorem zz {s l b}:dr ⟨3,s,l⟩ b=bif mem s b then cL else de:=by rw [dr]; rfl
theorem rA {k s l b} (h3:k≠3) (h4:k≠4) (h5:k≠5) (h6:k≠6):dr ⟨k,s,l⟩ b=de:=by
  rw [dr,bL h3,bL h4,bL h5,bL h6]; rfl
theorem Av {x:T_Regex} {b:Nat} (h:x.Kind=1):dr x b=de:=by
  obtain ⟨k,s,l⟩:=x
  obtain rfl:k=1:=h
  exact rA (by decide) (by decide) (by decide) (by decide)
theorem ij {x:T_Regex} (hC:Cn x) (h:x.Kind=6):∃s y,x=⟨6,s,[y]⟩∧Cn y:=by
  obtain ⟨y,hy⟩:=hC.star h
  obtain ⟨k,s,l⟩:=x
  cases h; cases hy
  exact ⟨s,y,rfl,hC.kids y (by simp)⟩
theorem tV (b:Nat):∀x,Cn x→Cn (dr x b):=by
  refine T_Regex.ind fun k s l ih hC=>?_
  have hk:=hC.kids
  rcases ea k with rfl|rfl|rfl|rfl|rfl|⟨f,d,c,a,h6⟩
  · rw [rA (by decide) (by decide) (by decide) (by decide)]; exact mQ
  · rw [zz]
    cases mem s b
    · exact mQ
    · exact rE
  · rw [zy]
    refine yS fun r hr=>?_
    obtain ⟨pre,y,l',rfl,rfl⟩:=pW hr
    refine wu fun z hz=>?_
    rcases List.mem_cons.1 hz with rfl|hz
    · exact ih y (by simp) (hk y (by simp))
    · exact hk z (by simp [hz])
  · rw [zw]
    refine yS fun r hr=>?_
    obtain ⟨y,hy,rfl⟩:=mM.1 hr
    exact ih y hy (hk y hy)
  · obtain ⟨s',y,e,hy⟩:=ij hC rfl
    cases e
    rw [zv]
    refine wu fun z hz=>?_
    rcases List.mem_cons.1 hz with rfl|hz
    · exact ih y (by simp) hy
    · rw [List.mem_singleton.1 hz]; exact hC
  · rw [rA d c a h6]; exact mQ
theorem wt (v:List Nat):∀x,Cn x→Cn (fO x v):=by
  induction v with
  | nil=>exact fun _ h=>h
  | cons b v ih=>exact fun x h=>ih _ (tV b x h)
theorem wp {z:T_Regex} (h:Cn z):ct [z]=z:=by
  unfold ct ne
  by_cases h1:z.Kind=1
  · rw [List.find?_cons,iI h1]
  · rw [List.find?_cons,bL h1]
    by_cases h2:z.Kind=2
    · simp [h2,wr,←h.empty h2]
    · simp [h2,wr]
theorem Ar (l:List T_Regex):ne (ne l)=ne l:=by unfold ne; rw [List.filter_filter]; simp
theorem xX (l:List T_Regex):(ne l).find? (·.Kind == 1)=l.find? (·.Kind == 1):=by
  induction l with
  | nil=>rfl
  | cons y l ih=>
    unfold ne
    by_cases h:y.Kind=2
    · rw [List.filter_cons,if_neg (by simp [h]),List.find?_cons,bL (by omega:y.Kind≠1)]
      exact ih
    · rw [List.filter_cons,if_pos (by simp [h]),List.find?_cons,List.find?_cons]
      cases y.Kind == 1
      · exact ih
      · rfl
theorem wq (z:T_Regex) (l:List T_Regex):ct (z::ne l)=ct (z::l):=by
  have h1:(z::ne l).find? (·.Kind == 1)=(z::l).find? (·.Kind == 1):=by rw [List.find?_cons,List.find?_cons,xX]
  have h2:ne (z::ne l)=ne (z::l):=by
    have e:∀m,ne (z::m)=ne [z]++ne m:=fun m=>by unfold ne; rw [←List.filter_append]; rfl
    rw [e,e l,Ar]
  unfold ct
  rw [h1,h2]
theorem fP (E:T_Regex) (l:List T_Regex):(ct (E::l)).Kind=1∨(E.Kind=2∧ct (E::l)=wr 4 cL (ne l))∨(E.Kind≠2∧E.Kind≠1∧ct (E::l)=wr 4 cL (E::ne l)):=by
  unfold ct
  split
  · rename_i e he
    exact .inl (by simpa using List.find?_some he)
  · rename_i he
    by_cases h:E.Kind=2
    · refine .inr (.inl ⟨h,?_⟩)
      unfold ne
      rw [List.filter_cons,if_neg (by simp [h])]
    · refine .inr (.inr ⟨h,?_,?_⟩)
      · rw [List.find?_cons] at he
        intro a
        rw [iI a] at he
        cases he
      · unfold ne
        rw [List.filter_cons,if_pos (by simp [h])]
mutual
def ua:T_Regex→List T_Regex
  | ⟨k,s,l⟩=>bif k == 5 then ⟨k,s,l⟩::sh l else bif k == 1 then [] else [⟨k,s,l⟩]
def sh:List T_Regex→List T_Regex
  | []=>[]
  | y::l=>ua y++sh l
end
def lS (x:T_Regex):List T_Regex:=bif x.Kind == 5 then sh x.Kids else bif x.Kind == 1 then [] else [x]
theorem jB {l:List T_Regex} {a:T_Regex}:a∈sh l↔∃y∈l,a∈ua y:=by
  induction l with
  | nil=>simp [sh]
  | cons y l ih=>simp [sh,ih]
theorem ul {s l}:ua ⟨5,s,l⟩=⟨5,s,l⟩::sh l:=by rw [ua]; rfl
theorem xn {x:T_Regex} (h:x.Kind=1):ua x=[]:=by obtain ⟨k,s,l⟩:=x; obtain rfl:k=1:=h; rw [ua]; rfl
theorem qC {x:T_Regex} (h1:x.Kind≠1) (h5:x.Kind≠5):ua x=[x]:=by obtain ⟨k,s,l⟩:=x; rw [ua,bL h1,bL h5]; rfl
theorem oZ {x:T_Regex} (h:x.Kind=1):lS x=[]:=by unfold lS; rw [h]; rfl
theorem gZ {x:T_Regex} (h1:x.Kind≠1) (h5:x.Kind≠5):lS x=[x]:=by unfold lS; rw [bL h1,bL h5]; rfl
theorem Ap {s l}:lS ⟨5,s,l⟩=sh l:=rfl
theorem tE {x:T_Regex} (h:x.Kind≠1):x∈ua x:=by
  by_cases h5:x.Kind=5
  · obtain ⟨k,s,l⟩:=x; obtain rfl:k=5:=h5; rw [ul]; simp
  · rw [qC h h5]; simp
theorem pQ {x c:T_Regex} (h:c∈lS x):c∈ua x:=by
  by_cases h1:x.Kind=1
  · rw [oZ h1] at h; cases h
  · by_cases h5:x.Kind=5
    · obtain ⟨k,s,l⟩:=x; obtain rfl:k=5:=h5; rw [ul]; exact List.mem_cons_of_mem _ h
    · rw [gZ h1 h5] at h; rw [qC h1 h5]; exact h
theorem ou {r a:T_Regex} (ha:a∈mc r):a∈ua a∧∀c∈ua a,c∈lS r:=by
  unfold mc at ha
  rw [List.mem_filter] at ha
  have b:a.Kind≠1:=by simpa using ha.2
  refine ⟨tE b,fun c hc=>?_⟩
  cases hk:r.Kind == 5
  · rw [hk,cond_false,List.mem_singleton] at ha
    obtain rfl:=ha.1
    rw [qC b (em hk)] at hc
    rw [gZ b (em hk)]
    exact hc
  · rw [hk,cond_true] at ha
    obtain ⟨k,s,l⟩:=r
    obtain rfl:k=5:=cH hk
    exact jB.2 ⟨a,ha.1,hc⟩
theorem kE {l:List T_Regex} {a:T_Regex} (h:a∈kF l):∃r∈l,a∈lS r:=by
  obtain ⟨r,hr,h⟩:=jA.1 h
  exact ⟨r,hr,(ou h).2 a (ou h).1⟩
theorem vD {l:List T_Regex} {c:T_Regex} (h:c∈lS (un l)):∃r∈l,c∈lS r:=by
  unfold un at h
  have gL:∀a∈kF l,c∈ua a→∃r∈l,c∈lS r:=fun a ha hc=>by
    obtain ⟨r,hr,h⟩:=jA.1 ha
    exact ⟨r,hr,(ou h).2 c hc⟩
  generalize kF l=ks at h gL
  match ks with
  | []=>cases h
  | [y]=>exact gL y (by simp) (pQ h)
  | y::z::ks=>
    obtain ⟨a,ha,hc⟩:=jB.1 (show c∈sh (y::z::ks) from h)
    exact gL a ha hc
noncomputable def yO (x:T_Regex) (b:Nat):List T_Regex:=bif x.Kind == 4 then lk x.Kids b else bif x.Kind == 5 then lj x.Kids b else [dr x b]
def lv (x:T_Regex) (b:Nat) (c:T_Regex):Prop:=∃r∈yO x b,c∈lS r
theorem yN {s l b}:yO ⟨4,s,l⟩ b=lk l b:=rfl
theorem Af {s l b}:yO ⟨5,s,l⟩ b=lj l b:=rfl
theorem tI {x:T_Regex} {b:Nat} (h4:x.Kind≠4) (h5:x.Kind≠5):yO x b=[dr x b]:=by unfold yO; rw [bL h4,bL h5]; rfl
theorem nG {x:T_Regex} {b:Nat} {c:T_Regex} (h:c∈lS (dr x b)):lv x b c:=by
  by_cases h4:x.Kind=4
  · obtain ⟨k,s,l⟩:=x; obtain rfl:k=4:=h4
    rw [zy] at h
    exact vD h
  · by_cases h5:x.Kind=5
    · obtain ⟨k,s,l⟩:=x; obtain rfl:k=5:=h5
      rw [zw] at h
      exact vD h
    · exact ⟨_,by rw [tI h4 h5]; simp,h⟩
theorem nE {x:T_Regex} {b:Nat} {c:T_Regex} (h4:x.Kind≠4) (h5:x.Kind≠5) (h:lv x b c):c∈lS (dr x b):=by
  obtain ⟨r,hr,hc⟩:=h
  rw [tI h4 h5,List.mem_singleton] at hr
  exact hr ▸ hc
theorem sw {x:T_Regex} {b:Nat} {c:T_Regex} (h1:x.Kind=1):¬ lv x b c:=by
  intro h
  have:=nE (by omega) (by omega) h
  rw [Av h1] at this
  cases this
theorem qG {E x c:T_Regex} (hx:x.Kind=6) (h:c∈lS (ct [E,x])):c=ct [E,x]:=by
  have hn:ne [x]=[x]:=by unfold ne; rw [List.filter_cons,if_pos (by simp [hx])]; rfl
  rcases fP E [x] with b|⟨_,a⟩|⟨_,_,a⟩
  · rw [oZ b] at h; cases h
  · rw [hn] at a
    rw [a,show wr 4 cL [x]=x from rfl,gZ (by omega) (by omega),List.mem_singleton] at h
    rw [a]; exact h
  · rw [hn] at a
    rw [a,show wr 4 cL [E,x]=⟨4,aA.zero 4,[E,x]⟩ from rfl,gZ (by show (4:Int)≠1; decide) (by show (4:Int)≠5; decide),List.mem_singleton] at h
    rw [a]; exact h
theorem rz {x:T_Regex} (hC:Cn x) (b:Nat):dr x b=de∨lv x b (dr x b)∨∃ks,dr x b=⟨5,aA.zero 4,ks⟩∧ks=kF (yO x b):=by
  have gL:∀l,yO x b=l→dr x b=un l→dr x b=de∨lv x b (dr x b)∨∃ks,dr x b=⟨5,aA.zero 4,ks⟩∧ks=kF (yO x b):=by
    intro l hr hd
    have hm:∀a∈kF l,lv x b a:=fun a ha=>by
      obtain ⟨r,c,f⟩:=kE ha
      exact ⟨r,hr ▸ c,f⟩
    rw [hd,hr]
    unfold un
    generalize kF l=ks at hm
    match ks with
    | []=>exact .inl rfl
    | [y]=>exact .inr (.inl (hm y (by simp)))
    | y::z::ks=>exact .inr (.inr ⟨_,rfl,rfl⟩)
  have hcd:=tV b x hC
  by_cases c:(dr x b).Kind=1
  · exact .inl (hcd.none c)
  obtain ⟨k,s,l⟩:=x
  rcases ea k with rfl|rfl|rfl|rfl|rfl|⟨f,i,g,d,h6⟩
  · exact .inl (rA (by decide) (by decide) (by decide) (by decide))
  · have e:=@zz s l b
    cases hm:mem s b
    · rw [hm] at e; exact .inl e
    · rw [hm] at e
      refine .inr (.inl ⟨dr ⟨3,s,l⟩ b,by rw [tI (by show (3:Int)≠4; decide) (by show (3:Int)≠5; decide)]; simp,?_⟩)
      rw [e]; simp [lS,cL]
  · exact gL _ yN zy
  · exact gL _ Af zw
  · obtain ⟨s',y,e,hy⟩:=ij hC rfl
    cases e
    refine .inr (.inl ⟨dr ⟨6,s,[y]⟩ b,by rw [tI (by show (6:Int)≠4; decide) (by show (6:Int)≠5; decide)]; simp,?_⟩)
    have d:(dr ⟨6,s,[y]⟩ b).Kind≠5:=by
      rw [zv] at c ⊢
      have hn:ne [(⟨6,s,[y]⟩:T_Regex)]=[⟨6,s,[y]⟩]:=by unfold ne; rw [List.filter_cons,if_pos (by simp)]; rfl
      rcases fP (dr y b) [⟨6,s,[y]⟩] with h|⟨_,h⟩|⟨_,_,h⟩
      · exact absurd h c
      · rw [h,hn]; show (6:Int)≠5; decide
      · rw [h,hn]; show (4:Int)≠5; decide
    rw [gZ c d]; simp
  · exact .inl (rA i g d h6)
def kj:List Nat→List (List Nat)
  | []=>[]
  | a::v=>(a::v)::kj v
theorem tD (v:List Nat):(kj v).length=v.length:=by
  induction v with
  | nil=>rfl
  | cons a v ih=>simp [kj,ih]
theorem lB {v u:List Nat} (h:u∈kj v):u.length≤v.length:=by
  induction v with
  | nil=>cases h
  | cons a v ih=>
    rw [kj,List.mem_cons] at h
    rcases h with rfl|h
    · exact Nat.le_refl _
    · have:=ih h; simp only [List.length_cons]; omega
theorem nc {v u:List Nat} {b:Nat} (h:u∈kj v):u++[b]∈kj (v++[b]):=by
  induction v with
  | nil=>cases h
  | cons a v ih=>
    rw [kj,List.mem_cons] at h
    rw [List.cons_append,kj,List.mem_cons]
    rcases h with rfl|h
    · exact .inl rfl
    · exact .inr (ih h)
theorem kJ (v:List Nat) (b:Nat):[b]∈kj (v++[b]):=by
  induction v with
  | nil=>simp [kj]
  | cons a v ih=>rw [List.cons_append,kj]; exact List.mem_cons_of_mem _ ih
theorem en (x:T_Regex) (v:List Nat) (b:Nat):fO x (v++[b])=dr (fO x v) b:=by unfold fO; rw [List.foldl_append]; rfl
mutual
noncomputable def SS:T_Regex→List Nat→List T_Regex
  | ⟨k,s,l⟩,v=>bif k == 4 then SC l v else bif k == 5 then SU l v
    else bif k == 6 then ⟨k,s,l⟩::(kj v).map (fun u=>ct [fO (l.headD de) u,⟨k,s,l⟩]) else [⟨k,s,l⟩,de,cL]
noncomputable def SU:List T_Regex→List Nat→List T_Regex
  | [],_=>[]
  | y::l,v=>SS y v++SU l v
noncomputable def SC:List T_Regex→List Nat→List T_Regex
  | [],_=>[]
  | y::l,v=>(if ne l=[] then (kj v).flatMap (fun u=>SS y u) else (kj v).flatMap (fun u=>lS (ct (fO y u::l))))++SC l v
end
noncomputable def hd (y:T_Regex) (l:List T_Regex) (v:List Nat):List T_Regex:=
  if ne l=[] then (kj v).flatMap (fun u=>SS y u) else (kj v).flatMap (fun u=>lS (ct (fO y u::l)))
theorem pX {l:List T_Regex} {v:List Nat} {c:T_Regex}:c∈SU l v↔∃y∈l,c∈SS y v:=by
  induction l with
  | nil=>simp [SU]
  | cons y l ih=>simp [SU,ih]
theorem ku {l:List T_Regex} {v:List Nat} {c:T_Regex}:c∈SC l v↔∃pre y l',l=pre++y::l'∧c∈hd y l' v:=by
  induction l with
  | nil=>simp [SC]
  | cons y l ih=>
    rw [SC,List.mem_append,ih]
    constructor
    · rintro (h|⟨pre,z,l',rfl,h⟩)
      · exact ⟨[],y,l,rfl,h⟩
      · exact ⟨y::pre,z,l',rfl,h⟩
    · rintro ⟨pre,z,l',e,h⟩
      cases pre with
      | nil=>cases e; exact .inl h
      | cons p pre=>cases e; exact .inr ⟨pre,z,l',rfl,h⟩
theorem wU {s l v}:SS ⟨4,s,l⟩ v=SC l v:=by rw [SS]; rfl
theorem wT {s l v}:SS ⟨5,s,l⟩ v=SU l v:=by rw [SS]; rfl
theorem wS {s y v}:SS ⟨6,s,[y]⟩ v=⟨6,s,[y]⟩::(kj v).map (fun u=>ct [fO y u,⟨6,s,[y]⟩]):=by rw [SS]; rfl
theorem wV {k s l v} (h4:k≠4) (h5:k≠5) (h6:k≠6):SS ⟨k,s,l⟩ v=[⟨k,s,l⟩,de,cL]:=by rw [SS,bL h4,bL h5,bL h6]; rfl
theorem zA {l:List T_Regex} {b:Nat} {r:T_Regex} (h:r∈lk (ne l) b):∃pre y l',l=pre++y::l'∧r=ct (dr y b::l'):=by
  induction l with
  | nil=>cases h
  | cons y l ih=>
    unfold ne at h
    by_cases a:y.Kind=2
    · rw [List.filter_cons,if_neg (by simp [a])] at h
      obtain ⟨pre,z,l',rfl,rfl⟩:=ih h
      exact ⟨y::pre,z,l',rfl,rfl⟩
    · rw [List.filter_cons,if_pos (by simp [a]),lk,List.mem_cons] at h
      rcases h with h|h
      · exact ⟨[],y,l,rfl,h.trans (wq _ l)⟩
      · cases hn:nb y
        · rw [hn] at h; cases h
        · rw [hn] at h
          obtain ⟨pre,z,l',rfl,rfl⟩:=ih h
          exact ⟨y::pre,z,l',rfl,rfl⟩
theorem uD {l:List T_Regex} {z:T_Regex} (h:ne l=[z]):∃pre l',l=pre++z::l'∧ne l'=[]:=by
  induction l with
  | nil=>cases h
  | cons y l ih=>
    unfold ne at h
    by_cases a:y.Kind=2
    · rw [List.filter_cons,if_neg (by simp [a])] at h
      obtain ⟨pre,l',rfl,hn⟩:=ih h
      exact ⟨y::pre,l',rfl,hn⟩
    · rw [List.filter_cons,if_pos (by simp [a])] at h
      simp only [List.cons.injEq] at h
      obtain ⟨rfl,hn⟩:=h
      exact ⟨[],l,rfl,hn⟩
theorem lT {l:List T_Regex} {z:T_Regex} (h:z∈ne l):z∈l:=(List.mem_filter.1 h).1
def CC (x:T_Regex):Prop:=∀b a,(a=x∨a∈ua x)→∀c,lv a b c→c∈SS x [b]
def CL (x:T_Regex):Prop:=∀v b,∀a∈SS x v,∀c,lv a b c→c∈SS x (v++[b])
theorem C1 {l pre l':List T_Regex} {y:T_Regex} {b:Nat} {w:List Nat} {c:T_Regex} (hl:l=pre++y::l') (hB:CC y) (hC:Cn y) (hw:[b]∈kj w) (h:c∈lS (ct (dr y b::l'))):c∈SC l w:=by
  refine ku.2 ⟨pre,y,l',hl,?_⟩
  unfold hd
  split
  · rename_i hn
    refine List.mem_flatMap.2 ⟨[b],hw,?_⟩
    rw [←wq,hn,wp (tV b y hC)] at h
    exact hB b y (.inl rfl) c (nG h)
  · exact List.mem_flatMap.2 ⟨[b],hw,h⟩
theorem qe:∀x,Cn x→CC x∧CL x:=by
  refine T_Regex.ind fun k s l ih hC=>?_
  have hk:=hC.kids
  have ihB:∀y∈l,CC y:=fun y hy=>(ih y hy (hk y hy)).1
  have ihC:∀y∈l,CL y:=fun y hy=>(ih y hy (hk y hy)).2
  by_cases j:k=4
  · subst j
    have hself:∀a,(a=(⟨4,s,l⟩:T_Regex)∨a∈ua ⟨4,s,l⟩)→a=⟨4,s,l⟩:=by
      rintro a (h|h)
      · exact h
      · rwa [qC (by show (4:Int)≠1; decide) (by show (4:Int)≠5; decide),List.mem_singleton] at h
    refine ⟨fun b a ha c hc=>?_,fun v b a ha c hc=>?_⟩
    · obtain rfl:=hself a ha
      obtain ⟨r,hr,hc⟩:=hc
      obtain ⟨pre,y,l',rfl,rfl⟩:=pW hr
      rw [wU]
      exact C1 rfl (ihB y (by simp)) (hk y (by simp)) (kJ [] b) hc
    · rw [wU] at ha ⊢
      obtain ⟨pre,y,l',el,hb⟩:=ku.1 ha
      clear ha
      have ha:=hb
      clear hb
      subst el
      have hsub:∀i z l'',l'=i++z::l''→pre++y::l'=(pre++y::i)++z::l'':=by rintro i z l'' rfl; simp
      have hdC:∀r,r∈lk (ne l') b→c∈lS r→c∈SC (pre++y::l') (v++[b]):=by
        intro r hr hc
        obtain ⟨i,z,l'',e,rfl⟩:=zA hr
        exact C1 (hsub _ _ _ e) (ihB z (by simp [e])) (hk z (by simp [e])) (kJ v b) hc
      unfold hd at ha
      split at ha
      · rename_i hn
        obtain ⟨u,hu,ha⟩:=List.mem_flatMap.1 ha
        refine ku.2 ⟨pre,y,l',rfl,?_⟩
        unfold hd
        rw [if_pos hn]
        exact List.mem_flatMap.2 ⟨u++[b],nc hu,ihC y (by simp) u b a ha c hc⟩
      · rename_i hn
        obtain ⟨u,hu,ha⟩:=List.mem_flatMap.1 ha
        rcases fP (fO y u) l' with g|⟨_,d⟩|⟨_,_,d⟩
        · rw [oZ g] at ha; cases ha
        · rw [d] at ha
          cases hz:ne l' with
          | nil=>exact absurd hz hn
          | cons z m=>
            cases m with
            | nil=>
              rw [hz] at ha
              have hzl:z∈l':=lT (by rw [hz]; simp)
              obtain ⟨i,l'',e,t⟩:=uD hz
              refine ku.2 ⟨_,z,l'',hsub _ _ _ e,?_⟩
              unfold hd
              rw [if_pos t]
              exact List.mem_flatMap.2 ⟨[b],kJ v b,ihB z (by simp [hzl]) b a (.inr (pQ ha)) c hc⟩
            | cons z' m=>
              have e:wr 4 cL (ne l')=⟨4,aA.zero 4,ne l'⟩:=by rw [hz]; rfl
              rw [e,gZ (by show (4:Int)≠1; decide) (by show (4:Int)≠5; decide),List.mem_singleton] at ha
              subst ha
              obtain ⟨r,hr,hc⟩:=hc
              exact hdC r hr hc
        · rw [d] at ha
          have e:wr 4 cL (fO y u::ne l')=⟨4,aA.zero 4,fO y u::ne l'⟩:=by
            cases hz:ne l' with
            | nil=>exact absurd hz hn
            | cons z m=>rfl
          rw [e,gZ (by show (4:Int)≠1; decide) (by show (4:Int)≠5; decide),List.mem_singleton] at ha
          subst ha
          obtain ⟨r,hr,hc⟩:=hc
          rw [yN,lk,List.mem_cons] at hr
          rcases hr with rfl|hr
          · refine ku.2 ⟨pre,y,l',rfl,?_⟩
            unfold hd
            rw [if_neg hn]
            refine List.mem_flatMap.2 ⟨u++[b],nc hu,?_⟩
            rw [en,←wq]
            exact hc
          · cases hnb:nb (fO y u)
            · rw [hnb] at hr; cases hr
            · rw [hnb] at hr; exact hdC r hr hc
  · by_cases f:k=5
    · subst f
      refine ⟨fun b a ha c hc=>?_,fun v b a ha c hc=>?_⟩
      · rw [wT,pX]
        have ha:a=⟨5,s,l⟩∨a∈sh l:=by
          rcases ha with h|h
          · exact .inl h
          · rwa [ul,List.mem_cons] at h
        rcases ha with rfl|h
        · obtain ⟨r,hr,hc⟩:=hc
          obtain ⟨y,hy,rfl⟩:=mM.1 hr
          exact ⟨y,hy,ihB y hy b y (.inl rfl) c (nG hc)⟩
        · obtain ⟨y,hy,h⟩:=jB.1 h
          exact ⟨y,hy,ihB y hy b a (.inr h) c hc⟩
      · rw [wT,pX] at ha ⊢
        obtain ⟨y,hy,ha⟩:=ha
        exact ⟨y,hy,ihC y hy v b a ha c hc⟩
    · have hua:∀a,(a=(⟨k,s,l⟩:T_Regex)∨a∈ua ⟨k,s,l⟩)→a=⟨k,s,l⟩:=by
        rintro a (h|h)
        · exact h
        · by_cases g:k=1
          · subst g; rw [xn rfl] at h; cases h
          · rwa [qC g f,List.mem_singleton] at h
      by_cases h6:k=6
      · subst h6
        obtain ⟨s',y,e,hy⟩:=ij hC rfl
        cases e
        have hx:∀v b c,lv ⟨6,s,[y]⟩ b c→c∈SS ⟨6,s,[y]⟩ (v++[b]):=by
          intro v b c hc
          have:=nE (by show (6:Int)≠4; decide) (by show (6:Int)≠5; decide) hc
          rw [zv] at this
          rw [wS,qG rfl this]
          exact List.mem_cons_of_mem _ (List.mem_map.2 ⟨[b],kJ v b,rfl⟩)
        refine ⟨fun b a ha c hc=>by obtain rfl:=hua a ha; exact hx [] b c hc,fun v b a ha c hc=>?_⟩
        rw [wS,List.mem_cons] at ha
        rcases ha with rfl|ha
        · exact hx v b c hc
        · obtain ⟨u,hu,rfl⟩:=List.mem_map.1 ha
          have hn:ne [(⟨6,s,[y]⟩:T_Regex)]=[⟨6,s,[y]⟩]:=by unfold ne; rw [List.filter_cons,if_pos (by simp)]; rfl
          rcases fP (fO y u) [⟨6,s,[y]⟩] with g|⟨_,d⟩|⟨_,_,d⟩
          · exact absurd hc (sw g)
          · rw [d,hn] at hc
            exact hx v b c hc
          · rw [d,hn] at hc
            obtain ⟨r,hr,hc⟩:=hc
            have hr:r∈lk [fO y u,⟨6,s,[y]⟩] b:=hr
            rw [lk,List.mem_cons] at hr
            rcases hr with rfl|hr
            · rw [←en] at hc
              rw [wS,qG rfl hc]
              exact List.mem_cons_of_mem _ (List.mem_map.2 ⟨u++[b],nc hu,rfl⟩)
            · cases hnb:nb (fO y u)
              · rw [hnb] at hr; cases hr
              · rw [hnb,cond_true,lk,lk,show nb (⟨6,s,[y]⟩:T_Regex)=true from rfl,cond_true,List.mem_singleton,wp (tV b _ hC)] at hr
                subst hr
                exact hx v b c (nG hc)
      · have p:∀a b,(a=(⟨k,s,l⟩:T_Regex)∨a=de∨a=cL)→∀c,lv a b c→c=cL:=by
          intro a b ha c hc
          have n:dr a b=de∨dr a b=cL:=by
            rcases ha with rfl|rfl|rfl
            · by_cases q:k=3
              · subst q
                rw [zz]
                cases mem s b
                · exact .inl rfl
                · exact .inr rfl
              · exact .inl (rA q j f h6)
            · exact .inl (rA (by decide) (by decide) (by decide) (by decide))
            · exact .inl (rA (by decide) (by decide) (by decide) (by decide))
          have o:c∈lS (dr a b):=by
            rcases ha with rfl|rfl|rfl
            · exact nE j f hc
            · exact nE (by show (1:Int)≠4; decide) (by show (1:Int)≠5; decide) hc
            · exact nE (by show (2:Int)≠4; decide) (by show (2:Int)≠5; decide) hc
          rcases n with n|n
          · rw [n] at o; cases o
          · rw [n] at o
            exact List.mem_singleton.1 o
        refine ⟨fun b a ha c hc=>?_,fun v b a ha c hc=>?_⟩
        · rw [wV j f h6,p a b (.inl (hua a ha)) c hc]; simp
        · rw [wV j f h6] at ha ⊢
          rw [p a b (by simpa using ha) c hc]; simp
theorem ki (v:List Nat):v=[]∨∃u b,v=u++[b]:=by
  rcases List.eq_nil_or_concat v with h|⟨u,b,h⟩
  · exact .inl h
  · exact .inr ⟨u,b,by rw [h,List.concat_eq_append]⟩
theorem pL {x:T_Regex} (hC:Cn x):∀n v b,v.length=n→∀c,lv (fO x v) b c→c∈SS x (v++[b]):=by
  intro n
  induction n with
  | zero=>
    intro v b hv c hc
    obtain rfl:=List.eq_nil_of_length_eq_zero hv
    exact (qe x hC).1 b x (.inl rfl) c hc
  | succ n ih=>
    intro v b hv c hc
    rcases ki v with rfl|⟨u,d,rfl⟩
    · cases hv
    rw [List.length_append,List.length_singleton] at hv
    have hp:∀a∈lS (fO x (u++[d])),a∈SS x (u++[d]):=fun a ha=>by
      rw [en] at ha
      exact ih u d (by omega) a (nG ha)
    have hcl:=(qe x hC).2
    generalize fO x (u++[d])=y at hc hp
    by_cases g:y.Kind=1
    · exact absurd hc (sw g)
    · by_cases f:y.Kind=5
      · obtain ⟨k,s,l⟩:=y
        cases f
        obtain ⟨r,hr,hc⟩:=hc
        obtain ⟨a,ha,rfl⟩:=mM.1 hr
        have hc:=nG hc
        by_cases e:a.Kind=1
        · exact absurd hc (sw e)
        · exact hcl _ b a (hp a (jB.2 ⟨a,ha,tE e⟩)) c hc
      · exact hcl _ b y (hp y (by rw [gZ g f]; simp)) c hc
end Go.Proofs.YtlcdifnmkafcfaaGreat
namespace Go.Proofs.YtlcdifnmkafcfaaGreat
open Go.Lx
open Classical
theorem tO {l:List T_Regex} (h:∀y∈l,(ua y).length≤parts y):(sh l).length≤bp l:=by
  induction l with
  | nil=>simp [sh]
  | cons y l ih=>
    rw [sh,List.length_append,bp]
    have:=h y (by simp)
    have:=ih fun z hz=>h z (by simp [hz])
    omega
theorem zl:∀x,(ua x).length≤parts x:=by
  refine T_Regex.ind fun k s l ih=>?_
  have:=tO ih
  rw [parts]
  by_cases h1:k=1
  · rw [xn h1]; simp
  · by_cases h5:k=5
    · subst h5; rw [ul,List.length_cons]; omega
    · rw [qC h1 h5]; simp
theorem tP (x:T_Regex):(lS x).length≤parts x:=by
  by_cases h1:x.Kind=1
  · rw [oZ h1]; simp
  · by_cases h5:x.Kind=5
    · obtain ⟨k,s,l⟩:=x
      obtain rfl:k=5:=h5
      rw [Ap,parts]
      have:=tO (l:=l) fun y _=>zl y
      omega
    · rw [gZ h1 h5]; exact jx x
theorem vY {α β:Type} {l:List α} {f:α→List β} {K:Nat} (h:∀u∈l,(f u).length≤K):(l.flatMap f).length≤l.length*K:=by
  induction l with
  | nil=>simp
  | cons a l ih=>
    rw [List.flatMap_cons,List.length_append,List.length_cons,Nat.succ_mul]
    have:=h a (by simp)
    have:=ih fun u hu=>h u (by simp [hu])
    omega
theorem xi {e:T_Regex} {m:List T_Regex} {P:Nat} (he:parts e≤P) (h:∀z∈m,parts z≤P) (hP:1≤P):(lS (wr 4 e m)).length≤P:=by
  match m with
  | []=>exact Nat.le_trans (tP _) he
  | [z]=>exact Nat.le_trans (tP _) (h z (by simp))
  | y::z::m=>rw [show wr 4 e (y::z::m)=⟨4,aA.zero 4,y::z::m⟩ from rfl,gZ (by show (4:Int)≠1; decide) (by show (4:Int)≠5; decide)]; simpa using hP
theorem sB {E:T_Regex} {l:List T_Regex} {P:Nat} (hn:ne l≠[]) (h:∀z∈l,parts z≤P) (hP:1≤P):(lS (ct (E::l))).length≤P:=by
  rcases fP E l with b|⟨_,a⟩|⟨_,_,a⟩
  · rw [oZ b]; simp
  · rw [a]
    exact xi (by simp only [cL,parts,bp]; omega) (fun z hz=>h z (lT hz)) hP
  · rw [a]
    cases hz:ne l with
    | nil=>exact absurd hz hn
    | cons z m=>rw [show wr 4 cL (E::z::m)=⟨4,aA.zero 4,E::z::m⟩ from rfl,gZ (by show (4:Int)≠1; decide) (by show (4:Int)≠5; decide)]; simpa using hP
theorem pC {v:List Nat}:∀ {u w:List Nat},(u=v∨u∈kj v)→w∈kj u→w∈kj v:=by
  induction v with
  | nil=>
    rintro u w (rfl|h) hw
    · exact hw
    · cases h
  | cons a v ih=>
    rintro u w (rfl|h) hw
    · exact hw
    · rw [kj,List.mem_cons] at h
      rcases h with rfl|h
      · exact hw
      · exact List.mem_cons_of_mem _ (ih (.inr h) hw)
def NB (S:List T_Regex):Prop:=∀ks:List T_Regex,ks.Nodup→(∀c∈ks,c∈S)→ks.length≤big
theorem zM {P M:Nat} (hP:3≤P) (hM:1≤M):∀x,parts x≤P→∀v,v.length≤M→∃T:List T_Regex,T.length≤P*parts x*(M+1)∧∀u,(u=v∨u∈kj v)→∀c∈SS x u,c∈T:=by
  refine T_Regex.ind fun k s l ih hp v hv=>?_
  have hpl:bp l+1≤P:=hp
  have hk:∀y∈l,parts y≤P:=fun y hy=>by have:=dK hy; omega
  have j:1≤parts (⟨k,s,l⟩:T_Regex):=jx _
  have hPM:P*(M+1)≤P*parts (⟨k,s,l⟩:T_Regex)*(M+1):=Nat.mul_le_mul_right _ (Nat.le_mul_of_pos_right P j)
  have o:3*(M+1)≤P*(M+1):=Nat.mul_le_mul_right _ hP
  have top:P*bp l*(M+1)≤P*parts (⟨k,s,l⟩:T_Regex)*(M+1):=Nat.mul_le_mul_right _ (Nat.mul_le_mul_left P (by show bp l≤bp l+1; omega))
  by_cases i:k=4
  · subst i
    have gL:∀m:List T_Regex,(∀y∈m,y∈l)→∃T:List T_Regex,T.length≤P*bp m*(M+1)∧∀u,(u=v∨u∈kj v)→∀c∈SC m u,c∈T:=by
      intro m
      induction m with
      | nil=>exact fun _=>⟨[],Nat.zero_le _,fun u _ c hc=>by simp [SC] at hc⟩
      | cons y m ihm=>
        intro hm
        obtain ⟨T,d,a⟩:=ihm fun z hz=>hm z (by simp [hz])
        have hy:=hk y (hm y (by simp))
        have:∃T:List T_Regex,T.length≤P*parts y*(M+1)∧∀u,(u=v∨u∈kj v)→∀c∈hd y m u,c∈T:=by
          by_cases hn:ne m=[]
          · obtain ⟨T,e,b⟩:=ih y (hm y (by simp)) hy v hv
            refine ⟨T,e,fun u hu c hc=>?_⟩
            unfold hd at hc
            rw [if_pos hn] at hc
            obtain ⟨w,hw,hc⟩:=List.mem_flatMap.1 hc
            exact b w (.inr (pC hu hw)) c hc
          · refine ⟨(kj v).flatMap (fun u=>lS (ct (fO y u::m))),?_,fun u hu c hc=>?_⟩
            · have:=vY (K:=P) (l:=kj v) (f:=fun u=>lS (ct (fO y u::m))) fun u _=>sB hn (fun z hz=>hk z (hm z (by simp [hz]))) (by omega)
              rw [tD] at this
              refine Nat.le_trans this ?_
              have n:v.length*P≤(M+1)*P:=Nat.mul_le_mul_right _ (by omega)
              have p:P*(M+1)≤P*parts y*(M+1):=Nat.mul_le_mul_right _ (Nat.le_mul_of_pos_right P (jx y))
              rw [Nat.mul_comm (M+1)] at n
              omega
            · unfold hd at hc
              rw [if_neg hn] at hc
              obtain ⟨w,hw,hc⟩:=List.mem_flatMap.1 hc
              exact List.mem_flatMap.2 ⟨w,pC hu hw,hc⟩
        obtain ⟨T',e,b⟩:=this
        refine ⟨T'++T,?_,fun u hu c hc=>?_⟩
        · rw [List.length_append,bp,Nat.mul_add P (parts y),Nat.add_mul]; omega
        · rcases List.mem_append.1 (show c∈hd y m u++SC m u from hc) with hc|hc
          · exact List.mem_append_left _ (b u hu c hc)
          · exact List.mem_append_right _ (a u hu c hc)
    obtain ⟨T,d,a⟩:=gL l fun _ h=>h
    exact ⟨T,by omega,fun u hu c hc=>a u hu c (by rwa [wU] at hc)⟩
  · by_cases g:k=5
    · subst g
      have gL:∀m:List T_Regex,(∀y∈m,y∈l)→∃T:List T_Regex,T.length≤P*bp m*(M+1)∧∀u,(u=v∨u∈kj v)→∀c∈SU m u,c∈T:=by
        intro m
        induction m with
        | nil=>exact fun _=>⟨[],Nat.zero_le _,fun u _ c hc=>by simp [SU] at hc⟩
        | cons y m ihm=>
          intro hm
          obtain ⟨T,d,a⟩:=ihm fun z hz=>hm z (by simp [hz])
          obtain ⟨T',e,b⟩:=ih y (hm y (by simp)) (hk y (hm y (by simp))) v hv
          refine ⟨T'++T,?_,fun u hu c hc=>?_⟩
          · rw [List.length_append,bp,Nat.mul_add P (parts y),Nat.add_mul]; omega
          · rw [SU] at hc
            rcases List.mem_append.1 hc with hc|hc
            · exact List.mem_append_left _ (b u hu c hc)
            · exact List.mem_append_right _ (a u hu c hc)
      obtain ⟨T,d,a⟩:=gL l fun _ h=>h
      exact ⟨T,by omega,fun u hu c hc=>a u hu c (by rwa [wT] at hc)⟩
    · by_cases h6:k=6
      · subst h6
        refine ⟨⟨6,s,l⟩::(kj v).map (fun u=>ct [fO (l.headD de) u,⟨6,s,l⟩]),?_,fun u hu c hc=>?_⟩
        · rw [List.length_cons,List.length_map,tD]; omega
        · rw [SS] at hc
          have hc:c∈⟨6,s,l⟩::(kj u).map (fun u=>ct [fO (l.headD de) u,⟨6,s,l⟩]):=hc
          rw [List.mem_cons] at hc ⊢
          rcases hc with hc|hc
          · exact .inl hc
          · obtain ⟨w,hw,rfl⟩:=List.mem_map.1 hc
            exact .inr (List.mem_map.2 ⟨w,pC hu hw,rfl⟩)
      · refine ⟨[⟨k,s,l⟩,de,cL],?_,fun u _ c hc=>by rwa [wV i g h6] at hc⟩
        simp only [List.length_cons,List.length_nil]; omega
theorem rq {k:Int} {l:List T_Regex} (hk:k=4∨k=5) (hl:l.length≤big) (h:∀y∈l,Fit y):Fit ⟨k,aA.zero 4,l⟩:=
  .mk _ eP hl (fun e=>by simp only at e; omega) (fun e=>by simp only at e; omega) (fun e=>by simp only at e; omega) h
theorem nW {l:List T_Regex} {h:Nat} (hh:∀y∈l,height y≤h):bK l≤h:=by
  induction l with
  | nil=>simp [bK]
  | cons y l ih=>
    have:=hh y (by simp)
    have:=ih fun z hz=>hh z (by simp [hz])
    simp only [bK]; omega
theorem zp {k:Int} {e:T_Regex} {l:List T_Regex} {h:Nat} (hk:k=4∨k=5) (hl:l.length≤big) (he:Fit e∧height e≤h+1) (hy:∀y∈l,Fit y∧height y≤h) :
    Fit (wr k e l)∧height (wr k e l)≤h+1:=by
  match l with
  | []=>exact he
  | [y]=>exact ⟨(hy y (by simp)).1,by have:=(hy y (by simp)).2; simp only [wr]; omega⟩
  | y::z::l=>
    refine ⟨rq hk hl fun y h=>(hy y h).1,?_⟩
    have:=nW fun y h=>(hy y h).2
    simp only [wr,height]; omega
theorem mh:height de=1:=by simp [de,height,bK]
theorem lh:height cL=1:=by simp [cL,height,bK]
theorem sX {l:List T_Regex} {h:Nat} (hl:l.length≤big) (hy:∀y∈l,Fit y∧height y≤h):Fit (ct l)∧height (ct l)≤h+1:=by
  unfold ct
  split
  · rename_i e he
    have:=hy e (List.mem_of_find?_eq_some he)
    exact ⟨this.1,by omega⟩
  · exact zp (.inl rfl) (Nat.le_trans (List.length_filter_le _ _) hl) ⟨jG,by rw [lh]; omega⟩ fun y h=>hy y (lT h)
theorem wg {a:T_Regex} {b h:Nat} {S:List T_Regex} (hC:Cn a) (hS:∀c,lv a b c→c∈S) (hF:∀c∈S,Fit c∧height c≤h) (hl:NB S):Fit (dr a b)∧height (dr a b)≤h+1:=by
  rcases rz hC b with e|e|⟨ks,e,hks⟩
  · rw [e,mh]; exact ⟨ic,by omega⟩
  · have:=hF _ (hS _ e)
    exact ⟨this.1,by omega⟩
  · have hm:∀c∈ks,c∈S:=fun c hc=>by
      rw [hks] at hc
      obtain ⟨r,f,d⟩:=kE hc
      exact hS c ⟨r,f,d⟩
    rw [e]
    refine ⟨rq (.inr rfl) (hl _ (by rw [hks]; exact jy _) hm) fun y hy=>(hF y (hm y hy)).1,?_⟩
    have:=nW fun y hy=>(hF y (hm y hy)).2
    simp only [height]; omega
theorem xV {l:List T_Regex} (h:∀y∈l,∀a∈ua y,Fit a∧height a≤height y):∀a∈sh l,Fit a∧height a≤bK l:=by
  intro a ha
  obtain ⟨y,hy,ha⟩:=jB.1 ha
  have h1:=h y hy a ha
  have:=ey hy
  exact ⟨h1.1,by omega⟩
theorem zq:∀x,Fit x→∀a∈ua x,Fit a∧height a≤height x:=by
  refine T_Regex.ind fun k s l ih hF a ha=>?_
  by_cases c:k=1
  · rw [xn c] at ha; cases ha
  · by_cases b:k=5
    · subst b
      rw [ul,List.mem_cons] at ha
      rcases ha with rfl|ha
      · exact ⟨hF,Nat.le_refl _⟩
      · have:=xV (fun y hy=>ih y hy (hF.kids y hy)) a ha
        exact ⟨this.1,by simp only [height]; omega⟩
    · rw [qC c b,List.mem_singleton] at ha
      subst ha
      exact ⟨hF,Nat.le_refl _⟩
theorem By {m:List T_Regex} {s:aA 4} (hm:m.length≤big) (hz:∀z∈m,Fit z∧height z≤3000∧Gd z∧∀b,Fit (dr z b)∧height (dr z b)≤3000)
    (S:Nat→List T_Regex) (hS:∀b c,lv ⟨4,s,m⟩ b c→c∈S b) (hl:∀b,NB (S b)):Gd ⟨4,s,m⟩:=by
  refine uN (fun y hy=>⟨⟨(hz y hy).1,by have:=(hz y hy).2.1; unfold aU; omega⟩,(hz y hy).2.2.1⟩) hm fun b _=>⟨?_,fun r hr=>?_⟩
  · refine hl b _ (jy _) fun c hc=>?_
    obtain ⟨r,d,a⟩:=kE hc
    exact hS b c ⟨r,d,a⟩
  · obtain ⟨pre,y,l',e,rfl⟩:=pW hr
    have hy:y∈m:=by rw [e]; simp
    have hl':∀z∈l',z∈m:=fun z hz=>by rw [e]; simp [hz]
    have:=sX (l:=dr y b::l') (h:=3000) (by rw [e,List.length_append,List.length_cons] at hm; rw [List.length_cons]; omega) (fun z hz'=>by
      rcases List.mem_cons.1 hz' with rfl|h
      · exact (hz y hy).2.2.2 b
      · exact ⟨(hz z (hl' z h)).1,(hz z (hl' z h)).2.1⟩)
    exact ⟨this.1,by unfold aU; omega⟩
theorem CH {m:List T_Regex} {s:aA 4} (hm:m.length≤big) (hz:∀z∈m,Gd z∧∀b,Fit (dr z b)∧height (dr z b)≤3000)
    (S:Nat→List T_Regex) (hS:∀b c,lv ⟨5,s,m⟩ b c→c∈S b) (hl:∀b,NB (S b)):Gd ⟨5,s,m⟩:=by
  refine wc (fun y hy=>(hz y hy).1) hm fun b _=>⟨?_,fun r hr=>?_⟩
  · refine hl b _ (jy _) fun c hc=>?_
    obtain ⟨r,d,a⟩:=kE hc
    exact hS b c ⟨r,d,a⟩
  · obtain ⟨y,hy,rfl⟩:=mM.1 hr
    have:=(hz y hy).2 b
    exact ⟨this.1,by unfold aU; omega⟩
section
variable {P M H:Nat} (hP:3≤P) (hM:1≤M) (hB:P*P*(M+1)≤big) (hH:H≤1000)
include hP hM hB
theorem iA {x:T_Regex} (hp:parts x≤P) (hh:height x≤H) {v:List Nat} (hv:v.length≤M):NB (SS x v):=fun ks hn hm=>by
  obtain ⟨T,t1,t2⟩:=zM hP hM x hp v hv
  have h1:=uB hn fun c hc=>t2 v (.inl rfl) c (hm c hc)
  have h2:P*parts x*(M+1)≤P*P*(M+1):=Nat.mul_le_mul_right _ (Nat.mul_le_mul_left P hp)
  omega
theorem mP:∀x,Fit x→parts x≤P→height x≤H→(∀v,v.length≤M→∀a∈SS x v,Fit a∧height a≤2*height x)∧(∀v,v.length≤M→Fit (fO x v)∧height (fO x v)≤2*height x+1):=by
  refine T_Regex.ind fun k s l ih hF hp hh=>?_
  have hpl:bp l+1≤P:=hp
  have hhl:bK l+1≤H:=hh
  have hx:height (⟨k,s,l⟩:T_Regex)=bK l+1:=rfl
  have hky:∀y∈l,Fit y∧parts y≤P∧height y≤H∧height y≤bK l:=fun y hy=>⟨hF.kids y hy,by have:=dK hy; omega,by have:=ey hy; omega,ey hy⟩
  have ihk:=fun y hy=>ih y hy (hky y hy).1 (hky y hy).2.1 (hky y hy).2.2.1
  have hlb:l.length≤big:=hF.len
  have first:∀v,v.length≤M→∀a∈SS (⟨k,s,l⟩:T_Regex) v,Fit a∧height a≤2*height (⟨k,s,l⟩:T_Regex):=by
    intro v hv a ha
    by_cases d:k=4
    · subst d
      rw [wU] at ha
      obtain ⟨pre,y,l',el,ha⟩:=ku.1 ha
      have hyl:y∈l:=by rw [el]; simp
      have hl':∀z∈l',z∈l:=fun z hz=>by rw [el]; simp [hz]
      have hle:l'.length+1≤big:=by
        rw [el,List.length_append,List.length_cons] at hlb; omega
      unfold hd at ha
      split at ha
      · obtain ⟨u,hu,ha⟩:=List.mem_flatMap.1 ha
        have:=(ihk y hyl).1 u (Nat.le_trans (lB hu) hv) a ha
        exact ⟨this.1,by have:=(hky y hyl).2.2.2; omega⟩
      · obtain ⟨u,hu,ha⟩:=List.mem_flatMap.1 ha
        have hE:=(ihk y hyl).2 u (Nat.le_trans (lB hu) hv)
        have hct:=sX (l:=fO y u::l') (h:=2*bK l+1) (by rw [List.length_cons]; exact hle) (fun z hz=>by
          rcases List.mem_cons.1 hz with rfl|hz
          · exact ⟨hE.1,by have:=(hky y hyl).2.2.2; omega⟩
          · exact ⟨(hky z (hl' z hz)).1,by have:=(hky z (hl' z hz)).2.2.2; omega⟩)
        have:=zq _ hct.1 a (pQ ha)
        exact ⟨this.1,by omega⟩
    · by_cases c:k=5
      · subst c
        rw [wT,pX] at ha
        obtain ⟨y,hy,ha⟩:=ha
        have:=(ihk y hy).1 v hv a ha
        exact ⟨this.1,by have:=(hky y hy).2.2.2; omega⟩
      · by_cases h6:k=6
        · subst h6
          obtain ⟨s',y,e,hy⟩:=ij hF.cn rfl
          cases e
          rw [wS,List.mem_cons] at ha
          rcases ha with rfl|ha
          · exact ⟨hF,by omega⟩
          · obtain ⟨u,hu,rfl⟩:=List.mem_map.1 ha
            have hE:=(ihk y (by simp)).2 u (Nat.le_trans (lB hu) hv)
            have hct:=sX (l:=[fO y u,⟨6,s,[y]⟩]) (h:=2*bK [y]+1) (by show 2≤big; decide) (fun z hz=>by
              rcases List.mem_cons.1 hz with rfl|hz
              · exact ⟨hE.1,by have:=(hky y (by simp)).2.2.2; omega⟩
              · rw [List.mem_singleton.1 hz]; exact ⟨hF,by omega⟩)
            exact ⟨hct.1,by omega⟩
        · rw [wV d c h6] at ha
          simp only [List.mem_cons,List.not_mem_nil,or_false] at ha
          rcases ha with rfl|rfl|rfl
          · exact ⟨hF,by omega⟩
          · exact ⟨ic,by rw [mh]; omega⟩
          · exact ⟨jG,by rw [lh]; omega⟩
  refine ⟨first,fun v hv=>?_⟩
  rcases ki v with rfl|⟨u,b,rfl⟩
  · exact ⟨hF,by show height (⟨k,s,l⟩:T_Regex)≤_; omega⟩
  · rw [en]
    exact wg (wt u _ hF.cn) (pL hF.cn _ u b rfl) (first _ hv) (iA hP hM hB hp hh hv)
include hH
theorem zn:∀x,Fit x→parts x≤P→height x≤H→(∀a,(a=x∨a∈ua x)→Gd a)∧(∀v,v.length<M→∀a∈SS x v,Gd a)∧(∀v,v.length<M→Gd (fO x v)):=by
  refine T_Regex.ind fun k s l ih hF hp hh=>?_
  have hpl:bp l+1≤P:=hp
  have hhl:bK l+1≤H:=hh
  have hx:height (⟨k,s,l⟩:T_Regex)=bK l+1:=rfl
  have hky:∀y∈l,Fit y∧parts y≤P∧height y≤H∧height y≤bK l:=fun y hy=>⟨hF.kids y hy,by have:=dK hy; omega,by have:=ey hy; omega,ey hy⟩
  have ihk:=fun y hy=>ih y hy (hky y hy).1 (hky y hy).2.1 (hky y hy).2.2.1
  have fit:=fun y hy=>mP hP hM hB y (hky y hy).1 (hky y hy).2.1 (hky y hy).2.2.1
  have fitx:=mP hP hM hB _ hF hp hh
  have hlb:l.length≤big:=hF.len
  have hcl:=qe _ hF.cn
  have hdrk:∀y∈l,∀b,Fit (dr y b)∧height (dr y b)≤3000:=fun y hy b=>by
    have:=(fit y hy).2 [b] hM
    exact ⟨this.1,Nat.le_trans this.2 (by have:=(hky y hy).2.2.2; omega)⟩
  have o:∀y∈l,Fit y∧height y≤3000∧Gd y∧∀b,Fit (dr y b)∧height (dr y b)≤3000:=fun y hy=>
    ⟨(hky y hy).1,by have:=(hky y hy).2.2.2; omega,(ihk y hy).1 y (.inl rfl),hdrk y hy⟩
  have self:∀a,(a=(⟨k,s,l⟩:T_Regex)∨a∈ua ⟨k,s,l⟩)→Gd a:=by
    intro a ha
    by_cases i:k=5
    · subst i
      have ha:a=⟨5,s,l⟩∨a∈sh l:=by
        rcases ha with h|h
        · exact .inl h
        · rwa [ul,List.mem_cons] at h
      rcases ha with rfl|ha
      · exact CH hlb (fun y hy=>⟨(o y hy).2.2.1,hdrk y hy⟩) (fun b=>SS ⟨5,s,l⟩ [b]) (fun b=>hcl.1 b _ (.inl rfl)) fun b=>iA hP hM hB hp hh hM
      · obtain ⟨y,hy,ha⟩:=jB.1 ha
        exact (ihk y hy).1 a (.inr ha)
    · have ha:a=⟨k,s,l⟩:=by
        rcases ha with h|h
        · exact h
        · by_cases g:k=1
          · subst g; rw [xn rfl] at h; cases h
          · rwa [qC g i,List.mem_singleton] at h
      subst ha
      by_cases j:k=4
      · subst j
        exact By hlb o (fun b=>SS ⟨4,s,l⟩ [b]) (fun b=>hcl.1 b _ (.inl rfl)) fun b=>iA hP hM hB hp hh hM
      · by_cases h6:k=6
        · subst h6
          obtain ⟨s',y,e,hy⟩:=ij hF.cn rfl
          cases e
          exact xT ((ihk y (by simp)).1 y (.inl rfl))
        · exact jm hF j i h6
  have mid:∀v,v.length<M→∀a∈SS (⟨k,s,l⟩:T_Regex) v,Gd a:=by
    intro v hv a ha
    have hlen:∀b,(v++[b]).length≤M:=fun b=>by rw [List.length_append,List.length_singleton]; omega
    have hcC:=fun b=>hcl.2 v b a ha
    by_cases j:k=4
    · subst j
      have t:=ha
      rw [wU] at ha
      obtain ⟨pre,y,l',el,hb⟩:=ku.1 ha
      have hyl:y∈l:=by rw [el]; simp
      have hl':∀z∈l',z∈l:=fun z hz=>by rw [el]; simp [hz]
      have hle:l'.length+1≤big:=by
        rw [el,List.length_append,List.length_cons] at hlb; omega
      unfold hd at hb
      split at hb
      · obtain ⟨u,hu,hb⟩:=List.mem_flatMap.1 hb
        exact (ihk y hyl).2.1 u (Nat.lt_of_le_of_lt (lB hu) hv) a hb
      · rename_i hn
        obtain ⟨u,hu,hb⟩:=List.mem_flatMap.1 hb
        have hul:u.length<M:=Nat.lt_of_le_of_lt (lB hu) hv
        have hnl:(ne l').length≤l'.length:=List.length_filter_le _ _
        rcases fP (fO y u) l' with g|⟨_,f⟩|⟨_,_,f⟩
        · rw [oZ g] at hb; cases hb
        · rw [f] at hb
          cases hz:ne l' with
          | nil=>exact absurd hz hn
          | cons z m=>
            cases m with
            | nil=>
              rw [hz] at hb
              exact (ihk z (hl' z (lT (by rw [hz]; simp)))).1 a (.inr (pQ hb))
            | cons z' m=>
              have e:wr 4 cL (ne l')=⟨4,aA.zero 4,ne l'⟩:=by rw [hz]; rfl
              rw [e,gZ (by show (4:Int)≠1; decide) (by show (4:Int)≠5; decide),List.mem_singleton] at hb
              subst hb
              exact By (by omega) (fun z hz=>o z (hl' z (lT hz))) (fun b=>SS ⟨4,s,l⟩ (v++[b])) hcC fun b=>iA hP hM hB hp hh (hlen b)
        · rw [f] at hb
          have e:wr 4 cL (fO y u::ne l')=⟨4,aA.zero 4,fO y u::ne l'⟩:=by
            cases hz:ne l' with
            | nil=>exact absurd hz hn
            | cons z m=>rfl
          rw [e,gZ (by show (4:Int)≠1; decide) (by show (4:Int)≠5; decide),List.mem_singleton] at hb
          subst hb
          refine By (by rw [List.length_cons]; omega) (fun z hz=>?_) (fun b=>SS ⟨4,s,l⟩ (v++[b])) hcC fun b=>iA hP hM hB hp hh (hlen b)
          rcases List.mem_cons.1 hz with rfl|hz
          · have p:=(fit y hyl).2 u (Nat.le_of_lt hul)
            have hyh:=(hky y hyl).2.2.2
            refine ⟨p.1,by omega,(ihk y hyl).2.2 u hul,fun b=>?_⟩
            have n:=(fit y hyl).2 (u++[b]) (by rw [List.length_append,List.length_singleton]; omega)
            rw [en] at n
            exact ⟨n.1,by omega⟩
          · exact o z (hl' z (lT hz))
    · by_cases i:k=5
      · subst i
        rw [wT,pX] at ha
        obtain ⟨y,hy,ha⟩:=ha
        exact (ihk y hy).2.1 v hv a ha
      · by_cases h6:k=6
        · subst h6
          obtain ⟨s',y,e,hy⟩:=ij hF.cn rfl
          cases e
          have t:=ha
          rw [wS,List.mem_cons] at ha
          rcases ha with rfl|ha
          · exact self _ (.inl rfl)
          · obtain ⟨u,hu,rfl⟩:=List.mem_map.1 ha
            have hul:u.length<M:=Nat.lt_of_le_of_lt (lB hu) hv
            have hn:ne [(⟨6,s,[y]⟩:T_Regex)]=[⟨6,s,[y]⟩]:=by unfold ne; rw [List.filter_cons,if_pos (by simp)]; rfl
            have p:=(fit y (by simp)).2 u (Nat.le_of_lt hul)
            have hyh:=(hky y (by simp)).2.2.2
            rcases fP (fO y u) [⟨6,s,[y]⟩] with g|⟨_,f⟩|⟨_,_,f⟩
            · have hcn:Cn (ct [fO y u,⟨6,s,[y]⟩]):=wu fun z hz=>by
                rcases List.mem_cons.1 hz with rfl|hz
                · exact p.1.cn
                · rw [List.mem_singleton.1 hz]; exact hF.cn
              rw [hcn.none g]
              exact jm ic (by decide) (by decide) (by decide)
            · rw [f,hn]
              exact self _ (.inl rfl)
            · rw [f,hn] at hcC ⊢
              refine By (by show 2≤big; decide) (fun z hz=>?_) (fun b=>SS ⟨6,s,[y]⟩ (v++[b])) hcC fun b=>iA hP hM hB hp hh (hlen b)
              rcases List.mem_cons.1 hz with rfl|hz
              · refine ⟨p.1,by omega,(ihk y (by simp)).2.2 u hul,fun b=>?_⟩
                have n:=(fit y (by simp)).2 (u++[b]) (by rw [List.length_append,List.length_singleton]; omega)
                rw [en] at n
                exact ⟨n.1,by omega⟩
              · rw [List.mem_singleton.1 hz]
                refine ⟨hF,by omega,self _ (.inl rfl),fun b=>?_⟩
                have:=fitx.2 [b] hM
                exact ⟨this.1,Nat.le_trans this.2 (by omega)⟩
        · rw [wV j i h6] at ha
          simp only [List.mem_cons,List.not_mem_nil,or_false] at ha
          rcases ha with rfl|rfl|rfl
          · exact self _ (.inl rfl)
          · exact jm ic (by decide) (by decide) (by decide)
          · exact jm jG (by decide) (by decide) (by decide)
  refine ⟨self,mid,fun v hv=>?_⟩
  rcases ki v with rfl|⟨u,b,rfl⟩
  · exact self _ (.inl rfl)
  · have q:=pL hF.cn _ u b rfl
    rcases rz (wt u _ hF.cn) b with e|e|⟨ks,e,hks⟩
    · rw [en,e]; exact jm ic (by decide) (by decide) (by decide)
    · rw [en]; exact mid _ hv _ (q _ e)
    · have hm:∀c∈ks,c∈SS (⟨k,s,l⟩:T_Regex) (u++[b]):=fun c hc=>by
        rw [hks] at hc
        obtain ⟨r,g,f⟩:=kE hc
        exact q c ⟨r,g,f⟩
      have hsl:=iA hP hM hB hp hh (x:=⟨k,s,l⟩) (Nat.le_of_lt hv)
      have hlen:∀d,(u++[b]++[d]).length≤M:=fun d=>by rw [List.length_append,List.length_singleton]; omega
      have hrd:=fun d=>pL hF.cn _ (u++[b]) d rfl
      rw [en,e] at hrd ⊢
      refine CH (hsl _ (by rw [hks]; exact jy _) hm) (fun z hz=>⟨mid _ hv z (hm z hz),fun d=>?_⟩) (fun d=>SS ⟨k,s,l⟩ (u++[b]++[d])) hrd
        fun d=>iA hP hM hB hp hh (hlen d)
      have fz:=fitx.1 _ (Nat.le_of_lt hv) z (hm z hz)
      have:=wg fz.1.cn (hcl.2 _ d z (hm z hz)) (fitx.1 _ (hlen d)) (iA hP hM hB hp hh (hlen d))
      exact ⟨this.1,by omega⟩
end
end Go.Proofs.YtlcdifnmkafcfaaGreat
namespace Go.Proofs.YtlcdifnmkafcfaaGreat
open Go.Lx
open Classical
def ix (l:List Bool) (j:Nat):Bool:=l.getD j false
theorem jj {l:List Bool} {j:Nat} (h:j<l.length):bq l (j:Int)=some (ix l j):=by
  rw [bi h]; simp [ix,List.getD_eq_getElem?_getD,h]
theorem lX {l:List Bool} {k j:Nat} {v:Bool} (h:k<l.length):ix (l.set k v) j=if j=k then v else ix l j:=by
  unfold ix
  simp only [List.getD_eq_getElem?_getD,List.getElem?_set]
  by_cases e:k=j
  · subst e; simp [h]
  · rw [if_neg e,if_neg (fun h=>e h.symm)]
theorem pY (n j:Nat):ix (List.replicate n false) j=false:=by
  unfold ix
  simp only [List.getD_eq_getElem?_getD,List.getElem?_replicate]
  split <;> rfl
def mG (p:Nat→Bool):Nat→Nat
  | 0=>0
  | n+1=>mG p n+(bif p n then 0 else 1)
theorem tU {p q:Nat→Bool} {n:Nat} (h:∀j,j<n→p j=true→q j=true):mG q n≤mG p n:=by
  induction n with
  | zero=>exact Nat.le_refl _
  | succ n ih=>
    have h1:=ih fun j hj=>h j (by omega)
    have h2:=h n (by omega)
    simp only [mG]
    cases hp:p n
    · cases q n <;> simp <;> omega
    · rw [h2 hp]; simpa using h1
theorem ye {p q:Nat→Bool} {n:Nat} (h:∀j,j<n→p j=true→q j=true) {i:Nat} (hi:i<n) (hp:p i=false) (hq:q i=true):mG q n<mG p n:=by
  induction n with
  | zero=>omega
  | succ n ih=>
    have a:=h n (by omega)
    simp only [mG]
    by_cases e:i=n
    · subst e
      have:=tU (p:=p) (q:=q) (n:=i) fun j hj=>h j (by omega)
      rw [hp,hq]; simp; omega
    · have b:=ih (fun j hj=>h j (by omega)) (by omega)
      cases hpn:p n
      · cases q n <;> simp <;> omega
      · rw [a hpn]; simpa using b
theorem tc (p:Nat→Bool) (n:Nat):mG p n≤n:=by
  induction n with
  | zero=>exact Nat.le_refl _
  | succ n ih=>simp only [mG]; cases p n <;> simp <;> omega
def lC (w:List Nat) (i j:Nat):List Nat:=(w.take j).drop i
theorem ju {w:List Nat} {i j:Nat} (hij:i≤j) (hj:j≤w.length) (P Q:List Nat→Prop) :
    (∃u v,lC w i j=u++v∧P u∧Q v)↔∃m,i≤m∧m≤j∧P (lC w i m)∧Q (lC w m j):=by
  have cut:∀m,i≤m→m≤j→lC w i j=lC w i m++lC w m j:=by
    intro m b a
    unfold lC
    have e:w.take j=w.take m++(w.take j).drop m:=by
      have:=List.take_append_drop m (w.take j)
      rw [List.take_take,Nat.min_eq_left a] at this
      exact this.symm
    have hl:(w.take m).length=m:=by rw [List.length_take]; omega
    conv=>lhs; rw [e]
    rw [List.drop_append,hl,Nat.sub_eq_zero_of_le b,List.drop_zero]
  constructor
  · rintro ⟨u,v,h,hu,hv⟩
    have hlen:(lC w i j).length=j - i:=by unfold lC; rw [List.length_drop,List.length_take]; omega
    have hl:=congrArg List.length h
    rw [List.length_append,hlen] at hl
    have a:=cut (i+u.length) (by omega) (by omega)
    have hlu:(lC w i (i+u.length)).length=u.length:=by unfold lC; rw [List.length_drop,List.length_take]; omega
    rw [h] at a
    obtain ⟨d,c⟩:=List.append_inj a hlu.symm
    exact ⟨i+u.length,by omega,by omega,d ▸ hu,c ▸ hv⟩
  · rintro ⟨m,b,a,hp,hq⟩
    exact ⟨_,_,cut m b a,hp,hq⟩
theorem nf (w:List Nat) (i:Nat):lC w i i=[]:=by
  unfold lC
  exact List.drop_eq_nil_of_le (by rw [List.length_take]; omega)
theorem tG {w:List Nat} {i j:Nat} (hij:i≤j) (hj:j≤w.length):lC w i j=[]↔i=j:=by
  constructor
  · intro h
    have:=congrArg List.length h
    unfold lC at this
    rw [List.length_drop,List.length_take,List.length_nil] at this
    omega
  · rintro rfl; exact nf w i
theorem tF {w:List Nat} {i j b:Nat} (hij:i≤j) (hj:j≤w.length):lC w i j=[b]↔j=i+1∧w[i]?=some b:=by
  have a:i<w.length→lC w i (i+1)=[w[i]?.getD 0]:=by
    intro h
    unfold lC
    rw [List.take_add_one,List.drop_append,List.length_take,Nat.min_eq_left (by omega),Nat.sub_self,List.drop_zero,List.drop_eq_nil_of_le (by rw [List.length_take]; omega),List.getElem?_eq_getElem h]
    rfl
  constructor
  · intro h
    have hl:=congrArg List.length h
    unfold lC at hl
    rw [List.length_drop,List.length_take,List.length_singleton] at hl
    have e:j=i+1:=by omega
    subst e
    rw [a (by omega)] at h
    refine ⟨rfl,?_⟩
    rw [List.getElem?_eq_getElem (by omega)] at h ⊢
    simpa using h
  · rintro ⟨rfl,h⟩
    rw [a (by omega),h]; rfl
theorem vb {l m:List T_Regex}:∀ {w:List Nat},LC (l++m) w↔∃u v,w=u++v∧LC l u∧LC m v:=by
  induction l with
  | nil=>
    intro w
    exact ⟨fun h=>⟨[],w,rfl,rfl,h⟩,fun ⟨u,v,e,hu,hv⟩=>by cases hu; subst e; exact hv⟩
  | cons y l ih=>
    intro w
    simp only [List.cons_append,LC,ih]
    constructor
    · rintro ⟨u,v,rfl,hu,a,d,rfl,c,b⟩
      exact ⟨u++a,d,by simp,⟨u,a,rfl,hu,c⟩,b⟩
    · rintro ⟨u,v,rfl,⟨f,a,rfl,g,c⟩,b⟩
      exact ⟨f,a++v,by simp,g,a,v,rfl,c,b⟩
theorem yy {P:List Nat→Prop} {u v:List Nat} (hu:St P u) (hv:P v):St P (u++v):=by
  induction hu with
  | nil=>have:=St.cons hv .nil; rwa [List.append_nil] at this
  | cons h _ ih=>rw [List.append_assoc]; exact .cons h ih
theorem yJ {s y} {fr:List Bool} {W:List Nat} {j:Nat} {z:Bool}:((z=true)↔∃i,i≤j∧ix fr i=true∧L ⟨6,s,[y]⟩ (lC W i j))↔((z=true)↔∃i,i≤j∧ix fr i=true∧St (L y) (lC W i j)):=by
  simp only [zN]
  rfl
theorem va {y:T_Regex} {w:List Nat}:LC [y] w↔L y w:=by simp [LC]
theorem oY {v:aA 4} (hv:W4 v) {c:Nat} (hc:c<256):M.i7 v (c:Int)=some (mem v c):=by
  have l:=jd (k:=.i64) (c:=c) (ei (by omega) (by omega))
  have j:=fZ hv (i:=c / 64) (by omega)
  have g:jM (c:Int) 64=some ((c % 64:Nat):Int):=jv (b:=64) (by omega)
  have f:=tC (a:=wd v (c / 64)) (t:=c % 64) (by omega)
  have hlt:wd v (c / 64) >>> (c % 64)<18446744073709551616:=Nat.lt_of_le_of_lt (Nat.shiftRight_le _ _) (fY hv _)
  have e:=lp (b:=1) hlt (by omega)
  have d:IntKind.u64.wrap ((c % 64:Nat):Int)=((c % 64:Nat):Int):=gQ (by omega) (by omega)
  unfold M.i7 mem
  simp only [l,j,g,d,f,Option.bind_some]
  rw [show (1:Int)=((1:Nat):Int) from rfl,e]
  congr 1
  rw [Nat.testBit,Nat.and_comm 1,Nat.and_one_is_mod]
  rcases Nat.mod_two_eq_zero_or_one (wd v (c / 64) >>> (c % 64)) with h|h <;> rw [h] <;> rfl
def lw (R:List Nat→Prop) (w:List Nat) (fr out:List Bool):Prop:=out.length=w.length+1∧∀j,j≤w.length→(ix out j=true↔∃i,i≤j∧ix fr i=true∧R (lC w i j))
theorem lw.congr {R R':List Nat→Prop} {w:List Nat} {fr out:List Bool} (h:lw R w fr out) (e:∀u,R u↔R' u):lw R' w fr out:=
  ⟨h.1,fun j hj=>(h.2 j hj).trans ⟨fun ⟨i,a,b,c⟩=>⟨i,a,b,(e _).1 c⟩,fun ⟨i,a,b,c⟩=>⟨i,a,b,(e _).2 c⟩⟩⟩
theorem lw.comp {R Q:List Nat→Prop} {w:List Nat} {fr mid out:List Bool} (b:lw R w fr mid) (a:lw Q w mid out):lw (fun x=>∃u v,x=u++v∧R u∧Q v) w fr out:=by
  refine ⟨a.1,fun j hj=>(a.2 j hj).trans ?_⟩
  constructor
  · rintro ⟨m,hm,hx,hq⟩
    obtain ⟨i,hi,hf,hr⟩:=(b.2 m (by omega)).1 hx
    exact ⟨i,by omega,hf,(ju (by omega) hj R Q).2 ⟨m,hi,hm,hr,hq⟩⟩
  · rintro ⟨i,hi,hf,h⟩
    obtain ⟨m,d,c,hr,hq⟩:=(ju hi hj R Q).1 h
    exact ⟨m,c,(b.2 m (by omega)).2 ⟨i,d,hf,hr⟩,hq⟩
theorem vj (u:UInt8):u.toNat<256:=u.toNat_lt
theorem jJ (s:Str):(bW s).length=s.length:=by simp [bW]
theorem ma {s:Str} {i:Nat} (h:i<s.length):(bW s)[i]?=some (s[i]).toNat:=by simp [bW,h]
theorem xI {ρ:Type} {body:List Bool×Int→Option (cJ (List Bool×Int) ρ)} {a b:List Bool} {n:Nat} {Q:ρ→Prop} (hn:n≤4611686018427387903) (ha:a.length=n) (hb:b.length=n)
    (step:∀k st,k<n→st.length=n→body (st,(k:Int))=if ix st k then (some (.next (st.set k true,((k+1:Nat):Int)))) else some (.next (st.set k (ix b k),((k+1:Nat):Int))))
    (last:∀st,st.length=n→(∀j,j<n→ix st j=(ix a j || ix b j))→∃r,body (st,(n:Int))=some (.stop r)∧Q r):Is (bg body aU (a,(0:Int))) Q:=by
  refine Is.upto (fun k (st:List Bool×Int)=>st.2=(k:Int)∧st.1.length=n∧∀j,j<n→ix st.1 j=(ix a j || (decide (j<k) && ix b j))) n (by omega) ⟨rfl,ha,by simp⟩ ?_ ?_
  · rintro k ⟨st,_⟩ hk ⟨rfl,hl,hJ⟩
    simp only at hl hJ
    rw [step k st hk hl]
    have hkk:=hJ k hk
    rw [dT (by omega:¬ k<k),Bool.false_and,Bool.or_false] at hkk
    split
    · rename_i h
      refine Is.next ⟨rfl,by simpa using hl,fun j hj=>?_⟩
      rw [lX (by omega)]
      by_cases e:j=k
      · subst e; rw [if_pos rfl,←hkk,h]; rfl
      · rw [if_neg e,hJ j hj]
        congr 2
        exact decide_eq_decide.2 (by omega)
    · rename_i h
      refine Is.next ⟨rfl,by simpa using hl,fun j hj=>?_⟩
      rw [lX (by omega)]
      have h:ix st k=false:=by simpa using h
      by_cases e:j=k
      · subst e; rw [if_pos rfl,←hkk,h,dS (by omega:j<j+1)]; simp
      · rw [if_neg e,hJ j hj]
        congr 2
        exact decide_eq_decide.2 (by omega)
  · rintro ⟨st,_⟩ ⟨rfl,hl,hJ⟩
    obtain ⟨r,hr,hq⟩:=last st hl fun j hj=>by rw [hJ j hj,dS hj,Bool.true_and]
    exact ⟨_,hr,hq⟩
theorem ya:∀fl x,Fit x→height x<fl→∀(s:Str) (fr:List Bool),s.length≤1000000→fr.length=s.length+1→Is (M.d9 fl x s fr) (lw (L x) (bW s) fr):=by
  intro fl
  induction fl with
  | zero=>intro a _ h; omega
  | succ fl ih=>
    rintro ⟨k,st,l⟩ hF hh s fr hs hfr
    have hb:=jJ s
    have hk:∀y∈l,∀fr:List Bool,fr.length=s.length+1→Is (M.d9 fl y s fr) (lw (L y) (bW s) fr):=fun y hy fr hfr=>
      ih y (hF.kids y hy) (by have:=ez (x:=⟨k,st,l⟩) hy; omega) s fr hs hfr
    have hll:l.length≤4611686018427387903:=Nat.le_trans hF.len (by decide)
    unfold M.d9
    refine Is.bnq (aX (i:=s.length) (by omega)) (Is.bnq (dW (n:=s.length+1) (by omega)) ?_)
    have hcopy:gm (List.replicate (s.length+1) false) fr=fr:=by
      unfold gm
      rw [List.length_replicate,←hfr,List.take_length,List.drop_eq_nil_of_le (by rw [List.length_replicate]; omega),List.append_nil]
    simp only [hcopy]
    have hfrE:lw (fun u=>u=[]) (bW s) fr fr:=by
      refine ⟨by omega,fun j hj=>⟨fun h=>⟨j,Nat.le_refl _,h,nf _ _⟩,?_⟩⟩
      rintro ⟨i,hi,h,e⟩
      rw [(tG hi hj).1 e] at h
      exact h
    refine Is.bnd (P:=fun r=>lw (L ⟨k,st,l⟩) (bW s) fr r) ?_ (fun r hr=>Is.pure hr)
    rcases ea k with rfl|rfl|rfl|rfl|rfl|⟨f,g,p,w,h6⟩
    · refine Is.ct rfl (Is.pure (hfrE.congr fun u=>zb.symm))
    · refine Is.cf rfl (Is.ct rfl ?_)
      refine Is.upto (fun i (z:List Bool×Int)=>z.2=(i:Int)∧z.1.length=s.length+1∧∀j,j≤s.length→(ix z.1 j=true↔j≤i∧∃i',j=i'+1∧ix fr i'=true∧∃b,(bW s)[i']?=some b∧mem st b=true)) s.length (by omega) ⟨rfl,by simp,?_⟩ ?_ ?_
      · intro j hj
        simp only [pY]
        refine ⟨fun h=>by simp at h,?_⟩
        rintro ⟨h,i',rfl,_⟩
        omega
      · rintro i ⟨z,_⟩ hi ⟨rfl,hl,hJ⟩
        simp only at hl hJ
        dsimp only
        refine Is.dt (show (i:Int)<(s.length:Int) by omega) (Is.bnq (aX (by omega)) (Is.bnq (jj (by omega)) ?_))
        have hz:∀v,(v=true↔ix fr i=true∧mem st (s[i]).toNat=true)→∀j,j≤s.length→(ix (z.set (i+1) v) j=true↔j≤i+1∧∃i',j=i'+1∧ix fr i'=true∧∃b,(bW s)[i']?=some b∧mem st b=true):=by
          intro v hv j hj
          rw [lX (by omega)]
          by_cases e:j=i+1
          · subst e
            rw [if_pos rfl,hv]
            constructor
            · rintro ⟨d,f⟩
              exact ⟨Nat.le_refl _,i,rfl,d,_,ma hi,f⟩
            · rintro ⟨_,i',e,d,b,f,g⟩
              obtain rfl:i=i':=by omega
              rw [ma hi] at f
              cases f
              exact ⟨d,g⟩
          · rw [if_neg e,hJ j hj]
            constructor
            · rintro ⟨d,f⟩; exact ⟨by omega,f⟩
            · rintro ⟨d,f⟩; exact ⟨by omega,f⟩
        refine Is.cnd (fun h=>?_) (fun h=>?_)
        · refine Is.bnq (dC hi) ?_
          rw [ei (n:=((s[i]).toNat:Int)) (by omega) (by have:=vj s[i]; omega)]
          refine Is.bnq (oY hF.set (vj _)) (Is.bnq (cY (by omega)) (Is.next ⟨rfl,by simpa using hl,hz _ ?_⟩))
          rw [h]; simp
        · refine Is.bnq (cY (by omega)) (Is.next ⟨rfl,by simpa using hl,hz _ ?_⟩)
          rw [h]; simp
      · rintro ⟨z,_⟩ ⟨rfl,hl,hJ⟩
        simp only at hl hJ
        refine Is.df (show ¬ (s.length:Int)<(s.length:Int) by omega) (Is.stop ⟨by show z.length=_; omega,fun j hj=>(hJ j (by omega)).trans ?_⟩)
        constructor
        · rintro ⟨_,i',rfl,d,b,f,g⟩
          exact ⟨i',by omega,d,zV.2 ⟨b,(tF (by omega) hj).2 ⟨rfl,f⟩,g⟩⟩
        · rintro ⟨i,hi,d,h⟩
          obtain ⟨b,G,g⟩:=zV.1 h
          obtain ⟨rfl,f⟩:=(tF hi hj).1 G
          exact ⟨by omega,i,rfl,d,b,f,g⟩
    · refine Is.cf rfl (Is.cf rfl (Is.ct rfl ?_))
      refine Is.upto (fun i (z:List Bool×Int)=>z.2=(i:Int)∧lw (LC (l.take i)) (bW s) fr z.1) l.length (by omega) ⟨rfl,hfrE⟩ ?_ ?_
      · rintro i ⟨z,_⟩ hi ⟨rfl,hJ⟩
        simp only at hJ
        refine Is.dt (show (i:Int)<(l.length:Int) by omega) (Is.bnq (bi hi) (Is.bnd (hk _ (List.getElem_mem hi) z (by have:=hJ.1; omega)) fun r hr=>Is.bnq (aX (by omega)) (Is.next ⟨rfl,?_⟩)))
        refine (hJ.comp hr).congr fun u=>?_
        rw [List.take_add_one,List.getElem?_eq_getElem hi]
        show _↔LC (l.take i++[l[i]]) u
        rw [vb]
        simp only [va]
      · rintro ⟨z,_⟩ ⟨rfl,hJ⟩
        refine Is.df (show ¬ (l.length:Int)<(l.length:Int) by omega) (Is.stop ?_)
        rw [List.take_length] at hJ
        exact hJ.congr fun u=>Bn.symm
    · refine Is.cf rfl (Is.cf rfl (Is.cf rfl (Is.ct rfl ?_)))
      refine Is.upto (fun i (z:List Bool×Int)=>z.2=(i:Int)∧lw (LU (l.take i)) (bW s) fr z.1) l.length (by omega) ⟨rfl,?_⟩ ?_ ?_
      · refine ⟨by simp [hb],fun j hj=>?_⟩
        show ix (List.replicate (s.length+1) false) j=true↔_
        rw [pY]
        simp [LU]
      · rintro i ⟨z,_⟩ hi ⟨rfl,hJ⟩
        simp only at hJ
        refine Is.dt (show (i:Int)<(l.length:Int) by omega) ?_
        refine Is.bnd (P:=fun r=>lw (LU (l.take (i+1))) (bW s) fr r) ?_ (fun r hr=>Is.bnq (aX (by omega)) (Is.next ⟨rfl,hr⟩))
        refine Is.bnq (bi hi) (Is.bnd (hk _ (List.getElem_mem hi) fr hfr) fun r hr=>?_)
        have F:=hr.1
        have H:=hJ.1
        refine xI (n:=s.length+1) (a:=z) (b:=r) (by omega) (by omega) (by omega) (fun k st hk hl=>?_) (fun st hl hst=>⟨st,?_,by omega,fun j hj=>?_⟩)
        · simp only [dS (show (k:Int)<(r.length:Int) by omega),cond_true,jj (show k<st.length by omega),Option.bind_some]
          cases hix:ix st k
          · simp only [cond_false,jj (show k<r.length by omega),Option.bind_some,cY (show k<st.length by omega),aX (show k<9223372036854775807 by omega)]
            rfl
          · simp only [cond_true,Option.bind_some,cY (show k<st.length by omega),aX (show k<9223372036854775807 by omega)]
            rfl
        · simp only [dT (show ¬ (((s.length+1:Nat):Int)<(r.length:Int)) by omega),cond_false]
        · rw [hst j (by omega),Bool.or_eq_true,hJ.2 j hj,hr.2 j hj]
          have e:∀u,LU (l.take (i+1)) u↔LU (l.take i) u∨L l[i] u:=by
            intro u
            rw [ow,ow,List.take_add_one,List.getElem?_eq_getElem hi]
            simp only [Option.toList,List.mem_append,List.mem_singleton]
            constructor
            · rintro ⟨y,hy|rfl,h⟩
              · exact .inl ⟨y,hy,h⟩
              · exact .inr h
            · rintro (⟨y,hy,h⟩|h)
              · exact ⟨y,.inl hy,h⟩
              · exact ⟨_,.inr rfl,h⟩
          constructor
          · rintro (⟨o,a,b,c⟩|⟨o,a,b,c⟩)
            · exact ⟨o,a,b,(e _).2 (.inl c)⟩
            · exact ⟨o,a,b,(e _).2 (.inr c)⟩
          · rintro ⟨o,a,b,c⟩
            rcases (e _).1 c with c|c
            · exact .inl ⟨o,a,b,c⟩
            · exact .inr ⟨o,a,b,c⟩
      · rintro ⟨z,_⟩ ⟨rfl,hJ⟩
        refine Is.df (show ¬ (l.length:Int)<(l.length:Int) by omega) (Is.stop ?_)
        rw [List.take_length] at hJ
        exact hJ.congr fun u=>zU.symm
    · refine Is.cf rfl (Is.cf rfl (Is.cf rfl (Is.cf rfl (Is.ct rfl ?_))))
      obtain ⟨s',y,e,hy⟩:=ij hF.cn rfl
      cases e
      have hky:=hk y (by simp)
      refine Is.while (fun (z:List Bool×Bool)=>z.1.length=s.length+1∧(∀j,j≤s.length→ix fr j=true→ix z.1 j=true)∧(∀j,j≤s.length→ix z.1 j=true→∃i,i≤j∧ix fr i=true∧St (L y) (lC (bW s) i j))∧
          (z.2=false→∀i j,i≤j→j≤s.length→ix z.1 i=true→L y (lC (bW s) i j)→ix z.1 j=true)) (fun z=>mG (ix z.1) (s.length+1)+(bif z.2 then 1 else 0))
        ⟨hfr,fun _ _ h=>h,fun j _ h=>⟨j,Nat.le_refl _,h,by rw [nf]; exact .nil⟩,fun h=>by cases h⟩ ?_ ?_
      · have:=tc (ix fr) (s.length+1)
        simp only [cond_true]; omega
      · rintro ⟨z,more⟩ ⟨hzl,A,t,B⟩
        simp only at hzl A t B
        cases more with
        | false=>
          refine Is.cf rfl (Is.stop ⟨by show z.length=_; omega,fun j hj=>?_⟩)
          rw [yJ]
          refine ⟨fun h=>t j (by omega) h,?_⟩
          rintro ⟨i,hi,d,f⟩
          have gL:∀u,St (L y) u→∀i,i≤j→ix z i=true→lC (bW s) i j=u→ix z j=true:=by
            intro u hu
            induction hu with
            | nil=>
              intro i hi d e
              rw [(tG hi hj).1 e] at d
              exact d
            | @cons u v hu hv ihv=>
              intro i hi d e
              obtain ⟨m,f,g,p,w⟩:=(ju hi hj (·=u) (·=v)).1 ⟨u,v,e,rfl,rfl⟩
              exact ihv m g (B rfl i m f (by omega) d (p ▸ hu)) w
          exact gL _ f i hi (A i (by omega) d) rfl
        | true=>
          refine Is.ct rfl (Is.bnq (bi (i:=0) (by simp)) ?_)
          refine Is.bnd (hky z hzl) fun r hr=>?_
          have F:=hr.1
          refine Is.upto (fun k (q:List Bool×Bool×Int)=>q.2.2=(k:Int)∧q.1.length=s.length+1∧(∀j,j<s.length+1→ix q.1 j=(ix z j || (decide (j<k) && ix r j)))∧(q.2.1=true↔∃j,j<k∧ix r j=true∧ix z j=false)) (s.length+1) (by omega)
            ⟨rfl,hzl,by simp,by simp⟩ ?_ ?_
          · rintro k ⟨q,mo,_⟩ hk ⟨rfl,hl,hJ,hmo⟩
            simp only at hl hJ hmo
            dsimp only
            have hkk:=hJ k hk
            rw [dT (by omega:¬ k<k),Bool.false_and,Bool.or_false] at hkk
            refine Is.dt (show (k:Int)<(r.length:Int) by omega) ?_
            refine Is.bnd (P:=fun b=>b=(mo || (ix r k && !ix z k))) ?_ ?_
            · refine Is.cnd (fun h=>Is.pure (by rw [h]; rfl)) (fun h=>?_)
              rw [h]
              refine Is.bnq (jj (by omega)) (Is.cnd (fun h=>?_) (fun h=>Is.pure (by rw [h]; rfl)))
              rw [h]
              exact Is.bnq (jj (by omega)) (Is.pure (by rw [hkk]; rfl))
            · rintro _ rfl
              have D:((mo || (ix r k && !ix z k))=true↔∃j,j<k+1∧ix r j=true∧ix z j=false):=by
                rw [Bool.or_eq_true,hmo]
                constructor
                · rintro (⟨j,a,b⟩|h)
                  · exact ⟨j,by omega,b⟩
                  · exact ⟨k,by omega,by simpa using h⟩
                · rintro ⟨j,a,b⟩
                  by_cases e:j=k
                  · subst e; right; simpa using b
                  · left; exact ⟨j,by omega,b⟩
              refine Is.bnq (jj (by omega)) (Is.cnd (fun h=>?_) (fun h=>?_))
              · refine Is.bnq (cY (by omega)) (Is.bnq (aX (by omega)) (Is.next ⟨rfl,by simpa using hl,fun j hj=>?_,D⟩))
                show ix (q.set k true) j=_
                rw [lX (by omega)]
                by_cases e:j=k
                · subst e; rw [if_pos rfl,←hkk,h]; rfl
                · rw [if_neg e,hJ j hj]
                  congr 2
                  exact decide_eq_decide.2 (by omega)
              · refine Is.bnq (jj (by omega)) (Is.bnq (cY (by omega)) (Is.bnq (aX (by omega)) (Is.next ⟨rfl,by simpa using hl,fun j hj=>?_,D⟩)))
                show ix (q.set k (ix r k)) j=_
                rw [lX (by omega)]
                by_cases e:j=k
                · subst e; rw [if_pos rfl,←hkk,h,dS (by omega:j<j+1)]; simp
                · rw [if_neg e,hJ j hj]
                  congr 2
                  exact decide_eq_decide.2 (by omega)
          · rintro ⟨q,mo,_⟩ ⟨rfl,hl,hJ,hmo⟩
            simp only at hl hJ hmo
            have hJ:∀j,j<s.length+1→ix q j=(ix z j || ix r j):=fun j hj=>by rw [hJ j hj,dS hj,Bool.true_and]
            refine Is.df (show ¬ (((s.length+1:Nat):Int)<(r.length:Int)) by omega) (Is.stop ?_)
            refine ⟨⟨hl,fun j hj h=>?_,fun j hj h=>?_,fun hm i j hi hj d f=>?_⟩,?_⟩
            · show ix q j=true
              rw [hJ j (by omega),A j hj h]; rfl
            · have h:ix q j=true:=h
              rw [hJ j (by omega),Bool.or_eq_true] at h
              rcases h with h|h
              · exact t j hj h
              · obtain ⟨m,hm,d,f⟩:=(hr.2 j (by omega)).1 h
                obtain ⟨i,hi,g,p⟩:=t m (by omega) d
                refine ⟨i,by omega,g,?_⟩
                obtain ⟨u,v,e,hu,hv⟩:=(ju (by omega) (by omega:j≤(bW s).length) (St (L y)) (L y)).2 ⟨m,hi,hm,p,f⟩
                rw [e]
                exact yy hu hv
            · have hm:mo=false:=hm
              have hno:∀j,j<s.length+1→ix r j=true→ix z j=true:=by
                intro j hj h
                cases hz:ix z j
                · rw [hm] at hmo
                  exact absurd (hmo.2 ⟨j,hj,h,hz⟩) (by simp)
                · rfl
              have d:ix q i=true:=d
              rw [hJ i (by omega),Bool.or_eq_true] at d
              have d:ix z i=true:=d.elim id (hno i (by omega))
              show ix q j=true
              rw [hJ j (by omega),Bool.or_eq_true]
              right
              exact (hr.2 j (by omega)).2 ⟨i,hi,d,f⟩
            · have mono:∀j,j<s.length+1→ix z j=true→ix q j=true:=fun j hj h=>by rw [hJ j hj,h]; rfl
              show mG (ix q) (s.length+1)+(bif mo then 1 else 0)<mG (ix z) (s.length+1)+1
              cases mo with
              | false=>have:=tU mono; simp only [cond_false]; omega
              | true=>
                obtain ⟨j,hj,d,f⟩:=hmo.1 rfl
                have:=ye mono hj f (by rw [hJ j hj,d,f]; rfl)
                simp only [cond_true]; omega
    · refine Is.cf (bL f) (Is.cf (bL g) (Is.cf (bL p) (Is.cf (bL w) (Is.cf (bL h6) (Is.pure ⟨by simp [hb],fun j hj=>?_⟩)))))
      rw [pY]
      refine ⟨fun h=>by simp at h,?_⟩
      rintro ⟨i,_,_,h⟩
      exact absurd h (Bq f g p w h6)
theorem iW {x:T_Regex} (hF:FH x) {s:Str} (hs:s.length≤1000000):M.f9 x s=some (decide (L x (bW s))):=by
  refine Is.eq ?_
  unfold M.f9
  refine Is.bnq (aX (i:=s.length) (by omega)) (Is.bnq (dW (n:=s.length+1) (by omega)) (Is.bnq (cY (i:=0) (by simp)) ?_))
  refine Is.bnd (ya aU x hF.1 hF.2 s _ hs (by simp)) fun r hr=>?_
  have hb:=jJ s
  have hl:=hr.1
  refine Is.bnq (jj (by omega)) (Is.pure ?_)
  have b:∀i,ix ((List.replicate (s.length+1) false).set 0 true) i=true↔i=0:=by
    intro i
    rw [lX (by simp)]
    by_cases e:i=0
    · rw [if_pos e]; simp [e]
    · rw [if_neg e,pY]; simp [e]
  have hseg:lC (bW s) 0 s.length=bW s:=by unfold lC; rw [←hb,List.take_length]; rfl
  have gL:ix r s.length=true↔L x (bW s):=by
    rw [hr.2 s.length (by omega)]
    constructor
    · rintro ⟨i,_,c,a⟩
      rw [(b i).1 c,hseg] at a
      exact a
    · exact fun h=>⟨0,by omega,(b 0).2 rfl,by rw [hseg]; exact h⟩
  rw [Bool.eq_iff_iff,gL]
  simp
end Go.Proofs.YtlcdifnmkafcfaaGreat
namespace Go.Proofs.YtlcdifnmkafcfaaGreat
open Go.Lx
open Classical
theorem sn {s:aA 4} {n:Nat} (h:gR 6 s n=true):n=1:=by
  simp [gR] at h; exact h.1
theorem vo {k:Int} {s:aA 4} {n:Nat} (hk:k=1∨k=2) (h:gR k s n=true):n=0∧s=aA.zero 4:=by
  rcases hk with rfl|rfl
  · simp only [gR,beq_self_eq_true,Bool.true_or,cond_true,Bool.and_eq_true,beq_iff_eq] at h; exact h
  · simp only [gR,beq_self_eq_true,Bool.or_true,cond_true,Bool.and_eq_true,beq_iff_eq] at h; exact h
theorem qb:∀x d,bR x→V d x=true→parts x≤100000→Fit x:=by
  refine T_Regex.ind fun k s l ih d ok hv hp=>?_
  have hpl:bp l+1≤100000:=hp
  have hlen:=fI l
  cases d with
  | zero=>cases hv
  | succ d=>
    rw [V,Bool.and_eq_true,List.all_eq_true] at hv
    obtain ⟨hs,hv⟩:=hv
    have he:∀j,k=j→j=1∨j=2→(⟨k,s,l⟩:T_Regex)=⟨j,aA.zero 4,[]⟩:=fun j e hj=>by
      subst e
      obtain ⟨b,a⟩:=vo hj hs
      have a:s=aA.zero 4:=a
      have b:l=[]:=List.eq_nil_of_length_eq_zero b
      rw [a,b]
    refine .mk _ (yM (vM ok)) (by show l.length≤big; unfold big; omega) (fun e=>?_) (fun e=>he 1 e (.inl rfl)) (fun e=>he 2 e (.inr rfl))
      (fun y hy=>ih y hy d (iu ok y hy) (hv y hy) (by have:parts y≤bp l:=dK hy; omega))
    obtain rfl:k=6:=e
    have:=sn hs
    exact List.length_eq_one_iff.1 this
theorem xe:∀fl x,bR x→height x<fl→height x≤1000→M.g0 fl x=some (height x:Int):=by
  intro fl
  induction fl with
  | zero=>intro a _ h; omega
  | succ fl ih=>
    rintro ⟨k,s,l⟩ ok hh hb
    have hl:l.length≤9223372036854775807:=Nat.le_trans (sG ok) (by decide)
    unfold M.g0
    refine Is.eq ?_
    refine Is.bnd (P:=fun r=>r=((bK l:Nat):Int)) ?_ ?_
    · refine Is.upto (fun i (st:Int×Int)=>st.2=(i:Int)∧st.1=((bK (l.take i):Nat):Int)) l.length hl ⟨rfl,by simp [bK]⟩ ?_ ?_
      · rintro i ⟨a,_⟩ hi ⟨rfl,b⟩
        obtain rfl:a=_:=b
        have hk:=ez (x:=⟨k,s,l⟩) (List.getElem_mem hi)
        refine Is.dt (show (i:Int)<(l.length:Int) by omega) (Is.bnq (bi hi) (Is.bnq (ih _ (iu ok _ (List.getElem_mem hi)) (by omega) (by omega)) (Is.bnq (aX (by omega)) (Is.next ⟨rfl,?_⟩))))
        rw [List.take_add_one,List.getElem?_eq_getElem hi,jk]
        simp only [sO,Option.toList,bK]
        split <;> omega
      · rintro ⟨a,_⟩ ⟨rfl,b⟩
        obtain rfl:a=_:=b
        refine Is.df (show ¬ (l.length:Int)<(l.length:Int) by omega) (Is.stop ?_)
        rw [List.take_length]
    · rintro _ rfl
      have:height (⟨k,s,l⟩:T_Regex)=bK l+1:=rfl
      exact Is.bnq (aX (by omega)) (Is.pure (by rw [this]))
section
variable {P N H:Nat} (hP:3≤P) (hM:1≤N) (hB:P*P*(N+1)≤big) (hH:H≤1000) {x:T_Regex} (hF:Fit x) (hp:parts x≤P) (hh:height x≤H)
include hP hM hB hH hF hp hh
theorem zj {v:List Nat} (hv:v.length≤N):M.a5 aU (fO x v)=some (decide (L x v)):=by
  have:=(mP hP hM hB x hF hp hh).2 v hv
  rw [mf aU _ this.1 (by unfold aU; omega)]
  congr 1
  rw [Bool.eq_iff_iff,vQ,Au]
  simp
theorem rC {v:List Nat} {s:Str} (hv:v.length+s.length≤N) (hs:s.length≤1000000) {body:Int×(aA 4)×(List T_Regex)×Int→Option (cJ (Int×(aA 4)×(List T_Regex)×Int) (Int×(aA 4)×(List T_Regex)))}
    (hb:∀a b c i,body (a,b,c,i)=bif decide (i<(s.length:Int)) then (eh s i).bind fun d=>(M.a6 aU (T_Regex.mk a b c) d).bind fun rv=>(bV .i64 (i+1)).bind fun t=>some (.next (rv.Kind,rv.Set,rv.Kids,t)) else some (.stop (a,b,c))) :
    bg body aU ((fO x v).Kind,(fO x v).Set,(fO x v).Kids,(0:Int))=some ((fO x (v++bW s)).Kind,(fO x (v++bW s)).Set,(fO x (v++bW s)).Kids):=by
  refine Is.eq ?_
  have hbl:=jJ s
  refine Is.upto (fun i (st:Int×(aA 4)×(List T_Regex)×Int)=>st=((fO x (v++(bW s).take i)).Kind,(fO x (v++(bW s).take i)).Set,(fO x (v++(bW s).take i)).Kids,(i:Int))) s.length (by omega) (by simp) ?_ ?_
  · rintro i _ hi rfl
    rw [hb]
    refine Is.dt (by omega) (Is.bnq (dC hi) ?_)
    have hlen:(v++(bW s).take i).length<N:=by rw [List.length_append,List.length_take]; omega
    have hg:=(zn hP hM hB hH x hF hp hh).2.2 _ hlen
    have hf:=(mP hP hM hB x hF hp hh).2 _ (Nat.le_of_lt hlen)
    have hd:=hg (s[i]).toNat (vj _) aU (Nat.lt_of_le_of_lt hf.2 (by unfold aU; omega))
    generalize hy:fO x (v++(bW s).take i)=y at hd ⊢
    have hd:M.a6 aU (T_Regex.mk y.Kind y.Set y.Kids) ((s[i]).toNat:Int)=some (dr y (s[i]).toNat):=by cases y; exact hd
    refine Is.bnq hd (Is.bnq (aX (i:=i) (by omega)) (Is.next ?_))
    have e:v++(bW s).take (i+1)=(v++(bW s).take i)++[(s[i]).toNat]:=by
      rw [List.take_add_one,ma hi,List.append_assoc]; rfl
    rw [e,en,hy]
  · rintro _ rfl
    rw [hb]
    refine Is.df (by omega) (Is.stop ?_)
    rw [←hbl,List.take_length]
theorem sP {v:List Nat} {s:Str} (hv:v.length+s.length≤N) (hs:s.length≤1000000):M.f0 (fO x v) s=some (decide (L x (v++bW s))):=by
  unfold M.f0
  rw [rC hP hM hB hH hF hp hh hv hs (fun _ _ _ _=>rfl)]
  show (M.a5 aU (fO x (v++bW s))).bind _=_
  rw [zj hP hM hB hH hF hp hh (by rw [List.length_append,jJ]; exact hv)]
  rfl
theorem vX {s:Str} (hs:s.length≤N) (hs2:s.length≤1000000):M.f0 x s=some (decide (L x (bW s))):=
  sP hP hM hB hH hF hp hh (v:=[]) (by simpa using hs) hs2
end
end Go.Proofs.YtlcdifnmkafcfaaGreat
namespace Go.Proofs.YtlcdifnmkafcfaaGreat
open Go.Lx
def pv (p:Nat×Nat):aA 2:=⟨[(p.1:Int),(p.2:Int)],rfl⟩
def mL (P:List (Nat×Nat)):List (aA 2):=P.map pv
theorem xE (P Q:List (Nat×Nat)):mL (P++Q)=mL P++mL Q:=by simp [mL]
theorem mK (P:List (Nat×Nat)):(mL P).length=P.length:=by simp [mL]
theorem sC (a b:List Nat) (p:Nat):dH (a++[p]) b=dH a b++b.map fun q=>(p,q):=by simp [dH]
theorem ti {S:List (aA 4)} {P:List (Nat×Nat)} {la fi:List Nat} (h:P.length+la.length*fi.length≤1000000000) (b:la.length≤1000000) (a:fi.length≤1000000) :
    M.b6 ⟨S,mL P⟩ (mq la) (mq fi)=some ⟨S,mL (P++dH la fi)⟩:=by
  refine Is.eq ?_
  unfold M.b6
  refine Is.upto (fun i (st:List (aA 2)×Int)=>st.2=(i:Int)∧st.1=mL (P++dH (la.take i) fi)) la.length (by omega) ⟨rfl,by simp [dH]⟩ ?_ ?_
  · rintro i ⟨s,_⟩ hi ⟨rfl,e⟩
    obtain rfl:s=_:=e
    have hmul:(i+1)*fi.length≤la.length*fi.length:=Nat.mul_le_mul_right _ hi
    rw [Nat.succ_mul] at hmul
    have hlen:(P++dH (la.take i) fi).length=P.length+i*fi.length:=by rw [List.length_append,jE,List.length_take,Nat.min_eq_left (Nat.le_of_lt hi)]
    refine Is.dt (by rw [dQ]; omega) (Is.bnq (x:=mL (P++dH (la.take (i+1)) fi)) (Is.eq ?_) (Is.bnq (aX (by omega)) (Is.next ⟨rfl,rfl⟩)))
    refine Is.upto (fun k (st:List (aA 2)×Int)=>st.2=(k:Int)∧st.1=mL ((P++dH (la.take i) fi)++(fi.take k).map fun q=>(la[i],q))) fi.length (by omega) ⟨rfl,by simp⟩ ?_ ?_
    · rintro k ⟨s,_⟩ hk ⟨rfl,e⟩
      obtain rfl:s=_:=e
      refine Is.dt (by rw [dQ]; omega) (Is.bnq (pA hi) (Is.bnq (pA hk) (Is.bnq (da ?_) (Is.bnq (aX (by omega)) (Is.next ⟨rfl,?_⟩)))))
      · rw [mK,List.length_append,hlen,List.length_map,List.length_take,List.length_singleton]; omega
      · rw [eC hk,List.map_append,←List.append_assoc,xE (_++_) (List.map _ [fi[k]])]
        rfl
    · rintro ⟨s,_⟩ ⟨rfl,e⟩
      obtain rfl:s=_:=e
      refine Is.df (by rw [dQ]; omega) (Is.stop ?_)
      rw [List.take_length,eC hi,sC,List.append_assoc]
  · rintro ⟨s,_⟩ ⟨rfl,e⟩
    obtain rfl:s=_:=e
    refine Is.df (by rw [dQ]; omega) (Is.stop ?_)
    rw [List.take_length]
def sg (x:Pt):cx:=⟨x.nl,mq x.fi,mq x.la⟩
theorem sv {S:List (aA 4)} {P:List (Nat×Nat)} {x y:Pt} (h:P.length+x.la.length*y.fi.length≤1000000000) (d:x.la.length≤100000) (c:y.fi.length≤100000) (b:x.fi.length≤100000) (a:y.la.length≤100000) :
    M.c6 ⟨S,mL P⟩ (sg x) (sg y)=some (sg (eQ x y),⟨S,mL (P++dH x.la y.fi)⟩):=by
  refine Is.eq ?_
  unfold M.c6
  refine Is.bnq (ti h (by omega) (by omega)) ?_
  refine Is.bnq (x:=x.nl && y.nl) (Is.eq (Is.cnd (fun hn=>Is.pure ?_) (fun hn=>Is.pure ?_))) ?_
  · have hn:x.nl=true:=hn
    rw [hn]; rfl
  · have hn:x.nl=false:=hn
    rw [hn]; rfl
  refine Is.bnq (x:=mq (eQ x y).fi) (Is.eq (Is.cnd (fun hn=>?_) (fun hn=>Is.pure ?_))) ?_
  · have hn:x.nl=true:=hn
    refine Is.bnq (da (by simp only [sg,dQ,List.length_nil]; omega)) (Is.bnq (da (by simp only [sg,dQ,List.nil_append]; omega)) (Is.pure ?_))
    unfold eQ sg
    rw [hn,cond_true,pB,List.nil_append]
  · have hn:x.nl=false:=hn
    unfold eQ sg
    rw [hn,cond_false]
  refine Is.bnq (x:=mq (eQ x y).la) (Is.eq (Is.cnd (fun hn=>?_) (fun hn=>Is.pure ?_))) (Is.pure rfl)
  · have hn:y.nl=true:=hn
    refine Is.bnq (da (by simp only [sg,dQ,List.length_nil]; omega)) (Is.bnq (da (by simp only [sg,dQ,List.nil_append]; omega)) (Is.pure ?_))
    unfold eQ sg
    rw [hn,cond_true,pB,List.nil_append]
  · have hn:y.nl=false:=hn
    unfold eQ sg
    rw [hn,cond_false]
section
variable {K q:Nat} (hq:K*K≤q)
include hq
mutual
theorem iy:∀(x:T_Regex) (b:Bs),parts x≤K→(bd x b).2.P.length+q≤b.P.length+2*(parts x*q)
  | ⟨k,s,l⟩,b,hK=>by
    simp only [parts] at hK ⊢
    rw [Nat.add_mul,Nat.one_mul]
    simp only [bd]
    cases k == 3
    · cases k == 4
      · cases k == 5
        · cases k == 6
          · simp only [cond_false]; omega
          · match l,hK with
            | [],_=>simp only [cond_false,cond_true,yr]; omega
            | y::l,hK=>
              simp only [bp] at hK
              have h:=iy y b (by omega)
              have d:=fS y b
              have c:(bd y b).1.la.length*(bd y b).1.fi.length≤q:=Nat.le_trans (Nat.mul_le_mul (by omega) (by omega)) hq
              simp only [cond_false,cond_true,yr,bp,List.length_append,jE,Nat.add_mul]
              omega
        · have h:=oo l ⟨false,[],[]⟩ b (by omega)
          simp only [cond_false,cond_true] at h ⊢
          omega
      · have h:=oq l ⟨true,[],[]⟩ b (by simp only [List.length_nil]; omega)
        simp only [cond_false,cond_true] at h ⊢
        omega
    · simp only [cond_true]; omega
theorem oq:∀(l:List T_Regex) (x:Pt) (b:Bs),x.la.length+bp l≤K→(fW l x b).2.P.length≤b.P.length+2*(bp l*q)
  | [],x,b,_=>by simp [fW,bp]
  | y::l,x,b,hK=>by
    simp only [bp] at hK
    have h:=iy y b (by omega)
    have d:=fS y b
    have c:x.la.length*(bd y b).1.fi.length≤q:=Nat.le_trans (Nat.mul_le_mul (by omega) (by omega)) hq
    have e:(eQ x (bd y b).1).la.length≤x.la.length+(bd y b).1.la.length:=by unfold eQ; cases (bd y b).1.nl <;> simp
    have a:=oq l (eQ x (bd y b).1) ⟨(bd y b).2.S,(bd y b).2.P++dH x.la (bd y b).1.fi⟩ (by omega)
    simp only [List.length_append,jE] at a
    simp only [fW,bp,Nat.add_mul]
    omega
theorem oo:∀(l:List T_Regex) (x:Pt) (b:Bs),bp l≤K→(gP l x b).2.P.length≤b.P.length+2*(bp l*q)
  | [],x,b,_=>by simp [gP,bp]
  | y::l,x,b,hK=>by
    simp only [bp] at hK
    have h:=iy y b (by omega)
    have a:=oo l (kG x (bd y b).1) (bd y b).2 (by omega)
    simp only [gP,bp,Nat.add_mul]
    omega
end
theorem nX (a:1≤K):∀(l:List T_Regex) (i:Nat) (s:Bs×List Int),bp l≤K→(gM i l s).1.P.length≤s.1.P.length+2*(bp l*q)
  | [],i,s,_=>by simp [gM,bp]
  | y::l,i,s,hK=>by
    simp only [bp] at hK
    have h:=iy hq y s.1 (by omega)
    have d:=fS y s.1
    have c:K≤q:=Nat.le_trans (by rw [←Nat.mul_one K,Nat.mul_assoc]; exact Nat.mul_le_mul_left _ (by omega)) hq
    have b:=nX a l (i+1) (tB i y s) (by omega)
    have h6:(tB i y s).1.P.length=(bd y s.1).2.P.length+(bd y s.1).1.fi.length:=by
      show ((bd y s.1).2.P++dH [0] (bd y s.1).1.fi).length=_
      rw [List.length_append,jE]
      simp
    simp only [gM,bp,Nat.add_mul]
    omega
end
theorem wC:∀(d fl:Nat) (x:T_Regex) (b:Bs),V d x=true→d+1≤fl→b.S.length+parts x≤500→b.P.length+500000*parts x≤500000000→M.a4 fl ⟨b.S,mL b.P⟩ x=some (sg (bd x b).1,⟨(bd x b).2.S,mL (bd x b).2.P⟩):=by
  intro d
  induction d with
  | zero=>intro fl x b h; simp [V] at h
  | succ d ih=>
    intro fl x b hV hfl hsz hpz
    obtain ⟨fl,rfl⟩:∃f,fl=f+1:=⟨fl - 1,by omega⟩
    obtain ⟨k,s,l⟩:=x
    obtain ⟨hsh,hkid⟩:=zK hV
    have hparts:parts ⟨k,s,l⟩=bp l+1:=by simp [parts]
    rw [hparts] at hsz hpz
    have hll:=fI l
    refine Is.eq ?_
    unfold M.a4
    have fin:∀ {o:Option (Bool×List Int×List Int×List (aA 4)×List (aA 2))} {r:Pt×Bs},bd ⟨k,s,l⟩ b=r→Is o (fun v=>v=(r.1.nl,mq r.1.fi,mq r.1.la,r.2.S,mL r.2.P))→
        Is (o.bind fun x=>some ((cx.mk x.1 x.2.1 x.2.2.1),(bO.mk x.2.2.2.1 x.2.2.2.2))) (fun v=>v=(sg (bd ⟨k,s,l⟩ b).1,⟨(bd ⟨k,s,l⟩ b).2.S,mL (bd ⟨k,s,l⟩ b).2.P⟩)):=by
      intro o r he ho
      refine Is.bnd ho fun v hv=>Is.pure ?_
      rw [hv,he]
      rfl
    have hq:500*500≤250000:=by decide
    rcases so hsh with rfl|rfl|rfl|rfl|rfl|rfl
    · exact fin (r:=(⟨false,[],[]⟩,b)) (by simp [bd]) (Is.cf rfl (Is.cf rfl (Is.cf rfl (Is.cf rfl (Is.cf rfl (Is.pure rfl))))))
    · exact fin (r:=(⟨true,[],[]⟩,b)) (by simp [bd]) (Is.ct rfl (Is.pure rfl))
    · refine fin (r:=(⟨false,[b.S.length+1],[b.S.length+1]⟩,⟨b.S++[s],b.P⟩)) (by simp [bd]) (Is.cf rfl (Is.ct rfl (Is.bnq (da (by simp only [List.length_singleton]; omega)) (Is.pure ?_))))
      simp [mq]
    · refine fin (r:=fW l ⟨true,[],[]⟩ b) (by simp [bd]) (Is.cf rfl (Is.cf rfl (Is.ct rfl ?_)))
      refine Is.upto (fun i (st:List (aA 4)×List (aA 2)×Bool×List Int×List Int×Int)=>st=((fW (l.take i) ⟨true,[],[]⟩ b).2.S,mL (fW (l.take i) ⟨true,[],[]⟩ b).2.P,(fW (l.take i) ⟨true,[],[]⟩ b).1.nl,mq (fW (l.take i) ⟨true,[],[]⟩ b).1.fi,mq (fW (l.take i) ⟨true,[],[]⟩ b).1.la,(i:Int))) l.length (by omega) (by simp [fW,mq]) ?_ ?_
      · rintro i _ hi rfl
        have a:=ql (l.take i) ⟨true,[],[]⟩ b
        have c:=oq (K:=500) (q:=250000) hq (l.take i) ⟨true,[],[]⟩ b (by have:=dA l i; simp only [List.length_nil]; omega)
        have hpt:=eY hi
        have hpl:=dA l (i+1)
        have hsn:=rT l[i] (l.take i) ⟨true,[],[]⟩ b
        rw [←eC hi] at hsn
        generalize fW (l.take i) ⟨true,[],[]⟩ b=r at a c hsn
        simp only [List.length_nil] at a
        have hy:=fS l[i] r.2
        have e:=iy (K:=500) (q:=250000) hq l[i] r.2 (by omega)
        have hm:r.1.la.length*(bd l[i] r.2).1.fi.length≤250000:=Nat.le_trans (Nat.mul_le_mul (show _≤500 by omega) (show _≤500 by omega)) hq
        refine Is.dt (show ((i:Nat):Int)<(l.length:Int) by omega) (Is.bnq (bi hi) (Is.bnq (ih fl l[i] r.2 (hkid _ (List.getElem_mem hi)) (by omega) (by omega) (by omega)) ?_))
        refine Is.bnq (sv (x:=r.1) (y:=(bd l[i] r.2).1) (by omega) (by omega) (by omega) (by omega) (by omega)) (Is.bnq (aX (by omega)) (Is.next ?_))
        rw [hsn]
        rfl
      · rintro _ rfl
        refine Is.df (show ¬ ((l.length:Nat):Int)<(l.length:Int) by omega) (Is.stop ?_)
        rw [List.take_length]
    · refine fin (r:=gP l ⟨false,[],[]⟩ b) (by simp [bd]) (Is.cf rfl (Is.cf rfl (Is.cf rfl (Is.ct rfl ?_))))
      refine Is.upto (fun i (st:List (aA 4)×List (aA 2)×Bool×List Int×List Int×Int)=>st=((gP (l.take i) ⟨false,[],[]⟩ b).2.S,mL (gP (l.take i) ⟨false,[],[]⟩ b).2.P,(gP (l.take i) ⟨false,[],[]⟩ b).1.nl,mq (gP (l.take i) ⟨false,[],[]⟩ b).1.fi,mq (gP (l.take i) ⟨false,[],[]⟩ b).1.la,(i:Int))) l.length (by omega) (by simp [gP,mq]) ?_ ?_
      · rintro i _ hi rfl
        have a:=qk (l.take i) ⟨false,[],[]⟩ b
        have c:=oo (K:=500) (q:=250000) hq (l.take i) ⟨false,[],[]⟩ b (by have:=dA l i; omega)
        have hpt:=eY hi
        have hpl:=dA l (i+1)
        have hsn:=rQ l[i] (l.take i) ⟨false,[],[]⟩ b
        rw [←eC hi] at hsn
        generalize gP (l.take i) ⟨false,[],[]⟩ b=r at a c hsn
        simp only [List.length_nil] at a
        have hy:=fS l[i] r.2
        refine Is.dt (show ((i:Nat):Int)<(l.length:Int) by omega) (Is.bnq (bi hi) (Is.bnq (ih fl l[i] r.2 (hkid _ (List.getElem_mem hi)) (by omega) (by omega) (by omega)) ?_))
        refine Is.bnq (x:=r.1.nl || (bd l[i] r.2).1.nl) (Is.eq (Is.cnd (fun hn=>Is.pure ?_) (fun hn=>Is.pure ?_))) ?_
        · rw [hn]; rfl
        · rw [hn]; rfl
        refine Is.bnq (da (by simp only [dQ,List.length_nil]; omega)) (Is.bnq (da (by simp only [sg,dQ,List.nil_append]; omega)) (Is.bnq (da (by simp only [dQ,List.length_nil]; omega)) (Is.bnq (da (by simp only [sg,dQ,List.nil_append]; omega)) (Is.bnq (aX (by omega)) (Is.next ?_)))))
        rw [hsn]
        simp only [List.nil_append,sg,kG,pB]
      · rintro _ rfl
        refine Is.df (show ¬ ((l.length:Nat):Int)<(l.length:Int) by omega) (Is.stop ?_)
        rw [List.take_length]
    · have g:=uo hsh
      obtain ⟨y,rfl⟩:=List.length_eq_one_iff.1 g
      simp only [bp] at hsz hpz
      have hy:=fS y b
      have e:=iy (K:=500) (q:=250000) hq y b (by omega)
      have hm:(bd y b).1.la.length*(bd y b).1.fi.length≤250000:=Nat.le_trans (Nat.mul_le_mul (show _≤500 by omega) (show _≤500 by omega)) hq
      refine fin (r:=(⟨true,(bd y b).1.fi,(bd y b).1.la⟩,⟨(bd y b).2.S,(bd y b).2.P++dH (bd y b).1.la (bd y b).1.fi⟩)) (by simp [bd,yr]) (Is.cf rfl (Is.cf rfl (Is.cf rfl (Is.cf rfl (Is.ct rfl ?_)))))
      refine Is.bnq (x:=y) rfl (Is.bnq (ih fl y b (hkid y (by simp)) (by omega) (by omega) (by omega)) ?_)
      refine Is.bnq (ti (la:=(bd y b).1.la) (fi:=(bd y b).1.fi) (by omega) (by omega) (by omega)) (Is.pure rfl)
theorem pm {α:Type} (N:Nat) (f:Nat→Bool) (g:Nat→α):∀k,((List.range (k*N)).filter f).map g=(List.range k).flatMap fun p=>((List.range N).filter fun q=>f (p*N+q)).map fun q=>g (p*N+q)
  | 0=>by simp
  | k+1=>by
    rw [Nat.succ_mul,List.range_add,List.filter_append,List.map_append,pm N f g k,List.range_succ,List.flatMap_append]
    congr 1
    simp only [List.flatMap_cons,List.flatMap_nil,List.append_nil]
    rw [List.filter_map,List.map_map]
    rfl
theorem lm {N p q:Nat} (hq:q<N):(p*N+q) / N=p∧(p*N+q) % N=q:=by
  have hN:0<N:=by omega
  rw [Nat.mul_comm p N,Nat.mul_add_div hN,Nat.div_eq_of_lt hq,Nat.mul_add_mod,Nat.mod_eq_of_lt hq]
  exact ⟨Nat.add_zero _,rfl⟩
theorem jn {α β:Type} {f g:α→List β}:∀ {l:List α},(∀x∈l,f x=g x)→l.flatMap f=l.flatMap g
  | [],_=>rfl
  | x::l,h=>by rw [List.flatMap_cons,List.flatMap_cons,h x (by simp),jn fun y hy=>h y (by simp [hy])]
theorem th (S:List (aA 4)) (P:List (Nat×Nat)) (N:Nat):((List.range (N*N)).filter fun i=>decide ((i / N,i % N)∈P)).map (fun i=>zT S (i / N) (i % N))=lq S P N N:=by
  rw [pm]
  unfold lq
  refine jn fun p _=>?_
  unfold ud vt
  have a:((List.range N).filter fun q=>decide (((p*N+q) / N,(p*N+q) % N)∈P))=(List.range N).filter fun q=>decide ((p,q)∈P):=by
    refine List.filter_congr fun q hq=>?_
    rw [(lm (List.mem_range.1 hq)).1,(lm (List.mem_range.1 hq)).2]
  rw [a]
  refine List.map_congr_left fun q hq=>?_
  have hq:=List.mem_range.1 (List.mem_filter.1 hq).1
  rw [(lm hq).1,(lm hq).2]
theorem xk (p:Nat×Nat):fU (pv p) 0=some (p.1:Int):=by simp [fU,pv]
theorem xj (p:Nat×Nat):fU (pv p) 1=some (p.2:Int):=by simp [fU,pv]
theorem zD {n:Nat} (h:n≤9223372036854775807):bV .i64 (n:Int)=some (n:Int):=dv (by omega) (by omega)
theorem zX {n:Nat} (h:n≤9223372036854775807):IntKind.i64.wrap (n:Int)=(n:Int):=ei (by omega) (by omega)
theorem sr {l:List T_Regex} (ok:∀x∈l,bR x) (hv:∀y∈l,V 30 y=true) (hp:bp l≤500):M.b7 l=some (nL l,0):=by
  refine Is.eq ?_
  unfold M.b7
  refine Is.bnd (rG ok (by omega)) fun e he=>?_
  obtain rfl:e=0:=by
    rcases he with ⟨⟨y,hy,h⟩,_⟩|⟨_,h,_⟩|⟨_,_,h,_⟩
    · rw [hv y hy] at h; cases h
    · omega
    · exact h
  refine Is.cf rfl ?_
  have hlen:=fI l
  have z:fD.1.S.length=0:=rfl
  have B:fD.1.P.length=0:=rfl
  have hq:500*500≤250000:=by decide
  have hg:=qa l 0 fD we
  have hgl:=mO l 0 fD
  have hgp:=nX (K:=500) (q:=250000) hq (by omega) l 0 fD (by omega)
  refine Is.bnq (x:=((gM 0 l fD).1.S,mL (gM 0 l fD).1.P,(gM 0 l fD).2)) (Is.eq ?_) ?_
  · refine Is.upto (fun i (st:List (aA 4)×List (aA 2)×List Int×Int)=>st=((gM 0 (l.take i) fD).1.S,mL (gM 0 (l.take i) fD).1.P,(gM 0 (l.take i) fD).2,(i:Int))) l.length (by omega) rfl ?_ ?_
    · rintro i _ hi rfl
      have gi:=qa (l.take i) 0 fD we
      have gl:=mO (l.take i) 0 fD
      have hpt:=eY hi
      have hpl:=dA l (i+1)
      have gp:=nX (K:=500) (q:=250000) hq (by omega) (l.take i) 0 fD (by omega)
      have hsn:=rk l[i] (l.take i) 0 fD
      rw [←eC hi,show 0+(l.take i).length=i by rw [List.length_take]; omega] at hsn
      generalize gM 0 (l.take i) fD=s at gi gl gp hsn
      have hy:=fS l[i] s.1
      have hyb:=wG l[i] s.1
      have hyg:=ub l[i] s.1
      have w:=iy (K:=500) (q:=250000) hq l[i] s.1 (by omega)
      have hal:=gi.len
      have g:(zi s.2 (bd l[i] s.1).2.S.length).length=(bd l[i] s.1).2.S.length+1:=tM (by omega)
      refine Is.dt (by omega) (Is.bnq (x:=((tB i l[i] s).1.S,mL (tB i l[i] s).1.P,(tB i l[i] s).2)) (Is.eq (Is.bnq (bi hi) (Is.bnq (wC 30 aU l[i] s.1 (hv _ (List.getElem_mem hi)) (by unfold aU; omega) (by omega) (by omega)) ?_))) (Is.bnq (aX (by omega)) (Is.next (by rw [hsn]))))
      refine Is.bnq (ti (la:=[0]) (fi:=(bd l[i] s.1).1.fi) (by simp only [List.length_singleton]; omega) (by simp) (by omega)) ?_
      refine Is.bnq (vH (a:=s.2) (n:=(bd l[i] s.1).2.S.length) (by omega) (by omega) (fun _=>rfl)) ?_
      refine Is.bnq (vp (la:=(bd l[i] s.1).1.la) (v:=(i:Int)) (fun p hp=>by rw [g]; have:=hyb.2 p hp; omega) (by omega) (fun _ _=>rfl)) ?_
      exact Is.of (zr (f:=fun y=>((bd l[i] s.1).2.S,mL ((bd l[i] s.1).2.P++dH [0] (bd l[i] s.1).1.fi),y)) (by rw [kL,g]; omega)) rfl
    · rintro _ rfl
      refine Is.df (by omega) (Is.stop ?_)
      rw [List.take_length]
  have hal:=hg.len
  have hcl:∀p q,(p,q)∈(gM 0 l fD).1.P→p<(gM 0 l fD).2.length∧q<(gM 0 l fD).2.length:=fun p q h=>by have:=hg.cl p q h; omega
  have hpos:=hg.pos
  have hN:(gM 0 l fD).2.length≤501:=by omega
  unfold nL
  generalize (gM 0 l fD).2=acc at *
  generalize (gM 0 l fD).1.S=S at *
  generalize (gM 0 l fD).1.P=P at *
  have hNN:acc.length*acc.length≤251001:=Nat.le_trans (Nat.mul_le_mul hN hN) (by decide)
  have D:0<acc.length:=by omega
  refine Is.bnq (x:=((acc.length*acc.length:Nat):Int)) (by rw [show (acc.length:Int)*(acc.length:Int)=((acc.length*acc.length:Nat):Int) by rw [Int.natCast_mul]]; exact zD (by omega)) ?_
  refine Is.bnq (dW (by omega)) ?_
  have hij:∀p q,p<acc.length→q<acc.length→p*acc.length+q<acc.length*acc.length:=fun p q c b=>by
    have:(p+1)*acc.length≤acc.length*acc.length:=Nat.mul_le_mul_right _ c
    rw [Nat.succ_mul] at this
    omega
  refine Is.bnd (P:=fun h:List Bool=>h.length=acc.length*acc.length∧∀j,j<acc.length*acc.length→(h[j]?=some true↔(j / acc.length,j % acc.length)∈P)) ?_ ?_
  · refine Is.upto (fun i (st:List Bool×Int)=>st.2=(i:Int)∧st.1.length=acc.length*acc.length∧∀j,j<acc.length*acc.length→(st.1[j]?=some true↔(j / acc.length,j % acc.length)∈P.take i)) P.length (by omega) ⟨rfl,by simp,fun j hj=>by simp [hj]⟩ ?_ ?_
    · rintro i ⟨h,_⟩ hi ⟨rfl,c,b⟩
      simp only at c b
      obtain ⟨c1,c2⟩:=hcl P[i].1 P[i].2 (List.getElem_mem hi)
      have hj:=hij _ _ c1 c2
      have hmul:P[i].1*acc.length≤acc.length*acc.length:=Nat.mul_le_mul_right _ (by omega)
      refine Is.dt (by rw [mK]; omega) (Is.bnq (x:=pv P[i]) (by rw [bi (by rw [mK]; exact hi)]; simp [mL]) (Is.bnq (xk _) (Is.bnq (x:=((P[i].1*acc.length:Nat):Int)) (by rw [show ((P[i].1:Nat):Int)*(acc.length:Int)=((P[i].1*acc.length:Nat):Int) by rw [Int.natCast_mul]]; exact zD (by omega)) (Is.bnq (xj _) (Is.bnq (x:=((P[i].1*acc.length+P[i].2:Nat):Int)) (by rw [show ((P[i].1*acc.length:Nat):Int)+((P[i].2:Nat):Int)=((P[i].1*acc.length+P[i].2:Nat):Int) by omega]; exact zD (by omega)) (Is.bnq (cY (by omega)) (Is.bnq (aX (by omega)) (Is.next ⟨rfl,by rw [List.length_set]; exact c,fun j m=>?_⟩))))))))
      rw [List.getElem?_set,eC hi,List.mem_append,List.mem_singleton]
      obtain ⟨u,t⟩:=lm (p:=P[i].1) c2
      by_cases e:P[i].1*acc.length+P[i].2=j
      · rw [if_pos e,if_pos (by omega)]
        subst e
        rw [u,t]
        simp
      · rw [if_neg e,b j m]
        constructor
        · exact .inl
        · rintro (d|d)
          · exact d
          · exfalso
            have r:j / acc.length=P[i].1:=by rw [←d]
            have o:j % acc.length=P[i].2:=by rw [←d]
            have:=Nat.div_add_mod j acc.length
            rw [r,o,Nat.mul_comm] at this
            exact e this
    · rintro ⟨h,_⟩ ⟨rfl,c,b⟩
      rw [List.take_length] at b
      exact Is.df (by rw [mK]; omega) (Is.stop ⟨c,b⟩)
  · rintro h ⟨c,b⟩
    refine Is.bnq (x:=lq S P acc.length acc.length) (Is.eq ?_) (Is.pure rfl)
    rw [←th]
    refine Is.upto (fun i (st:List dm×Int)=>st.2=(i:Int)∧st.1=((List.range i).filter fun i=>decide ((i / acc.length,i % acc.length)∈P)).map (fun i=>zT S (i / acc.length) (i % acc.length))) (acc.length*acc.length) (by omega) ⟨rfl,rfl⟩ ?_ ?_
    · rintro i ⟨ar,_⟩ hi ⟨rfl,e⟩
      obtain rfl:ar=_:=e
      have hfl:=List.length_filter_le (fun i=>decide ((i / acc.length,i % acc.length)∈P)) (List.range i)
      rw [List.length_range] at hfl
      have hib:i<h.length:=by omega
      have hk:=b i hi
      rw [List.getElem?_eq_getElem hib] at hk
      refine Is.dt (by omega) (Is.bnq (x:=((List.range (i+1)).filter fun i=>decide ((i / acc.length,i % acc.length)∈P)).map (fun i=>zT S (i / acc.length) (i % acc.length))) (Is.eq (Is.bnq (bi hib) (Is.cnd (fun hb=>?_) (fun hb=>Is.pure ?_)))) (Is.bnq (aX (by omega)) (Is.next ⟨rfl,rfl⟩)))
      · have hm:=hk.1 (by rw [hb])
        have k:=hpos _ _ hm
        have A:=(hcl _ _ hm).2
        have hdv:i / acc.length≤i:=Nat.div_le_self _ _
        refine Is.bnq (tK (by omega) (zX (by omega))) (Is.bnq (jv (by omega)) (Is.bnq (x:=((i % acc.length:Nat):Int) - 1) (dv (by omega) (by omega)) (Is.bnq (xl k (by omega)) (Is.bnq (da (by rw [List.length_map,List.length_singleton]; omega)) (Is.pure ?_)))))
        rw [List.range_succ,List.filter_append,List.map_append]
        simp [hm,zT]
      · have hm:¬ (i / acc.length,i % acc.length)∈P:=fun hm=>by have:=hk.2 hm; rw [hb] at this; cases this
        rw [List.range_succ,List.filter_append,List.map_append]
        simp [hm]
    · rintro ⟨ar,_⟩ ⟨rfl,e⟩
      obtain rfl:ar=_:=e
      exact Is.df (by omega) (Is.stop rfl)
end Go.Proofs.YtlcdifnmkafcfaaGreat
namespace Go.Proofs.YtlcdifnmkafcfaaGreat
open Go.Lx
mutual
theorem mR:∀(x:T_Regex) (b:Bs),bR x→(∀v∈b.S,W4 v)→∀v∈(bd x b).2.S,W4 v
  | ⟨k,s,l⟩,b,ok,h=>by
    simp only [bd]
    cases k == 3
    · cases k == 4
      · cases k == 5
        · cases k == 6
          · exact h
          · match l,ok with
            | [],_=>exact h
            | y::l,ok=>exact mR y b (iu ok y (by simp)) h
        · exact rR l _ b (iu ok) h
      · exact rU l _ b (iu ok) h
    · intro v hv
      rcases List.mem_append.1 hv with hv|hv
      · exact h v hv
      · rw [List.mem_singleton.1 hv]; exact yM (vM ok)
theorem rU:∀(l:List T_Regex) (x:Pt) (b:Bs),(∀y∈l,bR y)→(∀v∈b.S,W4 v)→∀v∈(fW l x b).2.S,W4 v
  | [],_,_,_,h=>by simpa [fW] using h
  | y::l,x,b,ok,h=>by
    simp only [fW]
    exact rU l _ _ (fun z hz=>ok z (by simp [hz])) (mR y b (ok y (by simp)) h)
theorem rR:∀(l:List T_Regex) (x:Pt) (b:Bs),(∀y∈l,bR y)→(∀v∈b.S,W4 v)→∀v∈(gP l x b).2.S,W4 v
  | [],_,_,_,h=>by simpa [gP] using h
  | y::l,x,b,ok,h=>by
    simp only [gP]
    exact rR l _ _ (fun z hz=>ok z (by simp [hz])) (mR y b (ok y (by simp)) h)
end
theorem rl:∀(l:List T_Regex) (i:Nat) (s:Bs×List Int),(∀y∈l,bR y)→(∀v∈s.1.S,W4 v)→∀v∈(gM i l s).1.S,W4 v
  | [],_,_,_,h=>h
  | y::l,i,s,ok,h=>rl l (i+1) (tB i y s) (fun z hz=>ok z (by simp [hz])) (mR y s.1 (ok y (by simp)) h)
theorem uC {l:List T_Regex} (ok:∀x∈l,bR x) (hp:bp l≤500):FitN (nL l):=by
  obtain ⟨hv,hl⟩:=mg hp
  refine hv.fit (by omega) fun a ha=>?_
  obtain ⟨p,q,_,_,_,rfl⟩:=pe.1 ha
  show W4 ((gM 0 l fD).1.S.getD (q - 1) (aA.zero 4))
  rw [List.getD_eq_getElem?_getD]
  cases h:(gM 0 l fD).1.S[q - 1]? with
  | none=>exact eP
  | some v=>exact rl l 0 fD ok (by simp [fD]) v (List.mem_of_getElem? h)
section
variable (l:List T_Regex)
def sJ (j:Nat):Bs×List Int:=gM 0 (l.take j) fD
def xJ (j:Nat):T_Regex:=l.getD j de
def pJ (j:Nat):Pt:=(bd (xJ l j) (sJ l j).1).1
def lo (j:Nat):Nat:=(sJ l j).1.S.length
end
structure CR (l:List T_Regex) (k:Nat) (a:List Int):Prop where
  inn:∀j,j<k→∀p∈(pJ l j).la,a[p]?=some (j:Int)
  out:∀p v,0<p→a[p]?=some v→0≤v→∃j,j<k∧v=(j:Int)∧p∈(pJ l j).la
  zero:(a[0]?=some (-1)∧∀j,j<k→(pJ l j).nl=false)∨∃j,j<k∧a[0]?=some (j:Int)∧(pJ l j).nl=true∧∀i,i<j→(pJ l i).nl=false
end Go.Proofs.YtlcdifnmkafcfaaGreat
namespace Go.Proofs.YtlcdifnmkafcfaaGreat
open Go.Lx
def dG {α β:Type} (A:Option α) (B:Option β) (Q:α→β→Prop):Prop:=∃a b,A=some a∧B=some b∧Q a b
section
variable {α β α' β' σ τ:Type} {P:α→β→Prop} {Q:α'→β'→Prop}
theorem dG.pure {a:α'} {b:β'} (h:Q a b):dG (some a) (some b) Q:=⟨a,b,rfl,rfl,h⟩
theorem dG.bb {A:Option α} {B:Option β} {f:α→Option α'} {g:β→Option β'} (h:dG A B P) (k:∀a b,P a b→dG (f a) (g b) Q):dG (A.bind f) (B.bind g) Q:=by
  obtain ⟨a,b,rfl,rfl,hp⟩:=h
  exact k a b hp
theorem dG.l {A:Option α} {B:Option β'} {f:α→Option α'} {a:α} (h:A=some a) (k:dG (f a) B Q):dG (A.bind f) B Q:=by subst h; exact k
theorem dG.r {A:Option α'} {B:Option β} {g:β→Option β'} {b:β} (h:B=some b) (k:dG A (g b) Q):dG A (B.bind g) Q:=by subst h; exact k
theorem dG.cl {b:Bool} {x y:Option α'} {B:Option β'} (v:Bool) (h:b=v) (ht:v=true→dG x B Q) (hf:v=false→dG y B Q):dG (bif b then x else y) B Q:=by
  subst h; cases b
  · exact hf rfl
  · exact ht rfl
theorem dG.sl {ρ:Type} {R:ρ→β'→Prop} {A:Option (cJ σ ρ)} {B:Option β'} {f:σ→Option ρ} {a:σ} (h:A=some (.next a)) (k:dG (f a) B R):dG (bk A f) B R:=by subst h; exact k
theorem dG.er {A:Option α'} {B B':Option β'} (h:B=B') (k:dG A B' Q):dG A B Q:=h ▸ k
theorem dG.sb {ρ:Type} {P:cJ σ ρ→β→Prop} {R:ρ→β'→Prop} {A:Option (cJ σ ρ)} {B:Option β} {f:σ→Option ρ} {g:β→Option β'} (h:dG A B P) (kn:∀a b,P (.next a) b→dG (f a) (g b) R)
    (ks:∀x b,P (.stop x) b→dG (some x) (g b) R):dG (bk A f) (B.bind g) R:=by
  obtain ⟨a,b,rfl,rfl,hp⟩:=h
  cases a with
  | next a=>exact kn a b hp
  | stop x=>exact ks x b hp
theorem dG.on_ret {γ:Type} {x:γ} {k:γ→Option α'} {pp:Int→Option α'} {B:Option β'} (h:dG (k x) B Q):dG ((Rt.ret x).on k pp) B Q:=h
theorem dG.on_pan {γ:Type} {x:Int} {k:γ→Option α'} {pp:Int→Option α'} {B:Option β'} (h:dG (pp x) B Q):dG ((Rt.pan x:Rt γ).on k pp) B Q:=h
theorem gn {α:Type} {b:Bool} {x y r:α} (h:b=true) (k:x=r):(bif b then x else y)=r:=by subst h; exact k
theorem dL {α:Type} {b:Bool} {x y r:α} (h:b=false) (k:y=r):(bif b then x else y)=r:=by subst h; exact k
theorem dG.loop {ρ ρ':Type} {Q:ρ→ρ'→Prop} {bA:σ→Option (cJ σ ρ)} {bB:τ→Option (cJ τ ρ')} (R:σ→τ→Nat→Prop)
    (h:∀m a b,R a b m→(∃a' b' m',bA a=some (.next a')∧bB b=some (.next b')∧m'<m∧R a' b' m')∨
      (∃x,bA a=some (.stop x)∧((∃y,bB b=some (.stop y)∧Q x y)∨∃b' y,bB b=some (.next b')∧bB b'=some (.stop y)∧Q x y))) :
    ∀m kA kB a b,m<kA→m+1<kB→R a b m→dG (bg bA kA a) (bg bB kB b) Q:=by
  intro m
  induction m using Nat.strongRecOn with
  | _ m ih=>
    intro kA kB a b hA hB hR
    obtain ⟨kA,rfl⟩:∃k,kA=k+1:=⟨kA - 1,by omega⟩
    obtain ⟨kB,rfl⟩:∃k,kB=k+2:=⟨kB - 2,by omega⟩
    rcases h m a b hR with ⟨a',b',m',d,c,hm,hR'⟩|⟨x,d,⟨y,c,hq⟩|⟨b',y,c,e,hq⟩⟩
    · have:=ih m' hm kA (kB+1) a' b' (by omega) (by omega) hR'
      simp only [bg,d,c] at this ⊢
      exact this
    · exact ⟨x,y,by simp only [bg,d],by simp only [bg,c],hq⟩
    · exact ⟨x,y,by simp only [bg,d],by simp only [bg,c,e],hq⟩
end
def Bz (br:Bool):Str:=bif br then [93,92,45] else [40,41,91,93,124,42,43,63,46,92]
def pl (br:Bool) (c:Nat):Bool:=decide (32≤c∧c≤126) && !((Bz br).map UInt8.toNat).contains c
theorem xF:∀br,∀c:Nat,c<256→(bif decide ((c:Int)<32) then some true else bif decide (126<(c:Int)) then some true else (M.h0 (Bz br) (c:Int)).bind fun r=>some (decide (0≤r)))=some (!pl br c):=by decide +kernel
theorem zg:∀br,∀c:Nat,c<256→M.i0 (c:Int) br=some (pl br c):=by decide +kernel
theorem zh:∀br,M.i0 (-1) br=some false:=by decide +kernel
def es (c:Nat):Bool:=decide (32≤c∧c≤126) && !(decide (48≤c∧c≤57) || decide (97≤c∧c≤122) || decide (65≤c∧c≤90))
theorem xY:∀c:Nat,c<256→(bif decide ((c:Int)<32) then some true else bif decide (126<(c:Int)) then some true else (M.e5 (c:Int)).bind fun r=>some r)=some (!es c):=by decide +kernel
theorem wk:∀c:Nat,c<256→(bif decide (32≤(c:Int)) then bif decide ((c:Int)≤126) then (M.h1 (c:Int)).bind fun r=>some (!r) else some false else some false)=some (es c):=by decide +kernel
theorem zu:(bif decide ((32:Int)≤-1) then bif decide ((-1:Int)≤126) then (M.h1 (-1)).bind fun r=>some (!r) else some false else some false)=some false:=by decide +kernel
section
variable {s:Str} (hs:s.length≤1000000)
theorem fA {p:Nat} {b:Bool} (h:p<s.length):M.a0 ⟨s,p,b⟩=some ((s[p]).toNat:Int):=by
  unfold M.a0
  simp only [dT (show ¬ (s.length:Int)≤(p:Int) by omega),cond_false,dC h,Option.bind_some]
  rw [ei (by omega) (by have:=(s[p]).toNat_lt; omega)]
theorem jg {b:Bool}:M.a0 ⟨s,(s.length:Nat),b⟩=some (-1):=by
  unfold M.a0
  simp only [dS (show (s.length:Int)≤(s.length:Int) by omega),cond_true]
theorem tL {p:Nat} (h:p<s.length):M.a1 ⟨s,p⟩=some ((s[p]).toNat:Int):=by
  unfold M.a1
  simp only [dS (show (p:Int)<(s.length:Int) by omega),cond_true,dC h,Option.bind_some]
theorem vF:M.a1 ⟨s,(s.length:Nat)⟩=some 0:=by
  unfold M.a1
  simp only [dT (show ¬ (s.length:Int)<(s.length:Int) by omega),cond_false]
def Cz (s:Str) (p:Nat) (a:Rt (Int×aC)) (b:Int×aF):Prop:=
  (∃c q:Nat,p+1≤q∧q≤s.length∧c<256∧a=.ret ((c:Int),⟨s,q⟩)∧b=((c:Int),⟨s,q,false⟩))∨(∃q:Nat,q≤s.length∧a=.pan q∧b=(0,⟨s,q,true⟩))
include hs
theorem ta {p:Nat} (hp:p≤s.length):∃a,M.c9 ⟨s,p⟩=some a∧((∃c:Nat,p<s.length∧c<256∧a=.ret ((c:Int),⟨s,(p+1:Nat)⟩)∧
      (∃h:p<s.length,((s[p]).toNat=110∧c=10)∨((s[p]).toNat≠110∧(s[p]).toNat=116∧c=9)∨((s[p]).toNat≠110∧(s[p]).toNat≠116∧es (s[p]).toNat=true∧c=(s[p]).toNat)))∨
      (a=.pan p∧(p=s.length∨∃h:p<s.length,(s[p]).toNat≠110∧(s[p]).toNat≠116∧es (s[p]).toNat=false))):=by
  unfold M.c9
  rcases Nat.lt_or_eq_of_le hp with h|h
  · have hc:(s[p]).toNat<256:=(s[p]).toNat_lt
    have f:(((p:Nat):Int) == (s.length:Int))=false:=bL (by omega)
    simp only [f,cond_false,bk,dC h,Option.bind_some]
    by_cases b:(s[p]).toNat=110
    · simp only [iI (show ((s[p]).toNat:Int)=110 by omega),cond_true,aX (show p<9223372036854775807 by omega),Option.bind_some]
      exact ⟨_,rfl,.inl ⟨10,h,by omega,rfl,h,.inl ⟨b,rfl⟩⟩⟩
    · by_cases d:(s[p]).toNat=116
      · simp only [bL (show ((s[p]).toNat:Int)≠110 by omega),iI (show ((s[p]).toNat:Int)=116 by omega),cond_false,cond_true,aX (show p<9223372036854775807 by omega),Option.bind_some]
        exact ⟨_,rfl,.inl ⟨9,h,by omega,rfl,h,.inr (.inl ⟨b,d,rfl⟩)⟩⟩
      · simp only [bL (show ((s[p]).toNat:Int)≠110 by omega),bL (show ((s[p]).toNat:Int)≠116 by omega),cond_false,xY _ hc,Option.bind_some]
        cases e:es (s[p]).toNat
        · simp only [Bool.not_false,cond_true,M.a2,Option.bind_some,Rt.on]
          exact ⟨_,rfl,.inr ⟨rfl,.inr ⟨h,b,d,e⟩⟩⟩
        · simp only [Bool.not_true,cond_false,aX (show p<9223372036854775807 by omega),Option.bind_some]
          exact ⟨_,rfl,.inl ⟨_,h,hc,rfl,h,.inr (.inr ⟨b,d,e,rfl⟩)⟩⟩
  · subst h
    simp only [beq_self_eq_true,cond_true,M.a2,Option.bind_some,Rt.on,bk]
    exact ⟨_,rfl,.inr ⟨rfl,.inl trivial⟩⟩
theorem oe {p:Nat} (hp:p≤s.length) (br:Bool):dG (M.b2 ⟨s,p⟩ (Bz br)) (M.a7 ⟨s,p,false⟩ br) (Cz s p):=by
  unfold M.b2 M.a7
  rcases Nat.lt_or_eq_of_le hp with h|h
  · have hc:(s[p]).toNat<256:=(s[p]).toNat_lt
    have g:(((p:Nat):Int) == (s.length:Int))=false:=bL (by omega)
    simp only [g,cond_false,bk,dC h,Option.bind_some,fA h]
    by_cases l:(s[p]).toNat=92
    · simp only [iI (show ((s[p]).toNat:Int)=92 by omega),cond_true,aX (show p<9223372036854775807 by omega),Option.bind_some]
      obtain ⟨a,ha,hcase⟩:=ta hs (p:=p+1) h
      simp only [ha,Option.bind_some]
      rcases hcase with ⟨c,i,j,rfl,hh,hcc⟩|⟨rfl,hh⟩
      · have b:(s[p+1]).toNat<256:=(s[p+1]).toNat_lt
        have e:bV .i64 (((p+1:Nat):Int)+1)=some ((p+1+1:Nat):Int):=aX (by omega)
        simp only [Rt.on,fA hh,Option.bind_some]
        rcases hcc with ⟨g1,rfl⟩|⟨g1,f,rfl⟩|⟨g1,f,d,rfl⟩
        · simp only [iI (show ((s[p+1]).toNat:Int)=110 by omega),cond_true,e,Option.bind_some]
          exact .pure (.inl ⟨10,p+1+1,by omega,hh,by omega,rfl,rfl⟩)
        · simp only [bL (show ((s[p+1]).toNat:Int)≠110 by omega),iI (show ((s[p+1]).toNat:Int)=116 by omega),cond_false,cond_true,e,Option.bind_some]
          exact .pure (.inl ⟨9,p+1+1,by omega,hh,by omega,rfl,rfl⟩)
        · simp only [bL (show ((s[p+1]).toNat:Int)≠110 by omega),bL (show ((s[p+1]).toNat:Int)≠116 by omega),cond_false,wk _ b,d,Option.bind_some,cond_true,e]
          exact .pure (.inl ⟨_,p+1+1,by omega,hh,b,rfl,rfl⟩)
      · simp only [Rt.on]
        rcases hh with hh|⟨hh,g1,f,d⟩
        · rw [hh,jg]
          simp only [Option.bind_some,show ((-1:Int) == 110)=false from rfl,show ((-1:Int) == 116)=false from rfl,cond_false,zu]
          exact .pure (.inr ⟨s.length,Nat.le_refl _,by rw [←hh],rfl⟩)
        · have b:(s[p+1]).toNat<256:=(s[p+1]).toNat_lt
          simp only [fA hh,Option.bind_some,bL (show ((s[p+1]).toNat:Int)≠110 by omega),bL (show ((s[p+1]).toNat:Int)≠116 by omega),cond_false,wk _ b,d]
          exact .pure (.inr ⟨p+1,h,rfl,rfl⟩)
    · simp only [bL (show ((s[p]).toNat:Int)≠92 by omega),cond_false,xF br _ hc,zg br _ hc,Option.bind_some]
      cases k:pl br (s[p]).toNat
      · simp only [Bool.not_false,cond_true,M.a2,Option.bind_some,Rt.on]
        exact .pure (.inr ⟨p,hp,rfl,rfl⟩)
      · simp only [Bool.not_true,cond_false,aX (show p<9223372036854775807 by omega),Option.bind_some]
        exact .pure (.inl ⟨_,p+1,by omega,h,hc,rfl,rfl⟩)
  · subst h
    simp only [beq_self_eq_true,cond_true,M.a2,Option.bind_some,Rt.on,bk,jg,show ((-1:Int) == 92)=false from rfl,cond_false,zh,Bool.not_false]
    exact .pure (.inr ⟨s.length,Nat.le_refl _,rfl,rfl⟩)
end
theorem ko {v:aA 4} (hv:W4 v) {c:Nat} (hc:c<256):M.e6 v (c:Int)=some (ej v c):=by
  have a:2 ^ (c % 64)<18446744073709551616:=Nat.pow_lt_pow_right (n:=64) (by omega) (Nat.mod_lt _ (by omega))
  have l:=jd (k:=.i64) (c:=c) (ei (by omega) (by omega))
  have j:=fZ hv (i:=c / 64) (by omega)
  have h:jM (c:Int) 64=some ((c % 64:Nat):Int):=jv (b:=64) (by omega)
  have g:=na (t:=c % 64) (by omega)
  have f:=gq (fY hv (c / 64)) a
  have e:=iP (v:=v) (i:=c / 64) (x:=wd v (c / 64) ||| 2 ^ (c % 64)) (by omega)
  have d:IntKind.u64.wrap ((c % 64:Nat):Int)=((c % 64:Nat):Int):=gQ (by omega) (by omega)
  unfold M.e6 ej
  simp only [l,j,h,d,g,f,e,Option.bind_some]
theorem ut {v:aA 4} (hv:W4 v):M.k0 v=some (kf v):=gO hv
theorem mS (l:List Nat) {v:aA 4} (hv:W4 v):W4 (l.foldl ej v):=rp l v hv
theorem qO {lo hi:Nat} (h:hi<256):∀b∈fq lo hi,b<256:=by
  intro b hb
  simp only [fq,List.mem_map,List.mem_range] at hb
  obtain ⟨i,hi,rfl⟩:=hb
  omega
theorem qA {v:aA 4} (hv:W4 v) {lo hi:Nat} (h:hi<256):ke v (qX (fq lo hi))=(fq lo hi).foldl ej v:=by
  refine xx (wO hv (me _)) (mS _ hv) fun b hb=>?_
  rw [uF hb,xO (qO h),pk _ _ (qO h)]
theorem nR {σ ρ:Type} {body:σ→Option (cJ σ ρ)} {a:σ} {r:ρ} (k:Nat) (h:body a=some (.stop r)):bg body (k+1) a=some r:=by simp only [bg,h]
theorem sT {σ ρ:Type} {body:σ→Option (cJ σ ρ)} {a b:σ} (k:Nat) (h:body a=some (.next b)):bg body (k+1) a=bg body k b:=by simp only [bg,h]
theorem pj:aU=18446744073709551615+1:=by unfold aU; rfl
theorem ia {σ ρ:Type} {body:σ→Option (cJ σ ρ)} {a:σ} {r:ρ} (h:body a=some (.stop r)):bg body aU a=some r:=by rw [pj]; exact nR _ h
theorem pg {σ ρ:Type} {body:σ→Option (cJ σ ρ)} {a b:σ} (h:body a=some (.next b)):bg body aU a=bg body 18446744073709551615 b:=by rw [pj]; exact sT _ h
theorem oU {ρ:Type} {set:aA 4} (hv:W4 set) {lo hi:Nat} (hl:lo≤hi) (hh:hi<256) {X:aA 4→ρ} {body:aA 4×Int→Option (cJ (aA 4×Int) ρ)}
    (hb:∀v x,body (v,x)=(some (decide (x≤(hi:Int)))).bind fun c=>bif c then (M.e6 v x).bind fun r=>(bV .i64 (x+1)).bind fun t=>some (.next (r,t)) else some (.stop (X v))) :
    bg body aU (set,(lo:Int))=some (X ((fq lo hi).foldl ej set)):=by
  have gL:∀i,i≤hi - lo+1→W4 (((List.range i).map (lo+·)).foldl ej set):=fun i _=>mS _ hv
  refine gj (body:=body) (fun i=>(((List.range i).map (lo+·)).foldl ej set,((lo+i:Nat):Int))) (hi+1 - lo) (fun i hi'=>?_) ?_ aU (jD (by omega))
  · have e:bV .i64 (((lo+i:Nat):Int)+1)=some ((lo+(i+1):Nat):Int):=by rw [dv (by omega) (by omega)]; rfl
    rw [hb]
    simp only [dS (show ((lo+i:Nat):Int)≤(hi:Int) by omega),Option.bind_some,cond_true,ko (gL i (by omega)) (show lo+i<256 by omega),e]
    rw [List.range_succ,List.map_append,List.foldl_append]
    rfl
  · rw [hb]
    simp only [dT (show ¬ ((lo+(hi+1 - lo):Nat):Int)≤(hi:Int) by omega),Option.bind_some,cond_false]
    rfl
def tH (s:Str) (p:Int) (set:aA 4):Option (cJ (Str×Int×Bool×(aA 4)×Bool) (Str×Int×Bool×(aA 4))):=
    (M.a7 (aF.mk s p false) true).bind fun a=>
    (
     (
      bif (!a.2.bad) then
       (M.a0 a.2).bind fun o=>
       some (o == 45)
      else
       some false).bind fun (i:Bool)=>
     bif i then
      (bV .i64 (a.2.atv+1)).bind fun f=>
      (M.a7 (aF.mk a.2.s f a.2.bad) true).bind fun b=>
      (
       bif (!b.2.bad) then
        some (decide (b.1<a.1))
       else
        some false).bind fun (h:Bool)=>
      bif h then
       some (b.2.s,f,true,b.1)
      else
       some (b.2.s,b.2.atv,b.2.bad,b.1)
     else
      some (a.2.s,a.2.atv,a.2.bad,a.1)).bind fun (k,l,e,j)=>
    bg (fun (m:(aA 4)×Int)=>match m with
    | (d,c)=>
     (
      bif (!e) then
       some (decide (c≤j))
      else
       some false).bind fun (g:Bool)=>
     bif g then
      (M.e6 d c).bind fun n=>
      (bV .i64 (c+1)).bind fun t46=>
      some (.next (n,t46))
     else
      some (.stop (.next (k,l,e,d,false)))) aU (set,a.1)
section
variable {s:Str} (hs:s.length≤1000000)
theorem fG {q:Nat} (hq:q≤s.length):∃x y,M.a1 ⟨s,q⟩=some x∧M.a0 ⟨s,q,false⟩=some y∧(∀v:Int,v≠0→v≠-1→(x == v)=(y == v))∧(∀v:Int,v≠0→x=v→q<s.length):=by
  rcases Nat.lt_or_eq_of_le hq with h|h
  · exact ⟨_,_,tL h,fA h,fun _ _ _=>rfl,fun _ _ _=>h⟩
  · subst h
    exact ⟨_,_,vF,jg,fun v b a=>by rw [bL (fun e=>b e.symm),bL (fun e=>a e.symm)],fun v b a=>absurd a.symm b⟩
def Cy (s:Str) (p:Nat) (set:aA 4) (a:Rt ((aA 4)×aC)) (b:cJ (Str×Int×Bool×(aA 4)×Bool) (Str×Int×Bool×(aA 4))):Prop:=
  (∃lo hi q:Nat,p+1≤q∧q≤s.length∧lo≤hi∧hi<256∧a=.ret (qX (fq lo hi),⟨s,q⟩)∧b=.next (s,q,false,(fq lo hi).foldl ej set,false))∨
  (∃q:Nat,q≤s.length∧a=.pan q∧b=.next (s,q,true,set,false))
include hs
theorem ru {p:Nat} (hp:p≤s.length) {set:aA 4} (hv:W4 set):dG (M.b5 ⟨s,p⟩) (tH s p set) (Cy s p set):=by
  unfold M.b5 tH
  have u:=oe hs hp true
  refine dG.bb u ?_
  rintro a b (⟨c,q,k,i,hc,rfl,rfl⟩|⟨q,hq,rfl,rfl⟩)
  · simp only [Rt.on]
    obtain ⟨x,y,hx,hy,hxy,hlt⟩:=fG i
    have o:=hxy 45 (by decide) (by decide)
    simp only [Bool.not_false,cond_true,hx,hy,Option.bind_some]
    rw [←o]
    cases h:(x == (45:Int))
    · refine dG.sl rfl (dG.l (ov hc hc) (dG.r (b:=(s,(q:Int),false,(c:Int))) rfl ?_))
      refine ⟨_,_,rfl,oU hv (Nat.le_refl c) hc (X:=fun v=>.next (s,(q:Int),false,v,false)) (fun v x=>rfl),.inl ⟨c,c,q,k,i,Nat.le_refl _,hc,rfl,rfl⟩⟩
    · have g:=hlt 45 (by decide) (cH h)
      simp only [cond_true,aX (show q<9223372036854775807 by omega),Option.bind_some]
      have t:=oe hs (p:=q+1) g true
      obtain ⟨w,A,n,m,hcase⟩:=t
      have ha2':M.b2 ⟨s,((q+1:Nat):Int)⟩ [93,92,45]=some w:=n
      simp only [ha2',m,Option.bind_some]
      rcases hcase with ⟨c2,d,f,j,e,rfl,rfl⟩|⟨d,f,rfl,rfl⟩
      · simp only [Rt.on,Bool.not_false,cond_true,Option.bind_some]
        by_cases z:c2<c
        · simp only [dS (show (c2:Int)<(c:Int) by omega),cond_true,M.a2,Option.bind_some,Rt.on,bk]
          exact ⟨_,_,rfl,ia rfl,.inr ⟨q+1,g,rfl,rfl⟩⟩
        · rw [show decide ((c2:Int)<(c:Int))=false from dT (by omega)]
          refine dG.sl rfl (dG.l (ov hc e) (dG.r (b:=(s,(d:Int),false,(c2:Int))) rfl ?_))
          exact ⟨_,_,rfl,oU hv (by omega:c≤c2) e (X:=fun v=>.next (s,(d:Int),false,v,false)) (fun v x=>rfl),.inl ⟨c,c2,d,by omega,j,by omega,e,rfl,rfl⟩⟩
      · simp only [Rt.on,Bool.not_true,cond_false,Option.bind_some,bk]
        exact ⟨_,_,rfl,ia rfl,.inr ⟨d,f,rfl,rfl⟩⟩
  · simp only [Rt.on,Bool.not_true,cond_false,Option.bind_some]
    exact ⟨_,_,rfl,ia rfl,.inr ⟨q,hq,rfl,rfl⟩⟩
def CA (s:Str) (p:Nat) (a:Rt ((aA 4)×aC)) (b:T_Regex×aF):Prop:=
  (∃(set:aA 4) (q:Nat),p+1≤q∧q≤s.length∧W4 set∧a=.ret (set,⟨s,q⟩)∧b=(⟨3,set,[]⟩,⟨s,q,false⟩))∨(∃(q:Nat) (y:T_Regex),q≤s.length∧a=.pan q∧b=(y,⟨s,q,true⟩))
theorem rL {p:Nat} (hp:p<s.length) (A:(s[p]).toNat=91):dG (M.c5 ⟨s,p⟩) (M.c1 ⟨s,(p+1:Nat),false⟩) (CA s p):=by
  unfold M.c5 M.c1
  have hex:M.a3 ⟨s,p⟩ 91=some (.ret ⟨s,(p+1:Nat)⟩):=by
    unfold M.a3
    simp only [bL (show (p:Int)≠(s.length:Int) by omega),cond_false,dC hp,Option.bind_some,mi (show ((s[p]).toNat:Int)=91 by omega),bk,aX (show p<9223372036854775807 by omega)]
  obtain ⟨x,y,hx,hy,hxy,hlt⟩:=fG (s:=s) (q:=p+1) hp
  have u:=hxy 94 (by decide) (by decide)
  simp only [hex,Option.bind_some,Rt.on,hx,hy]
  rw [←u]
  -- the place behind the sign
  obtain ⟨d,t,z,hsel⟩:∃d:Nat,d≤s.length∧p+1≤d∧(bif x == (94:Int) then (bV .i64 (((p+1:Nat):Int)+1)).bind fun n=>some n else some ((p+1:Nat):Int))=some (d:Int):=by
    cases h:(x == (94:Int))
    · exact ⟨p+1,hp,Nat.le_refl _,rfl⟩
    · have:=hlt 94 (by decide) (cH h)
      exact ⟨p+2,by omega,by omega,by rw [cond_true,aX (by omega)]; rfl⟩
  generalize hng:(x == (94:Int))=ng at hsel ⊢
  refine dG.l hsel (dG.r hsel ?_)
  obtain ⟨w,v,g,c,hcase⟩:=ru hs t eP
  refine dG.l g ?_
  rcases hcase with ⟨lo,hi,q,o,j,hlh,hhi,rfl,rfl⟩|⟨q,hq,rfl,rfl⟩
  · refine dG.sb (P:=fun (a:cJ (Str×Int×(aA 4)) (Rt ((aA 4)×aC))) (b:Str×Int×Bool×(aA 4))=>
        (∃(q:Nat) (set:aA 4),q<s.length∧p+1≤q∧W4 set∧a=.next (s,(q:Int),set)∧b=(s,(q:Int),false,set))∨(∃(q:Nat) (set:aA 4),q≤s.length∧a=.stop (.pan q)∧b=(s,(q:Int),true,set)))
      (dG.er (pg c) (dG.loop (fun (a:Str×Int×(aA 4)) (b:Str×Int×Bool×(aA 4)×Bool) m=>∃(q:Nat) (set:aA 4),q≤s.length∧p+1≤q∧W4 set∧a=(s,(q:Int),set)∧b=(s,(q:Int),false,set,false)∧m=s.length - q) ?_
        (s.length - q) _ _ _ _ (by unfold aU; omega) (by omega) ⟨q,(fq lo hi).foldl ej (aA.zero 4),j,by omega,mS _ eP,rfl,rfl,rfl⟩)) ?_ ?_
    · rintro m _ _ ⟨q,set,hq,hpq,hv,rfl,rfl,rfl⟩
      obtain ⟨x,y,hx,hy,hxy,hlt⟩:=fG hq
      have k:=hxy 93 (by decide) (by decide)
      cases h:(x == (93:Int))
      · have c:(x != (93:Int))=true:=by rw [bne,h]; rfl
        have f:(y != (93:Int))=true:=by rw [bne,←k,h]; rfl
        obtain ⟨w,v,g,hb1',hcase⟩:=ru hs hq hv
        rcases hcase with ⟨lo,hi,q',o,j,hlh,hhi,rfl,rfl⟩|⟨q',hq',rfl,rfl⟩
        · refine .inl ⟨(s,(q':Int),ke set (qX (fq lo hi))),_,s.length - q',aO hx (gn c (aO g (aO (wP hv (me _)) rfl))),aO (x:=true) (aO hy (congrArg some f)) hb1',by omega,?_⟩
          exact ⟨q',_,j,by omega,mS _ hv,by rw [qA hv hhi],rfl,rfl⟩
        · refine .inr ⟨.stop (.pan q'),aO hx (gn c (aO g rfl)),.inr ⟨(s,(q':Int),true,set,false),(s,(q':Int),true,set),aO (x:=true) (aO hy (congrArg some f)) hb1',rfl,?_⟩⟩
          exact .inr ⟨q',set,hq',rfl,rfl⟩
      · have c:(x != (93:Int))=false:=by rw [bne,h]; rfl
        have f:(y != (93:Int))=false:=by rw [bne,←k,h]; rfl
        refine .inr ⟨.next (s,(q:Int),set),aO hx (dL c rfl),.inl ⟨(s,(q:Int),false,set),aO (x:=false) (aO hy (congrArg some f)) rfl,?_⟩⟩
        exact .inl ⟨q,set,hlt 93 (by decide) (cH h),hpq,hv,rfl,rfl⟩
    · rintro a b (⟨q,set,hq,hpq,hv,e,rfl⟩|⟨q,set,hq,e,rfl⟩)
      · cases e
        refine dG.l (aX (i:=q) (by omega)) (dG.r (aX (i:=q) (by omega)) ?_)
        cases ng
        · exact .pure (.inl ⟨set,q+1,by omega,hq,hv,rfl,rfl⟩)
        · exact dG.l (gO hv) (dG.r (b:=kf set) (aO (ut hv) rfl) (.pure (.inl ⟨kf set,q+1,by omega,hq,rX hv,rfl,rfl⟩)))
      · cases e
    · rintro x b (⟨q,set,hq,hpq,hv,e,rfl⟩|⟨q,set,hq,e,rfl⟩)
      · cases e
      · cases e
        exact .pure (.inr ⟨q,_,hq,rfl,rfl⟩)
  · exact dG.r (b:=(s,(q:Int),true,aA.zero 4)) ((pg c).trans (nR 18446744073709551614 rfl)) (.pure (.inr ⟨q,_,hq,rfl,rfl⟩))
end
end Go.Proofs.YtlcdifnmkafcfaaGreat
