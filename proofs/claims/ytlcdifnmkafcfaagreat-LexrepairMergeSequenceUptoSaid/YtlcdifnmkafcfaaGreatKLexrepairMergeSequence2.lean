/- Part 2. -/
import Derived.Laws.Cover1
import Derived.Laws.Small
import Derived.Laws.CopyRow
import Derived.Laws.IdiomCopy
import Derived.Laws.Runes
import Derived.Laws.Strings2
import Derived.Laws.Slices
import Derived.RangeFuncRecord
import Derived.RecoverIn
import Derived.RangeFuncLeaves
import Derived.Lib.ConvBytes
import Derived.JoinedCond
import Derived.Shelf.Small.Strs
import Derived.Shelf.Strings.Search1
import Derived.Shelf.Strings.Search2
import Derived.Shelf.Strings.Cut
import Derived.Shelf.LaysM
import Derived.Shelf.Strings.Shaped
import Derived.Test.YtlcdifnmkafcfaaGreatProg
import Derived.Test.YtlcdifnmkafcfaaGreatKLexrepairMergeSequence1
namespace Go.Proofs
abbrev DA:=@Tryz.underlying27
abbrev DB:=@Tryz.underlying55
abbrev DC:=@Tryz.underlying9
abbrev DD:=@Tryz.underlying57
abbrev DE:=@Tryz.underlying90
abbrev DF:=@Tryz.underlying106
abbrev DG:=@Tryz.underlying34
abbrev DH:=@Tryz.underlying125
abbrev DI:=@Tryz.underlying103
abbrev DJ:=@Tryz.underlying24
abbrev DK:=@Tryz.underlying43
abbrev DL:=@Tryz.underlying22
abbrev DM:=@Tryz.underlying60
abbrev DN:=@Tryz.underlying93
abbrev DO:=@Tryz.underlying3
abbrev DP:=@Tryz.underlying28
abbrev DQ:=@Tryz.underlying81
abbrev DR:=@Tryz.underlying44
abbrev DS:=@Tryz.underlying54
abbrev DT:=@Tryz.underlying109
abbrev DU:=@Tryz.underlying30
abbrev DV:=@Tryz.underlying5
abbrev DW:=@Tryz.underlying79
abbrev DX:=@Tryz.underlying101
abbrev DY:=@Tryz.underlying98
abbrev DZ:=@Tryz.underlying118
abbrev Ea:=@Tryz.underlying112
abbrev Eb:=@Tryz.underlying4
abbrev Ec:=@Tryz.underlying52
abbrev Ed:=@Tryz.underlying99
abbrev Ee:=@Tryz.underlying142
end Go.Proofs
namespace Go.Lx
open Go.RowKit
inductive Rt (α:Type) where
  | ret (a:α)
  | pan (x:Int)
def Rt.on {α β:Type} (x:Rt α) (k:α→β) (p:Int→β):β:=match x with
  | .ret a=>k a
  | .pan x=>p x
def rh (v:Value):List PanicEntry:=[{ v:=v,recovered:=false }]
def tz (P:Program) (f:FuncId) (args:Array Value) (w:World) (v:Value) (R:World→Prop):Prop:=
  Calls P f args w fun e w'=>e=.panicked (rh v)∧R w'
def FX (P:Program) (fn:Func) (n:Fr) {α:Type} (T:TypeId) (o:Rt α) (R:α→Value→World→Prop) (R':World→Prop):EPost:=fun e E w=>match e,o with
  | .normal,.ret a=>FL P fn n E (R a) E.ds w
  | .ret,.ret a=>FL P fn n E (R a) E.ds w
  | .panic ch,.pan x=>ch=rh (.iface T (.int .i64 x))∧E.ds=[]∧R' w
  | _,_=>False
def fT (P:Program) (f:FuncId) (args:Array Value) (w:World) {α:Type} (T:TypeId) (o:Rt α) (R:α→Value→World→Prop) (R':World→Prop):Prop:=match o with
  | .ret a=>bi P f args w (R a)
  | .pan x=>tz P f args w (.iface T (.int .i64 x)) R'
instance {P:Program} {fn:Func} {n:Fr} {α:Type} {T:TypeId} {o:Rt α} {R:α→Value→World→Prop} {R':World→Prop}:eQ (FX P fn n T o R R'):=⟨fun c E E' w hd q=>by
  cases o with
  | ret a=>exact q
  | pan x=>exact ⟨q.1,hd ▸ q.2.1,q.2.2⟩⟩
section
variable {P:Program} {n:Fr} {Q:EPost} {E:Env} {w:World} {α:Type}
theorem da {f:FuncId} {fn:Func} {c:Code} {m:Nat} {args:List Value} {T:TypeId} {o:Rt α} {R:α→Value→World→Prop} {R':World→Prop} (hf:P.funcs[f]?=some fn) (hb:fn.body=some c) (hn:fn.ntmps=m) (hl:Nat.ble args.length m=true)
    (h:WP P ⟨m,none⟩ c (FX P fn ⟨m,none⟩ T o R R') (kH args) w):fT P f args.toArray w T o R R':=by
  subst hn
  have ib:=h _ (jK args _ (Nat.le_of_ble_eq_true hl))
  cases o with
  | ret a=>
    refine callsIn_wide (n:=0) |>.1 (callsIn_of_wp_marks (F:=Fz ⟨fn.ntmps,none⟩) hf hb trivial ?_)
    refine wpIn_mono ib ?_
    rintro e a' w ⟨E,hfit,q⟩
    cases e <;> first
      | exact q.elim
      | (show LeavesInM _ _ _ _ _ _ a'.defers _ _; rw [hfit.defers]; exact mh hfit E.ds w q)
  | pan x=>
    refine callsIn_wide (n:=0) |>.1 (callsIn_of_wp_marks (F:=Fz ⟨fn.ntmps,none⟩) hf hb trivial ?_)
    refine wpIn_mono ib ?_
    rintro e a' w ⟨E,hfit,q⟩
    cases e <;> first
      | exact q.elim
      | (show LeavesInM _ _ _ _ _ _ a'.defers _ _; rw [hfit.defers,q.2.1,q.1]; exact ⟨rfl,q.2.2⟩)
section
variable {ops:Array Oper} {rest:List Oper} {ty:TypeId} {ps:String} {af:Array Edge}
theorem xl {x:Operand} {T:TypeId} {v:Value} {dd:Option Tmp} (hx:ev E x=.iface T v) (h:Q (.panic (rh (.iface T v))) E w):OW P n ops Q (⟨dd,.panic x,ty,ps,af,none⟩::rest) E w:=by
  intro a ha
  refine wpListIn_plain rfl fun K hK=>⟨fun _ _=>trivial,?_⟩
  rw [Oper.semAt_eq _ _ _ (by simp),ha.eval]
  simp only [execOp,hx]
  exact ⟨E,ha,h⟩
theorem sS {o:Oper} {f:FuncId} {args:Array Value} {v:Value} {R:World→Prop} {a:Act} {K:Act→World→Prop} (ha:eH n E a)
    (hr:(execOp (ev E) o).run P w=.ok (.enter f args) w) (hc:tz P f args w v R) (k:∀w',R w'→Q (.panic (rh v)) E w'):o.wpIn (Fz n) 0 P a w K (lm n Q):=by
  refine kv ha hr (hc.mono fun e w' ⟨he,hR⟩=>?_)
  subst he
  exact ⟨E,ha,k w' hR⟩
theorem CN {f:FuncId} {xs:Array Operand} {ats:Array TypeId} {dd:Option Tmp} (args:List Value) {v:Value} {R:World→Prop} (hf:CF P f) (ha:xs.toList.map (ev E)=args) (hc:tz P f args.toArray w v R)
    (k:∀w',R w'→Q (.panic (rh v)) E w'):OW P n ops Q (⟨dd,.call { callee:=.value (.func f),args:=xs,argTypes:=ats },ty,ps,af,none⟩::rest) E w:=by
  obtain ⟨fn,d,c,b⟩:=hf
  exact fun a hfit=>wpListIn_plain rfl fun K hK=>sS hfit (sP d c b ha) hc k
end
end
theorem oH {α β:Type} {o:Option (Rt α)} {k:α→Option β} {kp:Int→Option β} {r:β} (h:(o.bind fun x=>x.on k kp)=some r) :
    (∃a,o=some (.ret a)∧k a=some r)∨(∃x,o=some (.pan x)∧kp x=some r):=by
  obtain ⟨x,h1,h2⟩:=ab h
  cases x with
  | ret a=>exact .inl ⟨a,h1,h2⟩
  | pan x=>exact .inr ⟨x,h1,h2⟩
theorem Sep.selT {g0 g:Hp} {w0 w:World} {A A' L:List Res} (h:Sep g0 w0 g w (A++L)) (is:List Nat) (hn:is.Nodup) (hl:A'.map some=is.map (A[·]?)):Sep g0 w0 g w (A'++L):=by
  have hlt:∀i∈is,i<A.length:=by
    intro i hi
    have:A[i]?∈A'.map some:=by rw [hl]; exact List.mem_map_of_mem hi
    obtain ⟨r,_,hr⟩:=List.mem_map.1 this
    exact (List.getElem?_eq_some_iff.1 hr.symm).1
  refine h.sel (is++(List.range L.length).map (A.length+·)) ?_ ?_
  · rw [List.nodup_append]
    refine ⟨hn,?_,fun a ha b hb=>?_⟩
    · exact List.pairwise_map.2 (List.nodup_range.imp fun {a b} hab he=>hab (by omega))
    · obtain ⟨c,_,rfl⟩:=List.mem_map.1 hb
      have:=hlt a ha; omega
  · rw [List.map_append,List.map_append]
    congr 1
    · rw [hl]
      refine List.map_congr_left fun i hi=>?_
      rw [List.getElem?_append_left (hlt i hi)]
    · rw [List.map_map]
      apply List.ext_getElem?
      intro i
      by_cases hi:i<L.length
      · simp [hi]
      · simp [hi]
section
variable {P:Program} {E:Env} {w:World} {d:Option Tmp} {ty:TypeId} {ps:String} {af:Array Edge} {gd:Option (Nat×Bool)}
theorem aE {x:Operand} {b o:Nat} (hx:ev E x=.pointer (some ⟨b,o,none⟩)):cr P E ⟨d,.nilCheck x,ty,ps,af,gd⟩ w (.pointer (some ⟨b,o,none⟩)) w:=.inl (by simp [execOp,hx])
theorem rc {T:TypeId} {x:Operand} {v:Value} (hT:P.concrete T=true) (hx:ev E x=v):cr P E ⟨d,.makeInterface T x,ty,ps,af,gd⟩ w (.iface T v) w:=.inl (by
  subst hx; simp [execOp,run_makeInterface w T _ hT])
def iS {α:Type} (l:List α) (i j:Int):Option (List α):=if 0≤i∧i≤j∧j≤l.length then some ((l.take j.toNat).drop i.toNat) else none
theorem jw {α:Type} {l m:List α} {i j:Int} (h:iS l i j=some m):0≤i∧i≤j∧j≤l.length∧m=(l.take j.toNat).drop i.toNat:=by
  unfold iS at h
  split at h
  · rename_i hc; simp only [Option.some.injEq] at h; exact ⟨hc.1,hc.2.1,hc.2.2,h.symm⟩
  · cases h
theorem iK (a:Str) (i j:Nat):(ByteArray.extract ⟨a.toArray⟩ i j)=⟨((a.take j).drop i).toArray⟩:=by
  apply ByteArray.ext
  rw [ByteArray.data_extract]
  simp [List.extract_eq_take_drop,List.drop_take]
theorem im (a:Str):(ByteArray.mk a.toArray).size=a.length:=by simp [ByteArray.size]
theorem rb {T:TypeId} {x lo:Operand} {a b:Str} {i:Int} {k:IntKind} (hT:P.underlying T=some .string) (hx:ev E x=ah a) (hlo:ev E lo=.int k i) (h:iS a i a.length=some b) :
    cr P E ⟨d,.slice T x (some lo) none none,ty,ps,af,gd⟩ w (ah b) w:=.inl (by
  obtain ⟨c,f,e,rfl⟩:=jw h
  simp only [execOp,Option.map_some,Option.map_none,hx,hlo,Sem.run_bind,run_sliceAt_string _ _ _ _ _ _ hT,ah]
  rw [run_slice_string_l w T _ hT k i c (by rw [im]; omega),iK,im,Int.toNat_natCast]
  rfl)
theorem mr {T:TypeId} {x hi:Operand} {a b:Str} {j:Int} {k:IntKind} (hT:P.underlying T=some .string) (hx:ev E x=ah a) (hhi:ev E hi=.int k j) (h:iS a 0 j=some b) :
    cr P E ⟨d,.slice T x none (some hi) none,ty,ps,af,gd⟩ w (ah b) w:=.inl (by
  obtain ⟨f,c,e,rfl⟩:=jw h
  simp only [execOp,Option.map_some,Option.map_none,hx,hhi,Sem.run_bind,run_sliceAt_string _ _ _ _ _ _ hT,ah]
  rw [run_slice_string_h w T _ hT k j c (by rw [im]; omega),iK]
  rfl)
theorem fe {T:TypeId} {agg:Bool} {size bytes:Nat} {z:Value} (h:eb P T agg size bytes z):(sizeOf T).run P w=.ok size w:=dy h
theorem uH {T el:TypeId} {agg:Bool} {size bytes:Nat} {z:Value} (hT:P.underlying T=some (.slice el)) (he:eb P el agg size bytes z) {a:Option Addr} {n cap:Nat} {lo hi:Option Value} {i j:Int}
    (hlo:(lo=none∧i=0)∨∃k,lo=some (.int k i)) (hhi:(hi=none∧j=n)∨∃k,hi=some (.int k j)) (b:0≤i) (c:i≤j) (d:j≤n) (hc:n≤cap) :
    (Instr.sliceAt T (.slice a n cap) lo hi none).run P w=.ok (sliced a i.toNat j.toNat cap size) w:=by
  have hE:P.elem T=el:=by simp [Program.elem,hT]
  have hT':P.underlying T=some (.slice (P.elem T)):=by rw [hE]; exact hT
  have he':eb P (P.elem T) agg size bytes z:=by rw [hE]; exact he
  rw [run_sliceAt_slice _ _ _ _ _ _ hT']
  rcases hlo with ⟨rfl,rfl⟩|⟨k,rfl⟩ <;> rcases hhi with ⟨rfl,rfl⟩|⟨k',rfl⟩
  · rw [run_slice_all w T a n cap hT',fe he']; simp [Result.andThen]
  · rw [run_slice_h w T a n cap hT' k' j (by omega) (by omega),fe he']; simp [Result.andThen]
  · rw [run_slice_l w T a n cap hT' k i b (by omega),fe he']; simp [Result.andThen]
  · rw [run_slice_lh w T a n cap hT' k k' i j b c (by omega),fe he']; simp [Result.andThen]
end
def qF (E:Env) (lo:Option Operand) (i dflt:Int):Prop:=(lo=none∧i=dflt)∨∃k y,lo=some y∧ev E y=.int k i
theorem qF.none {E:Env} {i:Int}:qF E none i i:=.inl ⟨rfl,rfl⟩
theorem qF.some {E:Env} {y:Operand} {i dflt:Int} {k:IntKind} (h:ev E y=.int k i):qF E (some y) i dflt:=.inr ⟨k,y,rfl,h⟩
theorem qF.val {E:Env} {lo:Option Operand} {i dflt:Int} (h:qF E lo i dflt):(lo.map (ev E)=.none∧i=dflt)∨∃k,lo.map (ev E)=.some (.int k i):=by
  rcases h with ⟨rfl,rfl⟩|⟨k,y,rfl,h⟩
  · exact .inl ⟨rfl,rfl⟩
  · exact .inr ⟨k,by rw [Option.map_some,h]⟩
theorem ak.sub {α:Type} {τ:Ty α} {g:Hp} {xs:List Value} {l:List α} (h:ak τ g xs l) (i j:Nat) (hj:j≤l.length):ak τ g ((xs.take (j*τ.sz)).drop (i*τ.sz)) ((l.take j).drop i):=by
  refine ⟨?_,fun q x hx=>?_⟩
  · have b:j*τ.sz≤xs.length:=by rw [h.1]; exact Nat.mul_le_mul_right _ hj
    rw [List.length_drop,List.length_drop,List.length_take,List.length_take,Nat.min_eq_left b,Nat.min_eq_left hj,Nat.sub_mul]
  · rw [List.getElem?_drop,List.getElem?_take] at hx
    split at hx
    · rename_i hlt
      have:=h.2 _ _ hx
      have e:((((xs.take (j*τ.sz)).drop (i*τ.sz)).drop (q*τ.sz)).take τ.sz)=(xs.drop ((i+q)*τ.sz)).take τ.sz:=by
        apply List.ext_getElem?
        intro p
        simp only [List.getElem?_take,List.getElem?_drop]
        split
        · rename_i hp
          have a:(i+q+1)*τ.sz≤j*τ.sz:=Nat.mul_le_mul_right _ hlt
          rw [Nat.succ_mul] at a
          have c:(i+q)*τ.sz=i*τ.sz+q*τ.sz:=Nat.add_mul _ _ _
          rw [if_pos (by omega)]
          congr 1
          omega
        · rfl
      rw [e]; exact this
    · cases hx
theorem xJ {α:Type} {l m:List α} {i j:Int} (h:iS l i j=some m):m.length=j.toNat - i.toNat:=by
  obtain ⟨h0,h1,h2,rfl⟩:=jw h
  rw [List.length_drop,List.length_take]
  omega
section
variable {P:Program} {E:Env} {w:World} {d:Option Tmp} {ty:TypeId} {ps:String} {af:Array Edge} {gd:Option (Nat×Bool)}
theorem cI.slice {α:Type} {τ:Ty α} {g:Hp} {v:Value} {l m:List α} (h:cI τ g v l) {i j:Int} (hs:iS l i j=some m) :
    ∃v',cI τ g v' m∧∀ {P:Program} {E:Env} {w:World} {d:Option Tmp} {ty:TypeId} {ps:String} {af:Array Edge} {gd:Option (Nat×Bool)} {T el:TypeId} {agg:Bool} {bytes:Nat} {z:Value} {x:Operand} {lo hi:Option Operand},
      P.underlying T=some (.slice el)→eb P el agg τ.sz bytes z→ev E x=v→qF E lo i 0→qF E hi j l.length→cr P E ⟨d,.slice T x lo hi none,ty,ps,af,gd⟩ w v' w:=by
  obtain ⟨k,f,c,hm⟩:=jw hs
  have hml:=xJ hs
  obtain ⟨xs,hr,hsl⟩:=h
  have run:∀(a:Option Addr) (cap:Nat),v=.slice a l.length cap→l.length≤cap→∀ {P:Program} {E:Env} {w:World} {d:Option Tmp} {ty:TypeId} {ps:String} {af:Array Edge} {gd:Option (Nat×Bool)} {T el:TypeId} {agg:Bool} {bytes:Nat} {z:Value} {x:Operand} {lo hi:Option Operand},
      P.underlying T=some (.slice el)→eb P el agg τ.sz bytes z→ev E x=v→qF E lo i 0→qF E hi j l.length→cr P E ⟨d,.slice T x lo hi none,ty,ps,af,gd⟩ w (sliced a i.toNat j.toNat cap τ.sz) w:=by
    intro a cap hv hc P E w d ty ps af gd T el agg bytes z x lo hi hT he hx hlo hhi
    exact ⟨by simp only [execOp,Option.map_none,hx,hv,Sem.run_bind,uH hT he hlo.val hhi.val k f c hc,Result.andThen_ok,Sem.run_pure]⟩
  rcases hsl with ⟨hn,hxs,a,cap,hv,ha⟩|⟨b,off,cap,arr,e,fz,hv,hnc,hg,hcells⟩
  · refine ⟨_,⟨(xs.take (j.toNat*τ.sz)).drop (i.toNat*τ.sz),hm ▸ hr.sub _ _ (by omega),.inl ⟨by omega,by rw [hxs]; simp,(if cap=i.toNat then a else a.map (·.add (i.toNat*τ.sz))),cap - i.toNat,?_,?_⟩⟩,run a cap (by rw [hv,hn]) (by omega)⟩
    · simp only [sliced]; congr 1; omega
    · intro h
      have:a=none:=by
        split at h
        · exact h
        · simpa using h
      have:=ha this; omega
  · by_cases hij:j.toNat - i.toNat=0
    · refine ⟨_,⟨(xs.take (j.toNat*τ.sz)).drop (i.toNat*τ.sz),hm ▸ hr.sub _ _ (by omega),.inl ⟨by omega,?_,(if cap=i.toNat then some ⟨b,off,none⟩ else (some (⟨b,off,none⟩:Addr)).map (·.add (i.toNat*τ.sz))),cap - i.toNat,?_,?_⟩⟩,run _ cap hv hnc⟩
      · apply List.eq_nil_of_length_eq_zero
        rw [List.length_drop,List.length_take]
        have:j.toNat=i.toNat:=by omega
        rw [this]; omega
      · simp only [sliced]; congr 1
      · intro h; split at h <;> simp at h
    · refine ⟨_,⟨(xs.take (j.toNat*τ.sz)).drop (i.toNat*τ.sz),hm ▸ hr.sub _ _ (by omega),.inr ⟨b,off+i.toNat*τ.sz,cap - i.toNat,arr,e,fz,?_,by omega,hg,fun q u hu=>?_⟩⟩,run _ cap hv hnc⟩
      · simp only [sliced]; rw [if_neg (by omega),hml]; simp [Addr.add]
      · rw [List.getElem?_drop,List.getElem?_take] at hu
        split at hu
        · have:=hcells _ _ hu
          rw [Nat.add_assoc]; exact this
        · cases hu
end
def gn {α:Type} (l m:List α):List α:=m.take l.length++l.drop m.length
theorem fy {α:Type} (l m:List α):(gn l m).length=l.length:=by unfold gn; rw [List.length_append,List.length_take,List.length_drop]; omega
theorem ak.copy {α:Type} {τ:Ty α} (a:τ.sz=1) {g:Hp} {xs ys:List Value} {l m:List α} (h:ak τ g xs l) (h':ak τ g ys m):ak τ g (ys.take xs.length++xs.drop ys.length) (gn l m):=by
  have hx:=h.1
  have hy:=h'.1
  rw [a,Nat.mul_one] at hx hy
  unfold gn
  rw [hx,hy]
  refine ak.append ?_ ?_
  · have:=h'.sub 0 (min l.length m.length) (by omega)
    simp only [a,Nat.mul_one,List.drop_zero] at this
    have c:ys.take (min l.length m.length)=ys.take l.length:=by rw [List.take_eq_take_iff]; omega
    have b:m.take (min l.length m.length)=m.take l.length:=by rw [List.take_eq_take_iff]; omega
    rw [c,b] at this; exact this
  · have:=h.sub m.length l.length (Nat.le_refl _)
    simp only [a,Nat.mul_one] at this
    rw [List.take_of_length_le (by omega),List.take_of_length_le (Nat.le_refl _)] at this
    exact this
section
variable {P:Program} {n:Fr} {Q:EPost} {E:Env} {w:World} {ops:Array Oper} {rest:List Oper} {d:Option Tmp} {ty:TypeId} {ps:String} {af:Array Edge} {g0 g:Hp} {w0:World} {L:List Res}
theorem qC {α:Type} {τ:Ty α} {T el e:TypeId} {agg:Bool} {bytes:Nat} {z:Value} {x y:Operand} {v u:Value} {l m:List α} {xs ys:List Value} {i:Nat} (hT:P.underlying T=some (.slice el)) (he:eb P el agg 1 bytes z) (c:τ.sz=1)
    (hs:Sep g0 w0 g w L) (hi:L[i]?=some (.row v e τ.sz l.length xs)) (hr:ak τ g xs l) (hx:ev E x=v) (hy:ev E y=u) (hu:zr w u m.length ys) (hru:ak τ g ys m) (hd:jq n d=true)
    (k:∀w' xs',ak τ g xs' (gn l m)→Sep g0 w0 g w' (L.set i (.row v e τ.sz (gn l m).length xs'))→OW P n ops Q rest (mA E d (.int .i64 (min l.length m.length:Nat))) w') :
    OW P n ops Q (⟨d,.call { callee:=.builtin .copy,args:=#[x,y],argTypes:=#[T,T] },ty,ps,af,none⟩::rest) E w:=by
  have hrow:=(hs.at hi).out
  have hxl:xs.length=l.length:=by have:=hr.1; rw [c,Nat.mul_one] at this; exact this
  have hyl:ys.length=m.length:=by have:=hru.1; rw [c,Nat.mul_one] at this; exact this
  have hsz:(P.info? el).map (·.size)=some 1:=by obtain ⟨ii,c,_,A,_⟩:=he.info; rw [c]; simp [A]
  have exec:∀ {r:Value} {w':World},(Builtin.copy_ #[T,T] ty #[v,u]).run P w=.ok r w'→cr P E ⟨d,.call { callee:=.builtin .copy,args:=#[x,y],argTypes:=#[T,T] },ty,ps,af,none⟩ w r w':=by
    intro r w' h
    exact ⟨by simp [execOp,resolve,invoke,builtin,hx,hy,h,Result.andThen]⟩
  by_cases hz:min l.length m.length=0
  · have hnew:ak τ g xs (gn l m):=by
      have:=hr.copy c hru
      have e:ys.take xs.length++xs.drop ys.length=xs:=by
        rcases Nat.eq_zero_or_pos l.length with f|f
        · have hxe:xs=[]:=List.eq_nil_of_length_eq_zero (by omega)
          rw [hxe]; simp
        · have hye:ys=[]:=List.eq_nil_of_length_eq_zero (by omega)
          rw [hye]; simp
      rw [e] at this; exact this
    have hrun:(Builtin.copy_ #[T,T] ty #[v,u]).run P w=.ok (goInt 0) w:=by
      obtain ⟨a,cap,rfl⟩:=hs.rowShape hi
      have s:Nat.min m.length l.length=0:=by rw [←hz]; exact Nat.min_comm _ _
      rcases hu with ⟨rfl,f,_⟩|⟨a',c',rfl,_⟩
      · exact run_copy_none w T T ty el a none l.length cap 0 0 hT hsz (Nat.zero_min _)
      · exact run_copy_none w T T ty el a (some a') l.length cap m.length c' hT hsz s
    refine sn (exec hrun) hd rfl ?_
    have hs':Sep g0 w0 g w (L.set i (.row v e τ.sz (gn l m).length xs)):=by
      have e:L.set i (.row v e τ.sz (gn l m).length xs)=L:=by
        rw [fy]
        obtain ⟨hlt,he'⟩:=List.getElem?_eq_some_iff.1 hi
        rw [←he']; exact List.set_getElem_self hlt
      rw [e]; exact hs
    have:=k w xs hnew hs'
    rw [hz] at this
    exact this
  · rcases hrow.2 with ⟨_,hn⟩|⟨b,cap,cur,hv,t,hb,hnc,hcm,hcs,ht⟩
    · omega
    · rcases hu with ⟨_,f,_⟩|⟨a',c',hu',hsrc⟩
      · omega
      · rw [c,Nat.mul_one] at hcs ht
        have hcl:cur.toList.length=cap:=by rw [Array.length_toList]; exact hcs
        have hcsl:(ys.take l.length).length=Nat.min m.length l.length:=by rw [List.length_take,hyl]; exact Nat.min_comm _ _
        have hrun:=run_copy_row (P:=P) w T T ty el b 0 l.length cap a' m.length c' cur e (ys.take l.length) hT hsz hb hcsl
          (fun j y hj=>by
            rw [List.getElem?_take] at hj
            split at hj
            · exact hsrc j y hj
            · cases hj) (by rw [List.length_take,Array.size_eq_length_toList,hcl]; omega) (fun x hx=>hru.ones x (List.mem_of_mem_take hx))
        rw [←hv,←hu'] at hrun
        refine sn (exec hrun) hd rfl ?_
        have p:(ys.take l.length).length=min l.length m.length:=by rw [List.length_take,hyl]
        have:=k (w.setRow b (cur.toList.take 0++ys.take l.length++cur.toList.drop (0+(ys.take l.length).length)).toArray) _ (hr.copy c hru) ?_
        · rw [p] at this ⊢
          exact this
        · have hnew:=hr.copy c hru
          refine hs.upd hi (w':=w.setRow b _) ⟨rfl,rfl,rfl,by simp [World.setRow],fun q _ hq=>setRow_other w b q _ (fun e=>hq (by simp [Res.blk,hv,Value.ownBlock,e]))⟩ ⟨?_⟩ (fun b' hb'=>.inl (by simpa [Res.blk] using hb'))
          have hlen:(cur.toList.take 0++ys.take l.length++cur.toList.drop (0+(ys.take l.length).length)).length=cap:=by
            simp only [List.length_append,List.length_take,List.length_drop,hcl,hyl]; omega
          refine ⟨hnew.1,.inr ⟨b,cap,_,by rw [fy]; exact hv,t,setRow_heap w b cur _ e _ hb,by rw [fy]; exact hnc,hcm,by rw [List.size_toArray,hlen,c,Nat.mul_one],?_⟩⟩
          rw [fy,c,Nat.mul_one]
          simp only [List.take_zero,List.nil_append,Nat.zero_add]
          rw [hxl,hyl,p,←ht,List.take_append,List.length_take,hyl,List.take_of_length_le (l:=ys.take l.length) (by rw [List.length_take]; omega)]
          congr 1
          rw [List.drop_take]
          by_cases hlm:m.length≤l.length
          · have o:min l.length m.length=m.length:=by omega
            rw [o]
          · have o:l.length - min l.length m.length=0:=by omega
            have B:l.length - m.length=0:=by omega
            rw [o,B]; simp
end
def ob (x y:Int):Int:=if y > x then y else x
def tc (x y:Int):Int:=if y<x then y else x
def ye (x y z:Int):Int:=tc (tc x y) z
section
variable {P:Program} {E:Env} {w:World} {d:Option Tmp} {ty:TypeId} {ps:String} {af:Array Edge} {gd:Option (Nat×Bool)} {ts:Array TypeId} {x y z:Operand} {k k' k'':IntKind} {a b c:Int}
theorem sO (hx:ev E x=.int k a) (hy:ev E y=.int k' b):cr P E ⟨d,.call { callee:=.builtin .max,args:=#[x,y],argTypes:=ts },ty,ps,af,gd⟩ w (.int k (ob a b)) w:=.inl (by
  simp [execOp,resolve,invoke,builtin,hx,hy,run_max_int2,ob,Result.andThen])
theorem zy (hx:ev E x=.int k a) (hy:ev E y=.int k' b):cr P E ⟨d,.call { callee:=.builtin .min,args:=#[x,y],argTypes:=ts },ty,ps,af,gd⟩ w (.int k (tc a b)) w:=.inl (by
  simp [execOp,resolve,invoke,builtin,hx,hy,run_min_int2,tc,Result.andThen])
theorem zw (hx:ev E x=.int k a) (hy:ev E y=.int k' b) (hz:ev E z=.int k'' c):cr P E ⟨d,.call { callee:=.builtin .min,args:=#[x,y,z],argTypes:=ts },ty,ps,af,gd⟩ w (.int k (ye a b c)) w:=.inl (by
  simp [execOp,resolve,invoke,builtin,hx,hy,hz,run_min_int3,Result.andThen]
  rfl)
end
theorem fJ {cs pre ds post:List Value} {o j:Nat} {u:Value} (hl:pre.length=o) (e:cs=pre++(ds++post)) (hj:ds[j]?=some u):cs[o+j]?=some u:=by
  subst e; subst hl
  have hjl:j<ds.length:=(List.getElem?_eq_some_iff.1 hj).1
  rw [List.getElem?_append_right (by omega),Nat.add_sub_cancel_left,List.getElem?_append_left hjl]
  exact hj
theorem Sep.lentOwn {g0 g:Hp} {w0 w:World} {L L':List Res} (h:Sep g0 w0 g w L) {g1 g1':Hp} {w':World} (he:Sep g1 w g1' w' L'):∃g',aY g g'∧Sep g0 w0 g' w' (L'++L):=by
  have hx:dC g w (fun k=>if k<w.heap.size then g k else g1' k) w':=by
    refine ⟨he.ext.below,fun b hb=>if_pos hb,fun b o hb=>?_⟩
    split at hb
    · rename_i hlt
      have:=h.imm b o hb
      rw [he.ext.below.block b hlt]; exact this
    · exact he.imm b o hb
  refine ⟨_,hx.le h.imm,h.callOwn (L':=L') ⟨hx,he.ok,fun r hr b hb=>?_,he.apart⟩⟩
  have:=he.fresh r hr b hb
  refine ⟨this.1,?_⟩
  show (if b<w.heap.size then g b else g1' b)=none
  rw [if_neg (by omega)]; exact this.2
theorem ak.flat {α:Type} {τ:Ty α} (hτ:∀g g' cs x,τ.rel g cs x→τ.rel g' cs x) {g g':Hp} {xs:List Value} {l:List α} (h:ak τ g xs l):ak τ g' xs l:=⟨h.1,fun i x hx=>hτ _ _ _ _ (h.2 i x hx)⟩
theorem kJ {P:Program} {n:Fr} {Q:EPost} {E:Env} {w:World} {ops:Array Oper} {rest:List Oper} {d:Option Tmp} {op:Op} {ty:TypeId} {ps:String} {af:Array Edge} {c:Tmp} {j:Nat} {want b:Bool} {oj:Oper} (hj:ops[j]?=some oj) (hdj:oj.dst=some c) (hb:ev E (.tmp c)=.bool b) (hne:(b == want)=true)
    (h:OW P n ops Q (⟨d,op,ty,ps,af,none⟩::rest) E w):OW P n ops Q (⟨d,op,ty,ps,af,some (j,want)⟩::rest) E w:=by
  intro a ha
  have h:=h a ha
  have hy:=eu ha hj hdj hb
  unfold wpListIn at h ⊢
  rw [if_pos (fg rfl)] at h
  rw [if_pos (by simp only [Region.wanted,hy]; simpa using hne)]
  exact h
end Go.Lx
namespace Go.Lx
open Go.RowKit
section
variable {P:Program} {n:Fr} {Q:EPost} {E:Env} {w:World} {ops:Array Oper} {rest:List Oper} {ty:TypeId} {ps:String} {af:Array Edge}
end
def RQ (l:Nat) (R:Value→World→Prop):EPost:=fun e _ w=>match e with
  | .normal=>∃r,w.heap[l]?=some (.loop r)∧R (.bool true) (w.putObj l (.loop { r with state:=.ready,pending:=none }))
  | .ret=>∃r,w.heap[l]?=some (.loop r)∧R (.bool false) (w.putObj l (.loop { r with state:=.done,pending:=some .ret }))
  | .exit i=>∃r,w.heap[l]?=some (.loop r)∧R (.bool false) (w.putObj l (.loop { r with state:=.done,pending:=some (.exit i) }))
  | _=>False
instance {l:Nat} {R:Value→World→Prop}:eQ (RQ l R):=⟨fun _ _ _ _ _ q=>q⟩
section
variable {α σ:Type}
end
section
variable {P:Program} {n:Fr} {Q:EPost} {E:Env} {w:World} {α σ:Type}
def BQ (g0:Hp) (w0:World) (Inv:Hp→List Res→Prop) (g:Hp) (L:List Res):EPost:=fun e _ w=>match e with
  | .normal=>∃g' Ls,Inv g' Ls∧aY g g'∧Sep g0 w0 g' w (Ls++L)
  | _=>False
instance {g0:Hp} {w0:World} {Inv:Hp→List Res→Prop} {g:Hp} {L:List Res}:eQ (BQ g0 w0 Inv g L):=⟨fun _ _ _ _ _ q=>q⟩
def AQ (P:Program) (n:Fr) (g0:Hp) (w0:World) (Inv:Hp→List Res→Prop) (body:Code) (g:Hp) (L:List Res):EPost:=fun e E w=>match e with
  | .normal=>∃g' Ls,Sep g0 w0 g' w (Ls++L)∧aY g g'∧∀w' L',Sep g0 w0 g' w' (Ls++L')→WP P n body (BQ g0 w0 Inv g' L') E w'
  | _=>False
instance {P:Program} {n:Fr} {g0:Hp} {w0:World} {Inv:Hp→List Res→Prop} {body:Code} {g:Hp} {L:List Res}:eQ (AQ P n g0 w0 Inv body g L):=⟨fun _ _ _ _ _ q=>q⟩
theorem Sep.tail {g0 g:Hp} {w0 w:World} {A L:List Res} (h:Sep g0 w0 g w (A++L)):Sep g0 w0 g w L:=h.sub (List.sublist_append_right A L)
end
end Go.Lx
namespace Go.Lx
section
variable {α:Type}
theorem ak.imp {τ τ':Ty α} (hsz:τ.sz=τ'.sz) {g:Hp} (h:∀cs x,τ.rel g cs x→τ'.rel g cs x) {xs:List Value} {l:List α} (hr:ak τ g xs l):ak τ' g xs l:=
  ⟨by rw [←hsz]; exact hr.1,fun i x hx=>by rw [←hsz]; exact h _ _ (hr.2 i x hx)⟩
theorem cI.imp {τ τ':Ty α} (hsz:τ.sz=τ'.sz) {g:Hp} (h:∀cs x,τ.rel g cs x→τ'.rel g cs x) {v:Value} {l:List α} (hr:cI τ g v l):cI τ' g v l:=
  let ⟨xs,h1,h2⟩:=hr; ⟨xs,h1.imp hsz h,h2⟩
theorem tJ {τ τ':Ty α} (hsz:τ.sz=τ'.sz) {g:Hp} (h:∀cs x,τ.rel g cs x→τ'.rel g cs x) {cs:List Value} {l:List α} (hr:(cz τ).rel g cs l):(cz τ').rel g cs l:=
  let ⟨v,h1,h2⟩:=hr; ⟨v,h1,h2.imp hsz h⟩
structure eh (α:Type) where
  sz:Nat
  F:Ty α→Ty α
  hsz:∀τ,(F τ).sz=sz
  mono:∀ {τ τ':Ty α} {g:Hp},τ.sz=sz→τ'.sz=sz→(∀cs x,τ.rel g cs x→τ'.rel g cs x)→∀cs x,(F τ).rel g cs x→(F τ').rel g cs x
def eh.iter (T:eh α):Nat→Ty α
  | 0=>⟨T.sz,fun _ _ _=>False,fun _ h=>h.elim,fun h=>h.elim,fun h=>h.elim⟩
  | n+1=>T.F (T.iter n)
theorem eh.iter_sz (T:eh α):∀n,(T.iter n).sz=T.sz
  | 0=>rfl
  | n+1=>T.hsz _
theorem eh.up (T:eh α) {g:Hp}:∀(n:Nat) (cs:List Value) (x:α),(T.iter n).rel g cs x→(T.iter (n+1)).rel g cs x
  | 0,_,_,h=>h.elim
  | n+1,cs,x,h=>T.mono (T.iter_sz n) (T.iter_sz (n+1)) (eh.up T n) cs x h
theorem eh.le (T:eh α) {g:Hp} {n m:Nat} (hnm:n≤m):∀(cs:List Value) (x:α),(T.iter n).rel g cs x→(T.iter m).rel g cs x:=by
  induction hnm with
  | refl=>exact fun _ _ h=>h
  | step _ ih=>exact fun cs x h=>T.up _ cs x (ih cs x h)
theorem eh.fix_len (T:eh α) {g:Hp} {cs:List Value} {x:α} (h:∃n,(T.iter n).rel g cs x):cs.length=T.sz:=let ⟨n,h⟩:=h; ((T.iter n).len h).trans (T.iter_sz n)
theorem eh.fix_one (T:eh α) {g:Hp} {cs:List Value} {x:α} (h:∃n,(T.iter n).rel g cs x):∀v∈cs,v.oneCell'=true:=let ⟨n,h⟩:=h; (T.iter n).one h
theorem eh.fix_mono (T:eh α) {g g':Hp} {cs:List Value} {x:α} (hg:aY g g') (h:∃n,(T.iter n).rel g cs x):∃n,(T.iter n).rel g' cs x:=let ⟨n,h⟩:=h; ⟨n,(T.iter n).mono hg h⟩
theorem eh.supRow (T:eh α) {fix:Ty α} (hf:∀g cs x,fix.rel g cs x→∃n,(T.iter n).rel g cs x) (hs:fix.sz=T.sz) {g:Hp} {xs:List Value} {l:List α} (h:ak fix g xs l):∃n,ak (T.iter n) g xs l:=by
  have ib:∀k,∃n,∀i,i<k→∀x,l[i]?=some x→(T.iter n).rel g ((xs.drop (i*T.sz)).take T.sz) x:=by
    intro k
    induction k with
    | zero=>exact ⟨0,fun i hi=>absurd hi (Nat.not_lt_zero _)⟩
    | succ k ih=>
      obtain ⟨n,hn⟩:=ih
      cases hk:l[k]? with
      | none=>
        refine ⟨n,fun i hi x hx=>?_⟩
        by_cases hik:i=k
        · subst hik; rw [hk] at hx; cases hx
        · exact hn i (by omega) x hx
      | some y=>
        have:=h.2 k y hk
        rw [hs] at this
        obtain ⟨m,hm⟩:=hf _ _ _ this
        refine ⟨max n m,fun i hi x hx=>?_⟩
        by_cases hik:i=k
        · subst hik; rw [hk] at hx; cases hx; exact T.le (Nat.le_max_right _ _) _ _ hm
        · exact T.le (Nat.le_max_left _ _) _ _ (hn i (by omega) x hx)
  obtain ⟨n,hn⟩:=ib l.length
  refine ⟨n,⟨by rw [T.iter_sz]; rw [←hs]; exact h.1,fun i x hx=>?_⟩⟩
  rw [T.iter_sz]
  exact hn i (List.getElem?_eq_some_iff.1 hx).1 x hx
theorem eh.sup (T:eh α) {fix:Ty α} (hf:∀g cs x,fix.rel g cs x→∃n,(T.iter n).rel g cs x) (hs:fix.sz=T.sz) {g:Hp} {cs:List Value} {l:List α} (h:(cz fix).rel g cs l):∃n,(cz (T.iter n)).rel g cs l:=by
  obtain ⟨v,h1,xs,h2,h3⟩:=h
  obtain ⟨n,hn⟩:=T.supRow hf hs h2
  exact ⟨n,v,h1,xs,hn,h3⟩
theorem eh.leSl (T:eh α) {g:Hp} {n m:Nat} (hnm:n≤m) {cs:List Value} {l:List α} (h:(cz (T.iter n)).rel g cs l):(cz (T.iter m)).rel g cs l:=
  tJ ((T.iter_sz n).trans (T.iter_sz m).symm) (T.le hnm) h
end
end Go.Lx
namespace Go.Lx
open Go.RowKit
def oG (P:Program) (f:FuncId) (args:Array Value) (u u':FrameMode) (w:World) (R:World→Prop):Prop:=
  CallsDIn (Fz ⟨0,none⟩) 0 P f args u w fun e u2 w'=>u2=u'∧∃v,e=.returned v∧R w'
def Du (P:Program) (fn:Func) (n:Fr) (R:World→Prop):EPost:=fun e E w=>match e with
  | .normal|.ret=>E.ds=[]∧∃v,lz P fn n E w v∧R w
  | _=>False
instance {P:Program} {fn:Func} {n:Fr} {R:World→Prop}:eQ (Du P fn n R):=⟨fun _ _ _ _ _ q=>q⟩
def xS (v:Value):FrameMode:=.panicking [{ v:=v,recovered:=true }]
section
variable {P:Program} {w:World}
theorem pG {f:FuncId} {fn:Func} {rest:Code} {m id a b:Nat} {args:List Value} {R:World→Prop} {ats:Array TypeId} {i l:TypeId} {j o:String} {k r:Array Edge} {u u':FrameMode} {val:Value}
    (hu:(u=.returning∧val=.nilIface∧u'=.returning)∨(u=.panicking (rh val)∧u'=xS val)) (hf:P.funcs[f]?=some fn)
    (hb:fn.body=some (.seq (.region id #[⟨some a,.call { callee:=.builtin .recover,args:=#[],argTypes:=ats },i,j,k,none⟩,⟨some b,.assign (.tmp a),l,o,r,none⟩] false) rest))
    (hn:fn.ntmps=m) (hl:Nat.ble args.length m=true) (ha:Nat.blt a m=true) (hbm:Nat.blt b m=true)
    (h:WP P ⟨m,none⟩ rest (Du P fn ⟨m,none⟩ R) (dD (dD (kH args) a val) b val) w):oG P f args.toArray u u' w R:=by
  subst hn
  refine callsDIn_of_wpSIn hf hb trivial fun c cs hc=>?_
  refine wpSIn_seq (wpSIn_region ?_)
  have hfit:=jK args ⟨fn.ntmps,none⟩ (Nat.le_of_ble_eq_true hl)
  have p:=hfit.put (d:=some a) ha val
  have x:=p.put (d:=some b) hbm val
  have hasg:∀(t:Tmp),(Act.put ⟨args.toArray++Array.replicate (fn.ntmps - args.toArray.size) undef,[]⟩ (some a) val).eval (.tmp t)=(dD (kH args) a val) t:=fun t=>by
    have:=congrFun p.eval (.tmp t)
    exact this
  have hva:(Act.put ⟨args.toArray++Array.replicate (fn.ntmps - args.toArray.size) undef,[]⟩ (some a) val).eval (.tmp a)=val:=by
    rw [hasg]; simp [dD]
  have main:∀cs',(cs'=c::cs∧c.mode=u'∨cs'={ c with mode:=u' }::cs)→
      rest.wpSIn (Fz ⟨0,none⟩) 0 P (bodyPostS P fn c cs fun e g w'=>g=u'∧∃v,e=.returned v∧R w') ((Act.put ⟨args.toArray++Array.replicate (fn.ntmps - args.toArray.size) undef,[]⟩ (some a) val).put (some b) val) cs' w:=by
    intro cs' hcs
    refine wpSIn_of_wpIn rfl ?_
    refine wpIn_mono (h _ x) ?_
    rintro e a' w' ⟨E,f',q⟩
    have hc':∃g,cs'={ c with mode:=g }::cs∧g=u':=by
      rcases hcs with ⟨rfl,hm⟩|rfl
      · exact ⟨u',by rw [←hm],rfl⟩
      · exact ⟨u',rfl,rfl⟩
    cases e <;> first
      | exact q.elim
      | (obtain ⟨g,hcs',s⟩:=hc'; exact ⟨by rw [f'.defers]; exact q.1,g,hcs',q.2.choose,q.2.choose_spec.1 _ f',s,_,rfl,q.2.choose_spec.2⟩)
  show wpOpsSIn _ _ _ _ _ [0,1] _ _ _
  simp only [wpOpsSIn,List.getElem?_toArray,List.getElem?_cons_zero,List.getElem?_cons_succ]
  refine ⟨fun _ _=>trivial,?_⟩
  rw [if_pos (fg rfl)]
  have hrec:∀ρ:Operand→Value,(execOp ρ ⟨some a,.call { callee:=.builtin .recover,args:=#[],argTypes:=ats },i,j,k,none⟩).run P w=.ok .recover w:=fun ρ=>by
    simp [execOp,resolve,invoke,builtin]
  rw [hrec]
  have n:∀cs',(cs'=c::cs∧c.mode=u'∨cs'={ c with mode:=u' }::cs)→wpOpsSIn (Fz ⟨0,none⟩) 0 P #[⟨some a,.call { callee:=.builtin .recover,args:=#[],argTypes:=ats },i,j,k,none⟩,⟨some b,.assign (.tmp a),l,o,r,none⟩]
      (Exit.thenS (rest.wpSIn (Fz ⟨0,none⟩) 0 P (bodyPostS P fn c cs fun e g w'=>g=u'∧∃v,e=.returned v∧R w')) (bodyPostS P fn c cs fun e g w'=>g=u'∧∃v,e=.returned v∧R w')) [1] (Act.put ⟨args.toArray++Array.replicate (fn.ntmps - args.toArray.size) undef,[]⟩ (some a) val) cs' w:=by
    intro cs' hcs
    simp only [wpOpsSIn,List.getElem?_toArray,List.getElem?_cons_zero,List.getElem?_cons_succ]
    refine ⟨fun _ _=>trivial,?_⟩
    rw [if_pos (fg rfl)]
    simp only [execOp,Sem.run_pure,hva]
    exact main cs' hcs
  rcases hu with ⟨rfl,rfl,rfl⟩|⟨rfl,rfl⟩
  · have:recoverD (c::cs)=none:=by simp [recoverD,hc]
    simp only [this]
    exact n _ (.inl ⟨rfl,hc⟩)
  · have:recoverD (c::cs)=some (val,{ c with mode:=xS val }::cs):=by simp [recoverD,hc,rh,xS]
    simp only [this]
    exact n _ (.inr rfl)
end
def iA (f:FuncId) (cap:List Value):Deferred:={ target:=.fn (.func f) (List.toArray cap),args:=#[] }
def LV (P:Program) (fn:Func) (n:Fr) (E:Env) (R:Value→World→Prop):List Deferred→FrameMode→World→Prop
  | [],u,w=>u=.returning∧∃v,lz P fn n E w v∧R v w
  | d::ds,u,w=>u≠.run∧∃f cap u' S,d=iA f cap∧CF P f∧oG P f (List.toArray cap) u u' w S∧∀w',S w'→LV P fn n E R ds (settle u') w'
def FV (P:Program) (fn:Func) (n:Fr) (R:Value→World→Prop):EPost:=fun e E w=>match e with
  | .normal|.ret=>LV P fn n E R E.ds .returning w
  | .panic ch=>LV P fn n E R E.ds (.panicking ch) w
  | _=>False
section
variable {P:Program} {n:Fr} {Q:EPost} {E:Env} {w:World} {fn:Func} {R:Value→World→Prop}
theorem pu {a:Act} (ha:eH n E a):∀(ds:List Deferred) (u:FrameMode) (w:World),LV P fn n E R ds u w→LeavesInM (Fz n) 0 P fn a.tmps (fun e w'=>∃v,e=.returned v∧R v w') ds u w
  | [],_,_,⟨hu,v,hr,hR⟩=>by subst hu; exact ⟨v,hr a ha,v,rfl,hR⟩
  | _::ds,u,w,⟨hne,f,cap,u',S,hd,hcf,hc,hk⟩=>by
    subst hd
    obtain ⟨fd,g,b,d⟩:=hcf
    have hn':¬ fd.name = "runtime.NumGoroutine":=by simpa using d
    have c:¬ fd.body=none:=by intro h; rw [h] at b; cases b
    refine ⟨hne,.inr ⟨fun h=>(by cases h),.func f,List.toArray cap,f,List.toArray cap,rfl,?_,fun _ _=>trivial,?_⟩⟩
    · simp [iA,invoke,callFunc,g,c,hn']
    · refine CallsDIn.mono (F:=Fz ⟨0,none⟩) hc ?_
      rintro e i w' ⟨rfl,v,rfl,hS⟩
      exact pu ha ds _ w' (hk w' hS)
theorem qv {f:FuncId} {c:Code} {m:Nat} {args:List Value} (hf:P.funcs[f]?=some fn) (hb:fn.body=some c) (hn:fn.ntmps=m) (hl:Nat.ble args.length m=true)
    (h:WP P ⟨m,none⟩ c (FV P fn ⟨m,none⟩ R) (kH args) w):bi P f args.toArray w R:=by
  subst hn
  refine callsIn_wide (n:=0) |>.1 (callsIn_of_wp_marks (F:=Fz ⟨fn.ntmps,none⟩) hf hb trivial ?_)
  refine wpIn_mono (h _ (jK args _ (Nat.le_of_ble_eq_true hl))) ?_
  rintro e a w ⟨E,hfit,q⟩
  cases e <;> first
    | exact q.elim
    | (show LeavesInM _ _ _ _ _ _ a.defers _ _; rw [hfit.defers]; exact pu hfit E.ds _ w q)
theorem qD {ds:List Deferred} {u:FrameMode} (hd:ds=[]) (hu:u=.returning) (h:∃v,lz P fn n E w v∧R v w):LV P fn n E R ds u w:=by subst hd; exact ⟨hu,h⟩
theorem nh {ds ds':List Deferred} {f:FuncId} {cap:List Value} {u u':FrameMode} {S:World→Prop} (hd:ds=iA f cap::ds') (hne:u≠.run) (hcf:CF P f) (hc:oG P f (List.toArray cap) u u' w S) (k:∀w',S w'→LV P fn n E R ds' (settle u') w'):LV P fn n E R ds u w:=by
  subst hd; exact ⟨hne,f,cap,u',S,rfl,hcf,hc,k⟩
theorem xn {ops:Array Oper} {rest:List Oper} {ty:TypeId} {ps:String} {af:Array Edge} {x:Operand} {ats:Array TypeId} {f:FuncId} (cap:List Value) (hro:n.ro=none) (hx:ev E x=.func (.func f) #[] cap.toArray)
    (k:OW P n ops Q rest ⟨E.s,iA f cap::E.ds⟩ w):OW P n ops Q (⟨none,.defer { callee:=.value x,args:=#[],argTypes:=ats },ty,ps,af,none⟩::rest) E w:=by
  intro a ha
  refine wpListIn_plain rfl fun K hK=>⟨fun _ _=>trivial,?_⟩
  rw [show (Fz n).round=none from hro,Oper.semAt_none,ha.eval]
  have hr:(execOp (ev E) ⟨none,.defer { callee:=.value x,args:=#[],argTypes:=ats },ty,ps,af,none⟩).run P w=.ok (.defer (iA f cap)) w:=by
    simp [execOp,resolve,Deferred.ofValue,hx,iA]
  rw [hr]
  exact hK _ _ (k { a with defers:=iA f cap::a.defers } ⟨by simp [ha.defers],ha.size,ha.get⟩)
end
section
variable {P:Program} {E:Env} {w:World} {d:Option Tmp} {ty:TypeId} {ps:String} {af:Array Edge} {gd:Option (Nat×Bool)}
def Dr:TypeDesc→Bool
  | .interface _=>true
  | _=>false
theorem pZ {xt T:TypeId} {x:Operand} {v:Value} {td:TypeDesc} (hT:P.underlying T=some td) (hni:Dr td=false) (hx:ev E x=.iface T v) :
    cr P E ⟨d,.typeAssert x xt T false,ty,ps,af,gd⟩ w v w:=.inl (by
  simp only [execOp,Instr.typeAssert,hx,Sem.run_bind,run_underlying hT]
  cases td with
  | interface ms=>simp [Dr] at hni
  | _=>simp)
theorem vo {T:TypeId} {ms:Array (String×TypeId)} (hT:P.underlying T=some (.interface ms)) (V:TypeId) (v:Value) (n:Nat):(Op.equalIn (n+1) T (.iface V v) .nilIface).run P w=.ok false w:=by
  rw [Op.equalIn]
  simp [run_underlying hT]
theorem vn {T:TypeId} {ms:Array (String×TypeId)} (hT:P.underlying T=some (.interface ms)) (n:Nat):(Op.equalIn (n+1) T .nilIface .nilIface).run P w=.ok true w:=by
  rw [Op.equalIn]
  simp [run_underlying hT]
theorem uQ {T T':TypeId} {ms:Array (String×TypeId)} {x y:Operand} {V:TypeId} {v:Value} (hT:P.underlying T=some (.interface ms)) (hx:ev E x=.iface V v) (hy:ev E y=.nilIface):cr P E ⟨d,.binOp .neq T x y T',ty,ps,af,gd⟩ w (.bool true) w:=
  bN (by rw [hx,hy]; rfl) (by
    rw [hx,hy]
    have h:(Op.equal T (.iface V v) .nilIface).run P w=.ok false w:=vo hT V v 9999
    simp only [binOp,Sem.run_bind,h,Result.andThen_ok,Sem.run_pure,Bool.not_false])
theorem uP {T T':TypeId} {ms:Array (String×TypeId)} {x y:Operand} (hT:P.underlying T=some (.interface ms)) (hx:ev E x=.nilIface) (hyc:y=.const .nilIface):cr P E ⟨d,.binOp .neq T x y T',ty,ps,af,gd⟩ w (.bool false) w:=by
  subst hyc
  exact bN (by rw [hx]; cases x <;> rfl) (by
    rw [hx]
    have h:(Op.equal T .nilIface .nilIface).run P w=.ok true w:=vn hT 9999
    simp only [binOp,ev,Sem.run_bind,h,Result.andThen_ok,Sem.run_pure,Bool.not_true])
end
end Go.Lx
namespace Go.Lx
open Go.RowKit
def BW (P:Program) (D:Nat) (t:TypeId) (x y:Value) (b:Bool):Prop:=∀w,(Op.equalIn D t x y).run P w=.ok b w
inductive xp (P:Program) (D:Nat) (xs ys:List Value):List Field→Bool→Prop where
  | nil:xp P D xs ys [] true
  | cons {f:Field} {fs:List Field} {x y:Value} {b c:Bool}:f.name≠ "_"→(∀w,(part f.type xs.toArray f.offset).run P w=.ok x w)→(∀w,(part f.type ys.toArray f.offset).run P w=.ok y w)→
      BW P D f.type x y b→xp P D xs ys fs c→xp P D xs ys (f::fs) (b && c)
section
variable {P:Program} {D:Nat} {t:TypeId}
theorem gm {k:IntKind} (hT:P.underlying t=some (.int k)) (a b:Int):BW P (D+1) t (.int k a) (.int k b) (a == b):=fun _=>iG D hT a b
theorem um (hT:P.underlying t=some .string) (a b:Str):BW P (D+1) t (ah a) (ah b) (a == b):=fun w=>by
  have h:(Value.string ⟨a.toArray⟩)=ah a:=rfl
  have:(Op.equalIn (D+1) t (ah a) (ah b)).run P w=.ok ((⟨a.toArray⟩:ByteArray) == ⟨b.toArray⟩) w:=by simp [Op.equalIn,run_underlying hT,ah]
  rw [this,←wE]
theorem dn {ft:TypeId} {bytes:Nat} {z:Value} (ht:eb P ft false 1 bytes z) {cs:List Value} {o:Nat} {v:Value} (hv:cs[o]?=some v) (w:World):(part ft cs.toArray o).run P w=.ok v w:=by
  have:cs.toArray[o]?=some v:=by simpa using hv
  exact vX ht this
theorem kC {fs:Array Field} {xs ys:List Value} {b:Bool} (hT:P.underlying t=some (.struct fs)) (hst:P.stoodInHeld t=false) (h:xp P D xs ys fs.toList b):BW P (D+1) t (.agg xs.toArray) (.agg ys.toArray) b:=fun w=>by
  have hp:∀w,(program).run P w=.ok P w:=fun w=>rfl
  rw [Op.equalIn]
  simp only [Sem.run_bind,run_underlying hT,Result.andThen_ok,hp,hst,Bool.false_eq_true,if_false]
  rw [←Array.forIn_toList]
  generalize fs.toList=l at h
  have ib:∀(l:List Field) (b:Bool),xp P D xs ys l b→∀w,
      (forIn l ((none,()):Option Bool×Unit) fun f r=>(do
        if f.name≠ "_" then
          if (!(←Op.equalIn D f.type (←part f.type xs.toArray f.offset) (←part f.type ys.toArray f.offset)))=true then pure (ForInStep.done (some false,()))
          else pure (ForInStep.yield (none,()))
        else pure (ForInStep.yield (none,())):Sem (ForInStep (Option Bool×Unit)))).run P w=.ok (if b then (none,()) else (some false,())) w:=by
    intro l b h
    induction h with
    | nil=>intro w; simp [Sem.run_pure]
    | cons hn hx hy he hr ih=>
      intro w
      rename_i b c
      rw [List.forIn_cons,Sem.run_bind,if_pos hn]
      simp only [Sem.run_bind,hx,hy,Result.andThen_ok,he w]
      cases b
      · simp [Sem.run_pure]
      · simpa using ih w
  have:=ib l b h w
  rw [this]
  cases b <;> rfl
variable {E:Env} {w:World} {d:Option Tmp} {ty:TypeId} {ps:String} {af:Array Edge} {gd:Option (Nat×Bool)} {T T':TypeId} {x y:Operand} {xs ys:List Value} {b:Bool}
theorem sM (hx:ev E x=.agg xs.toArray) (hy:ev E y=.agg ys.toArray) (hq:P.eqGuardType P.depth T=false) (h:BW P 10000 T (.agg xs.toArray) (.agg ys.toArray) b):cr P E ⟨d,.binOp .neq T x y T',ty,ps,af,gd⟩ w (.bool (!b)) w:=
  bN (by rw [hx,hy]; simp only [eqGuard]; simp [program,Sem.run,hq]) (by
    rw [hx,hy]
    simp only [binOp,Sem.run_bind,Op.equal,Op.maxDepth,h w,Result.andThen_ok,Sem.run_pure])
end
end Go.Lx
namespace Go.Lx
open Go.RowKit
section
variable {P:Program} {n:Fr} {Q:EPost} {E:Env} {w:World} {α σ ρ:Type}
def BX (g0:Hp) (w0:World) (Inv:σ→Hp→List Res→Prop) (InvX:ρ→Hp→List Res→Prop) (ex:ρ→Code) (r:cD σ ρ) (g:Hp) (L:List Res):EPost:=fun e _ w=>match e with
  | .normal=>∃s,r=.next s∧∃g' Ls,Inv s g' Ls∧aY g g'∧Sep g0 w0 g' w (Ls++L)
  | .ret=>∃q,r=.stop q∧ex q=.ret∧∃g' Ls,InvX q g' Ls∧aY g g'∧Sep g0 w0 g' w (Ls++L)
  | .exit i=>∃q,r=.stop q∧ex q=.exit i∧∃g' Ls,InvX q g' Ls∧aY g g'∧Sep g0 w0 g' w (Ls++L)
  | _=>False
instance {g0:Hp} {w0:World} {Inv:σ→Hp→List Res→Prop} {InvX:ρ→Hp→List Res→Prop} {ex:ρ→Code} {r:cD σ ρ} {g:Hp} {L:List Res}:eQ (BX g0 w0 Inv InvX ex r g L):=⟨fun _ _ _ _ _ q=>q⟩
def AX (P:Program) (n:Fr) (g0:Hp) (w0:World) (Inv:σ→Hp→List Res→Prop) (InvX:ρ→Hp→List Res→Prop) (ex:ρ→Code) (r:cD σ ρ) (body:Code) (g:Hp) (L:List Res):EPost:=fun e E w=>match e with
  | .normal=>∃g' Ls,Sep g0 w0 g' w (Ls++L)∧aY g g'∧∀w' L',Sep g0 w0 g' w' (Ls++L')→WP P n body (BX g0 w0 Inv InvX ex r g' L') E w'
  | _=>False
instance {P:Program} {n:Fr} {g0:Hp} {w0:World} {Inv:σ→Hp→List Res→Prop} {InvX:ρ→Hp→List Res→Prop} {ex:ρ→Code} {r:cD σ ρ} {body:Code} {g:Hp} {L:List Res}:eQ (AX P n g0 w0 Inv InvX ex r body g L):=⟨fun _ _ _ _ _ q=>q⟩
end
section
variable {P:Program} {E:Env} {w:World} {d:Option Tmp} {ty:TypeId} {ps:String} {af:Array Edge} {gd:Option (Nat×Bool)} {T T':TypeId} {qs rs:Array TypeId} {vd:Bool} {x y:Operand} {fn:Fn} {bs cs:Array Value}
end
end Go.Lx
namespace Go.Lx
open Go.RowKit
structure InT (β:Type) where
  rel:Hp→Value→β→Res→Prop
  mono:∀ {g g':Hp} {v:Value} {l:β} {r:Res},aY g g'→rel g v l r→rel g' v l r
  one:∀ {g:Hp} {v:Value} {l:β} {r:Res},rel g v l r→v.oneCell'=true
def gL {α:Type} (τ:Ty α) (eI:TypeId):InT (List α):=
  ⟨fun g v l r=>(∃a c,v=.slice a l.length c)∧∃ys,r=.row v eI τ.sz l.length ys∧ak τ g ys l,fun hg ⟨h1,ys,h2,h3⟩=>⟨h1,ys,h2,h3.mono hg⟩,fun ⟨⟨a,c,h⟩,_⟩=>by rw [h]; rfl⟩
structure ei {β:Type} (I:InT β) (g:Hp) (xs:List Value) (ll:List β) (G:List Res):Prop where
  lx:xs.length=ll.length
  lG:G.length=ll.length
  el:∀(i:Nat) (l:β),ll[i]?=some l→∃v r,xs[i]?=some v∧G[i]?=some r∧I.rel g v l r
section
variable {β:Type} {I:InT β} {g g':Hp} {xs ys:List Value} {ll mm:List β} {G H:List Res}
theorem ei.mono (h:ei I g xs ll G) (hg:aY g g'):ei I g' xs ll G:=⟨h.lx,h.lG,fun i l hl=>by
  obtain ⟨v,r,h1,h2,h3⟩:=h.el i l hl
  exact ⟨v,r,h1,h2,I.mono hg h3⟩⟩
theorem ei.put (h:ei I g xs ll G) {k:Nat} {v:Value} {l':β} {r':Res} (hx:xs[k]?=some v) (hi:I.rel g v l' r'):ei I g xs (ll.set k l') (G.set k r'):=by
  refine ⟨by simp [h.lx],by simp [h.lG],fun i l hl=>?_⟩
  have hk:=(List.getElem?_eq_some_iff.1 hx).1
  have f:=h.lx
  have d:=h.lG
  rw [List.getElem?_set] at hl
  split at hl
  · rename_i e
    subst e
    rw [if_pos (by omega)] at hl
    obtain rfl:=Option.some.inj hl
    exact ⟨v,r',hx,by rw [List.getElem?_set_self (by omega)],hi⟩
  · rename_i e
    obtain ⟨u,r,c,b,a⟩:=h.el i l hl
    exact ⟨u,r,c,by rw [List.getElem?_set_ne e]; exact b,a⟩
theorem ei.set (h:ei I g xs ll G) {k:Nat} {v:Value} {l':β} {r':Res} (hk:k<ll.length) (hi:I.rel g v l' r'):ei I g (xs.set k v) (ll.set k l') (G.set k r'):=by
  refine ⟨by simp [h.lx],by simp [h.lG],fun i l hl=>?_⟩
  have f:=h.lx
  have d:=h.lG
  rw [List.getElem?_set] at hl
  split at hl
  · rename_i e
    subst e
    obtain rfl:=Option.some.inj hl
    exact ⟨v,r',by rw [List.getElem?_set_self (by omega)],by rw [List.getElem?_set_self (by omega)],hi⟩
  · rename_i e
    obtain ⟨u,r,c,b,a⟩:=h.el i l hl
    exact ⟨u,r,by rw [List.getElem?_set_ne e]; exact c,by rw [List.getElem?_set_ne e]; exact b,a⟩
theorem ei.ones (h:ei I g xs ll G):∀v∈xs,v.oneCell'=true:=by
  intro v hv
  obtain ⟨i,hi,rfl⟩:=List.mem_iff_getElem.1 hv
  have hl:i<ll.length:=by rw [←h.lx]; exact hi
  obtain ⟨u,r,e1,_,e3⟩:=h.el i _ (List.getElem?_eq_getElem hl)
  rw [List.getElem?_eq_getElem hi] at e1
  rw [Option.some.inj e1]
  exact I.one e3
end
def qP:Ty Value:=⟨1,fun _ cs v=>cs=[v]∧v.oneCell'=true,fun _ h=>h,fun h=>by rw [h.1]; rfl,fun h v hv=>by rw [h.1] at hv; simp at hv; subst hv; exact h.2⟩
theorem vM {g:Hp} {xs:List Value} (h:∀v∈xs,v.oneCell'=true):ak qP g xs xs:=by
  refine ⟨by simp [qP],fun i x hx=>⟨?_,h x (List.mem_of_getElem? hx)⟩⟩
  show (xs.drop (i*1)).take 1=[x]
  obtain ⟨hi,rfl⟩:=List.getElem?_eq_some_iff.1 hx
  rw [Nat.mul_one,List.drop_eq_getElem_cons hi]
  rfl
theorem pk {g:Hp} {xs ys:List Value} (h:ak qP g xs ys):xs=ys:=by
  have hl:xs.length=ys.length:=by have:=h.1; simpa [qP] using this
  refine List.ext_getElem hl fun i b a=>?_
  have:(xs.drop (i*1)).take 1=[ys[i]]:=(h.2 i _ (List.getElem?_eq_getElem a)).1
  rw [Nat.mul_one,List.drop_eq_getElem_cons b] at this
  simp only [List.take_succ_cons,List.take_zero,List.cons.injEq,and_true] at this
  exact this
theorem kz {α:Type}:∀ {l:List α} {i:Nat} (h:i<l.length),l.Perm (l[i]::l.eraseIdx i)
  | x::l,0,_=>List.Perm.refl _
  | x::l,i+1,h=>((kz (l:=l) (i:=i) (by simpa using h)).cons x).trans (List.Perm.swap _ _ _)
theorem Sep.perm {g0 g:Hp} {w0 w:World} {L L':List Res} (h:Sep g0 w0 g w L) (hp:L.Perm L'):Sep g0 w0 g w L':=
  ⟨h.ext,fun r hr=>h.ok r (hp.mem_iff.2 hr),fun r hr=>h.fresh r (hp.mem_iff.2 hr),(hp.pairwise_iff fun hxy b hb hc=>hxy b hc hb).1 h.apart⟩
theorem ww {A G B:List Res} {k:Nat} {r:Res} (h:G[k]?=some r):(A++(G++B))[A.length+k]?=some r:=by
  have hk:=(List.getElem?_eq_some_iff.1 h).1
  rw [List.getElem?_append_right (by omega),Nat.add_sub_cancel_left,List.getElem?_append_left hk]
  exact h
theorem Ci {A G B:List Res} {k:Nat} {r:Res} (hk:k<G.length):(A++(G++B)).set (A.length+k) r=A++(G.set k r++B):=by
  rw [List.set_append_right _ _ (by omega),Nat.add_sub_cancel_left,List.set_append_left _ _ hk]
section
variable {g0 g:Hp} {w0 w:World} {A G B:List Res}
theorem Sep.nilRows (h:Sep g0 w0 g w (A++B)) (n:Nat) (e:TypeId) (sz:Nat):Sep g0 w0 g w (A++(List.replicate n (.row (.slice none 0 0) e sz 0 [])++B)):=by
  have a:∀n,Sep g0 w0 g w (List.replicate n (.row (.slice none 0 0) e sz 0 [])++(A++B)):=by
    intro n
    induction n with
    | zero=>exact h
    | succ n ih=>rw [List.replicate_succ]; exact ih.nilRow e sz
  refine (a n).perm ?_
  rw [←List.append_assoc,←List.append_assoc]
  exact List.Perm.append_right _ List.perm_append_comm
theorem vg {α:Type} {τ:Ty α} {eI:TypeId} {g:Hp} (n:Nat):ei (gL τ eI) g (List.replicate n (.slice none 0 0)) (List.replicate n []) (List.replicate n (.row (.slice none 0 0) eI τ.sz 0 [])):=by
  refine ⟨by simp,by simp,fun i l hl=>?_⟩
  have hi:=(List.getElem?_eq_some_iff.1 hl).1
  simp only [List.length_replicate] at hi
  rw [List.getElem?_replicate,if_pos hi] at hl
  obtain rfl:=Option.some.inj hl
  exact ⟨.slice none 0 0,.row (.slice none 0 0) eI τ.sz 0 [],by rw [List.getElem?_replicate,if_pos hi],by rw [List.getElem?_replicate,if_pos hi],⟨none,0,rfl⟩,[],rfl,ak.nil⟩
theorem Sep.gridAt {L:List Res} {β:Type} {I:InT β} {ll:List β} {i:Nat} {v:Value} {e:TypeId} {xs:List Value} (h:Sep g0 w0 g w L) (hi:L[i]?=some (.row v e 1 ll.length xs)) (hG:ei I g xs ll G) {q:Int} {l:β} (hq:bo ll q=some l) :
    ∃b cap,v=.slice (some ⟨b,0,none⟩) ll.length cap∧∃u r,xs[q.toNat]?=some u∧G[q.toNat]?=some r∧I.rel g u l r∧
      ∀w',(Res.row v e 1 ll.length xs).ok w'→∀j y,[u][j]?=some y→w'.cell? ⟨b,0+q.toNat*1+j,none⟩=some y:=by
  obtain ⟨c,m,hl⟩:=ad hq
  obtain ⟨u,r,a,f,d⟩:=hG.el _ _ hl
  have hi':L[i]?=some (.row v e qP.sz xs.length xs):=by rw [hG.lx]; exact hi
  have hxq:bo xs q=some u:=by
    obtain ⟨k,rfl⟩:=Int.eq_ofNat_of_zero_le c
    rw [Int.toNat_natCast] at a
    have hk:=(List.getElem?_eq_some_iff.1 a).1
    unfold bo
    rw [if_pos (by omega),Int.toNat_natCast]
    exact a
  obtain ⟨b,cap,hv,cs,hc,hld⟩:=h.rowEl hi' (vM hG.ones) hxq
  obtain ⟨rfl,_⟩:=hc
  rw [hG.lx] at hv
  refine ⟨b,cap,hv,u,r,a,f,d,fun w' hw' j y hy=>hld w' ?_ j y hy⟩
  rw [hG.lx]; exact hw'
theorem Sep.gridPut {α:Type} {τ:Ty α} {eI:TypeId} {ll a:List (List α)} {xs ys:List Value} {l l':List α} {u:Value} {p q:Int} {x:α} {cs:List Value} (h:Sep g0 w0 g w (A++(G++B))) (hG:ei (gL τ eI) g xs ll G)
    (hx:xs[p.toNat]?=some u) (hu:G[p.toNat]?=some (.row u eI τ.sz l.length ys)) (hr:ak τ g ys l) (hset:cZ l q x=some l') (c:cZ ll p l'=some a) (hc:τ.rel g cs x) :
    ∃b cap,u=.slice (some ⟨b,0,none⟩) l.length cap∧∃w' G',(∀P:Program,(storeCells ⟨b,0+q.toNat*τ.sz,none⟩ cs).run P w=.ok () w')∧ei (gL τ eI) g xs a G'∧a.length=ll.length∧Sep g0 w0 g w' (A++(G'++B)):=by
  obtain ⟨b,cap,hv,w',xs',hst,hrel,hs⟩:=h.rowPut (ww (A:=A) (B:=B) hu) hr hset hc
  obtain ⟨f,e,rfl⟩:=aU c
  obtain ⟨_,_,d⟩:=aU hset
  have hl':l'.length=l.length:=by rw [d,List.length_set]
  have hk:=(List.getElem?_eq_some_iff.1 hu).1
  rw [Ci hk] at hs
  exact ⟨b,cap,hv,w',_,hst,hG.put hx ⟨⟨_,_,by rw [hv,hl']⟩,xs',rfl,hrel⟩,List.length_set,hs⟩
theorem Sep.gridSet {α:Type} {τ:Ty α} {eI:TypeId} {ll d:List (List α)} {xs ys:List Value} {l:List α} {v u:Value} {e:TypeId} {i j:Nat} {p:Int} (h:Sep g0 w0 g w (A++(G++B))) (hG:ei (gL τ eI) g xs ll G)
    (hi:A[i]?=some (.row v e 1 ll.length xs)) (hj:A[j]?=some (.row u eI τ.sz l.length ys)) (hij:i≠j) (hr:ak τ g ys l) (hset:cZ ll p l=some d) :
    ∃b cap,v=.slice (some ⟨b,0,none⟩) ll.length cap∧∃w' xs' G',(∀P:Program,(storeCells ⟨b,0+p.toNat*1,none⟩ [u]).run P w=.ok () w')∧ei (gL τ eI) g xs' d G'∧Sep g0 w0 g w' ((A.set i (.row v e 1 d.length xs')).eraseIdx j++(G'++B)):=by
  have hil:=(List.getElem?_eq_some_iff.1 hi).1
  have hjl:=(List.getElem?_eq_some_iff.1 hj).1
  have hjA:(A++(G++B))[j]?=some (.row u eI τ.sz l.length ys):=by rw [List.getElem?_append_left hjl]; exact hj
  have hshape:∃a c,u=.slice a l.length c:=h.rowShape hjA
  have hone:u.oneCell'=true:=by obtain ⟨a,c,rfl⟩:=hshape; rfl
  obtain ⟨y,z,rfl⟩:=aU hset
  have hiA:(A++(G++B))[i]?=some (.row v e qP.sz xs.length xs):=by rw [List.getElem?_append_left hil,hG.lx]; exact hi
  have hput:cZ xs p u=some (xs.set p.toNat u):=by
    unfold cZ
    rw [if_pos ⟨y,by rw [hG.lx]; omega⟩]
  obtain ⟨b,cap,hv,w',xs',hst,hrel,hs⟩:=h.rowPut hiA (vM hG.ones) hput (cs:=[u]) ⟨rfl,hone⟩
  obtain rfl:=pk hrel
  rw [hG.lx] at hv
  refine ⟨b,cap,hv,w',_,G.set p.toNat (.row u eI τ.sz l.length ys),hst,hG.set (by omega) ⟨hshape,ys,rfl,hr⟩,?_⟩
  have hlen:(xs.set p.toNat u).length=(ll.set p.toNat l).length:=by simp [hG.lx]
  rw [hlen,List.set_append_left _ _ hil] at hs
  generalize m:A.set i (.row v e qP.sz (ll.set p.toNat l).length (xs.set p.toNat u))=A2 at hs
  have hA2':A.set i (.row v e 1 (ll.set p.toNat l).length (xs.set p.toNat u))=A2:=m
  rw [hA2']
  have k:A2[j]?=some (.row u eI τ.sz l.length ys):=by rw [←m,List.getElem?_set_ne hij]; exact hj
  have f:=(List.getElem?_eq_some_iff.1 k).1
  have hk:p.toNat<G.length:=by rw [hG.lG]; omega
  have t:A2[j]'f=.row u eI τ.sz l.length ys:=(List.getElem?_eq_some_iff.1 k).2
  -- the old element goes,the row takes its place
  have s:(A2++(G++B)).Perm ((.row u eI τ.sz l.length ys)::(A2.eraseIdx j++(G++B))):=by
    have:A2.Perm (A2[j]'f::A2.eraseIdx j):=(kz f)
    rw [t] at this
    exact List.Perm.append_right _ this
  have o:=hs.perm s
  have n:Sep g0 w0 g w' ((.row u eI τ.sz l.length ys)::(A2.eraseIdx j++(G.eraseIdx p.toNat++B))):=o.sub (.cons_cons _ ((List.Sublist.append_left ((List.eraseIdx_sublist G _).append_right B) _)))
  refine n.perm ?_
  have r:(G.set p.toNat (.row u eI τ.sz l.length ys)).Perm ((.row u eI τ.sz l.length ys)::G.eraseIdx p.toNat):=by
    have x:p.toNat<(G.set p.toNat (.row u eI τ.sz l.length ys)).length:=by simpa using hk
    have:=kz x
    rw [List.getElem_set_self,List.eraseIdx_set_eq] at this
    exact this
  have q:((.row u eI τ.sz l.length ys)::(A2.eraseIdx j++(G.eraseIdx p.toNat++B))).Perm (A2.eraseIdx j++((.row u eI τ.sz l.length ys)::G.eraseIdx p.toNat++B)):=List.perm_middle.symm
  exact q.trans (List.Perm.append_left _ (List.Perm.append_right _ r.symm))
theorem Sep.relGrid {α:Type} {τ:Ty α} {eI:TypeId} {B:List Res}:∀ {ll:List (List α)} {xs:List Value} {G A:List Res} {g:Hp},Sep g0 w0 g w (A++(G++B))→ei (gL τ eI) g xs ll G→
    ∃g',aY g g'∧ak (cz τ) g' xs ll∧Sep g0 w0 g' w (A++B)
  | [],xs,G,A,g,h,hG=>by
    have n:xs=[]:=List.eq_nil_of_length_eq_zero hG.lx
    have m:G=[]:=List.eq_nil_of_length_eq_zero hG.lG
    subst n m
    exact ⟨g,aY.refl g,ak.nil,h⟩
  | l::ll,xs,G,A,g,h,hG=>by
    match xs,G,hG with
    | x::xs,r::G,hG=>
      obtain ⟨v,r',d,c,o⟩:=hG.el 0 l rfl
      simp only [List.getElem?_cons_zero,Option.some.injEq] at d c
      subst d c
      obtain ⟨_,ys,rfl,hr⟩:=o
      have hi:(A++(Res.row x eI τ.sz l.length ys::G++B))[A.length]?=some (.row x eI τ.sz l.length ys):=by simp
      obtain ⟨g1,hle,hrd,hs⟩:=h.relRow hi hr
      have e:(A++(Res.row x eI τ.sz l.length ys::G++B)).eraseIdx A.length=A++(G++B):=by
        rw [List.eraseIdx_append_of_length_le (Nat.le_refl _)]
        simp
      rw [e] at hs
      have j:ei (gL τ eI) g1 xs ll G:=by
        have:=hG.mono hle
        refine ⟨by have:=this.lx; simpa using this,by have:=this.lG; simpa using this,fun i y hy=>?_⟩
        have k:=this.el (i+1) y (by simpa using hy)
        simpa using k
      obtain ⟨b,a,hrow,f⟩:=Sep.relGrid hs j
      refine ⟨b,hle.trans a,?_,f⟩
      have:ak (cz τ) b [x] [l]:=ak.one ⟨x,rfl,hrd.mono a⟩
      exact this.append hrow
    | [],_,hG=>exact absurd hG.lx (by simp)
    | _::_,[],hG=>exact absurd hG.lG (by simp)
end
end Go.Lx
namespace Go.Lx
open Go.RowKit
section
variable {P:Program} {n:Fr} {Q:EPost} {E:Env} {w:World} {ops:Array Oper} {rest:List Oper} {d:Tmp} {ty:TypeId} {ps:String} {af:Array Edge} {g0 g:Hp} {w0:World} {A B G H:List Res}
theorem yd {α β:Type} {B:Nat} {q:Int} {z:α} {r:List α} (h:nY B q z=some r) (y:β):nY B q y=some (List.replicate q.toNat y)∧r=List.replicate q.toNat z:=by
  obtain ⟨e,h0,h1⟩:=rn h
  refine ⟨?_,e⟩
  unfold nY
  rw [if_pos ⟨h0,h1⟩]
theorem xm {α:Type} {τ:Ty α} {eI:TypeId} {T el:TypeId} {bytes:Nat} {z:Value} {x y:Operand} {b a:IntKind} {q:Int} {r:List (List α)}
    (hT:P.underlying T=some (.slice el)) (he:eb P el false 1 bytes z) (hzc:z.cells=[Value.slice none 0 0].toArray) (hbp:0<bytes) (hs:Sep g0 w0 g w (A++B))
    (hx:ev E x=.int b q) (hy:ev E y=.int a q) (hM:nY bytes q ([]:List α)=some r) (hd:Nat.blt d n.sz=true)
    (k:∀v' w' xs' G',ei (gL τ eI) g xs' r G'→Sep g0 w0 g w' ((.row v' el 1 r.length xs'::A)++(G'++B))→OW P n ops Q rest (dD E d v') w') :
    OW P n ops Q (⟨some d,.makeSlice T x y,ty,ps,af,none⟩::rest) E w:=by
  obtain ⟨e,rfl⟩:=yd hM (Value.slice none 0 0)
  refine cG (τ:=qP) (zc:=[Value.slice none 0 0]) hT he hzc ⟨rfl,rfl⟩ hbp hs hx hy e hd fun v' w' xs' hr hs'=>?_
  obtain rfl:=pk hr
  refine k v' w' _ _ (vg (τ:=τ) (eI:=eI) q.toNat) ?_
  have c:Sep g0 w0 g w' ((.row v' el 1 (List.replicate q.toNat ([]:List α)).length (List.replicate q.toNat (Value.slice none 0 0))::A)++B):=by
    rw [List.length_replicate] at hs' ⊢
    exact hs'
  exact c.nilRows _ _ _
theorem vQ {T:TypeId} {x y:Operand} {a:Addr} {v:Value} {agg:Bool} {bytes:Nat} {z:Value} {w':World} {dd:Option Tmp} {gg:Option (Nat×Bool)} (ht:eb P T agg 1 bytes z) (hx:ev E x=.pointer (some a)) (hy:ev E y=v) (ho:v.oneCell'=true)
    (hs:∀P:Program,(storeCells a [v]).run P w=.ok () w'):uC P E ⟨dd,.store T x y,ty,ps,af,gg⟩ w w':=
  cc ht hx hy (by have:=congrArg List.length (bZ ho); simpa using this) (by rw [bZ ho]; exact hs)
end
end Go.Lx
namespace Go.Lx
open Go.RowKit Go.Maps
section
variable {P:Program} {n:Fr} {Q:EPost} {E:Env} {w:World} {ops:Array Oper} {rest:List Oper} {d:Tmp} {ty:TypeId} {ps:String} {af:Array Edge} {g0 g:Hp} {w0:World} {L:List Res}
end
theorem tC {n:Nat} {v:az n} {q c:Int} {k:IntKind} {w:World} {b o:Nat} (hc:∀j u,(v.1.map (Value.int k))[j]?=some u→w.cell? ⟨b,o+j,none⟩=some u) (h:fU v q=some c) :
    ∀j u,[Value.int k c][j]?=some u→w.cell? ⟨b,o+q.toNat*1+j,none⟩=some u:=by
  intro j u hj
  cases j with
  | zero=>
    simp at hj; subst hj
    have:=hc _ _ (dJ (k:=k) h)
    simpa using this
  | succ j=>simp at hj
end Go.Lx
namespace Go.Lx
open Go.RowKit Go.ChangeShapes Go.WideShapes Go.ChangeAt
structure BY (B:∀H:Type,DataW H→Nat):Prop where
  slice:∀(H:Type) (es sp:List (DataW H)),(es.map (B H)).sum≤B H (.slice es sp)
  agg:∀(H:Type) (ps:List (DataW H)),(ps.map (B H)).sum+1≤B H (.agg ps)
def kI (B:∀H:Type,DataW H→Nat) (P:Program) (T:TypeId) {α:Type} (τ:Ty α) (ok:α→Nat→Prop) (f:Nat):Prop:=
  ∀(H:Type) (enc:TypeId×Value→H) (w:World) (cs:List Value) (x:DataW H×List MemPlace),
    DataW.trod enc P w 0 (fun _=>true) true f T cs=some x→∃y,τ.rel (gr w) cs y∧ok y (B H x.1)
def BP {α:Type} (ok:α→Nat→Prop) (l:List α) (n:Nat):Prop:=∃ns:List Nat,ns.length=l.length∧ns.sum≤n∧∀(i:Nat) (x:α),l[i]?=some x→∃k,ns[i]?=some k∧ok x k
theorem nO {B:∀H:Type,DataW H→Nat} (hB:BY B) {P:Program} {T:TypeId} {α:Type} {el:TypeId} {τ:Ty α} {ok:α→Nat→Prop} {f:Nat} (hT:P.underlying T=some (.slice el)) (hc:P.cellsOf el=τ.sz) (hsz:0<τ.sz) (hr:∀m,m<f→kI B P el τ ok m) :
    kI B P T (cz τ) (fun l n=>BP ok l n∧l.length≤maxLen) f:=by
  intro H enc w cs x h
  rcases DataW.trod_slice hT h with ⟨rfl,_⟩|⟨a,len,cap,elems,rest,m,hfm,rfl,rfl,_,hlc,hcm,hlen,hel,_⟩
  · exact ⟨[],⟨_,rfl,cI.nil⟩,⟨[],rfl,by simp,by simp⟩,by simp⟩
  · have hsum:=hB.slice H (elems.map (·.1)) (rest.map (·.1))
    have hfin:∀l:List α,l.length=len→(∀(i:Nat) (x:α),l[i]?=some x→∃e,elems[i]?=some e∧ok x (B H e.1))→BP ok l (B H (.slice (elems.map (·.1)) (rest.map (·.1)))):=by
      intro l hl hok
      refine ⟨(elems.map (·.1)).map (B H),by simp [hlen,hl],hsum,fun i x hx=>?_⟩
      obtain ⟨e,he,hk⟩:=hok i x hx
      exact ⟨_,by simp [he],hk⟩
    have hex:∀i,i<len→∃ci y e,elems[i]?=some e∧(∀j u,ci[j]?=some u→w.cell? ((a.add (i*τ.sz)).add j)=some u)∧ci.length=τ.sz∧τ.rel (gr w) ci y∧ok y (B H e.1):=by
      intro i hi
      have c:=hel i hi
      rw [List.getElem?_eq_getElem (by omega),hc] at c
      cases d:w.cells? 0 (a.add (i*τ.sz)) τ.sz with
      | none=>rw [d] at c; simp at c
      | some ci=>
        rw [d] at c
        simp only [Option.bind_some] at c
        obtain ⟨y,hy,hok⟩:=hr m (by omega) H enc w ci _ c
        simp only [World.cells?,Nat.zero_le,if_true] at d
        obtain ⟨hl,hcell⟩:=oe d
        exact ⟨ci,y,_,List.getElem?_eq_getElem (by omega),hcell,hl,hy,hok⟩
    rcases Nat.eq_zero_or_pos len with g|g
    · subst g
      exact ⟨[],⟨_,rfl,[],ak.nil,.inl ⟨rfl,rfl,some a,cap,rfl,fun h=>by cases h⟩⟩,hfin [] rfl (by simp),by simp⟩
    · have hspot:a.spot=none:=by
        obtain ⟨ci,_,_,_,hcell,hl,_⟩:=hex 0 g
        have hci:ci[0]?=some (ci[0]'(by omega)):=List.getElem?_eq_getElem (by omega)
        have:=hcell 0 _ hci
        have:=World.cell?_spot this
        simpa [Addr.add] using this
      obtain ⟨b,off,spot⟩:=a
      simp only at hspot
      subst hspot
      have build:∀k,k≤len→∃(xs:List Value) (l:List α),l.length=k∧ak τ (gr w) xs l∧(∀(i:Nat) (x:α),l[i]?=some x→∃e,elems[i]?=some e∧ok x (B H e.1))∧∀j u,xs[j]?=some u→w.cell? ⟨b,off+j,none⟩=some u:=by
        intro k
        induction k with
        | zero=>intro _; exact ⟨[],[],rfl,ak.nil,by simp,by simp⟩
        | succ k ih=>
          intro hk
          obtain ⟨xs,l,hl,hrr,hok,hcell⟩:=ih (by omega)
          obtain ⟨ci,y,e,he,hci,hcl,hy,hoky⟩:=hex k (by omega)
          refine ⟨xs++ci,l++[y],by simp [hl],hrr.append (ak.one hy),?_,?_⟩
          · intro i z hz
            rw [List.getElem?_append] at hz
            split at hz
            · exact hok i z hz
            · rw [List.getElem?_singleton] at hz
              split at hz
              · cases hz
                have:i=k:=by omega
                subst this
                exact ⟨e,he,hoky⟩
              · cases hz
          · intro j u hu
            rw [List.getElem?_append] at hu
            split at hu
            · exact hcell j u hu
            · rename_i hj
              have:=hci _ _ hu
              rw [Addr.add_lit,Addr.add_lit] at this
              have hx:=hrr.1
              rw [hl] at hx
              rw [show off+j=off+k*τ.sz+(j - xs.length) by omega]
              exact this
      obtain ⟨xs,l,hl,hrr,hok,hcell⟩:=build len (Nat.le_refl _)
      have p:0<xs.length:=by rw [hrr.1,hl]; exact Nat.mul_pos g hsz
      have hfirst:=hcell 0 xs[0] (List.getElem?_eq_getElem p)
      cases hblk:w.heap[b]? with
      | none=>simp [World.cell?,hblk] at hfirst
      | some o=>
        cases o with
        | cells arr e fz=>
          refine ⟨l,⟨_,rfl,xs,hrr,.inr ⟨b,off,cap,arr,e,fz,by rw [hl],by omega,hblk,fun j u hu=>?_⟩⟩,hfin l hl hok,by omega⟩
          have:=hcell j u hu
          simpa [World.cell?,hblk] using this
        | _=>simp [World.cell?,hblk] at hfirst
theorem qo {B:∀H:Type,DataW H→Nat} {P:Program} {α:Type} {H:Type} {enc:TypeId×Value→H} {w:World} {n:Nat} {fs:Array Field} {cs:List Value} {xs:List (DataW H×List MemPlace)} {f:Field} {τ:Ty α} {ok:α→Nat→Prop}
    (hr:kI B P f.type τ ok n) (hf:∀(i:Nat) (f:Field),fs[i]?=some f→DataW.trod enc P w 0 (fun _=>true) true n f.type ((cs.drop f.offset).take (P.cellsOf f.type))=xs[i]?) (hlen:xs.length=fs.size)
    (i:Nat) (hi:fs[i]?=some f) {o s:Nat} (ho:f.offset=o) (hs:P.cellsOf f.type=s):∃y e,xs[i]?=some e∧τ.rel (gr w) ((cs.drop o).take s) y∧ok y (B H e.1):=by
  have h:=hf i f hi
  have hl:i<xs.length:=by rw [hlen]; exact (Array.getElem?_eq_some_iff.1 hi).1
  rw [List.getElem?_eq_getElem hl,ho,hs] at h
  obtain ⟨y,b,a⟩:=hr H enc w _ _ h
  exact ⟨y,_,List.getElem?_eq_getElem hl,b,a⟩
theorem vC {B:∀H:Type,DataW H→Nat} {P:Program} {T:TypeId} {α:Type} {τ:Ty α} {ok:α→Nat→Prop} (hs:xf P T) (hr:∀f,kI B P T τ ok f) {H:Type} {enc:TypeId×Value→H} {w:World} {v:Value} {d:DataW H} {p:List MemPlace} {r:Reach} {base:Nat}
    (hv:Value.okWide P w r base T v) (h:DataW.Trod enc P w 0 (fun _=>true) true T v d p):∃y,cX τ false (gr w) v y∧ok y (B H d):=by
  obtain ⟨f,hf⟩:=h
  obtain ⟨y,hy,hok⟩:=hr f H enc w _ _ hf
  refine ⟨y,⟨v.cells.toList,?_,hy⟩,hok⟩
  cases v with
  | agg cs=>exact (hs w r base cs hv).elim
  | _=>simp [tD,Value.cells]
theorem xI {ns:List Nat} {i k:Nat} (h:ns[i]?=some k):k≤ns.sum:=by
  induction ns generalizing i with
  | nil=>simp at h
  | cons a ns ih=>
    cases i with
    | zero=>simp at h; subst h; simp
    | succ i=>have:=ih (i:=i) (by simpa using h); simp only [List.sum_cons]; omega
end Go.Lx
namespace Go.Proofs
open Go.Shelf
def Tryz.lays137_ren:Go.Shelf.Ren:=⟨fun|137=>125|217=>98|266=>105|n=>n,fun|9=>9|5=>5|3=>3|n=>n,fun|n=>n⟩
theorem Tryz.lays137:Go.Proofs.Lays.n137 Tryz.prog Tryz.lays137_ren:={
  mixed:=by kernel_rfl
  f137:=Tryz.func125.trans (congrArg some (by kernel_rfl))
  f217:=Tryz.func98.trans (congrArg some (by kernel_rfl))
  f266:=Tryz.func105.trans (congrArg some (by kernel_rfl))
  t3:=DO
  a3:=Tryz.isAgg3
  z3:=Tryz.sizeOf3
  v3:=Tryz.zeroValue3
  t5:=DV
  a5:=Tryz.isAgg5
  z5:=Tryz.sizeOf5
  v5:=Tryz.zeroValue5
  t9:=DC
  a9:=Tryz.isAgg9
  z9:=Tryz.sizeOf9
  v9:=Tryz.zeroValue9 }
open Go.RowKit in
theorem Tryz.strings_IndexByte (s:ByteArray) (c:Int) (w:World) :
    Calls Tryz.prog 125 #[.string s,.int .u8 c] w fun e w'=>e=.returned (.int .i64 (Lib.indexByte s.data.toList c.toNat.toUInt8))∧w'=w:=Any.strings_IndexByte Tryz.lays137 s c w
def Tryz.lays219_ren:Go.Shelf.Ren:=⟨fun|219=>94|217=>98|225=>99|224=>100|267=>101|266=>105|314=>106|n=>n,fun|9=>9|3=>3|4=>4|5=>5|46=>142|146=>148|51=>147|n=>n,fun|1=>0|n=>n⟩
theorem Tryz.lays219:Go.Proofs.Lays.n219 Tryz.prog Tryz.lays219_ren:={
  mixed:=by kernel_rfl
  f217:=Tryz.func98.trans (congrArg some (by kernel_rfl))
  f219:=Tryz.func94.trans (congrArg some (by kernel_rfl))
  f224:=Tryz.func100.trans (congrArg some (by kernel_rfl))
  f225:=Tryz.func99.trans (congrArg some (by kernel_rfl))
  f266:=Tryz.func105.trans (congrArg some (by kernel_rfl))
  f267:=Tryz.func101.trans (congrArg some (by kernel_rfl))
  f314:=Tryz.func106.trans (congrArg some (by kernel_rfl))
  t3:=DO
  a3:=Tryz.isAgg3
  z3:=Tryz.sizeOf3
  v3:=Tryz.zeroValue3
  t4:=Eb
  a4:=Tryz.isAgg4
  z4:=Tryz.sizeOf4
  v4:=Tryz.zeroValue4
  t5:=DV
  a5:=Tryz.isAgg5
  z5:=Tryz.sizeOf5
  v5:=Tryz.zeroValue5
  t9:=DC
  a9:=Tryz.isAgg9
  z9:=Tryz.sizeOf9
  v9:=Tryz.zeroValue9
  t46:=Ee
  a46:=Tryz.isAgg142
  z46:=Tryz.sizeOf142
  v46:=Tryz.zeroValue142
  t51:=Tryz.underlying147
  a51:=Tryz.isAgg147
  z51:=Tryz.sizeOf147
  v51:=Tryz.zeroValue147
  t146:=Tryz.underlying148
  a146:=Tryz.isAgg148
  z146:=Tryz.sizeOf148
  v146:=Tryz.zeroValue148
  g1:=by kernel_rfl }
open Go.RowKit Go.Lib in
theorem Tryz.stringslite_Index_one (s:ByteArray) (c:UInt8) (w:World) :
    Calls Tryz.prog 94 #[.string s,.string ⟨#[c]⟩] w fun e w'=>e=.returned (.int .i64 (Lib.indexByte s.data.toList c))∧w'=w:=Any.stringslite_Index_one Tryz.lays219 s c w
end Go.Proofs
