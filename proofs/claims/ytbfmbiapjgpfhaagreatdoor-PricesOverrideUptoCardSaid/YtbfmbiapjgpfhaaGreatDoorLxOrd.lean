/- Lx, part 9: a region that draws its order and holds calls: the orders that are left when what only reads comes first. -/
import Derived.Test.YtbfmbiapjgpfhaaGreatDoorLxMisc
import Derived.OrdersHeld
import Derived.OrdersIn
namespace Go.Lx
open Go.RowKit

/-- Behind number j the condition is asked for, unless j waits for every one of those that are taken first. -/
def addB (acc : List Nat) : List Edge → List Nat
  | [] => acc
  | e :: l => addB (if Region.binds .any e && !acc.contains e.on then e.on :: acc else acc) l
def befOf (ops : Array Oper) (acc : List Nat) (j : Nat) : List Nat := match ops[j]? with
  | some o => addB acc o.after.toList
  | none => acc
def befs (ops : Array Oper) (j : Nat) : Nat → List Nat
  | 0 => befOf ops [] j
  | k + 1 => (befs ops j k).foldl (befOf ops) (befs ops j k)
def needS (ops : Array Oper) (qs : List Nat) (j : Nat) : Bool := !(qs.all fun i => (befs ops j 8).contains i)
/-- What is listed has all listed that it waits for. -/
def Cl (ops : Array Oper) (listed : Array Bool) : Prop := ∀ (k : Nat) (o : Oper), ops[k]? = some o → listed.getD k false = true → ∀ e ∈ o.after, Region.binds .any e = true → listed.getD e.on false = true
theorem addB_listed {listed : Array Bool} : ∀ (l : List Edge) (acc : List Nat), (∀ x ∈ acc, listed.getD x false = true) → (∀ e ∈ l, Region.binds .any e = true → listed.getD e.on false = true) → ∀ x ∈ addB acc l, listed.getD x false = true
  | [], _, h, _ => h
  | e :: l, acc, h, h2 => by
    unfold addB
    refine addB_listed l _ ?_ (fun e' he' => h2 e' (List.mem_cons_of_mem _ he'))
    split
    · rename_i hc
      simp only [Bool.and_eq_true] at hc
      intro x hx
      rcases List.mem_cons.1 hx with rfl | hx
      · exact h2 e (List.mem_cons_self ..) hc.1
      · exact h x hx
    · exact h
theorem befs_listed {ops : Array Oper} {listed : Array Bool} {j : Nat} (hcl : Cl ops listed) (hj : ∀ o, ops[j]? = some o → ∀ e ∈ o.after, Region.binds .any e = true → listed.getD e.on false = true) : ∀ k, ∀ x ∈ befs ops j k, listed.getD x false = true := by
  intro k
  induction k with
  | zero =>
    unfold befs befOf
    split
    · rename_i o ho; exact addB_listed _ _ (by simp) (fun e he => hj o ho e (by simpa using he))
    · simp
  | succ k ih =>
    unfold befs
    have : ∀ (l acc : List Nat), (∀ x ∈ l, listed.getD x false = true) → (∀ x ∈ acc, listed.getD x false = true) → ∀ x ∈ l.foldl (befOf ops) acc, listed.getD x false = true := by
      intro l
      induction l with
      | nil => exact fun _ _ h => h
      | cons y l ih2 =>
        intro acc hl hacc
        refine ih2 _ (fun x hx => hl x (List.mem_cons_of_mem _ hx)) ?_
        unfold befOf
        split
        · rename_i o ho; exact addB_listed _ _ hacc (fun e he => hcl y o ho (hl y (List.mem_cons_self ..)) e (by simpa using he))
        · exact hacc
    exact this _ _ ih ih
def noDefer (ops : Array Oper) : Bool := ops.all fun o => match o.op with | .defer _ => false | _ => true
theorem noDefer_spec {ops : Array Oper} (h : noDefer ops = true) (j : Nat) (o : Oper) (c : Call) (hj : ops[j]? = some o) : o.op ≠ .defer c := by
  intro hc
  unfold noDefer at h
  rw [Array.all_eq_true] at h
  obtain ⟨hlt, hj⟩ := Array.getElem?_eq_some_iff.1 hj
  have := h j hlt
  rw [hj, hc] at this
  cases this
def wpAnyN (n : Fr) (P : Program) (ops : Array Oper) (Q : Exit → Act → World → Prop) (S : World → Prop) (qs : List Nat) : Nat → Array Bool → Act → World → Prop
  | 0, listed, a, w => Region.ready .any ops listed = [] ∧ Q .normal a w
  | fuel + 1, listed, a, w =>
    (Region.ready .any ops listed = [] → Q .normal a w) ∧
    ∀ i ∈ Region.ready .any ops listed, wpOpIn (Fz n) 0 P ops Q i (fun a' w' => (needS ops qs i = true → S w') ∧ wpAnyN n P ops Q S qs fuel (listed.setIfInBounds i true) a' w') a w
section
variable {n : Fr} {P : Program} {ops : Array Oper} {Q : Exit → Act → World → Prop} {S : World → Prop} {qs : List Nat}
theorem wpAny_of_N : ∀ (fuel : Nat) (listed : Array Bool) (a : Act) (w : World), wpAnyN n P ops Q S qs fuel listed a w → wpAnyIn (Fz n) 0 P .any ops Q fuel listed a w
  | 0, _, _, _, h => h
  | fuel + 1, _, _, _, h => ⟨h.1, fun i hi => wpOpIn_mono (fun a' w' h' => wpAny_of_N fuel _ a' w' h'.2) (h.2 i hi)⟩
theorem yieldsIf_opIn {i : Nat} {o : Oper} {v : Value} {a : Act} (hi : ops[i]? = some o) (hy : YieldsIf P ops S o v a)
    {K : Act → World → Prop} {w : World} (hS : S w) (h : K (a.put o.dst v) w) : wpOpIn (Fz n) 0 P ops Q i K a w := by
  unfold Go.wpOpIn
  simp only [hi]
  rcases hy with ⟨hw, hv⟩ | ⟨hw, rfl⟩
  · rw [if_pos hw]
    refine ⟨fun _ _ => trivial, ?_⟩
    rw [semAt_run (hv w hS) (by simp)]
    exact h
  · rw [if_neg (by simp [hw])]; exact ⟨fun _ _ => trivial, h⟩
theorem wpOpIn_putIf {j : Nat} {oi oj : Oper} {v : Value} (hj : ops[j]? = some oj) (hap : oi.apart ops oj = true)
    (hsi : ∀ cs b, oi.op ≠ .select cs b) (hsj : ∀ cs b, oj.op ≠ .select cs b) (hdj : ∀ c, oj.op ≠ .defer c)
    (hQ : ∀ c a w, Q (.panic c) (a.put oi.dst v) w → Q (.panic c) a w) {K : Act → World → Prop} {a : Act} {w : World}
    (hy : YieldsIf P ops S oi v a) (h : wpOpIn (Fz n) 0 P ops Q j K (a.put oi.dst v) w) :
    wpOpIn (Fz n) 0 P ops Q j (fun a' w' => YieldsIf P ops S oi v a' ∧ K (a'.put oi.dst v) w') a w := by
  obtain ⟨h1, h2, h3⟩ := Oper.apart_spec hap
  have keep : ∀ (a : Act), YieldsIf P ops S oi v a → ∀ u, YieldsIf P ops S oi v (a.put oj.dst u) := fun a hy u =>
    hy.of_same (execOp_put oi hsi a oj.dst u h3) (wanted_put oi a oj.dst u h3)
  have keepD : ∀ d, YieldsIf P ops S oi v { a with defers := d :: a.defers } := fun d => hy.of_same rfl rfl
  unfold wpOpIn at *
  simp only [hj] at *
  rw [wanted_put oj a oi.dst v h1] at h
  split
  · rename_i hw
    simp only [hw, if_true] at h
    unfold Oper.wpIn at *
    refine ⟨fun _ _ => trivial, ?_⟩
    have h := h.2
    rw [Oper.semAt_eq _ _ _ hdj, execOp_put oj hsj a oi.dst v h1] at h
    rw [Oper.semAt_eq _ _ _ hdj]
    generalize (execOp a.eval oj).run P w = r at *
    cases r with
    | ok x w' =>
      cases x <;> simp only [Oper.uponIn] at h ⊢
      case value u => exact ⟨keep a hy u, by rw [← Act.put_comm a v u h2]; exact h⟩
      case skip => exact ⟨keep a hy _, by rw [← Act.put_comm a v undef h2]; exact h⟩
      case defer d =>
        refine ⟨keep _ (keepD d) _, ?_⟩
        rw [← Act.put_comm _ v undef h2, ← Act.put_defers]
        exact h
      case enter f args =>
        refine ⟨h.1, CallsIn.mono h.2 fun e w'' he => ?_⟩
        cases e with
        | returned u => exact ⟨keep a hy u, by rw [← Act.put_comm a v u h2]; exact he⟩
        | panicked c => exact hQ _ _ _ he
        | outgrown => exact he
      case row row args => exact ⟨h.1, RowsIn.mono h.2 fun u w'' he => ⟨keep a hy u, by rw [← Act.put_comm a v u h2]; exact he⟩⟩
      case round l f tmps assign body =>
        refine ⟨h.1, RoundIn.mono h.2 fun e w'' he => ?_⟩
        cases e with
        | returned u => exact ⟨keep a hy u, by rw [← Act.put_comm a v u h2]; exact he⟩
        | panicked c => exact hQ _ _ _ he
        | outgrown => exact he
    | halt x w' =>
      cases x <;> simp only [Oper.uponIn] at h ⊢
      case panic u => exact hQ _ _ _ h
  · rename_i hw
    simp only [hw] at h
    exact ⟨fun _ _ => trivial, keep a hy _, by rw [← Act.put_comm a v undef h2]; exact h.2⟩
theorem Cl.start (m : Nat) : Cl ops (Array.replicate m false) := fun k o _ hk => by
  simp only [Array.getD_eq_getD_getElem?, Array.getElem?_replicate] at hk
  split at hk <;> simp at hk
theorem Cl.set {listed : Array Bool} (h : Cl ops listed) {i : Nat} (hi : i ∈ Region.ready .any ops listed) : Cl ops (listed.setIfInBounds i true) := by
  intro k o hk hl e he hb
  by_cases hik : i = k
  · subst hik
    obtain ⟨_, o', ho', hall⟩ := mem_ready.1 hi
    rw [hk] at ho'
    obtain rfl := Option.some.inj ho'
    exact getD_set_true (hall e he hb)
  · rw [getD_set_ne false hik] at hl
    exact getD_set_true (h k o hk hl e he hb)
theorem wpAnyN_first {i : Nat} {oi : Oper} {v : Value} (hq : i ∈ qs) (hi : ops[i]? = some oi) (hsel : ∀ (j : Nat) (o : Oper) cs b, ops[j]? = some o → o.op ≠ .select cs b) (hdef : noDefer ops = true)
    (hQ : ∀ c a w, Q (.panic c) (a.put oi.dst v) w → Q (.panic c) a w) :
    ∀ (fuel : Nat) (listed : Array Bool) (a : Act) (w : World),
      (∀ j oj, ops[j]? = some oj → j ≠ i → listed.getD j true = false → (∀ e ∈ oj.after, Region.binds .any e = true → e.on ≠ i) → oi.apart ops oj = true) →
      Cl ops listed → i ∈ Region.ready .any ops listed → YieldsIf P ops S oi v a → S w →
      wpAnyN n P ops Q S qs fuel (listed.setIfInBounds i true) (a.put oi.dst v) w → wpAnyN n P ops Q S qs (fuel + 1) listed a w := by
  intro fuel
  induction fuel with
  | zero =>
    intro listed a w _ hcl hr hy hS H
    refine ⟨fun h => (by rw [h] at hr; cases hr), fun j hj => ?_⟩
    by_cases hji : j = i
    · subst hji; exact yieldsIf_opIn hi hy hS ⟨fun _ => hS, H⟩
    · have := ready_mono hj hji
      rw [H.1] at this
      cases this
  | succ fuel ih =>
    intro listed a w hfree hcl hr hy hS H
    refine ⟨fun h => (by rw [h] at hr; cases hr), fun j hj => ?_⟩
    by_cases hji : j = i
    · subst hji; exact yieldsIf_opIn hi hy hS ⟨fun _ => hS, H⟩
    · have h1 := H.2 j (ready_mono hj hji)
      obtain ⟨hjun, oj, hoj, hall⟩ := mem_ready.1 hj
      have hnot : ∀ e ∈ oj.after, Region.binds .any e = true → e.on ≠ i := fun e he hb heq => by
        have h1 := hall e he hb
        have h0 := (mem_ready.1 hr).1
        rw [heq] at h1
        rcases Nat.lt_or_ge i listed.size with h' | h'
        · simp [h'] at h0 h1; rw [h0] at h1; cases h1
        · simp [Array.getElem?_eq_none h'] at h1
      have hneed : needS ops qs j = true := by
        unfold needS
        rw [Bool.not_eq_true', List.all_eq_false]
        refine ⟨i, hq, fun hc => ?_⟩
        have h1 := befs_listed (j := j) hcl (fun o ho e he hb => by rw [hoj] at ho; obtain rfl := Option.some.inj ho; exact hall e he hb) 8 i (by simpa using hc)
        have h0 := (mem_ready.1 hr).1
        rcases Nat.lt_or_ge i listed.size with h' | h'
        · simp [h'] at h0 h1; rw [h0] at h1; cases h1
        · simp [Array.getElem?_eq_none h'] at h1
      have h2 := wpOpIn_putIf hoj (hfree j oj hoj hji hjun hnot) (fun cs b => hsel i oi cs b hi) (fun cs b => hsel j oj cs b hoj) (fun c => noDefer_spec hdef j oj c hoj) hQ hy h1
      have hfree' : ∀ k ok, ops[k]? = some ok → k ≠ i → (listed.setIfInBounds j true).getD k true = false →
          (∀ e ∈ ok.after, Region.binds .any e = true → e.on ≠ i) → oi.apart ops ok = true := fun k ok hk hki hun hno => by
        refine hfree k ok hk hki ?_ hno
        by_cases hjk : j = k
        · subst hjk; exact hjun
        · rw [getD_set_ne true hjk] at hun; exact hun
      refine wpOpIn_mono (fun a' w' h3 => ⟨fun _ => h3.2.1 hneed, ih (listed.setIfInBounds j true) a' w' hfree' (hcl.set hj) (ready_mono hr (Ne.symm hji)) h3.1 (h3.2.1 hneed) ?_⟩) h2
      rw [Array.setIfInBounds_comm _ _ hji]
      exact h3.2.2
theorem wpAnyN_take {i : Nat} {oi : Oper} {v : Value} {fuel : Nat} {listed : Array Bool} {a : Act} {w : World} (hq : i ∈ qs) (hi : ops[i]? = some oi)
    (hs : Region.noSelect ops = true) (hdef : noDefer ops = true) (hf : Region.free .any ops listed i = true) (hr : (Region.ready .any ops listed).contains i = true)
    (hcl : Cl ops listed) (hQ : ∀ c a w, Q (.panic c) (a.put oi.dst v) w → Q (.panic c) a w) (hy : YieldsIf P ops S oi v a) (hS : S w)
    (h : wpAnyN n P ops Q S qs fuel (listed.setIfInBounds i true) (a.put oi.dst v) w) : wpAnyN n P ops Q S qs (fuel + 1) listed a w :=
  wpAnyN_first hq hi (Region.noSelect_spec hs) hdef hQ fuel listed a w (Region.free_spec hi hf) hcl (by simpa using hr) hy hS h
theorem wpAnyN_all {rs : List Nat} {fuel : Nat} {listed : Array Bool} {a : Act} {w : World} (hr : Region.ready .any ops listed = rs) (hne : rs ≠ [])
    (h : ∀ i ∈ rs, wpOpIn (Fz n) 0 P ops Q i (fun a' w' => (needS ops qs i = true → S w') ∧ wpAnyN n P ops Q S qs fuel (listed.setIfInBounds i true) a' w') a w) : wpAnyN n P ops Q S qs (fuel + 1) listed a w :=
  ⟨fun h0 => absurd (hr ▸ h0) hne, hr ▸ h⟩
theorem wpAnyN_done {listed : Array Bool} {a : Act} {w : World} (hr : Region.ready .any ops listed = []) (h : Q .normal a w) :
    ∀ fuel, wpAnyN n P ops Q S qs fuel listed a w
  | 0 => ⟨hr, h⟩
  | _ + 1 => ⟨fun _ => h, by rw [hr]; simp⟩
theorem wp_region_N {id : Nat} {a : Act} {w : World} (hm : P.follows .mixedOrders = true)
    (h : wpAnyN n P ops Q S qs ops.size (Array.replicate ops.size false) a { w with drawn := w.drawn + 1 }) : (Code.region id ops true).wpIn (Fz n) 0 P Q a w :=
  wpIn_region_any hm (wpAny_of_N _ _ _ _ h)
end

/-- A plan of orders: 'q k': number k only reads and comes first; 's k': k alone can come; 'c k t u': k can come, and so can those of u; 'n': no more can. -/
inductive OT where
  | leaf
  | q (k : Nat) (t : OT)
  | s (k : Nat) (t : OT)
  | c (k : Nat) (t u : OT)
  | n
def OT.depth : OT → Nat
  | .leaf => 0
  | .q _ t => t.depth + 1
  | .s _ t => t.depth + 1
  | .c _ t u => max (t.depth + 1) u.depth
  | .n => 0
def OT.alts : OT → List Nat
  | .c k _ u => k :: u.alts
  | _ => []
def OT.qs : OT → List Nat
  | .leaf => []
  | .q k t => k :: t.qs
  | .s _ t => t.qs
  | .c _ t u => t.qs ++ u.qs
  | .n => []
def okT (ops : Array Oper) : OT → Bool → Array Bool → Bool
  | .leaf, f, l => f && (Region.ready .any ops l).isEmpty
  | .q k t, f, l => f && (Region.ready .any ops l).contains k && Region.free .any ops l k && okT ops t true (l.setIfInBounds k true)
  | .s k t, f, l => f && Region.ready .any ops l == [k] && okT ops t true (l.setIfInBounds k true)
  | .c k t u, f, l => (!f || Region.ready .any ops l == (OT.c k t u).alts) && okT ops t true (l.setIfInBounds k true) && okT ops u false l
  | .n, f, _ => !f
def okPlan (ops : Array Oper) (t : OT) : Bool := (Region.noSelect ops && noDefer ops) && decide (t.depth ≤ ops.size) && okT ops t true (Array.replicate ops.size false)

section
variable {P : Program} {n : Fr} {ops : Array Oper} {Q : EPost} {S : World → Prop} {qs : List Nat}
/-- One operation of the region, and what follows. -/
def QS (b : Bool) (S : World → Prop) (K : Env → World → Prop) (Q : EPost) : EPost := fun e E w => match e with
  | .normal => (b = true → S w) ∧ K E w
  | e => Q e E w
def YE (P : Program) (ops : Array Oper) (S : World → Prop) (o : Oper) (v : Value) (E : Env) : Prop :=
  (o.guard = none ∧ ∀ w, S w → (execOp (ev E) o).run P w = .ok (.value v) w) ∨
  (∃ j want oj d b, o.guard = some (j, want) ∧ ops[j]? = some oj ∧ oj.dst = some d ∧ ev E (.tmp d) = .bool b ∧ (((b == want) = true ∧ ∀ w, S w → (execOp (ev E) o).run P w = .ok (.value v) w) ∨ ((b == want) = false ∧ v = undef))) ∨
  (∃ j want oj d, o.guard = some (j, want) ∧ ops[j]? = some oj ∧ oj.dst = some d ∧ ev E (.tmp d) = undef ∧ v = undef)
def AT (P : Program) (n : Fr) (ops : Array Oper) (Q : EPost) (S : World → Prop) (qs : List Nat) : OT → Env → World → Prop
  | .leaf, E, w => Q .normal E w
  | .q k t, E, w => ∃ o v, ops[k]? = some o ∧ dstOk n o.dst = true ∧ S w ∧ YE P ops S o v E ∧ AT P n ops Q S qs t (updO E o.dst v) w
  | .s k t, E, w => ∃ o, ops[k]? = some o ∧ OW P n ops (QS (needS ops qs k) S (AT P n ops Q S qs t) Q) [o] E w
  | .c k t u, E, w => (∃ o, ops[k]? = some o ∧ OW P n ops (QS (needS ops qs k) S (AT P n ops Q S qs t) Q) [o] E w) ∧ AT P n ops Q S qs u E w
  | .n, _, _ => True

theorem wpOp_of_OW {k : Nat} {o : Oper} {K : Env → World → Prop} {E : Env} {w : World} {a : Act} {b : Bool} (ho : ops[k]? = some o) (h : OW P n ops (QS b S K Q) [o] E w) (ha : Fits n E a) :
    wpOpIn (Fz n) 0 P ops (lift n Q) k (fun a' w' => (b = true → S w') ∧ ∃ E', Fits n E' a' ∧ K E' w') a w := by
  have h := h a ha
  unfold wpOpIn
  simp only [ho]
  unfold wpListIn at h
  have conv : ∀ a' w', lift n (QS b S K Q) .normal a' w' → (b = true → S w') ∧ ∃ E', Fits n E' a' ∧ K E' w' := fun a' w' ⟨E', f, hS, hK⟩ => ⟨hS, E', f, hK⟩
  split at h
  · rename_i hw
    rw [if_pos hw]
    unfold Oper.wpIn at *
    refine ⟨fun _ _ => trivial, ?_⟩
    have h := h.2
    generalize (o.semAt (Fz n).round a.eval).run P w = r at *
    cases r with
    | ok nx w' =>
      cases nx <;> simp only [Oper.uponIn] at h ⊢ <;> first
        | exact conv _ _ h
        | exact h.elim
        | (refine ⟨h.1, CallsIn.mono h.2 ?_⟩
           rintro e w'' he
           cases e <;> first
             | exact conv _ _ he
             | exact he)
        | (exact ⟨h.1, RowsIn.mono h.2 fun v w'' he => conv _ _ he⟩)
        | (refine ⟨h.1, RoundIn.mono h.2 ?_⟩
           rintro e w'' he
           cases e <;> first
             | exact conv _ _ he
             | exact he)
    | halt x w' => cases x <;> first | exact h | exact h.elim
  · rename_i hw
    rw [if_neg hw]
    exact ⟨fun _ _ => trivial, conv _ _ h.2⟩

theorem YE.yields {o : Oper} {v : Value} {E : Env} {a : Act} (h : YE P ops S o v E) (ha : Fits n E a) : YieldsIf P ops S o v a := by
  unfold YieldsIf
  rw [ha.eval]
  rcases h with ⟨hg, h⟩ | ⟨j, want, oj, d, b, hg, hj, hd, hb, h⟩ | ⟨j, want, oj, d, hg, hj, hd, hb, h⟩
  · exact .inl ⟨wanted_none hg, h⟩
  · have hy := yielded_of ha hj hd hb
    rcases h with ⟨hw, h⟩ | ⟨hw, h⟩
    · exact .inl ⟨by simp only [Region.wanted, hg, hy]; simpa using hw, h⟩
    · exact .inr ⟨by simp only [Region.wanted, hg, hy]; cases b <;> cases want <;> simp_all, h⟩
  · have hy := yielded_undef ha hj hd hb
    exact .inr ⟨by simp [Region.wanted, hg, hy], h⟩

theorem at_sound (hs : Region.noSelect ops = true ∧ noDefer ops = true) [hP : PanOk Q] : ∀ (t : OT), (∀ k ∈ t.qs, k ∈ qs) →
    (∀ (fuel : Nat) (listed : Array Bool) (E : Env) (w : World) (a : Act), t.depth ≤ fuel → okT ops t true listed = true → Cl ops listed → AT P n ops Q S qs t E w → Fits n E a → wpAnyN n P ops (lift n Q) S qs fuel listed a w) ∧
    (∀ (fuel : Nat) (listed : Array Bool) (E : Env) (w : World) (a : Act), t.depth ≤ fuel + 1 → okT ops t false listed = true → Cl ops listed → (∀ i ∈ t.alts, i ∈ Region.ready .any ops listed) → AT P n ops Q S qs t E w → Fits n E a →
      ∀ i ∈ t.alts, wpOpIn (Fz n) 0 P ops (lift n Q) i (fun a' w' => (needS ops qs i = true → S w') ∧ wpAnyN n P ops (lift n Q) S qs fuel (listed.setIfInBounds i true) a' w') a w) := by
  intro t
  induction t with
  | leaf =>
    intro hq
    refine ⟨fun fuel listed E w a _ hB _ h ha => wpAnyN_done (by simpa [okT] using hB) ⟨E, ha, h⟩ fuel, fun _ _ _ _ _ _ hB => by simp [okT] at hB⟩
  | n => exact fun hq => ⟨fun _ _ _ _ _ _ hB => by simp [okT] at hB, fun _ _ _ _ _ _ _ _ _ _ _ i hi => by simp [OT.alts] at hi⟩
  | q k t ih =>
    intro hq
    have ih := ih (fun j hj => hq j (by simp [OT.qs, hj]))
    refine ⟨fun fuel listed E w a hd hB hcl h ha => ?_, fun _ _ _ _ _ _ hB => by simp [okT] at hB⟩
    obtain ⟨o, v, ho, hdst, hS, hy, hk⟩ := h
    simp only [okT, Bool.and_eq_true, Bool.true_and] at hB
    match fuel, hd with
    | fuel + 1, hd =>
      refine wpAnyN_take (hq k (by simp [OT.qs])) ho hs.1 hs.2 hB.1.2 hB.1.1 hcl (fun c a w ⟨E, f, q⟩ => (let ⟨E', f', hd⟩ := f.same; ⟨E', f', hP.ok c E E' w hd q⟩)) (hy.yields ha) hS ?_
      exact ih.1 fuel _ _ _ _ (by simpa [OT.depth] using hd) hB.2 (hcl.set (by simpa using hB.1.1)) hk (ha.put hdst v)
  | s k t ih =>
    intro hq
    have ih := ih (fun j hj => hq j (by simpa [OT.qs] using hj))
    refine ⟨fun fuel listed E w a hd hB hcl h ha => ?_, fun _ _ _ _ _ _ hB => by simp [okT] at hB⟩
    obtain ⟨o, ho, h⟩ := h
    simp only [okT, Bool.and_eq_true, beq_iff_eq, Bool.true_and] at hB
    match fuel, hd with
    | fuel + 1, hd =>
      refine wpAnyN_all hB.1 (by simp) fun i hi => ?_
      have hik : i = k := by simpa using hi
      subst hik
      exact wpOpIn_mono (fun a' w' ⟨hS, E', f, hk⟩ => ⟨hS, ih.1 fuel _ _ _ _ (by simpa [OT.depth] using hd) hB.2 (hcl.set (by rw [hB.1]; simp)) hk f⟩) (wpOp_of_OW ho h ha)
  | c k t u iht ihu =>
    intro hq
    have iht := iht (fun j hj => hq j (by simp [OT.qs, hj]))
    have ihu := ihu (fun j hj => hq j (by simp [OT.qs, hj]))
    have main : ∀ (fuel : Nat) (listed : Array Bool) (E : Env) (w : World) (a : Act), (OT.c k t u).depth ≤ fuel + 1 → okT ops t true (listed.setIfInBounds k true) = true → okT ops u false listed = true → Cl ops listed → (∀ i ∈ (OT.c k t u).alts, i ∈ Region.ready .any ops listed) → AT P n ops Q S qs (.c k t u) E w → Fits n E a →
        ∀ i ∈ (OT.c k t u).alts, wpOpIn (Fz n) 0 P ops (lift n Q) i (fun a' w' => (needS ops qs i = true → S w') ∧ wpAnyN n P ops (lift n Q) S qs fuel (listed.setIfInBounds i true) a' w') a w := by
      intro fuel listed E w a hd h1 h2 hcl hal h ha i hi
      obtain ⟨⟨o, ho, h⟩, h'⟩ := h
      have hd' : max (t.depth + 1) u.depth ≤ fuel + 1 := by simpa [OT.depth] using hd
      rcases List.mem_cons.1 hi with rfl | hi
      · exact wpOpIn_mono (fun a' w' ⟨hS, E', f, hk⟩ => ⟨hS, iht.1 fuel _ _ _ _ (by omega) h1 (hcl.set (hal _ (by simp [OT.alts]))) hk f⟩) (wpOp_of_OW ho h ha)
      · exact ihu.2 fuel listed E w a (by omega) h2 hcl (fun q hq => hal q (by simp [OT.alts, hq])) h' ha i hi
    refine ⟨fun fuel listed E w a hd hB hcl h ha => ?_, fun fuel listed E w a hd hB hcl hal h ha => ?_⟩
    · simp only [okT, Bool.and_eq_true, Bool.not_true, Bool.false_or, beq_iff_eq] at hB
      match fuel, hd with
      | 0, hd => simp [OT.depth] at hd
      | fuel + 1, hd => exact wpAnyN_all hB.1.1 (by simp [OT.alts]) (main fuel listed E w a hd hB.1.2 hB.2 hcl (fun i hi => by rw [hB.1.1]; exact hi) h ha)
    · simp only [okT, Bool.and_eq_true, Bool.not_false, Bool.true_or, true_and] at hB
      exact main fuel listed E w a hd hB.1 hB.2 hcl hal h ha

theorem WP_any {id : Nat} {l : List Oper} {E : Env} {w : World} (t : OT) (S : World → Prop) (hm : P.follows .mixedOrders = true) (hB : okPlan l.toArray t = true) [hP : PanOk Q]
    (h : AT P n l.toArray Q S t.qs t E w.drew) : WP P n (.region id l.toArray true) Q E w := by
  simp only [okPlan, Bool.and_eq_true, decide_eq_true_eq] at hB
  exact fun a ha => wp_region_N (qs := t.qs) hm ((at_sound hB.1.1 t (fun _ h => h)).1 _ _ _ _ _ hB.1.2 hB.2 (Cl.start _) h ha)

section
variable {E : Env} {w : World} {k d : Nat} {op : Op} {ty : TypeId} {ps : String} {af : Array Edge} {v : Value} {t : OT}
theorem A (ho : ops[k]? = some ⟨some d, op, ty, ps, af, none⟩) (hS : S w) (hr : ∀ w, S w → Runs P E ⟨some d, op, ty, ps, af, none⟩ w v w) (hd : Nat.blt d n.sz = true) (h : AT P n ops Q S qs t (upd E d v) w) : AT P n ops Q S qs (.q k t) E w :=
  ⟨_, v, ho, hd, hS, .inl ⟨rfl, fun w hw => (hr w hw).out⟩, h⟩
theorem AG {j d0 : Nat} {want b : Bool} {oj : Oper} (ho : ops[k]? = some ⟨some d, op, ty, ps, af, some (j, want)⟩) (hj : ops[j]? = some oj) (hdj : oj.dst = some d0) (hb : ev E (.tmp d0) = .bool b) (hne : (b == want) = true)
    (hS : S w) (hr : ∀ w, S w → Runs P E ⟨some d, op, ty, ps, af, some (j, want)⟩ w v w) (hd : Nat.blt d n.sz = true) (h : AT P n ops Q S qs t (upd E d v) w) : AT P n ops Q S qs (.q k t) E w :=
  ⟨_, v, ho, hd, hS, .inr (.inl ⟨j, want, oj, d0, b, rfl, hj, hdj, hb, .inl ⟨hne, fun w hw => (hr w hw).out⟩⟩), h⟩
theorem AK {j d0 : Nat} {want b : Bool} {oj : Oper} (ho : ops[k]? = some ⟨some d, op, ty, ps, af, some (j, want)⟩) (hj : ops[j]? = some oj) (hdj : oj.dst = some d0) (hb : ev E (.tmp d0) = .bool b) (hne : (b == want) = false)
    (hS : S w) (hd : Nat.blt d n.sz = true) (h : AT P n ops Q S qs t (upd E d undef) w) : AT P n ops Q S qs (.q k t) E w :=
  ⟨_, undef, ho, hd, hS, .inr (.inl ⟨j, want, oj, d0, b, rfl, hj, hdj, hb, .inr ⟨hne, rfl⟩⟩), h⟩
theorem AKU {j d0 : Nat} {want : Bool} {oj : Oper} (ho : ops[k]? = some ⟨some d, op, ty, ps, af, some (j, want)⟩) (hj : ops[j]? = some oj) (hdj : oj.dst = some d0) (hb : ev E (.tmp d0) = undef)
    (hS : S w) (hd : Nat.blt d n.sz = true) (h : AT P n ops Q S qs t (upd E d undef) w) : AT P n ops Q S qs (.q k t) E w :=
  ⟨_, undef, ho, hd, hS, .inr (.inr ⟨j, want, oj, d0, rfl, hj, hdj, hb, rfl⟩), h⟩
theorem A1 {o : Oper} (ho : ops[k]? = some o) (h : OW P n ops (QS (needS ops qs k) S (AT P n ops Q S qs t) Q) [o] E w) : AT P n ops Q S qs (.s k t) E w := ⟨o, ho, h⟩
theorem A2 {o : Oper} {u : OT} (ho : ops[k]? = some o) (h : OW P n ops (QS (needS ops qs k) S (AT P n ops Q S qs t) Q) [o] E w) (h' : AT P n ops Q S qs u E w) : AT P n ops Q S qs (.c k t u) E w := ⟨⟨o, ho, h⟩, h'⟩
theorem AN (h : Q .normal E w) : AT P n ops Q S qs .leaf E w := h
end
end
/-- What every world of such a region is. -/
def SS (g0 : Hp) (w0 : World) (g : Hp) (L : List Res) : World → Prop := fun w => ∃ g', Hle g g' ∧ Sep g0 w0 g' w L
theorem SS.to {g0 g g' : Hp} {w0 w w' : World} {L : List Res} (_ : SS g0 w0 g L w) (h : Hle g g') (hs : Sep g0 w0 g' w' L) : SS g0 w0 g L w' := ⟨g', h, hs⟩
theorem Imm.of_le {g g' : Hp} {w : World} (h : Imm g' w) (hl : Hle g g') : Imm g w := fun b o hb => h b o (hl b o hb)
end Go.Lx
