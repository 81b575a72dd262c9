/- Lx, part 13: function values that keep a state; ranges over functions. -/
import Derived.Test.YtbfmbiapjgpfhaaGreatDoorLxFrame
import Derived.RangeFuncRecord
namespace Go.Lx
open Go.RowKit

/-- A call of a function value: of a function with a body, or of a loop's yield. -/
def ValCalls (P : Program) (v : Value) (args : List Value) (w : World) (R : Value → World → Prop) : Prop :=
  (∃ f cap, v = .func (.func f) #[] (List.toArray cap) ∧ CF P f ∧ CallsV P f (args ++ cap).toArray w R) ∨
  (∃ l fn tmps assign body, v = .func (.yield l) #[] #[] ∧ (Instr.yield l args.toArray).run P w = .ok (.round l fn tmps assign body) w ∧
    RoundIn (Fz ⟨0, none⟩) 0 P l fn tmps assign body w fun e w' => ∃ v, e = .returned v ∧ R v w')
theorem ValCalls.mono {P : Program} {v : Value} {args : List Value} {w : World} {R R' : Value → World → Prop} (h : ValCalls P v args w R) (k : ∀ v w', R v w' → R' v w') : ValCalls P v args w R' := by
  rcases h with ⟨f, cap, h1, h2, h3⟩ | ⟨l, fn, tmps, assign, body, h1, h2, h3⟩
  · exact .inl ⟨f, cap, h1, h2, h3.mono fun e w' ⟨v, he, hR⟩ => ⟨v, he, k v w' hR⟩⟩
  · exact .inr ⟨l, fn, tmps, assign, body, h1, h2, h3.mono fun e w' ⟨v, he, hR⟩ => ⟨v, he, k v w' hR⟩⟩
section
variable {P : Program} {n : Fr} {Q : EPost} {E : Env} {w : World} {ops : Array Oper} {rest : List Oper} {ty : TypeId} {ps : String} {af : Array Edge}
theorem run_yieldV {d : Option Tmp} {x : Operand} {xs : Array Operand} {ats : Array TypeId} {args : List Value} {l : Nat} {r : Next} {gd : Option (Nat × Bool)} (hx : ev E x = .func (.yield l) #[] #[]) (ha : xs.toList.map (ev E) = args) (hr : (Instr.yield l args.toArray).run P w = .ok r w) :
    (execOp (ev E) ⟨d, .call { callee := .value x, args := xs, argTypes := ats }, ty, ps, af, gd⟩).run P w = .ok r w := by
  have ha : xs.map (ev E) = args.toArray := by apply Array.ext'; rw [Array.toList_map, ha]
  simp [execOp, resolve, Deferred.ofValue, invoke, hx, ha, hr]
/-- A call of a value. -/
theorem OW_callW {d : Tmp} {x : Operand} {xs : Array Operand} {ats : Array TypeId} {v : Value} (args : List Value) {R : Value → World → Prop} (hx : ev E x = v) (ha : xs.toList.map (ev E) = args) (hc : ValCalls P v args w R) (hd : Nat.blt d n.sz = true)
    (k : ∀ v w', R v w' → OW P n ops Q rest (upd E d v) w') : OW P n ops Q (⟨some d, .call { callee := .value x, args := xs, argTypes := ats }, ty, ps, af, none⟩ :: rest) E w := by
  subst hx
  rcases hc with ⟨f, cap, h1, h2, h3⟩ | ⟨l, fn, tmps, assign, body, h1, h2, h3⟩
  · exact CV args cap h2 h1 ha h3 hd k
  · intro a hfit
    refine wpListIn_plain rfl fun K hK => ⟨fun _ _ => trivial, ?_⟩
    rw [hfit.eval, semAt_run (run_yieldV h1 ha h2) (by simp)]
    refine ⟨fun h => (by cases h), RoundIn.mono h3 fun e w' ⟨v, he, hR⟩ => ?_⟩
    subst he
    exact hK _ _ (k v w' hR _ (hfit.put (d := some d) hd v))
end

/-! ### a round -/
def updL (E : Env) : List Tmp → List Value → Env
  | t :: ts, v :: vs => updL (upd E t v) ts vs
  | _, _ => E
theorem fits_updL {n : Fr} : ∀ (ts : List Tmp) (vs : List Value) (E : Env) (a : Act), Fits n E a → (∀ t ∈ ts, t < n.sz) → Fits n (updL E ts vs) { a with tmps := (ts.zip vs).foldl (fun tmps (x : Tmp × Value) => tmps.setIfInBounds x.1 x.2) a.tmps }
  | [], _, _, _, h, _ => by simpa [updL] using h
  | _ :: _, [], _, _, h, _ => by simpa [updL] using h
  | t :: ts, v :: vs, E, a, h, hl => by
    have h1 := h.put (d := some t) (by simp [dstOk]; exact Nat.le_of_lt_succ (Nat.succ_lt_succ (hl t (by simp)))) v
    have h2 := fits_updL ts vs _ _ h1 (fun t' ht' => hl t' (List.mem_cons_of_mem _ ht'))
    simpa [updL, Act.put, updO] using h2
/-- What a round owes at its end. -/
def RQ (l : Nat) (R : Value → World → Prop) : EPost := fun e _ w => match e with
  | .normal => ∃ r, w.heap[l]? = some (.loop r) ∧ R (.bool true) (w.putObj l (.loop { r with state := .ready, pending := none }))
  | .ret => ∃ r, w.heap[l]? = some (.loop r) ∧ R (.bool false) (w.putObj l (.loop { r with state := .done, pending := some .ret }))
  | .exit i => ∃ r, w.heap[l]? = some (.loop r) ∧ R (.bool false) (w.putObj l (.loop { r with state := .done, pending := some (.exit i) }))
  | _ => False
instance {l : Nat} {R : Value → World → Prop} : PanOk (RQ l R) := ⟨fun _ _ _ _ _ q => q⟩
theorem round_calls {P : Program} {sz l : Nat} {r : Loop} {E : Env} {w : World} {args : List Value} {R : Value → World → Prop} {tmps : Array Value} (hw : w.heap[l]? = some (.loop r)) 
    (htm : r.tmps = tmps) (hfit : Fits ⟨sz, some l⟩ E { tmps := tmps, defers := [] }) (hlen : args.length = r.params.size) (hps : ∀ t ∈ r.params.toList, t < sz)
    (h : WP P ⟨sz, some l⟩ r.assign (fun e E1 w1 => match e with | .normal => ∃ r1, w1.heap[l]? = some (.loop r1) ∧ r1.state = .ready ∧ WP P ⟨sz, some l⟩ r.body (RQ l R) E1 (w1.putObj l (.loop { r1 with state := .busy })) | _ => False) (updL E r.params.toList args) w) :
    ValCalls P (.func (.yield l) #[] #[]) args w R := by
  refine .inr ⟨l, r.fn, _, r.assign, r.body, rfl, run_yield hw (by simpa using hlen), ?_⟩
  have hf : Fits ⟨sz, some l⟩ (updL E r.params.toList args) { tmps := (r.params.zip args.toArray).foldl (fun tmps (t, a) => tmps.setIfInBounds t a) r.tmps, defers := [] } := by
    have := fits_updL r.params.toList args E _ hfit hps
    rw [← Array.foldl_toList, Array.toList_zip, htm]
    exact this
  have key := h _ hf
  refine roundIn_of_wpIn (F := Fz ⟨0, none⟩) trivial ?_
  refine wpIn_mono key ?_
  rintro e a1 w1 ⟨E1, f1, q⟩
  cases e with
  | normal =>
    obtain ⟨r1, hw1, hs1, hb⟩ := q
    refine ⟨_, run_beginRound hw1 hs1, ?_⟩
    refine wpIn_mono (hb _ f1) ?_
    rintro e a2 w2 ⟨E2, f2, q2⟩
    cases e with
    | normal => obtain ⟨r2, hw2, hR⟩ := q2; exact ⟨_, _, run_endRound none hw2, _, rfl, by simpa using hR⟩
    | ret => obtain ⟨r2, hw2, hR⟩ := q2; exact ⟨_, _, run_endRound (some .ret) hw2, _, rfl, by simpa using hR⟩
    | exit i => obtain ⟨r2, hw2, hR⟩ := q2; exact ⟨_, _, run_endRound (some (.exit i)) hw2, _, rfl, by simpa using hR⟩
    | _ => exact q2.elim
  | _ => exact q.elim

/-! ### iterators -/
section
variable {α σ : Type}
/-- A function value that is called with what A reads, answers a bool, and leaves its state in the blocks that Y names. -/
def YieldsTo (P : Program) (g0 : Hp) (w0 : World) (yv : Value) (A : Hp → Value → α → Prop) (Y : σ → Hp → List Res → Prop) (F : α → σ → Option (Bool × σ)) : Prop :=
  ∀ {g w Ls L a x s b s'}, Sep g0 w0 g w (Ls ++ L) → Y s g Ls → A g a x → F x s = some (b, s') →
    ValCalls P yv [a] w fun v w' => ∃ g' Ls', v = .bool b ∧ Hle g g' ∧ Y s' g' Ls' ∧ Sep g0 w0 g' w' (Ls' ++ L)
/-- A function that hands elements to a function value, one after another. -/
def IterOk (P : Program) (f : FuncId) (cap : List Value) (A : Hp → Value → α → Prop) (It : ∀ {σ : Type}, (α → σ → Option (Bool × σ)) → σ → Option σ) (gb : Hp) : Prop :=
  CF P f ∧ ∀ {σ : Type} {yv : Value} {Y : σ → Hp → List Res → Prop} {F : α → σ → Option (Bool × σ)} {g0 w0 g w Ls L s s'}, YieldsTo P g0 w0 yv A Y F → (∀ s g g' Ls, Hle g g' → Y s g Ls → Y s g' Ls) →
    Hle gb g → Sep g0 w0 g w (Ls ++ L) → Y s g Ls → It F s = some s' → CallsV P f (([yv] ++ cap).toArray) w fun _ w' => ∃ g' Ls', Hle g g' ∧ Y s' g' Ls' ∧ Sep g0 w0 g' w' (Ls' ++ L)
theorem IterOk.mono {P : Program} {f : FuncId} {cap : List Value} {A : Hp → Value → α → Prop} {It : ∀ {σ : Type}, (α → σ → Option (Bool × σ)) → σ → Option σ} {gb gb' : Hp} (h : IterOk P f cap A It gb) (hg : Hle gb gb') : IterOk P f cap A It gb' :=
  ⟨h.1, fun hY hm hb => h.2 hY hm (hg.trans hb)⟩
end
theorem Sep.swap {g0 g : Hp} {w0 w : World} {A B L : List Res} (h : Sep g0 w0 g w (A ++ (B ++ L))) : Sep g0 w0 g w (B ++ (A ++ L)) := by
  have e : A ++ (B ++ L) = (A ++ B) ++ L := by simp
  rw [e] at h
  have := h.selT (A' := B ++ A) ((List.range B.length).map (A.length + ·) ++ List.range A.length) ?_ ?_
  · simpa using this
  · rw [List.nodup_append]
    refine ⟨List.pairwise_map.2 (List.nodup_range.imp fun {a b} hab he => hab (by omega)), List.nodup_range, fun a ha b hb => ?_⟩
    obtain ⟨c, hc, rfl⟩ := List.mem_map.1 ha
    have := List.mem_range.1 hb; omega
  · rw [List.map_append, List.map_append, List.map_map]
    congr 1
    · apply List.ext_getElem?
      intro i
      by_cases hi : i < B.length
      · simp [hi]
      · simp [hi]
    · apply List.ext_getElem?
      intro i
      by_cases hi : i < A.length
      · simp [hi, List.getElem?_append_left]
      · simp [hi]
def markD (D : Nat) : Deferred := { target := .collected D, args := #[] }
theorem Sep.putO {g0 g : Hp} {w0 w : World} {L : List Res} (h : Sep g0 w0 g w L) {i b : Nat} {o : Obj} (hi : L[i]? = some (.obj b o)) (o' : Obj) : Sep g0 w0 g (w.putObj b o') (L.set i (.obj b o')) := by
  have hb := (h.at hi).out
  have hlt : b < w.heap.size := (Array.getElem?_eq_some_iff.1 hb).1
  refine h.upd hi (w' := w.putObj b o') ⟨rfl, rfl, rfl, by simp, fun k _ hk => World.putObj_heap_other (fun e => hk (by simp [Res.blk, e]))⟩ ⟨World.putObj_heap_same hlt⟩ (fun b' hb' => .inl hb')
section
variable {P : Program} {n : Fr} {Q : EPost} {E : Env} {w : World} {α σ : Type}
theorem FL_mark {fn : Func} {R : Value → World → Prop} {ds ds' : List Deferred} {g0 g : Hp} {w0 : World} {L : List Res} {i D : Nat} (hd : ds = markD D :: ds') (hs : Sep g0 w0 g w L) (hi : L[i]? = some (.obj D (.deferred (some []))))
    (k : ∀ w', Sep g0 w0 g w' (L.set i (.obj D (.deferred none))) → FL P fn n E R ds' w') : FL P fn n E R ds w :=
  FL_cons hd (run_takeDeferred (hs.at hi).out) (k _ (hs.putO hi _))
def goOn {α σ : Type} (b : α → σ → Option σ) : α → σ → Option (Bool × σ) := fun x s => (b x s).map fun s' => (true, s')
/-- What a round owes behind its body. -/
def BQ (g0 : Hp) (w0 : World) (Inv : Hp → List Res → Prop) (g : Hp) (L : List Res) : EPost := fun e _ w => match e with
  | .normal => ∃ g' Ls, Inv g' Ls ∧ Hle g g' ∧ Sep g0 w0 g' w (Ls ++ L)
  | _ => False
instance {g0 : Hp} {w0 : World} {Inv : Hp → List Res → Prop} {g : Hp} {L : List Res} : PanOk (BQ g0 w0 Inv g L) := ⟨fun _ _ _ _ _ q => q⟩
/-- What a round owes behind the assignment to its variables. -/
def AQ (P : Program) (n : Fr) (g0 : Hp) (w0 : World) (Inv : Hp → List Res → Prop) (body : Code) (g : Hp) (L : List Res) : EPost := fun e E w => match e with
  | .normal => ∃ g' Ls, Sep g0 w0 g' w (Ls ++ L) ∧ Hle g g' ∧ ∀ w' L', Sep g0 w0 g' w' (Ls ++ L') → WP P n body (BQ g0 w0 Inv g' L') E w'
  | _ => False
instance {P : Program} {n : Fr} {g0 : Hp} {w0 : World} {Inv : Hp → List Res → Prop} {body : Code} {g : Hp} {L : List Res} : PanOk (AQ P n g0 w0 Inv body g L) := ⟨fun _ _ _ _ _ q => q⟩
theorem Sep.tail {g0 g : Hp} {w0 w : World} {A L : List Res} (h : Sep g0 w0 g w (A ++ L)) : Sep g0 w0 g w L := h.sub (List.sublist_append_right A L)
/-- A range over a function whose rounds all go on. -/
theorem WP_range {g0 g : Hp} {w0 : World} {L0 Lo : List Res} {gop : Operand} {ps : Array Tmp} {assign body : Code} {f : FuncId} {cap : List Value} {A : Hp → Value → α → Prop} {It : ∀ {σ : Type}, (α → σ → Option (Bool × σ)) → σ → Option σ}
    (hn : n.ro = none) (hs : Sep g0 w0 g w (L0 ++ Lo)) (hx : ev E gop = .func (.func f) #[] cap.toArray) (hit : IterOk P f cap A It g) (hps : ps.size = 1 ∧ ∀ t ∈ ps.toList, t < n.sz)
    (Inv : σ → Hp → List Res → Prop) (mono : ∀ s g g' Ls, Hle g g' → Inv s g Ls → Inv s g' Ls) {bodyM : α → σ → Option σ} {s0 s1 : σ} (hM : It (goOn bodyM) s0 = some s1) (h0 : Inv s0 g L0)
    (round : ∀ l {g1 w1 Ls L' a x s s'}, Sep g0 w0 g1 w1 (Ls ++ L') → Inv s g1 Ls → A g1 a x → bodyM x s = some s' → Hle g g1 →
      WP P ⟨n.sz, some l⟩ assign (AQ P ⟨n.sz, some l⟩ g0 w0 (Inv s') body g1 L') (updL ⟨E.s, []⟩ ps.toList [a]) w1)
    (done : ∀ g' w' D Ls, Hle g g' → Inv s1 g' Ls → Sep g0 w0 g' w' (.obj D (.deferred (some [])) :: (Ls ++ Lo)) → Q .normal ⟨E.s, markD D :: E.ds⟩ w') :
    WP P n (.rangeFunc gop ps assign body) Q E w := by
  intro a ha
  obtain ⟨hcf, hcall⟩ := hit
  refine wpIn_rangeFunc fun fn _ => ?_
  have hev := ha.eval
  rw [show (Fz n).round = none from hn]
  have hargs : (#[Value.func (.yield (w.heap.size + 1)) #[] #[]] ++ cap.toArray) = ([Value.func (.yield (w.heap.size + 1)) #[] #[]] ++ cap).toArray := by simp
  let W := (w.alloc (.deferred (some []))).alloc (.loop { state := .ready, pending := none, fn, tmps := a.tmps, params := ps, assign, body, defers := w.heap.size })
  refine ⟨w.heap.size + 1, [markD w.heap.size], W, { target := .fn (.func f) cap.toArray, args := #[.func (.yield (w.heap.size + 1)) #[] #[]] }, W, f, ([Value.func (.yield (w.heap.size + 1)) #[] #[]] ++ cap).toArray, W, run_enterLoop_outer fn a.tmps ps assign body, ?_, fun _ _ => trivial, ?_, fun h => (by cases h), callsIn_plain.2 ?_⟩
  · have e1 : (rangeCall gop (w.heap.size + 1)).args.map a.eval = #[.func (.yield (w.heap.size + 1)) #[] #[]] := by rw [hev]; simp [ev]
    have e2 : a.eval gop = .func (.func f) #[] cap.toArray := by rw [hev]; exact hx
    simp only [resolve, e1, e2, Deferred.ofValue]
    simp
  · obtain ⟨fd, h1, h2, h3⟩ := hcf
    have hn' : ¬ fd.name = "runtime.NumGoroutine" := by simpa using h3
    have hb2 : ¬ fd.body = none := by intro h; rw [h] at h2; cases h2
    simp [invoke, callFunc, h1, hb2, hn']
  · -- the iterator's call
    let rec0 : Loop := { state := .ready, pending := none, fn, tmps := a.tmps, params := ps, assign, body, defers := w.heap.size }
    let l := w.heap.size + 1
    have hs1 : Sep g0 w0 g ((w.alloc (.deferred (some []))).alloc (.loop rec0)) (.obj l (.loop rec0) :: .obj w.heap.size (.deferred (some [])) :: (L0 ++ Lo)) := by
      have := (hs.alloc (.deferred (some []))).alloc (.loop rec0)
      simpa using this
    have hs2 : Sep g0 w0 g ((w.alloc (.deferred (some []))).alloc (.loop rec0)) ((L0 ++ [.obj l (.loop rec0)]) ++ (.obj w.heap.size (.deferred (some [])) :: Lo)) := by
      have h1 : Sep g0 w0 g ((w.alloc (.deferred (some []))).alloc (.loop rec0)) ([.obj l (.loop rec0), .obj w.heap.size (.deferred (some []))] ++ (L0 ++ Lo)) := hs1
      have h2 := h1.swap
      have h3 : Sep g0 w0 g ((w.alloc (.deferred (some []))).alloc (.loop rec0)) ((L0 ++ [.obj l (.loop rec0), .obj w.heap.size (.deferred (some []))]) ++ Lo) := by simpa using h2
      simpa using h3
    let Y : σ → Hp → List Res → Prop := fun s g' Ls => Hle g g' ∧ ∃ Ls0, Inv s g' Ls0 ∧ Ls = Ls0 ++ [.obj l (.loop rec0)]
    have hY : YieldsTo P g0 w0 (.func (.yield l) #[] #[]) A Y (goOn bodyM) := by
      intro g1 w1 Ls L' av x s b s' hsep hy hA hF
      obtain ⟨hle, Ls0, hinv, rfl⟩ := hy
      have hF' : b = true ∧ bodyM x s = some s' := by
        have hF : (bodyM x s).map (fun s' => (true, s')) = some (b, s') := hF
        cases hb : bodyM x s with
        | none => rw [hb] at hF; cases hF
        | some s2 => rw [hb] at hF; simp only [Option.map_some, Option.some.injEq, Prod.mk.injEq] at hF; exact ⟨hF.1.symm, congrArg some hF.2⟩
      obtain ⟨rfl, hbody⟩ := hF'
      have hi : ((Ls0 ++ [Res.obj l (.loop rec0)]) ++ L')[Ls0.length]? = some (.obj l (.loop rec0)) := by simp
      have hl := (hsep.at hi).out
      have hsep' : Sep g0 w0 g1 w1 (Ls0 ++ (.obj l (.loop rec0) :: L')) := by simpa using hsep
      refine round_calls (sz := n.sz) (E := ⟨E.s, []⟩) (r := rec0) (tmps := a.tmps) hl rfl ⟨rfl, ha.size, ha.get⟩ (by simp [rec0, hps.1]) (fun t ht => hps.2 t ht) ?_
      intro a1 hf1
      refine wpIn_mono (round l hsep' hinv hA hbody hle a1 hf1) ?_
      rintro e a2 w2 ⟨E2, f2, q⟩
      cases e with
      | normal =>
        obtain ⟨g2, L2, hs2', hle2, hb⟩ := q
        have hi2 : (L2 ++ (Res.obj l (.loop rec0) :: L'))[L2.length]? = some (.obj l (.loop rec0)) := by simp
        refine ⟨E2, f2, rec0, (hs2'.at hi2).out, rfl, ?_⟩
        have hs3 := hs2'.putO hi2 (.loop { rec0 with state := .busy })
        have e3 : (L2 ++ (Res.obj l (.loop rec0) :: L')).set L2.length (.obj l (.loop { rec0 with state := .busy })) = L2 ++ (.obj l (.loop { rec0 with state := .busy }) :: L') := by
          rw [List.set_append_right _ _ (Nat.le_refl _)]; simp
        rw [e3] at hs3
        intro a3 hf3
        refine wpIn_mono (hb _ _ hs3 a3 hf3) ?_
        rintro e a4 w4 ⟨E4, f4, q4⟩
        cases e with
        | normal =>
          obtain ⟨g4, Ls4, hinv4, hle4, hs4⟩ := q4
          have hi4 : (Ls4 ++ (Res.obj l (.loop { rec0 with state := .busy }) :: L'))[Ls4.length]? = some (.obj l (.loop { rec0 with state := .busy })) := by simp
          refine ⟨E4, f4, _, (hs4.at hi4).out, g4, Ls4 ++ [.obj l (.loop rec0)], rfl, hle2.trans hle4, ⟨(hle.trans hle2).trans hle4, Ls4, hinv4, rfl⟩, ?_⟩
          have hs5 := hs4.putO hi4 (.loop rec0)
          rw [List.set_append_right _ _ (Nat.le_refl _)] at hs5
          simpa [rec0] using hs5
        | _ => exact q4.elim
      | _ => exact q.elim
    refine (hcall (g0 := g0) (w0 := w0) (L := .obj w.heap.size (.deferred (some [])) :: Lo) hY ?_ (Hle.refl _) hs2 ⟨Hle.refl _, L0, h0, rfl⟩ hM).mono ?_
    · rintro s g1 g2 Ls hle ⟨h1, Ls0, h2, h3⟩
      exact ⟨h1.trans hle, Ls0, mono _ _ _ _ hle h2, h3⟩
    · rintro e w2 ⟨v, rfl, g2, Ls', hle, ⟨_, Ls0, hinv, rfl⟩, hs3⟩
      have hi : ((Ls0 ++ [Res.obj l (.loop rec0)]) ++ (.obj w.heap.size (.deferred (some [])) :: Lo))[Ls0.length]? = some (.obj l (.loop rec0)) := by simp
      have hl := (hs3.at hi).out
      have hs4 := hs3.putO hi (.loop { rec0 with state := .exhausted })
      refine ⟨_, _, run_endLoop hl (by simp [rec0]), ?_⟩
      refine ⟨⟨E.s, markD w.heap.size :: E.ds⟩, ⟨by simp [ha.defers], ha.size, ha.get⟩, ?_⟩
      refine done g2 _ _ Ls0 hle hinv ?_
      have e : ((Ls0 ++ [Res.obj l (.loop rec0)]) ++ (.obj w.heap.size (.deferred (some [])) :: Lo)).set Ls0.length (.obj l (.loop { rec0 with state := .exhausted })) = Ls0 ++ ([.obj l (.loop { rec0 with state := .exhausted }), .obj w.heap.size (.deferred (some []))] ++ Lo) := by
        rw [List.append_assoc, List.set_append_right _ _ (Nat.le_refl _)]
        simp
      rw [e] at hs4
      have hs5 := hs4.swap
      exact hs5.sub (.cons _ (List.Sublist.refl _))
end
end Go.Lx
