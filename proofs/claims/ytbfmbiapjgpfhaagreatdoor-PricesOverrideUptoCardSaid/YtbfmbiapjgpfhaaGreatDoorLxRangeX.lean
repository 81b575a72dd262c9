/- Lx, part 18: ranges over functions that a round may leave. -/
import Derived.Test.YtbfmbiapjgpfhaaGreatDoorLxRange
namespace Go.Lx
open Go.RowKit

section
variable {P : Program} {n : Fr} {Q : EPost} {E : Env} {w : World} {α σ ρ : Type}
def stepOn (b : α → σ → Option (Step σ ρ)) : α → Step σ ρ → Option (Bool × Step σ ρ) := fun x s => match s with
  | .next s => (b x s).map fun r => match r with
    | .next s' => (true, .next s')
    | .stop q => (false, .stop q)
  | .stop _ => none
/-- What a round owes behind its body, which answers r. -/
def BX (g0 : Hp) (w0 : World) (Inv : σ → Hp → List Res → Prop) (InvX : ρ → Hp → List Res → Prop) (ex : ρ → Code) (r : Step σ ρ) (g : Hp) (L : List Res) : EPost := fun e _ w => match e with
  | .normal => ∃ s, r = .next s ∧ ∃ g' Ls, Inv s g' Ls ∧ Hle g g' ∧ Sep g0 w0 g' w (Ls ++ L)
  | .ret => ∃ q, r = .stop q ∧ ex q = .ret ∧ ∃ g' Ls, InvX q g' Ls ∧ Hle g g' ∧ Sep g0 w0 g' w (Ls ++ L)
  | .exit i => ∃ q, r = .stop q ∧ ex q = .exit i ∧ ∃ g' Ls, InvX q g' Ls ∧ Hle g g' ∧ Sep g0 w0 g' w (Ls ++ L)
  | _ => False
instance {g0 : Hp} {w0 : World} {Inv : σ → Hp → List Res → Prop} {InvX : ρ → Hp → List Res → Prop} {ex : ρ → Code} {r : Step σ ρ} {g : Hp} {L : List Res} : PanOk (BX g0 w0 Inv InvX ex r g L) := ⟨fun _ _ _ _ _ q => q⟩
def AX (P : Program) (n : Fr) (g0 : Hp) (w0 : World) (Inv : σ → Hp → List Res → Prop) (InvX : ρ → Hp → List Res → Prop) (ex : ρ → Code) (r : Step σ ρ) (body : Code) (g : Hp) (L : List Res) : EPost := fun e E w => match e with
  | .normal => ∃ g' Ls, Sep g0 w0 g' w (Ls ++ L) ∧ Hle g g' ∧ ∀ w' L', Sep g0 w0 g' w' (Ls ++ L') → WP P n body (BX g0 w0 Inv InvX ex r g' L') E w'
  | _ => False
instance {P : Program} {n : Fr} {g0 : Hp} {w0 : World} {Inv : σ → Hp → List Res → Prop} {InvX : ρ → Hp → List Res → Prop} {ex : ρ → Code} {r : Step σ ρ} {body : Code} {g : Hp} {L : List Res} : PanOk (AX P n g0 w0 Inv InvX ex r body g L) := ⟨fun _ _ _ _ _ q => q⟩
/-- A range over a function whose rounds may be left. -/
theorem WP_rangeX {g0 g : Hp} {w0 : World} {L0 Lo : List Res} {gop : Operand} {ps : Array Tmp} {assign body : Code} {f : FuncId} {cap : List Value} {A : Hp → Value → α → Prop} {It : ∀ {σ : Type}, (α → σ → Option (Bool × σ)) → σ → Option σ}
    (hn : n.ro = none) (hs : Sep g0 w0 g w (L0 ++ Lo)) (hx : ev E gop = .func (.func f) #[] cap.toArray) (hit : IterOk P f cap A It g) (hps : ps.size = 1 ∧ ∀ t ∈ ps.toList, t < n.sz)
    (Inv : σ → Hp → List Res → Prop) (InvX : ρ → Hp → List Res → Prop) (ex : ρ → Code) (mono : ∀ s g g' Ls, Hle g g' → Inv s g Ls → Inv s g' Ls) (monoX : ∀ q g g' Ls, Hle g g' → InvX q g Ls → InvX q g' Ls)
    {bodyM : α → σ → Option (Step σ ρ)} {s0 : σ} {r1 : Step σ ρ} (hM : It (stepOn bodyM) (.next s0) = some r1) (h0 : Inv s0 g L0)
    (round : ∀ l {g1 w1 Ls L' a x s r}, Sep g0 w0 g1 w1 (Ls ++ L') → Inv s g1 Ls → A g1 a x → bodyM x s = some r → Hle g g1 →
      WP P ⟨n.sz, some l⟩ assign (AX P ⟨n.sz, some l⟩ g0 w0 Inv InvX ex r body g1 L') (updL ⟨E.s, []⟩ ps.toList [a]) w1)
    (done : ∀ s1 g' w' D Ls, r1 = .next s1 → Hle g g' → Inv s1 g' Ls → Sep g0 w0 g' w' (.obj D (.deferred (some [])) :: (Ls ++ Lo)) → Q .normal ⟨E.s, markD D :: E.ds⟩ w')
    (left : ∀ q g' w' D Ls, r1 = .stop q → Hle g g' → InvX q g' Ls → Sep g0 w0 g' w' (.obj D (.deferred (some [])) :: (Ls ++ Lo)) → WP P n (ex q) Q ⟨E.s, markD D :: E.ds⟩ w') :
    WP P n (.rangeFunc gop ps assign body) Q E w := by
  intro a ha
  obtain ⟨hcf, hcall⟩ := hit
  refine wpIn_rangeFunc fun fn _ => ?_
  have hev := ha.eval
  rw [show (Fz n).round = none from hn]
  have hargs : (#[Value.func (.yield (w.heap.size + 1)) #[] #[]] ++ cap.toArray) = ([Value.func (.yield (w.heap.size + 1)) #[] #[]] ++ cap).toArray := by simp
  let W := (w.alloc (.deferred (some []))).alloc (.loop { state := .ready, pending := none, fn, tmps := a.tmps, params := ps, assign, body, defers := w.heap.size })
  refine ⟨w.heap.size + 1, [markD w.heap.size], W, { target := .fn (.func f) cap.toArray, args := #[.func (.yield (w.heap.size + 1)) #[] #[]] }, W, f, ([Value.func (.yield (w.heap.size + 1)) #[] #[]] ++ cap).toArray, W, run_enterLoop_outer fn a.tmps ps assign body, ?_, fun _ _ => trivial, ?_, fun h => (by cases h), callsIn_plain.2 ?_⟩
  · have e1 : (rangeCall gop (w.heap.size + 1)).args.map a.eval = #[.func (.yield (w.heap.size + 1)) #[] #[]] := by rw [hev]; simp [ev]
    have e2 : a.eval gop = .func (.func f) #[] cap.toArray := by rw [hev]; exact hx
    simp only [resolve, e1, e2, Deferred.ofValue]
    simp
  · obtain ⟨fd, h1, h2, h3⟩ := hcf
    have hn' : ¬ fd.name = "runtime.NumGoroutine" := by simpa using h3
    have hb2 : ¬ fd.body = none := by intro h; rw [h] at h2; cases h2
    simp [invoke, callFunc, h1, hb2, hn']
  · -- the iterator's call
    let rec0 : Loop := { state := .ready, pending := none, fn, tmps := a.tmps, params := ps, assign, body, defers := w.heap.size }
    let l := w.heap.size + 1
    have hs1 : Sep g0 w0 g ((w.alloc (.deferred (some []))).alloc (.loop rec0)) (.obj l (.loop rec0) :: .obj w.heap.size (.deferred (some [])) :: (L0 ++ Lo)) := by
      have := (hs.alloc (.deferred (some []))).alloc (.loop rec0)
      simpa using this
    have hs2 : Sep g0 w0 g ((w.alloc (.deferred (some []))).alloc (.loop rec0)) ((L0 ++ [.obj l (.loop rec0)]) ++ (.obj w.heap.size (.deferred (some [])) :: Lo)) := by
      have h1 : Sep g0 w0 g ((w.alloc (.deferred (some []))).alloc (.loop rec0)) ([.obj l (.loop rec0), .obj w.heap.size (.deferred (some []))] ++ (L0 ++ Lo)) := hs1
      have h2 := h1.swap
      have h3 : Sep g0 w0 g ((w.alloc (.deferred (some []))).alloc (.loop rec0)) ((L0 ++ [.obj l (.loop rec0), .obj w.heap.size (.deferred (some []))]) ++ Lo) := by simpa using h2
      simpa using h3
    let recX : ρ → Loop := fun q => { rec0 with state := .done, pending := some (ex q) }
    let Y : Step σ ρ → Hp → List Res → Prop := fun s g' Ls => match s with
      | .next s => Hle g g' ∧ ∃ Ls0, Inv s g' Ls0 ∧ Ls = Ls0 ++ [.obj l (.loop rec0)]
      | .stop q => Hle g g' ∧ ∃ Ls0, InvX q g' Ls0 ∧ Ls = Ls0 ++ [.obj l (.loop (recX q))]
    have hY : YieldsTo P g0 w0 (.func (.yield l) #[] #[]) A Y (stepOn bodyM) := by
      intro g1 w1 Ls L' av x s b s' hsep hy hA hF
      cases s with
      | stop q => cases hF
      | next s =>
      obtain ⟨hle, Ls0, hinv, rfl⟩ := hy
      have hF' : ∃ r, bodyM x s = some r ∧ ((b = true ∧ ∃ s2, r = .next s2 ∧ s' = .next s2) ∨ (b = false ∧ ∃ q, r = .stop q ∧ s' = .stop q)) := by
        have hF : (bodyM x s).map (fun r => match r with | .next s' => (true, (.next s' : Step σ ρ)) | .stop q => (false, .stop q)) = some (b, s') := hF
        cases hb : bodyM x s with
        | none => rw [hb] at hF; cases hF
        | some r =>
          rw [hb] at hF
          cases r with
          | next s2 => simp only [Option.map_some, Option.some.injEq, Prod.mk.injEq] at hF; exact ⟨_, rfl, .inl ⟨hF.1.symm, s2, rfl, hF.2.symm⟩⟩
          | stop q => simp only [Option.map_some, Option.some.injEq, Prod.mk.injEq] at hF; exact ⟨_, rfl, .inr ⟨hF.1.symm, q, rfl, hF.2.symm⟩⟩
      obtain ⟨r, hbody, hr⟩ := hF'
      have hi : ((Ls0 ++ [Res.obj l (.loop rec0)]) ++ L')[Ls0.length]? = some (.obj l (.loop rec0)) := by simp
      have hl := (hsep.at hi).out
      have hsep' : Sep g0 w0 g1 w1 (Ls0 ++ (.obj l (.loop rec0) :: L')) := by simpa using hsep
      refine round_calls (sz := n.sz) (E := ⟨E.s, []⟩) (r := rec0) (tmps := a.tmps) hl rfl ⟨rfl, ha.size, ha.get⟩ (by simp [rec0, hps.1]) (fun t ht => hps.2 t ht) ?_
      intro a1 hf1
      refine wpIn_mono (round l hsep' hinv hA hbody hle a1 hf1) ?_
      rintro e a2 w2 ⟨E2, f2, q⟩
      cases e with
      | normal =>
        obtain ⟨g2, L2, hs2', hle2, hb⟩ := q
        have hi2 : (L2 ++ (Res.obj l (.loop rec0) :: L'))[L2.length]? = some (.obj l (.loop rec0)) := by simp
        refine ⟨E2, f2, rec0, (hs2'.at hi2).out, rfl, ?_⟩
        have hs3 := hs2'.putO hi2 (.loop { rec0 with state := .busy })
        have e3 : (L2 ++ (Res.obj l (.loop rec0) :: L')).set L2.length (.obj l (.loop { rec0 with state := .busy })) = L2 ++ (.obj l (.loop { rec0 with state := .busy }) :: L') := by
          rw [List.set_append_right _ _ (Nat.le_refl _)]; simp
        rw [e3] at hs3
        intro a3 hf3
        refine wpIn_mono (hb _ _ hs3 a3 hf3) ?_
        have leave : ∀ {g4 w4 Ls4} (o' : Obj), Sep g0 w0 g4 w4 (Ls4 ++ (Res.obj l (.loop { rec0 with state := .busy }) :: L')) → (w4.heap[l]? = some (.loop { rec0 with state := .busy })) ∧ Sep g0 w0 g4 (w4.putObj l o') ((Ls4 ++ [.obj l o']) ++ L') := by
          intro g4 w4 Ls4 o' hs4
          have hi4 : (Ls4 ++ (Res.obj l (.loop { rec0 with state := .busy }) :: L'))[Ls4.length]? = some (.obj l (.loop { rec0 with state := .busy })) := by simp
          have hs5 := hs4.putO hi4 o'
          rw [List.set_append_right _ _ (Nat.le_refl _)] at hs5
          exact ⟨(hs4.at hi4).out, by simpa using hs5⟩
        rintro e a4 w4 ⟨E4, f4, q4⟩
        cases e with
        | normal =>
          obtain ⟨s4, hr4, g4, Ls4, hinv4, hle4, hs4⟩ := q4
          rcases hr with ⟨rfl, s2, h1, rfl⟩ | ⟨_, q, h1, _⟩
          · rw [hr4] at h1; cases h1
            have := leave (.loop rec0) hs4
            exact ⟨E4, f4, _, this.1, g4, Ls4 ++ [.obj l (.loop rec0)], rfl, hle2.trans hle4, ⟨(hle.trans hle2).trans hle4, Ls4, hinv4, rfl⟩, this.2⟩
          · rw [hr4] at h1; cases h1
        | ret =>
          obtain ⟨q, hr4, hex, g4, Ls4, hinv4, hle4, hs4⟩ := q4
          rcases hr with ⟨_, s2, h1, _⟩ | ⟨rfl, q', h1, rfl⟩
          · rw [hr4] at h1; cases h1
          · rw [hr4] at h1; cases h1
            have := leave (.loop (recX q)) hs4
            have e9 : recX q = { ({ rec0 with state := .busy } : Loop) with state := .done, pending := some .ret } := by simp only [recX, hex]
            exact ⟨E4, f4, _, this.1, g4, Ls4 ++ [.obj l (.loop (recX q))], rfl, hle2.trans hle4, ⟨(hle.trans hle2).trans hle4, Ls4, hinv4, rfl⟩, by rw [e9] at this ⊢; exact this.2⟩
        | exit i =>
          obtain ⟨q, hr4, hex, g4, Ls4, hinv4, hle4, hs4⟩ := q4
          rcases hr with ⟨_, s2, h1, _⟩ | ⟨rfl, q', h1, rfl⟩
          · rw [hr4] at h1; cases h1
          · rw [hr4] at h1; cases h1
            have := leave (.loop (recX q)) hs4
            have e9 : recX q = { ({ rec0 with state := .busy } : Loop) with state := .done, pending := some (.exit i) } := by simp only [recX, hex]
            exact ⟨E4, f4, _, this.1, g4, Ls4 ++ [.obj l (.loop (recX q))], rfl, hle2.trans hle4, ⟨(hle.trans hle2).trans hle4, Ls4, hinv4, rfl⟩, by rw [e9] at this ⊢; exact this.2⟩
        | _ => exact q4.elim
      | _ => exact q.elim
    have hYm : ∀ s g1 g2 Ls, Hle g1 g2 → Y s g1 Ls → Y s g2 Ls := by
      rintro (s | q) g1 g2 Ls hle ⟨h1, Ls0, h2, h3⟩
      · exact ⟨h1.trans hle, Ls0, mono _ _ _ _ hle h2, h3⟩
      · exact ⟨h1.trans hle, Ls0, monoX _ _ _ _ hle h2, h3⟩
    have h00 : Y (.next s0) g (L0 ++ [.obj l (.loop rec0)]) := ⟨Hle.refl _, L0, h0, rfl⟩
    refine (hcall (g0 := g0) (w0 := w0) (L := .obj w.heap.size (.deferred (some [])) :: Lo) hY hYm (Hle.refl _) hs2 h00 hM).mono ?_
    rintro e w2 ⟨v, rfl, g2, Ls', hle, hy, hs3⟩
    have fin : ∀ {Ls0 : List Res} {r0 : Loop} (r9 : Loop), Sep g0 w0 g2 w2 ((Ls0 ++ [Res.obj l (.loop r0)]) ++ (.obj w.heap.size (.deferred (some [])) :: Lo)) → w2.heap[l]? = some (.loop r0) ∧ Sep g0 w0 g2 (w2.putObj l (.loop r9)) (.obj w.heap.size (.deferred (some [])) :: (Ls0 ++ Lo)) := by
      intro Ls0 r0 r9 hs3
      have hi : ((Ls0 ++ [Res.obj l (.loop r0)]) ++ (.obj w.heap.size (.deferred (some [])) :: Lo))[Ls0.length]? = some (.obj l (.loop r0)) := by simp
      have hl := (hs3.at hi).out
      have hs4 := hs3.putO hi (.loop r9)
      have e : ((Ls0 ++ [Res.obj l (.loop r0)]) ++ (.obj w.heap.size (.deferred (some [])) :: Lo)).set Ls0.length (.obj l (.loop r9)) = Ls0 ++ ([.obj l (.loop r9), .obj w.heap.size (.deferred (some []))] ++ Lo) := by
        rw [List.append_assoc, List.set_append_right _ _ (Nat.le_refl _)]
        simp
      rw [e] at hs4
      have hs5 := hs4.swap
      exact ⟨hl, hs5.sub (.cons _ (List.Sublist.refl _))⟩
    cases r1 with
    | next s1 =>
      obtain ⟨_, Ls0, hinv, rfl⟩ := hy
      have := fin { rec0 with state := .exhausted } hs3
      refine ⟨_, _, run_endLoop this.1 (by simp [rec0]), ?_⟩
      refine ⟨⟨E.s, markD w.heap.size :: E.ds⟩, ⟨by simp [ha.defers], ha.size, ha.get⟩, ?_⟩
      exact done s1 g2 _ _ Ls0 rfl hle hinv this.2
    | stop q =>
      obtain ⟨_, Ls0, hinv, rfl⟩ := hy
      have := fin { recX q with state := .exhausted } hs3
      refine ⟨_, _, run_endLoop this.1 (by simp [recX]), ?_⟩
      have hf : Fits n ⟨E.s, markD w.heap.size :: E.ds⟩ { a with defers := [markD w.heap.size] ++ a.defers } := ⟨by simp [ha.defers], ha.size, ha.get⟩
      exact left q g2 _ _ Ls0 rfl hle hinv this.2 _ hf
end
section
variable {P : Program} {E : Env} {w : World} {d : Option Tmp} {ty : TypeId} {ps : String} {af : Array Edge} {gd : Option (Nat × Bool)} {T T' : TypeId} {qs rs : Array TypeId} {vd : Bool} {x y : Operand} {fn : Fn} {bs cs : Array Value}
theorem r_eqlNilF (hT : P.underlying T = some (.func qs rs vd)) (hx : ev E x = .func fn bs cs) (hy : ev E y = .nilFunc) : Runs P E ⟨d, .binOp .eql T x y T', ty, ps, af, gd⟩ w (.bool false) w :=
  run_binOp_of (by rw [hx, hy]; rfl) (by
    rw [hx, hy]
    have key : ∀ D, (Op.equalIn (D + 1) T (.func fn bs cs) .nilFunc).run P w = .ok false w := fun D => by simp [Op.equalIn, run_underlying hT]
    have h : (Op.equal T (.func fn bs cs) .nilFunc).run P w = .ok false w := key 9999
    simp only [binOp, Sem.run_bind, h, Result.andThen_ok, Sem.run_pure])
theorem r_neqNilF (hT : P.underlying T = some (.func qs rs vd)) (hx : ev E x = .func fn bs cs) (hy : ev E y = .nilFunc) : Runs P E ⟨d, .binOp .neq T x y T', ty, ps, af, gd⟩ w (.bool true) w :=
  run_binOp_of (by rw [hx, hy]; rfl) (by
    rw [hx, hy]
    have key : ∀ D, (Op.equalIn (D + 1) T (.func fn bs cs) .nilFunc).run P w = .ok false w := fun D => by simp [Op.equalIn, run_underlying hT]
    have h : (Op.equal T (.func fn bs cs) .nilFunc).run P w = .ok false w := key 9999
    simp only [binOp, Sem.run_bind, h, Result.andThen_ok, Sem.run_pure, Bool.not_false])
end
end Go.Lx
