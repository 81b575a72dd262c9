/- Lx, part 7: maps that the call made (keys: integers, strings); bytes to a string. -/
import Derived.Test.YtbfmbiapjgpfhaaGreatDoorLxRow
import Derived.MapKept
namespace Go.Lx
open Go.RowKit

def mget {K V : Type} [BEq K] (m : List (K × V)) (k : K) : Option V := (m.find? fun p => p.1 == k).map (·.2)
def mset {K V : Type} [BEq K] : List (K × V) → K → V → List (K × V)
  | [], k, v => [(k, v)]
  | p :: m, k, v => bif p.1 == k then (k, v) :: m else p :: mset m k v

/-- What the model's search for a key does at keys of one kind. -/
structure KeyLaw (P : Program) (T : TypeId) {K : Type} [BEq K] (ek : K → Value) : Prop where
  check : ∀ (b : Bool) (k : K) (w : World), (Instr.checkKey b 10000 T (ek k)).run P w = .ok () w
  find : ∀ (k : K) (es : List MapEntry) (ks : List K) (w : World), es.map (·.key) = ks.map ek → (Instr.findKey T (ek k) es).run P w = .ok ((ks.findIdx? (· == k)).bind fun i => (es[i]?).map fun e => (i, e.val)) w
  stays : ∀ k : K, Instr.sameBits 10000 (ek k) (ek k) = true
  lawful : LawfulBEq K
  inj : ∀ a b : K, ek a = ek b → a = b

theorem findNow_of {K : Type} [BEq K] {ek : K → Value} {D : TypeDesc} (h : ∀ a b, Instr.sameNow D (ek a) (ek b) = some (a == b)) (hc : ∀ a b : K, (a == b) = (b == a)) (k : K) :
    ∀ (es : List MapEntry) (ks : List K) (i : Nat), es.map (·.key) = ks.map ek → Instr.findNow D (ek k) es i = some ((ks.findIdx? (· == k)).bind fun j => (es[j]?).map fun e => (i + j, e.val))
  | [], [], i, _ => rfl
  | [], _ :: _, _, h => by simp at h
  | _ :: _, [], _, h => by simp at h
  | e :: es, x :: ks, i, he => by
    simp only [List.map_cons, List.cons.injEq] at he
    simp only [Instr.findNow, he.1, h]
    rw [hc k x, List.findIdx?_cons]
    cases hx : x == k
    · have := findNow_of h hc k es ks (i + 1) he.2
      simp only [this]
      cases hj : ks.findIdx? (· == k) with
      | none => simp
      | some j => simp [Nat.add_assoc, Nat.add_comm 1 j]
    · simp
theorem keyLaw_int {P : Program} {T : TypeId} {k : IntKind} (hT : P.underlying T = some (.int k)) : KeyLaw P T (K := Int) (Value.int k) where
  check b n w := MapKept.run_checkKey hT (k := .int k n) rfl b 9999
  find n es ks w h := by
    have := findNow_of (ek := Value.int k) (D := .int k) (fun a b => by simp [Instr.sameNow]) (fun a b => BEq.comm) n es ks 0 h
    simp only [Instr.findKey, Sem.run_bind, run_underlying hT, Result.andThen_ok, this]
    simp
  stays n := MapKept.sameBits_self (d := .int k) (k := .int k n) rfl 10000
  lawful := inferInstance
  inj a b h := by cases h; rfl
theorem encS_beq (a b : Str) : ((ByteArray.mk a.toArray) == (ByteArray.mk b.toArray)) = (a == b) := by
  rw [Bool.eq_iff_iff, MapKept.bytes_beq]
  simp
theorem keyLaw_str {P : Program} {T : TypeId} (hT : P.underlying T = some .string) : KeyLaw P T (K := Str) encS where
  check b n w := MapKept.run_checkKey hT (k := encS n) trivial b 9999
  find n es ks w h := by
    have := findNow_of (ek := encS) (D := .string) (fun a b => by simp only [Instr.sameNow, encS]; rw [encS_beq]) (fun a b => BEq.comm) n es ks 0 h
    simp only [Instr.findKey, Sem.run_bind, run_underlying hT, Result.andThen_ok, this]
    simp
  stays n := MapKept.sameBits_self (d := .string) (k := encS n) trivial 10000
  lawful := inferInstance
  inj a b h := by simpa [encS] using h

/-- The entries hold the list. -/
structure MRel {K V : Type} (ek : K → Value) (vf : V → Value) (es : Array MapEntry) (ck : Nat) (m : List (K × V)) : Prop where
  ents : es.toList.map (fun e => (e.key, e.val)) = m.map fun p => (ek p.1, vf p.2)
  stamp : MapKept.Stamped es ck
theorem MRel.keys {K V : Type} {ek : K → Value} {vf : V → Value} {es : Array MapEntry} {ck : Nat} {m : List (K × V)} (h : MRel ek vf es ck m) : es.toList.map (·.key) = (m.map (·.1)).map ek := by
  have := congrArg (List.map Prod.fst) h.ents
  simpa [List.map_map, Function.comp_def] using this
theorem MRel.val {K V : Type} {ek : K → Value} {vf : V → Value} {es : Array MapEntry} {ck : Nat} {m : List (K × V)} (h : MRel ek vf es ck m) (i : Nat) : (es.toList[i]?).map (·.val) = (m[i]?).map fun p => vf p.2 := by
  have := congrArg (fun l => (l[i]?).map Prod.snd) h.ents
  simpa [List.getElem?_map, Function.comp_def] using this
theorem MRel.size {K V : Type} {ek : K → Value} {vf : V → Value} {es : Array MapEntry} {ck : Nat} {m : List (K × V)} (h : MRel ek vf es ck m) : es.size = m.length := by
  have := congrArg List.length h.ents
  simpa using this
theorem find?_findIdx? {K V : Type} [BEq K] (m : List (K × V)) (k : K) : mget m k = (((m.map (·.1)).findIdx? (· == k)).bind fun i => (m[i]?)).map (·.2) := by
  unfold mget
  congr 1
  induction m with
  | nil => rfl
  | cons p m ih =>
    simp only [List.find?_cons, List.map_cons, List.findIdx?_cons]
    cases hp : p.1 == k
    · simp only [ih, Bool.false_eq_true, if_false]
      cases (m.map (·.1)).findIdx? (· == k) <;> simp
    · simp
theorem mset_of_none {K V : Type} [BEq K] {m : List (K × V)} {k : K} {v : V} (h : (m.map (·.1)).findIdx? (· == k) = none) : mset m k v = m ++ [(k, v)] := by
  induction m with
  | nil => rfl
  | cons p m ih =>
    simp only [List.map_cons, List.findIdx?_cons] at h
    cases hp : p.1 == k
    · rw [hp] at h
      simp only [Bool.false_eq_true, if_false, Option.map_eq_none_iff] at h
      simp [mset, hp, ih h]
    · rw [hp] at h; simp at h
theorem mset_of_some {K V : Type} [BEq K] {m : List (K × V)} {k : K} {v : V} {i : Nat} (h : (m.map (·.1)).findIdx? (· == k) = some i) : mset m k v = m.set i (k, v) ∧ i < m.length ∧ ((m[i]?).map fun p => p.1 == k) = some true := by
  induction m generalizing i with
  | nil => simp at h
  | cons p m ih =>
    simp only [List.map_cons, List.findIdx?_cons] at h
    cases hp : p.1 == k
    · rw [hp] at h
      simp only [Bool.false_eq_true, if_false, Option.map_eq_some_iff] at h
      obtain ⟨j, hj, rfl⟩ := h
      obtain ⟨h1, h2, h3⟩ := ih hj
      exact ⟨by simp [mset, hp, h1], by simp; omega, by simpa using h3⟩
    · rw [hp] at h
      simp at h
      subst h
      exact ⟨by simp [mset, hp], by simp, by simp [hp]⟩

theorem MRel.push {P : Program} {Tk : TypeId} {K V : Type} [BEq K] {ek : K → Value} {vf : V → Value} {es : Array MapEntry} {ck : Nat} {m : List (K × V)} {kk : K} {vv : V} (h : MRel ek vf es ck m) (law : KeyLaw P Tk ek) (hj : (m.map (·.1)).findIdx? (· == kk) = none) :
    MRel ek vf (es.push ⟨ek kk, vf vv, ck⟩) (ck + 1) (mset m kk vv) := by
  have hk := h.keys
  obtain ⟨s1, s2, s3⟩ := h.stamp
  refine ⟨by rw [mset_of_none hj]; simp [h.ents], fun x hx => ?_, ?_, ?_⟩
  · simp only [Array.toList_push, List.mem_append, List.mem_singleton] at hx
    rcases hx with hx | rfl
    · have := s1 x hx; omega
    · simp
  · simp only [Array.toList_push, List.map_append, List.map_cons, List.map_nil]
    refine List.nodup_append.2 ⟨s2, by simp, fun a ha b hb e => ?_⟩
    obtain ⟨x, hx, rfl⟩ := List.mem_map.1 ha
    have := s1 x hx
    simp only [List.mem_singleton] at hb
    omega
  · simp only [Array.toList_push, List.map_append, List.map_cons, List.map_nil]
    refine List.nodup_append.2 ⟨s3, by simp, fun a ha b hb e => ?_⟩
    simp only [List.mem_singleton] at hb
    rw [hk] at ha
    obtain ⟨k', hk', rfl⟩ := List.mem_map.1 ha
    have e2 : k' = kk := law.inj _ _ (e.trans hb)
    have := law.lawful
    have h0 := List.findIdx?_eq_none_iff.1 hj k' hk'
    rw [e2] at h0
    simp at h0
theorem stamped_modify {es : Array MapEntry} {ck j : Nat} {k v : Value} (h : MapKept.Stamped es ck) (hlen : j < es.size) (hkj : es[j].key = k) : MapKept.Stamped (es.modify j fun e => { e with key := k, val := v }) ck := by
  have hb : (es.modify j fun e => { e with key := k, val := v }).toList.map (·.born) = es.toList.map (·.born) := by
    apply List.ext_getElem?
    intro q
    simp only [Array.toList_modify, List.getElem?_map, List.getElem?_modify, Array.getElem?_toList]
    by_cases hq : j = q
    · subst hq; simp [hlen]
    · simp [hq]
  have hk : (es.modify j fun e => { e with key := k, val := v }).toList.map (·.key) = es.toList.map (·.key) := by
    apply List.ext_getElem?
    intro q
    simp only [Array.toList_modify, List.getElem?_map, List.getElem?_modify, Array.getElem?_toList]
    by_cases hq : j = q
    · subst hq; simp [hlen, hkj]
    · simp [hq]
  refine ⟨fun x hx => ?_, by rw [hb]; exact h.2.1, by rw [hk]; exact h.2.2⟩
  have : x.born ∈ es.toList.map (·.born) := by rw [← hb]; exact List.mem_map.2 ⟨x, hx, rfl⟩
  obtain ⟨y, hy, e⟩ := List.mem_map.1 this
  rw [← e]; exact h.1 y hy

section
variable {P : Program} {n : Fr} {Q : EPost} {E : Env} {w : World} {ops : Array Oper} {rest : List Oper} {d : Tmp} {d' : Option Tmp} {ty : TypeId} {ps : String} {af : Array Edge} {gd : Option (Nat × Bool)} {g0 g : Hp} {w0 : World} {L : List Res}
variable {K V : Type} [BEq K] {ek : K → Value} {vf : V → Value} {T Tk Te : TypeId}

theorem OW_makeMap (hs : Sep g0 w0 g w L) (hd : Nat.blt d n.sz = true) (k : ∀ b w', Sep g0 w0 g w' (.obj b (.map #[] 0) :: L) → OW P n ops Q rest (upd E d (.map (some b))) w') :
    OW P n ops Q (⟨some d, .makeMap T none, ty, ps, af, none⟩ :: rest) E w :=
  O (.inl (by simp [execOp, Instr.makeMap])) hd (k _ _ (hs.alloc (.map #[] 0)))
omit [BEq K] in
theorem mrel_nil : MRel ek vf #[] 0 [] := ⟨rfl, by simp [MapKept.Stamped]⟩

theorem r_lookup {es : Array MapEntry} {clock b i : Nat} {m : List (K × V)} {x y : Operand} {kk : K} {agg : Bool} {size bytes : Nat} {z : V} (hT : P.underlying T = some (.map Tk Te)) (he : TyI P Te agg size bytes (vf z)) (law : KeyLaw P Tk ek)
    (hs : Sep g0 w0 g w L) (hi : L[i]? = some (.obj b (.map es clock))) (hm : MRel ek vf es clock m) (hx : ev E x = .map (some b)) (hy : ev E y = ek kk) :
    Runs P E ⟨d', .lookup T x y true, ty, ps, af, gd⟩ w (.tuple #[vf ((mget m kk).getD z), .bool (mget m kk).isSome]) w := .inl (by
  have hb := (hs.at hi).out
  simp only [Res.okB] at hb
  have hf := law.find kk es.toList (m.map (·.1)) w hm.keys
  have hv := hm.val
  rw [find?_findIdx?]
  simp only [execOp, Instr.lookup, hx, hy, Sem.run_bind, run_underlying hT, Result.andThen_ok, getObj, Sem.run, hb, Sem.run_pure, law.check, hf]
  cases hj : (m.map (·.1)).findIdx? (· == kk) with
  | none => simp [run_zeroValue he]
  | some j =>
    have := hv j
    obtain ⟨_, hjl, _⟩ := mset_of_some (v := z) hj
    cases hm' : m[j]? with
    | none => rw [List.getElem?_eq_none_iff] at hm'; omega
    | some p =>
      rw [hm'] at this
      cases he' : es.toList[j]? with
      | none => rw [he'] at this; simp at this
      | some e =>
        rw [he'] at this
        simp only [Option.map_some, Option.some.injEq] at this
        simp only [Option.bind_some, he', Option.map_some, hm', Option.getD_some, Option.isSome_some, if_true]
        rw [this]
        rfl)
omit [BEq K] in
theorem r_lenMap {es : Array MapEntry} {clock b i : Nat} {m : List (K × V)} {x : Operand} (hT : P.underlying T = some (.map Tk Te)) (hs : Sep g0 w0 g w L) (hi : L[i]? = some (.obj b (.map es clock))) (hm : MRel ek vf es clock m) (hx : ev E x = .map (some b)) :
    Runs P E ⟨d', .call { callee := .builtin .len, args := #[x], argTypes := #[T] }, ty, ps, af, gd⟩ w (.int .i64 m.length) w := .inl (by
  have hb := (hs.at hi).out
  simp only [Res.okB] at hb
  rw [← hm.size]
  simp [execOp, resolve, invoke, builtin, hx, Builtin.len_, run_underlying hT, getObj, Sem.run, hb, goInt])
theorem OW_mapSet {es : Array MapEntry} {clock b i : Nat} {m : List (K × V)} {x y u : Operand} {kk : K} {vv : V} (hT : P.underlying T = some (.map Tk Te)) (law : KeyLaw P Tk ek)
    (hs : Sep g0 w0 g w L) (hi : L[i]? = some (.obj b (.map es clock))) (hm : MRel ek vf es clock m) (hx : ev E x = .map (some b)) (hy : ev E y = ek kk) (hu : ev E u = vf vv)
    (k : ∀ es' clock' w', MRel ek vf es' clock' (mset m kk vv) → Sep g0 w0 g w' (L.set i (.obj b (.map es' clock'))) → OW P n ops Q rest E w') :
    OW P n ops Q (⟨none, .mapUpdate T x y u, ty, ps, af, none⟩ :: rest) E w := by
  have hb := (hs.at hi).out
  simp only [Res.okB] at hb
  have hf := law.find kk es.toList (m.map (·.1)) w hm.keys
  have hbl := (Array.getElem?_eq_some_iff.1 hb).1
  have upd : ∀ (es' : Array MapEntry) (c' : Nat), Sep g0 w0 g { w with heap := w.heap.setIfInBounds b (.map es' c') } (L.set i (.obj b (.map es' c'))) := fun es' c' =>
    hs.upd hi ⟨rfl, rfl, rfl, by simp, fun k _ hk => by
      simp only [Res.blk] at hk
      simp only [Array.getElem?_setIfInBounds]
      rw [if_neg (fun e => hk (by rw [e]))]⟩ ⟨by simp [Res.okB, hbl]⟩ (fun b' hb' => .inl (by simpa [Res.blk] using hb'))
  have hkeys := hm.keys
  cases hj : (m.map (·.1)).findIdx? (· == kk) with
  | none =>
    rw [hj] at hf
    refine O0 (.inl ?_) (k (es.push ⟨ek kk, vf vv, clock⟩) (clock + 1) _ ?_ (upd _ _))
    · simp only [execOp, Instr.mapUpdate, hx, hy, hu, Sem.run_bind, run_underlying hT, Result.andThen_ok, getObj, Sem.run, hb, Sem.run_pure, law.check, hf]
      simp [setObj, Sem.run, hb]
    · exact hm.push law hj
  | some j =>
    obtain ⟨h1, h2, h3⟩ := mset_of_some (v := vv) hj
    have hlen : j < es.size := by rw [hm.size]; exact h2
    have hkj : es[j].key = ek kk := by
      have hk := congrArg (fun l => l[j]?) hkeys
      simp only [List.getElem?_map, Array.getElem?_toList, List.map_map] at hk
      rw [Array.getElem?_eq_getElem hlen] at hk
      cases hmj : m[j]? with
      | none => rw [List.getElem?_eq_none_iff] at hmj; omega
      | some p =>
        rw [hmj] at hk h3
        simp only [Option.map_some, Option.some.injEq] at h3 hk
        have := law.lawful
        rw [hk, ← eq_of_beq h3]; rfl
    rw [hj] at hf
    simp only [Option.bind_some, Array.getElem?_toList, Array.getElem?_eq_getElem hlen, Option.map_some] at hf
    refine O0 (.inl ?_) (k (es.modify j fun e => { e with key := ek kk, val := vf vv }) clock _ ?_ (upd _ _))
    · simp only [execOp, Instr.mapUpdate, hx, hy, hu, Sem.run_bind, run_underlying hT, Result.andThen_ok, getObj, Sem.run, hb, Sem.run_pure, law.check, hf]
      simp [Instr.keyThatStays, hlen, hkj, law.stays, setObj, Sem.run, hb]
    · refine ⟨?_, stamped_modify hm.stamp hlen hkj⟩
      rw [h1, List.map_set, ← hm.ents]
      apply List.ext_getElem?
      intro q
      simp only [Array.toList_modify, List.getElem?_map, List.getElem?_modify, List.getElem?_set, List.length_map, Array.length_toList, Array.getElem?_toList]
      by_cases hq : j = q
      · subst hq; simp [hlen]
      · simp [hq]
theorem OW_mapIns {es : Array MapEntry} {clock b i : Nat} {m : List (K × V)} {x y u : Operand} {kk : K} {vv : V} (hT : P.underlying T = some (.map Tk Te)) (law : KeyLaw P Tk ek)
    (hs : Sep g0 w0 g w L) (hi : L[i]? = some (.obj b (.map es clock))) (hm : MRel ek vf es clock m) (hx : ev E x = .map (some b)) (hy : ev E y = ek kk) (hu : ev E u = vf vv)
    (k : ∀ es' clock' w', MRel ek vf es' clock' (mset m kk vv) → Sep g0 w0 g w' (L.set i (.obj b (.map es' clock'))) → OW P n ops Q rest E w') :
    OW P n ops Q (⟨none, .insert T x y u, ty, ps, af, none⟩ :: rest) E w := by
  have hb := (hs.at hi).out
  simp only [Res.okB] at hb
  have hf := law.find kk es.toList (m.map (·.1)) w hm.keys
  have hbl := (Array.getElem?_eq_some_iff.1 hb).1
  have upd : ∀ (es' : Array MapEntry) (c' : Nat), Sep g0 w0 g { w with heap := w.heap.setIfInBounds b (.map es' c') } (L.set i (.obj b (.map es' c'))) := fun es' c' =>
    hs.upd hi ⟨rfl, rfl, rfl, by simp, fun k _ hk => by
      simp only [Res.blk] at hk
      simp only [Array.getElem?_setIfInBounds]
      rw [if_neg (fun e => hk (by rw [e]))]⟩ ⟨by simp [Res.okB, hbl]⟩ (fun b' hb' => .inl (by simpa [Res.blk] using hb'))
  have hkeys := hm.keys
  cases hj : (m.map (·.1)).findIdx? (· == kk) with
  | none =>
    rw [hj] at hf
    refine O0 (.inl ?_) (k (es.push ⟨ek kk, vf vv, clock⟩) (clock + 1) _ ?_ (upd _ _))
    · simp only [execOp, Instr.mapUpdate, hx, hy, hu, Sem.run_bind, run_underlying hT, Result.andThen_ok, getObj, Sem.run, hb, Sem.run_pure, law.check, hf]
      simp [setObj, Sem.run, hb]
    · exact hm.push law hj
  | some j =>
    obtain ⟨h1, h2, h3⟩ := mset_of_some (v := vv) hj
    have hlen : j < es.size := by rw [hm.size]; exact h2
    have hkj : es[j].key = ek kk := by
      have hk := congrArg (fun l => l[j]?) hkeys
      simp only [List.getElem?_map, Array.getElem?_toList, List.map_map] at hk
      rw [Array.getElem?_eq_getElem hlen] at hk
      cases hmj : m[j]? with
      | none => rw [List.getElem?_eq_none_iff] at hmj; omega
      | some p =>
        rw [hmj] at hk h3
        simp only [Option.map_some, Option.some.injEq] at h3 hk
        have := law.lawful
        rw [hk, ← eq_of_beq h3]; rfl
    rw [hj] at hf
    simp only [Option.bind_some, Array.getElem?_toList, Array.getElem?_eq_getElem hlen, Option.map_some] at hf
    refine O0 (.inl ?_) (k (es.modify j fun e => { e with key := ek kk, val := vf vv }) clock _ ?_ (upd _ _))
    · simp only [execOp, Instr.mapUpdate, hx, hy, hu, Sem.run_bind, run_underlying hT, Result.andThen_ok, getObj, Sem.run, hb, Sem.run_pure, law.check, hf]
      simp [Instr.keyThatStays, hlen, hkj, law.stays, setObj, Sem.run, hb]
    · refine ⟨?_, stamped_modify hm.stamp hlen hkj⟩
      rw [h1, List.map_set, ← hm.ents]
      apply List.ext_getElem?
      intro q
      simp only [Array.toList_modify, List.getElem?_map, List.getElem?_modify, List.getElem?_set, List.length_map, Array.length_toList, Array.getElem?_toList]
      by_cases hq : j = q
      · subst hq; simp [hlen]
      · simp [hq]
end
end Go.Lx
