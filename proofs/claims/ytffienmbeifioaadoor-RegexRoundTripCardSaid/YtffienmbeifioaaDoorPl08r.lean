/- Plain facts on layer 8: the reader reads the text of an expression back; the law on RoundTrip. -/
import Derived.Test.YtffienmbeifioaaDoorPl08q
namespace Go.Proofs.YtffienmbeifioaaDoor
open Go.Lx

/-- What may follow a branch; what may follow all. -/
def Stops (r : Str) : Prop := r = [] ∨ ∃ c t, r = c :: t ∧ (c.toNat = 41 ∨ c.toNat = 124)
def EndsR (r : Str) : Prop := r = [] ∨ ∃ c t, r = c :: t ∧ c.toNat = 41
theorem EndsR.stops {r : Str} (h : EndsR r) : Stops r := by
  rcases h with h | ⟨c, t, h, e⟩
  · exact .inl h
  · exact .inr ⟨c, t, h, .inl e⟩
theorem Stops.nosign {r : Str} (h : Stops r) : NoSign r := by
  intro c t e
  rcases h with h | ⟨c', t', h, hc⟩
  · rw [h] at e; cases e
  · rw [h] at e
    simp only [List.cons.injEq] at e
    obtain ⟨rfl, _⟩ := e
    omega
theorem Begins.nosign {r : Str} (h : Begins r) : NoSign r := by
  intro c t e
  obtain ⟨c', t', h, h1⟩ := h
  rw [h] at e
  simp only [List.cons.injEq] at e
  obtain ⟨rfl, _⟩ := e
  exact h1.2.2
/-- Readable: fit for a text, and of the shape that the reader makes. -/
inductive Rdb : T_Regex → Prop where
  | mk (x : T_Regex) : Fm x → shape x.Kind x.Set x.Kids.length = true → (∀ y ∈ x.Kids, Rdb y) → Rdb x
theorem Rdb.fm {x} (h : Rdb x) : Fm x := by cases h; assumption
theorem Rdb.shape {x} (h : Rdb x) : shape x.Kind x.Set x.Kids.length = true := by cases h; assumption
theorem Rdb.kids {x} (h : Rdb x) : ∀ y ∈ x.Kids, Rdb y := by cases h; assumption
theorem rdb_of : ∀ x d, Fm x → V d x = true → Rdb x := by
  refine T_Regex.ind fun k s l ih d hF hv => ?_
  cases d with
  | zero => cases hv
  | succ d =>
    rw [V, Bool.and_eq_true, List.all_eq_true] at hv
    exact .mk _ hF hv.1 fun y hy => ih y hy d (hF.kids y hy) (hv.2 y hy)
def ReadsR (s : Str) (fl : Nat) (y : T_Regex) : Prop := ∀ (p : Nat) (r : Str), s.drop p = par (([4, 5] : List Int).contains y.Kind) (fmt y) ++ r → NoSign r →
  M.regex_reader_repeat fl ⟨s, p⟩ = some (.ret (y, ⟨s, (p + (par (([4, 5] : List Int).contains y.Kind) (fmt y)).length : Nat)⟩))
def ReadsB (s : Str) (fl : Nat) (y : T_Regex) : Prop := ∀ (p : Nat) (r : Str), p ≤ s.length → s.drop p = par (([5] : List Int).contains y.Kind) (fmt y) ++ r → Stops r →
  M.regex_reader_branch fl ⟨s, p⟩ = some (.ret (y, ⟨s, (p + (par (([5] : List Int).contains y.Kind) (fmt y)).length : Nat)⟩))
def ReadsG (s : Str) (fl : Nat) (y : T_Regex) : Prop := ∀ (p : Nat) (r : Str), p ≤ s.length → s.drop p = fmt y ++ r → EndsR r →
  M.regex_reader_regex fl ⟨s, p⟩ = some (.ret (y, ⟨s, (p + (fmt y).length : Nat)⟩))
theorem group_one {k : Int} {x : T_Regex} : M.regex_group k [x] = some x := rfl
theorem group_many {k : Int} {l : List T_Regex} (h : 2 ≤ l.length) : M.regex_group k l = some ⟨k, Vec.zero 4, l⟩ := by
  unfold M.regex_group
  rw [beq_f (show (l.length : Int) ≠ 1 by omega)]
  rfl
theorem at_nil {s : Str} {p : Nat} (h : s.drop p = []) (hp : p ≤ s.length) : p = s.length := by
  have := congrArg List.length h
  rw [List.length_drop, List.length_nil] at this
  omega
theorem loopM_end {σ ρ : Type} {body : σ → Option (Step σ ρ)} {a : σ} {r : ρ} {k : Nat} (h : body a = some (.stop r)) : loopM body (k + 1) a = some r := by simp only [loopM, h]
section
variable {s : Str} (hs : s.length ≤ 1000000)
theorem branch_loop {fl : Nat} {ρ : Type} {E : Int → ρ} {body : Str × Int × List T_Regex → Option (Step (Str × Int × List T_Regex) (Step (List T_Regex × Str × Int) ρ))}
    (hb : ∀ p q a, body (p, q, a) = (bif (decide (q < (p.length : Int))) then (idxS p q).bind fun c12 => bif (c12 != 124) then some (c12 != 41) else some false else some false).bind fun (xv13 : Bool) => bif xv13 then
      (M.regex_reader_repeat fl (T_regex_reader.mk p q)).bind fun y9 => y9.on (fun rv6 => (appM 64 a [rv6.1]).bind fun l6 => some (.next (rv6.2.s, rv6.2.atv, l6))) (fun px6 => some (.stop (.stop (E px6)))) else some (.stop (.next (a, p, q)))) :
    ∀ (l a : List T_Regex) (p k : Nat) (r : Str), (∀ y ∈ l, Fm y ∧ ReadsR s fl y) → Stops r → a.length + l.length ≤ 100000 → l.length < k → p ≤ s.length → s.drop p = (fmtS l [4, 5]).flatten ++ r →
      loopM body k (s, (p : Int), a) = some (.next (a ++ l, s, ((p + (fmtS l [4, 5]).flatten.length : Nat) : Int)))
  | [], a, p, k, r, _, hr, _, hk, hp, h => by
    obtain ⟨k, rfl⟩ : ∃ k', k = k' + 1 := ⟨k - 1, by simp only [List.length_nil] at hk; omega⟩
    have h : s.drop p = r := h
    rw [List.append_nil]
    refine loopM_end ((hb _ _ _).trans (bind_of (x := false) ?_ rfl))
    rcases hr with rfl | ⟨c, t, rfl, hc⟩
    · have := at_nil h hp
      exact cnd_f (dec_f (by omega)) rfl
    · obtain ⟨hp2, h1, _⟩ := at_cons h
      refine cnd_t (dec_t (by omega)) (bind_of (idxS_nat hp2) ?_)
      rw [h1]
      rcases hc with hc | hc
      · exact cnd_t (bne_t (by omega)) (congrArg some (bne_f (by omega)))
      · exact cnd_f (bne_f (by omega)) rfl
  | y :: l, a, p, k, r, hl, hr, ha, hk, hp, h => by
    obtain ⟨k, rfl⟩ : ∃ k', k = k' + 1 := ⟨k - 1, by simp only [List.length_cons] at hk; omega⟩
    have hy := hl y (by simp)
    have h : s.drop p = (par (([4, 5] : List Int).contains y.Kind) (fmt y) ++ (fmtS l [4, 5]).flatten) ++ r := by rw [h, fmtS, List.flatten_cons]
    rw [List.append_assoc] at h
    have hbg := begins_factor hy.1
    have hns : NoSign ((fmtS l [4, 5]).flatten ++ r) := by
      cases l with
      | nil => exact hr.nosign
      | cons z l =>
        rw [fmtS, List.flatten_cons, List.append_assoc]
        exact (begins_factor (hl z (by simp)).1).app.nosign
    have hR := hy.2 p _ h hns
    obtain ⟨c, t, ec, h1, h2, _⟩ := hbg
    have hc : s.drop p = c :: (t ++ ((fmtS l [4, 5]).flatten ++ r)) := by rw [h, ec]; rfl
    obtain ⟨hp2, h3, _⟩ := at_cons hc
    have hnext : body (s, (p : Int), a) = some (.next (s, ((p + (par (([4, 5] : List Int).contains y.Kind) (fmt y)).length : Nat) : Int), a ++ [y])) := by
      refine (hb _ _ _).trans (bind_of (x := true) (cnd_t (dec_t (by omega)) (bind_of (idxS_nat hp2) ?_)) (cnd_t rfl (bind_of hR (on_eq (bind_of (appM_ok (by simp only [List.length_singleton]; simp only [List.length_cons] at ha; omega)) rfl)))))
      rw [h3]
      exact cnd_t (bne_t (by omega)) (congrArg some (bne_t (by omega)))
    rw [loopM_next hnext, branch_loop hb l (a ++ [y]) _ k r (fun z hz => hl z (by simp [hz])) hr (by simp only [List.length_append, List.length_cons, List.length_nil] at ha ⊢; omega) (by simp only [List.length_cons] at hk; omega) (at_len h hp) (at_app h)]
    rw [fmtS, List.flatten_cons, List.length_append, List.append_assoc, Nat.add_assoc]
    rfl
theorem branch_list {fl : Nat} {l : List T_Regex} (hl : ∀ y ∈ l, Fm y ∧ ReadsR s fl y) (hlen : l.length ≤ 100000) {p : Nat} {r : Str} (hp : p ≤ s.length) (h : s.drop p = (fmtS l [4, 5]).flatten ++ r) (hr : Stops r) {x : T_Regex}
    (hx : (bif ((l.length : Int) == 0) then some (⟨2, Vec.zero 4, []⟩ : T_Regex) else M.regex_group 4 l) = some x) :
    M.regex_reader_branch (fl + 1) ⟨s, p⟩ = some (.ret (x, ⟨s, ((p + (fmtS l [4, 5]).flatten.length : Nat) : Int)⟩)) := by
  unfold M.regex_reader_branch
  refine bindStep_next (branch_loop (E := fun px => (Rt.pan px : Rt (T_Regex × T_regex_reader))) (fun _ _ _ => rfl) l [] p fuel r hl hr (by simpa using hlen) (by unfold fuel; omega) hp h) ?_
  rw [List.nil_append]
  cases h0 : ((l.length : Int) == 0)
  · rw [h0] at hx
    exact cnd_f h0 (bind_of hx rfl)
  · rw [h0] at hx
    obtain rfl := Option.some.inj hx
    exact cnd_t h0 rfl
/-- Branches behind the first. -/
def tailT : List Str → Str
  | [] => []
  | t :: l => 124 :: (t ++ tailT l)
theorem inter_tail : ∀ (t : Str) (l : List Str), ([124] : Str).intercalate (t :: l) = t ++ tailT l
  | t, [] => by simp [List.intercalate, tailT]
  | t, u :: l => by
    have := inter_tail u l
    simp only [List.intercalate, List.intersperse, List.flatten_cons] at this ⊢
    rw [this]
    rfl
include hs in
theorem regex_loop {fl : Nat} {ρ : Type} {E : Int → ρ} {body : Str × Int × List T_Regex → Option (Step (Str × Int × List T_Regex) (Step (List T_Regex × Str × Int) ρ))}
    (hb : ∀ p q a, body (p, q, a) = (M.regex_reader_peek (T_regex_reader.mk p q)).bind fun rv12 => bif (rv12 == 124) then (chk .i64 (q + 1)).bind fun t6 => (M.regex_reader_branch fl (T_regex_reader.mk p t6)).bind fun y9 => y9.on (fun rv13 =>
      (appM 64 a [rv13.1]).bind fun l8 => some (.next (rv13.2.s, rv13.2.atv, l8))) (fun px7 => some (.stop (.stop (E px7)))) else some (.stop (.next (a, p, q)))) :
    ∀ (l a : List T_Regex) (p k : Nat) (r : Str), (∀ y ∈ l, ReadsB s fl y) → EndsR r → a.length + l.length ≤ 100000 → l.length < k → p ≤ s.length → s.drop p = tailT (fmtS l [5]) ++ r →
      loopM body k (s, (p : Int), a) = some (.next (a ++ l, s, ((p + (tailT (fmtS l [5])).length : Nat) : Int)))
  | [], a, p, k, r, _, hr, _, hk, hp, h => by
    obtain ⟨k, rfl⟩ : ∃ k', k = k' + 1 := ⟨k - 1, by simp only [List.length_nil] at hk; omega⟩
    have h : s.drop p = r := h
    rw [List.append_nil]
    have hpk : ∃ x, M.regex_reader_peek ⟨s, p⟩ = some x ∧ (x == (124 : Int)) = false := by
      rcases hr with rfl | ⟨c, t, rfl, hc⟩
      · exact ⟨0, peek_nil h hp, rfl⟩
      · exact ⟨_, peek_at h, beq_f (by omega)⟩
    obtain ⟨x, hx, h0⟩ := hpk
    exact loopM_end ((hb _ _ _).trans (bind_of hx (cnd_f h0 rfl)))
  | y :: l, a, p, k, r, hl, hr, ha, hk, hp, h => by
    obtain ⟨k, rfl⟩ : ∃ k', k = k' + 1 := ⟨k - 1, by simp only [List.length_cons] at hk; omega⟩
    have h : s.drop p = 124 :: (par (([5] : List Int).contains y.Kind) (fmt y) ++ (tailT (fmtS l [5]) ++ r)) := by rw [h, fmtS, tailT]; simp
    obtain ⟨hp2, _, h1⟩ := at_cons h
    have hst : Stops (tailT (fmtS l [5]) ++ r) := by
      cases l with
      | nil => exact hr.stops
      | cons z l => exact .inr ⟨124, _, rfl, .inr rfl⟩
    have hB := hl y (by simp) (p + 1) _ hp2 h1 hst
    have hnext : body (s, (p : Int), a) = some (.next (s, ((p + 1 + (par (([5] : List Int).contains y.Kind) (fmt y)).length : Nat) : Int), a ++ [y])) :=
      (hb _ _ _).trans (bind_of (peek_at h) (cnd_t rfl (bind_of (chk_succ (i := p) (by omega)) (bind_of hB (on_eq (bind_of (appM_ok (by simp only [List.length_singleton]; simp only [List.length_cons] at ha; omega)) rfl))))))
    rw [loopM_next hnext, regex_loop hb l (a ++ [y]) _ k r (fun z hz => hl z (by simp [hz])) hr (by simp only [List.length_append, List.length_cons, List.length_nil] at ha ⊢; omega) (by simp only [List.length_cons] at hk; omega) (at_len h1 hp2) (at_app h1)]
    rw [fmtS, tailT, List.append_assoc, List.length_cons, List.length_append]
    refine congrArg (fun n : Nat => some (Step.next (a ++ ([y] ++ l), s, (n : Int)))) ?_
    omega
include hs in
theorem regex_list {fl : Nat} {y : T_Regex} {l : List T_Regex} (hl : ∀ z ∈ y :: l, ReadsB s fl z) (hlen : l.length ≤ 90000) {p : Nat} {r : Str} (hp : p ≤ s.length) (h : s.drop p = ([124] : Str).intercalate (fmtS (y :: l) [5]) ++ r) (hr : EndsR r) {x : T_Regex}
    (hx : M.regex_group 5 (y :: l) = some x) :
    M.regex_reader_regex (fl + 1) ⟨s, p⟩ = some (.ret (x, ⟨s, ((p + (([124] : Str).intercalate (fmtS (y :: l) [5])).length : Nat) : Int)⟩)) := by
  unfold M.regex_reader_regex
  rw [fmtS, inter_tail] at h ⊢
  rw [List.append_assoc] at h
  have hst : Stops (tailT (fmtS l [5]) ++ r) := by
    cases l with
    | nil => exact hr.stops
    | cons z l => exact .inr ⟨124, _, rfl, .inr rfl⟩
  have hB := hl y (by simp) p _ hp h hst
  refine bind_of hB (on_eq (bindStep_next (regex_loop hs (E := fun px => (Rt.pan px : Rt (T_Regex × T_regex_reader))) (fun _ _ _ => rfl) l [y] _ fuel r (fun z hz => hl z (by simp [hz])) hr (by simp only [List.length_singleton]; omega) (by unfold fuel; omega) (at_len h hp) (at_app h)) (bind_of hx ?_)))
  rw [List.length_append, Nat.add_assoc]
end
theorem con5k {x : T_Regex} (h : x.Kind ≠ 4) : ([4, 5] : List Int).contains x.Kind = ([5] : List Int).contains x.Kind := by
  rw [con45, con5, beq_f h, Bool.or_false]
theorem fmtS_one {x : T_Regex} {ks : List Int} : (fmtS [x] ks).flatten = par (ks.contains x.Kind) (fmt x) := by simp [fmtS]
section
variable {s : Str} (hs : s.length ≤ 1000000)
theorem readsB_one {fl : Nat} {x : T_Regex} (hF : Fm x) (h4 : x.Kind ≠ 4) (hR : ReadsR s fl x) : ReadsB s (fl + 1) x := by
  intro p r hp h hr
  rw [← con5k h4] at h ⊢
  rw [← fmtS_one] at h ⊢
  exact branch_list (fun y hy => by rw [List.mem_singleton.1 hy]; exact ⟨hF, hR⟩) (by simp) hp h hr rfl
theorem readsB_cat {fl : Nat} {l : List T_Regex} (hl : ∀ y ∈ l, Fm y ∧ ReadsR s fl y) (h2 : 2 ≤ l.length) (hlen : l.length ≤ 100000) : ReadsB s (fl + 1) ⟨4, Vec.zero 4, l⟩ := by
  intro p r hp h hr
  have e : par (([5] : List Int).contains (⟨4, Vec.zero 4, l⟩ : T_Regex).Kind) (fmt ⟨4, Vec.zero 4, l⟩) = (fmtS l [4, 5]).flatten := by
    rw [fmt_4]; rfl
  rw [e] at h ⊢
  exact branch_list hl hlen hp h hr (cnd_f (beq_f (by omega)) (group_many h2))
theorem fmtS_one5 {x : T_Regex} (h : x.Kind ≠ 5) : ([124] : Str).intercalate (fmtS [x] [5]) = fmt x := by
  rw [fmtS, fmtS, con5, beq_f h]
  simp [List.intercalate, par]
include hs in
theorem readsG_one {fl : Nat} {x : T_Regex} (h5 : x.Kind ≠ 5) (hB : ReadsB s fl x) : ReadsG s (fl + 1) x := by
  intro p r hp h hr
  rw [← fmtS_one5 h5] at h ⊢
  exact regex_list hs (fun z hz => by rw [List.mem_singleton.1 hz]; exact hB) (by simp) hp h hr group_one
include hs in
theorem readsG_alt {fl : Nat} {l : List T_Regex} (hl : ∀ y ∈ l, ReadsB s fl y) (h2 : 2 ≤ l.length) (hlen : l.length ≤ 90000) : ReadsG s (fl + 1) ⟨5, Vec.zero 4, l⟩ := by
  intro p r hp h hr
  rw [fmt_5] at h ⊢
  cases l with
  | nil => simp at h2
  | cons y l => exact regex_list hs hl (by simp only [List.length_cons] at hlen; omega) hp h hr (group_many h2)
include hs in
theorem regex_empty {fl p : Nat} {r : Str} (hp : p ≤ s.length) (h : s.drop p = r) (hr : EndsR r) : M.regex_reader_regex (fl + 2) ⟨s, p⟩ = some (.ret (⟨2, Vec.zero 4, []⟩, ⟨s, (p : Nat)⟩)) := by
  have hb : M.regex_reader_branch (fl + 1) ⟨s, p⟩ = some (.ret (⟨2, Vec.zero 4, []⟩, ⟨s, (p : Nat)⟩)) := branch_list (l := []) (by simp) (by simp) hp (r := r) (by rw [h]; rfl) hr.stops rfl
  unfold M.regex_reader_regex
  exact bind_of hb (on_eq (bindStep_next (regex_loop hs (E := fun px => (Rt.pan px : Rt (T_Regex × T_regex_reader))) (fun _ _ _ => rfl) [] [⟨2, Vec.zero 4, []⟩] p fuel r (by simp) hr (by simp) (by unfold fuel; simp) hp (by rw [h]; rfl)) rfl))
include hs in
theorem group_atom {fl : Nat} {x : T_Regex} (hG : ReadsG s fl x) {p : Nat} {r : Str} (h : s.drop p = par true (fmt x) ++ r) : M.regex_reader_atom (fl + 1) ⟨s, p⟩ = some (.ret (x, ⟨s, (p + (par true (fmt x)).length : Nat)⟩)) := by
  have h' : s.drop p = 40 :: (fmt x ++ 41 :: r) := by rw [h]; simp [par]
  obtain ⟨hp, _, h1⟩ := at_cons h'
  have := paren_atom hs h' (hG (p + 1) _ hp h1 (.inr ⟨41, r, rfl, rfl⟩))
  rw [this]
  refine congrArg (fun n : Nat => some (Rt.ret (x, (⟨s, (n : Int)⟩ : T_regex_reader)))) ?_
  simp only [par, cond_true, List.length_cons, List.length_append, List.length_nil]
  omega
theorem shape_zero {k : Int} {s : Vec 4} {n : Nat} (h : shape k s n = true) (hk : k ≠ 3) : s = Vec.zero 4 := by
  rcases shape_kind h with rfl | rfl | rfl | rfl | rfl | rfl
  · have : (decide (n = 0) && s == Vec.zero 4) = true := h
    rw [Bool.and_eq_true] at this
    exact beq_iff_eq.1 this.2
  · have : (decide (n = 0) && s == Vec.zero 4) = true := h
    rw [Bool.and_eq_true] at this
    exact beq_iff_eq.1 this.2
  · exact absurd rfl hk
  · have : (decide (2 ≤ n) && s == Vec.zero 4) = true := h
    rw [Bool.and_eq_true] at this
    exact beq_iff_eq.1 this.2
  · have : (decide (2 ≤ n) && s == Vec.zero 4) = true := h
    rw [Bool.and_eq_true] at this
    exact beq_iff_eq.1 this.2
  · have : (decide (n = 1) && s == Vec.zero 4) = true := h
    rw [Bool.and_eq_true] at this
    exact beq_iff_eq.1 this.2
theorem shape_none {k : Int} {s : Vec 4} {n : Nat} (h : shape k s n = true) (hk : k = 2 ∨ k = 3) : n = 0 := by
  rcases hk with rfl | rfl
  · have : (decide (n = 0) && s == Vec.zero 4) = true := h
    rw [Bool.and_eq_true] at this
    exact of_decide_eq_true this.1
  · have : (decide (n = 0) && s != Vec.zero 4) = true := h
    rw [Bool.and_eq_true] at this
    exact of_decide_eq_true this.1
theorem shape_two {k : Int} {s : Vec 4} {n : Nat} (h : shape k s n = true) (hk : k = 4 ∨ k = 5) : 2 ≤ n := by
  rcases hk with rfl | rfl
  · have : (decide (2 ≤ n) && s == Vec.zero 4) = true := h
    rw [Bool.and_eq_true] at this
    exact of_decide_eq_true this.1
  · have : (decide (2 ≤ n) && s == Vec.zero 4) = true := h
    rw [Bool.and_eq_true] at this
    exact of_decide_eq_true this.1
include hs in
theorem reads_all : ∀ x, Rdb x → parts x ≤ 2000 → ∀ fl, 4 * height x < fl → ReadsR s fl x ∧ ReadsB s (fl + 1) x ∧ ReadsG s (fl + 2) x := by
  refine T_Regex.ind fun k st l ih hx hp fl hfl => ?_
  have hF := hx.fm
  have hpl : partsL l + 1 ≤ 2000 := hp
  have hhl : height (⟨k, st, l⟩ : T_Regex) = heightL l + 1 := rfl
  have hll := len_parts l
  have hsh := hx.shape
  have hkids : ∀ y ∈ l, ∀ f, fl ≤ f + 4 → ReadsR s f y ∧ ReadsB s (f + 1) y ∧ ReadsG s (f + 2) y := by
    intro y hy f hf
    have h1 := parts_mem hy
    have h2 := height_mem hy
    exact ih y hy (hx.kids y hy) (by omega) f (by omega)
  have hFk : ∀ y ∈ l, Fm y := hF.kids
  simp only at hsh
  obtain ⟨f, rfl⟩ : ∃ f, fl = f + 4 := ⟨fl - 4, by omega⟩
  have hR : ReadsR s (f + 4) ⟨k, st, l⟩ := by
    intro p r h hr
    have hk := hF.kind
    simp only at hk
    have fin : ∀ {n : Nat} {t : Str}, s.drop p = t ++ r → p ≤ s.length → t.length = n → s.drop (p + n) = r ∧ p + n ≤ s.length := by
      intro n t h hp hn
      subst hn
      exact ⟨at_app h, at_len h hp⟩
    have hp0 : p ≤ s.length := by
      refine Nat.le_of_not_lt fun h2 => ?_
      rw [List.drop_eq_nil_of_le (by omega)] at h
      obtain ⟨c, t, e, _⟩ := begins_factor hF
      rw [e] at h
      cases h
    rcases hk with rfl | rfl | rfl | rfl | rfl
    · -- the empty expression
      have e1 := shape_zero hsh (by decide)
      have e2 := List.eq_nil_of_length_eq_zero (shape_none hsh (.inl rfl))
      subst e1 e2
      have et : par (([4, 5] : List Int).contains (⟨2, Vec.zero 4, []⟩ : T_Regex).Kind) (fmt ⟨2, Vec.zero 4, []⟩) = [40, 41] := by rw [fmt_2]; rfl
      rw [et] at h ⊢
      have h' : s.drop p = 40 :: ([] ++ 41 :: r) := h
      obtain ⟨hp1, _, h1⟩ := at_cons h'
      have hq := fin h hp0 rfl
      exact repeat_plain (paren_atom hs h' (regex_empty hs hp1 h1 (.inr ⟨41, r, rfl, rfl⟩))) hq.1 hq.2 hr
    · -- a set
      have e2 := List.eq_nil_of_length_eq_zero (shape_none hsh (.inr rfl))
      subst e2
      have et : par (([4, 5] : List Int).contains (⟨3, st, []⟩ : T_Regex).Kind) (fmt ⟨3, st, []⟩) = stxt st := by rw [fmt_3]; rfl
      rw [et] at h ⊢
      have hq := fin h hp0 rfl
      have hc := hF.chars rfl
      exact repeat_plain (set_atom hs hF.set hc.1 hc.2 h _) hq.1 hq.2 hr
    · -- a concatenation
      have e1 := shape_zero hsh (by decide)
      subst e1
      have h2 := shape_two hsh (.inl rfl)
      have hq := fin h hp0 rfl
      refine repeat_plain (group_atom hs ?_ h) hq.1 hq.2 hr
      exact readsG_one hs (by show (4 : Int) ≠ 5; decide) (readsB_cat (fun y hy => ⟨hFk y hy, (hkids y hy f (Nat.le_refl _)).1⟩) h2 (by omega))
    · -- a union
      have e1 := shape_zero hsh (by decide)
      subst e1
      have h2 := shape_two hsh (.inr rfl)
      have hq := fin h hp0 rfl
      refine repeat_plain (group_atom hs ?_ h) hq.1 hq.2 hr
      exact readsG_alt hs (fun y hy => (hkids y hy f (Nat.le_refl _)).2.1) h2 (by omega)
    · -- a repetition
      have e1 := shape_zero hsh (by decide)
      subst e1
      obtain ⟨y, hy⟩ := hF.star rfl
      simp only at hy
      subst hy
      have hFy := hFk y (by simp)
      have et : par (([4, 5] : List Int).contains (⟨6, Vec.zero 4, [y]⟩ : T_Regex).Kind) (fmt ⟨6, Vec.zero 4, [y]⟩) = par (y.Kind != 3) (fmt y) ++ [42] := by rw [fmt_6, con2456 hFy.kind]; rfl
      rw [et] at h ⊢
      rw [List.append_assoc] at h
      have hat : M.regex_reader_atom (f + 3) ⟨s, p⟩ = some (.ret (y, ⟨s, (p + (par (y.Kind != 3) (fmt y)).length : Nat)⟩)) := by
        by_cases h3 : y.Kind = 3
        · obtain ⟨yk, ys, yl⟩ := y
          obtain rfl : yk = 3 := h3
          have e2 := List.eq_nil_of_length_eq_zero (shape_none (hx.kids (⟨3, ys, yl⟩ : T_Regex) (by simp)).shape (.inr rfl))
          simp only at e2
          subst e2
          have et2 : par ((⟨3, ys, []⟩ : T_Regex).Kind != 3) (fmt ⟨3, ys, []⟩) = stxt ys := by rw [fmt_3]; rfl
          rw [et2] at h ⊢
          have hc := hFy.chars rfl
          exact set_atom hs hFy.set hc.1 hc.2 h _
        · rw [bne_t h3] at h ⊢
          exact group_atom hs (hkids y (by simp) f (Nat.le_refl _)).2.2 h
      have := repeat_star hs hat (at_app h) hr
      rw [List.length_append, ← Nat.add_assoc]
      exact this
  have hB : ReadsB s (f + 4 + 1) ⟨k, st, l⟩ := by
    by_cases h4 : k = 4
    · subst h4
      have e1 := shape_zero hsh (by decide)
      subst e1
      exact readsB_cat (fun y hy => ⟨hFk y hy, (hkids y hy (f + 4) (by omega)).1⟩) (shape_two hsh (.inl rfl)) (by omega)
    · exact readsB_one hF h4 hR
  refine ⟨hR, hB, ?_⟩
  by_cases h5 : k = 5
  · subst h5
    have e1 := shape_zero hsh (by decide)
    subst e1
    exact readsG_alt hs (fun y hy => (hkids y hy (f + 4) (by omega)).2.1) (shape_two hsh (.inr rfl)) (by omega)
  · exact readsG_one hs h5 hB
end
theorem parse_fmt {x : T_Regex} (ok : okT_Regex x) (hx : Rdb x) (hp : parts x ≤ 600) (hh : height x ≤ 100) (hv : V 30 x = true) : M.regex_Parse (fmt x) = some (x, 0, 0) := by
  have hl := fmt_len x
  have hs : (fmt x).length ≤ 1000000 := by omega
  have hG := (reads_all hs x hx (by omega) 1000 (by omega)).2.2 0 [] (by omega) (by simp) (.inl rfl)
  have mono : M.regex_reader_regex fuel ⟨fmt x, 0⟩ = some (.ret (x, ⟨fmt x, ((fmt x).length : Nat)⟩)) := by
    have := (reads_all hs x hx (by omega) (fuel - 2) (by unfold fuel; omega)).2.2 0 [] (by omega) (by simp) (.inl rfl)
    rw [Nat.zero_add] at this
    exact this
  unfold M.regex_Parse
  exact bind_of mono (on_eq (bindStep_next (cnd_f (dec_f (by show ¬ ((fmt x).length : Int) < ((fmt x).length : Int); omega)) rfl) (bind_of (Valid_ok ok) (cnd_f (by rw [hv]; rfl) rfl))))
theorem law_roundTrip (x0 : T_Regex) (ok0 : okT_Regex x0) (x1 : Str) (_ : (fun s : Str => s.length ≤ maxLen) x1) : M.law08_RegexRoundTrip x0 x1 = some true := by
  refine Is.eq ?_
  unfold M.law08_RegexRoundTrip
  refine Is.bnd (P := fun b => b = false → parts x0 ≤ 41 ∧ height x0 ≤ 8 ∧ Fit x0 ∧ V 30 x0 = true ∧ Fm x0 ∧ x1.length ≤ 12) ?_ fun b hb => ?_
  · refine Is.bnd (small_full (n := 40) ok0 (by omega)) fun b hb => Is.cnd (fun _ => Is.pure (by simp)) (fun h => ?_)
    obtain ⟨h1, h2, h3, h4⟩ := hb (by simpa using h)
    refine Is.bnd (Printable_ok fuel x0 h3 (by unfold fuel; omega)) fun c hc => Is.cnd (fun _ => Is.pure (by simp)) (fun h5 => Is.pure fun h6 => ?_)
    have := of_decide_eq_false h6
    exact ⟨h1, h2, h3, h4, fm_of x0 30 ok0 h4 (hc (by simpa using h5)), by omega⟩
  refine Is.cnd (fun _ => Is.bnq awake_true (Is.pure rfl)) (fun h => ?_)
  obtain ⟨h1, h2, h3, h4, h5, h6⟩ := hb h
  have e1 := Format_ok x0 h5 (by omega) fuel (by unfold fuel; omega)
  have e2 := parse_fmt ok0 (rdb_of x0 30 h5 h4) (by omega) (by omega) h4
  refine Is.bnq e1 (Is.bnq e2 (Is.cf rfl ?_))
  refine Is.bnq (x := true) ?_ (Is.pure rfl)
  have hm := match_ok (P := 41) (N := 12) (H := 8) (by decide) (by decide) (by decide) (by decide) h3 h1 h2 h6 (by omega)
  simp only [awake_true, e1, hm, Option.bind_some, cond_true, beq_self_eq_true]
end Go.Proofs.YtffienmbeifioaaDoor
