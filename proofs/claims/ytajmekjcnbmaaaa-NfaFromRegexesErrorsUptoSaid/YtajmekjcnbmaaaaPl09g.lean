/- Plain facts on layer 9: position automata: what they accept. No program in sight. -/
import Derived.Test.YtajmekjcnbmaaaaPl08b
namespace Go.Proofs.Ytajmekjcnbmaaaa
open Go.Lx

/-- What is known of an expression: whether the empty word is in it, its first and its last places. -/
structure Pt where
  nl : Bool
  fi : List Nat
  la : List Nat
/-- The sets of the places, and which place may stand behind which. -/
structure Bs where
  S : List (Vec 4)
  P : List (Nat × Nat)
def prodP (a b : List Nat) : List (Nat × Nat) := a.flatMap fun p => b.map fun q => (p, q)
theorem mem_prodP {a b : List Nat} {p q : Nat} : (p, q) ∈ prodP a b ↔ p ∈ a ∧ q ∈ b := by
  unfold prodP
  rw [List.mem_flatMap]
  constructor
  · rintro ⟨x, hx, h⟩
    obtain ⟨y, hy, e⟩ := List.mem_map.1 h
    cases e
    exact ⟨hx, hy⟩
  · rintro ⟨h1, h2⟩
    exact ⟨p, h1, List.mem_map.2 ⟨q, h2, rfl⟩⟩
theorem len_prodP (a b : List Nat) : (prodP a b).length = a.length * b.length := by
  unfold prodP
  induction a with
  | nil => simp
  | cons x a ih => rw [List.flatMap_cons, List.length_append, ih, List.length_map, List.length_cons, Nat.succ_mul]; omega
def catP (x y : Pt) : Pt := ⟨x.nl && y.nl, bif x.nl then x.fi ++ y.fi else x.fi, bif y.nl then x.la ++ y.la else y.la⟩
def uniP (x y : Pt) : Pt := ⟨x.nl || y.nl, x.fi ++ y.fi, x.la ++ y.la⟩
mutual
def bd : T_Regex → Bs → Pt × Bs
  | ⟨k, s, l⟩, b => bif k == 3 then (⟨false, [b.S.length + 1], [b.S.length + 1]⟩, ⟨b.S ++ [s], b.P⟩) else bif k == 4 then bdC l ⟨true, [], []⟩ b else bif k == 5 then bdU l ⟨false, [], []⟩ b else bif k == 6 then bdS l b else (⟨k == 2, [], []⟩, b)
def bdC : List T_Regex → Pt → Bs → Pt × Bs
  | [], x, b => (x, b)
  | y :: l, x, b => bdC l (catP x (bd y b).1) ⟨(bd y b).2.S, (bd y b).2.P ++ prodP x.la (bd y b).1.fi⟩
def bdU : List T_Regex → Pt → Bs → Pt × Bs
  | [], x, b => (x, b)
  | y :: l, x, b => bdU l (uniP x (bd y b).1) (bd y b).2
def bdS : List T_Regex → Bs → Pt × Bs
  | [], b => (⟨true, [], []⟩, b)
  | y :: _, b => (⟨true, (bd y b).1.fi, (bd y b).1.la⟩, ⟨(bd y b).2.S, (bd y b).2.P ++ prodP (bd y b).1.la (bd y b).1.fi⟩)
end

/-! ### paths -/
def Pth (M E : Nat → Nat → Prop) : Nat → List Nat → Nat → Prop
  | p, [], q => p = q
  | p, b :: w, q => ∃ r, E p r ∧ M r b ∧ Pth M E r w q
section
variable {M E F : Nat → Nat → Prop}
theorem pth_congr {R : Nat → Prop} (h : ∀ p r, R p → (E p r ↔ F p r)) (hc : ∀ p r, R p → E p r → R r) : ∀ (w : List Nat) {p q : Nat}, R p → (Pth M E p w q ↔ Pth M F p w q)
  | [], p, q, _ => Iff.rfl
  | b :: w, p, q, hp => by
    simp only [Pth]
    constructor
    · rintro ⟨r, h1, h2, h3⟩
      exact ⟨r, (h p r hp).1 h1, h2, (pth_congr h hc w (hc p r hp h1)).1 h3⟩
    · rintro ⟨r, h1, h2, h3⟩
      have h1 := (h p r hp).2 h1
      exact ⟨r, h1, h2, (pth_congr h hc w (hc p r hp h1)).2 h3⟩
theorem pth_mono (h : ∀ p r, E p r → F p r) : ∀ (w : List Nat) {p q : Nat}, Pth M E p w q → Pth M F p w q
  | [], _, _, e => e
  | _ :: w, _, _, ⟨r, h1, h2, h3⟩ => ⟨r, h _ _ h1, h2, pth_mono h w h3⟩
theorem pth_in {R : Nat → Prop} (hc : ∀ p r, R p → E p r → R r) : ∀ (w : List Nat) {p q : Nat}, R p → Pth M E p w q → R q
  | [], _, _, hp, e => by cases e; exact hp
  | _ :: w, p, _, hp, ⟨r, h1, _, h3⟩ => pth_in hc w (hc p r hp h1) h3
theorem pth_app : ∀ (u : List Nat) {v : List Nat} {b p l f q : Nat}, Pth M E p u l → E l f → M f b → Pth M E f v q → Pth M E p (u ++ b :: v) q
  | [], _, _, _, _, _, _, e, h1, h2, h3 => by cases e; exact ⟨_, h1, h2, h3⟩
  | _ :: u, _, _, _, _, _, _, ⟨r, a1, a2, a3⟩, h1, h2, h3 => ⟨r, a1, a2, pth_app u a3 h1 h2 h3⟩
/-- The places say what the language is. -/
structure Rep (M E : Nat → Nat → Prop) (x : Pt) (G : List Nat → Prop) : Prop where
  nl : x.nl = true ↔ G []
  ac : ∀ b w, G (b :: w) ↔ ∃ p ∈ x.fi, M p b ∧ ∃ q ∈ x.la, Pth M E p w q
structure Rng (E : Nat → Nat → Prop) (x : Pt) (a c : Nat) : Prop where
  le : a ≤ c
  fi : ∀ p ∈ x.fi, a < p ∧ p ≤ c
  la : ∀ p ∈ x.la, a < p ∧ p ≤ c
  e : ∀ p q, E p q → (a < p ∧ p ≤ c) ∧ (a < q ∧ q ≤ c)
theorem Rep.congr {x : Pt} {G G' : List Nat → Prop} (h : Rep M E x G) (e : ∀ w, G w ↔ G' w) : Rep M E x G' := ⟨h.nl.trans (e _), fun b w => (e _).symm.trans (h.ac b w)⟩
theorem Rep.edges {x : Pt} {G : List Nat → Prop} (h : Rep M E x G) (e : ∀ p q, E p q ↔ F p q) : Rep M F x G := by
  have : E = F := funext fun p => funext fun q => propext (e p q)
  rw [← this]; exact h
theorem Rng.edges {x : Pt} {a c : Nat} (h : Rng E x a c) (e : ∀ p q, E p q ↔ F p q) : Rng F x a c := by
  have : E = F := funext fun p => funext fun q => propext (e p q)
  rw [← this]; exact h
variable {x y : Pt} {a m c : Nat} {Gx Gy : List Nat → Prop}
/-- The edges of a concatenation. -/
def catE (E F : Nat → Nat → Prop) (x y : Pt) (p q : Nat) : Prop := (E p q ∨ F p q) ∨ (p ∈ x.la ∧ q ∈ y.fi)
theorem pth_right (hx : Rng E x a m) (hy : Rng F y m c) {w : List Nat} {p q : Nat} (hp : m < p ∧ p ≤ c) : Pth M (catE E F x y) p w q ↔ Pth M F p w q := by
  refine pth_congr (R := fun p => m < p ∧ p ≤ c) (fun p r hp => ?_) (fun p r hp h => ?_) w hp
  · constructor
    · rintro ((h | h) | h)
      · have := (hx.e _ _ h).1; omega
      · exact h
      · have := hx.la _ h.1; omega
    · exact fun h => .inl (.inr h)
  · rcases h with (h | h) | h
    · have := (hx.e _ _ h).1; omega
    · exact (hy.e _ _ h).2
    · have := hx.la _ h.1; omega
theorem pth_left (hx : Rng E x a m) (hy : Rng F y m c) : ∀ (w : List Nat) {p q : Nat}, (a < p ∧ p ≤ m) → (Pth M (catE E F x y) p w q ↔ ((a < q ∧ q ≤ m) ∧ Pth M E p w q) ∨ ∃ u b v l f, w = u ++ b :: v ∧ l ∈ x.la ∧ Pth M E p u l ∧ f ∈ y.fi ∧ M f b ∧ Pth M F f v q)
  | [], p, q, hp => by
    constructor
    · intro e
      cases e
      exact .inl ⟨hp, rfl⟩
    · rintro (⟨_, h⟩ | ⟨u, b, v, l, f, h, _⟩)
      · exact h
      · cases u <;> cases h
  | b :: w, p, q, hp => by
    constructor
    · rintro ⟨r, (h | h) | h, h2, h3⟩
      · rcases (pth_left hx hy w (hx.e _ _ h).2).1 h3 with ⟨hq, h3⟩ | ⟨u, b', v, l, f, rfl, h4, h5, h6⟩
        · exact .inl ⟨hq, r, h, h2, h3⟩
        · exact .inr ⟨b :: u, b', v, l, f, rfl, h4, ⟨r, h, h2, h5⟩, h6⟩
      · have := (hy.e _ _ h).1; omega
      · exact .inr ⟨[], b, w, p, r, rfl, h.1, rfl, h.2, h2, (pth_right hx hy (hy.fi _ h.2)).1 h3⟩
    · rintro (⟨hq, r, h1, h2, h3⟩ | ⟨u, b', v, l, f, e, h4, h5, h6, h7, h8⟩)
      · exact ⟨r, .inl (.inl h1), h2, (pth_left hx hy w (hx.e _ _ h1).2).2 (.inl ⟨hq, h3⟩)⟩
      · rw [e]
        exact pth_app u (pth_mono (fun p r h => .inl (.inl h)) u h5) (.inr ⟨h4, h6⟩) h7 ((pth_right hx hy (hy.fi _ h6)).2 h8)
theorem Rng.cat (hx : Rng E x a m) (hy : Rng F y m c) : Rng (catE E F x y) (catP x y) a c := by
  have h1 := hx.le
  have h2 := hy.le
  refine ⟨by omega, fun p hp => ?_, fun p hp => ?_, fun p q h => ?_⟩
  · unfold catP at hp
    cases hn : x.nl <;> simp only [hn, cond_false, cond_true, List.mem_append] at hp
    · have := hx.fi _ hp; omega
    · rcases hp with hp | hp
      · have := hx.fi _ hp; omega
      · have := hy.fi _ hp; omega
  · unfold catP at hp
    cases hn : y.nl <;> simp only [hn, cond_false, cond_true, List.mem_append] at hp
    · have := hy.la _ hp; omega
    · rcases hp with hp | hp
      · have := hx.la _ hp; omega
      · have := hy.la _ hp; omega
  · rcases h with (h | h) | h
    · have := hx.e _ _ h; omega
    · have := hy.e _ _ h; omega
    · have := hx.la _ h.1
      have := hy.fi _ h.2
      omega
theorem mem_catfi {p : Nat} : p ∈ (catP x y).fi ↔ p ∈ x.fi ∨ (x.nl = true ∧ p ∈ y.fi) := by
  unfold catP
  cases x.nl <;> simp
theorem mem_catla {p : Nat} : p ∈ (catP x y).la ↔ p ∈ y.la ∨ (y.nl = true ∧ p ∈ x.la) := by
  unfold catP
  cases y.nl <;> simp [or_comm]
theorem Rep.cat (hx : Rep M E x Gx) (hy : Rep M F y Gy) (rx : Rng E x a m) (ry : Rng F y m c) : Rep M (catE E F x y) (catP x y) (fun w => ∃ u v, w = u ++ v ∧ Gx u ∧ Gy v) := by
  refine ⟨?_, fun b w => ?_⟩
  · unfold catP
    rw [Bool.and_eq_true, hx.nl, hy.nl]
    constructor
    · rintro ⟨h1, h2⟩; exact ⟨[], [], rfl, h1, h2⟩
    · rintro ⟨u, v, e, h1, h2⟩
      obtain ⟨rfl, rfl⟩ := List.append_eq_nil_iff.1 e.symm
      exact ⟨h1, h2⟩
  · constructor
    · rintro ⟨u, v, e, h1, h2⟩
      rcases cons_eq_append.1 e with ⟨rfl, rfl⟩ | ⟨u, rfl, rfl⟩
      · obtain ⟨p, hp, hm, q, hq, h⟩ := (hy.ac b w).1 h2
        exact ⟨p, mem_catfi.2 (.inr ⟨hx.nl.2 h1, hp⟩), hm, q, mem_catla.2 (.inl hq), (pth_right rx ry (ry.fi _ hp)).2 h⟩
      · obtain ⟨p, hp, hm, l, hl, h⟩ := (hx.ac b u).1 h1
        cases v with
        | nil =>
          refine ⟨p, mem_catfi.2 (.inl hp), hm, l, mem_catla.2 (.inr ⟨hy.nl.2 h2, hl⟩), ?_⟩
          rw [List.append_nil]
          exact (pth_left rx ry u (rx.fi _ hp)).2 (.inl ⟨rx.la _ hl, h⟩)
        | cons b' v =>
          obtain ⟨f, hf, hm', q, hq, h'⟩ := (hy.ac b' v).1 h2
          exact ⟨p, mem_catfi.2 (.inl hp), hm, q, mem_catla.2 (.inl hq), (pth_left rx ry _ (rx.fi _ hp)).2 (.inr ⟨u, b', v, l, f, rfl, hl, h, hf, hm', h'⟩)⟩
    · rintro ⟨p, hp, hm, q, hq, h⟩
      rcases mem_catfi.1 hp with hp | ⟨hn, hp⟩
      · rcases (pth_left rx ry w (rx.fi _ hp)).1 h with ⟨hr, h⟩ | ⟨u, b', v, l, f, rfl, hl, h1, hf, hm', h2⟩
        · rcases mem_catla.1 hq with hq | ⟨hn, hq⟩
          · have := ry.la _ hq; omega
          · exact ⟨b :: w, [], by simp, (hx.ac b w).2 ⟨p, hp, hm, q, hq, h⟩, hy.nl.1 hn⟩
        · have hq' : q ∈ y.la := by
            rcases mem_catla.1 hq with hq | ⟨_, hq⟩
            · exact hq
            · have h3 := pth_in (R := fun p => m < p ∧ p ≤ c) (fun p r _ h => (ry.e _ _ h).2) v (ry.fi _ hf) h2
              have h4 := rx.la _ hq
              have h3 : m < q ∧ q ≤ c := h3
              omega
          exact ⟨b :: u, b' :: v, rfl, (hx.ac b u).2 ⟨p, hp, hm, l, hl, h1⟩, (hy.ac b' v).2 ⟨f, hf, hm', q, hq', h2⟩⟩
      · have h2 := (pth_right rx ry (ry.fi _ hp)).1 h
        have hq' : q ∈ y.la := by
          rcases mem_catla.1 hq with hq | ⟨_, hq⟩
          · exact hq
          · have h3 := pth_in (R := fun p => m < p ∧ p ≤ c) (fun p r _ h => (ry.e _ _ h).2) w (ry.fi _ hp) h2
            have h4 := rx.la _ hq
            have h3 : m < q ∧ q ≤ c := h3
            omega
        exact ⟨[], b :: w, rfl, hx.nl.1 hn, (hy.ac b w).2 ⟨p, hp, hm, q, hq', h2⟩⟩
/-- The edges of a union. -/
def uniE (E F : Nat → Nat → Prop) (p q : Nat) : Prop := E p q ∨ F p q
theorem pth_uniL (hx : Rng E x a m) (hy : Rng F y m c) {w : List Nat} {p q : Nat} (hp : a < p ∧ p ≤ m) : Pth M (uniE E F) p w q ↔ Pth M E p w q := by
  refine pth_congr (R := fun p => a < p ∧ p ≤ m) (fun p r hp => ?_) (fun p r hp h => ?_) w hp
  · exact ⟨fun h => h.elim id fun h => (by have := (hy.e _ _ h).1; omega), .inl⟩
  · rcases h with h | h
    · exact (hx.e _ _ h).2
    · have := (hy.e _ _ h).1; omega
theorem pth_uniR (hx : Rng E x a m) (hy : Rng F y m c) {w : List Nat} {p q : Nat} (hp : m < p ∧ p ≤ c) : Pth M (uniE E F) p w q ↔ Pth M F p w q := by
  refine pth_congr (R := fun p => m < p ∧ p ≤ c) (fun p r hp => ?_) (fun p r hp h => ?_) w hp
  · exact ⟨fun h => h.elim (fun h => (by have := (hx.e _ _ h).1; omega)) id, .inr⟩
  · rcases h with h | h
    · have := (hx.e _ _ h).1; omega
    · exact (hy.e _ _ h).2
theorem Rng.uni (hx : Rng E x a m) (hy : Rng F y m c) : Rng (uniE E F) (uniP x y) a c := by
  have h1 := hx.le
  have h2 := hy.le
  refine ⟨by omega, fun p hp => ?_, fun p hp => ?_, fun p q h => ?_⟩
  · rcases List.mem_append.1 hp with hp | hp
    · have := hx.fi _ hp; omega
    · have := hy.fi _ hp; omega
  · rcases List.mem_append.1 hp with hp | hp
    · have := hx.la _ hp; omega
    · have := hy.la _ hp; omega
  · rcases h with h | h
    · have := hx.e _ _ h; omega
    · have := hy.e _ _ h; omega
theorem Rep.uni (hx : Rep M E x Gx) (hy : Rep M F y Gy) (rx : Rng E x a m) (ry : Rng F y m c) : Rep M (uniE E F) (uniP x y) (fun w => Gx w ∨ Gy w) := by
  refine ⟨?_, fun b w => ?_⟩
  · unfold uniP
    rw [Bool.or_eq_true, hx.nl, hy.nl]
  · rw [hx.ac, hy.ac]
    constructor
    · rintro (⟨p, hp, hm, q, hq, h⟩ | ⟨p, hp, hm, q, hq, h⟩)
      · exact ⟨p, List.mem_append_left _ hp, hm, q, List.mem_append_left _ hq, (pth_uniL rx ry (rx.fi _ hp)).2 h⟩
      · exact ⟨p, List.mem_append_right _ hp, hm, q, List.mem_append_right _ hq, (pth_uniR rx ry (ry.fi _ hp)).2 h⟩
    · rintro ⟨p, hp, hm, q, hq, h⟩
      rcases List.mem_append.1 hp with hp | hp
      · have h := (pth_uniL rx ry (rx.fi _ hp)).1 h
        have h3 : a < q ∧ q ≤ m := pth_in (R := fun p => a < p ∧ p ≤ m) (fun p r _ h => (rx.e _ _ h).2) w (rx.fi _ hp) h
        rcases List.mem_append.1 hq with hq | hq
        · exact .inl ⟨p, hp, hm, q, hq, h⟩
        · have := ry.la _ hq; omega
      · have h := (pth_uniR rx ry (ry.fi _ hp)).1 h
        have h3 : m < q ∧ q ≤ c := pth_in (R := fun p => m < p ∧ p ≤ c) (fun p r _ h => (ry.e _ _ h).2) w (ry.fi _ hp) h
        rcases List.mem_append.1 hq with hq | hq
        · have := rx.la _ hq; omega
        · exact .inr ⟨p, hp, hm, q, hq, h⟩
/-- The edges of a repetition. -/
def starE (E : Nat → Nat → Prop) (x : Pt) (p q : Nat) : Prop := E p q ∨ (p ∈ x.la ∧ q ∈ x.fi)
theorem Rng.star (hx : Rng E x a c) : Rng (starE E x) ⟨true, x.fi, x.la⟩ a c := by
  refine ⟨hx.le, hx.fi, hx.la, fun p q h => ?_⟩
  rcases h with h | h
  · exact hx.e _ _ h
  · exact ⟨hx.la _ h.1, hx.fi _ h.2⟩
theorem star_to (hx : Rep M E x Gx) : ∀ (w : List Nat) {p q : Nat}, q ∈ x.la → Pth M (starE E x) p w q → ∃ u v l, w = u ++ v ∧ l ∈ x.la ∧ Pth M E p u l ∧ St Gx v
  | [], p, q, hq, e => by cases e; exact ⟨[], [], p, rfl, hq, rfl, .nil⟩
  | b :: w, p, q, hq, ⟨r, h1, h2, h3⟩ => by
    obtain ⟨u, v, l, rfl, hl, h4, h5⟩ := star_to hx w hq h3
    rcases h1 with h1 | ⟨hp, hr⟩
    · exact ⟨b :: u, v, l, rfl, hl, ⟨r, h1, h2, h4⟩, h5⟩
    · exact ⟨[], b :: (u ++ v), p, rfl, hp, rfl, St.cons (u := b :: u) ((hx.ac b u).2 ⟨r, hr, h2, l, hl, h4⟩) h5⟩
theorem star_of (hx : Rep M E x Gx) {v : List Nat} (h : St Gx v) : ∀ {u : List Nat} {p l : Nat}, l ∈ x.la → Pth M E p u l → ∃ q ∈ x.la, Pth M (starE E x) p (u ++ v) q := by
  induction h with
  | nil => intro u p l hl h; rw [List.append_nil]; exact ⟨l, hl, pth_mono (fun _ _ h => .inl h) u h⟩
  | @cons v1 v2 h1 _ ih =>
    intro u p l hl h
    cases v1 with
    | nil => exact ih hl h
    | cons b v1 =>
      obtain ⟨f, hf, hm, l', hl', h2⟩ := (hx.ac b v1).1 h1
      obtain ⟨q, hq, h3⟩ := ih hl' h2
      exact ⟨q, hq, pth_app u (pth_mono (fun _ _ h => .inl h) u h) (.inr ⟨hl, hf⟩) hm h3⟩
theorem Rep.star (hx : Rep M E x Gx) : Rep M (starE E x) ⟨true, x.fi, x.la⟩ (St Gx) := by
  refine ⟨⟨fun _ => .nil, fun _ => rfl⟩, fun b w => ?_⟩
  rw [St_cons]
  constructor
  · rintro ⟨u, v, rfl, h1, h2⟩
    obtain ⟨p, hp, hm, l, hl, h3⟩ := (hx.ac b u).1 h1
    obtain ⟨q, hq, h4⟩ := star_of hx h2 hl h3
    exact ⟨p, hp, hm, q, hq, h4⟩
  · rintro ⟨p, hp, hm, q, hq, h⟩
    obtain ⟨u, v, l, rfl, hl, h4, h5⟩ := star_to hx w hq h
    exact ⟨u, v, rfl, (hx.ac b u).2 ⟨p, hp, hm, l, hl, h4⟩, h5⟩
end
/-! ### the places of an expression -/
def inS (S : List (Vec 4)) (p b : Nat) : Prop := ∃ v, S[p - 1]? = some v ∧ mem v b = true
def inQ (Q : List (Nat × Nat)) (p q : Nat) : Prop := (p, q) ∈ Q
/-- r was made out of b: sets T and edges Q were added. -/
structure Made (b : Bs) (r : Pt × Bs) (T : List (Vec 4)) (Q : List (Nat × Nat)) (G : List Nat → Prop) : Prop where
  S : r.2.S = b.S ++ T
  P : r.2.P = b.P ++ Q
  rng : Rng (inQ Q) r.1 b.S.length r.2.S.length
  rep : ∀ U, (∃ V, U = r.2.S ++ V) → Rep (inS U) (inQ Q) r.1 G
theorem rep_none {M E : Nat → Nat → Prop} {G : List Nat → Prop} {n : Bool} (hn : n = true ↔ G []) (h : ∀ b w, ¬ G (b :: w)) : Rep M E ⟨n, [], []⟩ G := ⟨hn, fun b w => ⟨fun h' => absurd h' (h b w), fun ⟨p, hp, _⟩ => by simp at hp⟩⟩
theorem rng_none {n : Bool} {a : Nat} : Rng (inQ []) ⟨n, [], []⟩ a a := ⟨Nat.le_refl _, by simp, by simp, fun p q h => by simp [inQ] at h⟩
mutual
theorem bd_made : ∀ (x : T_Regex) (b : Bs), ∃ T Q, Made b (bd x b) T Q (L x)
  | ⟨k, s, l⟩, b => by
    rcases dispatch k with rfl | rfl | rfl | rfl | rfl | ⟨h2, h3, h4, h5, h6⟩
    · have e : bd ⟨2, s, l⟩ b = (⟨true, [], []⟩, b) := by simp [bd]
      rw [e]
      exact ⟨[], [], by simp, by simp, rng_none, fun U _ => rep_none (by simp [L_2]) (fun b w h => by simp [L_2] at h)⟩
    · have e : bd ⟨3, s, l⟩ b = (⟨false, [b.S.length + 1], [b.S.length + 1]⟩, ⟨b.S ++ [s], b.P⟩) := by simp [bd]
      rw [e]
      refine ⟨[s], [], rfl, by simp, ⟨by simp, by simp, by simp, fun p q h => by simp [inQ] at h⟩, fun U hU => ?_⟩
      obtain ⟨V, rfl⟩ := hU
      have hm : ∀ c, inS ((b.S ++ [s]) ++ V) (b.S.length + 1) c ↔ mem s c = true := by
        intro c
        unfold inS
        rw [Nat.add_sub_cancel, List.append_assoc, List.getElem?_append_right (Nat.le_refl _), Nat.sub_self]
        simp
      refine ⟨by simp [L_3], fun c w => ?_⟩
      rw [L_3]
      constructor
      · rintro ⟨d, e, h⟩
        cases e
        exact ⟨_, List.mem_singleton.2 rfl, (hm c).2 h, _, List.mem_singleton.2 rfl, rfl⟩
      · rintro ⟨p, hp, h, q, hq, h2⟩
        obtain rfl := List.mem_singleton.1 hp
        obtain rfl := List.mem_singleton.1 hq
        cases w with
        | nil => exact ⟨c, rfl, (hm c).1 h⟩
        | cons d w => obtain ⟨r, h3, _⟩ := h2; simp [inQ] at h3
    · have e : bd ⟨4, s, l⟩ b = bdC l ⟨true, [], []⟩ b := by simp [bd]
      rw [e]
      obtain ⟨T, Q, h1, h2, h3, h4⟩ := bdC_made l ⟨true, [], []⟩ b [] (fun w => w = []) b.S.length rng_none (fun U _ => rep_none (by simp) (by simp))
      refine ⟨T, Q, h1, h2, h3, fun U hU => (h4 U hU).congr fun w => ?_⟩
      rw [L_4]
      constructor
      · rintro ⟨u, v, rfl, rfl, h⟩; exact h
      · exact fun h => ⟨[], w, rfl, rfl, h⟩
    · have e : bd ⟨5, s, l⟩ b = bdU l ⟨false, [], []⟩ b := by simp [bd]
      rw [e]
      obtain ⟨T, Q, h1, h2, h3, h4⟩ := bdU_made l ⟨false, [], []⟩ b [] (fun _ => False) b.S.length rng_none (fun U _ => rep_none (by simp) (by simp))
      refine ⟨T, Q, h1, h2, h3, fun U hU => (h4 U hU).congr fun w => ?_⟩
      rw [L_5]
      simp
    · have e : bd ⟨6, s, l⟩ b = bdS l b := by simp [bd]
      rw [e]
      match l with
      | [] =>
        refine ⟨[], [], by simp [bdS], by simp [bdS], rng_none, fun U _ => rep_none ⟨fun _ => L_6.2 .nil, fun _ => rfl⟩ (fun c w h => ?_)⟩
        rw [L_6, St_cons] at h
        obtain ⟨u, v, _, h, _⟩ := h
        simp [LH] at h
      | y :: l =>
        obtain ⟨T, Q, h1, h2, h3, h4⟩ := bd_made y b
        refine ⟨T, Q ++ prodP (bd y b).1.la (bd y b).1.fi, h1, ?_, ?_, fun U hU => ?_⟩
        · show (bd y b).2.P ++ _ = _
          rw [h2, List.append_assoc]
        · refine h3.star.edges fun p q => ?_
          unfold starE inQ
          rw [List.mem_append, mem_prodP]
        · refine ((h4 U hU).star.edges fun p q => ?_).congr fun w => ?_
          · unfold starE inQ
            rw [List.mem_append, mem_prodP]
          · rw [L_6]
            have : LH (y :: l) = L y := by funext w; simp [LH]
            rw [this]
    · have e : bd ⟨k, s, l⟩ b = (⟨false, [], []⟩, b) := by simp only [bd, beq_f h2, beq_f h3, beq_f h4, beq_f h5, beq_f h6, cond_false]
      rw [e]
      exact ⟨[], [], by simp, by simp, rng_none, fun U _ => rep_none ⟨fun h => (by cases h), fun h => absurd h (L_0 h2 h3 h4 h5 h6)⟩ (fun b w h => absurd h (L_0 h2 h3 h4 h5 h6))⟩
theorem bdC_made : ∀ (l : List T_Regex) (x : Pt) (b : Bs) (Q0 : List (Nat × Nat)) (G : List Nat → Prop) (a : Nat), Rng (inQ Q0) x a b.S.length → (∀ U, (∃ V, U = b.S ++ V) → Rep (inS U) (inQ Q0) x G) →
    ∃ T Q, (bdC l x b).2.S = b.S ++ T ∧ (bdC l x b).2.P = b.P ++ Q ∧ Rng (inQ (Q0 ++ Q)) (bdC l x b).1 a (bdC l x b).2.S.length ∧ ∀ U, (∃ V, U = (bdC l x b).2.S ++ V) → Rep (inS U) (inQ (Q0 ++ Q)) (bdC l x b).1 (fun w => ∃ u v, w = u ++ v ∧ G u ∧ LC l v)
  | [], x, b, Q0, G, a, hr, hp => by
    refine ⟨[], [], by simp [bdC], by simp [bdC], by simpa [bdC] using hr, fun U hU => ?_⟩
    have h := hp U (by simpa [bdC] using hU)
    simp only [List.append_nil, bdC]
    refine h.congr fun w => ⟨fun h => ⟨w, [], by simp, h, by simp [LC]⟩, ?_⟩
    rintro ⟨u, v, rfl, h1, h2⟩
    simp only [LC] at h2
    subst h2
    rw [List.append_nil]; exact h1
  | y :: l, x, b, Q0, G, a, hr, hp => by
    obtain ⟨T1, Q1, s1, p1, r1, l1⟩ := bd_made y b
    have he : ∀ p q, catE (inQ Q0) (inQ Q1) x (bd y b).1 p q ↔ inQ (Q0 ++ (Q1 ++ prodP x.la (bd y b).1.fi)) p q := by
      intro p q
      unfold catE inQ
      rw [List.mem_append, List.mem_append, mem_prodP, or_assoc]
    obtain ⟨T, Q, h1, h2, h3, h4⟩ := bdC_made l (catP x (bd y b).1) ⟨(bd y b).2.S, (bd y b).2.P ++ prodP x.la (bd y b).1.fi⟩ (Q0 ++ (Q1 ++ prodP x.la (bd y b).1.fi)) (fun w => ∃ u v, w = u ++ v ∧ G u ∧ L y v) a ((hr.cat r1).edges he)
      (fun U hU => ((hp U (by obtain ⟨V, rfl⟩ := hU; exact ⟨T1 ++ V, by simp only [s1, List.append_assoc]⟩)).cat (l1 U hU) hr r1).edges he)
    have e : bdC (y :: l) x b = bdC l (catP x (bd y b).1) ⟨(bd y b).2.S, (bd y b).2.P ++ prodP x.la (bd y b).1.fi⟩ := by simp only [bdC]
    rw [e]
    refine ⟨T1 ++ T, (Q1 ++ prodP x.la (bd y b).1.fi) ++ Q, by rw [h1]; simp only [s1, List.append_assoc], by rw [h2]; simp only [p1, List.append_assoc], by rw [← List.append_assoc]; exact h3, fun U hU => ?_⟩
    rw [← List.append_assoc]
    refine (h4 U hU).congr fun w => ?_
    simp only [LC]
    constructor
    · rintro ⟨u, v, rfl, ⟨u1, u2, rfl, g1, g2⟩, g3⟩
      exact ⟨u1, u2 ++ v, by simp, g1, u2, v, rfl, g2, g3⟩
    · rintro ⟨u, v, rfl, g1, v1, v2, rfl, g2, g3⟩
      exact ⟨u ++ v1, v2, by simp, ⟨u, v1, rfl, g1, g2⟩, g3⟩
theorem bdU_made : ∀ (l : List T_Regex) (x : Pt) (b : Bs) (Q0 : List (Nat × Nat)) (G : List Nat → Prop) (a : Nat), Rng (inQ Q0) x a b.S.length → (∀ U, (∃ V, U = b.S ++ V) → Rep (inS U) (inQ Q0) x G) →
    ∃ T Q, (bdU l x b).2.S = b.S ++ T ∧ (bdU l x b).2.P = b.P ++ Q ∧ Rng (inQ (Q0 ++ Q)) (bdU l x b).1 a (bdU l x b).2.S.length ∧ ∀ U, (∃ V, U = (bdU l x b).2.S ++ V) → Rep (inS U) (inQ (Q0 ++ Q)) (bdU l x b).1 (fun w => G w ∨ LU l w)
  | [], x, b, Q0, G, a, hr, hp => by
    refine ⟨[], [], by simp [bdU], by simp [bdU], by simpa [bdU] using hr, fun U hU => ?_⟩
    have h := hp U (by simpa [bdU] using hU)
    simp only [List.append_nil, bdU]
    exact h.congr fun w => by simp [LU]
  | y :: l, x, b, Q0, G, a, hr, hp => by
    obtain ⟨T1, Q1, s1, p1, r1, l1⟩ := bd_made y b
    have he : ∀ p q, uniE (inQ Q0) (inQ Q1) p q ↔ inQ (Q0 ++ Q1) p q := by
      intro p q
      unfold uniE inQ
      rw [List.mem_append]
    obtain ⟨T, Q, h1, h2, h3, h4⟩ := bdU_made l (uniP x (bd y b).1) (bd y b).2 (Q0 ++ Q1) (fun w => G w ∨ L y w) a ((hr.uni r1).edges he)
      (fun U hU => ((hp U (by obtain ⟨V, rfl⟩ := hU; exact ⟨T1 ++ V, by simp only [s1, List.append_assoc]⟩)).uni (l1 U hU) hr r1).edges he)
    have e : bdU (y :: l) x b = bdU l (uniP x (bd y b).1) (bd y b).2 := by simp only [bdU]
    rw [e]
    refine ⟨T1 ++ T, Q1 ++ Q, by rw [h1]; simp only [s1, List.append_assoc], by rw [h2]; simp only [p1, List.append_assoc], by rw [← List.append_assoc]; exact h3, fun U hU => ?_⟩
    rw [← List.append_assoc]
    refine (h4 U hU).congr fun w => ?_
    simp only [LU]
    rw [or_assoc]
end
end Go.Proofs.Ytajmekjcnbmaaaa
