/- Part 9 of what the law leans on: my own layer, printed walks, plain facts. -/
import Derived.Test.YtajmekjcnbmaaaaKNfaFromRegexesMatches8
namespace Go.Proofs.Ytajmekjcnbmaaaa
open Go.Lx
structure Pt where
  nl : Bool
  fi : List Nat
  la : List Nat
structure Bs where
  S : List (Vec 4)
  P : List (Nat × Nat)
def prodP (a b : List Nat) : List (Nat × Nat) := a.flatMap fun p => b.map fun q => (p, q)
theorem mem_prodP {a b : List Nat} {p q : Nat} : (p, q) ∈ prodP a b ↔ p ∈ a ∧ q ∈ b := by
  unfold prodP
  rw [List.mem_flatMap]
  constructor
  · rintro ⟨x, hx, h⟩
    obtain ⟨y, hy, e⟩ := List.mem_map.1 h
    cases e
    exact ⟨hx, hy⟩
  · rintro ⟨h1, h2⟩
    exact ⟨p, h1, List.mem_map.2 ⟨q, h2, rfl⟩⟩
theorem len_prodP (a b : List Nat) : (prodP a b).length = a.length * b.length := by
  unfold prodP
  induction a with
  | nil => simp
  | cons x a ih => rw [List.flatMap_cons, List.length_append, ih, List.length_map, List.length_cons, Nat.succ_mul]; omega
def catP (x y : Pt) : Pt := ⟨x.nl && y.nl, bif x.nl then x.fi ++ y.fi else x.fi, bif y.nl then x.la ++ y.la else y.la⟩
def uniP (x y : Pt) : Pt := ⟨x.nl || y.nl, x.fi ++ y.fi, x.la ++ y.la⟩
mutual
def bd : T_Regex → Bs → Pt × Bs
  | ⟨k, s, l⟩, b => bif k == 3 then (⟨false, [b.S.length + 1], [b.S.length + 1]⟩, ⟨b.S ++ [s], b.P⟩) else bif k == 4 then bdC l ⟨true, [], []⟩ b else bif k == 5 then bdU l ⟨false, [], []⟩ b else bif k == 6 then bdS l b else (⟨k == 2, [], []⟩, b)
def bdC : List T_Regex → Pt → Bs → Pt × Bs
  | [], x, b => (x, b)
  | y :: l, x, b => bdC l (catP x (bd y b).1) ⟨(bd y b).2.S, (bd y b).2.P ++ prodP x.la (bd y b).1.fi⟩
def bdU : List T_Regex → Pt → Bs → Pt × Bs
  | [], x, b => (x, b)
  | y :: l, x, b => bdU l (uniP x (bd y b).1) (bd y b).2
def bdS : List T_Regex → Bs → Pt × Bs
  | [], b => (⟨true, [], []⟩, b)
  | y :: _, b => (⟨true, (bd y b).1.fi, (bd y b).1.la⟩, ⟨(bd y b).2.S, (bd y b).2.P ++ prodP (bd y b).1.la (bd y b).1.fi⟩)
end
def Pth (M E : Nat → Nat → Prop) : Nat → List Nat → Nat → Prop
  | p, [], q => p = q
  | p, b :: w, q => ∃ r, E p r ∧ M r b ∧ Pth M E r w q
section
variable {M E F : Nat → Nat → Prop}
theorem pth_congr {R : Nat → Prop} (h : ∀ p r, R p → (E p r ↔ F p r)) (hc : ∀ p r, R p → E p r → R r) : ∀ (w : List Nat) {p q : Nat}, R p → (Pth M E p w q ↔ Pth M F p w q)
  | [], p, q, _ => Iff.rfl
  | b :: w, p, q, hp => by
    simp only [Pth]
    constructor
    · rintro ⟨r, h1, h2, h3⟩
      exact ⟨r, (h p r hp).1 h1, h2, (pth_congr h hc w (hc p r hp h1)).1 h3⟩
    · rintro ⟨r, h1, h2, h3⟩
      have h1 := (h p r hp).2 h1
      exact ⟨r, h1, h2, (pth_congr h hc w (hc p r hp h1)).2 h3⟩
theorem pth_mono (h : ∀ p r, E p r → F p r) : ∀ (w : List Nat) {p q : Nat}, Pth M E p w q → Pth M F p w q
  | [], _, _, e => e
  | _ :: w, _, _, ⟨r, h1, h2, h3⟩ => ⟨r, h _ _ h1, h2, pth_mono h w h3⟩
theorem pth_in {R : Nat → Prop} (hc : ∀ p r, R p → E p r → R r) : ∀ (w : List Nat) {p q : Nat}, R p → Pth M E p w q → R q
  | [], _, _, hp, e => by cases e; exact hp
  | _ :: w, p, _, hp, ⟨r, h1, _, h3⟩ => pth_in hc w (hc p r hp h1) h3
theorem pth_app : ∀ (u : List Nat) {v : List Nat} {b p l f q : Nat}, Pth M E p u l → E l f → M f b → Pth M E f v q → Pth M E p (u ++ b :: v) q
  | [], _, _, _, _, _, _, e, h1, h2, h3 => by cases e; exact ⟨_, h1, h2, h3⟩
  | _ :: u, _, _, _, _, _, _, ⟨r, a1, a2, a3⟩, h1, h2, h3 => ⟨r, a1, a2, pth_app u a3 h1 h2 h3⟩
structure Rep (M E : Nat → Nat → Prop) (x : Pt) (G : List Nat → Prop) : Prop where
  nl : x.nl = true ↔ G []
  ac : ∀ b w, G (b :: w) ↔ ∃ p ∈ x.fi, M p b ∧ ∃ q ∈ x.la, Pth M E p w q
structure Rng (E : Nat → Nat → Prop) (x : Pt) (a c : Nat) : Prop where
  le : a ≤ c
  fi : ∀ p ∈ x.fi, a < p ∧ p ≤ c
  la : ∀ p ∈ x.la, a < p ∧ p ≤ c
  e : ∀ p q, E p q → (a < p ∧ p ≤ c) ∧ (a < q ∧ q ≤ c)
theorem Rep.congr {x : Pt} {G G' : List Nat → Prop} (h : Rep M E x G) (e : ∀ w, G w ↔ G' w) : Rep M E x G' := ⟨h.nl.trans (e _), fun b w => (e _).symm.trans (h.ac b w)⟩
theorem Rep.edges {x : Pt} {G : List Nat → Prop} (h : Rep M E x G) (e : ∀ p q, E p q ↔ F p q) : Rep M F x G := by
  have : E = F := funext fun p => funext fun q => propext (e p q)
  rw [← this]; exact h
theorem Rng.edges {x : Pt} {a c : Nat} (h : Rng E x a c) (e : ∀ p q, E p q ↔ F p q) : Rng F x a c := by
  have : E = F := funext fun p => funext fun q => propext (e p q)
  rw [← this]; exact h
variable {x y : Pt} {a m c : Nat} {Gx Gy : List Nat → Prop}
def catE (E F : Nat → Nat → Prop) (x y : Pt) (p q : Nat) : Prop := (E p q ∨ F p q) ∨ (p ∈ x.la ∧ q ∈ y.fi)
theorem pth_right (hx : Rng E x a m) (hy : Rng F y m c) {w : List Nat} {p q : Nat} (hp : m < p ∧ p ≤ c) : Pth M (catE E F x y) p w q ↔ Pth M F p w q := by
  refine pth_congr (R := fun p => m < p ∧ p ≤ c) (fun p r hp => ?_) (fun p r hp h => ?_) w hp
  · constructor
    · rintro ((h | h) | h)
      · have := (hx.e _ _ h).1; omega
      · exact h
      · have := hx.la _ h.1; omega
    · exact fun h => .inl (.inr h)
  · rcases h with (h | h) | h
    · have := (hx.e _ _ h).1; omega
    · exact (hy.e _ _ h).2
    · have := hx.la _ h.1; omega
theorem pth_left (hx : Rng E x a m) (hy : Rng F y m c) : ∀ (w : List Nat) {p q : Nat}, (a < p ∧ p ≤ m) → (Pth M (catE E F x y) p w q ↔ ((a < q ∧ q ≤ m) ∧ Pth M E p w q) ∨ ∃ u b v l f, w = u ++ b :: v ∧ l ∈ x.la ∧ Pth M E p u l ∧ f ∈ y.fi ∧ M f b ∧ Pth M F f v q)
  | [], p, q, hp => by
    constructor
    · intro e
      cases e
      exact .inl ⟨hp, rfl⟩
    · rintro (⟨_, h⟩ | ⟨u, b, v, l, f, h, _⟩)
      · exact h
      · cases u <;> cases h
  | b :: w, p, q, hp => by
    constructor
    · rintro ⟨r, (h | h) | h, h2, h3⟩
      · rcases (pth_left hx hy w (hx.e _ _ h).2).1 h3 with ⟨hq, h3⟩ | ⟨u, b', v, l, f, rfl, h4, h5, h6⟩
        · exact .inl ⟨hq, r, h, h2, h3⟩
        · exact .inr ⟨b :: u, b', v, l, f, rfl, h4, ⟨r, h, h2, h5⟩, h6⟩
      · have := (hy.e _ _ h).1; omega
      · exact .inr ⟨[], b, w, p, r, rfl, h.1, rfl, h.2, h2, (pth_right hx hy (hy.fi _ h.2)).1 h3⟩
    · rintro (⟨hq, r, h1, h2, h3⟩ | ⟨u, b', v, l, f, e, h4, h5, h6, h7, h8⟩)
      · exact ⟨r, .inl (.inl h1), h2, (pth_left hx hy w (hx.e _ _ h1).2).2 (.inl ⟨hq, h3⟩)⟩
      · rw [e]
        exact pth_app u (pth_mono (fun p r h => .inl (.inl h)) u h5) (.inr ⟨h4, h6⟩) h7 ((pth_right hx hy (hy.fi _ h6)).2 h8)
theorem Rng.cat (hx : Rng E x a m) (hy : Rng F y m c) : Rng (catE E F x y) (catP x y) a c := by
  have h1 := hx.le
  have h2 := hy.le
  refine ⟨by omega, fun p hp => ?_, fun p hp => ?_, fun p q h => ?_⟩
  · unfold catP at hp
    cases hn : x.nl <;> simp only [hn, cond_false, cond_true, List.mem_append] at hp
    · have := hx.fi _ hp; omega
    · rcases hp with hp | hp
      · have := hx.fi _ hp; omega
      · have := hy.fi _ hp; omega
  · unfold catP at hp
    cases hn : y.nl <;> simp only [hn, cond_false, cond_true, List.mem_append] at hp
    · have := hy.la _ hp; omega
    · rcases hp with hp | hp
      · have := hx.la _ hp; omega
      · have := hy.la _ hp; omega
  · rcases h with (h | h) | h
    · have := hx.e _ _ h; omega
    · have := hy.e _ _ h; omega
    · have := hx.la _ h.1
      have := hy.fi _ h.2
      omega
theorem mem_catfi {p : Nat} : p ∈ (catP x y).fi ↔ p ∈ x.fi ∨ (x.nl = true ∧ p ∈ y.fi) := by
  unfold catP
  cases x.nl <;> simp
theorem mem_catla {p : Nat} : p ∈ (catP x y).la ↔ p ∈ y.la ∨ (y.nl = true ∧ p ∈ x.la) := by
  unfold catP
  cases y.nl <;> simp [or_comm]
theorem Rep.cat (hx : Rep M E x Gx) (hy : Rep M F y Gy) (rx : Rng E x a m) (ry : Rng F y m c) : Rep M (catE E F x y) (catP x y) (fun w => ∃ u v, w = u ++ v ∧ Gx u ∧ Gy v) := by
  refine ⟨?_, fun b w => ?_⟩
  · unfold catP
    rw [Bool.and_eq_true, hx.nl, hy.nl]
    constructor
    · rintro ⟨h1, h2⟩; exact ⟨[], [], rfl, h1, h2⟩
    · rintro ⟨u, v, e, h1, h2⟩
      obtain ⟨rfl, rfl⟩ := List.append_eq_nil_iff.1 e.symm
      exact ⟨h1, h2⟩
  · constructor
    · rintro ⟨u, v, e, h1, h2⟩
      rcases cons_eq_append.1 e with ⟨rfl, rfl⟩ | ⟨u, rfl, rfl⟩
      · obtain ⟨p, hp, hm, q, hq, h⟩ := (hy.ac b w).1 h2
        exact ⟨p, mem_catfi.2 (.inr ⟨hx.nl.2 h1, hp⟩), hm, q, mem_catla.2 (.inl hq), (pth_right rx ry (ry.fi _ hp)).2 h⟩
      · obtain ⟨p, hp, hm, l, hl, h⟩ := (hx.ac b u).1 h1
        cases v with
        | nil =>
          refine ⟨p, mem_catfi.2 (.inl hp), hm, l, mem_catla.2 (.inr ⟨hy.nl.2 h2, hl⟩), ?_⟩
          rw [List.append_nil]
          exact (pth_left rx ry u (rx.fi _ hp)).2 (.inl ⟨rx.la _ hl, h⟩)
        | cons b' v =>
          obtain ⟨f, hf, hm', q, hq, h'⟩ := (hy.ac b' v).1 h2
          exact ⟨p, mem_catfi.2 (.inl hp), hm, q, mem_catla.2 (.inl hq), (pth_left rx ry _ (rx.fi _ hp)).2 (.inr ⟨u, b', v, l, f, rfl, hl, h, hf, hm', h'⟩)⟩
    · rintro ⟨p, hp, hm, q, hq, h⟩
      rcases mem_catfi.1 hp with hp | ⟨hn, hp⟩
      · rcases (pth_left rx ry w (rx.fi _ hp)).1 h with ⟨hr, h⟩ | ⟨u, b', v, l, f, rfl, hl, h1, hf, hm', h2⟩
        · rcases mem_catla.1 hq with hq | ⟨hn, hq⟩
          · have := ry.la _ hq; omega
          · exact ⟨b :: w, [], by simp, (hx.ac b w).2 ⟨p, hp, hm, q, hq, h⟩, hy.nl.1 hn⟩
        · have hq' : q ∈ y.la := by
            rcases mem_catla.1 hq with hq | ⟨_, hq⟩
            · exact hq
            · have h3 := pth_in (R := fun p => m < p ∧ p ≤ c) (fun p r _ h => (ry.e _ _ h).2) v (ry.fi _ hf) h2
              have h4 := rx.la _ hq
              have h3 : m < q ∧ q ≤ c := h3
              omega
          exact ⟨b :: u, b' :: v, rfl, (hx.ac b u).2 ⟨p, hp, hm, l, hl, h1⟩, (hy.ac b' v).2 ⟨f, hf, hm', q, hq', h2⟩⟩
      · have h2 := (pth_right rx ry (ry.fi _ hp)).1 h
        have hq' : q ∈ y.la := by
          rcases mem_catla.1 hq with hq | ⟨_, hq⟩
          · exact hq
          · have h3 := pth_in (R := fun p => m < p ∧ p ≤ c) (fun p r _ h => (ry.e _ _ h).2) w (ry.fi _ hp) h2
            have h4 := rx.la _ hq
            have h3 : m < q ∧ q ≤ c := h3
            omega
        exact ⟨[], b :: w, rfl, hx.nl.1 hn, (hy.ac b w).2 ⟨p, hp, hm, q, hq', h2⟩⟩
def uniE (E F : Nat → Nat → Prop) (p q : Nat) : Prop := E p q ∨ F p q
theorem pth_uniL (hx : Rng E x a m) (hy : Rng F y m c) {w : List Nat} {p q : Nat} (hp : a < p ∧ p ≤ m) : Pth M (uniE E F) p w q ↔ Pth M E p w q := by
  refine pth_congr (R := fun p => a < p ∧ p ≤ m) (fun p r hp => ?_) (fun p r hp h => ?_) w hp
  · exact ⟨fun h => h.elim id fun h => (by have := (hy.e _ _ h).1; omega), .inl⟩
  · rcases h with h | h
    · exact (hx.e _ _ h).2
    · have := (hy.e _ _ h).1; omega
theorem pth_uniR (hx : Rng E x a m) (hy : Rng F y m c) {w : List Nat} {p q : Nat} (hp : m < p ∧ p ≤ c) : Pth M (uniE E F) p w q ↔ Pth M F p w q := by
  refine pth_congr (R := fun p => m < p ∧ p ≤ c) (fun p r hp => ?_) (fun p r hp h => ?_) w hp
  · exact ⟨fun h => h.elim (fun h => (by have := (hx.e _ _ h).1; omega)) id, .inr⟩
  · rcases h with h | h
    · have := (hx.e _ _ h).1; omega
    · exact (hy.e _ _ h).2
theorem Rng.uni (hx : Rng E x a m) (hy : Rng F y m c) : Rng (uniE E F) (uniP x y) a c := by
  have h1 := hx.le
  have h2 := hy.le
  refine ⟨by omega, fun p hp => ?_, fun p hp => ?_, fun p q h => ?_⟩
  · rcases List.mem_append.1 hp with hp | hp
    · have := hx.fi _ hp; omega
    · have := hy.fi _ hp; omega
  · rcases List.mem_append.1 hp with hp | hp
    · have := hx.la _ hp; omega
    · have := hy.la _ hp; omega
  · rcases h with h | h
    · have := hx.e _ _ h; omega
    · have := hy.e _ _ h; omega
theorem Rep.uni (hx : Rep M E x Gx) (hy : Rep M F y Gy) (rx : Rng E x a m) (ry : Rng F y m c) : Rep M (uniE E F) (uniP x y) (fun w => Gx w ∨ Gy w) := by
  refine ⟨?_, fun b w => ?_⟩
  · unfold uniP
    rw [Bool.or_eq_true, hx.nl, hy.nl]
  · rw [hx.ac, hy.ac]
    constructor
    · rintro (⟨p, hp, hm, q, hq, h⟩ | ⟨p, hp, hm, q, hq, h⟩)
      · exact ⟨p, List.mem_append_left _ hp, hm, q, List.mem_append_left _ hq, (pth_uniL rx ry (rx.fi _ hp)).2 h⟩
      · exact ⟨p, List.mem_append_right _ hp, hm, q, List.mem_append_right _ hq, (pth_uniR rx ry (ry.fi _ hp)).2 h⟩
    · rintro ⟨p, hp, hm, q, hq, h⟩
      rcases List.mem_append.1 hp with hp | hp
      · have h := (pth_uniL rx ry (rx.fi _ hp)).1 h
        have h3 : a < q ∧ q ≤ m := pth_in (R := fun p => a < p ∧ p ≤ m) (fun p r _ h => (rx.e _ _ h).2) w (rx.fi _ hp) h
        rcases List.mem_append.1 hq with hq | hq
        · exact .inl ⟨p, hp, hm, q, hq, h⟩
        · have := ry.la _ hq; omega
      · have h := (pth_uniR rx ry (ry.fi _ hp)).1 h
        have h3 : m < q ∧ q ≤ c := pth_in (R := fun p => m < p ∧ p ≤ c) (fun p r _ h => (ry.e _ _ h).2) w (ry.fi _ hp) h
        rcases List.mem_append.1 hq with hq | hq
        · have := rx.la _ hq; omega
        · exact .inr ⟨p, hp, hm, q, hq, h⟩
def starE (E : Nat → Nat → Prop) (x : Pt) (p q : Nat) : Prop := E p q ∨ (p ∈ x.la ∧ q ∈ x.fi)
theorem Rng.star (hx : Rng E x a c) : Rng (starE E x) ⟨true, x.fi, x.la⟩ a c := by
  refine ⟨hx.le, hx.fi, hx.la, fun p q h => ?_⟩
  rcases h with h | h
  · exact hx.e _ _ h
  · exact ⟨hx.la _ h.1, hx.fi _ h.2⟩
theorem star_to (hx : Rep M E x Gx) : ∀ (w : List Nat) {p q : Nat}, q ∈ x.la → Pth M (starE E x) p w q → ∃ u v l, w = u ++ v ∧ l ∈ x.la ∧ Pth M E p u l ∧ St Gx v
  | [], p, q, hq, e => by cases e; exact ⟨[], [], p, rfl, hq, rfl, .nil⟩
  | b :: w, p, q, hq, ⟨r, h1, h2, h3⟩ => by
    obtain ⟨u, v, l, rfl, hl, h4, h5⟩ := star_to hx w hq h3
    rcases h1 with h1 | ⟨hp, hr⟩
    · exact ⟨b :: u, v, l, rfl, hl, ⟨r, h1, h2, h4⟩, h5⟩
    · exact ⟨[], b :: (u ++ v), p, rfl, hp, rfl, St.cons (u := b :: u) ((hx.ac b u).2 ⟨r, hr, h2, l, hl, h4⟩) h5⟩
theorem star_of (hx : Rep M E x Gx) {v : List Nat} (h : St Gx v) : ∀ {u : List Nat} {p l : Nat}, l ∈ x.la → Pth M E p u l → ∃ q ∈ x.la, Pth M (starE E x) p (u ++ v) q := by
  induction h with
  | nil => intro u p l hl h; rw [List.append_nil]; exact ⟨l, hl, pth_mono (fun _ _ h => .inl h) u h⟩
  | @cons v1 v2 h1 _ ih =>
    intro u p l hl h
    cases v1 with
    | nil => exact ih hl h
    | cons b v1 =>
      obtain ⟨f, hf, hm, l', hl', h2⟩ := (hx.ac b v1).1 h1
      obtain ⟨q, hq, h3⟩ := ih hl' h2
      exact ⟨q, hq, pth_app u (pth_mono (fun _ _ h => .inl h) u h) (.inr ⟨hl, hf⟩) hm h3⟩
theorem Rep.star (hx : Rep M E x Gx) : Rep M (starE E x) ⟨true, x.fi, x.la⟩ (St Gx) := by
  refine ⟨⟨fun _ => .nil, fun _ => rfl⟩, fun b w => ?_⟩
  rw [St_cons]
  constructor
  · rintro ⟨u, v, rfl, h1, h2⟩
    obtain ⟨p, hp, hm, l, hl, h3⟩ := (hx.ac b u).1 h1
    obtain ⟨q, hq, h4⟩ := star_of hx h2 hl h3
    exact ⟨p, hp, hm, q, hq, h4⟩
  · rintro ⟨p, hp, hm, q, hq, h⟩
    obtain ⟨u, v, l, rfl, hl, h4, h5⟩ := star_to hx w hq h
    exact ⟨u, v, rfl, (hx.ac b u).2 ⟨p, hp, hm, l, hl, h4⟩, h5⟩
end
def inS (S : List (Vec 4)) (p b : Nat) : Prop := ∃ v, S[p - 1]? = some v ∧ mem v b = true
def inQ (Q : List (Nat × Nat)) (p q : Nat) : Prop := (p, q) ∈ Q
structure Made (b : Bs) (r : Pt × Bs) (T : List (Vec 4)) (Q : List (Nat × Nat)) (G : List Nat → Prop) : Prop where
  S : r.2.S = b.S ++ T
  P : r.2.P = b.P ++ Q
  rng : Rng (inQ Q) r.1 b.S.length r.2.S.length
  rep : ∀ U, (∃ V, U = r.2.S ++ V) → Rep (inS U) (inQ Q) r.1 G
theorem rep_none {M E : Nat → Nat → Prop} {G : List Nat → Prop} {n : Bool} (hn : n = true ↔ G []) (h : ∀ b w, ¬ G (b :: w)) : Rep M E ⟨n, [], []⟩ G := ⟨hn, fun b w => ⟨fun h' => absurd h' (h b w), fun ⟨p, hp, _⟩ => by simp at hp⟩⟩
theorem rng_none {n : Bool} {a : Nat} : Rng (inQ []) ⟨n, [], []⟩ a a := ⟨Nat.le_refl _, by simp, by simp, fun p q h => by simp [inQ] at h⟩
mutual
theorem bd_made : ∀ (x : T_Regex) (b : Bs), ∃ T Q, Made b (bd x b) T Q (L x)
  | ⟨k, s, l⟩, b => by
    rcases dispatch k with rfl | rfl | rfl | rfl | rfl | ⟨h2, h3, h4, h5, h6⟩
    · have e : bd ⟨2, s, l⟩ b = (⟨true, [], []⟩, b) := by simp [bd]
      rw [e]
      exact ⟨[], [], by simp, by simp, rng_none, fun U _ => rep_none (by simp [L_2]) (fun b w h => by simp [L_2] at h)⟩
    · have e : bd ⟨3, s, l⟩ b = (⟨false, [b.S.length + 1], [b.S.length + 1]⟩, ⟨b.S ++ [s], b.P⟩) := by simp [bd]
      rw [e]
      refine ⟨[s], [], rfl, by simp, ⟨by simp, by simp, by simp, fun p q h => by simp [inQ] at h⟩, fun U hU => ?_⟩
      obtain ⟨V, rfl⟩ := hU
      have hm : ∀ c, inS ((b.S ++ [s]) ++ V) (b.S.length + 1) c ↔ mem s c = true := by
        intro c
        unfold inS
        rw [Nat.add_sub_cancel, List.append_assoc, List.getElem?_append_right (Nat.le_refl _), Nat.sub_self]
        simp
      refine ⟨by simp [L_3], fun c w => ?_⟩
      rw [L_3]
      constructor
      · rintro ⟨d, e, h⟩
        cases e
        exact ⟨_, List.mem_singleton.2 rfl, (hm c).2 h, _, List.mem_singleton.2 rfl, rfl⟩
      · rintro ⟨p, hp, h, q, hq, h2⟩
        obtain rfl := List.mem_singleton.1 hp
        obtain rfl := List.mem_singleton.1 hq
        cases w with
        | nil => exact ⟨c, rfl, (hm c).1 h⟩
        | cons d w => obtain ⟨r, h3, _⟩ := h2; simp [inQ] at h3
    · have e : bd ⟨4, s, l⟩ b = bdC l ⟨true, [], []⟩ b := by simp [bd]
      rw [e]
      obtain ⟨T, Q, h1, h2, h3, h4⟩ := bdC_made l ⟨true, [], []⟩ b [] (fun w => w = []) b.S.length rng_none (fun U _ => rep_none (by simp) (by simp))
      refine ⟨T, Q, h1, h2, h3, fun U hU => (h4 U hU).congr fun w => ?_⟩
      rw [L_4]
      constructor
      · rintro ⟨u, v, rfl, rfl, h⟩; exact h
      · exact fun h => ⟨[], w, rfl, rfl, h⟩
    · have e : bd ⟨5, s, l⟩ b = bdU l ⟨false, [], []⟩ b := by simp [bd]
      rw [e]
      obtain ⟨T, Q, h1, h2, h3, h4⟩ := bdU_made l ⟨false, [], []⟩ b [] (fun _ => False) b.S.length rng_none (fun U _ => rep_none (by simp) (by simp))
      refine ⟨T, Q, h1, h2, h3, fun U hU => (h4 U hU).congr fun w => ?_⟩
      rw [L_5]
      simp
    · have e : bd ⟨6, s, l⟩ b = bdS l b := by simp [bd]
      rw [e]
      match l with
      | [] =>
        refine ⟨[], [], by simp [bdS], by simp [bdS], rng_none, fun U _ => rep_none ⟨fun _ => L_6.2 .nil, fun _ => rfl⟩ (fun c w h => ?_)⟩
        rw [L_6, St_cons] at h
        obtain ⟨u, v, _, h, _⟩ := h
        simp [LH] at h
      | y :: l =>
        obtain ⟨T, Q, h1, h2, h3, h4⟩ := bd_made y b
        refine ⟨T, Q ++ prodP (bd y b).1.la (bd y b).1.fi, h1, ?_, ?_, fun U hU => ?_⟩
        · show (bd y b).2.P ++ _ = _
          rw [h2, List.append_assoc]
        · refine h3.star.edges fun p q => ?_
          unfold starE inQ
          rw [List.mem_append, mem_prodP]
        · refine ((h4 U hU).star.edges fun p q => ?_).congr fun w => ?_
          · unfold starE inQ
            rw [List.mem_append, mem_prodP]
          · rw [L_6]
            have : LH (y :: l) = L y := by funext w; simp [LH]
            rw [this]
    · have e : bd ⟨k, s, l⟩ b = (⟨false, [], []⟩, b) := by simp only [bd, beq_f h2, beq_f h3, beq_f h4, beq_f h5, beq_f h6, cond_false]
      rw [e]
      exact ⟨[], [], by simp, by simp, rng_none, fun U _ => rep_none ⟨fun h => (by cases h), fun h => absurd h (L_0 h2 h3 h4 h5 h6)⟩ (fun b w h => absurd h (L_0 h2 h3 h4 h5 h6))⟩
theorem bdC_made : ∀ (l : List T_Regex) (x : Pt) (b : Bs) (Q0 : List (Nat × Nat)) (G : List Nat → Prop) (a : Nat), Rng (inQ Q0) x a b.S.length → (∀ U, (∃ V, U = b.S ++ V) → Rep (inS U) (inQ Q0) x G) →
    ∃ T Q, (bdC l x b).2.S = b.S ++ T ∧ (bdC l x b).2.P = b.P ++ Q ∧ Rng (inQ (Q0 ++ Q)) (bdC l x b).1 a (bdC l x b).2.S.length ∧ ∀ U, (∃ V, U = (bdC l x b).2.S ++ V) → Rep (inS U) (inQ (Q0 ++ Q)) (bdC l x b).1 (fun w => ∃ u v, w = u ++ v ∧ G u ∧ LC l v)
  | [], x, b, Q0, G, a, hr, hp => by
    refine ⟨[], [], by simp [bdC], by simp [bdC], by simpa [bdC] using hr, fun U hU => ?_⟩
    have h := hp U (by simpa [bdC] using hU)
    simp only [List.append_nil, bdC]
    refine h.congr fun w => ⟨fun h => ⟨w, [], by simp, h, by simp [LC]⟩, ?_⟩
    rintro ⟨u, v, rfl, h1, h2⟩
    simp only [LC] at h2
    subst h2
    rw [List.append_nil]; exact h1
  | y :: l, x, b, Q0, G, a, hr, hp => by
    obtain ⟨T1, Q1, s1, p1, r1, l1⟩ := bd_made y b
    have he : ∀ p q, catE (inQ Q0) (inQ Q1) x (bd y b).1 p q ↔ inQ (Q0 ++ (Q1 ++ prodP x.la (bd y b).1.fi)) p q := by
      intro p q
      unfold catE inQ
      rw [List.mem_append, List.mem_append, mem_prodP, or_assoc]
    obtain ⟨T, Q, h1, h2, h3, h4⟩ := bdC_made l (catP x (bd y b).1) ⟨(bd y b).2.S, (bd y b).2.P ++ prodP x.la (bd y b).1.fi⟩ (Q0 ++ (Q1 ++ prodP x.la (bd y b).1.fi)) (fun w => ∃ u v, w = u ++ v ∧ G u ∧ L y v) a ((hr.cat r1).edges he)
      (fun U hU => ((hp U (by obtain ⟨V, rfl⟩ := hU; exact ⟨T1 ++ V, by simp only [s1, List.append_assoc]⟩)).cat (l1 U hU) hr r1).edges he)
    have e : bdC (y :: l) x b = bdC l (catP x (bd y b).1) ⟨(bd y b).2.S, (bd y b).2.P ++ prodP x.la (bd y b).1.fi⟩ := by simp only [bdC]
    rw [e]
    refine ⟨T1 ++ T, (Q1 ++ prodP x.la (bd y b).1.fi) ++ Q, by rw [h1]; simp only [s1, List.append_assoc], by rw [h2]; simp only [p1, List.append_assoc], by rw [← List.append_assoc]; exact h3, fun U hU => ?_⟩
    rw [← List.append_assoc]
    refine (h4 U hU).congr fun w => ?_
    simp only [LC]
    constructor
    · rintro ⟨u, v, rfl, ⟨u1, u2, rfl, g1, g2⟩, g3⟩
      exact ⟨u1, u2 ++ v, by simp, g1, u2, v, rfl, g2, g3⟩
    · rintro ⟨u, v, rfl, g1, v1, v2, rfl, g2, g3⟩
      exact ⟨u ++ v1, v2, by simp, ⟨u, v1, rfl, g1, g2⟩, g3⟩
theorem bdU_made : ∀ (l : List T_Regex) (x : Pt) (b : Bs) (Q0 : List (Nat × Nat)) (G : List Nat → Prop) (a : Nat), Rng (inQ Q0) x a b.S.length → (∀ U, (∃ V, U = b.S ++ V) → Rep (inS U) (inQ Q0) x G) →
    ∃ T Q, (bdU l x b).2.S = b.S ++ T ∧ (bdU l x b).2.P = b.P ++ Q ∧ Rng (inQ (Q0 ++ Q)) (bdU l x b).1 a (bdU l x b).2.S.length ∧ ∀ U, (∃ V, U = (bdU l x b).2.S ++ V) → Rep (inS U) (inQ (Q0 ++ Q)) (bdU l x b).1 (fun w => G w ∨ LU l w)
  | [], x, b, Q0, G, a, hr, hp => by
    refine ⟨[], [], by simp [bdU], by simp [bdU], by simpa [bdU] using hr, fun U hU => ?_⟩
    have h := hp U (by simpa [bdU] using hU)
    simp only [List.append_nil, bdU]
    exact h.congr fun w => by simp [LU]
  | y :: l, x, b, Q0, G, a, hr, hp => by
    obtain ⟨T1, Q1, s1, p1, r1, l1⟩ := bd_made y b
    have he : ∀ p q, uniE (inQ Q0) (inQ Q1) p q ↔ inQ (Q0 ++ Q1) p q := by
      intro p q
      unfold uniE inQ
      rw [List.mem_append]
    obtain ⟨T, Q, h1, h2, h3, h4⟩ := bdU_made l (uniP x (bd y b).1) (bd y b).2 (Q0 ++ Q1) (fun w => G w ∨ L y w) a ((hr.uni r1).edges he)
      (fun U hU => ((hp U (by obtain ⟨V, rfl⟩ := hU; exact ⟨T1 ++ V, by simp only [s1, List.append_assoc]⟩)).uni (l1 U hU) hr r1).edges he)
    have e : bdU (y :: l) x b = bdU l (uniP x (bd y b).1) (bd y b).2 := by simp only [bdU]
    rw [e]
    refine ⟨T1 ++ T, Q1 ++ Q, by rw [h1]; simp only [s1, List.append_assoc], by rw [h2]; simp only [p1, List.append_assoc], by rw [← List.append_assoc]; exact h3, fun U hU => ?_⟩
    rw [← List.append_assoc]
    refine (h4 U hU).congr fun w => ?_
    simp only [LU]
    rw [or_assoc]
end
end Go.Proofs.Ytajmekjcnbmaaaa
namespace Go.Proofs.Ytajmekjcnbmaaaa
open Go.Lx
def toI (l : List Nat) : List Int := l.map fun (n : Nat) => (n : Int)
theorem toI_len (l : List Nat) : (toI l).length = l.length := by simp [toI]
theorem toI_idx {l : List Nat} {i : Nat} (h : i < l.length) : idxL (toI l) (i : Int) = some (l[i] : Int) := by
  rw [idxL_nat (by rw [toI_len]; exact h)]; simp [toI]
theorem toI_app (a b : List Nat) : toI (a ++ b) = toI a ++ toI b := by simp [toI]
theorem parts_take {l : List T_Regex} {i : Nat} (hi : i < l.length) : partsL (l.take (i + 1)) = partsL (l.take i) + parts l[i] := by
  rw [List.take_add_one, List.getElem?_eq_getElem hi, partsL_append]
  simp [partsL]
theorem parts_take_le (l : List T_Regex) (i : Nat) : partsL (l.take i) ≤ partsL l := by
  have := partsL_append (l.take i) (l.drop i)
  rw [List.take_append_drop] at this
  omega
theorem nodes_loop {l : List T_Regex} {f : T_Regex → Option Int} (hf : ∀ y ∈ l, f y = some (parts y : Int)) (hl : partsL l ≤ 1000000000) {body : Int × Int → Option (Step (Int × Int) Int)}
    (hb : ∀ n i, body (n, i) = bif decide (i < (l.length : Int)) then (idxL l i).bind fun e => (f e).bind fun r => (chk .i64 (n + r)).bind fun t => (chk .i64 (i + 1)).bind fun u => some (.next (t, u)) else some (.stop n)) :
    loopM body fuel ((1 : Int), (0 : Int)) = some ((partsL l + 1 : Nat) : Int) := by
  refine Is.eq ?_
  have hlen := len_parts l
  refine Is.upto (fun i (st : Int × Int) => st.2 = (i : Int) ∧ st.1 = ((partsL (l.take i) + 1 : Nat) : Int)) l.length (by omega) ⟨rfl, by simp [partsL]⟩ ?_ ?_
  · rintro i ⟨n, _⟩ hi ⟨rfl, h1⟩
    obtain rfl : n = _ := h1
    have h2 := parts_take hi
    have h3 := parts_take_le l (i + 1)
    rw [hb]
    refine Is.dt (by omega) (Is.bnq (idxL_nat hi) (Is.bnq (hf _ (List.getElem_mem hi)) (Is.bnq (x := ((partsL (l.take (i + 1)) + 1 : Nat) : Int)) ?_ (Is.bnq (chk_succ (by omega)) (Is.next ⟨rfl, rfl⟩)))))
    rw [chk_i64 (by omega) (by omega), h2]; congr 1; omega
  · rintro ⟨n, _⟩ ⟨rfl, h1⟩
    obtain rfl : n = _ := h1
    rw [hb, List.take_length]
    exact Is.df (by omega) (Is.stop rfl)
theorem nodes_ok : ∀ (fl : Nat) (x : T_Regex), parts x < fl → parts x ≤ 1000000000 → M.nfa_nodes fl x = some (parts x : Int) := by
  intro fl
  induction fl with
  | zero => intro x h; omega
  | succ fl ih =>
    intro x h1 h2
    obtain ⟨k, s, l⟩ := x
    have h3 : parts ⟨k, s, l⟩ = partsL l + 1 := by simp [parts]
    rw [h3] at h1 h2
    unfold M.nfa_nodes
    refine bind_of (nodes_loop (l := l) (f := fun y => M.nfa_nodes fl y) (fun y hy => ih y (by have := parts_mem hy; omega) (by have := parts_mem hy; omega)) (by omega) (fun _ _ => rfl)) ?_
    rw [h3]
theorem refNodes_ok : ∀ (fl : Nat) (x : T_Regex), parts x < fl → parts x ≤ 1000000000 → M.ref09_Nodes fl x = some (parts x : Int) := by
  intro fl
  induction fl with
  | zero => intro x h; omega
  | succ fl ih =>
    intro x h1 h2
    obtain ⟨k, s, l⟩ := x
    have h3 : parts ⟨k, s, l⟩ = partsL l + 1 := by simp [parts]
    rw [h3] at h1 h2
    unfold M.ref09_Nodes
    refine bind_of (nodes_loop (l := l) (f := fun y => M.ref09_Nodes fl y) (fun y hy => ih y (by have := parts_mem hy; omega) (by have := parts_mem hy; omega)) (by omega) (fun _ _ => rfl)) ?_
    rw [h3]
mutual
theorem bd_len : ∀ (x : T_Regex) (b : Bs), (bd x b).1.fi.length ≤ parts x ∧ (bd x b).1.la.length ≤ parts x ∧ (bd x b).2.S.length ≤ b.S.length + parts x
  | ⟨k, s, l⟩, b => by
    simp only [parts, bd]
    refine ?_
    cases k == 3
    · cases k == 4
      · cases k == 5
        · cases k == 6
          · simp
          · match l with
            | [] => simp [bdS]
            | y :: l =>
              have h := bd_len y b
              simp only [cond_false, cond_true, bdS, partsL]
              omega
        · have h := bdU_len l ⟨false, [], []⟩ b
          simp only [cond_false, cond_true, List.length_nil] at h ⊢
          omega
      · have h := bdC_len l ⟨true, [], []⟩ b
        simp only [cond_false, cond_true, List.length_nil] at h ⊢
        omega
    · simp
theorem bdC_len : ∀ (l : List T_Regex) (x : Pt) (b : Bs), (bdC l x b).1.fi.length ≤ x.fi.length + partsL l ∧ (bdC l x b).1.la.length ≤ x.la.length + partsL l ∧ (bdC l x b).2.S.length ≤ b.S.length + partsL l
  | [], x, b => by simp [bdC]
  | y :: l, x, b => by
    have h := bd_len y b
    have h2 := bdC_len l (catP x (bd y b).1) ⟨(bd y b).2.S, (bd y b).2.P ++ prodP x.la (bd y b).1.fi⟩
    have h3 : (catP x (bd y b).1).fi.length ≤ x.fi.length + (bd y b).1.fi.length := by unfold catP; cases x.nl <;> simp
    have h4 : (catP x (bd y b).1).la.length ≤ x.la.length + (bd y b).1.la.length := by unfold catP; cases (bd y b).1.nl <;> simp
    simp only [bdC, partsL]
    simp only at h2
    omega
theorem bdU_len : ∀ (l : List T_Regex) (x : Pt) (b : Bs), (bdU l x b).1.fi.length ≤ x.fi.length + partsL l ∧ (bdU l x b).1.la.length ≤ x.la.length + partsL l ∧ (bdU l x b).2.S.length ≤ b.S.length + partsL l
  | [], x, b => by simp [bdU]
  | y :: l, x, b => by
    have h := bd_len y b
    have h2 := bdU_len l (uniP x (bd y b).1) (bd y b).2
    have h3 : (uniP x (bd y b).1).fi.length = x.fi.length + (bd y b).1.fi.length := by simp [uniP]
    have h4 : (uniP x (bd y b).1).la.length = x.la.length + (bd y b).1.la.length := by simp [uniP]
    simp only [bdU, partsL]
    omega
end
theorem bdC_snoc (y : T_Regex) : ∀ (l : List T_Regex) (x : Pt) (b : Bs), bdC (l ++ [y]) x b = (catP (bdC l x b).1 (bd y (bdC l x b).2).1, ⟨(bd y (bdC l x b).2).2.S, (bd y (bdC l x b).2).2.P ++ prodP (bdC l x b).1.la (bd y (bdC l x b).2).1.fi⟩)
  | [], x, b => by simp [bdC]
  | z :: l, x, b => by simp only [List.cons_append, bdC]; exact bdC_snoc y l _ _
theorem bdU_snoc (y : T_Regex) : ∀ (l : List T_Regex) (x : Pt) (b : Bs), bdU (l ++ [y]) x b = (uniP (bdU l x b).1 (bd y (bdU l x b).2).1, (bd y (bdU l x b).2).2)
  | [], x, b => by simp [bdU]
  | z :: l, x, b => by simp only [List.cons_append, bdU]; exact bdU_snoc y l _ _
theorem take_snoc {α : Type} {l : List α} {i : Nat} (h : i < l.length) : l.take (i + 1) = l.take i ++ [l[i]] := by rw [List.take_add_one, List.getElem?_eq_getElem h]; rfl
structure BehR (beh : List (List (Int × Bool))) (n : Nat) (R : Nat → Nat → Prop) : Prop where
  len : beh.length = n
  nd : ∀ (p : Nat) (m : List (Int × Bool)), beh[p]? = some m → (m.map (·.1)).Nodup
  mem : ∀ (p : Nat) (m : List (Int × Bool)), beh[p]? = some m → ∀ k : Int, k ∈ m.map (·.1) ↔ ∃ q : Nat, k = (q : Int) ∧ R p q
theorem BehR.congr {beh : List (List (Int × Bool))} {n : Nat} {R R' : Nat → Nat → Prop} (h : BehR beh n R) (e : ∀ p q, R p q ↔ R' p q) : BehR beh n R' := by
  have : R = R' := funext fun p => funext fun q => propext (e p q)
  rw [← this]; exact h
theorem mem_mset {m : List (Int × Bool)} {k a : Int} {v : Bool} : a ∈ (mset m k v).map (·.1) ↔ a ∈ m.map (·.1) ∨ a = k := by
  induction m with
  | nil => simp [mset]
  | cons p m ih =>
    unfold mset
    cases hp : p.1 == k
    · simp only [cond_false, List.map_cons, List.mem_cons, ih, or_assoc]
    · have e : p.1 = k := by simpa using hp
      simp only [cond_true, List.map_cons, List.mem_cons, e]
      constructor
      · rintro (h | h)
        · exact .inr h
        · exact .inl (.inr h)
      · rintro ((h | h) | h)
        · exact .inl h
        · exact .inr h
        · exact .inl h
theorem nodup_mset {m : List (Int × Bool)} {k : Int} {v : Bool} (h : (m.map (·.1)).Nodup) : ((mset m k v).map (·.1)).Nodup := by
  induction m with
  | nil => simp [mset]
  | cons p m ih =>
    rw [List.map_cons, List.nodup_cons] at h
    unfold mset
    cases hp : p.1 == k
    · have e : p.1 ≠ k := by simpa using hp
      rw [cond_false, List.map_cons, List.nodup_cons, mem_mset]
      exact ⟨fun hc => hc.elim h.1 e, ih h.2⟩
    · have e : p.1 = k := by simpa using hp
      rw [cond_true, List.map_cons, List.nodup_cons]
      exact ⟨by rw [← e]; exact h.1, h.2⟩
theorem BehR.put {beh : List (List (Int × Bool))} {n : Nat} {R : Nat → Nat → Prop} (h : BehR beh n R) {p q : Nat} {m : List (Int × Bool)} (hm : beh[p]? = some m) : BehR (beh.set p (mset m (q : Int) true)) n (fun a c => R a c ∨ (a = p ∧ c = q)) := by
  have hp := (List.getElem?_eq_some_iff.1 hm).1
  refine ⟨by rw [List.length_set]; exact h.len, fun a m' ha => ?_, fun a m' ha k => ?_⟩
  · rw [List.getElem?_set] at ha
    split at ha
    · cases ha
      exact nodup_mset (h.nd _ _ hm)
    · exact h.nd _ _ ha
  · rw [List.getElem?_set] at ha
    split at ha
    · rename_i e
      subst e
      cases ha
      rw [mem_mset, h.mem _ _ hm]
      constructor
      · rintro (⟨c, rfl, hc⟩ | rfl)
        · exact ⟨c, rfl, .inl hc⟩
        · exact ⟨q, rfl, .inr ⟨rfl, rfl⟩⟩
      · rintro ⟨c, rfl, hc | ⟨_, rfl⟩⟩
        · exact .inl ⟨c, rfl, hc⟩
        · exact .inr rfl
    · rename_i e
      rw [h.mem _ _ ha]
      constructor
      · rintro ⟨c, rfl, hc⟩; exact ⟨c, rfl, .inl hc⟩
      · rintro ⟨c, rfl, hc | ⟨rfl, _⟩⟩
        · exact ⟨c, rfl, hc⟩
        · exact absurd rfl e
theorem link_ok {S : List (Vec 4)} {beh : List (List (Int × Bool))} {n : Nat} {R : Nat → Nat → Prop} {fr to : List Nat} (h : BehR beh n R) (hf : ∀ p ∈ fr, p < n) (h1 : fr.length ≤ 1000000000) (h2 : to.length ≤ 1000000000) :
    Is (M.nfa_builder_link ⟨S, beh⟩ (toI fr) (toI to)) (fun r => r.sets = S ∧ BehR r.behind n (fun p q => R p q ∨ (p ∈ fr ∧ q ∈ to))) := by
  unfold M.nfa_builder_link
  refine Is.upto (fun i (st : List (List (Int × Bool)) × Int) => st.2 = (i : Int) ∧ BehR st.1 n (fun p q => R p q ∨ (p ∈ fr.take i ∧ q ∈ to))) fr.length (by omega) ⟨rfl, h.congr (by simp)⟩ ?_ ?_
  · rintro i ⟨bh, _⟩ hi ⟨rfl, hb⟩
    have hb : BehR bh n _ := hb
    have hpn := hf _ (List.getElem_mem hi)
    refine Is.dt (by rw [toI_len]; omega) (Is.bnd (P := fun bh' => BehR bh' n (fun p q => R p q ∨ (p ∈ fr.take (i + 1) ∧ q ∈ to))) (Is.bnq (toI_idx hi) ?_) (fun bh' hb' => Is.bnq (chk_succ (by omega)) (Is.next ⟨rfl, hb'⟩)))
    refine Is.upto (fun k (st : List (List (Int × Bool)) × Int) => st.2 = (k : Int) ∧ BehR st.1 n (fun p q => (R p q ∨ (p ∈ fr.take i ∧ q ∈ to)) ∨ (p = fr[i] ∧ q ∈ to.take k))) to.length (by omega) ⟨rfl, hb.congr (by simp)⟩ ?_ ?_
    · rintro k ⟨b2, _⟩ hk ⟨rfl, hb2⟩
      have hb2 : BehR b2 n _ := hb2
      have hl : fr[i] < b2.length := by rw [hb2.len]; exact hpn
      refine Is.dt (by rw [toI_len]; omega) (Is.bnq (toI_idx hk) (Is.bnq (idxL_nat hl) (Is.bnq (setL_nat hl) (Is.bnq (chk_succ (by omega)) (Is.next ⟨rfl, ?_⟩)))))
      refine (hb2.put (q := to[k]) (List.getElem?_eq_getElem hl)).congr fun p q => ?_
      rw [take_snoc hk, List.mem_append, List.mem_singleton]
      constructor
      · rintro ((h | ⟨h3, h4⟩) | ⟨h3, h4⟩)
        · exact .inl h
        · exact .inr ⟨h3, .inl h4⟩
        · exact .inr ⟨h3, .inr h4⟩
      · rintro (h | ⟨h3, h4 | h4⟩)
        · exact .inl (.inl h)
        · exact .inl (.inr ⟨h3, h4⟩)
        · exact .inr ⟨h3, h4⟩
    · rintro ⟨b2, _⟩ ⟨rfl, hb2⟩
      have hb2 : BehR b2 n _ := hb2
      refine Is.df (by rw [toI_len]; omega) (Is.stop (hb2.congr fun p q => ?_))
      rw [List.take_length, take_snoc hi, List.mem_append, List.mem_singleton]
      constructor
      · rintro ((h | ⟨h3, h4⟩) | ⟨h3, h4⟩)
        · exact .inl h
        · exact .inr ⟨.inl h3, h4⟩
        · exact .inr ⟨.inr h3, h4⟩
      · rintro (h | ⟨h3 | h3, h4⟩)
        · exact .inl (.inl h)
        · exact .inl (.inr ⟨h3, h4⟩)
        · exact .inr ⟨h3, h4⟩
  · rintro ⟨bh, _⟩ ⟨rfl, hb⟩
    rw [List.take_length] at hb
    exact Is.df (by rw [toI_len]; omega) (Is.stop ⟨rfl, hb⟩)
theorem concat_ok2 {a b : List Int} (h : a.length + b.length ≤ 1000000000) : M.slices_Concat_int_int [a, b] = some (a ++ b) := by
  have hlen : ([a, b] : List (List Int)).length = 2 := rfl
  refine Is.eq ?_
  unfold M.slices_Concat_int_int
  have hs : ∀ i, i ≤ 2 → ((([a, b] : List (List Int)).take i).map List.length).sum ≤ 1000000000 := by
    intro i hi
    match i, hi with
    | 0, _ => simp
    | 1, _ => simp; omega
    | 2, _ => simp; omega
  have hstep : ∀ i (hi : i < ([a, b] : List (List Int)).length), ((([a, b] : List (List Int)).take (i + 1)).map List.length).sum = ((([a, b] : List (List Int)).take i).map List.length).sum + ([a, b][i]).length := by
    intro i hi
    rw [take_snoc hi, List.map_append, List.sum_append]
    simp
  refine Is.bnq (x := ((a.length + b.length : Nat) : Int)) (Is.eq ?_) ?_
  · refine Is.upto (fun i (st : Int × Int) => st.2 = (i : Int) ∧ st.1 = (((([a, b] : List (List Int)).take i).map List.length).sum : Nat)) 2 (by omega) ⟨rfl, by simp⟩ ?_ ?_
    · rintro i ⟨n, _⟩ hi ⟨rfl, h1⟩
      obtain rfl : n = _ := h1
      have h3 := hs (i + 1) (by omega)
      have h4 := hstep i (by rw [hlen]; exact hi)
      refine Is.dt (by rw [hlen]; omega) (Is.bnq (x := (((([a, b] : List (List Int)).take (i + 1)).map List.length).sum : Nat)) (Is.eq ?_) (Is.bnq (chk_succ (by omega)) (Is.next ⟨rfl, rfl⟩)))
      refine Is.bnq (idxL_nat (by rw [hlen]; exact hi)) (Is.bnq (x := (((([a, b] : List (List Int)).take (i + 1)).map List.length).sum : Nat)) ?_ (Is.df (by omega) (Is.pure rfl)))
      rw [chk_i64 (by omega) (by omega), h4]; congr 1
    · rintro ⟨n, _⟩ ⟨rfl, h1⟩
      obtain rfl : n = _ := h1
      exact Is.df (by rw [hlen]; omega) (Is.stop (by simp))
  · refine Is.bnq (x := []) (by unfold M.slices_Grow_int_int growM; rw [if_pos ⟨rfl, by omega, by omega⟩]) (Is.bnq (x := a ++ b) (Is.eq ?_) (Is.pure rfl))
    refine Is.upto (fun i (st : List Int × Int) => st.2 = (i : Int) ∧ st.1 = (([a, b] : List (List Int)).take i).flatten) 2 (by omega) ⟨rfl, by simp⟩ ?_ ?_
    · rintro i ⟨n, _⟩ hi ⟨rfl, h1⟩
      obtain rfl : n = _ := h1
      have h3 := hs (i + 1) (by omega)
      have h4 := hstep i (by rw [hlen]; exact hi)
      have h5 : ((([a, b] : List (List Int)).take i).flatten).length = ((([a, b] : List (List Int)).take i).map List.length).sum := List.length_flatten
      refine Is.dt (by rw [hlen]; omega) (Is.bnq (idxL_nat (by rw [hlen]; exact hi)) (Is.bnq (appM_ok (by omega)) (Is.bnq (chk_succ (by omega)) (Is.next ⟨rfl, ?_⟩))))
      rw [take_snoc (by rw [hlen]; exact hi), List.flatten_append]
      simp
    · rintro ⟨n, _⟩ ⟨rfl, h1⟩
      obtain rfl : n = _ := h1
      exact Is.df (by rw [hlen]; omega) (Is.stop (by simp))
def ptI (x : Pt) : T_nfa_part := ⟨x.nl, toI x.fi, toI x.la⟩
def Ok9 (r : Pt × Bs) (v : T_nfa_part × T_nfa_builder) : Prop := v.1 = ptI r.1 ∧ v.2.sets = r.2.S ∧ BehR v.2.behind (r.2.S.length + 1) (inQ r.2.P)
theorem bd_bnd (x : T_Regex) (b : Bs) : (∀ p ∈ (bd x b).1.fi, p ≤ (bd x b).2.S.length) ∧ (∀ p ∈ (bd x b).1.la, p ≤ (bd x b).2.S.length) := by
  obtain ⟨T, Q, h⟩ := bd_made x b
  exact ⟨fun p hp => (h.rng.fi p hp).2, fun p hp => (h.rng.la p hp).2⟩
theorem bdC_bnd (l : List T_Regex) (b : Bs) : ∀ p ∈ (bdC l ⟨true, [], []⟩ b).1.la, p ≤ (bdC l ⟨true, [], []⟩ b).2.S.length := by
  obtain ⟨T, Q, _, _, h, _⟩ := bdC_made l ⟨true, [], []⟩ b [] (fun w => w = []) b.S.length rng_none (fun U _ => rep_none (by simp) (by simp))
  exact fun p hp => (h.la p hp).2
theorem bd_grow (x : T_Regex) (b : Bs) : b.S.length ≤ (bd x b).2.S.length := by
  obtain ⟨T, Q, h⟩ := bd_made x b
  exact h.rng.le
theorem behR_push {beh : List (List (Int × Bool))} {n : Nat} {R : Nat → Nat → Prop} (h : BehR beh n R) (hR : ∀ q, ¬ R n q) : BehR (beh ++ [[]]) (n + 1) R := by
  have hl := h.len
  refine ⟨by simp [hl], fun p m hp => ?_, fun p m hp k => ?_⟩
  · rw [List.getElem?_append] at hp
    split at hp
    · exact h.nd _ _ hp
    · rw [List.getElem?_singleton] at hp
      split at hp <;> cases hp
      simp
  · rw [List.getElem?_append] at hp
    split at hp
    · exact h.mem _ _ hp k
    · rw [List.getElem?_singleton] at hp
      split at hp <;> cases hp
      have : p = n := by omega
      subst this
      simp only [List.map_nil, List.not_mem_nil, false_iff]
      rintro ⟨q, _, h⟩
      exact hR q h
theorem V_kids {d : Nat} {k : Int} {s : Vec 4} {l : List T_Regex} (h : V (d + 1) ⟨k, s, l⟩ = true) : shape k s l.length = true ∧ ∀ y ∈ l, V d y = true := by
  simp only [V, Bool.and_eq_true, List.all_eq_true] at h
  exact h
theorem shape_six {s : Vec 4} {n : Nat} (h : shape 6 s n = true) : n = 1 := by
  simp only [shape] at h
  simp at h
  exact h.1
theorem shape_kind {k : Int} {s : Vec 4} {n : Nat} (h : shape k s n = true) : k = 1 ∨ k = 2 ∨ k = 3 ∨ k = 4 ∨ k = 5 ∨ k = 6 := by
  by_cases h1 : k = 1; · exact .inl h1
  by_cases h2 : k = 2; · exact .inr (.inl h2)
  by_cases h3 : k = 3; · exact .inr (.inr (.inl h3))
  by_cases h4 : k = 4; · exact .inr (.inr (.inr (.inl h4)))
  by_cases h5 : k = 5; · exact .inr (.inr (.inr (.inr (.inl h5))))
  by_cases h6 : k = 6; · exact .inr (.inr (.inr (.inr (.inr h6))))
  simp [shape, h1, h2, h3, h4, h5, h6] at h
def Cl9 (b : Bs) : Prop := ∀ p q, (p, q) ∈ b.P → p ≤ b.S.length ∧ q ≤ b.S.length
theorem bd_cl (x : T_Regex) {b : Bs} (h : Cl9 b) : Cl9 (bd x b).2 := by
  obtain ⟨T, Q, hm⟩ := bd_made x b
  intro p q hp
  rw [hm.P, List.mem_append] at hp
  rcases hp with hp | hp
  · have := h p q hp; have := hm.rng.le; omega
  · have := hm.rng.e p q hp; omega
theorem bdC_cl (l : List T_Regex) {b : Bs} (h : Cl9 b) : Cl9 (bdC l ⟨true, [], []⟩ b).2 := by
  obtain ⟨T, Q, h1, h2, h3, _⟩ := bdC_made l ⟨true, [], []⟩ b [] (fun w => w = []) b.S.length rng_none (fun U _ => rep_none (by simp) (by simp))
  intro p q hp
  rw [h2, List.mem_append] at hp
  rcases hp with hp | hp
  · have := h p q hp; have := h3.le; omega
  · have := h3.e p q (by unfold inQ; simpa using hp); omega
theorem bdU_cl (l : List T_Regex) {b : Bs} (h : Cl9 b) : Cl9 (bdU l ⟨false, [], []⟩ b).2 := by
  obtain ⟨T, Q, h1, h2, h3, _⟩ := bdU_made l ⟨false, [], []⟩ b [] (fun _ => False) b.S.length rng_none (fun U _ => rep_none (by simp) (by simp))
  intro p q hp
  rw [h2, List.mem_append] at hp
  rcases hp with hp | hp
  · have := h p q hp; have := h3.le; omega
  · have := h3.e p q (by unfold inQ; simpa using hp); omega
theorem expr_ok : ∀ (d fl : Nat) (x : T_Regex) (b : Bs) (beh : List (List (Int × Bool))), V d x = true → 2 * d + 1 ≤ fl → BehR beh (b.S.length + 1) (inQ b.P) → Cl9 b → b.S.length + parts x ≤ 100000 → Is (M.nfa_builder_expr fl ⟨b.S, beh⟩ x) (Ok9 (bd x b)) := by
  intro d
  induction d with
  | zero => intro fl x b beh h; simp [V] at h
  | succ d ih =>
    intro fl x b beh hV hfl hB hcl hsz
    obtain ⟨fl, rfl⟩ : ∃ f, fl = f + 1 + 1 := ⟨fl - 2, by omega⟩
    obtain ⟨k, s, l⟩ := x
    obtain ⟨hsh, hkid⟩ := V_kids hV
    have hparts : parts ⟨k, s, l⟩ = partsL l + 1 := by simp [parts]
    rw [hparts] at hsz
    have hll := len_parts l
    unfold M.nfa_builder_expr
    rcases shape_kind hsh with rfl | rfl | rfl | rfl | rfl | rfl
    · refine Is.cf rfl (Is.cf rfl (Is.cf rfl (Is.cf rfl (Is.cf rfl (Is.ct rfl (Is.bnq (x := (ptI ⟨false, [], []⟩, ⟨b.S, beh⟩)) rfl (Is.pure ?_)))))))
      exact ⟨rfl, rfl, hB⟩
    · refine Is.cf rfl (Is.cf rfl (Is.cf rfl (Is.cf rfl (Is.ct rfl (Is.bnq (x := (ptI ⟨true, [], []⟩, ⟨b.S, beh⟩)) rfl (Is.pure ?_))))))
      exact ⟨rfl, rfl, hB⟩
    · have e : bd ⟨3, s, l⟩ b = (⟨false, [b.S.length + 1], [b.S.length + 1]⟩, ⟨b.S ++ [s], b.P⟩) := by simp [bd]
      refine Is.cf rfl (Is.cf rfl (Is.cf rfl (Is.ct rfl ?_)))
      rw [e]
      have hbl := hB.len
      refine Is.bnq (x := (ptI ⟨false, [b.S.length + 1], [b.S.length + 1]⟩, ⟨b.S ++ [s], beh ++ [[]]⟩)) (Is.eq ?_) (Is.pure ⟨rfl, rfl, ?_⟩)
      · unfold M.nfa_builder_set
        refine Is.bnq (appM_ok (by simp only [List.length_singleton]; omega)) (Is.bnq (appM_ok (by simp only [List.length_singleton]; omega)) (Is.pure ?_))
        simp [ptI, toI]
      · have := behR_push hB (fun q h => by have := hcl _ _ h; omega)
        simpa using this
    · have e : bd ⟨4, s, l⟩ b = bdC l ⟨true, [], []⟩ b := by simp [bd]
      refine Is.cf rfl (Is.cf rfl (Is.ct rfl ?_))
      rw [e]
      refine Is.bnd (P := Ok9 (bdC l ⟨true, [], []⟩ b)) ?_ (fun v hv => Is.pure hv)
      unfold M.nfa_builder_concat
      refine Is.bnd (P := fun (v : Bool × List Int × List Int × List (Vec 4) × List (List (Int × Bool))) => Ok9 (bdC l ⟨true, [], []⟩ b) (⟨v.1, v.2.1, v.2.2.1⟩, ⟨v.2.2.2.1, v.2.2.2.2⟩)) ?_ (fun v hv => Is.pure hv)
      refine Is.upto (fun i (st : List (Vec 4) × List (List (Int × Bool)) × Bool × List Int × List Int × Int) => st.2.2.2.2.2 = (i : Int) ∧ Ok9 (bdC (l.take i) ⟨true, [], []⟩ b) (⟨st.2.2.1, st.2.2.2.1, st.2.2.2.2.1⟩, ⟨st.1, st.2.1⟩)) l.length (by omega) ⟨rfl, by simp [bdC, Ok9, ptI, toI, hB]⟩ ?_ ?_
      · rintro i ⟨S, bh, n, fi, la, _⟩ hi ⟨rfl, h1, h2, h3⟩
        simp only at h1 h2 h3
        obtain ⟨rfl, rfl, rfl⟩ : n = (bdC (l.take i) ⟨true, [], []⟩ b).1.nl ∧ fi = toI (bdC (l.take i) ⟨true, [], []⟩ b).1.fi ∧ la = toI (bdC (l.take i) ⟨true, [], []⟩ b).1.la := by
          unfold ptI at h1; cases h1; exact ⟨rfl, rfl, rfl⟩
        subst h2
        have hq := bdC_len (l.take i) ⟨true, [], []⟩ b
        have hbn := bdC_bnd (l.take i) b
        have hcl2 := bdC_cl (l.take i) hcl
        have hpt := parts_take hi
        have hpl := parts_take_le l (i + 1)
        have hsn := bdC_snoc l[i] (l.take i) ⟨true, [], []⟩ b
        rw [← take_snoc hi] at hsn
        generalize bdC (l.take i) ⟨true, [], []⟩ b = r at h3 hq hbn hcl2 hsn
        simp only [List.length_nil] at hq
        have hy := bd_len l[i] r.2
        have hyb := bd_bnd l[i] r.2
        have hyg := bd_grow l[i] r.2
        refine Is.dt (show ((i : Nat) : Int) < (l.length : Int) by omega) (Is.bnq (idxL_nat hi) (Is.bnd (ih fl l[i] r.2 bh (hkid _ (List.getElem_mem hi)) (by omega) h3 hcl2 (by omega)) ?_))
        rintro ⟨vp, vb⟩ ⟨e1, e2, e3⟩
        simp only at e1 e2 e3
        subst e1
        obtain ⟨vs, vbh⟩ := vb
        simp only at e2 e3
        subst e2
        refine Is.bnd (link_ok e3 (fr := r.1.la) (to := (bd l[i] r.2).1.fi) (fun p hp => by have := hbn p hp; omega) (by omega) (by omega)) ?_
        rintro ⟨ws, wbh⟩ ⟨f1, f2⟩
        simp only at f1 f2
        subst f1
        refine Is.bnq (x := toI (catP r.1 (bd l[i] r.2).1).fi) (Is.eq (Is.cnd (fun hn => ?_) (fun hn => ?_))) ?_
        · refine Is.bnq (concat_ok2 (by simp only [ptI, toI_len]; omega)) (Is.pure ?_)
          unfold catP ptI
          rw [hn, cond_true, toI_app]
        · refine Is.pure ?_
          unfold catP
          rw [hn, cond_false]
        refine Is.bnq (x := toI (catP r.1 (bd l[i] r.2).1).la) (Is.eq (Is.cnd (fun hn => ?_) (fun hn => ?_))) ?_
        · have hn : (bd l[i] r.2).1.nl = true := hn
          refine Is.bnq (concat_ok2 (by simp only [ptI, toI_len]; omega)) (Is.pure ?_)
          unfold catP ptI
          rw [hn, cond_true, toI_app]
        · have hn : (bd l[i] r.2).1.nl = false := hn
          refine Is.pure ?_
          unfold catP ptI
          rw [hn, cond_false]
        have hfin : BehR wbh ((bdC (l.take (i + 1)) ⟨true, [], []⟩ b).2.S.length + 1) (inQ (bdC (l.take (i + 1)) ⟨true, [], []⟩ b).2.P) := by
          rw [hsn]
          refine f2.congr fun p q => ?_
          unfold inQ
          rw [List.mem_append, mem_prodP]
        refine Is.cnd (fun hn => ?_) (fun hn => ?_)
        · refine Is.bnq (chk_succ (by omega)) (Is.next ⟨rfl, ?_, ?_, hfin⟩)
          · rw [hsn]; unfold ptI catP; rw [hn]; rfl
          · rw [hsn]
        · refine Is.bnq (chk_succ (by omega)) (Is.next ⟨rfl, ?_, ?_, hfin⟩)
          · rw [hsn]; unfold ptI catP; rw [hn]; rfl
          · rw [hsn]
      · rintro ⟨S, bh, n, fi, la, _⟩ ⟨rfl, h1⟩
        rw [List.take_length] at h1
        exact Is.df (show ¬ ((l.length : Nat) : Int) < (l.length : Int) by omega) (Is.stop h1)
    · have e : bd ⟨5, s, l⟩ b = bdU l ⟨false, [], []⟩ b := by simp [bd]
      refine Is.cf rfl (Is.ct rfl ?_)
      rw [e]
      refine Is.bnd (P := Ok9 (bdU l ⟨false, [], []⟩ b)) ?_ (fun v hv => Is.pure hv)
      unfold M.nfa_builder_union
      refine Is.bnd (P := fun (v : Bool × List Int × List Int × List (Vec 4) × List (List (Int × Bool))) => Ok9 (bdU l ⟨false, [], []⟩ b) (⟨v.1, v.2.1, v.2.2.1⟩, ⟨v.2.2.2.1, v.2.2.2.2⟩)) ?_ (fun v hv => Is.pure hv)
      refine Is.upto (fun i (st : List (Vec 4) × List (List (Int × Bool)) × Bool × List Int × List Int × Int) => st.2.2.2.2.2 = (i : Int) ∧ Ok9 (bdU (l.take i) ⟨false, [], []⟩ b) (⟨st.2.2.1, st.2.2.2.1, st.2.2.2.2.1⟩, ⟨st.1, st.2.1⟩)) l.length (by omega) ⟨rfl, by simp [bdU, Ok9, ptI, toI, hB]⟩ ?_ ?_
      · rintro i ⟨S, bh, n, fi, la, _⟩ hi ⟨rfl, h1, h2, h3⟩
        simp only at h1 h2 h3
        obtain ⟨rfl, rfl, rfl⟩ : n = (bdU (l.take i) ⟨false, [], []⟩ b).1.nl ∧ fi = toI (bdU (l.take i) ⟨false, [], []⟩ b).1.fi ∧ la = toI (bdU (l.take i) ⟨false, [], []⟩ b).1.la := by
          unfold ptI at h1; cases h1; exact ⟨rfl, rfl, rfl⟩
        subst h2
        have hq := bdU_len (l.take i) ⟨false, [], []⟩ b
        have hcl2 := bdU_cl (l.take i) hcl
        have hpt := parts_take hi
        have hpl := parts_take_le l (i + 1)
        have hsn := bdU_snoc l[i] (l.take i) ⟨false, [], []⟩ b
        rw [← take_snoc hi] at hsn
        generalize bdU (l.take i) ⟨false, [], []⟩ b = r at h3 hq hcl2 hsn
        simp only [List.length_nil] at hq
        have hy := bd_len l[i] r.2
        refine Is.dt (show ((i : Nat) : Int) < (l.length : Int) by omega) (Is.bnq (idxL_nat hi) (Is.bnd (ih fl l[i] r.2 bh (hkid _ (List.getElem_mem hi)) (by omega) h3 hcl2 (by omega)) ?_))
        rintro ⟨vp, vb⟩ ⟨e1, e2, e3⟩
        simp only at e1 e2 e3
        subst e1
        have hc1 : M.slices_Concat_int_int [toI r.1.fi, (ptI (bd l[i] r.2).1).first] = some (toI (uniP r.1 (bd l[i] r.2).1).fi) := by
          rw [concat_ok2 (by simp only [ptI, toI_len]; omega)]
          unfold uniP ptI
          rw [toI_app]
        have hc2 : M.slices_Concat_int_int [toI r.1.la, (ptI (bd l[i] r.2).1).last] = some (toI (uniP r.1 (bd l[i] r.2).1).la) := by
          rw [concat_ok2 (by simp only [ptI, toI_len]; omega)]
          unfold uniP ptI
          rw [toI_app]
        refine Is.cnd (fun hn => ?_) (fun hn => ?_)
        · refine Is.bnq hc1 (Is.bnq hc2 (Is.bnq (chk_succ (by omega)) (Is.next ⟨rfl, ?_, ?_, ?_⟩)))
          · rw [hsn]; unfold ptI uniP; rw [hn]; rfl
          · rw [hsn]; exact e2
          · rw [hsn]; exact e3
        · refine Is.bnq hc1 (Is.bnq hc2 (Is.bnq (chk_succ (by omega)) (Is.next ⟨rfl, ?_, ?_, ?_⟩)))
          · rw [hsn]; unfold ptI uniP; rw [hn]; rfl
          · rw [hsn]; exact e2
          · rw [hsn]; exact e3
      · rintro ⟨S, bh, n, fi, la, _⟩ ⟨rfl, h1⟩
        rw [List.take_length] at h1
        exact Is.df (show ¬ ((l.length : Nat) : Int) < (l.length : Int) by omega) (Is.stop h1)
    · have h1 := shape_six hsh
      match l, h1 with
      | [y], _ =>
        have e : bd ⟨6, s, [y]⟩ b = (⟨true, (bd y b).1.fi, (bd y b).1.la⟩, ⟨(bd y b).2.S, (bd y b).2.P ++ prodP (bd y b).1.la (bd y b).1.fi⟩) := by simp [bd, bdS]
        refine Is.ct rfl ?_
        rw [e]
        refine Is.bnd (P := Ok9 (⟨true, (bd y b).1.fi, (bd y b).1.la⟩, ⟨(bd y b).2.S, (bd y b).2.P ++ prodP (bd y b).1.la (bd y b).1.fi⟩)) ?_ (fun v hv => Is.pure hv)
        unfold M.nfa_builder_star
        simp only [partsL] at hsz
        have hy := bd_len y b
        have hyb := bd_bnd y b
        refine Is.bnq (x := y) rfl (Is.bnd (ih fl y b beh (hkid y (by simp)) (by omega) hB hcl (by omega)) ?_)
        rintro ⟨vp, vb⟩ ⟨e1, e2, e3⟩
        simp only at e1 e2 e3
        subst e1
        obtain ⟨vs, vbh⟩ := vb
        simp only at e2 e3
        subst e2
        refine Is.bnd (link_ok e3 (fr := (bd y b).1.la) (to := (bd y b).1.fi) (fun p hp => by have := hyb.2 p hp; omega) (by omega) (by omega)) ?_
        rintro ⟨ws, wbh⟩ ⟨f1, f2⟩
        simp only at f1 f2
        subst f1
        refine Is.pure ⟨rfl, rfl, f2.congr fun p q => ?_⟩
        unfold inQ
        rw [List.mem_append, mem_prodP]
end Go.Proofs.Ytajmekjcnbmaaaa
set_option linter.unusedVariables false
namespace Go.Proofs.Ytajmekjcnbmaaaa
open Go.Lx
def D (σ : Nat → List Bool) : Nat → List (List Bool) | 0 => [] | i + 1 => bif (D σ i).contains (σ i) then D σ i else D σ i ++ [σ i]
def b2i (b : Bool) : Int := bif b then 1 else 0
def key (s : List Bool) : Str := toStr (s.map b2i)
def enc : List (List Bool) → Nat → List (Str × Int) | [], _ => [] | s :: L, k => (key s, (k : Int)) :: enc L (k + 1)
end Go.Proofs.Ytajmekjcnbmaaaa
namespace Go.Proofs.Ytajmekjcnbmaaaa
open Go.Lx
def Mk (m : List Bool) (i : Int) : Prop := 0 ≤ i ∧ m[i.toNat]? = some true
theorem Mk.lt {m : List Bool} {i : Int} (h : Mk m i) : i < m.length := by
  have := (List.getElem?_eq_some_iff.1 h.2).1
  have := h.1
  omega
theorem mk_nat {m : List Bool} {i : Nat} : Mk m (i : Int) ↔ m[i]? = some true := by
  unfold Mk
  rw [Int.toNat_natCast]
  exact ⟨fun h => h.2, fun h => ⟨by omega, h⟩⟩
theorem idx_mk {m : List Bool} {i : Int} (h0 : 0 ≤ i) (h1 : i < m.length) : ∃ b, idxL m i = some b ∧ (b = true ↔ Mk m i) := by
  obtain ⟨k, rfl⟩ := Int.eq_ofNat_of_zero_le h0
  have hk : k < m.length := by omega
  refine ⟨m[k], idxL_nat hk, ?_⟩
  rw [mk_nat, List.getElem?_eq_getElem hk]
  simp
def mark (m : List Bool) (i : Int) : List Bool := m.set i.toNat true
theorem mark_len {m : List Bool} {i : Int} : (mark m i).length = m.length := by simp [mark]
theorem mk_mark {m : List Bool} {i j : Int} (h0 : 0 ≤ i) (h1 : i < m.length) : Mk (mark m i) j ↔ j = i ∨ Mk m j := by
  unfold Mk mark
  rw [List.getElem?_set]
  constructor
  · rintro ⟨h2, h3⟩
    by_cases e : j = i
    · exact .inl e
    · rw [if_neg (by omega)] at h3
      exact .inr ⟨h2, h3⟩
  · rintro (rfl | ⟨h2, h3⟩)
    · exact ⟨h0, by rw [if_pos rfl, if_pos (by omega)]⟩
    · refine ⟨h2, ?_⟩
      split
      · rw [if_pos (by omega)]
      · exact h3
def cf (m : List Bool) : Nat := m.count false
theorem cf_le (m : List Bool) : cf m ≤ m.length := List.count_le_length
theorem cf_mark {m : List Bool} {i : Int} (h0 : 0 ≤ i) (h1 : i < m.length) (h : ¬ Mk m i) : cf (mark m i) + 1 = cf m := by
  obtain ⟨k, rfl⟩ := Int.eq_ofNat_of_zero_le h0
  have hk : k < m.length := by omega
  rw [mk_nat, List.getElem?_eq_getElem hk] at h
  have hf : m[k] = false := by
    cases hb : m[k]
    · rfl
    · rw [hb] at h; exact absurd rfl h
  unfold cf mark
  rw [Int.toNat_natCast, List.count_set hk, hf]
  have : 0 < m.count false := by
    rw [List.count_pos_iff, ← hf]
    exact List.getElem_mem hk
  simp
  omega
def idxs (m : List Bool) : List Int := ((List.range m.length).filter fun i => m[i]?.getD false).map fun (i : Nat) => (i : Int)
theorem idxs_loop {m : List Bool} (hm : m.length ≤ 1000000000) {ρ : Type} {X : List Int → ρ} {body : List Int × Int → Option (Step (List Int × Int) ρ)}
    (hb : ∀ a i, body (a, i) = bif decide (i < (m.length : Int)) then ((idxL m i).bind fun e => bif e then (appM 8 a [i]).bind fun l => some l else some a).bind fun l => (chk .i64 (i + 1)).bind fun t => some (.next (l, t)) else some (.stop (X a))) :
    loopM body fuel (([] : List Int), (0 : Int)) = some (X (idxs m)) := by
  refine Is.eq ?_
  refine Is.upto (fun i (st : List Int × Int) => st.2 = (i : Int) ∧ st.1 = ((List.range i).filter fun i => m[i]?.getD false).map fun (i : Nat) => (i : Int)) m.length (by omega) ⟨rfl, rfl⟩ ?_ ?_
  · rintro i ⟨a, _⟩ hi ⟨rfl, h1⟩
    obtain rfl : a = _ := h1
    rw [hb]
    refine Is.dt (by omega) ?_
    have hl : (((List.range i).filter fun i => m[i]?.getD false).map fun (i : Nat) => (i : Int)).length ≤ i := by
      rw [List.length_map]
      exact Nat.le_trans (List.length_filter_le _ _) (by simp)
    refine Is.bnd (P := fun l => l = ((List.range (i + 1)).filter fun i => m[i]?.getD false).map fun (i : Nat) => (i : Int)) ?_ fun l hl => Is.bnq (chk_succ (by omega)) (Is.next ⟨rfl, hl⟩)
    refine Is.bnq (idxL_nat hi) ?_
    rw [List.range_succ, List.filter_append, List.map_append]
    refine Is.cnd (fun h => ?_) (fun h => ?_)
    · refine Is.bnq (appM_ok (by simp only [List.length_singleton]; omega)) (Is.pure ?_)
      simp [hi, h]
    · refine Is.pure ?_
      simp [hi, h]
  · rintro ⟨a, _⟩ ⟨rfl, h1⟩
    obtain rfl : a = _ := h1
    rw [hb]
    exact Is.df (by omega) (Is.stop rfl)
theorem sorted_ok {m : List Bool} (hm : m.length ≤ 1000000000) : M.nfa_sorted m = some (idxs m) := by
  unfold M.nfa_sorted
  exact bind_of (idxs_loop hm (X := fun a => a) (fun _ _ => rfl)) rfl
structure FitN (n : T_NFA) : Prop where
  pos : 1 ≤ n.States
  most : n.States ≤ 2000
  start : 0 ≤ n.Start ∧ n.Start < n.States
  acc : (n.Accept.length : Int) = n.States
  low : ∀ x ∈ n.Accept, -1 ≤ x
  arcs : ∀ a ∈ n.Arcs, (0 ≤ a.From ∧ a.From < n.States) ∧ (0 ≤ a.To ∧ a.To < n.States) ∧ (a.Epsilon = true → a.Set = Vec.zero 4)
  len : n.Arcs.length ≤ 1000000000
  sets : ∀ a ∈ n.Arcs, W4 a.Set
inductive Rch (n : T_NFA) (S : List Int) : Int → Prop where
  | base {s : Int} : s ∈ S → 0 ≤ s → s < n.States → Rch n S s
  | arc {a : T_NFAArc} : a ∈ n.Arcs → a.Epsilon = true → Rch n S a.From → Rch n S a.To
theorem Rch.lt {n : T_NFA} (hn : FitN n) {S : List Int} {s : Int} (h : Rch n S s) : 0 ≤ s ∧ s < n.States := by
  cases h with
  | base _ h0 h1 => exact ⟨h0, h1⟩
  | arc ha _ _ => exact (hn.arcs _ ha).2.1
open Classical in
noncomputable def clo (n : T_NFA) (S : List Int) : List Int := ((List.range n.States.toNat).filter fun i => decide (Rch n S ((i : Nat) : Int))).map fun (i : Nat) => (i : Int)
open Classical in
theorem mem_clo {n : T_NFA} (hn : FitN n) {S : List Int} {s : Int} : s ∈ clo n S ↔ Rch n S s := by
  unfold clo
  rw [List.mem_map]
  constructor
  · rintro ⟨k, hk, rfl⟩
    exact of_decide_eq_true (List.mem_filter.1 hk).2
  · intro h
    have := h.lt hn
    obtain ⟨k, rfl⟩ := Int.eq_ofNat_of_zero_le this.1
    exact ⟨k, List.mem_filter.2 ⟨List.mem_range.2 (by omega), decide_eq_true h⟩, rfl⟩
theorem clo_len (n : T_NFA) (S : List Int) : (clo n S).length ≤ n.States.toNat := by
  unfold clo
  rw [List.length_map]
  exact Nat.le_trans (List.length_filter_le _ _) (by simp)
open Classical in
theorem idxs_clo {n : T_NFA} {S : List Int} {m : List Bool} (hl : m.length = n.States.toNat) (h : ∀ s : Int, Mk m s ↔ Rch n S s) : idxs m = clo n S := by
  unfold idxs clo
  rw [hl]
  congr 1
  refine List.filter_congr fun i hi => ?_
  rw [List.mem_range] at hi
  have hi' : i < m.length := by omega
  have := h i
  rw [mk_nat, List.getElem?_eq_getElem hi'] at this
  rw [List.getElem?_eq_getElem hi', Option.getD_some]
  by_cases hr : Rch n S i
  · rw [decide_eq_true hr]
    have := this.2 hr
    simpa using this
  · rw [decide_eq_false hr]
    cases hb : m[i]
    · rfl
    · exact absurd (this.1 (by rw [hb])) hr
theorem mk_replicate {k : Nat} {s : Int} : ¬ Mk (List.replicate k false) s := by
  rintro ⟨_, h⟩
  rw [List.getElem?_replicate] at h
  split at h <;> simp at h
def Shut (n : T_NFA) (m : List Bool) (s : Int) : Prop := ∀ a ∈ n.Arcs, a.Epsilon = true → a.From = s → Mk m a.To
theorem shut_all {n : T_NFA} {S : List Int} {m : List Bool} (h1 : ∀ s ∈ S, 0 ≤ s → s < n.States → Mk m s) (h2 : ∀ s, Mk m s → Shut n m s) : ∀ s, Rch n S s → Mk m s := by
  intro s h
  induction h with
  | base hs h0 h1' => exact h1 _ hs h0 h1'
  | arc ha he _ ih => exact h2 _ ih _ ha he rfl
structure Wk (n : T_NFA) (S : List Int) (m : List Bool) (todo : List Int) : Prop where
  len : m.length = n.States.toNat
  sound : ∀ s, Mk m s → Rch n S s
  marked : ∀ s ∈ todo, Mk m s
  room : todo.length + cf m ≤ n.States.toNat
section
variable {n : T_NFA} (hn : FitN n) {S : List Int}
include hn
theorem add_ok {m : List Bool} {todo : List Int} (h : Wk n S m todo) {t : Int} (ht : 0 ≤ t → t < n.States → Rch n S t) :
    ∃ m2 todo2, M.nfa_Closure_1 t n m todo = some (m2, todo2) ∧ Wk n S m2 todo2 ∧ (∀ s, Mk m s → Mk m2 s) ∧ (0 ≤ t → t < n.States → Mk m2 t) ∧ (∀ s ∈ todo, s ∈ todo2) ∧ (∀ s, Mk m2 s → Mk m s ∨ s ∈ todo2) ∧ 2 * cf m2 + todo2.length ≤ 2 * cf m + todo.length := by
  have hp := hn.pos
  have hm := hn.most
  unfold M.nfa_Closure_1
  have hl : (m.length : Int) = n.States := by rw [h.len]; omega
  by_cases hin : 0 ≤ t ∧ t < n.States
  · obtain ⟨b, hb, hbm⟩ := idx_mk (m := m) hin.1 (by omega)
    cases b with
    | true =>
      refine ⟨m, todo, ?_, h, fun _ h => h, fun _ _ => hbm.1 rfl, fun _ h => h, fun _ h => .inl h, Nat.le_refl _⟩
      exact bind_of (x := false) (by simp only [dec_t hin.1, dec_t hin.2, cond_true, hb, Option.bind_some, Bool.not_true]) rfl
    | false =>
      have hnm : ¬ Mk m t := fun hx => by have := hbm.2 hx; cases this
      have hc := cf_mark hin.1 (show t < m.length by omega) hnm
      have hmk : ∀ s, Mk (mark m t) s ↔ s = t ∨ Mk m s := fun s => mk_mark hin.1 (by omega)
      have hr := h.room
      refine ⟨mark m t, todo ++ [t], ?_, ⟨by rw [mark_len]; exact h.len, fun s hs => ?_, fun s hs => ?_, ?_⟩, fun s hs => (hmk s).2 (.inr hs), fun _ _ => (hmk t).2 (.inl rfl), fun s hs => List.mem_append_left _ hs, fun s hs => ?_, ?_⟩
      · refine bind_of (x := true) (by simp only [dec_t hin.1, dec_t hin.2, cond_true, hb, Option.bind_some, Bool.not_false]) ?_
        exact bind_of (setL_int hin.1 (by omega)) (bind_of (appM_ok (by simp only [List.length_singleton]; omega)) rfl)
      · rcases (hmk s).1 hs with rfl | hs
        · exact ht hin.1 hin.2
        · exact h.sound s hs
      · rcases List.mem_append.1 hs with hs | hs
        · exact (hmk s).2 (.inr (h.marked s hs))
        · exact (hmk s).2 (.inl (List.mem_singleton.1 hs))
      · simp only [List.length_append, List.length_singleton]; omega
      · rcases (hmk s).1 hs with rfl | hs
        · exact .inr (by simp)
        · exact .inl hs
      · simp only [List.length_append, List.length_singleton]; omega
  · refine ⟨m, todo, ?_, h, fun _ h => h, fun h0 h1 => absurd ⟨h0, h1⟩ hin, fun _ h => h, fun _ h => .inl h, Nat.le_refl _⟩
    refine bind_of (x := false) ?_ rfl
    by_cases h0 : 0 ≤ t
    · simp only [dec_t h0, dec_f (show ¬ t < n.States from fun h1 => hin ⟨h0, h1⟩), cond_true, cond_false]
    · simp only [dec_f h0, cond_false]
theorem closure_ok (hS : S.length ≤ 1000000000) : M.nfa_Closure n S = some (clo n S) := by
  have hp := hn.pos
  have hm := hn.most
  refine Is.eq ?_
  unfold M.nfa_Closure
  have e0 : mkM 1 n.States false = some (List.replicate n.States.toNat false) := by
    have := mkM_nat (B := 1) (n := n.States.toNat) (z := false) (by omega)
    rw [show ((n.States.toNat : Nat) : Int) = n.States by omega] at this
    exact this
  refine Is.bnq e0 ?_
  -- the states that are given
  refine Is.bnd (P := fun r : List Bool × List Int => Wk n S r.1 r.2 ∧ (∀ s ∈ S, 0 ≤ s → s < n.States → Mk r.1 s) ∧ (∀ s, Mk r.1 s → s ∈ r.2)) ?_ ?_
  · refine Is.upto (fun i (st : List Bool × List Int × Int) => st.2.2 = (i : Int) ∧ Wk n S st.1 st.2.1 ∧ (∀ s ∈ S.take i, 0 ≤ s → s < n.States → Mk st.1 s) ∧ (∀ s, Mk st.1 s → s ∈ st.2.1)) S.length (by omega)
      ⟨rfl, ⟨by simp, fun s hs => absurd hs mk_replicate, by simp, by simp [cf]⟩, by simp, fun s hs => absurd hs mk_replicate⟩ ?_ ?_
    · rintro i ⟨m, todo, _⟩ hi ⟨rfl, h1, h2, h3⟩
      refine Is.dt (by omega) (Is.bnq (idxL_nat hi) ?_)
      obtain ⟨m2, todo2, e, q1, q2, q3, q4, q5, _⟩ := add_ok hn h1 (t := S[i]) (fun h0 h1' => .base (List.getElem_mem hi) h0 h1')
      refine Is.bnq e (Is.bnq (chk_succ (by omega)) (Is.next ⟨rfl, q1, fun s hs h0 h1' => ?_, fun s hs => ?_⟩))
      · rw [List.take_add_one, List.getElem?_eq_getElem hi, List.mem_append] at hs
        rcases hs with hs | hs
        · exact q2 s (h2 s hs h0 h1')
        · obtain rfl : s = S[i] := by simpa using hs
          exact q3 h0 h1'
      · rcases q5 s hs with hs | hs
        · exact q4 s (h3 s hs)
        · exact hs
    · rintro ⟨m, todo, _⟩ ⟨rfl, h1, h2, h3⟩
      rw [List.take_length] at h2
      exact Is.df (by omega) (Is.stop ⟨h1, h2, h3⟩)
  rintro ⟨m0, todo0⟩ ⟨w0, s0, t0⟩
  simp only at w0 s0 t0
  -- the list that is worked off
  refine Is.bnd (P := fun m : List Bool => m.length = n.States.toNat ∧ ∀ s, Mk m s ↔ Rch n S s) ?_ fun m hm2 => Is.bnq (sorted_ok (by rw [hm2.1]; omega)) (Is.pure (idxs_clo hm2.1 hm2.2))
  refine Is.while (fun st : List Bool × List Int => Wk n S st.1 st.2 ∧ (∀ s ∈ S, 0 ≤ s → s < n.States → Mk st.1 s) ∧ (∀ s, Mk st.1 s → s ∈ st.2 ∨ Shut n st.1 s)) (fun st => 2 * cf st.1 + st.2.length) ⟨w0, s0, fun s hs => .inl (t0 s hs)⟩ ?_ ?_
  · have := w0.room
    have := cf_le m0
    have := w0.len
    show 2 * cf m0 + todo0.length ≤ _
    omega
  rintro ⟨m, todo⟩ ⟨h1, h2, h3⟩
  simp only at h1 h2 h3
  by_cases hz : todo = []
  · subst hz
    refine Is.df (by simp) (Is.stop ⟨h1.len, fun s => ⟨h1.sound s, shut_all h2 (fun s hs => ?_) s⟩⟩)
    rcases h3 s hs with h | h
    · cases h
    · exact h
  have hpos : 0 < todo.length := List.length_pos_iff.2 hz
  refine Is.dt (by omega) ?_
  have et : chk .i64 ((todo.length : Int) - 1) = some ((todo.length - 1 : Nat) : Int) := by
    have := h1.room
    rw [chk_i64 (by omega) (by omega)]
    congr 1
    omega
  have hlast : todo.length - 1 < todo.length := by omega
  have hsub : subL todo 0 ((todo.length - 1 : Nat) : Int) = some (todo.take (todo.length - 1)) := by
    unfold subL
    rw [if_pos ⟨by omega, by omega, by omega⟩]
    simp
  refine Is.bnq et (Is.bnq (idxL_nat hlast) (Is.bnq hsub ?_))
  generalize hse : todo[todo.length - 1] = s0
  have hs0 : Mk m s0 := h1.marked s0 (by rw [← hse]; exact List.getElem_mem hlast)
  have hsplit : ∀ s ∈ todo, s ∈ todo.take (todo.length - 1) ∨ s = s0 := by
    intro s hs
    obtain ⟨j, hj, rfl⟩ := List.mem_iff_getElem.1 hs
    by_cases e : j = todo.length - 1
    · right; subst e; exact hse
    · left
      rw [List.mem_iff_getElem]
      exact ⟨j, by simp; omega, by simp⟩
  have htl : (todo.take (todo.length - 1)).length = todo.length - 1 := by rw [List.length_take]; omega
  refine Is.mono (P := SP (fun st : List Bool × List Int => Wk n S st.1 st.2 ∧ (∀ s, Mk m s → Mk st.1 s) ∧ (∀ s, Mk st.1 s → s = s0 ∨ s ∈ st.2 ∨ Shut n st.1 s) ∧ Shut n st.1 s0 ∧ 2 * cf st.1 + st.2.length ≤ 2 * cf m + (todo.length - 1)) (fun _ => False)) ?_ ?_
  · refine Is.mono (P := fun r : Step (List Bool × List Int) (List Bool) => SP (fun st : List Bool × List Int => Wk n S st.1 st.2 ∧ (∀ s, Mk m s → Mk st.1 s) ∧ (∀ s, Mk st.1 s → s = s0 ∨ s ∈ st.2 ∨ Shut n st.1 s) ∧ Shut n st.1 s0 ∧ 2 * cf st.1 + st.2.length ≤ 2 * cf m + (todo.length - 1)) (fun _ => False) r) ?_ fun _ h => h
    refine Is.upto (Q := fun r : Step (List Bool × List Int) (List Bool) => SP (fun st : List Bool × List Int => Wk n S st.1 st.2 ∧ (∀ s, Mk m s → Mk st.1 s) ∧ (∀ s, Mk st.1 s → s = s0 ∨ s ∈ st.2 ∨ Shut n st.1 s) ∧ Shut n st.1 s0 ∧ 2 * cf st.1 + st.2.length ≤ 2 * cf m + (todo.length - 1)) (fun _ => False) r)
      (fun i (st : List Bool × List Int × Int) => st.2.2 = (i : Int) ∧ Wk n S st.1 st.2.1 ∧ (∀ s, Mk m s → Mk st.1 s) ∧ (∀ s, Mk st.1 s → s = s0 ∨ s ∈ st.2.1 ∨ Shut n st.1 s) ∧ (∀ a ∈ n.Arcs.take i, a.Epsilon = true → a.From = s0 → Mk st.1 a.To) ∧ 2 * cf st.1 + st.2.1.length ≤ 2 * cf m + (todo.length - 1)) n.Arcs.length (by have := hn.len; omega) ?_ ?_ ?_
    · refine ⟨rfl, ⟨h1.len, h1.sound, fun s hs => h1.marked s (List.mem_of_mem_take hs), ?_⟩, fun _ h => h, fun s hs => ?_, by simp, Nat.add_le_add_left (Nat.le_of_eq htl) _⟩
      · have := h1.room
        have e : (todo.take (todo.length - 1)).length + cf m ≤ n.States.toNat := by rw [htl]; omega
        exact e
      · rcases h3 s hs with h | h
        · rcases hsplit s h with h | h
          · exact .inr (.inl h)
          · exact .inl h
        · exact .inr (.inr h)
    · rintro i ⟨m1, todo1, _⟩ hi ⟨rfl, g1, g2, g3, g4, g5⟩
      simp only at g1 g2 g3 g4 g5
      have ha := List.getElem_mem hi
      refine Is.dt (by omega) ?_
      refine Is.bnd (P := fun st : List Bool × List Int => Wk n S st.1 st.2 ∧ (∀ s, Mk m1 s → Mk st.1 s) ∧ (∀ s ∈ todo1, s ∈ st.2) ∧ (∀ s, Mk st.1 s → Mk m1 s ∨ s ∈ st.2) ∧ (n.Arcs[i].Epsilon = true → n.Arcs[i].From = s0 → Mk st.1 n.Arcs[i].To) ∧ 2 * cf st.1 + st.2.length ≤ 2 * cf m1 + todo1.length) ?_ ?_
      · refine Is.bnq (idxL_nat hi) ?_
        refine Is.bnd (P := fun b : Bool => b = true ↔ n.Arcs[i].Epsilon = true ∧ n.Arcs[i].From = s0) ?_ fun b hb => ?_
        · refine Is.cnd (fun h => Is.pure ?_) (fun h => Is.pure ?_)
          · rw [beq_iff_eq, h]; exact ⟨fun h => ⟨rfl, h⟩, fun h => h.2⟩
          · rw [h]; simp
        · refine Is.cnd (fun h => ?_) (fun h => ?_)
          · obtain ⟨q1, q2⟩ := hb.1 h
            obtain ⟨m2, todo2, e, r1, r2, r3, r4, r5, r6⟩ := add_ok hn g1 (t := n.Arcs[i].To) (fun _ _ => .arc ha q1 (by rw [q2]; exact g1.sound _ (g2 _ hs0)))
            have hto := (hn.arcs _ ha).2.1
            exact Is.bnq e (Is.pure ⟨r1, r2, r4, r5, fun _ _ => r3 hto.1 hto.2, r6⟩)
          · exact Is.pure ⟨g1, fun _ h => h, fun _ h => h, fun _ h => .inl h, fun q1 q2 => (by have := hb.2 ⟨q1, q2⟩; rw [h] at this; cases this), Nat.le_refl _⟩
      · rintro ⟨m2, todo2⟩ ⟨r1, r2, r3, r4, r5, r6⟩
        simp only at r1 r2 r3 r4 r5 r6
        refine Is.bnq (chk_succ (by have := hn.len; omega)) (Is.next ⟨rfl, r1, fun s hs => r2 s (g2 s hs), fun s hs => ?_, fun a hat q1 q2 => ?_, by show 2 * cf m2 + todo2.length ≤ _; omega⟩)
        · rcases r4 s hs with h | h
          · rcases g3 s h with h | h | h
            · exact .inl h
            · exact .inr (.inl (r3 s h))
            · exact .inr (.inr fun a ha he hf => r2 _ (h a ha he hf))
          · exact .inr (.inl h)
        · rw [List.take_add_one, List.getElem?_eq_getElem hi, List.mem_append] at hat
          rcases hat with hat | hat
          · exact r2 _ (g4 a hat q1 q2)
          · obtain rfl : a = n.Arcs[i] := by simpa using hat
            exact r5 q1 q2
    · rintro ⟨m1, todo1, _⟩ ⟨rfl, g1, g2, g3, g4, g5⟩
      rw [List.take_length] at g4
      exact Is.df (by omega) (Is.stop ⟨g1, g2, g3, g4, g5⟩)
  · rintro (⟨m1, todo1⟩ | r) hr
    · obtain ⟨g1, g2, g3, g4, g5⟩ := hr
      simp only at g1 g2 g3 g4 g5
      refine ⟨⟨g1, fun s hs h0 h1' => g2 _ (h2 s hs h0 h1'), fun s hs => ?_⟩, by show 2 * cf m1 + todo1.length < 2 * cf m + todo.length; omega⟩
      rcases g3 s hs with rfl | h | h
      · exact .inr g4
      · exact .inl h
      · exact .inr h
    · exact hr.elim
end
end Go.Proofs.Ytajmekjcnbmaaaa
namespace Go.Proofs.Ytajmekjcnbmaaaa
open Go.Lx
section
variable {n : T_NFA} (hn : FitN n) {S : List Int}
include hn
theorem make_marks : mkM 1 n.States false = some (List.replicate n.States.toNat false) := by
  have hp := hn.pos
  have hm := hn.most
  have := mkM_nat (B := 1) (n := n.States.toNat) (z := false) (by omega)
  rw [show ((n.States.toNat : Nat) : Int) = n.States by omega] at this
  exact this
omit hn in
theorem marks_loop {N : Nat} {l : List Int} (hl : ∀ s ∈ l, 0 ≤ s ∧ s < N) (hlen : l.length ≤ 1000000000) {body : List Bool × Int → Option (Step (List Bool × Int) (List Bool))}
    (hb : ∀ m i, body (m, i) = bif decide (i < (l.length : Int)) then (idxL l i).bind fun e => (setL m e true).bind fun m2 => (chk .i64 (i + 1)).bind fun t => some (.next (m2, t)) else some (.stop m)) :
    Is (loopM body fuel (List.replicate N false, (0 : Int))) fun m => m.length = N ∧ ∀ s, Mk m s ↔ s ∈ l := by
  refine Is.upto (fun i (st : List Bool × Int) => st.2 = (i : Int) ∧ st.1.length = N ∧ ∀ s, Mk st.1 s ↔ s ∈ l.take i) l.length (by omega) ⟨rfl, by simp, fun s => ⟨fun h => absurd h mk_replicate, fun h => by simp at h⟩⟩ ?_ ?_
  · rintro i ⟨m, _⟩ hi ⟨rfl, h1, h2⟩
    simp only at h1 h2
    have he := hl l[i] (List.getElem_mem hi)
    rw [hb]
    refine Is.dt (by omega) (Is.bnq (idxL_nat hi) (Is.bnq (setL_int he.1 (by omega)) (Is.bnq (chk_succ (by omega)) (Is.next ⟨rfl, by rw [List.length_set]; exact h1, fun s => ?_⟩))))
    rw [show (m.set l[i].toNat true) = mark m l[i] from rfl, mk_mark he.1 (by omega), h2, List.take_add_one, List.getElem?_eq_getElem hi, List.mem_append]
    simp only [Option.toList_some, List.mem_singleton]
    exact Or.comm
  · rintro ⟨m, _⟩ ⟨rfl, h1, h2⟩
    rw [hb]
    rw [List.take_length] at h2
    exact Is.df (by omega) (Is.stop ⟨h1, h2⟩)
open Classical in
noncomputable def tgt (n : T_NFA) (L : List Int) (b : Nat) : List Int := (n.Arcs.filter fun a => !a.Epsilon && (decide (a.From ∈ L) && mem a.Set b)).map (·.To)
noncomputable def stp (n : T_NFA) (S : List Int) (b : Nat) : List Int := clo n (tgt n (clo n S) b)
omit hn in
theorem tgt_len (n : T_NFA) (L : List Int) (b : Nat) : (tgt n L b).length ≤ n.Arcs.length := by
  unfold tgt
  rw [List.length_map]
  exact List.length_filter_le _ _
open Classical in
theorem tgt_loop {L : List Int} {b : Nat} {m : List Bool} (hm : ∀ s, Mk m s ↔ s ∈ L) (hml : m.length = n.States.toNat) {H : Vec 4 → Option Bool} (hH : ∀ v, W4 v → H v = some (mem v b)) {body : List Int × Int → Option (Step (List Int × Int) (List Int))}
    (hb : ∀ a i, body (a, i) = bif decide (i < (n.Arcs.length : Int)) then ((idxL n.Arcs i).bind fun e => (bif (!e.Epsilon) then (idxL m e.From).bind fun q => bif q then (H e.Set).bind fun r => some r else some false else some false).bind fun r => bif r then (appM 8 a [e.To]).bind fun l => some l else some a).bind fun l => (chk .i64 (i + 1)).bind fun t => some (.next (l, t)) else some (.stop a)) :
    loopM body fuel (([] : List Int), (0 : Int)) = some (tgt n L b) := by
  have hp := hn.pos
  have hlen := hn.len
  refine Is.eq ?_
  refine Is.upto (fun i (st : List Int × Int) => st.2 = (i : Int) ∧ st.1 = ((n.Arcs.take i).filter fun a => !a.Epsilon && (decide (a.From ∈ L) && mem a.Set b)).map (·.To)) n.Arcs.length (by omega) ⟨rfl, rfl⟩ ?_ ?_
  · rintro i ⟨a, _⟩ hi ⟨rfl, h1⟩
    obtain rfl : a = _ := h1
    have hai := List.getElem_mem hi
    have har := hn.arcs _ hai
    rw [hb]
    refine Is.dt (by omega) ?_
    have hl : (((n.Arcs.take i).filter fun a => !a.Epsilon && (decide (a.From ∈ L) && mem a.Set b)).map (·.To)).length ≤ i := by
      rw [List.length_map]
      refine Nat.le_trans (List.length_filter_le _ _) ?_
      rw [List.length_take]; omega
    refine Is.bnd (P := fun l => l = ((n.Arcs.take (i + 1)).filter fun a => !a.Epsilon && (decide (a.From ∈ L) && mem a.Set b)).map (·.To)) ?_ fun l hl => Is.bnq (chk_succ (by omega)) (Is.next ⟨rfl, hl⟩)
    refine Is.bnq (idxL_nat hi) ?_
    rw [List.take_add_one, List.getElem?_eq_getElem hi, List.filter_append, List.map_append]
    refine Is.bnq (x := !n.Arcs[i].Epsilon && (decide (n.Arcs[i].From ∈ L) && mem n.Arcs[i].Set b)) ?_ ?_
    · obtain ⟨q, eq, hq⟩ := idx_mk (m := m) har.1.1 (by omega)
      have hq2 : q = decide (n.Arcs[i].From ∈ L) := by
        rw [Bool.eq_iff_iff, hq, hm, decide_eq_true_eq]
      subst hq2
      cases n.Arcs[i].Epsilon
      · refine bind_of eq ?_
        cases decide (n.Arcs[i].From ∈ L)
        · rfl
        · exact bind_of (hH _ (hn.sets _ hai)) rfl
      · rfl
    refine Is.cnd (fun h => ?_) (fun h => ?_)
    · refine Is.bnq (appM_ok (by simp only [List.length_singleton]; omega)) (Is.pure ?_)
      simp only [Option.toList_some, List.filter_cons, h, if_true, List.filter_nil, List.map_cons, List.map_nil]
    · refine Is.pure ?_
      simp only [Option.toList_some, List.filter_cons, h, Bool.false_eq_true, if_false, List.filter_nil, List.map_nil, List.append_nil]
  · rintro ⟨a, _⟩ ⟨rfl, h1⟩
    obtain rfl : a = _ := h1
    rw [hb]
    refine Is.df (by omega) (Is.stop ?_)
    rw [List.take_length]
    rfl
theorem clo_in {S : List Int} : ∀ s ∈ clo n S, 0 ≤ s ∧ s < (n.States.toNat : Int) := by
  intro s hs
  have := ((mem_clo hn).1 hs).lt hn
  omega
theorem clo_small {S : List Int} : (clo n S).length ≤ 2000 := by
  have := clo_len n S
  have := hn.most
  omega
theorem step_ok (hS : S.length ≤ 1000000000) {b : Nat} (hb : b < 256) : M.nfa_Step n S (b : Int) = some (stp n S b) := by
  have hlen := hn.len
  refine Is.eq ?_
  unfold M.nfa_Step
  refine Is.bnq (make_marks hn) ?_
  have hcs := clo_small hn (S := S)
  refine Is.bnd (P := fun m : List Bool => m.length = n.States.toNat ∧ ∀ s, Mk m s ↔ s ∈ clo n S) (Is.bnq (closure_ok hn hS) (marks_loop (clo_in hn) (by omega) (fun _ _ => rfl))) ?_
  rintro m ⟨h1, h2⟩
  refine Is.bnq (tgt_loop hn (b := b) h2 h1 (H := fun v => M.byteset_Has v (b : Int)) (fun v hv => has_eq hv hb) (fun _ _ => rfl)) ?_
  have := tgt_len n (clo n S) b
  exact Is.bnq (closure_ok hn (by omega)) (Is.pure rfl)
end
def best1 (acc : List Int) (o : Int) (s : Int) : Int := bif decide (0 ≤ acc.getD s.toNat 0) && (decide (o < 0) || decide (acc.getD s.toNat 0 < o)) then acc.getD s.toNat 0 else o
theorem best_key (e o : Int) : (bif decide (0 ≤ e) then bif decide (o < 0) then some true else some (decide (e < o)) else some false).bind (fun x => bif x then some e else some o) = some (bif decide (0 ≤ e) && (decide (o < 0) || decide (e < o)) then e else o) := by
  cases decide (0 ≤ e) <;> cases decide (o < 0) <;> cases decide (e < o) <;> rfl
def best (acc : List Int) (l : List Int) : Int := l.foldl (best1 acc) (-1)
theorem best_loop {acc l : List Int} (hl : ∀ s ∈ l, 0 ≤ s ∧ s < (acc.length : Int)) (hlen : l.length ≤ 1000000000) {body : Int × Int → Option (Step (Int × Int) Int)}
    (hb : ∀ o i, body (o, i) = bif decide (i < (l.length : Int)) then ((idxL l i).bind fun e23 => (idxL acc e23).bind fun e24 => (bif decide (0 ≤ e24) then bif decide (o < 0) then some true else some (decide (e24 < o)) else some false).bind fun x => bif x then some e24 else some o).bind fun o2 => (chk .i64 (i + 1)).bind fun t => some (.next (o2, t)) else some (.stop o)) :
    loopM body fuel (((-1) : Int), (0 : Int)) = some (best acc l) := by
  refine Is.eq ?_
  refine Is.upto (fun i (st : Int × Int) => st.2 = (i : Int) ∧ st.1 = (l.take i).foldl (best1 acc) (-1)) l.length (by omega) ⟨rfl, rfl⟩ ?_ ?_
  · rintro i ⟨o, _⟩ hi ⟨rfl, h1⟩
    obtain rfl : o = _ := h1
    have he := hl l[i] (List.getElem_mem hi)
    rw [hb]
    refine Is.dt (by omega) (Is.bnq (x := best1 acc ((l.take i).foldl (best1 acc) (-1)) l[i]) ?_ (Is.bnq (chk_succ (by omega)) (Is.next ⟨rfl, ?_⟩)))
    · refine bind_of (idxL_nat hi) (bind_of (idxL_int (d := 0) he.1 he.2) ?_)
      exact best_key _ _
    · rw [List.take_add_one, List.getElem?_eq_getElem hi, List.foldl_append]
      rfl
  · rintro ⟨o, _⟩ ⟨rfl, h1⟩
    obtain rfl : o = _ := h1
    rw [hb]
    refine Is.df (by omega) (Is.stop ?_)
    rw [List.take_length]
    rfl
noncomputable def stps (n : T_NFA) (S : List Int) (s : Str) : List Int := (s.map UInt8.toNat).foldl (stp n) (clo n S)
noncomputable def runN (n : T_NFA) (s : Str) : Int := best n.Accept (stps n [n.Start] s)
section
variable {n : T_NFA} (hn : FitN n)
include hn
omit hn in
theorem stps_in : ∀ (l : List Nat) (S : List Int), (∃ T, S = clo n T) → ∃ T, l.foldl (stp n) S = clo n T := by
  intro l
  induction l with
  | nil => exact fun S h => h
  | cons b l ih => exact fun S _ => ih _ ⟨_, rfl⟩
theorem best_clo (l : List Int) (h : ∃ T, l = clo n T) : (∀ s ∈ l, 0 ≤ s ∧ s < (n.Accept.length : Int)) ∧ l.length ≤ 2000 := by
  obtain ⟨T, rfl⟩ := h
  have h1 := hn.acc
  have h2 := hn.pos
  exact ⟨fun s hs => by have := clo_in hn s hs; omega, clo_small hn⟩
end
end Go.Proofs.Ytajmekjcnbmaaaa
namespace Go.Proofs.Ytajmekjcnbmaaaa
open Go.Lx
theorem index_is {s : List Int} {f : Int → Option Bool} {p : Int → Bool} (hf : ∀ x ∈ s, f x = some (p x)) (hl : s.length ≤ 9223372036854775807) :
    Is (M.slices_IndexFunc_int_int s f) (fun r => decide (0 ≤ r) = s.any p) := by
  unfold M.slices_IndexFunc_int_int
  refine Is.bs (P := fun _ => s.any p = false) (Is.upto (fun i st => st = (i : Int) ∧ ∀ x ∈ s.take i, p x = false) s.length hl ⟨rfl, by simp⟩ ?_ ?_) ?_
  · rintro i _ hi ⟨rfl, hno⟩
    refine Is.dt (by omega) (Is.bnq (idxL_nat hi) (Is.bnq (hf _ (List.getElem_mem hi)) (Is.cnd (fun hp => ?_) (fun hp => ?_))))
    · exact Is.stop (show decide _ = _ by rw [List.any_eq_true.2 ⟨_, List.getElem_mem hi, hp⟩]; simp)
    · refine Is.bnq (chk_succ (by omega)) (Is.next ⟨rfl, fun x hx => ?_⟩)
      rw [List.take_succ_eq_append_getElem hi, List.mem_append] at hx
      rcases hx with hx | hx
      · exact hno x hx
      · rw [List.mem_singleton.1 hx]; exact hp
  · rintro _ ⟨rfl, hno⟩
    refine Is.df (by omega) (Is.stop ?_)
    rw [List.take_length] at hno
    exact List.any_eq_false.2 fun x hx => by simp [hno x hx]
  · intro _ h
    exact Is.pure (by rw [h]; rfl)
theorem contains_eq {s : List Int} {f : Int → Option Bool} {p : Int → Bool} (hf : ∀ x ∈ s, f x = some (p x)) (hl : s.length ≤ 9223372036854775807) : M.slices_ContainsFunc_int_int s f = some (s.any p) := by
  obtain ⟨r, hr, h⟩ := index_is hf hl
  unfold M.slices_ContainsFunc_int_int
  rw [hr, ← h]; rfl
end Go.Proofs.Ytajmekjcnbmaaaa
namespace Go.Proofs.Ytajmekjcnbmaaaa
open Go.Lx
structure VN (n : T_NFA) : Prop where
  pos : 1 ≤ n.States
  most : n.States ≤ 2000
  start : 0 ≤ n.Start ∧ n.Start < n.States
  acc : (n.Accept.length : Int) = n.States
  low : ∀ x ∈ n.Accept, -1 ≤ x
  arcs : ∀ a ∈ n.Arcs, (0 ≤ a.From ∧ a.From < n.States) ∧ (0 ≤ a.To ∧ a.To < n.States) ∧ (a.Epsilon = true → a.Set = Vec.zero 4)
def preN (n : T_NFA) : Prop := 1 ≤ n.States ∧ n.States ≤ 2000 ∧ (0 ≤ n.Start ∧ n.Start < n.States) ∧ (n.Accept.length : Int) = n.States
theorem VN.fit {n : T_NFA} (h : VN n) (hl : n.Arcs.length ≤ 1000000000) (hs : ∀ a ∈ n.Arcs, W4 a.Set) : FitN n := ⟨h.pos, h.most, h.start, h.acc, h.low, h.arcs, hl, hs⟩
theorem VN.pre {n : T_NFA} (h : VN n) : preN n := ⟨h.pos, h.most, h.start, h.acc⟩
def arcOk (n : T_NFA) (a : T_NFAArc) : Prop := (0 ≤ a.From ∧ a.From < n.States) ∧ (0 ≤ a.To ∧ a.To < n.States) ∧ (a.Epsilon = true → a.Set = Vec.zero 4)
theorem mem_take_get {α : Type} {l : List α} {i : Nat} (hi : i < l.length) {x : α} : x ∈ l.take (i + 1) ↔ x ∈ l.take i ∨ x = l[i] := by
  rw [List.take_add_one, List.getElem?_eq_getElem hi, List.mem_append]
  simp
theorem inside_ok (n : T_NFA) (s : Int) : M.nfa_Valid_1 s n = some (decide (0 ≤ s ∧ s < n.States)) := by
  unfold M.nfa_Valid_1
  by_cases h : 0 ≤ s
  · rw [decide_eq_true h]
    by_cases h2 : s < n.States
    · rw [decide_eq_true h2, decide_eq_true (show 0 ≤ s ∧ s < n.States from ⟨h, h2⟩)]; rfl
    · rw [decide_eq_false h2, decide_eq_false (show ¬ (0 ≤ s ∧ s < n.States) from fun e => h2 e.2)]; rfl
  · rw [decide_eq_false h, decide_eq_false (show ¬ (0 ≤ s ∧ s < n.States) from fun e => h e.1)]; rfl
theorem validN_is {n : T_NFA} (hl : n.Arcs.length ≤ 9223372036854775807) (ha : n.Accept.length ≤ 9223372036854775807) : Is (M.nfa_Valid n) (fun b => b = true ↔ VN n) := by
  unfold M.nfa_Valid
  refine Is.bnd (P := fun b : Bool => b = false ↔ preN n) ?_ fun b hb => ?_
  · refine Is.dcd (fun h => Is.pure ⟨fun e => (by cases e), fun e => by have := e.1; omega⟩) (fun h1 => ?_)
    refine Is.dcd (fun h => Is.pure ⟨fun e => (by cases e), fun e => by have := e.2.1; omega⟩) (fun h2 => ?_)
    refine Is.bnq (inside_ok n _) (Is.cnd (fun h => Is.pure ⟨fun e => (by cases e), fun e => ?_⟩) (fun h => Is.pure ?_))
    · have := decide_eq_true (p := 0 ≤ n.Start ∧ n.Start < n.States) e.2.2.1
      rw [this] at h; cases h
    · have h3 : 0 ≤ n.Start ∧ n.Start < n.States := of_decide_eq_true (by simpa using h)
      exact ⟨fun e => ⟨by omega, by omega, h3, of_bne_f e⟩, fun e => bne_f e.2.2.2⟩
  refine Is.cnd (fun h => Is.pure ⟨fun e => (by cases e), fun e => by have := hb.2 e.pre; rw [h] at this; cases this⟩) (fun h => ?_)
  have hpre := hb.1 h
  refine Is.bs (P := fun _ : Unit => ∀ a ∈ n.Arcs, arcOk n a) ?_ fun _ harc => ?_
  · refine Is.upto (fun i (st : Int) => st = (i : Int) ∧ ∀ a ∈ n.Arcs.take i, arcOk n a) n.Arcs.length hl ⟨rfl, by simp⟩ ?_ ?_
    · rintro i _ hi ⟨rfl, hJ⟩
      refine Is.dt (by omega) (Is.bnq (idxL_nat hi) (Is.bnd (P := fun b : Bool => b = false ↔ arcOk n n.Arcs[i]) ?_ fun b hb => Is.cnd (fun h => Is.stop ⟨fun e => (by cases e), fun e => ?_⟩) (fun h => Is.bnq (chk_succ (by omega)) (Is.next ⟨rfl, fun x hx => ?_⟩))))
      · refine Is.bnq (inside_ok n _) (Is.cnd (fun h => Is.pure ⟨fun e => (by cases e), fun e => ?_⟩) (fun h1 => ?_))
        · rw [decide_eq_true e.1] at h; cases h
        have h1 : 0 ≤ n.Arcs[i].From ∧ n.Arcs[i].From < n.States := of_decide_eq_true (by simpa using h1)
        refine Is.bnq (inside_ok n _) (Is.cnd (fun h => Is.pure ⟨fun e => (by cases e), fun e => ?_⟩) (fun h2 => ?_))
        · rw [decide_eq_true e.2.1] at h; cases h
        have h2 : 0 ≤ n.Arcs[i].To ∧ n.Arcs[i].To < n.States := of_decide_eq_true (by simpa using h2)
        refine Is.cnd (fun he => Is.pure ?_) (fun he => Is.pure ⟨fun _ => ⟨h1, h2, fun e => by rw [he] at e; cases e⟩, fun _ => rfl⟩)
        rw [bne_eq_false_iff_eq]
        exact ⟨fun e => ⟨h1, h2, fun _ => e⟩, fun e => e.2.2 he⟩
      · have := hb.2 (e.arcs _ (List.getElem_mem hi)); rw [h] at this; cases this
      · rcases (mem_take_get hi).1 hx with hx | rfl
        · exact hJ x hx
        · exact hb.1 h
    · rintro _ ⟨rfl, hJ⟩
      rw [List.take_length] at hJ
      exact Is.df (by omega) (Is.stop hJ)
  · refine Is.bnq (contains_eq (p := fun x => decide (x < -1)) (fun x _ => rfl) ha) (Is.pure ?_)
    rw [Bool.not_eq_true', List.any_eq_false]
    exact ⟨fun e => ⟨hpre.1, hpre.2.1, hpre.2.2.1, hpre.2.2.2, fun x hx => by have := e x hx; simp at this; omega, harc⟩, fun e x hx => by have := e.low x hx; simp; omega⟩
end Go.Proofs.Ytajmekjcnbmaaaa
namespace Go.Proofs.Ytajmekjcnbmaaaa
open Go.Lx
theorem same9 {l : List Int} (h : l.length ≤ 1000000000) : M.ref09_Same l l = some true := by
  refine Is.eq ?_
  unfold M.ref09_Same
  refine Is.cf (by simp) (Is.bs (P := fun _ => True) ?_ (fun _ _ => Is.pure rfl))
  refine Is.upto (fun i (st : Int) => st = (i : Int)) l.length (by omega) rfl ?_ ?_
  · rintro i _ hi rfl
    refine Is.dt (by omega) (Is.bnq (idxL_nat hi) (Is.bnq (idxL_nat hi) (Is.cf (by simp) (Is.bnq (chk_succ (by omega)) (Is.next rfl)))))
  · rintro _ rfl
    exact Is.df (by omega) (Is.stop trivial)
theorem Run9_ok {n : T_NFA} (hn : FitN n) {s : Str} (hs : s.length ≤ 1000000) : M.nfa_Run n s = some (runN n s) := by
  refine Is.eq ?_
  unfold M.nfa_Run
  refine Is.bnq (closure_ok hn (by simp)) ?_
  refine Is.bnq (x := stps n [n.Start] s) ?_ ?_
  · refine Is.eq ?_
    have hbl : (bytesL s).length = s.length := by simp [bytesL]
    refine Is.upto (fun i (st : List Int × Int) => st.2 = (i : Int) ∧ st.1 = ((s.take i).map UInt8.toNat).foldl (stp n) (clo n [n.Start])) s.length (by omega) ⟨rfl, rfl⟩ ?_ ?_
    · rintro i ⟨l, _⟩ hi ⟨rfl, h1⟩
      obtain rfl : l = _ := h1
      have hl := (best_clo hn _ (stps_in (n := n) ((s.take i).map UInt8.toNat) _ ⟨[n.Start], rfl⟩)).2
      have hix : idxL (bytesL s) (i : Int) = some ((s[i].toNat : Nat) : Int) := by rw [idxL_nat (by omega)]; simp [bytesL]
      refine Is.dt (by omega) (Is.bnq hix (Is.bnq (step_ok hn (by omega) (s[i]).toNat_lt) (Is.bnq (chk_succ (by omega)) (Is.next ⟨rfl, ?_⟩))))
      rw [List.take_add_one, List.getElem?_eq_getElem hi, List.map_append, List.foldl_append]
      rfl
    · rintro ⟨l, _⟩ ⟨rfl, h1⟩
      obtain rfl : l = _ := h1
      refine Is.df (by omega) (Is.stop ?_)
      rw [List.take_length]
      rfl
  have hl := best_clo hn _ (stps_in (n := n) (s.map UInt8.toNat) _ ⟨[n.Start], rfl⟩)
  have hl2 : (stps n [n.Start] s).length ≤ 1000000000 := Nat.le_trans hl.2 (by decide)
  exact Is.bnq (best_loop hl.1 hl2 (fun _ _ => rfl)) (Is.pure rfl)
end Go.Proofs.Ytajmekjcnbmaaaa
namespace Go.Proofs.Ytajmekjcnbmaaaa
open Go.Lx
def pad (a : List Int) (n : Nat) : List Int := a ++ List.replicate (n + 1 - a.length) (-1)
def setA (la : List Nat) (i : Int) (a : List Int) : List Int := la.foldl (fun a p => a.set p i) a
def fin0 (nl : Bool) (i : Int) (a : List Int) : List Int := bif nl && decide (a.getD 0 0 < 0) then a.set 0 i else a
def stF (i : Nat) (x : T_Regex) (s : Bs × List Int) : Bs × List Int :=
  (⟨(bd x s.1).2.S, (bd x s.1).2.P ++ prodP [0] (bd x s.1).1.fi⟩, fin0 (bd x s.1).1.nl i (setA (bd x s.1).1.la i (pad s.2 (bd x s.1).2.S.length)))
def goF : Nat → List T_Regex → Bs × List Int → Bs × List Int
  | _, [], s => s
  | i, x :: l, s => goF (i + 1) l (stF i x s)
theorem goF_snoc (y : T_Regex) : ∀ (l : List T_Regex) (i : Nat) (s : Bs × List Int), goF i (l ++ [y]) s = stF (i + l.length) y (goF i l s)
  | [], i, s => by simp [goF]
  | x :: l, i, s => by
    simp only [List.cons_append, goF, List.length_cons]
    rw [goF_snoc y l (i + 1) (stF i x s)]
    congr 1; omega
def s09 : Bs × List Int := (⟨[], []⟩, [-1])
theorem setA_len (i : Int) : ∀ (la : List Nat) (a : List Int), (setA la i a).length = a.length
  | [], a => rfl
  | p :: la, a => by
    have := setA_len i la (a.set p i)
    rw [List.length_set] at this
    exact this
theorem fin0_len (nl : Bool) (i : Int) (a : List Int) : (fin0 nl i a).length = a.length := by
  unfold fin0
  cases nl && decide (a.getD 0 0 < 0) <;> simp
theorem pad_len {a : List Int} {n : Nat} (h : a.length ≤ n + 1) : (pad a n).length = n + 1 := by
  unfold pad
  rw [List.length_append, List.length_replicate]
  omega
structure Gd9 (s : Bs × List Int) : Prop where
  cl : Cl9 s.1
  pos : ∀ p q, (p, q) ∈ s.1.P → 1 ≤ q
  len : s.2.length = s.1.S.length + 1
theorem gd9_st {i : Nat} {x : T_Regex} {s : Bs × List Int} (h : Gd9 s) : Gd9 (stF i x s) := by
  obtain ⟨T, Q, hm⟩ := bd_made x s.1
  have hg := bd_grow x s.1
  have hbn := bd_bnd x s.1
  have hl := h.len
  refine ⟨fun p q hp => ?_, fun p q hp => ?_, ?_⟩
  · rcases List.mem_append.1 hp with hp | hp
    · exact bd_cl x h.cl p q hp
    · obtain ⟨h1, h2⟩ := mem_prodP.1 hp
      obtain rfl := List.mem_singleton.1 h1
      exact ⟨Nat.zero_le _, hbn.1 q h2⟩
  · rcases List.mem_append.1 hp with hp | hp
    · rw [hm.P] at hp
      rcases List.mem_append.1 hp with hp | hp
      · exact h.pos p q hp
      · have := hm.rng.e p q hp; omega
    · obtain ⟨_, h2⟩ := mem_prodP.1 hp
      have := hm.rng.fi q h2; omega
  · show (fin0 _ _ _).length = (bd x s.1).2.S.length + 1
    rw [fin0_len, setA_len, pad_len (by omega)]
theorem gd9_go : ∀ (l : List T_Regex) (i : Nat) (s : Bs × List Int), Gd9 s → Gd9 (goF i l s)
  | [], _, _, h => h
  | x :: l, i, s, h => gd9_go l (i + 1) (stF i x s) (gd9_st h)
theorem gd9_0 : Gd9 s09 := ⟨fun p q h => by simp [s09] at h, fun p q h => by simp [s09] at h, rfl⟩
theorem goF_len : ∀ (l : List T_Regex) (i : Nat) (s : Bs × List Int), (goF i l s).1.S.length ≤ s.1.S.length + partsL l
  | [], _, s => by simp [goF, partsL]
  | x :: l, i, s => by
    have h1 := goF_len l (i + 1) (stF i x s)
    have h2 : (stF i x s).1.S.length ≤ s.1.S.length + parts x := (bd_len x s.1).2.2
    simp only [goF, partsL]
    omega
theorem pad_loop {a : List Int} {n : Nat} (h : a.length ≤ n + 1) (hn : n ≤ 1000000) {body : List Int → Option (Step (List Int) (List Int))}
    (hb : ∀ s, body s = bif decide ((s.length : Int) ≤ (n : Int)) then (appM 8 s [(-1)]).bind fun y => some (.next y) else some (.stop s)) : loopM body fuel a = some (pad a n) := by
  refine Is.eq ?_
  refine Is.while (fun s => ∃ k, s = a ++ List.replicate k (-1) ∧ s.length ≤ n + 1) (fun s => n + 1 - s.length) ⟨0, by simp, h⟩ (by omega) ?_
  rintro s ⟨k, rfl, hl⟩
  rw [hb]
  refine Is.dcd (fun h1 => Is.bnq (appM_ok (by simp only [List.length_singleton]; omega)) (Is.next ⟨⟨k + 1, by rw [List.append_assoc, List.replicate_succ'], by rw [List.length_append, List.length_singleton]; omega⟩, ?_⟩)) (fun h1 => Is.stop ?_)
  · rw [List.length_append, List.length_singleton]; omega
  · unfold pad
    rw [List.length_append, List.length_replicate] at h1 hl
    congr 2; omega
theorem set_loop {a : List Int} {la : List Nat} {v : Int} (hla : ∀ p ∈ la, p < a.length) (hl : la.length ≤ 1000000) {body : List Int × Int → Option (Step (List Int × Int) (List Int))}
    (hb : ∀ s i, body (s, i) = bif decide (i < ((toI la).length : Int)) then (idxL (toI la) i).bind fun e => (setL s e v).bind fun y => (chk .i64 (i + 1)).bind fun t => some (.next (y, t)) else some (.stop s)) : loopM body fuel (a, (0 : Int)) = some (setA la v a) := by
  refine Is.eq ?_
  refine Is.upto (fun i (st : List Int × Int) => st.2 = (i : Int) ∧ st.1 = setA (la.take i) v a) la.length (by omega) ⟨rfl, rfl⟩ ?_ ?_
  · rintro i ⟨s, _⟩ hi ⟨rfl, h1⟩
    obtain rfl : s = _ := h1
    rw [hb]
    refine Is.dt (by rw [toI_len]; omega) (Is.bnq (toI_idx hi) (Is.bnq (setL_nat (by rw [setA_len]; exact hla _ (List.getElem_mem hi))) (Is.bnq (chk_succ (by omega)) (Is.next ⟨rfl, ?_⟩))))
    show List.set _ _ _ = _
    unfold setA
    rw [take_snoc hi, List.foldl_append]
    rfl
  · rintro ⟨s, _⟩ ⟨rfl, h1⟩
    obtain rfl : s = _ := h1
    rw [hb, List.take_length]
    exact Is.df (by rw [toI_len]; omega) (Is.stop rfl)
theorem getD_head {a : List Int} (h : 0 < a.length) : idxL a 0 = some (a.getD 0 0) := by
  have := idxL_nat (l := a) (i := 0) h
  rw [show ((0 : Nat) : Int) = 0 from rfl] at this
  rw [this]
  simp [List.getD_eq_getElem?_getD, h]
theorem fin_ok {α : Type} {n : Bool} {a : List Int} {v : Int} {f : List Int → α} (h : 0 < a.length) :
    ((bif n then (idxL a 0).bind fun e => some (decide (e < 0)) else some false).bind fun x => bif x then (setL a 0 v).bind fun y => some (f y) else some (f a)) = some (f (fin0 n v a)) := by
  have hs : setL a 0 v = some (a.set 0 v) := setL_nat (i := 0) h
  unfold fin0
  cases n
  · rfl
  · rw [cond_true, getD_head h, hs]
    simp only [Option.bind_some, Bool.true_and]
    cases decide (a.getD 0 0 < 0) <;> rfl
def mkA (S : List (Vec 4)) (p q : Nat) : T_NFAArc := ⟨p, q, false, S.getD (q - 1) (Vec.zero 4)⟩
def rowQ (P : List (Nat × Nat)) (N p : Nat) : List Nat := (List.range N).filter fun q => decide ((p, q) ∈ P)
def arcsR (S : List (Vec 4)) (P : List (Nat × Nat)) (N p : Nat) : List T_NFAArc := (rowQ P N p).map (mkA S p)
def arcsN (S : List (Vec 4)) (P : List (Nat × Nat)) (N k : Nat) : List T_NFAArc := (List.range k).flatMap (arcsR S P N)
def nfaOf (l : List T_Regex) : T_NFA := ⟨((goF 0 l s09).2.length : Int), 0, arcsN (goF 0 l s09).1.S (goF 0 l s09).1.P (goF 0 l s09).2.length (goF 0 l s09).2.length, (goF 0 l s09).2⟩
theorem rowQ_len (P : List (Nat × Nat)) (N p : Nat) : (rowQ P N p).length ≤ N := by
  have := List.length_filter_le (fun q => decide ((p, q) ∈ P)) (List.range N)
  rw [List.length_range] at this
  exact this
theorem mem_rowQ {P : List (Nat × Nat)} {N p q : Nat} : q ∈ rowQ P N p ↔ q < N ∧ (p, q) ∈ P := by
  unfold rowQ
  rw [List.mem_filter, List.mem_range]
  simp
theorem rowQ_sorted (P : List (Nat × Nat)) (N p : Nat) : (rowQ P N p).Pairwise (· < ·) := List.Pairwise.filter _ List.pairwise_lt_range
theorem arcsN_len (S : List (Vec 4)) (P : List (Nat × Nat)) (N : Nat) : ∀ k, (arcsN S P N k).length ≤ k * N
  | 0 => by simp [arcsN]
  | k + 1 => by
    have := arcsN_len S P N k
    have h2 := rowQ_len P N k
    unfold arcsN at this ⊢
    rw [List.range_succ, List.flatMap_append, List.length_append, Nat.succ_mul]
    simp only [List.flatMap_cons, List.flatMap_nil, List.append_nil, arcsR, List.length_map] at this ⊢
    omega
theorem arcsN_succ (S : List (Vec 4)) (P : List (Nat × Nat)) (N k : Nat) : arcsN S P N (k + 1) = arcsN S P N k ++ arcsR S P N k := by
  unfold arcsN
  rw [List.range_succ, List.flatMap_append]
  simp
theorem keys_row {beh : List (List (Int × Bool))} {N : Nat} {P : List (Nat × Nat)} (h : BehR beh N (inQ P)) (hq : ∀ p q, (p, q) ∈ P → q < N) (hN : N ≤ 1000000) {p : Nat} {m : List (Int × Bool)} (hm : beh[p]? = some m) : keysM m = some (toI (rowQ P N p)) := by
  have hmem := h.mem p m hm
  have hnd := h.nd p m hm
  have hnd2 : (toI (rowQ P N p)).Nodup := by
    unfold toI
    refine List.pairwise_map.2 ((rowQ_sorted P N p).imp ?_)
    intro a b hab e
    have : a = b := by omega
    omega
  have hperm : (m.map (·.1)).Perm (toI (rowQ P N p)) := by
    refine (List.perm_ext_iff_of_nodup hnd hnd2).2 fun k => ?_
    rw [hmem]
    unfold toI
    rw [List.mem_map]
    constructor
    · rintro ⟨q, rfl, hR⟩
      exact ⟨q, mem_rowQ.2 ⟨hq p q hR, hR⟩, rfl⟩
    · rintro ⟨q, hR, rfl⟩
      exact ⟨q, rfl, (mem_rowQ.1 hR).2⟩
  have hlen : m.length ≤ N := by
    have := hperm.length_eq
    rw [List.length_map, toI_len] at this
    have := rowQ_len P N p
    omega
  have hr : ∀ x ∈ m, -9223372036854775808 ≤ x.1 ∧ x.1 ≤ 9223372036854775807 := by
    intro x hx
    obtain ⟨q, e, hR⟩ := (hmem x.1).1 (List.mem_map.2 ⟨x, hx, rfl⟩)
    have := hq p q hR
    omega
  unfold keysM
  rw [if_pos ⟨by omega, hr⟩]
  congr 1
  refine List.Perm.eq_of_pairwise (le := fun a b : Int => a ≤ b) (fun a b _ _ h1 h2 => Int.le_antisymm h1 h2) (isort_sorted _) ?_ ((isort_perm _).trans hperm)
  unfold toI
  refine List.pairwise_map.2 ((rowQ_sorted P N p).imp ?_)
  intro a b hab
  omega
theorem vec_idx {S : List (Vec 4)} {q : Nat} (h1 : 1 ≤ q) (h2 : q ≤ S.length) : idxL S ((q : Int) - 1) = some (S.getD (q - 1) (Vec.zero 4)) := by
  have := idxL_nat (l := S) (i := q - 1) (by omega)
  rw [show ((q - 1 : Nat) : Int) = (q : Int) - 1 by omega] at this
  rw [this]
  simp [List.getD_eq_getElem?_getD, show q - 1 < S.length by omega]
def zN : T_NFA := ⟨0, 0, [], []⟩
def Ans {α : Type} (l : List T_Regex) (e : Int) (x : α) (z n : α) : Prop :=
  ((∃ y ∈ l, V 30 y = false) ∧ e = 1 ∧ x = z) ∨ ((∀ y ∈ l, V 30 y = true) ∧ 500 < partsL l ∧ e = 11 ∧ x = z) ∨ ((∀ y ∈ l, V 30 y = true) ∧ partsL l ≤ 500 ∧ e = 0 ∧ x = n)
theorem check_loop {ρ : Type} {l : List T_Regex} (hp : partsL l ≤ 1048576) {v n : T_Regex → Option _} (hv : ∀ y ∈ l, v y = some (V 30 y)) (hn : ∀ y ∈ l, n y = some (parts y : Int)) {z : ρ} {body : Int × Int → Option (Step (Int × Int) (Step Int ρ))}
    (hb : ∀ t i, body (t, i) = bif decide (i < (l.length : Int)) then (idxL l i).bind fun e => (v e).bind fun r => bif (!r) then some (.stop (.stop z)) else (n e).bind fun m => (chk .i64 (t + m)).bind fun t => (chk .i64 (i + 1)).bind fun u => some (.next (t, u)) else some (.stop (.next t))) :
    Is (loopM body fuel ((0 : Int), (0 : Int))) (SP (fun t => (∀ y ∈ l, V 30 y = true) ∧ t = (partsL l : Int)) (fun r => (∃ y ∈ l, V 30 y = false) ∧ r = z)) := by
  have hlen := len_parts l
  refine Is.upto (fun i (st : Int × Int) => st.2 = (i : Int) ∧ (∀ y ∈ l.take i, V 30 y = true) ∧ st.1 = (partsL (l.take i) : Int)) l.length (by omega) ⟨rfl, by simp, by simp [partsL]⟩ ?_ ?_
  · rintro i ⟨t, _⟩ hi ⟨rfl, h1, h2⟩
    obtain rfl : t = _ := h2
    have h3 := parts_take hi
    have h4 := parts_take_le l (i + 1)
    rw [hb]
    refine Is.dt (by omega) (Is.bnq (idxL_nat hi) (Is.bnq (hv _ (List.getElem_mem hi)) (Is.cnd (fun h => Is.stop ⟨⟨_, List.getElem_mem hi, by simpa using h⟩, rfl⟩) (fun h => ?_))))
    refine Is.bnq (hn _ (List.getElem_mem hi)) (Is.bnq (x := (partsL (l.take (i + 1)) : Int)) (by rw [chk_i64 (by omega) (by omega), h3]; congr 1) (Is.bnq (chk_succ (by omega)) (Is.next ⟨rfl, fun y hy => ?_, rfl⟩)))
    rw [take_snoc hi] at hy
    rcases List.mem_append.1 hy with hy | hy
    · exact h1 y hy
    · obtain rfl := List.mem_singleton.1 hy
      simpa using h
  · rintro ⟨t, _⟩ ⟨rfl, h1, h2⟩
    obtain rfl : t = _ := h2
    rw [List.take_length] at h1
    rw [hb]
    refine Is.df (by omega) (Is.stop ⟨h1, by rw [List.take_length]⟩)
theorem sp_mono {σ ρ : Type} {P : σ → Prop} {Q Q' : ρ → Prop} {s : Step σ ρ} (h : SP P Q s) (k : ∀ r, Q r → Q' r) : SP P Q' s := by
  cases s
  · exact h
  · exact k _ h
theorem check_ok {l : List T_Regex} (ok : ∀ x ∈ l, okT_Regex x) (hp : partsL l ≤ 1048576) : Is (M.ref09_Check l) (fun e => Ans l e () () ()) := by
  unfold M.ref09_Check
  have hn : ∀ y ∈ l, M.ref09_Nodes fuel y = some (parts y : Int) := fun y hy => refNodes_ok fuel y (by have := parts_mem hy; unfold fuel; omega) (by have := parts_mem hy; omega)
  refine Is.bs (P := fun t => (∀ y ∈ l, V 30 y = true) ∧ t = (partsL l : Int)) ((check_loop hp (v := M.ref08_Valid) (n := M.ref09_Nodes fuel) (fun y hy => refValid_ok (ok y hy)) hn (z := (1 : Int)) (fun _ _ => rfl)).mono fun s hs => sp_mono hs fun r hr => .inl ⟨hr.1, hr.2, rfl⟩) fun t ht => ?_
  obtain ⟨h1, rfl⟩ := ht
  exact Is.dcd (fun h => Is.pure (.inr (.inl ⟨h1, by omega, rfl, rfl⟩))) (fun h => Is.pure (.inr (.inr ⟨h1, by omega, rfl, rfl⟩)))
theorem behR_0 : BehR [[]] 1 (inQ []) := by
  refine ⟨rfl, fun p m h => ?_, fun p m h k => ?_⟩
  · rw [List.getElem?_singleton] at h
    split at h <;> cases h
    simp
  · rw [List.getElem?_singleton] at h
    split at h <;> cases h
    simp [inQ]
theorem from_ok {l : List T_Regex} (ok : ∀ x ∈ l, okT_Regex x) (hp : partsL l ≤ 1048576) : Is (M.nfa_FromRegexes l) (fun r => Ans l r.2 r.1 zN (nfaOf l)) := by
  unfold M.nfa_FromRegexes
  have hn : ∀ y ∈ l, M.nfa_nodes fuel y = some (parts y : Int) := fun y hy => nodes_ok fuel y (by have := parts_mem hy; unfold fuel; omega) (by have := parts_mem hy; omega)
  refine Is.bs (P := fun t => (∀ y ∈ l, V 30 y = true) ∧ t = (partsL l : Int)) ((check_loop hp (v := M.regex_Valid) (n := M.nfa_nodes fuel) (fun y hy => Valid_ok (ok y hy)) hn (z := (zN, (1 : Int))) (fun _ _ => rfl)).mono fun s hs => sp_mono hs fun r hr => .inl ⟨hr.1, by rw [hr.2], by rw [hr.2]⟩) fun t ht => ?_
  obtain ⟨h1, rfl⟩ := ht
  refine Is.dcd (fun h => Is.pure (.inr (.inl ⟨h1, by omega, rfl, rfl⟩))) (fun h => ?_)
  have h500 : partsL l ≤ 500 := by omega
  have hlen := len_parts l
  refine Is.mono (P := fun r => r = (nfaOf l, 0)) ?_ (fun r hr => .inr (.inr ⟨h1, h500, by rw [hr], by rw [hr]⟩))
  have hg := gd9_go l 0 s09 gd9_0
  have hgl := goF_len l 0 s09
  have hs0 : s09.1.S.length = 0 := rfl
  refine Is.bnd (P := fun (v : List (Vec 4) × List (List (Int × Bool)) × List Int) => v.1 = (goF 0 l s09).1.S ∧ BehR v.2.1 ((goF 0 l s09).1.S.length + 1) (inQ (goF 0 l s09).1.P) ∧ v.2.2 = (goF 0 l s09).2) ?_ ?_
  · refine Is.upto (fun i (st : List (Vec 4) × List (List (Int × Bool)) × List Int × Int) => st.2.2.2 = (i : Int) ∧ st.1 = (goF 0 (l.take i) s09).1.S ∧ BehR st.2.1 ((goF 0 (l.take i) s09).1.S.length + 1) (inQ (goF 0 (l.take i) s09).1.P) ∧ st.2.2.1 = (goF 0 (l.take i) s09).2) l.length (by omega) ⟨rfl, rfl, behR_0, rfl⟩ ?_ ?_
    · rintro i ⟨S, bh, a, _⟩ hi ⟨rfl, e1, e2, e3⟩
      simp only at e1 e2 e3
      subst e1 e3
      have gi := gd9_go (l.take i) 0 s09 gd9_0
      have gl := goF_len (l.take i) 0 s09
      have hpt := parts_take hi
      have hpl := parts_take_le l (i + 1)
      have hsn := goF_snoc l[i] (l.take i) 0 s09
      rw [← take_snoc hi, show 0 + (l.take i).length = i by rw [List.length_take]; omega] at hsn
      generalize goF 0 (l.take i) s09 = s at e2 gi gl hsn
      have hy := bd_len l[i] s.1
      have hyb := bd_bnd l[i] s.1
      have hyg := bd_grow l[i] s.1
      have hal := gi.len
      refine Is.dt (by omega) (Is.bnd (P := fun (v : List (Vec 4) × List (List (Int × Bool)) × List Int) => v.1 = (stF i l[i] s).1.S ∧ BehR v.2.1 ((stF i l[i] s).1.S.length + 1) (inQ (stF i l[i] s).1.P) ∧ v.2.2 = (stF i l[i] s).2) (Is.bnq (idxL_nat hi) (Is.bnd (expr_ok 30 fuel l[i] s.1 bh (h1 _ (List.getElem_mem hi)) (by unfold fuel; omega) e2 gi.cl (by omega)) ?_)) ?_)
      · rintro ⟨vp, vs, vbh⟩ ⟨f1, f2, f3⟩
        simp only at f1 f2 f3
        subst f1 f2
        refine Is.bnd (link_ok f3 (fr := [0]) (to := (bd l[i] s.1).1.fi) (fun p hp => by obtain rfl := List.mem_singleton.1 hp; omega) (by simp) (by omega)) ?_
        rintro ⟨ws, wbh⟩ ⟨g1, g2⟩
        simp only at g1 g2
        subst g1
        have hpl2 : (pad s.2 (bd l[i] s.1).2.S.length).length = (bd l[i] s.1).2.S.length + 1 := pad_len (by omega)
        refine Is.bnq (pad_loop (a := s.2) (n := (bd l[i] s.1).2.S.length) (by omega) (by omega) (fun _ => rfl)) ?_
        refine Is.bnq (set_loop (la := (bd l[i] s.1).1.la) (v := (i : Int)) (fun p hp => by rw [hpl2]; have := hyb.2 p hp; omega) (by omega) (fun _ _ => rfl)) ?_
        refine Is.of (fin_ok (f := fun y => ((bd l[i] s.1).2.S, wbh, y)) (by rw [setA_len, hpl2]; omega)) ⟨rfl, g2.congr fun p q => ?_, rfl⟩
        show _ ↔ (p, q) ∈ (bd l[i] s.1).2.P ++ prodP [0] (bd l[i] s.1).1.fi
        rw [List.mem_append, mem_prodP]
        rfl
      · rintro ⟨vs, vbh, va⟩ ⟨f1, f2, f3⟩
        simp only at f1 f2 f3
        subst f1 f3
        refine Is.bnq (chk_succ (by omega)) (Is.next ⟨rfl, ?_, ?_, ?_⟩)
        · rw [hsn]
        · rw [hsn]; exact f2
        · rw [hsn]
    · rintro ⟨S, bh, a, _⟩ ⟨rfl, e1, e2, e3⟩
      simp only at e1 e2 e3
      rw [List.take_length] at e1 e2 e3
      exact Is.df (by omega) (Is.stop ⟨e1, e2, e3⟩)
  · rintro ⟨S, bh, a⟩ ⟨e1, e2, e3⟩
    simp only at e1 e2 e3
    subst e1 e3
    have hal := hg.len
    have hcl : ∀ p q, (p, q) ∈ (goF 0 l s09).1.P → q < (goF 0 l s09).2.length := fun p q h => by have := hg.cl p q h; omega
    have hpos := hg.pos
    have hN : (goF 0 l s09).2.length ≤ 501 := by omega
    rw [← hal] at e2
    have hbl := e2.len
    unfold nfaOf
    generalize (goF 0 l s09).2 = acc at *
    generalize (goF 0 l s09).1.S = S at *
    generalize (goF 0 l s09).1.P = P at *
    have hL := arcsN_len S P acc.length
    have hk : ∀ k, k ≤ acc.length → (arcsN S P acc.length k).length ≤ 251001 := fun k hk => Nat.le_trans (hL k) (Nat.le_trans (Nat.mul_le_mul hk (Nat.le_refl _)) (Nat.le_trans (Nat.mul_le_mul hN hN) (by decide)))
    refine Is.bnq (x := arcsN S P acc.length acc.length) (Is.eq ?_) (Is.pure rfl)
    refine Is.upto (fun i (st : List T_NFAArc × Int) => st.2 = (i : Int) ∧ st.1 = arcsN S P acc.length i) acc.length (by omega) ⟨rfl, rfl⟩ ?_ ?_
    · rintro i ⟨ar, _⟩ hi ⟨rfl, h2⟩
      obtain rfl : ar = _ := h2
      have hib : i < bh.length := by omega
      refine Is.dt (by omega) (Is.bnq (x := arcsN S P acc.length (i + 1)) (Is.eq (Is.bnq (idxL_nat hib) (Is.bnq (keys_row e2 hcl (by omega) (List.getElem?_eq_getElem hib)) ?_))) (Is.bnq (chk_succ (by omega)) (Is.next ⟨rfl, rfl⟩)))
      have hrl := rowQ_len P acc.length i
      refine Is.upto (fun k (st : List T_NFAArc × Int) => st.2 = (k : Int) ∧ st.1 = arcsN S P acc.length i ++ ((rowQ P acc.length i).take k).map (mkA S i)) (rowQ P acc.length i).length (by omega) ⟨rfl, by simp⟩ ?_ ?_
      · rintro k ⟨a2, _⟩ hk2 ⟨rfl, h2⟩
        obtain rfl : a2 = _ := h2
        have hmem := mem_rowQ.1 (List.getElem_mem hk2)
        have hq1 := hpos _ _ hmem.2
        have h6 := hk i (by omega)
        refine Is.dt (by rw [toI_len]; omega) (Is.bnq (toI_idx hk2) (Is.bnq (x := (((rowQ P acc.length i)[k] : Int)) - 1) (chk_i64 (by omega) (by omega)) (Is.bnq (vec_idx hq1 (by omega)) (Is.bnq (appM_ok ?_) (Is.bnq (chk_succ (by omega)) (Is.next ⟨rfl, ?_⟩))))))
        · rw [List.length_append, List.length_map, List.length_take, List.length_singleton]; omega
        · rw [take_snoc hk2, List.map_append, List.append_assoc]
          rfl
      · rintro ⟨a2, _⟩ ⟨rfl, h2⟩
        obtain rfl : a2 = _ := h2
        refine Is.df (by rw [toI_len]; omega) (Is.stop ?_)
        rw [List.take_length, arcsN_succ]
        rfl
    · rintro ⟨ar, _⟩ ⟨rfl, h2⟩
      obtain rfl : ar = _ := h2
      exact Is.df (by omega) (Is.stop rfl)
theorem mem_pad {a : List Int} {n : Nat} (h : ∀ x ∈ a, -1 ≤ x) : ∀ x ∈ pad a n, -1 ≤ x := by
  intro x hx
  rcases List.mem_append.1 hx with hx | hx
  · exact h x hx
  · rw [(List.mem_replicate.1 hx).2]; omega
theorem mem_setA {i : Int} (hi : 0 ≤ i) : ∀ (la : List Nat) {a : List Int}, (∀ x ∈ a, -1 ≤ x) → ∀ x ∈ setA la i a, -1 ≤ x
  | [], _, h => h
  | p :: la, a, h => mem_setA hi la (a := a.set p i) fun x hx => by
    rcases List.mem_or_eq_of_mem_set hx with hx | rfl
    · exact h x hx
    · omega
theorem mem_fin0 {i : Int} (hi : 0 ≤ i) {n : Bool} {a : List Int} (h : ∀ x ∈ a, -1 ≤ x) : ∀ x ∈ fin0 n i a, -1 ≤ x := by
  unfold fin0
  cases n && decide (a.getD 0 0 < 0)
  · exact h
  · intro x hx
    rcases List.mem_or_eq_of_mem_set hx with hx | rfl
    · exact h x hx
    · omega
theorem acc_low : ∀ (l : List T_Regex) (i : Nat) (s : Bs × List Int), (∀ x ∈ s.2, -1 ≤ x) → ∀ x ∈ (goF i l s).2, -1 ≤ x
  | [], _, _, h => h
  | y :: l, i, s, h => acc_low l (i + 1) (stF i y s) (mem_fin0 (Int.natCast_nonneg i) (mem_setA (Int.natCast_nonneg i) _ (mem_pad h)))
theorem mem_arcsN {S : List (Vec 4)} {P : List (Nat × Nat)} {N k : Nat} {a : T_NFAArc} : a ∈ arcsN S P N k ↔ ∃ p q, p < k ∧ q < N ∧ (p, q) ∈ P ∧ a = mkA S p q := by
  unfold arcsN arcsR
  rw [List.mem_flatMap]
  constructor
  · rintro ⟨p, hp, h⟩
    obtain ⟨q, hq, rfl⟩ := List.mem_map.1 h
    exact ⟨p, q, List.mem_range.1 hp, (mem_rowQ.1 hq).1, (mem_rowQ.1 hq).2, rfl⟩
  · rintro ⟨p, q, hp, hq, hR, rfl⟩
    exact ⟨p, List.mem_range.2 hp, List.mem_map.2 ⟨q, mem_rowQ.2 ⟨hq, hR⟩, rfl⟩⟩
theorem nfaOf_valid {l : List T_Regex} (h : partsL l ≤ 500) : VN (nfaOf l) ∧ (nfaOf l).Arcs.length ≤ 251001 := by
  have hg := gd9_go l 0 s09 gd9_0
  have hgl := goF_len l 0 s09
  have hs0 : s09.1.S.length = 0 := rfl
  have hal := hg.len
  have hN : (goF 0 l s09).2.length ≤ 501 := by omega
  refine ⟨⟨?_, ?_, ⟨?_, ?_⟩, rfl, acc_low l 0 s09 (by simp [s09]), ?_⟩, ?_⟩
  · show (1 : Int) ≤ ((goF 0 l s09).2.length : Int); omega
  · show ((goF 0 l s09).2.length : Int) ≤ 2000; omega
  · show (0 : Int) ≤ 0; omega
  · show (0 : Int) < ((goF 0 l s09).2.length : Int); omega
  · intro a ha
    obtain ⟨p, q, hp, hq, _, rfl⟩ := mem_arcsN.1 ha
    refine ⟨⟨?_, ?_⟩, ⟨?_, ?_⟩, fun e => by cases e⟩
    · show (0 : Int) ≤ (p : Int); omega
    · show (p : Int) < ((goF 0 l s09).2.length : Int); omega
    · show (0 : Int) ≤ (q : Int); omega
    · show (q : Int) < ((goF 0 l s09).2.length : Int); omega
  · exact Nat.le_trans (arcsN_len _ _ _ _) (Nat.le_trans (Nat.mul_le_mul hN hN) (by decide))
end Go.Proofs.Ytajmekjcnbmaaaa
namespace Go.Proofs.Ytajmekjcnbmaaaa
open Go.Lx Go.RowKit Go.ChangeShapes Go.WideShapes Go.ChangeAt
theorem bulkAll_eq {H : Type} : ∀ l : List (DataW H), Rows.uptoBulkAll l = (l.map Rows.uptoBulk).sum
  | [] => by simp [Rows.uptoBulkAll]
  | d :: l => by simp only [Rows.uptoBulkAll, List.map_cons, List.sum_cons, bulkAll_eq l]
abbrev bulk (H : Type) (d : DataW H) : Nat := Rows.uptoBulk d
theorem bulk_ok : Bulk bulk := by
  refine ⟨fun H es sp => ?_, fun H ps => ?_⟩
  · show _ ≤ Rows.uptoBulk (.slice es sp)
    simp only [Rows.uptoBulk, bulkAll_eq]
    show (es.map Rows.uptoBulk).sum ≤ _
    omega
  · show _ ≤ Rows.uptoBulk (.agg ps)
    simp only [Rows.uptoBulk, bulkAll_eq]
    exact Nat.le_refl _
theorem partsL_sum : ∀ {l : List T_Regex} {ns : List Nat}, ns.length = l.length → (∀ (i : Nat) (x : T_Regex), l[i]? = some x → ∃ k, ns[i]? = some k ∧ (okT_Regex x ∧ parts x ≤ k)) → partsL l ≤ ns.sum ∧ ∀ x ∈ l, okT_Regex x
  | [], ns, _, _ => by simp [partsL]
  | y :: l, [], h, _ => by simp at h
  | y :: l, n :: ns, h, hk => by
    obtain ⟨k, h1, h2, h3⟩ := hk 0 y rfl
    cases h1
    obtain ⟨h4, h5⟩ := partsL_sum (l := l) (ns := ns) (by simpa using h) (fun i x hx => by
      obtain ⟨k, a, b⟩ := hk (i + 1) x (by simpa using hx)
      exact ⟨k, by simpa using a, b⟩)
    refine ⟨by simp only [partsL, List.sum_cons]; omega, fun x hx => ?_⟩
    rcases List.mem_cons.1 hx with rfl | hx
    · exact h2
    · exact h5 x hx
set_option maxRecDepth 100000 in
theorem readsU_Regex : ∀ f, ReadsU bulk Try.prog 50 tT_Regex (fun y n => okT_Regex y ∧ parts y ≤ n) f := by
  intro f
  induction f using Nat.strongRecOn with
  | _ f ih =>
  intro H enc w cs x h
  obtain ⟨xs, m, hfm, hx, hl, hlen, hf⟩ := DataW.trod_struct Try.underlying50 h
  obtain ⟨y0, r0, k0⟩ := field_readsAt ((reads_int Try.underlying3).at m) hf hlen 0 rfl (o := 0) (s := 1) rfl (by kernel_rfl)
  obtain ⟨y1, r1, k1⟩ := field_readsAt ((reads_vec Try.underlying48 Try.underlying46 (by kernel_rfl) (by kernel_rfl)).at m) hf hlen 1 rfl (o := 1) (s := 4) rfl (by kernel_rfl)
  obtain ⟨y2, e2, g2, r2, k2⟩ := field_readsU (readsU_sliceAt bulk_ok Try.underlying37 (by kernel_rfl) (by decide) fun k hk => ih k (by omega)) hf hlen 2 rfl (o := 5) (s := 1) rfl (by kernel_rfl)
  have hl2 : cs.length = 6 := hl.trans (by kernel_rfl)
  obtain ⟨⟨ns, n1, n2, n3⟩, n4⟩ := k2
  obtain ⟨q1, q2⟩ := partsL_sum n1 n3
  have hb := bulk_ok.agg H (xs.map (·.1))
  have hs : bulk H e2.1 ≤ ((xs.map (·.1)).map (bulk H)).sum := sum_get (i := 2) (by simp [g2])
  refine ⟨⟨y0, y1, y2⟩, tT_Regex_iff.2 ⟨_, _, _, ?_, r0, r1, r2⟩, .mk _ k0 k1 q2 n4, ?_⟩
  · exact (cutc cs 0 1).trans (congrArg (_ ++ ·) ((cutc cs 1 4).trans (congrArg (_ ++ ·) (cutl (o := 5) (s := 1) hl2))))
  · rw [hx]
    simp only [parts]
    omega
theorem readsU_Regexes : ∀ f, ReadsU bulk Try.prog 37 (tSl tT_Regex) (fun l n => ((∀ x ∈ l, okT_Regex x) ∧ l.length ≤ maxLen) ∧ partsL l ≤ n) f := by
  intro f H enc w cs x h
  obtain ⟨y, h1, ⟨ns, n1, n2, n3⟩, n4⟩ := readsU_sliceAt bulk_ok Try.underlying37 (by kernel_rfl) (by decide) (fun m _ => readsU_Regex m) H enc w cs x h
  obtain ⟨q1, q2⟩ := partsL_sum n1 n3
  exact ⟨y, h1, ⟨q2, n4⟩, by omega⟩
end Go.Proofs.Ytajmekjcnbmaaaa
namespace Go.Proofs.Ytajmekjcnbmaaaa
open Go.Lx
open Classical
def big : Nat := 2199023255552
inductive Fit : T_Regex → Prop where
  | mk (x : T_Regex) : W4 x.Set → x.Kids.length ≤ big → (x.Kind = 6 → ∃ y, x.Kids = [y]) → (x.Kind = 1 → x = rNone) → (x.Kind = 2 → x = rEmpty) → (∀ y ∈ x.Kids, Fit y) → Fit x
theorem Fit.set {x} (h : Fit x) : W4 x.Set := by cases h; assumption
theorem Fit.len {x} (h : Fit x) : x.Kids.length ≤ big := by cases h; assumption
theorem Fit.star {x} (h : Fit x) : x.Kind = 6 → ∃ y, x.Kids = [y] := by cases h; assumption
theorem Fit.none {x} (h : Fit x) : x.Kind = 1 → x = rNone := by cases h; assumption
theorem Fit.empty {x} (h : Fit x) : x.Kind = 2 → x = rEmpty := by cases h; assumption
theorem Fit.kids {x} (h : Fit x) : ∀ y ∈ x.Kids, Fit y := by cases h; assumption
theorem height_kid {x y : T_Regex} (h : y ∈ x.Kids) : height y < height x := by
  obtain ⟨k, s, l⟩ := x
  have : height y ≤ heightL l := height_mem h
  simp only [height]
  omega
def FH (x : T_Regex) : Prop := Fit x ∧ height x < fuel
end Go.Proofs.Ytajmekjcnbmaaaa
namespace Go.Proofs.Ytajmekjcnbmaaaa
open Go.Lx
open Classical
inductive Cn : T_Regex → Prop where
  | mk (x : T_Regex) : W4 x.Set → (x.Kind = 6 → ∃ y, x.Kids = [y]) → (x.Kind = 1 → x = rNone) → (x.Kind = 2 → x = rEmpty) → (∀ y ∈ x.Kids, Cn y) → Cn x
theorem Cn.set {x} (h : Cn x) : W4 x.Set := by cases h; assumption
theorem Cn.star {x} (h : Cn x) : x.Kind = 6 → ∃ y, x.Kids = [y] := by cases h; assumption
theorem Cn.none {x} (h : Cn x) : x.Kind = 1 → x = rNone := by cases h; assumption
theorem Cn.empty {x} (h : Cn x) : x.Kind = 2 → x = rEmpty := by cases h; assumption
theorem Cn.kids {x} (h : Cn x) : ∀ y ∈ x.Kids, Cn y := by cases h; assumption
theorem Fit.cn {x} (h : Fit x) : Cn x := by
  induction h with
  | mk x h1 _ h3 h4 h5 _ ih => exact .mk x h1 h3 h4 h5 ih
theorem star_eq {x : T_Regex} (hC : Cn x) (h : x.Kind = 6) : ∃ s y, x = ⟨6, s, [y]⟩ ∧ Cn y := by
  obtain ⟨y, hy⟩ := hC.star h
  obtain ⟨k, s, l⟩ := x
  cases h; cases hy
  exact ⟨s, y, rfl, hC.kids y (by simp)⟩
mutual
def ua : T_Regex → List T_Regex
  | ⟨k, s, l⟩ => bif k == 5 then ⟨k, s, l⟩ :: uaL l else bif k == 1 then [] else [⟨k, s, l⟩]
def uaL : List T_Regex → List T_Regex
  | [] => []
  | y :: l => ua y ++ uaL l
end
def pua (x : T_Regex) : List T_Regex := bif x.Kind == 5 then uaL x.Kids else bif x.Kind == 1 then [] else [x]
def sfx : List Nat → List (List Nat)
  | [] => []
  | a :: v => (a :: v) :: sfx v
mutual
noncomputable def SS : T_Regex → List Nat → List T_Regex
  | ⟨k, s, l⟩, v => bif k == 4 then SC l v else bif k == 5 then SU l v
    else bif k == 6 then ⟨k, s, l⟩ :: (sfx v).map (fun u => ct [drs (l.headD rNone) u, ⟨k, s, l⟩]) else [⟨k, s, l⟩, rNone, rEmpty]
noncomputable def SU : List T_Regex → List Nat → List T_Regex
  | [], _ => []
  | y :: l, v => SS y v ++ SU l v
noncomputable def SC : List T_Regex → List Nat → List T_Regex
  | [], _ => []
  | y :: l, v => (if ne l = [] then (sfx v).flatMap (fun u => SS y u) else (sfx v).flatMap (fun u => pua (ct (drs y u :: l)))) ++ SC l v
end
noncomputable def hd (y : T_Regex) (l : List T_Regex) (v : List Nat) : List T_Regex :=
  if ne l = [] then (sfx v).flatMap (fun u => SS y u) else (sfx v).flatMap (fun u => pua (ct (drs y u :: l)))
end Go.Proofs.Ytajmekjcnbmaaaa
namespace Go.Proofs.Ytajmekjcnbmaaaa
open Go.Lx
open Classical
def ix (l : List Bool) (j : Nat) : Bool := l.getD j false
theorem ix_get {l : List Bool} {j : Nat} (h : j < l.length) : idxL l (j : Int) = some (ix l j) := by
  rw [idxL_nat h]; simp [ix, List.getD_eq_getElem?_getD, h]
theorem ix_set {l : List Bool} {k j : Nat} {v : Bool} (h : k < l.length) : ix (l.set k v) j = if j = k then v else ix l j := by
  unfold ix
  simp only [List.getD_eq_getElem?_getD, List.getElem?_set]
  by_cases e : k = j
  · subst e; simp [h]
  · rw [if_neg e, if_neg (fun h => e h.symm)]
theorem ix_rep (n j : Nat) : ix (List.replicate n false) j = false := by
  unfold ix
  simp only [List.getD_eq_getElem?_getD, List.getElem?_replicate]
  split <;> rfl
def cntF (p : Nat → Bool) : Nat → Nat
  | 0 => 0
  | n + 1 => cntF p n + (bif p n then 0 else 1)
theorem cntF_le {p q : Nat → Bool} {n : Nat} (h : ∀ j, j < n → p j = true → q j = true) : cntF q n ≤ cntF p n := by
  induction n with
  | zero => exact Nat.le_refl _
  | succ n ih =>
    have h1 := ih fun j hj => h j (by omega)
    have h2 := h n (by omega)
    simp only [cntF]
    cases hp : p n
    · cases q n <;> simp <;> omega
    · rw [h2 hp]; simpa using h1
theorem cntF_lt {p q : Nat → Bool} {n : Nat} (h : ∀ j, j < n → p j = true → q j = true) {i : Nat} (hi : i < n) (hp : p i = false) (hq : q i = true) : cntF q n < cntF p n := by
  induction n with
  | zero => omega
  | succ n ih =>
    have h2 := h n (by omega)
    simp only [cntF]
    by_cases e : i = n
    · subst e
      have := cntF_le (p := p) (q := q) (n := i) fun j hj => h j (by omega)
      rw [hp, hq]; simp; omega
    · have h1 := ih (fun j hj => h j (by omega)) (by omega)
      cases hpn : p n
      · cases q n <;> simp <;> omega
      · rw [h2 hpn]; simpa using h1
theorem cntF_bound (p : Nat → Bool) (n : Nat) : cntF p n ≤ n := by
  induction n with
  | zero => exact Nat.le_refl _
  | succ n ih => simp only [cntF]; cases p n <;> simp <;> omega
def seg (w : List Nat) (i j : Nat) : List Nat := (w.take j).drop i
theorem seg_split {w : List Nat} {i j : Nat} (hij : i ≤ j) (hj : j ≤ w.length) (P Q : List Nat → Prop) :
    (∃ u v, seg w i j = u ++ v ∧ P u ∧ Q v) ↔ ∃ m, i ≤ m ∧ m ≤ j ∧ P (seg w i m) ∧ Q (seg w m j) := by
  have cut : ∀ m, i ≤ m → m ≤ j → seg w i j = seg w i m ++ seg w m j := by
    intro m h1 h2
    unfold seg
    have e : w.take j = w.take m ++ (w.take j).drop m := by
      have := List.take_append_drop m (w.take j)
      rw [List.take_take, Nat.min_eq_left h2] at this
      exact this.symm
    have hl : (w.take m).length = m := by rw [List.length_take]; omega
    conv => lhs; rw [e]
    rw [List.drop_append, hl, Nat.sub_eq_zero_of_le h1, List.drop_zero]
  constructor
  · rintro ⟨u, v, h, hu, hv⟩
    have hlen : (seg w i j).length = j - i := by unfold seg; rw [List.length_drop, List.length_take]; omega
    have hl := congrArg List.length h
    rw [List.length_append, hlen] at hl
    have h2 := cut (i + u.length) (by omega) (by omega)
    have hlu : (seg w i (i + u.length)).length = u.length := by unfold seg; rw [List.length_drop, List.length_take]; omega
    rw [h] at h2
    obtain ⟨e1, e2⟩ := List.append_inj h2 hlu.symm
    exact ⟨i + u.length, by omega, by omega, e1 ▸ hu, e2 ▸ hv⟩
  · rintro ⟨m, h1, h2, hp, hq⟩
    exact ⟨_, _, cut m h1 h2, hp, hq⟩
theorem seg_self (w : List Nat) (i : Nat) : seg w i i = [] := by
  unfold seg
  exact List.drop_eq_nil_of_le (by rw [List.length_take]; omega)
theorem seg_nil {w : List Nat} {i j : Nat} (hij : i ≤ j) (hj : j ≤ w.length) : seg w i j = [] ↔ i = j := by
  constructor
  · intro h
    have := congrArg List.length h
    unfold seg at this
    rw [List.length_drop, List.length_take, List.length_nil] at this
    omega
  · rintro rfl; exact seg_self w i
theorem seg_one {w : List Nat} {i j b : Nat} (hij : i ≤ j) (hj : j ≤ w.length) : seg w i j = [b] ↔ j = i + 1 ∧ w[i]? = some b := by
  have h1 : i < w.length → seg w i (i + 1) = [w[i]?.getD 0] := by
    intro h
    unfold seg
    rw [List.take_add_one, List.drop_append, List.length_take, Nat.min_eq_left (by omega), Nat.sub_self, List.drop_zero, List.drop_eq_nil_of_le (by rw [List.length_take]; omega), List.getElem?_eq_getElem h]
    rfl
  constructor
  · intro h
    have hl := congrArg List.length h
    unfold seg at hl
    rw [List.length_drop, List.length_take, List.length_singleton] at hl
    have e : j = i + 1 := by omega
    subst e
    rw [h1 (by omega)] at h
    refine ⟨rfl, ?_⟩
    rw [List.getElem?_eq_getElem (by omega)] at h ⊢
    simpa using h
  · rintro ⟨rfl, h⟩
    rw [h1 (by omega), h]; rfl
theorem LC_append {l m : List T_Regex} : ∀ {w : List Nat}, LC (l ++ m) w ↔ ∃ u v, w = u ++ v ∧ LC l u ∧ LC m v := by
  induction l with
  | nil =>
    intro w
    exact ⟨fun h => ⟨[], w, rfl, rfl, h⟩, fun ⟨u, v, e, hu, hv⟩ => by cases hu; subst e; exact hv⟩
  | cons y l ih =>
    intro w
    simp only [List.cons_append, LC, ih]
    constructor
    · rintro ⟨u, v, rfl, hu, u2, v2, rfl, h2, h3⟩
      exact ⟨u ++ u2, v2, by simp, ⟨u, u2, rfl, hu, h2⟩, h3⟩
    · rintro ⟨u, v, rfl, ⟨u1, u2, rfl, h1, h2⟩, h3⟩
      exact ⟨u1, u2 ++ v, by simp, h1, u2, v, rfl, h2, h3⟩
theorem St_snoc {P : List Nat → Prop} {u v : List Nat} (hu : St P u) (hv : P v) : St P (u ++ v) := by
  induction hu with
  | nil => have := St.cons hv .nil; rwa [List.append_nil] at this
  | cons h _ ih => rw [List.append_assoc]; exact .cons h ih
theorem L_6_iff {s y} {fr : List Bool} {W : List Nat} {j : Nat} {z : Bool} : ((z = true) ↔ ∃ i, i ≤ j ∧ ix fr i = true ∧ L ⟨6, s, [y]⟩ (seg W i j)) ↔ ((z = true) ↔ ∃ i, i ≤ j ∧ ix fr i = true ∧ St (L y) (seg W i j)) := by
  simp only [L_6]
  rfl
theorem LC_single {y : T_Regex} {w : List Nat} : LC [y] w ↔ L y w := by simp [LC]
theorem refHas_ok {v : Vec 4} (hv : W4 v) {c : Nat} (hc : c < 256) : M.ref08_Has v (c : Int) = some (mem v c) := by
  have e1 := quo_byte (k := .i64) (c := c) (wrap_i64 (by omega) (by omega))
  have e2 := vget_wd hv (i := c / 64) (by omega)
  have e3 : remM (c : Int) 64 = some ((c % 64 : Nat) : Int) := rem_nat (b := 64) (by omega)
  have e4 := shr_u64 (a := wd v (c / 64)) (t := c % 64) (by omega)
  have hlt : wd v (c / 64) >>> (c % 64) < 18446744073709551616 := Nat.lt_of_le_of_lt (Nat.shiftRight_le _ _) (wd_lt hv _)
  have e5 := bits_and_u64 (b := 1) hlt (by omega)
  have e6 : IntKind.u64.wrap ((c % 64 : Nat) : Int) = ((c % 64 : Nat) : Int) := wrap_u64 (by omega) (by omega)
  unfold M.ref08_Has mem
  simp only [e1, e2, e3, e6, e4, Option.bind_some]
  rw [show (1 : Int) = ((1 : Nat) : Int) from rfl, e5]
  congr 1
  rw [Nat.testBit, Nat.and_comm 1, Nat.and_one_is_mod]
  rcases Nat.mod_two_eq_zero_or_one (wd v (c / 64) >>> (c % 64)) with h | h <;> rw [h] <;> rfl
def Ends (R : List Nat → Prop) (w : List Nat) (fr out : List Bool) : Prop := out.length = w.length + 1 ∧ ∀ j, j ≤ w.length → (ix out j = true ↔ ∃ i, i ≤ j ∧ ix fr i = true ∧ R (seg w i j))
theorem Ends.congr {R R' : List Nat → Prop} {w : List Nat} {fr out : List Bool} (h : Ends R w fr out) (e : ∀ u, R u ↔ R' u) : Ends R' w fr out :=
  ⟨h.1, fun j hj => (h.2 j hj).trans ⟨fun ⟨i, a, b, c⟩ => ⟨i, a, b, (e _).1 c⟩, fun ⟨i, a, b, c⟩ => ⟨i, a, b, (e _).2 c⟩⟩⟩
theorem Ends.comp {R Q : List Nat → Prop} {w : List Nat} {fr mid out : List Bool} (h1 : Ends R w fr mid) (h2 : Ends Q w mid out) : Ends (fun x => ∃ u v, x = u ++ v ∧ R u ∧ Q v) w fr out := by
  refine ⟨h2.1, fun j hj => (h2.2 j hj).trans ?_⟩
  constructor
  · rintro ⟨m, hm, hx, hq⟩
    obtain ⟨i, hi, hf, hr⟩ := (h1.2 m (by omega)).1 hx
    exact ⟨i, by omega, hf, (seg_split (by omega) hj R Q).2 ⟨m, hi, hm, hr, hq⟩⟩
  · rintro ⟨i, hi, hf, h⟩
    obtain ⟨m, h3, h4, hr, hq⟩ := (seg_split hi hj R Q).1 h
    exact ⟨m, h4, (h1.2 m (by omega)).2 ⟨i, h3, hf, hr⟩, hq⟩
theorem u8_ok (u : UInt8) : u.toNat < 256 := u.toNat_lt
theorem bytes_len (s : Str) : (bytesOf s).length = s.length := by simp [bytesOf]
theorem bytes_get {s : Str} {i : Nat} (h : i < s.length) : (bytesOf s)[i]? = some (s[i]).toNat := by simp [bytesOf, h]
theorem or_loop {ρ : Type} {body : List Bool × Int → Option (Step (List Bool × Int) ρ)} {a b : List Bool} {n : Nat} {Q : ρ → Prop} (hn : n ≤ 4611686018427387903) (ha : a.length = n) (hb : b.length = n)
    (step : ∀ k st, k < n → st.length = n → body (st, (k : Int)) = if ix st k then (some (.next (st.set k true, ((k + 1 : Nat) : Int)))) else some (.next (st.set k (ix b k), ((k + 1 : Nat) : Int))))
    (last : ∀ st, st.length = n → (∀ j, j < n → ix st j = (ix a j || ix b j)) → ∃ r, body (st, (n : Int)) = some (.stop r) ∧ Q r) : Is (loopM body fuel (a, (0 : Int))) Q := by
  refine Is.upto (fun k (st : List Bool × Int) => st.2 = (k : Int) ∧ st.1.length = n ∧ ∀ j, j < n → ix st.1 j = (ix a j || (decide (j < k) && ix b j))) n (by omega) ⟨rfl, ha, by simp⟩ ?_ ?_
  · rintro k ⟨st, _⟩ hk ⟨rfl, hl, hJ⟩
    simp only at hl hJ
    rw [step k st hk hl]
    have hkk := hJ k hk
    rw [dec_f (by omega : ¬ k < k), Bool.false_and, Bool.or_false] at hkk
    split
    · rename_i h
      refine Is.next ⟨rfl, by simpa using hl, fun j hj => ?_⟩
      rw [ix_set (by omega)]
      by_cases e : j = k
      · subst e; rw [if_pos rfl, ← hkk, h]; rfl
      · rw [if_neg e, hJ j hj]
        congr 2
        exact decide_eq_decide.2 (by omega)
    · rename_i h
      refine Is.next ⟨rfl, by simpa using hl, fun j hj => ?_⟩
      rw [ix_set (by omega)]
      have h : ix st k = false := by simpa using h
      by_cases e : j = k
      · subst e; rw [if_pos rfl, ← hkk, h, dec_t (by omega : j < j + 1)]; simp
      · rw [if_neg e, hJ j hj]
        congr 2
        exact decide_eq_decide.2 (by omega)
  · rintro ⟨st, _⟩ ⟨rfl, hl, hJ⟩
    obtain ⟨r, hr, hq⟩ := last st hl fun j hj => by rw [hJ j hj, dec_t hj, Bool.true_and]
    exact ⟨_, hr, hq⟩
theorem ends_ok : ∀ fl x, Fit x → height x < fl → ∀ (s : Str) (fr : List Bool), s.length ≤ 1000000 → fr.length = s.length + 1 → Is (M.ref08_ends fl x s fr) (Ends (L x) (bytesOf s) fr) := by
  intro fl
  induction fl with
  | zero => intro a _ h; omega
  | succ fl ih =>
    rintro ⟨k, st, l⟩ hF hh s fr hs hfr
    have hb := bytes_len s
    have hk : ∀ y ∈ l, ∀ fr : List Bool, fr.length = s.length + 1 → Is (M.ref08_ends fl y s fr) (Ends (L y) (bytesOf s) fr) := fun y hy fr hfr =>
      ih y (hF.kids y hy) (by have := height_kid (x := ⟨k, st, l⟩) hy; omega) s fr hs hfr
    have hll : l.length ≤ 4611686018427387903 := Nat.le_trans hF.len (by decide)
    unfold M.ref08_ends
    refine Is.bnq (chk_succ (i := s.length) (by omega)) (Is.bnq (mkM_nat (n := s.length + 1) (by omega)) ?_)
    have hcopy : copyL (List.replicate (s.length + 1) false) fr = fr := by
      unfold copyL
      rw [List.length_replicate, ← hfr, List.take_length, List.drop_eq_nil_of_le (by rw [List.length_replicate]; omega), List.append_nil]
    simp only [hcopy]
    have hfrE : Ends (fun u => u = []) (bytesOf s) fr fr := by
      refine ⟨by omega, fun j hj => ⟨fun h => ⟨j, Nat.le_refl _, h, seg_self _ _⟩, ?_⟩⟩
      rintro ⟨i, hi, h, e⟩
      rw [(seg_nil hi hj).1 e] at h
      exact h
    refine Is.bnd (P := fun r => Ends (L ⟨k, st, l⟩) (bytesOf s) fr r) ?_ (fun r hr => Is.pure hr)
    rcases dispatch k with rfl | rfl | rfl | rfl | rfl | ⟨h2, h3, h4, h5, h6⟩
    · refine Is.ct rfl (Is.pure (hfrE.congr fun u => L_2.symm))
    · refine Is.cf rfl (Is.ct rfl ?_)
      refine Is.upto (fun i (z : List Bool × Int) => z.2 = (i : Int) ∧ z.1.length = s.length + 1 ∧ ∀ j, j ≤ s.length → (ix z.1 j = true ↔ j ≤ i ∧ ∃ i', j = i' + 1 ∧ ix fr i' = true ∧ ∃ b, (bytesOf s)[i']? = some b ∧ mem st b = true)) s.length (by omega) ⟨rfl, by simp, ?_⟩ ?_ ?_
      · intro j hj
        simp only [ix_rep]
        refine ⟨fun h => by simp at h, ?_⟩
        rintro ⟨h, i', rfl, _⟩
        omega
      · rintro i ⟨z, _⟩ hi ⟨rfl, hl, hJ⟩
        simp only at hl hJ
        dsimp only
        refine Is.dt (show (i : Int) < (s.length : Int) by omega) (Is.bnq (chk_succ (by omega)) (Is.bnq (ix_get (by omega)) ?_))
        have hz : ∀ v, (v = true ↔ ix fr i = true ∧ mem st (s[i]).toNat = true) → ∀ j, j ≤ s.length → (ix (z.set (i + 1) v) j = true ↔ j ≤ i + 1 ∧ ∃ i', j = i' + 1 ∧ ix fr i' = true ∧ ∃ b, (bytesOf s)[i']? = some b ∧ mem st b = true) := by
          intro v hv j hj
          rw [ix_set (by omega)]
          by_cases e : j = i + 1
          · subst e
            rw [if_pos rfl, hv]
            constructor
            · rintro ⟨h1, h2⟩
              exact ⟨Nat.le_refl _, i, rfl, h1, _, bytes_get hi, h2⟩
            · rintro ⟨_, i', e, h1, b, h2, h3⟩
              obtain rfl : i = i' := by omega
              rw [bytes_get hi] at h2
              cases h2
              exact ⟨h1, h3⟩
          · rw [if_neg e, hJ j hj]
            constructor
            · rintro ⟨h1, h2⟩; exact ⟨by omega, h2⟩
            · rintro ⟨h1, h2⟩; exact ⟨by omega, h2⟩
        refine Is.cnd (fun h => ?_) (fun h => ?_)
        · refine Is.bnq (idxS_nat hi) ?_
          rw [wrap_i64 (n := ((s[i]).toNat : Int)) (by omega) (by have := u8_ok s[i]; omega)]
          refine Is.bnq (refHas_ok hF.set (u8_ok _)) (Is.bnq (setL_nat (by omega)) (Is.next ⟨rfl, by simpa using hl, hz _ ?_⟩))
          rw [h]; simp
        · refine Is.bnq (setL_nat (by omega)) (Is.next ⟨rfl, by simpa using hl, hz _ ?_⟩)
          rw [h]; simp
      · rintro ⟨z, _⟩ ⟨rfl, hl, hJ⟩
        simp only at hl hJ
        refine Is.df (show ¬ (s.length : Int) < (s.length : Int) by omega) (Is.stop ⟨by show z.length = _; omega, fun j hj => (hJ j (by omega)).trans ?_⟩)
        constructor
        · rintro ⟨_, i', rfl, h1, b, h2, h3⟩
          exact ⟨i', by omega, h1, L_3.2 ⟨b, (seg_one (by omega) hj).2 ⟨rfl, h2⟩, h3⟩⟩
        · rintro ⟨i, hi, h1, h⟩
          obtain ⟨b, hb2, h3⟩ := L_3.1 h
          obtain ⟨rfl, h2⟩ := (seg_one hi hj).1 hb2
          exact ⟨by omega, i, rfl, h1, b, h2, h3⟩
    · refine Is.cf rfl (Is.cf rfl (Is.ct rfl ?_))
      refine Is.upto (fun i (z : List Bool × Int) => z.2 = (i : Int) ∧ Ends (LC (l.take i)) (bytesOf s) fr z.1) l.length (by omega) ⟨rfl, hfrE⟩ ?_ ?_
      · rintro i ⟨z, _⟩ hi ⟨rfl, hJ⟩
        simp only at hJ
        refine Is.dt (show (i : Int) < (l.length : Int) by omega) (Is.bnq (idxL_nat hi) (Is.bnd (hk _ (List.getElem_mem hi) z (by have := hJ.1; omega)) fun r hr => Is.bnq (chk_succ (by omega)) (Is.next ⟨rfl, ?_⟩)))
        refine (hJ.comp hr).congr fun u => ?_
        rw [List.take_add_one, List.getElem?_eq_getElem hi]
        show _ ↔ LC (l.take i ++ [l[i]]) u
        rw [LC_append]
        simp only [LC_single]
      · rintro ⟨z, _⟩ ⟨rfl, hJ⟩
        refine Is.df (show ¬ (l.length : Int) < (l.length : Int) by omega) (Is.stop ?_)
        rw [List.take_length] at hJ
        exact hJ.congr fun u => L_4.symm
    · refine Is.cf rfl (Is.cf rfl (Is.cf rfl (Is.ct rfl ?_)))
      refine Is.upto (fun i (z : List Bool × Int) => z.2 = (i : Int) ∧ Ends (LU (l.take i)) (bytesOf s) fr z.1) l.length (by omega) ⟨rfl, ?_⟩ ?_ ?_
      · refine ⟨by simp [hb], fun j hj => ?_⟩
        show ix (List.replicate (s.length + 1) false) j = true ↔ _
        rw [ix_rep]
        simp [LU]
      · rintro i ⟨z, _⟩ hi ⟨rfl, hJ⟩
        simp only at hJ
        refine Is.dt (show (i : Int) < (l.length : Int) by omega) ?_
        refine Is.bnd (P := fun r => Ends (LU (l.take (i + 1))) (bytesOf s) fr r) ?_ (fun r hr => Is.bnq (chk_succ (by omega)) (Is.next ⟨rfl, hr⟩))
        refine Is.bnq (idxL_nat hi) (Is.bnd (hk _ (List.getElem_mem hi) fr hfr) fun r hr => ?_)
        have hr1 := hr.1
        have hJ1 := hJ.1
        refine or_loop (n := s.length + 1) (a := z) (b := r) (by omega) (by omega) (by omega) (fun k st hk hl => ?_) (fun st hl hst => ⟨st, ?_, by omega, fun j hj => ?_⟩)
        · simp only [dec_t (show (k : Int) < (r.length : Int) by omega), cond_true, ix_get (show k < st.length by omega), Option.bind_some]
          cases hix : ix st k
          · simp only [cond_false, ix_get (show k < r.length by omega), Option.bind_some, setL_nat (show k < st.length by omega), chk_succ (show k < 9223372036854775807 by omega)]
            rfl
          · simp only [cond_true, Option.bind_some, setL_nat (show k < st.length by omega), chk_succ (show k < 9223372036854775807 by omega)]
            rfl
        · simp only [dec_f (show ¬ (((s.length + 1 : Nat) : Int) < (r.length : Int)) by omega), cond_false]
        · rw [hst j (by omega), Bool.or_eq_true, hJ.2 j hj, hr.2 j hj]
          have e : ∀ u, LU (l.take (i + 1)) u ↔ LU (l.take i) u ∨ L l[i] u := by
            intro u
            rw [LU_iff, LU_iff, List.take_add_one, List.getElem?_eq_getElem hi]
            simp only [Option.toList, List.mem_append, List.mem_singleton]
            constructor
            · rintro ⟨y, hy | rfl, h⟩
              · exact .inl ⟨y, hy, h⟩
              · exact .inr h
            · rintro (⟨y, hy, h⟩ | h)
              · exact ⟨y, .inl hy, h⟩
              · exact ⟨_, .inr rfl, h⟩
          constructor
          · rintro (⟨i0, a, b, c⟩ | ⟨i0, a, b, c⟩)
            · exact ⟨i0, a, b, (e _).2 (.inl c)⟩
            · exact ⟨i0, a, b, (e _).2 (.inr c)⟩
          · rintro ⟨i0, a, b, c⟩
            rcases (e _).1 c with c | c
            · exact .inl ⟨i0, a, b, c⟩
            · exact .inr ⟨i0, a, b, c⟩
      · rintro ⟨z, _⟩ ⟨rfl, hJ⟩
        refine Is.df (show ¬ (l.length : Int) < (l.length : Int) by omega) (Is.stop ?_)
        rw [List.take_length] at hJ
        exact hJ.congr fun u => L_5.symm
    · refine Is.cf rfl (Is.cf rfl (Is.cf rfl (Is.cf rfl (Is.ct rfl ?_))))
      obtain ⟨s', y, e, hy⟩ := star_eq hF.cn rfl
      cases e
      have hky := hk y (by simp)
      refine Is.while (fun (z : List Bool × Bool) => z.1.length = s.length + 1 ∧ (∀ j, j ≤ s.length → ix fr j = true → ix z.1 j = true) ∧ (∀ j, j ≤ s.length → ix z.1 j = true → ∃ i, i ≤ j ∧ ix fr i = true ∧ St (L y) (seg (bytesOf s) i j)) ∧
          (z.2 = false → ∀ i j, i ≤ j → j ≤ s.length → ix z.1 i = true → L y (seg (bytesOf s) i j) → ix z.1 j = true)) (fun z => cntF (ix z.1) (s.length + 1) + (bif z.2 then 1 else 0))
        ⟨hfr, fun _ _ h => h, fun j _ h => ⟨j, Nat.le_refl _, h, by rw [seg_self]; exact .nil⟩, fun h => by cases h⟩ ?_ ?_
      · have := cntF_bound (ix fr) (s.length + 1)
        simp only [cond_true]; omega
      · rintro ⟨z, more⟩ ⟨hzl, hz1, hz2, hz3⟩
        simp only at hzl hz1 hz2 hz3
        cases more with
        | false =>
          refine Is.cf rfl (Is.stop ⟨by show z.length = _; omega, fun j hj => ?_⟩)
          rw [L_6_iff]
          refine ⟨fun h => hz2 j (by omega) h, ?_⟩
          rintro ⟨i, hi, h1, h2⟩
          have key : ∀ u, St (L y) u → ∀ i, i ≤ j → ix z i = true → seg (bytesOf s) i j = u → ix z j = true := by
            intro u hu
            induction hu with
            | nil =>
              intro i hi h1 e
              rw [(seg_nil hi hj).1 e] at h1
              exact h1
            | @cons u v hu hv ihv =>
              intro i hi h1 e
              obtain ⟨m, h2, h3, h4, h5⟩ := (seg_split hi hj (· = u) (· = v)).1 ⟨u, v, e, rfl, rfl⟩
              exact ihv m h3 (hz3 rfl i m h2 (by omega) h1 (h4 ▸ hu)) h5
          exact key _ h2 i hi (hz1 i (by omega) h1) rfl
        | true =>
          refine Is.ct rfl (Is.bnq (idxL_nat (i := 0) (by simp)) ?_)
          refine Is.bnd (hky z hzl) fun r hr => ?_
          have hr1 := hr.1
          refine Is.upto (fun k (q : List Bool × Bool × Int) => q.2.2 = (k : Int) ∧ q.1.length = s.length + 1 ∧ (∀ j, j < s.length + 1 → ix q.1 j = (ix z j || (decide (j < k) && ix r j))) ∧ (q.2.1 = true ↔ ∃ j, j < k ∧ ix r j = true ∧ ix z j = false)) (s.length + 1) (by omega)
            ⟨rfl, hzl, by simp, by simp⟩ ?_ ?_
          · rintro k ⟨q, mo, _⟩ hk ⟨rfl, hl, hJ, hmo⟩
            simp only at hl hJ hmo
            dsimp only
            have hkk := hJ k hk
            rw [dec_f (by omega : ¬ k < k), Bool.false_and, Bool.or_false] at hkk
            refine Is.dt (show (k : Int) < (r.length : Int) by omega) ?_
            refine Is.bnd (P := fun b => b = (mo || (ix r k && !ix z k))) ?_ ?_
            · refine Is.cnd (fun h => Is.pure (by rw [h]; rfl)) (fun h => ?_)
              rw [h]
              refine Is.bnq (ix_get (by omega)) (Is.cnd (fun h => ?_) (fun h => Is.pure (by rw [h]; rfl)))
              rw [h]
              exact Is.bnq (ix_get (by omega)) (Is.pure (by rw [hkk]; rfl))
            · rintro _ rfl
              have hm2 : ((mo || (ix r k && !ix z k)) = true ↔ ∃ j, j < k + 1 ∧ ix r j = true ∧ ix z j = false) := by
                rw [Bool.or_eq_true, hmo]
                constructor
                · rintro (⟨j, a, b⟩ | h)
                  · exact ⟨j, by omega, b⟩
                  · exact ⟨k, by omega, by simpa using h⟩
                · rintro ⟨j, a, b⟩
                  by_cases e : j = k
                  · subst e; right; simpa using b
                  · left; exact ⟨j, by omega, b⟩
              refine Is.bnq (ix_get (by omega)) (Is.cnd (fun h => ?_) (fun h => ?_))
              · refine Is.bnq (setL_nat (by omega)) (Is.bnq (chk_succ (by omega)) (Is.next ⟨rfl, by simpa using hl, fun j hj => ?_, hm2⟩))
                show ix (q.set k true) j = _
                rw [ix_set (by omega)]
                by_cases e : j = k
                · subst e; rw [if_pos rfl, ← hkk, h]; rfl
                · rw [if_neg e, hJ j hj]
                  congr 2
                  exact decide_eq_decide.2 (by omega)
              · refine Is.bnq (ix_get (by omega)) (Is.bnq (setL_nat (by omega)) (Is.bnq (chk_succ (by omega)) (Is.next ⟨rfl, by simpa using hl, fun j hj => ?_, hm2⟩)))
                show ix (q.set k (ix r k)) j = _
                rw [ix_set (by omega)]
                by_cases e : j = k
                · subst e; rw [if_pos rfl, ← hkk, h, dec_t (by omega : j < j + 1)]; simp
                · rw [if_neg e, hJ j hj]
                  congr 2
                  exact decide_eq_decide.2 (by omega)
          · rintro ⟨q, mo, _⟩ ⟨rfl, hl, hJ, hmo⟩
            simp only at hl hJ hmo
            have hJ : ∀ j, j < s.length + 1 → ix q j = (ix z j || ix r j) := fun j hj => by rw [hJ j hj, dec_t hj, Bool.true_and]
            refine Is.df (show ¬ (((s.length + 1 : Nat) : Int) < (r.length : Int)) by omega) (Is.stop ?_)
            refine ⟨⟨hl, fun j hj h => ?_, fun j hj h => ?_, fun hm i j hi hj h1 h2 => ?_⟩, ?_⟩
            · show ix q j = true
              rw [hJ j (by omega), hz1 j hj h]; rfl
            · have h : ix q j = true := h
              rw [hJ j (by omega), Bool.or_eq_true] at h
              rcases h with h | h
              · exact hz2 j hj h
              · obtain ⟨m, hm, h1, h2⟩ := (hr.2 j (by omega)).1 h
                obtain ⟨i, hi, h3, h4⟩ := hz2 m (by omega) h1
                refine ⟨i, by omega, h3, ?_⟩
                obtain ⟨u, v, e, hu, hv⟩ := (seg_split (by omega) (by omega : j ≤ (bytesOf s).length) (St (L y)) (L y)).2 ⟨m, hi, hm, h4, h2⟩
                rw [e]
                exact St_snoc hu hv
            · have hm : mo = false := hm
              have hno : ∀ j, j < s.length + 1 → ix r j = true → ix z j = true := by
                intro j hj h
                cases hz : ix z j
                · rw [hm] at hmo
                  exact absurd (hmo.2 ⟨j, hj, h, hz⟩) (by simp)
                · rfl
              have h1 : ix q i = true := h1
              rw [hJ i (by omega), Bool.or_eq_true] at h1
              have h1 : ix z i = true := h1.elim id (hno i (by omega))
              show ix q j = true
              rw [hJ j (by omega), Bool.or_eq_true]
              right
              exact (hr.2 j (by omega)).2 ⟨i, hi, h1, h2⟩
            · have mono : ∀ j, j < s.length + 1 → ix z j = true → ix q j = true := fun j hj h => by rw [hJ j hj, h]; rfl
              show cntF (ix q) (s.length + 1) + (bif mo then 1 else 0) < cntF (ix z) (s.length + 1) + 1
              cases mo with
              | false => have := cntF_le mono; simp only [cond_false]; omega
              | true =>
                obtain ⟨j, hj, h1, h2⟩ := hmo.1 rfl
                have := cntF_lt mono hj h2 (by rw [hJ j hj, h1, h2]; rfl)
                simp only [cond_true]; omega
    · refine Is.cf (beq_f h2) (Is.cf (beq_f h3) (Is.cf (beq_f h4) (Is.cf (beq_f h5) (Is.cf (beq_f h6) (Is.pure ⟨by simp [hb], fun j hj => ?_⟩)))))
      rw [ix_rep]
      refine ⟨fun h => by simp at h, ?_⟩
      rintro ⟨i, _, _, h⟩
      exact absurd h (L_0 h2 h3 h4 h5 h6)
theorem refMatch_ok {x : T_Regex} (hF : FH x) {s : Str} (hs : s.length ≤ 1000000) : M.ref08_Match x s = some (decide (L x (bytesOf s))) := by
  refine Is.eq ?_
  unfold M.ref08_Match
  refine Is.bnq (chk_succ (i := s.length) (by omega)) (Is.bnq (mkM_nat (n := s.length + 1) (by omega)) (Is.bnq (setL_nat (i := 0) (by simp)) ?_))
  refine Is.bnd (ends_ok fuel x hF.1 hF.2 s _ hs (by simp)) fun r hr => ?_
  have hb := bytes_len s
  have hl := hr.1
  refine Is.bnq (ix_get (by omega)) (Is.pure ?_)
  have h0 : ∀ i, ix ((List.replicate (s.length + 1) false).set 0 true) i = true ↔ i = 0 := by
    intro i
    rw [ix_set (by simp)]
    by_cases e : i = 0
    · rw [if_pos e]; simp [e]
    · rw [if_neg e, ix_rep]; simp [e]
  have hseg : seg (bytesOf s) 0 s.length = bytesOf s := by unfold seg; rw [← hb, List.take_length]; rfl
  have key : ix r s.length = true ↔ L x (bytesOf s) := by
    rw [hr.2 s.length (by omega)]
    constructor
    · rintro ⟨i, _, h1, h2⟩
      rw [(h0 i).1 h1, hseg] at h2
      exact h2
    · exact fun h => ⟨0, by omega, (h0 0).2 rfl, by rw [hseg]; exact h⟩
  rw [Bool.eq_iff_iff, key]
  simp
end Go.Proofs.Ytajmekjcnbmaaaa
namespace Go.Proofs.Ytajmekjcnbmaaaa
open Go.Lx
open Classical
theorem shape_star {s : Vec 4} {n : Nat} (h : shape 6 s n = true) : n = 1 := by
  simp [shape] at h; exact h.1
theorem shape_12 {k : Int} {s : Vec 4} {n : Nat} (hk : k = 1 ∨ k = 2) (h : shape k s n = true) : n = 0 ∧ s = Vec.zero 4 := by
  rcases hk with rfl | rfl
  · simp only [shape, beq_self_eq_true, Bool.true_or, cond_true, Bool.and_eq_true, beq_iff_eq] at h; exact h
  · simp only [shape, beq_self_eq_true, Bool.or_true, cond_true, Bool.and_eq_true, beq_iff_eq] at h; exact h
theorem fit_of_valid : ∀ x d, okT_Regex x → V d x = true → parts x ≤ 1000 → Fit x := by
  refine T_Regex.ind fun k s l ih d ok hv hp => ?_
  have hpl : partsL l + 1 ≤ 1000 := hp
  have hlen := len_parts l
  cases d with
  | zero => cases hv
  | succ d =>
    rw [V, Bool.and_eq_true, List.all_eq_true] at hv
    obtain ⟨hs, hv⟩ := hv
    have he : ∀ j, k = j → j = 1 ∨ j = 2 → (⟨k, s, l⟩ : T_Regex) = ⟨j, Vec.zero 4, []⟩ := fun j e hj => by
      subst e
      obtain ⟨h1, h2⟩ := shape_12 hj hs
      have h2 : s = Vec.zero 4 := h2
      have h1 : l = [] := List.eq_nil_of_length_eq_zero h1
      rw [h2, h1]
    refine .mk _ (w4_of (ok_set ok)) (by show l.length ≤ big; unfold big; omega) (fun e => ?_) (fun e => he 1 e (.inl rfl)) (fun e => he 2 e (.inr rfl))
      (fun y hy => ih y hy d (ok_kids ok y hy) (hv y hy) (by have : parts y ≤ partsL l := parts_mem hy; omega))
    obtain rfl : k = 6 := e
    have := shape_star hs
    exact List.length_eq_one_iff.1 this
section
variable {P N H : Nat} (hP : 3 ≤ P) (hM : 1 ≤ N) (hB : P * P * N ^ H ≤ big) (hH : H ≤ 1000) {x : T_Regex} (hF : Fit x) (hp : parts x ≤ P) (hh : height x ≤ H)
include hP hM hB hH hF hp hh
end
end Go.Proofs.Ytajmekjcnbmaaaa
namespace Go.Proofs.Ytajmekjcnbmaaaa
open Go.Lx
def pv (p : Nat × Nat) : Vec 2 := ⟨[(p.1 : Int), (p.2 : Int)], rfl⟩
def pvs (P : List (Nat × Nat)) : List (Vec 2) := P.map pv
theorem pvs_app (P Q : List (Nat × Nat)) : pvs (P ++ Q) = pvs P ++ pvs Q := by simp [pvs]
theorem pvs_len (P : List (Nat × Nat)) : (pvs P).length = P.length := by simp [pvs]
theorem prodP_snoc (a b : List Nat) (p : Nat) : prodP (a ++ [p]) b = prodP a b ++ b.map fun q => (p, q) := by simp [prodP]
theorem all_ok {S : List (Vec 4)} {P : List (Nat × Nat)} {la fi : List Nat} (h : P.length + la.length * fi.length ≤ 1000000000) (h1 : la.length ≤ 1000000) (h2 : fi.length ≤ 1000000) :
    M.ref09_builder_all ⟨S, pvs P⟩ (toI la) (toI fi) = some ⟨S, pvs (P ++ prodP la fi)⟩ := by
  refine Is.eq ?_
  unfold M.ref09_builder_all
  refine Is.upto (fun i (st : List (Vec 2) × Int) => st.2 = (i : Int) ∧ st.1 = pvs (P ++ prodP (la.take i) fi)) la.length (by omega) ⟨rfl, by simp [prodP]⟩ ?_ ?_
  · rintro i ⟨s, _⟩ hi ⟨rfl, e⟩
    obtain rfl : s = _ := e
    have hmul : (i + 1) * fi.length ≤ la.length * fi.length := Nat.mul_le_mul_right _ hi
    rw [Nat.succ_mul] at hmul
    have hlen : (P ++ prodP (la.take i) fi).length = P.length + i * fi.length := by rw [List.length_append, len_prodP, List.length_take, Nat.min_eq_left (Nat.le_of_lt hi)]
    refine Is.dt (by rw [toI_len]; omega) (Is.bnq (x := pvs (P ++ prodP (la.take (i + 1)) fi)) (Is.eq ?_) (Is.bnq (chk_succ (by omega)) (Is.next ⟨rfl, rfl⟩)))
    refine Is.upto (fun k (st : List (Vec 2) × Int) => st.2 = (k : Int) ∧ st.1 = pvs ((P ++ prodP (la.take i) fi) ++ (fi.take k).map fun q => (la[i], q))) fi.length (by omega) ⟨rfl, by simp⟩ ?_ ?_
    · rintro k ⟨s, _⟩ hk ⟨rfl, e⟩
      obtain rfl : s = _ := e
      refine Is.dt (by rw [toI_len]; omega) (Is.bnq (toI_idx hi) (Is.bnq (toI_idx hk) (Is.bnq (appM_ok ?_) (Is.bnq (chk_succ (by omega)) (Is.next ⟨rfl, ?_⟩)))))
      · rw [pvs_len, List.length_append, hlen, List.length_map, List.length_take, List.length_singleton]; omega
      · rw [take_snoc hk, List.map_append, ← List.append_assoc, pvs_app (_ ++ _) (List.map _ [fi[k]])]
        rfl
    · rintro ⟨s, _⟩ ⟨rfl, e⟩
      obtain rfl : s = _ := e
      refine Is.df (by rw [toI_len]; omega) (Is.stop ?_)
      rw [List.take_length, take_snoc hi, prodP_snoc, List.append_assoc]
  · rintro ⟨s, _⟩ ⟨rfl, e⟩
    obtain rfl : s = _ := e
    refine Is.df (by rw [toI_len]; omega) (Is.stop ?_)
    rw [List.take_length]
def ptR (x : Pt) : T_ref09_part := ⟨x.nl, toI x.fi, toI x.la⟩
theorem rconcat_ok {S : List (Vec 4)} {P : List (Nat × Nat)} {x y : Pt} (h : P.length + x.la.length * y.fi.length ≤ 1000000000) (h1 : x.la.length ≤ 100000) (h2 : y.fi.length ≤ 100000) (h3 : x.fi.length ≤ 100000) (h4 : y.la.length ≤ 100000) :
    M.ref09_builder_concat ⟨S, pvs P⟩ (ptR x) (ptR y) = some (ptR (catP x y), ⟨S, pvs (P ++ prodP x.la y.fi)⟩) := by
  refine Is.eq ?_
  unfold M.ref09_builder_concat
  refine Is.bnq (all_ok h (by omega) (by omega)) ?_
  refine Is.bnq (x := x.nl && y.nl) (Is.eq (Is.cnd (fun hn => Is.pure ?_) (fun hn => Is.pure ?_))) ?_
  · have hn : x.nl = true := hn
    rw [hn]; rfl
  · have hn : x.nl = false := hn
    rw [hn]; rfl
  refine Is.bnq (x := toI (catP x y).fi) (Is.eq (Is.cnd (fun hn => ?_) (fun hn => Is.pure ?_))) ?_
  · have hn : x.nl = true := hn
    refine Is.bnq (appM_ok (by simp only [ptR, toI_len, List.length_nil]; omega)) (Is.bnq (appM_ok (by simp only [ptR, toI_len, List.nil_append]; omega)) (Is.pure ?_))
    unfold catP ptR
    rw [hn, cond_true, toI_app, List.nil_append]
  · have hn : x.nl = false := hn
    unfold catP ptR
    rw [hn, cond_false]
  refine Is.bnq (x := toI (catP x y).la) (Is.eq (Is.cnd (fun hn => ?_) (fun hn => Is.pure ?_))) (Is.pure rfl)
  · have hn : y.nl = true := hn
    refine Is.bnq (appM_ok (by simp only [ptR, toI_len, List.length_nil]; omega)) (Is.bnq (appM_ok (by simp only [ptR, toI_len, List.nil_append]; omega)) (Is.pure ?_))
    unfold catP ptR
    rw [hn, cond_true, toI_app, List.nil_append]
  · have hn : y.nl = false := hn
    unfold catP ptR
    rw [hn, cond_false]
section
variable {K q : Nat} (hq : K * K ≤ q)
include hq
mutual
theorem bd_plen : ∀ (x : T_Regex) (b : Bs), parts x ≤ K → (bd x b).2.P.length + q ≤ b.P.length + 2 * (parts x * q)
  | ⟨k, s, l⟩, b, hK => by
    simp only [parts] at hK ⊢
    rw [Nat.add_mul, Nat.one_mul]
    simp only [bd]
    cases k == 3
    · cases k == 4
      · cases k == 5
        · cases k == 6
          · simp only [cond_false]; omega
          · match l, hK with
            | [], _ => simp only [cond_false, cond_true, bdS]; omega
            | y :: l, hK =>
              simp only [partsL] at hK
              have h := bd_plen y b (by omega)
              have h2 := bd_len y b
              have h3 : (bd y b).1.la.length * (bd y b).1.fi.length ≤ q := Nat.le_trans (Nat.mul_le_mul (by omega) (by omega)) hq
              simp only [cond_false, cond_true, bdS, partsL, List.length_append, len_prodP, Nat.add_mul]
              omega
        · have h := bdU_plen l ⟨false, [], []⟩ b (by omega)
          simp only [cond_false, cond_true] at h ⊢
          omega
      · have h := bdC_plen l ⟨true, [], []⟩ b (by simp only [List.length_nil]; omega)
        simp only [cond_false, cond_true] at h ⊢
        omega
    · simp only [cond_true]; omega
theorem bdC_plen : ∀ (l : List T_Regex) (x : Pt) (b : Bs), x.la.length + partsL l ≤ K → (bdC l x b).2.P.length ≤ b.P.length + 2 * (partsL l * q)
  | [], x, b, _ => by simp [bdC, partsL]
  | y :: l, x, b, hK => by
    simp only [partsL] at hK
    have h := bd_plen y b (by omega)
    have h2 := bd_len y b
    have h3 : x.la.length * (bd y b).1.fi.length ≤ q := Nat.le_trans (Nat.mul_le_mul (by omega) (by omega)) hq
    have h4 : (catP x (bd y b).1).la.length ≤ x.la.length + (bd y b).1.la.length := by unfold catP; cases (bd y b).1.nl <;> simp
    have h5 := bdC_plen l (catP x (bd y b).1) ⟨(bd y b).2.S, (bd y b).2.P ++ prodP x.la (bd y b).1.fi⟩ (by omega)
    simp only [List.length_append, len_prodP] at h5
    simp only [bdC, partsL, Nat.add_mul]
    omega
theorem bdU_plen : ∀ (l : List T_Regex) (x : Pt) (b : Bs), partsL l ≤ K → (bdU l x b).2.P.length ≤ b.P.length + 2 * (partsL l * q)
  | [], x, b, _ => by simp [bdU, partsL]
  | y :: l, x, b, hK => by
    simp only [partsL] at hK
    have h := bd_plen y b (by omega)
    have h5 := bdU_plen l (uniP x (bd y b).1) (bd y b).2 (by omega)
    simp only [bdU, partsL, Nat.add_mul]
    omega
end
theorem goF_plen (hK1 : 1 ≤ K) : ∀ (l : List T_Regex) (i : Nat) (s : Bs × List Int), partsL l ≤ K → (goF i l s).1.P.length ≤ s.1.P.length + 2 * (partsL l * q)
  | [], i, s, _ => by simp [goF, partsL]
  | y :: l, i, s, hK => by
    simp only [partsL] at hK
    have h := bd_plen hq y s.1 (by omega)
    have h2 := bd_len y s.1
    have h3 : K ≤ q := Nat.le_trans (by rw [← Nat.mul_one K, Nat.mul_assoc]; exact Nat.mul_le_mul_left _ (by omega)) hq
    have h5 := goF_plen hK1 l (i + 1) (stF i y s) (by omega)
    have h6 : (stF i y s).1.P.length = (bd y s.1).2.P.length + (bd y s.1).1.fi.length := by
      show ((bd y s.1).2.P ++ prodP [0] (bd y s.1).1.fi).length = _
      rw [List.length_append, len_prodP]
      simp
    simp only [goF, partsL, Nat.add_mul]
    omega
end
theorem build_ok : ∀ (d fl : Nat) (x : T_Regex) (b : Bs), V d x = true → d + 1 ≤ fl → b.S.length + parts x ≤ 1000 → b.P.length + 2000000 * parts x ≤ 500000000 → M.ref09_builder_build fl ⟨b.S, pvs b.P⟩ x = some (ptR (bd x b).1, ⟨(bd x b).2.S, pvs (bd x b).2.P⟩) := by
  intro d
  induction d with
  | zero => intro fl x b h; simp [V] at h
  | succ d ih =>
    intro fl x b hV hfl hsz hpz
    obtain ⟨fl, rfl⟩ : ∃ f, fl = f + 1 := ⟨fl - 1, by omega⟩
    obtain ⟨k, s, l⟩ := x
    obtain ⟨hsh, hkid⟩ := V_kids hV
    have hparts : parts ⟨k, s, l⟩ = partsL l + 1 := by simp [parts]
    rw [hparts] at hsz hpz
    have hll := len_parts l
    refine Is.eq ?_
    unfold M.ref09_builder_build
    have fin : ∀ {o : Option (Bool × List Int × List Int × List (Vec 4) × List (Vec 2))} {r : Pt × Bs}, bd ⟨k, s, l⟩ b = r → Is o (fun v => v = (r.1.nl, toI r.1.fi, toI r.1.la, r.2.S, pvs r.2.P)) →
        Is (o.bind fun x => some ((T_ref09_part.mk x.1 x.2.1 x.2.2.1), (T_ref09_builder.mk x.2.2.2.1 x.2.2.2.2))) (fun v => v = (ptR (bd ⟨k, s, l⟩ b).1, ⟨(bd ⟨k, s, l⟩ b).2.S, pvs (bd ⟨k, s, l⟩ b).2.P⟩)) := by
      intro o r he ho
      refine Is.bnd ho fun v hv => Is.pure ?_
      rw [hv, he]
      rfl
    have hq : 1000 * 1000 ≤ 1000000 := by decide
    rcases shape_kind hsh with rfl | rfl | rfl | rfl | rfl | rfl
    · exact fin (r := (⟨false, [], []⟩, b)) (by simp [bd]) (Is.cf rfl (Is.cf rfl (Is.cf rfl (Is.cf rfl (Is.cf rfl (Is.pure rfl))))))
    · exact fin (r := (⟨true, [], []⟩, b)) (by simp [bd]) (Is.ct rfl (Is.pure rfl))
    · refine fin (r := (⟨false, [b.S.length + 1], [b.S.length + 1]⟩, ⟨b.S ++ [s], b.P⟩)) (by simp [bd]) (Is.cf rfl (Is.ct rfl (Is.bnq (appM_ok (by simp only [List.length_singleton]; omega)) (Is.pure ?_))))
      simp [toI]
    · refine fin (r := bdC l ⟨true, [], []⟩ b) (by simp [bd]) (Is.cf rfl (Is.cf rfl (Is.ct rfl ?_)))
      refine Is.upto (fun i (st : List (Vec 4) × List (Vec 2) × Bool × List Int × List Int × Int) => st = ((bdC (l.take i) ⟨true, [], []⟩ b).2.S, pvs (bdC (l.take i) ⟨true, [], []⟩ b).2.P, (bdC (l.take i) ⟨true, [], []⟩ b).1.nl, toI (bdC (l.take i) ⟨true, [], []⟩ b).1.fi, toI (bdC (l.take i) ⟨true, [], []⟩ b).1.la, (i : Int))) l.length (by omega) (by simp [bdC, toI]) ?_ ?_
      · rintro i _ hi rfl
        have hq1 := bdC_len (l.take i) ⟨true, [], []⟩ b
        have hq2 := bdC_plen (K := 1000) (q := 1000000) hq (l.take i) ⟨true, [], []⟩ b (by have := parts_take_le l i; simp only [List.length_nil]; omega)
        have hpt := parts_take hi
        have hpl := parts_take_le l (i + 1)
        have hsn := bdC_snoc l[i] (l.take i) ⟨true, [], []⟩ b
        rw [← take_snoc hi] at hsn
        generalize bdC (l.take i) ⟨true, [], []⟩ b = r at hq1 hq2 hsn
        simp only [List.length_nil] at hq1
        have hy := bd_len l[i] r.2
        have hy2 := bd_plen (K := 1000) (q := 1000000) hq l[i] r.2 (by omega)
        have hm : r.1.la.length * (bd l[i] r.2).1.fi.length ≤ 1000000 := Nat.le_trans (Nat.mul_le_mul (show _ ≤ 1000 by omega) (show _ ≤ 1000 by omega)) hq
        refine Is.dt (show ((i : Nat) : Int) < (l.length : Int) by omega) (Is.bnq (idxL_nat hi) (Is.bnq (ih fl l[i] r.2 (hkid _ (List.getElem_mem hi)) (by omega) (by omega) (by omega)) ?_))
        refine Is.bnq (rconcat_ok (x := r.1) (y := (bd l[i] r.2).1) (by omega) (by omega) (by omega) (by omega) (by omega)) (Is.bnq (chk_succ (by omega)) (Is.next ?_))
        rw [hsn]
        rfl
      · rintro _ rfl
        refine Is.df (show ¬ ((l.length : Nat) : Int) < (l.length : Int) by omega) (Is.stop ?_)
        rw [List.take_length]
    · refine fin (r := bdU l ⟨false, [], []⟩ b) (by simp [bd]) (Is.cf rfl (Is.cf rfl (Is.cf rfl (Is.ct rfl ?_))))
      refine Is.upto (fun i (st : List (Vec 4) × List (Vec 2) × Bool × List Int × List Int × Int) => st = ((bdU (l.take i) ⟨false, [], []⟩ b).2.S, pvs (bdU (l.take i) ⟨false, [], []⟩ b).2.P, (bdU (l.take i) ⟨false, [], []⟩ b).1.nl, toI (bdU (l.take i) ⟨false, [], []⟩ b).1.fi, toI (bdU (l.take i) ⟨false, [], []⟩ b).1.la, (i : Int))) l.length (by omega) (by simp [bdU, toI]) ?_ ?_
      · rintro i _ hi rfl
        have hq1 := bdU_len (l.take i) ⟨false, [], []⟩ b
        have hq2 := bdU_plen (K := 1000) (q := 1000000) hq (l.take i) ⟨false, [], []⟩ b (by have := parts_take_le l i; omega)
        have hpt := parts_take hi
        have hpl := parts_take_le l (i + 1)
        have hsn := bdU_snoc l[i] (l.take i) ⟨false, [], []⟩ b
        rw [← take_snoc hi] at hsn
        generalize bdU (l.take i) ⟨false, [], []⟩ b = r at hq1 hq2 hsn
        simp only [List.length_nil] at hq1
        have hy := bd_len l[i] r.2
        refine Is.dt (show ((i : Nat) : Int) < (l.length : Int) by omega) (Is.bnq (idxL_nat hi) (Is.bnq (ih fl l[i] r.2 (hkid _ (List.getElem_mem hi)) (by omega) (by omega) (by omega)) ?_))
        refine Is.bnq (x := r.1.nl || (bd l[i] r.2).1.nl) (Is.eq (Is.cnd (fun hn => Is.pure ?_) (fun hn => Is.pure ?_))) ?_
        · rw [hn]; rfl
        · rw [hn]; rfl
        refine Is.bnq (appM_ok (by simp only [toI_len, List.length_nil]; omega)) (Is.bnq (appM_ok (by simp only [ptR, toI_len, List.nil_append]; omega)) (Is.bnq (appM_ok (by simp only [toI_len, List.length_nil]; omega)) (Is.bnq (appM_ok (by simp only [ptR, toI_len, List.nil_append]; omega)) (Is.bnq (chk_succ (by omega)) (Is.next ?_)))))
        rw [hsn]
        simp only [List.nil_append, ptR, uniP, toI_app]
      · rintro _ rfl
        refine Is.df (show ¬ ((l.length : Nat) : Int) < (l.length : Int) by omega) (Is.stop ?_)
        rw [List.take_length]
    · have h1 := shape_six hsh
      obtain ⟨y, rfl⟩ := List.length_eq_one_iff.1 h1
      simp only [partsL] at hsz hpz
      have hy := bd_len y b
      have hy2 := bd_plen (K := 1000) (q := 1000000) hq y b (by omega)
      have hm : (bd y b).1.la.length * (bd y b).1.fi.length ≤ 1000000 := Nat.le_trans (Nat.mul_le_mul (show _ ≤ 1000 by omega) (show _ ≤ 1000 by omega)) hq
      refine fin (r := (⟨true, (bd y b).1.fi, (bd y b).1.la⟩, ⟨(bd y b).2.S, (bd y b).2.P ++ prodP (bd y b).1.la (bd y b).1.fi⟩)) (by simp [bd, bdS]) (Is.cf rfl (Is.cf rfl (Is.cf rfl (Is.cf rfl (Is.ct rfl ?_)))))
      refine Is.bnq (x := y) rfl (Is.bnq (ih fl y b (hkid y (by simp)) (by omega) (by omega) (by omega)) ?_)
      refine Is.bnq (all_ok (la := (bd y b).1.la) (fi := (bd y b).1.fi) (by omega) (by omega) (by omega)) (Is.pure rfl)
theorem flat_rows {α : Type} (N : Nat) (f : Nat → Bool) (g : Nat → α) : ∀ k, ((List.range (k * N)).filter f).map g = (List.range k).flatMap fun p => ((List.range N).filter fun q => f (p * N + q)).map fun q => g (p * N + q)
  | 0 => by simp
  | k + 1 => by
    rw [Nat.succ_mul, List.range_add, List.filter_append, List.map_append, flat_rows N f g k, List.range_succ, List.flatMap_append]
    congr 1
    simp only [List.flatMap_cons, List.flatMap_nil, List.append_nil]
    rw [List.filter_map, List.map_map]
    rfl
theorem div_row {N p q : Nat} (hq : q < N) : (p * N + q) / N = p ∧ (p * N + q) % N = q := by
  have hN : 0 < N := by omega
  rw [Nat.mul_comm p N, Nat.mul_add_div hN, Nat.div_eq_of_lt hq, Nat.mul_add_mod, Nat.mod_eq_of_lt hq]
  exact ⟨Nat.add_zero _, rfl⟩
theorem flatMap_congr9 {α β : Type} {f g : α → List β} : ∀ {l : List α}, (∀ x ∈ l, f x = g x) → l.flatMap f = l.flatMap g
  | [], _ => rfl
  | x :: l, h => by rw [List.flatMap_cons, List.flatMap_cons, h x (by simp), flatMap_congr9 fun y hy => h y (by simp [hy])]
theorem arcs_table (S : List (Vec 4)) (P : List (Nat × Nat)) (N : Nat) : ((List.range (N * N)).filter fun i => decide ((i / N, i % N) ∈ P)).map (fun i => mkA S (i / N) (i % N)) = arcsN S P N N := by
  rw [flat_rows]
  unfold arcsN
  refine flatMap_congr9 fun p _ => ?_
  unfold arcsR rowQ
  have h1 : ((List.range N).filter fun q => decide (((p * N + q) / N, (p * N + q) % N) ∈ P)) = (List.range N).filter fun q => decide ((p, q) ∈ P) := by
    refine List.filter_congr fun q hq => ?_
    rw [(div_row (List.mem_range.1 hq)).1, (div_row (List.mem_range.1 hq)).2]
  rw [h1]
  refine List.map_congr_left fun q hq => ?_
  have hq := List.mem_range.1 (List.mem_filter.1 hq).1
  rw [(div_row hq).1, (div_row hq).2]
theorem vget_p0 (p : Nat × Nat) : vget (pv p) 0 = some (p.1 : Int) := by simp [vget, pv]
theorem vget_p1 (p : Nat × Nat) : vget (pv p) 1 = some (p.2 : Int) := by simp [vget, pv]
theorem chkn {n : Nat} (h : n ≤ 9223372036854775807) : chk .i64 (n : Int) = some (n : Int) := chk_i64 (by omega) (by omega)
theorem wrapn {n : Nat} (h : n ≤ 9223372036854775807) : IntKind.i64.wrap (n : Int) = (n : Int) := wrap_i64 (by omega) (by omega)
theorem refFrom_ok {l : List T_Regex} (ok : ∀ x ∈ l, okT_Regex x) (hv : ∀ y ∈ l, V 30 y = true) (hp : partsL l ≤ 200) : M.ref09_FromRegexes l = some (nfaOf l, 0) := by
  refine Is.eq ?_
  unfold M.ref09_FromRegexes
  refine Is.bnd (check_ok ok (by omega)) fun e he => ?_
  obtain rfl : e = 0 := by
    rcases he with ⟨⟨y, hy, h⟩, _⟩ | ⟨_, h, _⟩ | ⟨_, _, h, _⟩
    · rw [hv y hy] at h; cases h
    · omega
    · exact h
  refine Is.cf rfl ?_
  have hlen := len_parts l
  have hs0 : s09.1.S.length = 0 := rfl
  have hp0 : s09.1.P.length = 0 := rfl
  have hq : 200 * 200 ≤ 40000 := by decide
  have hg := gd9_go l 0 s09 gd9_0
  have hgl := goF_len l 0 s09
  have hgp := goF_plen (K := 200) (q := 40000) hq (by omega) l 0 s09 (by omega)
  refine Is.bnq (x := ((goF 0 l s09).1.S, pvs (goF 0 l s09).1.P, (goF 0 l s09).2)) (Is.eq ?_) ?_
  · refine Is.upto (fun i (st : List (Vec 4) × List (Vec 2) × List Int × Int) => st = ((goF 0 (l.take i) s09).1.S, pvs (goF 0 (l.take i) s09).1.P, (goF 0 (l.take i) s09).2, (i : Int))) l.length (by omega) rfl ?_ ?_
    · rintro i _ hi rfl
      have gi := gd9_go (l.take i) 0 s09 gd9_0
      have gl := goF_len (l.take i) 0 s09
      have hpt := parts_take hi
      have hpl := parts_take_le l (i + 1)
      have gp := goF_plen (K := 200) (q := 40000) hq (by omega) (l.take i) 0 s09 (by omega)
      have hsn := goF_snoc l[i] (l.take i) 0 s09
      rw [← take_snoc hi, show 0 + (l.take i).length = i by rw [List.length_take]; omega] at hsn
      generalize goF 0 (l.take i) s09 = s at gi gl gp hsn
      have hy := bd_len l[i] s.1
      have hyb := bd_bnd l[i] s.1
      have hyg := bd_grow l[i] s.1
      have hy2 := bd_plen (K := 200) (q := 40000) hq l[i] s.1 (by omega)
      have hal := gi.len
      have hpl2 : (pad s.2 (bd l[i] s.1).2.S.length).length = (bd l[i] s.1).2.S.length + 1 := pad_len (by omega)
      refine Is.dt (by omega) (Is.bnq (x := ((stF i l[i] s).1.S, pvs (stF i l[i] s).1.P, (stF i l[i] s).2)) (Is.eq (Is.bnq (idxL_nat hi) (Is.bnq (build_ok 30 fuel l[i] s.1 (hv _ (List.getElem_mem hi)) (by unfold fuel; omega) (by omega) (by omega)) ?_))) (Is.bnq (chk_succ (by omega)) (Is.next (by rw [hsn]))))
      refine Is.bnq (all_ok (la := [0]) (fi := (bd l[i] s.1).1.fi) (by simp only [List.length_singleton]; omega) (by simp) (by omega)) ?_
      refine Is.bnq (pad_loop (a := s.2) (n := (bd l[i] s.1).2.S.length) (by omega) (by omega) (fun _ => rfl)) ?_
      refine Is.bnq (set_loop (la := (bd l[i] s.1).1.la) (v := (i : Int)) (fun p hp => by rw [hpl2]; have := hyb.2 p hp; omega) (by omega) (fun _ _ => rfl)) ?_
      exact Is.of (fin_ok (f := fun y => ((bd l[i] s.1).2.S, pvs ((bd l[i] s.1).2.P ++ prodP [0] (bd l[i] s.1).1.fi), y)) (by rw [setA_len, hpl2]; omega)) rfl
    · rintro _ rfl
      refine Is.df (by omega) (Is.stop ?_)
      rw [List.take_length]
  have hal := hg.len
  have hcl : ∀ p q, (p, q) ∈ (goF 0 l s09).1.P → p < (goF 0 l s09).2.length ∧ q < (goF 0 l s09).2.length := fun p q h => by have := hg.cl p q h; omega
  have hpos := hg.pos
  have hN : (goF 0 l s09).2.length ≤ 201 := by omega
  unfold nfaOf
  generalize (goF 0 l s09).2 = acc at *
  generalize (goF 0 l s09).1.S = S at *
  generalize (goF 0 l s09).1.P = P at *
  have hNN : acc.length * acc.length ≤ 40401 := Nat.le_trans (Nat.mul_le_mul hN hN) (by decide)
  have hN0 : 0 < acc.length := by omega
  refine Is.bnq (x := ((acc.length * acc.length : Nat) : Int)) (by rw [show (acc.length : Int) * (acc.length : Int) = ((acc.length * acc.length : Nat) : Int) by rw [Int.natCast_mul]]; exact chkn (by omega)) ?_
  refine Is.bnq (mkM_nat (by omega)) ?_
  have hij : ∀ p q, p < acc.length → q < acc.length → p * acc.length + q < acc.length * acc.length := fun p q h1 h2 => by
    have : (p + 1) * acc.length ≤ acc.length * acc.length := Nat.mul_le_mul_right _ h1
    rw [Nat.succ_mul] at this
    omega
  refine Is.bnd (P := fun h : List Bool => h.length = acc.length * acc.length ∧ ∀ j, j < acc.length * acc.length → (h[j]? = some true ↔ (j / acc.length, j % acc.length) ∈ P)) ?_ ?_
  · refine Is.upto (fun i (st : List Bool × Int) => st.2 = (i : Int) ∧ st.1.length = acc.length * acc.length ∧ ∀ j, j < acc.length * acc.length → (st.1[j]? = some true ↔ (j / acc.length, j % acc.length) ∈ P.take i)) P.length (by omega) ⟨rfl, by simp, fun j hj => by simp [hj]⟩ ?_ ?_
    · rintro i ⟨h, _⟩ hi ⟨rfl, h1, h2⟩
      simp only at h1 h2
      obtain ⟨c1, c2⟩ := hcl P[i].1 P[i].2 (List.getElem_mem hi)
      have hj := hij _ _ c1 c2
      have hmul : P[i].1 * acc.length ≤ acc.length * acc.length := Nat.mul_le_mul_right _ (by omega)
      refine Is.dt (by rw [pvs_len]; omega) (Is.bnq (x := pv P[i]) (by rw [idxL_nat (by rw [pvs_len]; exact hi)]; simp [pvs]) (Is.bnq (vget_p0 _) (Is.bnq (x := ((P[i].1 * acc.length : Nat) : Int)) (by rw [show ((P[i].1 : Nat) : Int) * (acc.length : Int) = ((P[i].1 * acc.length : Nat) : Int) by rw [Int.natCast_mul]]; exact chkn (by omega)) (Is.bnq (vget_p1 _) (Is.bnq (x := ((P[i].1 * acc.length + P[i].2 : Nat) : Int)) (by rw [show ((P[i].1 * acc.length : Nat) : Int) + ((P[i].2 : Nat) : Int) = ((P[i].1 * acc.length + P[i].2 : Nat) : Int) by omega]; exact chkn (by omega)) (Is.bnq (setL_nat (by omega)) (Is.bnq (chk_succ (by omega)) (Is.next ⟨rfl, by rw [List.length_set]; exact h1, fun j hj2 => ?_⟩))))))))
      rw [List.getElem?_set, take_snoc hi, List.mem_append, List.mem_singleton]
      obtain ⟨d1, d2⟩ := div_row (p := P[i].1) c2
      by_cases e : P[i].1 * acc.length + P[i].2 = j
      · rw [if_pos e, if_pos (by omega)]
        subst e
        rw [d1, d2]
        simp
      · rw [if_neg e, h2 j hj2]
        constructor
        · exact .inl
        · rintro (h3 | h3)
          · exact h3
          · exfalso
            have e1 : j / acc.length = P[i].1 := by rw [← h3]
            have e2 : j % acc.length = P[i].2 := by rw [← h3]
            have := Nat.div_add_mod j acc.length
            rw [e1, e2, Nat.mul_comm] at this
            exact e this
    · rintro ⟨h, _⟩ ⟨rfl, h1, h2⟩
      rw [List.take_length] at h2
      exact Is.df (by rw [pvs_len]; omega) (Is.stop ⟨h1, h2⟩)
  · rintro h ⟨h1, h2⟩
    refine Is.bnq (x := arcsN S P acc.length acc.length) (Is.eq ?_) (Is.pure rfl)
    rw [← arcs_table]
    refine Is.upto (fun i (st : List T_NFAArc × Int) => st.2 = (i : Int) ∧ st.1 = ((List.range i).filter fun i => decide ((i / acc.length, i % acc.length) ∈ P)).map (fun i => mkA S (i / acc.length) (i % acc.length))) (acc.length * acc.length) (by omega) ⟨rfl, rfl⟩ ?_ ?_
    · rintro i ⟨ar, _⟩ hi ⟨rfl, e⟩
      obtain rfl : ar = _ := e
      have hfl := List.length_filter_le (fun i => decide ((i / acc.length, i % acc.length) ∈ P)) (List.range i)
      rw [List.length_range] at hfl
      have hib : i < h.length := by omega
      have hk := h2 i hi
      rw [List.getElem?_eq_getElem hib] at hk
      refine Is.dt (by omega) (Is.bnq (x := ((List.range (i + 1)).filter fun i => decide ((i / acc.length, i % acc.length) ∈ P)).map (fun i => mkA S (i / acc.length) (i % acc.length))) (Is.eq (Is.bnq (idxL_nat hib) (Is.cnd (fun hb => ?_) (fun hb => Is.pure ?_)))) (Is.bnq (chk_succ (by omega)) (Is.next ⟨rfl, rfl⟩)))
      · have hm := hk.1 (by rw [hb])
        have hq1 := hpos _ _ hm
        have hq2 := (hcl _ _ hm).2
        have hdv : i / acc.length ≤ i := Nat.div_le_self _ _
        refine Is.bnq (quo_nat (by omega) (wrapn (by omega))) (Is.bnq (rem_nat (by omega)) (Is.bnq (x := ((i % acc.length : Nat) : Int) - 1) (chk_i64 (by omega) (by omega)) (Is.bnq (vec_idx hq1 (by omega)) (Is.bnq (appM_ok (by rw [List.length_map, List.length_singleton]; omega)) (Is.pure ?_)))))
        rw [List.range_succ, List.filter_append, List.map_append]
        simp [hm, mkA]
      · have hm : ¬ (i / acc.length, i % acc.length) ∈ P := fun hm => by have := hk.2 hm; rw [hb] at this; cases this
        rw [List.range_succ, List.filter_append, List.map_append]
        simp [hm]
    · rintro ⟨ar, _⟩ ⟨rfl, e⟩
      obtain rfl : ar = _ := e
      exact Is.df (by omega) (Is.stop rfl)
theorem sameNFA_self {n : T_NFA} (h1 : n.Arcs.length ≤ 1000000000) (h2 : n.Accept.length ≤ 1000000000) : M.ref09_SameNFA n n = some true := by
  refine Is.eq ?_
  unfold M.ref09_SameNFA
  refine Is.bnq (x := false) (Is.eq (Is.cf (by simp) (Is.cf (by simp) (Is.cf (by simp) (Is.bnq (same9 h2) (Is.pure rfl)))))) (Is.cf rfl ?_)
  refine Is.bs (P := fun _ => True) ?_ (fun _ _ => Is.pure rfl)
  refine Is.upto (fun i (st : Int) => st = (i : Int)) n.Arcs.length (by omega) rfl ?_ ?_
  · rintro i _ hi rfl
    exact Is.dt (by omega) (Is.bnq (idxL_nat hi) (Is.bnq (idxL_nat hi) (Is.bnq (x := false) (by simp) (Is.cf rfl (Is.bnq (chk_succ (by omega)) (Is.next rfl))))))
  · rintro _ rfl
    exact Is.df (by omega) (Is.stop trivial)
end Go.Proofs.Ytajmekjcnbmaaaa
