/- Plain facts on layer 8: the two parsers go step by step alike; the law on Parse. -/
import Derived.Test.YtffienmbeifioaaDoorPl08c
namespace Go.Proofs.YtffienmbeifioaaDoor
open Go.Lx

/-! ### two models side by side -/
def Is2 {α β : Type} (A : Option α) (B : Option β) (Q : α → β → Prop) : Prop := ∃ a b, A = some a ∧ B = some b ∧ Q a b
section
variable {α β α' β' σ τ : Type} {P : α → β → Prop} {Q : α' → β' → Prop}
theorem Is2.pure {a : α'} {b : β'} (h : Q a b) : Is2 (some a) (some b) Q := ⟨a, b, rfl, rfl, h⟩
theorem Is2.bb {A : Option α} {B : Option β} {f : α → Option α'} {g : β → Option β'} (h : Is2 A B P) (k : ∀ a b, P a b → Is2 (f a) (g b) Q) : Is2 (A.bind f) (B.bind g) Q := by
  obtain ⟨a, b, rfl, rfl, hp⟩ := h
  exact k a b hp
theorem Is2.l {A : Option α} {B : Option β'} {f : α → Option α'} {a : α} (h : A = some a) (k : Is2 (f a) B Q) : Is2 (A.bind f) B Q := by subst h; exact k
theorem Is2.r {A : Option α'} {B : Option β} {g : β → Option β'} {b : β} (h : B = some b) (k : Is2 A (g b) Q) : Is2 A (B.bind g) Q := by subst h; exact k
theorem Is2.cl {b : Bool} {x y : Option α'} {B : Option β'} (v : Bool) (h : b = v) (ht : v = true → Is2 x B Q) (hf : v = false → Is2 y B Q) : Is2 (bif b then x else y) B Q := by
  subst h; cases b
  · exact hf rfl
  · exact ht rfl
theorem Is2.sl {ρ : Type} {R : ρ → β' → Prop} {A : Option (Step σ ρ)} {B : Option β'} {f : σ → Option ρ} {a : σ} (h : A = some (.next a)) (k : Is2 (f a) B R) : Is2 (bindStep A f) B R := by subst h; exact k
theorem Is2.er {A : Option α'} {B B' : Option β'} (h : B = B') (k : Is2 A B' Q) : Is2 A B Q := h ▸ k
theorem Is2.sb {ρ : Type} {P : Step σ ρ → β → Prop} {R : ρ → β' → Prop} {A : Option (Step σ ρ)} {B : Option β} {f : σ → Option ρ} {g : β → Option β'} (h : Is2 A B P) (kn : ∀ a b, P (.next a) b → Is2 (f a) (g b) R)
    (ks : ∀ x b, P (.stop x) b → Is2 (some x) (g b) R) : Is2 (bindStep A f) (B.bind g) R := by
  obtain ⟨a, b, rfl, rfl, hp⟩ := h
  cases a with
  | next a => exact kn a b hp
  | stop x => exact ks x b hp
theorem Is2.on_ret {γ : Type} {x : γ} {k : γ → Option α'} {pp : Int → Option α'} {B : Option β'} (h : Is2 (k x) B Q) : Is2 ((Rt.ret x).on k pp) B Q := h
theorem Is2.on_pan {γ : Type} {x : Int} {k : γ → Option α'} {pp : Int → Option α'} {B : Option β'} (h : Is2 (pp x) B Q) : Is2 ((Rt.pan x : Rt γ).on k pp) B Q := h
theorem cnd_t {α : Type} {b : Bool} {x y r : α} (h : b = true) (k : x = r) : (bif b then x else y) = r := by subst h; exact k
theorem cnd_f {α : Type} {b : Bool} {x y r : α} (h : b = false) (k : y = r) : (bif b then x else y) = r := by subst h; exact k
/-- Two loops; the second may take one round more at its end. -/
theorem Is2.loop {ρ ρ' : Type} {Q : ρ → ρ' → Prop} {bA : σ → Option (Step σ ρ)} {bB : τ → Option (Step τ ρ')} (R : σ → τ → Nat → Prop)
    (h : ∀ m a b, R a b m → (∃ a' b' m', bA a = some (.next a') ∧ bB b = some (.next b') ∧ m' < m ∧ R a' b' m') ∨
      (∃ x, bA a = some (.stop x) ∧ ((∃ y, bB b = some (.stop y) ∧ Q x y) ∨ ∃ b' y, bB b = some (.next b') ∧ bB b' = some (.stop y) ∧ Q x y))) :
    ∀ m kA kB a b, m < kA → m + 1 < kB → R a b m → Is2 (loopM bA kA a) (loopM bB kB b) Q := by
  intro m
  induction m using Nat.strongRecOn with
  | _ m ih =>
    intro kA kB a b hA hB hR
    obtain ⟨kA, rfl⟩ : ∃ k, kA = k + 1 := ⟨kA - 1, by omega⟩
    obtain ⟨kB, rfl⟩ : ∃ k, kB = k + 2 := ⟨kB - 2, by omega⟩
    rcases h m a b hR with ⟨a', b', m', h1, h2, hm, hR'⟩ | ⟨x, h1, ⟨y, h2, hq⟩ | ⟨b', y, h2, h3, hq⟩⟩
    · have := ih m' hm kA (kB + 1) a' b' (by omega) (by omega) hR'
      simp only [loopM, h1, h2] at this ⊢
      exact this
    · exact ⟨x, y, by simp only [loopM, h1], by simp only [loopM, h2], hq⟩
    · exact ⟨x, y, by simp only [loopM, h1], by simp only [loopM, h2, h3], hq⟩
end

/-! ### chars -/
def lst (br : Bool) : Str := bif br then [93, 92, 45] else [40, 41, 91, 93, 124, 42, 43, 63, 46, 92]
def pl (br : Bool) (c : Nat) : Bool := decide (32 ≤ c ∧ c ≤ 126) && !((lst br).map UInt8.toNat).contains c
theorem pl_prog : ∀ br, ∀ c : Nat, c < 256 → (bif decide ((c : Int) < 32) then some true else bif decide (126 < (c : Int)) then some true else (M.strings_IndexByte (lst br) (c : Int)).bind fun r => some (decide (0 ≤ r))) = some (!pl br c) := by decide +kernel
theorem pl_ref : ∀ br, ∀ c : Nat, c < 256 → M.ref08_plain (c : Int) br = some (pl br c) := by decide +kernel
theorem pl_end : ∀ br, M.ref08_plain (-1) br = some false := by decide +kernel
def es (c : Nat) : Bool := decide (32 ≤ c ∧ c ≤ 126) && !(decide (48 ≤ c ∧ c ≤ 57) || decide (97 ≤ c ∧ c ≤ 122) || decide (65 ≤ c ∧ c ≤ 90))
theorem es_prog : ∀ c : Nat, c < 256 → (bif decide ((c : Int) < 32) then some true else bif decide (126 < (c : Int)) then some true else (M.regex_alphanumeric (c : Int)).bind fun r => some r) = some (!es c) := by decide +kernel
theorem es_ref : ∀ c : Nat, c < 256 → (bif decide (32 ≤ (c : Int)) then bif decide ((c : Int) ≤ 126) then (M.ref08_letter (c : Int)).bind fun r => some (!r) else some false else some false) = some (es c) := by decide +kernel
theorem es_end : (bif decide ((32 : Int) ≤ -1) then bif decide ((-1 : Int) ≤ 126) then (M.ref08_letter (-1)).bind fun r => some (!r) else some false else some false) = some false := by decide +kernel

section
variable {s : Str} (hs : s.length ≤ 1000000)
theorem next_lt {p : Nat} {b : Bool} (h : p < s.length) : M.ref08_parser_next ⟨s, p, b⟩ = some ((s[p]).toNat : Int) := by
  unfold M.ref08_parser_next
  simp only [dec_f (show ¬ (s.length : Int) ≤ (p : Int) by omega), cond_false, idxS_nat h, Option.bind_some]
  rw [wrap_i64 (by omega) (by have := (s[p]).toNat_lt; omega)]
theorem next_end {b : Bool} : M.ref08_parser_next ⟨s, (s.length : Nat), b⟩ = some (-1) := by
  unfold M.ref08_parser_next
  simp only [dec_t (show (s.length : Int) ≤ (s.length : Int) by omega), cond_true]
theorem peek_lt {p : Nat} (h : p < s.length) : M.regex_reader_peek ⟨s, p⟩ = some ((s[p]).toNat : Int) := by
  unfold M.regex_reader_peek
  simp only [dec_t (show (p : Int) < (s.length : Int) by omega), cond_true, idxS_nat h, Option.bind_some]
theorem peek_end : M.regex_reader_peek ⟨s, (s.length : Nat)⟩ = some 0 := by
  unfold M.regex_reader_peek
  simp only [dec_f (show ¬ (s.length : Int) < (s.length : Int) by omega), cond_false]
def SimC (s : Str) (p : Nat) (a : Rt (Int × T_regex_reader)) (b : Int × T_ref08_parser) : Prop :=
  (∃ c q : Nat, p + 1 ≤ q ∧ q ≤ s.length ∧ c < 256 ∧ a = .ret ((c : Int), ⟨s, q⟩) ∧ b = ((c : Int), ⟨s, q, false⟩)) ∨ (∃ q : Nat, q ≤ s.length ∧ a = .pan q ∧ b = (0, ⟨s, q, true⟩))
include hs
theorem escape_sim {p : Nat} (hp : p ≤ s.length) : ∃ a, M.regex_reader_escape ⟨s, p⟩ = some a ∧ ((∃ c : Nat, p < s.length ∧ c < 256 ∧ a = .ret ((c : Int), ⟨s, (p + 1 : Nat)⟩) ∧
      (∃ h : p < s.length, ((s[p]).toNat = 110 ∧ c = 10) ∨ ((s[p]).toNat ≠ 110 ∧ (s[p]).toNat = 116 ∧ c = 9) ∨ ((s[p]).toNat ≠ 110 ∧ (s[p]).toNat ≠ 116 ∧ es (s[p]).toNat = true ∧ c = (s[p]).toNat))) ∨
      (a = .pan p ∧ (p = s.length ∨ ∃ h : p < s.length, (s[p]).toNat ≠ 110 ∧ (s[p]).toNat ≠ 116 ∧ es (s[p]).toNat = false))) := by
  unfold M.regex_reader_escape
  rcases Nat.lt_or_eq_of_le hp with h | h
  · have hc : (s[p]).toNat < 256 := (s[p]).toNat_lt
    have e0 : (((p : Nat) : Int) == (s.length : Int)) = false := beq_f (by omega)
    simp only [e0, cond_false, bindStep, idxS_nat h, Option.bind_some]
    by_cases h1 : (s[p]).toNat = 110
    · simp only [beq_t (show ((s[p]).toNat : Int) = 110 by omega), cond_true, chk_succ (show p < 9223372036854775807 by omega), Option.bind_some]
      exact ⟨_, rfl, .inl ⟨10, h, by omega, rfl, h, .inl ⟨h1, rfl⟩⟩⟩
    · by_cases h2 : (s[p]).toNat = 116
      · simp only [beq_f (show ((s[p]).toNat : Int) ≠ 110 by omega), beq_t (show ((s[p]).toNat : Int) = 116 by omega), cond_false, cond_true, chk_succ (show p < 9223372036854775807 by omega), Option.bind_some]
        exact ⟨_, rfl, .inl ⟨9, h, by omega, rfl, h, .inr (.inl ⟨h1, h2, rfl⟩)⟩⟩
      · simp only [beq_f (show ((s[p]).toNat : Int) ≠ 110 by omega), beq_f (show ((s[p]).toNat : Int) ≠ 116 by omega), cond_false, es_prog _ hc, Option.bind_some]
        cases h3 : es (s[p]).toNat
        · simp only [Bool.not_false, cond_true, M.regex_reader_fail, Option.bind_some, Rt.on]
          exact ⟨_, rfl, .inr ⟨rfl, .inr ⟨h, h1, h2, h3⟩⟩⟩
        · simp only [Bool.not_true, cond_false, chk_succ (show p < 9223372036854775807 by omega), Option.bind_some]
          exact ⟨_, rfl, .inl ⟨_, h, hc, rfl, h, .inr (.inr ⟨h1, h2, h3, rfl⟩)⟩⟩
  · subst h
    simp only [beq_self_eq_true, cond_true, M.regex_reader_fail, Option.bind_some, Rt.on, bindStep]
    exact ⟨_, rfl, .inr ⟨rfl, .inl trivial⟩⟩
theorem char_sim {p : Nat} (hp : p ≤ s.length) (br : Bool) : Is2 (M.regex_reader_char ⟨s, p⟩ (lst br)) (M.ref08_parser_char ⟨s, p, false⟩ br) (SimC s p) := by
  unfold M.regex_reader_char M.ref08_parser_char
  rcases Nat.lt_or_eq_of_le hp with h | h
  · have hc : (s[p]).toNat < 256 := (s[p]).toNat_lt
    have e0 : (((p : Nat) : Int) == (s.length : Int)) = false := beq_f (by omega)
    simp only [e0, cond_false, bindStep, idxS_nat h, Option.bind_some, next_lt h]
    by_cases h1 : (s[p]).toNat = 92
    · simp only [beq_t (show ((s[p]).toNat : Int) = 92 by omega), cond_true, chk_succ (show p < 9223372036854775807 by omega), Option.bind_some]
      obtain ⟨a, ha, hcase⟩ := escape_sim hs (p := p + 1) h
      simp only [ha, Option.bind_some]
      rcases hcase with ⟨c, hp1, hc1, rfl, hh, hcc⟩ | ⟨rfl, hh⟩
      · have hc2 : (s[p + 1]).toNat < 256 := (s[p + 1]).toNat_lt
        have e2 : chk .i64 (((p + 1 : Nat) : Int) + 1) = some ((p + 1 + 1 : Nat) : Int) := chk_succ (by omega)
        simp only [Rt.on, next_lt hh, Option.bind_some]
        rcases hcc with ⟨g1, rfl⟩ | ⟨g1, g2, rfl⟩ | ⟨g1, g2, g3, rfl⟩
        · simp only [beq_t (show ((s[p + 1]).toNat : Int) = 110 by omega), cond_true, e2, Option.bind_some]
          exact .pure (.inl ⟨10, p + 1 + 1, by omega, hh, by omega, rfl, rfl⟩)
        · simp only [beq_f (show ((s[p + 1]).toNat : Int) ≠ 110 by omega), beq_t (show ((s[p + 1]).toNat : Int) = 116 by omega), cond_false, cond_true, e2, Option.bind_some]
          exact .pure (.inl ⟨9, p + 1 + 1, by omega, hh, by omega, rfl, rfl⟩)
        · simp only [beq_f (show ((s[p + 1]).toNat : Int) ≠ 110 by omega), beq_f (show ((s[p + 1]).toNat : Int) ≠ 116 by omega), cond_false, es_ref _ hc2, g3, Option.bind_some, cond_true, e2]
          exact .pure (.inl ⟨_, p + 1 + 1, by omega, hh, hc2, rfl, rfl⟩)
      · simp only [Rt.on]
        rcases hh with hh | ⟨hh, g1, g2, g3⟩
        · rw [hh, next_end]
          simp only [Option.bind_some, show ((-1 : Int) == 110) = false from rfl, show ((-1 : Int) == 116) = false from rfl, cond_false, es_end]
          exact .pure (.inr ⟨s.length, Nat.le_refl _, by rw [← hh], rfl⟩)
        · have hc2 : (s[p + 1]).toNat < 256 := (s[p + 1]).toNat_lt
          simp only [next_lt hh, Option.bind_some, beq_f (show ((s[p + 1]).toNat : Int) ≠ 110 by omega), beq_f (show ((s[p + 1]).toNat : Int) ≠ 116 by omega), cond_false, es_ref _ hc2, g3]
          exact .pure (.inr ⟨p + 1, h, rfl, rfl⟩)
    · simp only [beq_f (show ((s[p]).toNat : Int) ≠ 92 by omega), cond_false, pl_prog br _ hc, pl_ref br _ hc, Option.bind_some]
      cases h2 : pl br (s[p]).toNat
      · simp only [Bool.not_false, cond_true, M.regex_reader_fail, Option.bind_some, Rt.on]
        exact .pure (.inr ⟨p, hp, rfl, rfl⟩)
      · simp only [Bool.not_true, cond_false, chk_succ (show p < 9223372036854775807 by omega), Option.bind_some]
        exact .pure (.inl ⟨_, p + 1, by omega, h, hc, rfl, rfl⟩)
  · subst h
    simp only [beq_self_eq_true, cond_true, M.regex_reader_fail, Option.bind_some, Rt.on, bindStep, next_end, show ((-1 : Int) == 92) = false from rfl, cond_false, pl_end, Bool.not_false]
    exact .pure (.inr ⟨s.length, Nat.le_refl _, rfl, rfl⟩)
end
/-! ### sets -/
theorem refWith_ok {v : Vec 4} (hv : W4 v) {c : Nat} (hc : c < 256) : M.ref08_With v (c : Int) = some (with1 v c) := by
  have h2 : 2 ^ (c % 64) < 18446744073709551616 := Nat.pow_lt_pow_right (n := 64) (by omega) (Nat.mod_lt _ (by omega))
  have e1 := quo_byte (k := .i64) (c := c) (wrap_i64 (by omega) (by omega))
  have e2 := vget_wd hv (i := c / 64) (by omega)
  have e3 : remM (c : Int) 64 = some ((c % 64 : Nat) : Int) := rem_nat (b := 64) (by omega)
  have e4 := shl1_u64 (t := c % 64) (by omega)
  have e5 := bits_or_u64 (wd_lt hv (c / 64)) h2
  have e6 := vset_nat (v := v) (i := c / 64) (x := wd v (c / 64) ||| 2 ^ (c % 64)) (by omega)
  have e7 : IntKind.u64.wrap ((c % 64 : Nat) : Int) = ((c % 64 : Nat) : Int) := wrap_u64 (by omega) (by omega)
  unfold M.ref08_With with1
  simp only [e1, e2, e3, e7, e4, e5, e6, Option.bind_some]
theorem refNot_ok {v : Vec 4} (hv : W4 v) : M.ref08_Not v = some (vcompl v) := Complement_eq hv
theorem W4_fold (l : List Nat) {v : Vec 4} (hv : W4 v) : W4 (l.foldl with1 v) := foldl_W4 l v hv
theorem range_lt {lo hi : Nat} (h : hi < 256) : ∀ b ∈ rangeL lo hi, b < 256 := by
  intro b hb
  simp only [rangeL, List.mem_map, List.mem_range] at hb
  obtain ⟨i, hi, rfl⟩ := hb
  omega
theorem union_range {v : Vec 4} (hv : W4 v) {lo hi : Nat} (h : hi < 256) : vunion v (ofL (rangeL lo hi)) = (rangeL lo hi).foldl with1 v := by
  refine set_ext (W4_union hv (W4_ofL _)) (W4_fold _ hv) fun b hb => ?_
  rw [mem_union hb, mem_ofL (range_lt h), foldl_mem _ _ (range_lt h)]
theorem rangeL_snoc {lo : Nat} {i : Nat} : rangeL lo (lo + i) = (if i = 0 then [] else rangeL lo (lo + i - 1)) ++ [lo + i] := by
  unfold rangeL
  rw [show lo + i + 1 - lo = i + 1 by omega, List.range_succ, List.map_append]
  by_cases h : i = 0
  · subst h; simp
  · rw [if_neg h, show lo + i - 1 + 1 - lo = i by omega]; rfl
theorem loop_stop' {σ ρ : Type} {body : σ → Option (Step σ ρ)} {a : σ} {r : ρ} (k : Nat) (h : body a = some (.stop r)) : loopM body (k + 1) a = some r := by simp only [loopM, h]
theorem loop_next' {σ ρ : Type} {body : σ → Option (Step σ ρ)} {a b : σ} (k : Nat) (h : body a = some (.next b)) : loopM body (k + 1) a = loopM body k b := by simp only [loopM, h]
theorem fuel_succ : fuel = 18446744073709551615 + 1 := by unfold fuel; rfl
theorem loop_stop {σ ρ : Type} {body : σ → Option (Step σ ρ)} {a : σ} {r : ρ} (h : body a = some (.stop r)) : loopM body fuel a = some r := by rw [fuel_succ]; exact loop_stop' _ h
theorem loop_next {σ ρ : Type} {body : σ → Option (Step σ ρ)} {a b : σ} (h : body a = some (.next b)) : loopM body fuel a = loopM body 18446744073709551615 b := by rw [fuel_succ]; exact loop_next' _ h
theorem with_loop {ρ : Type} {set : Vec 4} (hv : W4 set) {lo hi : Nat} (hl : lo ≤ hi) (hh : hi < 256) {X : Vec 4 → ρ} {body : Vec 4 × Int → Option (Step (Vec 4 × Int) ρ)}
    (hb : ∀ v x, body (v, x) = (some (decide (x ≤ (hi : Int)))).bind fun c => bif c then (M.ref08_With v x).bind fun r => (chk .i64 (x + 1)).bind fun t => some (.next (r, t)) else some (.stop (X v))) :
    loopM body fuel (set, (lo : Int)) = some (X ((rangeL lo hi).foldl with1 set)) := by
  have key : ∀ i, i ≤ hi - lo + 1 → W4 (((List.range i).map (lo + ·)).foldl with1 set) := fun i _ => W4_fold _ hv
  refine loopM_count (body := body) (fun i => (((List.range i).map (lo + ·)).foldl with1 set, ((lo + i : Nat) : Int))) (hi + 1 - lo) (fun i hi' => ?_) ?_ fuel (lt_fuel (by omega))
  · have e : chk .i64 (((lo + i : Nat) : Int) + 1) = some ((lo + (i + 1) : Nat) : Int) := by rw [chk_i64 (by omega) (by omega)]; rfl
    rw [hb]
    simp only [dec_t (show ((lo + i : Nat) : Int) ≤ (hi : Int) by omega), Option.bind_some, cond_true, refWith_ok (key i (by omega)) (show lo + i < 256 by omega), e]
    rw [List.range_succ, List.map_append, List.foldl_append]
    rfl
  · rw [hb]
    simp only [dec_f (show ¬ ((lo + (hi + 1 - lo) : Nat) : Int) ≤ (hi : Int) by omega), Option.bind_some, cond_false]
    rfl

/-! ### brackets -/
/-- One round of the reference's loop in brackets. -/
def refElem (s : Str) (p : Int) (set : Vec 4) : Option (Step (Str × Int × Bool × (Vec 4) × Bool) (Str × Int × Bool × (Vec 4))) :=
    (M.ref08_parser_char (T_ref08_parser.mk s p false) true).bind fun rv60 =>
    (
     (
      bif (!rv60.2.bad) then
       (M.ref08_parser_next rv60.2).bind fun rv65 =>
       some (rv65 == 45)
      else
       some false).bind fun (xv119 : Bool) =>
     bif xv119 then
      (chk .i64 (rv60.2.atv + 1)).bind fun t43 =>
      (M.ref08_parser_char (T_ref08_parser.mk rv60.2.s t43 rv60.2.bad) true).bind fun rv66 =>
      (
       bif (!rv66.2.bad) then
        some (decide (rv66.1 < rv60.1))
       else
        some false).bind fun (xv120 : Bool) =>
      bif xv120 then
       some (rv66.2.s, t43, true, rv66.1)
      else
       some (rv66.2.s, rv66.2.atv, rv66.2.bad, rv66.1)
     else
      some (rv60.2.s, rv60.2.atv, rv60.2.bad, rv60.1)).bind fun (xv116, t42, xv117, xv118) =>
    loopM (fun (st9 : (Vec 4) × Int) => match st9 with
    | (xv124, xv125) =>
     (
      bif (!xv117) then
       some (decide (xv125 ≤ xv118))
      else
       some false).bind fun (xv129 : Bool) =>
     bif xv129 then
      (M.ref08_With xv124 xv125).bind fun rv69 =>
      (chk .i64 (xv125 + 1)).bind fun t46 =>
      some (.next (rv69, t46))
     else
      some (.stop (.next (xv116, t42, xv117, xv124, false)))) fuel (set, rv60.1)
section
variable {s : Str} (hs : s.length ≤ 1000000)
theorem peek_next {q : Nat} (hq : q ≤ s.length) : ∃ x y, M.regex_reader_peek ⟨s, q⟩ = some x ∧ M.ref08_parser_next ⟨s, q, false⟩ = some y ∧ (∀ v : Int, v ≠ 0 → v ≠ -1 → (x == v) = (y == v)) ∧ (∀ v : Int, v ≠ 0 → x = v → q < s.length) := by
  rcases Nat.lt_or_eq_of_le hq with h | h
  · exact ⟨_, _, peek_lt h, next_lt h, fun _ _ _ => rfl, fun _ _ _ => h⟩
  · subst h
    exact ⟨_, _, peek_end, next_end, fun v h1 h2 => by rw [beq_f (fun e => h1 e.symm), beq_f (fun e => h2 e.symm)], fun v h1 h2 => absurd h2.symm h1⟩
def SimE (s : Str) (p : Nat) (set : Vec 4) (a : Rt ((Vec 4) × T_regex_reader)) (b : Step (Str × Int × Bool × (Vec 4) × Bool) (Str × Int × Bool × (Vec 4))) : Prop :=
  (∃ lo hi q : Nat, p + 1 ≤ q ∧ q ≤ s.length ∧ lo ≤ hi ∧ hi < 256 ∧ a = .ret (ofL (rangeL lo hi), ⟨s, q⟩) ∧ b = .next (s, q, false, (rangeL lo hi).foldl with1 set, false)) ∨
  (∃ q : Nat, q ≤ s.length ∧ a = .pan q ∧ b = .next (s, q, true, set, false))
include hs
theorem elem_sim {p : Nat} (hp : p ≤ s.length) {set : Vec 4} (hv : W4 set) : Is2 (M.regex_reader_element ⟨s, p⟩) (refElem s p set) (SimE s p set) := by
  unfold M.regex_reader_element refElem
  have h1 := char_sim hs hp true
  refine Is2.bb h1 ?_
  rintro a b (⟨c, q, hq1, hq2, hc, rfl, rfl⟩ | ⟨q, hq, rfl, rfl⟩)
  · simp only [Rt.on]
    obtain ⟨x, y, hx, hy, hxy, hlt⟩ := peek_next hq2
    have h45 := hxy 45 (by decide) (by decide)
    simp only [Bool.not_false, cond_true, hx, hy, Option.bind_some]
    rw [← h45]
    cases h : (x == (45 : Int))
    · refine Is2.sl rfl (Is2.l (Range_eq hc hc) (Is2.r (b := (s, (q : Int), false, (c : Int))) rfl ?_))
      refine ⟨_, _, rfl, with_loop hv (Nat.le_refl c) hc (X := fun v => .next (s, (q : Int), false, v, false)) (fun v x => rfl), .inl ⟨c, c, q, hq1, hq2, Nat.le_refl _, hc, rfl, rfl⟩⟩
    · have hq3 := hlt 45 (by decide) (of_beq_t h)
      simp only [cond_true, chk_succ (show q < 9223372036854775807 by omega), Option.bind_some]
      have h2 := char_sim hs (p := q + 1) hq3 true
      obtain ⟨a2, b2, ha2, hb2, hcase⟩ := h2
      have ha2' : M.regex_reader_char ⟨s, ((q + 1 : Nat) : Int)⟩ [93, 92, 45] = some a2 := ha2
      simp only [ha2', hb2, Option.bind_some]
      rcases hcase with ⟨c2, q2, hq4, hq5, hc2, rfl, rfl⟩ | ⟨q2, hq4, rfl, rfl⟩
      · simp only [Rt.on, Bool.not_false, cond_true, Option.bind_some]
        by_cases hlt2 : c2 < c
        · simp only [dec_t (show (c2 : Int) < (c : Int) by omega), cond_true, M.regex_reader_fail, Option.bind_some, Rt.on, bindStep]
          exact ⟨_, _, rfl, loop_stop rfl, .inr ⟨q + 1, hq3, rfl, rfl⟩⟩
        · rw [show decide ((c2 : Int) < (c : Int)) = false from dec_f (by omega)]
          refine Is2.sl rfl (Is2.l (Range_eq hc hc2) (Is2.r (b := (s, (q2 : Int), false, (c2 : Int))) rfl ?_))
          exact ⟨_, _, rfl, with_loop hv (by omega : c ≤ c2) hc2 (X := fun v => .next (s, (q2 : Int), false, v, false)) (fun v x => rfl), .inl ⟨c, c2, q2, by omega, hq5, by omega, hc2, rfl, rfl⟩⟩
      · simp only [Rt.on, Bool.not_true, cond_false, Option.bind_some, bindStep]
        exact ⟨_, _, rfl, loop_stop rfl, .inr ⟨q2, hq4, rfl, rfl⟩⟩
  · simp only [Rt.on, Bool.not_true, cond_false, Option.bind_some]
    exact ⟨_, _, rfl, loop_stop rfl, .inr ⟨q, hq, rfl, rfl⟩⟩
def SimB (s : Str) (p : Nat) (a : Rt ((Vec 4) × T_regex_reader)) (b : T_Regex × T_ref08_parser) : Prop :=
  (∃ (set : Vec 4) (q : Nat), p + 1 ≤ q ∧ q ≤ s.length ∧ W4 set ∧ a = .ret (set, ⟨s, q⟩) ∧ b = (⟨3, set, []⟩, ⟨s, q, false⟩)) ∨ (∃ (q : Nat) (y : T_Regex), q ≤ s.length ∧ a = .pan q ∧ b = (y, ⟨s, q, true⟩))
theorem bracket_sim {p : Nat} (hp : p < s.length) (h91 : (s[p]).toNat = 91) : Is2 (M.regex_reader_bracket ⟨s, p⟩) (M.ref08_parser_brackets ⟨s, (p + 1 : Nat), false⟩) (SimB s p) := by
  unfold M.regex_reader_bracket M.ref08_parser_brackets
  have hex : M.regex_reader_expect ⟨s, p⟩ 91 = some (.ret ⟨s, (p + 1 : Nat)⟩) := by
    unfold M.regex_reader_expect
    simp only [beq_f (show (p : Int) ≠ (s.length : Int) by omega), cond_false, idxS_nat hp, Option.bind_some, bne_f (show ((s[p]).toNat : Int) = 91 by omega), bindStep, chk_succ (show p < 9223372036854775807 by omega)]
  obtain ⟨x, y, hx, hy, hxy, hlt⟩ := peek_next (s := s) (q := p + 1) hp
  have h94 := hxy 94 (by decide) (by decide)
  simp only [hex, Option.bind_some, Rt.on, hx, hy]
  rw [← h94]
  -- the place behind the sign
  obtain ⟨p2, hp2, hp21, hsel⟩ : ∃ p2 : Nat, p2 ≤ s.length ∧ p + 1 ≤ p2 ∧ (bif x == (94 : Int) then (chk .i64 (((p + 1 : Nat) : Int) + 1)).bind fun t2 => some t2 else some ((p + 1 : Nat) : Int)) = some (p2 : Int) := by
    cases h : (x == (94 : Int))
    · exact ⟨p + 1, hp, Nat.le_refl _, rfl⟩
    · have := hlt 94 (by decide) (of_beq_t h)
      exact ⟨p + 2, by omega, by omega, by rw [cond_true, chk_succ (by omega)]; rfl⟩
  generalize hng : (x == (94 : Int)) = ng at hsel ⊢
  refine Is2.l hsel (Is2.r hsel ?_)
  obtain ⟨a1, b1, ha1, hb1, hcase⟩ := elem_sim hs hp2 W4_zero
  refine Is2.l ha1 ?_
  rcases hcase with ⟨lo, hi, q, hq1, hq2, hlh, hhi, rfl, rfl⟩ | ⟨q, hq, rfl, rfl⟩
  · refine Is2.sb (P := fun (a : Step (Str × Int × (Vec 4)) (Rt ((Vec 4) × T_regex_reader))) (b : Str × Int × Bool × (Vec 4)) =>
        (∃ (q : Nat) (set : Vec 4), q < s.length ∧ p + 1 ≤ q ∧ W4 set ∧ a = .next (s, (q : Int), set) ∧ b = (s, (q : Int), false, set)) ∨ (∃ (q : Nat) (set : Vec 4), q ≤ s.length ∧ a = .stop (.pan q) ∧ b = (s, (q : Int), true, set)))
      (Is2.er (loop_next hb1) (Is2.loop (fun (a : Str × Int × (Vec 4)) (b : Str × Int × Bool × (Vec 4) × Bool) m => ∃ (q : Nat) (set : Vec 4), q ≤ s.length ∧ p + 1 ≤ q ∧ W4 set ∧ a = (s, (q : Int), set) ∧ b = (s, (q : Int), false, set, false) ∧ m = s.length - q) ?_
        (s.length - q) _ _ _ _ (by unfold fuel; omega) (by omega) ⟨q, (rangeL lo hi).foldl with1 (Vec.zero 4), hq2, by omega, W4_fold _ W4_zero, rfl, rfl, rfl⟩)) ?_ ?_
    · rintro m _ _ ⟨q, set, hq, hpq, hv, rfl, rfl, rfl⟩
      obtain ⟨x, y, hx, hy, hxy, hlt⟩ := peek_next hq
      have h93 := hxy 93 (by decide) (by decide)
      cases h : (x == (93 : Int))
      · have hb1 : (x != (93 : Int)) = true := by rw [bne, h]; rfl
        have hb2 : (y != (93 : Int)) = true := by rw [bne, ← h93, h]; rfl
        obtain ⟨a1, b1, ha1, hb1', hcase⟩ := elem_sim hs hq hv
        rcases hcase with ⟨lo, hi, q', hq1, hq2, hlh, hhi, rfl, rfl⟩ | ⟨q', hq', rfl, rfl⟩
        · refine .inl ⟨(s, (q' : Int), vunion set (ofL (rangeL lo hi))), _, s.length - q', bind_of hx (cnd_t hb1 (bind_of ha1 (bind_of (Union_eq hv (W4_ofL _)) rfl))), bind_of (x := true) (bind_of hy (congrArg some hb2)) hb1', by omega, ?_⟩
          exact ⟨q', _, hq2, by omega, W4_fold _ hv, by rw [union_range hv hhi], rfl, rfl⟩
        · refine .inr ⟨.stop (.pan q'), bind_of hx (cnd_t hb1 (bind_of ha1 rfl)), .inr ⟨(s, (q' : Int), true, set, false), (s, (q' : Int), true, set), bind_of (x := true) (bind_of hy (congrArg some hb2)) hb1', rfl, ?_⟩⟩
          exact .inr ⟨q', set, hq', rfl, rfl⟩
      · have hb1 : (x != (93 : Int)) = false := by rw [bne, h]; rfl
        have hb2 : (y != (93 : Int)) = false := by rw [bne, ← h93, h]; rfl
        refine .inr ⟨.next (s, (q : Int), set), bind_of hx (cnd_f hb1 rfl), .inl ⟨(s, (q : Int), false, set), bind_of (x := false) (bind_of hy (congrArg some hb2)) rfl, ?_⟩⟩
        exact .inl ⟨q, set, hlt 93 (by decide) (of_beq_t h), hpq, hv, rfl, rfl⟩
    · rintro a b (⟨q, set, hq, hpq, hv, e, rfl⟩ | ⟨q, set, hq, e, rfl⟩)
      · cases e
        refine Is2.l (chk_succ (i := q) (by omega)) (Is2.r (chk_succ (i := q) (by omega)) ?_)
        cases ng
        · exact .pure (.inl ⟨set, q + 1, by omega, hq, hv, rfl, rfl⟩)
        · exact Is2.l (Complement_eq hv) (Is2.r (b := vcompl set) (bind_of (refNot_ok hv) rfl) (.pure (.inl ⟨vcompl set, q + 1, by omega, hq, W4_compl hv, rfl, rfl⟩)))
      · cases e
    · rintro x b (⟨q, set, hq, hpq, hv, e, rfl⟩ | ⟨q, set, hq, e, rfl⟩)
      · cases e
      · cases e
        exact .pure (.inr ⟨q, _, hq, rfl, rfl⟩)
  · exact Is2.r (b := (s, (q : Int), true, Vec.zero 4)) ((loop_next hb1).trans (loop_stop' 18446744073709551614 rfl)) (.pure (.inr ⟨q, _, hq, rfl, rfl⟩))
end
end Go.Proofs.YtffienmbeifioaaDoor
