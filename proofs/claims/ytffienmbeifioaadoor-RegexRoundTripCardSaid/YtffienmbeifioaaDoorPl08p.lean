/- Plain facts on layer 8: the reader reads the text of a set. -/
import Derived.Test.YtffienmbeifioaaDoorPl08o
namespace Go.Proofs.YtffienmbeifioaaDoor
open Go.Lx

theorem at_cons {s : Str} {p : Nat} {c : UInt8} {r : Str} (h : s.drop p = c :: r) : ∃ hp : p < s.length, s[p] = c ∧ s.drop (p + 1) = r := by
  have hp : p < s.length := by
    refine Nat.lt_of_not_le fun h2 => ?_
    rw [List.drop_eq_nil_of_le h2] at h
    cases h
  have h3 : s.drop p = s[p] :: s.drop (p + 1) := (List.getElem_cons_drop hp).symm
  rw [h3] at h
  simp only [List.cons.injEq] at h
  exact ⟨hp, h.1, h.2⟩
theorem at_app {s : Str} {p : Nat} {a r : Str} (h : s.drop p = a ++ r) : s.drop (p + a.length) = r := by
  rw [← List.drop_drop, h, List.drop_left]
theorem at_len {s : Str} {p : Nat} {a r : Str} (h : s.drop p = a ++ r) (hp : p ≤ s.length) : p + a.length ≤ s.length := by
  have := congrArg List.length h
  rw [List.length_drop, List.length_append] at this
  omega
theorem peek_at {s : Str} {p : Nat} {c : UInt8} {r : Str} (h : s.drop p = c :: r) : M.regex_reader_peek ⟨s, p⟩ = some (c.toNat : Int) := by
  obtain ⟨hp, h1, _⟩ := at_cons h
  rw [peek_lt hp, h1]
theorem peek_nil {s : Str} {p : Nat} (h : s.drop p = []) (hp : p ≤ s.length) : M.regex_reader_peek ⟨s, p⟩ = some 0 := by
  have : p = s.length := by
    have := congrArg List.length h
    rw [List.length_drop, List.length_nil] at this
    omega
  subst this
  exact peek_end
/-- What the text of a char is. -/
theorem wch_bool : ∀ br, ∀ b : Nat, b < 256 → (!wrt b || ((b == 10 && wch br b == [92, 110]) || ((b == 9 && wch br b == [92, 116]) || ((es b && b != 110 && b != 116 && wch br b == [92, UInt8.ofNat b]) || (pl br b && b != 92 && wch br b == [UInt8.ofNat b]))))) = true := by decide +kernel
theorem wch_cases (br : Bool) (b : Nat) (hb : b < 256) (hw : wrt b = true) : (b = 10 ∧ wch br b = [92, 110]) ∨ (b = 9 ∧ wch br b = [92, 116]) ∨ (es b = true ∧ b ≠ 110 ∧ b ≠ 116 ∧ wch br b = [92, UInt8.ofNat b]) ∨ (pl br b = true ∧ b ≠ 92 ∧ wch br b = [UInt8.ofNat b]) := by
  have := wch_bool br b hb
  rw [hw, Bool.not_true, Bool.false_or] at this
  simp only [Bool.or_eq_true, Bool.and_eq_true, beq_iff_eq, bne_iff_ne, and_assoc] at this
  exact this
theorem ofNat_toNat {b : Nat} (h : b < 256) : (UInt8.ofNat b).toNat = b := by rw [UInt8.toNat_ofNat']; omega
theorem char_at {s : Str} (hs : s.length ≤ 1000000) {br : Bool} {b p : Nat} (hb : b < 256) (hw : wrt b = true) {r : Str} (h : s.drop p = wch br b ++ r) :
    M.regex_reader_char ⟨s, p⟩ (lst br) = some (.ret ((b : Int), ⟨s, (p + (wch br b).length : Nat)⟩)) := by
  have esc : ∀ c : UInt8, s.drop p = 92 :: c :: r → (∃ x : Nat, (c.toNat = 110 ∧ x = 10) ∨ (c.toNat ≠ 110 ∧ c.toNat = 116 ∧ x = 9) ∨ (c.toNat ≠ 110 ∧ c.toNat ≠ 116 ∧ es c.toNat = true ∧ x = c.toNat)) → ∀ x : Nat,
      ((c.toNat = 110 ∧ x = 10) ∨ (c.toNat ≠ 110 ∧ c.toNat = 116 ∧ x = 9) ∨ (c.toNat ≠ 110 ∧ c.toNat ≠ 116 ∧ es c.toNat = true ∧ x = c.toNat)) → M.regex_reader_char ⟨s, p⟩ (lst br) = some (.ret ((x : Int), ⟨s, (p + 2 : Nat)⟩)) := by
    intro c h _ x hx
    obtain ⟨hp, h1, h2⟩ := at_cons h
    obtain ⟨hp2, h3, _⟩ := at_cons h2
    obtain ⟨a, ha, hcase⟩ := escape_sim hs (p := p + 1) hp
    unfold M.regex_reader_char
    have h92 : (s[p]).toNat = 92 := by rw [h1]; rfl
    refine bindStep_next (cnd_f (beq_f (show (p : Int) ≠ (s.length : Int) by omega)) rfl) (bind_of (idxS_nat hp) (cnd_t (beq_t (show ((s[p]).toNat : Int) = 92 by omega)) (bind_of (chk_succ (i := p) (by omega)) (bind_of ha ?_))))
    rcases hcase with ⟨y, _, _, rfl, hh, hcc⟩ | ⟨rfl, hh⟩
    · rw [h3] at hcc
      have : y = x := by omega
      subst this
      rfl
    · rcases hh with hh | ⟨hh, g1, g2, g3⟩
      · omega
      · rw [h3] at g1 g2 g3
        rcases hx with ⟨e, _⟩ | ⟨_, e, _⟩ | ⟨_, _, e, _⟩
        · exact absurd e g1
        · exact absurd e g2
        · rw [e] at g3; cases g3
  rcases wch_cases br b hb hw with ⟨rfl, e⟩ | ⟨rfl, e⟩ | ⟨g1, g2, g3, e⟩ | ⟨g1, g2, e⟩
  · rw [e] at h ⊢
    exact esc 110 h ⟨10, .inl ⟨rfl, rfl⟩⟩ 10 (.inl ⟨rfl, rfl⟩)
  · rw [e] at h ⊢
    exact esc 116 h ⟨9, .inr (.inl ⟨by decide, rfl, rfl⟩)⟩ 9 (.inr (.inl ⟨by decide, rfl, rfl⟩))
  · rw [e] at h ⊢
    have hx := ofNat_toNat hb
    have hc : ((UInt8.ofNat b).toNat ≠ 110 ∧ (UInt8.ofNat b).toNat ≠ 116 ∧ es (UInt8.ofNat b).toNat = true ∧ b = (UInt8.ofNat b).toNat) := by
      rw [hx]; exact ⟨g2, g3, g1, rfl⟩
    exact esc _ h ⟨b, .inr (.inr hc)⟩ b (.inr (.inr hc))
  · rw [e] at h ⊢
    obtain ⟨hp, h1, _⟩ := at_cons (show s.drop p = UInt8.ofNat b :: r from h)
    have hv : (s[p]).toNat = b := by rw [h1]; exact ofNat_toNat hb
    unfold M.regex_reader_char
    refine bindStep_next (cnd_f (beq_f (show (p : Int) ≠ (s.length : Int) by omega)) rfl) (bind_of (idxS_nat hp) ?_)
    rw [hv]
    refine cnd_f (beq_f (by omega)) (bindStep_next (bind_of (pl_prog br b hb) (by rw [g1]; rfl)) (bind_of (chk_succ (i := p) (by omega)) rfl))
theorem on_eq {γ β : Type} {x : γ} {k : γ → β} {pp : Int → β} {r : β} (h : k x = r) : (Rt.ret x).on k pp = r := h
theorem peek_ne {s : Str} {q : Nat} {r : Str} (h : s.drop q = r) (hq : q ≤ s.length) {v : Nat} (hv : v ≠ 0) (hr : ∀ c t, r = c :: t → c.toNat ≠ v) : ∃ x, M.regex_reader_peek ⟨s, q⟩ = some x ∧ (x == (v : Int)) = false := by
  cases r with
  | nil => exact ⟨0, peek_nil h hq, beq_f (by omega)⟩
  | cons c t => exact ⟨_, peek_at h, beq_f (by have := hr c t rfl; omega)⟩
theorem elem_one {s : Str} (hs : s.length ≤ 1000000) {b p : Nat} (hp : p ≤ s.length) (hb : b < 256) (hw : wrt b = true) {r : Str} (h : s.drop p = wch true b ++ r) (hr : ∀ c t, r = c :: t → c.toNat ≠ 45) :
    M.regex_reader_element ⟨s, p⟩ = some (.ret (ofL (rangeL b b), ⟨s, (p + (wch true b).length : Nat)⟩)) := by
  unfold M.regex_reader_element
  obtain ⟨x, hx, h45⟩ := peek_ne (at_app h) (at_len h hp) (v := 45) (by omega) hr
  exact bind_of (char_at hs (br := true) hb hw h) (on_eq (bindStep_next (bind_of hx (cnd_f h45 rfl)) (bind_of (Range_eq hb hb) rfl)))
theorem elem_two {s : Str} (hs : s.length ≤ 1000000) {b c p : Nat} (hb : b < 256) (hw : wrt b = true) (hc : c < 256) (hwc : wrt c = true) (hbc : b ≤ c) {r : Str} (h : s.drop p = wch true b ++ (45 :: (wch true c ++ r))) :
    M.regex_reader_element ⟨s, p⟩ = some (.ret (ofL (rangeL b c), ⟨s, (p + (wch true b).length + 1 + (wch true c).length : Nat)⟩)) := by
  unfold M.regex_reader_element
  have h1 := at_app h
  obtain ⟨hp1, _, h2⟩ := at_cons h1
  refine bind_of (char_at hs (br := true) hb hw h) (on_eq (bindStep_next (bind_of (peek_at h1) (cnd_t rfl (bind_of (chk_succ (by omega)) (bind_of (char_at hs (br := true) hc hwc h2) (on_eq (cnd_f (dec_f (by show ¬ (c : Int) < (b : Int); omega)) rfl)))))) (bind_of (Range_eq hb hc) rfl)))
theorem wch_head : ∀ br, ∀ b : Nat, b < 256 → (!wrt b || (match wch br b with | [] => false | c :: _ => c.toNat != 93 && c.toNat != 45 || !br) && (match wch br b with | [] => false | c :: _ => c.toNat != 94 || !br)) = true := by decide +kernel
theorem wch_first {b : Nat} (hb : b < 256) (hw : wrt b = true) : ∃ c t, wch true b = c :: t ∧ c.toNat ≠ 93 ∧ c.toNat ≠ 45 ∧ c.toNat ≠ 94 := by
  have := wch_head true b hb
  rw [hw, Bool.not_true, Bool.false_or] at this
  cases hx : wch true b with
  | nil => rw [hx] at this; cases this
  | cons c t =>
    rw [hx] at this
    simp only [Bool.or_false, Bool.and_eq_true, bne_iff_ne] at this
    exact ⟨c, t, rfl, this.1.1, this.1.2, this.2⟩
theorem txt_first {l : List Nat} (hW : ∀ b ∈ l, wrt b = true ∧ b < 256) (hne : l ≠ []) : ∃ c t, txt l = c :: t ∧ c.toNat ≠ 93 ∧ c.toNat ≠ 45 ∧ c.toNat ≠ 94 := by
  cases l with
  | nil => exact absurd rfl hne
  | cons b l =>
    have hb := hW b (by simp)
    obtain ⟨c, t, h1, h2⟩ := wch_first hb.2 hb.1
    rw [txt_cons, h1]
    split
    · exact ⟨c, _, rfl, h2⟩
    · exact ⟨c, _, rfl, h2⟩
theorem mem_range {lo hi c : Nat} : (rangeL lo hi).contains c = decide (lo ≤ c ∧ c ≤ hi) := by
  rw [Bool.eq_iff_iff, List.contains_iff_mem, decide_eq_true_eq]
  simp only [rangeL, List.mem_map, List.mem_range]
  constructor
  · rintro ⟨i, hi, rfl⟩; omega
  · intro h; exact ⟨c - lo, by omega, by omega⟩
theorem run_mem : ∀ (r b : Nat) (l : List Nat), r ≤ runLen b l → ∀ c, (decide (b ≤ c ∧ c ≤ b + r) || (l.drop r).contains c) = (b :: l).contains c := by
  intro r
  induction r with
  | zero =>
    intro b l _ c
    rw [List.drop_zero, List.contains_cons]
    congr 1
    rw [Bool.eq_iff_iff, decide_eq_true_eq, beq_iff_eq]
    omega
  | succ r ih =>
    intro b l h c
    cases l with
    | nil => simp [runLen] at h
    | cons d l =>
      unfold runLen at h
      split at h
      · rename_i e
        have := ih d l (by omega) c
        rw [List.drop_succ_cons, List.contains_cons, ← this, e, ← Bool.or_assoc]
        congr 1
        rw [Bool.eq_iff_iff, Bool.or_eq_true, decide_eq_true_eq, decide_eq_true_eq, beq_iff_eq]
        omega
      · omega
theorem elem_txt {s : Str} (hs : s.length ≤ 1000000) {b : Nat} {l : List Nat} (hW : ∀ c ∈ b :: l, wrt c = true ∧ c < 256) {q : Nat} (hq : q ≤ s.length) {r : Str} (h : s.drop q = txt (b :: l) ++ 93 :: r) :
    ∃ (set : Vec 4) (l' : List Nat) (q' : Nat), M.regex_reader_element ⟨s, q⟩ = some (.ret (set, ⟨s, q'⟩)) ∧ W4 set ∧ l'.length ≤ l.length ∧ (∀ c ∈ l', c ∈ l) ∧ q' ≤ s.length ∧ s.drop q' = txt l' ++ 93 :: r ∧ q' + (txt l').length = q + (txt (b :: l)).length ∧
      ∀ c, c < 256 → (mem set c || l'.contains c) = (b :: l).contains c := by
  have hb := hW b (by simp)
  rw [txt_cons] at h ⊢
  by_cases h2 : 2 ≤ run b l
  · rw [if_pos h2] at h ⊢
    have h32 : run b l = runLen b l := by
      unfold run at h2 ⊢
      split
      · rfl
      · rename_i h3; rw [if_neg h3] at h2; omega
    have hrl := runLen_le l b
    have hget := run_get (run b l - 1) b l (by omega)
    rw [show b + (run b l - 1) + 1 = b + run b l by omega] at hget
    have hmem : b + run b l ∈ l := List.mem_of_getElem? hget
    have hcc := hW _ (List.mem_cons_of_mem _ hmem)
    have h' : s.drop q = wch true b ++ (45 :: (wch true (b + run b l) ++ (txt (l.drop (run b l)) ++ 93 :: r))) := by rw [h]; simp
    have he := elem_two hs hb.2 hb.1 hcc.2 hcc.1 (Nat.le_add_right _ _) h'
    have hq' : s.drop (q + (wch true b).length + 1 + (wch true (b + run b l)).length) = txt (l.drop (run b l)) ++ 93 :: r := by
      have e1 := at_app h'
      obtain ⟨_, _, e2⟩ := at_cons e1
      exact at_app e2
    refine ⟨_, l.drop (run b l), _, he, W4_ofL _, by rw [List.length_drop]; omega, fun c hc => List.mem_of_mem_drop hc, ?_, hq', ?_, fun c hc => ?_⟩
    · refine Nat.le_of_not_lt fun hlt => ?_
      rw [List.drop_eq_nil_of_le (by omega)] at hq'
      have := congrArg List.length hq'
      simp at this
    · simp only [List.length_append, List.length_cons]; omega
    · rw [mem_ofL (range_lt hcc.2), mem_range]
      exact run_mem _ b l (by omega) c
  · rw [if_neg h2] at h ⊢
    have h' : s.drop q = wch true b ++ (txt l ++ 93 :: r) := by rw [h]; simp
    have hr : ∀ c t, txt l ++ 93 :: r = c :: t → c.toNat ≠ 45 := by
      intro c t e
      by_cases hl : l = []
      · subst hl
        rw [txt_nil] at e
        cases e
        decide
      · obtain ⟨d, u, e2, _, e3, _⟩ := txt_first (fun x hx => hW x (List.mem_cons_of_mem _ hx)) hl
        rw [e2] at e
        cases e
        exact e3
    refine ⟨_, l, _, elem_one hs hq hb.2 hb.1 h' hr, W4_ofL _, Nat.le_refl _, fun c hc => hc, at_len h' hq, at_app h', by simp only [List.length_append]; omega, fun c hc => ?_⟩
    rw [range_one, mem_ofL (fun x hx => by rw [List.mem_singleton.1 hx]; exact hb.2), List.contains_cons, List.contains_cons]
    simp
theorem brk_loop {s : Str} (hs : s.length ≤ 1000000) {r : Str} {ρ : Type} {E : Int → ρ} {body : Str × Int × (Vec 4) → Option (Step (Str × Int × (Vec 4)) (Step (Str × Int × (Vec 4)) ρ))}
    (hb : ∀ p q v, body (p, q, v) = (M.regex_reader_peek (T_regex_reader.mk p q)).bind fun rv19 => bif (rv19 != 93) then (M.regex_reader_element (T_regex_reader.mk p q)).bind fun y9 => y9.on (fun rv20 => (M.byteset_Union v rv20.1).bind fun rv21 =>
      some (.next (rv20.2.s, rv20.2.atv, rv21))) (fun px8 => some (.stop (.stop (E px8)))) else some (.stop (.next (p, q, v)))) :
    ∀ (n : Nat) (l : List Nat), l.length ≤ n → (∀ c ∈ l, wrt c = true ∧ c < 256) → ∀ (q k : Nat) (set : Vec 4), q ≤ s.length → W4 set → s.drop q = txt l ++ 93 :: r → n < k →
      ∃ set', W4 set' ∧ (∀ c, c < 256 → mem set' c = (mem set c || l.contains c)) ∧ loopM body k (s, (q : Int), set) = some (.next (s, ((q + (txt l).length : Nat) : Int), set')) := by
  intro n
  induction n with
  | zero =>
    intro l hl hW q k set hq hv h hk
    obtain rfl := List.eq_nil_of_length_eq_zero (by omega : l.length = 0)
    obtain ⟨k, rfl⟩ : ∃ k', k = k' + 1 := ⟨k - 1, by omega⟩
    rw [txt_nil] at h ⊢
    exact ⟨set, hv, fun c _ => by simp, loopM_stop ((hb _ _ _).trans (bind_of (peek_at h) rfl))⟩
  | succ n ih =>
    intro l hl hW q k set hq hv h hk
    obtain ⟨k, rfl⟩ : ∃ k', k = k' + 1 := ⟨k - 1, by omega⟩
    cases l with
    | nil =>
      rw [txt_nil] at h ⊢
      exact ⟨set, hv, fun c _ => by simp, loopM_stop ((hb _ _ _).trans (bind_of (peek_at h) rfl))⟩
    | cons b l =>
      obtain ⟨st, l', q', he, hv2, hl2, hsub, hq', hd, hlen, hmem⟩ := elem_txt hs hW hq h
      obtain ⟨c0, t0, e0, hc0, _⟩ := txt_first hW (by simp)
      have hpk : M.regex_reader_peek ⟨s, q⟩ = some (c0.toNat : Int) := peek_at (by rw [h, e0]; rfl)
      have hstep : body (s, (q : Int), set) = some (.next (s, (q' : Int), vunion set st)) :=
        (hb _ _ _).trans (bind_of hpk (cnd_t (bne_t (by omega)) (bind_of he (on_eq (bind_of (Union_eq hv hv2) rfl)))))
      obtain ⟨set', w1, w2, w3⟩ := ih l' (by simp only [List.length_cons] at hl; omega) (fun c hc => hW c (List.mem_cons_of_mem _ (hsub c hc))) q' k (vunion set st) hq' (W4_union hv hv2) hd (by omega)
      refine ⟨set', w1, fun c hc => ?_, ?_⟩
      · rw [w2 c hc, mem_union hc, Bool.or_assoc, hmem c hc]
      · rw [loopM_next hstep, w3, hlen]
theorem contains_elems {v : Vec 4} {c : Nat} (hc : c < 256) : (elems v).contains c = mem v c := by
  rw [Bool.eq_iff_iff, List.contains_iff_mem]
  exact ⟨fun h => (elems_lt h).2, fun h => List.mem_filter.2 ⟨List.mem_range.2 hc, h⟩⟩
theorem bracket_at {s : Str} (hs : s.length ≤ 1000000) {u : Vec 4} (hu : W4 u) (hW : W1 u = true) (hne : elems u ≠ []) {ng : Bool} {p : Nat} {r : Str} (h : s.drop p = 91 :: ((bif ng then [94] else []) ++ (txt (elems u) ++ 93 :: r))) :
    M.regex_reader_bracket ⟨s, p⟩ = some (.ret ((bif ng then vcompl u else u), ⟨s, (p + 1 + (bif ng then 1 else 0) + (txt (elems u)).length + 1 : Nat)⟩)) := by
  unfold M.regex_reader_bracket
  obtain ⟨hp, h91, h1⟩ := at_cons h
  have hWl := elems_W hW
  have h91' : (s[p]).toNat = 91 := by rw [h91]; rfl
  have hex : M.regex_reader_expect ⟨s, p⟩ 91 = some (.ret ⟨s, (p + 1 : Nat)⟩) := by
    unfold M.regex_reader_expect
    exact bindStep_next (bind_of (x := false) (cnd_f (beq_f (show (p : Int) ≠ (s.length : Int) by omega)) (bind_of (idxS_nat hp) (congrArg some (bne_f (show ((s[p]).toNat : Int) = 91 by omega))))) rfl) (bind_of (chk_succ (show p < 9223372036854775807 by omega)) rfl)
  have sel : ∃ x, M.regex_reader_peek ⟨s, (p + 1 : Nat)⟩ = some x ∧ (x == (94 : Int)) = ng ∧ (bif (x == (94 : Int)) then (chk .i64 (((p + 1 : Nat) : Int) + 1)).bind fun t2 => some t2 else some ((p + 1 : Nat) : Int)) = some (((p + 1 + (bif ng then 1 else 0) : Nat)) : Int) ∧ s.drop (p + 1 + (bif ng then 1 else 0)) = txt (elems u) ++ 93 :: r := by
    cases ng
    · obtain ⟨c, t, e, _, _, h94⟩ := txt_first hWl hne
      have h1' : s.drop (p + 1) = txt (elems u) ++ 93 :: r := h1
      refine ⟨_, peek_at (by rw [h1', e]; rfl), beq_f (by omega), ?_, h1'⟩
      exact cnd_f (beq_f (by omega)) rfl
    · have h1' : s.drop (p + 1) = 94 :: (txt (elems u) ++ 93 :: r) := h1
      obtain ⟨hp2, _, h2⟩ := at_cons h1'
      exact ⟨_, peek_at h1', rfl, cnd_t rfl (bind_of (chk_succ (by omega)) rfl), h2⟩
  obtain ⟨x, hx, hng, hsel, hd⟩ := sel
  generalize hp2 : p + 1 + (bif ng then 1 else 0) = p2 at hsel hd ⊢
  have hp2l : p2 ≤ s.length := by
    refine Nat.le_of_not_lt fun hlt => ?_
    rw [List.drop_eq_nil_of_le (by omega)] at hd
    have := congrArg List.length hd
    simp at this
  cases hl : elems u with
  | nil => exact absurd hl hne
  | cons b l =>
    rw [hl] at hWl hd
    obtain ⟨st, l', q', he, hv2, hl2, hsub, hq', hd', hlen, hmem⟩ := elem_txt hs hWl hp2l hd
    have hll : l'.length ≤ 300 := by
      have := elems_len u
      rw [hl, List.length_cons] at this
      omega
    obtain ⟨set', w1, w2, w3⟩ := brk_loop (E := fun px => (Rt.pan px : Rt ((Vec 4) × T_regex_reader))) (body := fun (st9 : Str × Int × (Vec 4)) => match st9 with
      | (p13, p14, setv6) => (M.regex_reader_peek (T_regex_reader.mk p13 p14)).bind fun rv19 => bif (rv19 != 93) then (M.regex_reader_element (T_regex_reader.mk p13 p14)).bind fun y9 => y9.on (fun rv20 => (M.byteset_Union setv6 rv20.1).bind fun rv21 =>
          some (Step.next (rv20.2.s, rv20.2.atv, rv21))) (fun px8 => some (Step.stop (Step.stop (Rt.pan px8)))) else some (Step.stop (Step.next (p13, p14, setv6)))) hs (fun _ _ _ => rfl) l'.length l' (Nat.le_refl _) (fun c hc => hWl c (List.mem_cons_of_mem _ (hsub c hc))) q' fuel st hq' hv2 hd' (by unfold fuel; omega)
    have hset : set' = u := set_ext w1 hu fun c hc => by rw [w2 c hc, hmem c hc, ← hl, contains_elems hc]
    subst hset
    rw [hlen] at w3
    have hend : p2 + (txt (b :: l)).length < s.length := by
      have := at_app hd
      obtain ⟨h3, _, _⟩ := at_cons this
      exact h3
    refine bind_of hex (on_eq (bind_of hx (bind_of hsel (bind_of he (on_eq (bindStep_next w3 (bind_of (chk_succ (by omega)) ?_)))))))
    rw [hng]
    cases ng
    · rfl
    · exact bind_of (Complement_eq w1) rfl
theorem compl_compl {v : Vec 4} (hv : W4 v) : vcompl (vcompl v) = v := set_ext (W4_compl (W4_compl hv)) hv fun b hb => by rw [mem_compl hb, mem_compl hb, Bool.not_not]
theorem wch_out_head : ∀ b : Nat, b < 256 → (!wrt b || (match wch false b with | [] => false | c :: _ => c.toNat != 40 && (c.toNat != 41 && (c.toNat != 91 && (c.toNat != 124 && (c.toNat != 42 && (c.toNat != 43 && (c.toNat != 63 && c.toNat != 46)))))))) = true := by decide +kernel
theorem set_atom {s : Str} (hs : s.length ≤ 1000000) {v : Vec 4} (hv : W4 v) (hne : elems v ≠ []) (hw : W1 v = true ∨ W1 (vcompl v) = true ∧ elems (vcompl v) ≠ []) {p : Nat} {r : Str} (h : s.drop p = stxt v ++ r) (fl : Nat) :
    M.regex_reader_atom (fl + 1) ⟨s, p⟩ = some (.ret (⟨3, v, []⟩, ⟨s, (p + (stxt v).length : Nat)⟩)) := by
  unfold M.regex_reader_atom
  unfold stxt at h ⊢
  by_cases hd : v = dotS
  · rw [if_pos hd] at h ⊢
    obtain ⟨hp, _, _⟩ := at_cons (show s.drop p = 46 :: r from h)
    refine bind_of (peek_at (show s.drop p = 46 :: r from h)) (cnd_f rfl (cnd_f rfl (cnd_t rfl (bind_of (chk_succ (i := p) (by omega)) (bind_of dot_ok ?_)))))
    rw [hd]; rfl
  rw [if_neg hd] at h ⊢
  by_cases h1 : (elems v).length = 1 ∧ W1 v = true
  · rw [if_pos h1] at h ⊢
    obtain ⟨b, hb⟩ := List.length_eq_one_iff.1 h1.1
    have hbw := elems_W h1.2 b (by rw [hb]; simp)
    rw [hb] at h ⊢
    have h : s.drop p = wch false b ++ r := h
    have hhead := wch_out_head b hbw.2
    rw [hbw.1, Bool.not_true, Bool.false_or] at hhead
    cases hx : wch false b with
    | nil => rw [hx] at hhead; cases hhead
    | cons c t =>
      rw [hx] at hhead
      simp only [Bool.and_eq_true, bne_iff_ne] at hhead
      have hpk : M.regex_reader_peek ⟨s, p⟩ = some (c.toNat : Int) := peek_at (by rw [h, hx]; rfl)
      have hset : ofL (rangeL b b) = v := set_ext (W4_ofL _) hv fun c hc => by
        rw [range_one, mem_ofL (fun x hx => by rw [List.mem_singleton.1 hx]; exact hbw.2), ← hb, contains_elems hc]
      refine bind_of hpk (cnd_f (beq_f (by omega)) (cnd_f (beq_f (by omega)) (cnd_f (beq_f (by omega)) (bind_of (char_at hs (br := false) hbw.2 hbw.1 h) (on_eq (bind_of (Range_eq hbw.2 hbw.2) ?_))))))
      rw [hset]; rfl
  · rw [if_neg h1] at h ⊢
    by_cases hW : W1 v = true
    · rw [if_pos hW] at h ⊢
      have h' : s.drop p = 91 :: ((bif false then [94] else []) ++ (txt (elems v) ++ 93 :: r)) := by rw [h]; simp
      refine bind_of (peek_at h') (cnd_f rfl (cnd_t rfl (bind_of (bracket_at hs hv hW hne h') (on_eq ?_))))
      refine congrArg (fun n : Nat => some (Rt.ret ((⟨3, v, []⟩ : T_Regex), (⟨s, (n : Int)⟩ : T_regex_reader)))) ?_
      simp only [cond_false, List.length_cons, List.length_append, List.length_nil]
      omega
    · rw [if_neg hW] at h ⊢
      have hc := hw.resolve_left hW
      have h' : s.drop p = 91 :: ((bif true then [94] else []) ++ (txt (elems (vcompl v)) ++ 93 :: r)) := by rw [h]; simp
      refine bind_of (peek_at h') (cnd_f rfl (cnd_t rfl (bind_of (bracket_at hs (W4_compl hv) hc.1 hc.2 h') (on_eq ?_))))
      refine (congrArg (fun u : Vec 4 => some (Rt.ret ((⟨3, u, []⟩ : T_Regex), (⟨s, ((p + 1 + 1 + (txt (elems (vcompl v))).length + 1 : Nat) : Int)⟩ : T_regex_reader)))) (compl_compl hv)).trans ?_
      refine congrArg (fun n : Nat => some (Rt.ret ((⟨3, v, []⟩ : T_Regex), (⟨s, (n : Int)⟩ : T_regex_reader)))) ?_
      simp only [List.length_cons, List.length_append, List.length_nil]
      omega
end Go.Proofs.YtffienmbeifioaaDoor
