/- Plain facts on layer 8: first bytes of texts. -/
import Derived.Test.YtffienmbeifioaaDoorPl08p
namespace Go.Proofs.YtffienmbeifioaaDoor
open Go.Lx

/-- A text that begins a repeat: it is not empty, and its first byte is no sign, no bar and no closing parenthesis. -/
def Begins (t : Str) : Prop := ∃ c u, t = c :: u ∧ c.toNat ≠ 41 ∧ c.toNat ≠ 124 ∧ c.toNat ≠ 42 ∧ c.toNat ≠ 43 ∧ c.toNat ≠ 63
theorem Begins.app {t r : Str} (h : Begins t) : Begins (t ++ r) := by
  obtain ⟨c, u, rfl, h⟩ := h
  exact ⟨c, u ++ r, rfl, h⟩
theorem begins_par (t : Str) : Begins (par true t) := ⟨40, t ++ [41], rfl, by decide, by decide, by decide, by decide, by decide⟩
theorem begins_set {v : Vec 4} : Begins (stxt v) := by
  unfold stxt
  split
  · exact ⟨46, [], rfl, by decide, by decide, by decide, by decide, by decide⟩
  · split
    · rename_i h
      obtain ⟨b, hb⟩ := List.length_eq_one_iff.1 h.1
      have hbw := elems_W h.2 b (by rw [hb]; simp)
      rw [hb]
      have hhead := wch_out_head b hbw.2
      rw [hbw.1, Bool.not_true, Bool.false_or] at hhead
      show Begins (wch false b)
      cases hx : wch false b with
      | nil => rw [hx] at hhead; cases hhead
      | cons c t =>
        rw [hx] at hhead
        simp only [Bool.and_eq_true, bne_iff_ne] at hhead
        exact ⟨c, t, rfl, hhead.2.1, hhead.2.2.2.1, hhead.2.2.2.2.1, hhead.2.2.2.2.2.1, hhead.2.2.2.2.2.2.1⟩
    · split
      · exact ⟨91, _, rfl, by decide, by decide, by decide, by decide, by decide⟩
      · exact ⟨91, _, rfl, by decide, by decide, by decide, by decide, by decide⟩
theorem fmt_2 {s l} : fmt ⟨2, s, l⟩ = [40, 41] := by rw [fmt]; rfl
theorem fmt_3 {s l} : fmt ⟨3, s, l⟩ = stxt s := by rw [fmt]; rfl
theorem fmt_4 {s l} : fmt ⟨4, s, l⟩ = (fmtS l [4, 5]).flatten := by rw [fmt]; rfl
theorem fmt_5 {s l} : fmt ⟨5, s, l⟩ = [124].intercalate (fmtS l [5]) := by rw [fmt]; rfl
theorem fmt_6 {s y} : fmt ⟨6, s, [y]⟩ = par (([2, 4, 5, 6] : List Int).contains y.Kind) (fmt y) ++ [42] := by rw [fmt, fmtS, fmtS]; simp
theorem begins_factor {x : T_Regex} (h : Fm x) : Begins (par (([4, 5] : List Int).contains x.Kind) (fmt x)) := by
  have hk := h.kind
  have hs := h.star
  have hkids := h.kids
  obtain ⟨k, s, l⟩ := x
  simp only at hk hs hkids ⊢
  rcases hk with rfl | rfl | rfl | rfl | rfl
  · rw [fmt_2]; exact ⟨40, [41], rfl, by decide, by decide, by decide, by decide, by decide⟩
  · rw [fmt_3]; exact begins_set
  · exact begins_par _
  · exact begins_par _
  · obtain ⟨y, rfl⟩ := hs rfl
    have hy := hkids y (by simp)
    show Begins (fmt ⟨6, s, [y]⟩)
    rw [fmt_6, con2456 hy.kind]
    by_cases h3 : y.Kind = 3
    · obtain ⟨k, u, m⟩ := y
      obtain rfl : k = 3 := h3
      rw [fmt_3]
      exact (begins_set (v := u)).app
    · rw [bne_t h3]
      exact (begins_par _).app
theorem paren_atom {s : Str} (hs : s.length ≤ 1000000) {x : T_Regex} {u r : Str} {p fl : Nat} (h : s.drop p = 40 :: (u ++ 41 :: r))
    (hG : M.regex_reader_regex fl ⟨s, (p + 1 : Nat)⟩ = some (.ret (x, ⟨s, (p + 1 + u.length : Nat)⟩))) : M.regex_reader_atom (fl + 1) ⟨s, p⟩ = some (.ret (x, ⟨s, (p + 1 + u.length + 1 : Nat)⟩)) := by
  unfold M.regex_reader_atom
  obtain ⟨hp, _, h1⟩ := at_cons h
  have h2 := at_app h1
  obtain ⟨hq, h3, _⟩ := at_cons h2
  exact bind_of (peek_at h) (cnd_t rfl (bind_of (chk_succ (i := p) (by omega)) (bind_of hG (on_eq (bind_of (expect_lt hs hq (by rw [h3]; rfl)) rfl)))))
def NoSign (r : Str) : Prop := ∀ c t, r = c :: t → c.toNat ≠ 42 ∧ c.toNat ≠ 43 ∧ c.toNat ≠ 63
theorem nosign_peek {s : Str} {q : Nat} {r : Str} (h : s.drop q = r) (hq : q ≤ s.length) (hr : NoSign r) : ∃ x, M.regex_reader_peek ⟨s, q⟩ = some x ∧ (x == (42 : Int)) = false ∧ (x == (43 : Int)) = false ∧ (x == (63 : Int)) = false := by
  cases r with
  | nil => exact ⟨0, peek_nil h hq, rfl, rfl, rfl⟩
  | cons c t =>
    obtain ⟨h1, h2, h3⟩ := hr c t rfl
    exact ⟨_, peek_at h, beq_f (by omega), beq_f (by omega), beq_f (by omega)⟩
theorem repeat_plain {s : Str} {x : T_Regex} {r : Str} {p q fl : Nat} (hA : M.regex_reader_atom fl ⟨s, p⟩ = some (.ret (x, ⟨s, (q : Nat)⟩))) (h : s.drop q = r) (hq : q ≤ s.length) (hr : NoSign r) : M.regex_reader_repeat (fl + 1) ⟨s, p⟩ = some (.ret (x, ⟨s, (q : Nat)⟩)) := by
  unfold M.regex_reader_repeat
  obtain ⟨k, st, l⟩ := x
  obtain ⟨y, hy, h1, h2, h3⟩ := nosign_peek h hq hr
  exact bind_of hA (on_eq (loop_stop (bindStep_stop (bind_of hy (cnd_f h1 (cnd_f h2 (cnd_f h3 rfl)))))))
theorem repeat_star {s : Str} (hs : s.length ≤ 1000000) {x : T_Regex} {r : Str} {p q fl : Nat} (hA : M.regex_reader_atom fl ⟨s, p⟩ = some (.ret (x, ⟨s, (q : Nat)⟩))) (h : s.drop q = 42 :: r) (hr : NoSign r) : M.regex_reader_repeat (fl + 1) ⟨s, p⟩ = some (.ret (⟨6, Vec.zero 4, [x]⟩, ⟨s, (q + 1 : Nat)⟩)) := by
  unfold M.regex_reader_repeat
  obtain ⟨k, st, l⟩ := x
  obtain ⟨hp, _, h0⟩ := at_cons h
  obtain ⟨y, hy, h1, h2, h3⟩ := nosign_peek h0 hp hr
  exact bind_of hA (on_eq ((loop_next (b := (((q + 1 : Nat) : Int), (6 : Int), Vec.zero 4, [(⟨k, st, l⟩ : T_Regex)])) (bindStep_next (x := ((6 : Int), [(⟨k, st, l⟩ : T_Regex)])) (bind_of (peek_at h) (cnd_t rfl rfl)) (bind_of (x := ((q + 1 : Nat) : Int)) (chk_succ (i := q) (by omega)) rfl))).trans (loopM_stop (k := 18446744073709551614) (bindStep_stop (bind_of hy (cnd_f h1 (cnd_f h2 (cnd_f h3 rfl))))))))
end Go.Proofs.YtffienmbeifioaaDoor
