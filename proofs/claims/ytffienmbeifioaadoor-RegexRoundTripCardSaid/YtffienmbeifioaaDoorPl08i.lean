/- Plain facts on layer 8: the two parsers go step by step alike: expressions; the law on Parse. -/
import Derived.Test.YtffienmbeifioaaDoorPl08h
namespace Go.Proofs.YtffienmbeifioaaDoor
open Go.Lx

theorem iok_kind' {k : Int} (h : 0 ≤ k ∧ k ≤ 10) : IOk .i64 k := ⟨by show (-9223372036854775808 : Int) ≤ k; omega, by show k ≤ (9223372036854775807 : Int); omega⟩
theorem iok_zero4 : ∀ x ∈ (Vec.zero 4).1, IOk .u64 x := fun x hx => by simp [Vec.zero] at hx; subst hx; exact ⟨by decide, by decide⟩
theorem ok_nodeL {k : Int} {l : List T_Regex} (hk : 0 ≤ k ∧ k ≤ 10) (hl : l.length ≤ 2000000) (h : ∀ y ∈ l, okT_Regex y) : okT_Regex ⟨k, Vec.zero 4, l⟩ :=
  .mk _ (iok_kind' hk) iok_zero4 h (Nat.le_trans hl (by decide))
theorem ok_setL {v : Vec 4} (hv : W4 v) : okT_Regex ⟨3, v, []⟩ :=
  .mk _ (iok_kind' (k := 3) (by omega)) (fun x hx => by have := hv x hx; exact ⟨by show (0 : Int) ≤ x; omega, by show x ≤ (18446744073709551615 : Int); omega⟩) (fun _ h => by cases h) (by show 0 ≤ maxLen; omega)
theorem heightL_le' {l : List T_Regex} {h : Nat} (hh : ∀ y ∈ l, height y ≤ h) : heightL l ≤ h := by
  induction l with
  | nil => simp [heightL]
  | cons y l ih =>
    have := hh y (by simp)
    have := ih fun z hz => hh z (by simp [hz])
    simp only [heightL]; omega
def SimX (s : Str) (p k d : Nat) (a : Rt (T_Regex × T_regex_reader)) (b : T_Regex × T_ref08_parser) : Prop :=
  (∃ (x : T_Regex) (q : Nat), p + d ≤ q ∧ q ≤ s.length ∧ okT_Regex x ∧ height x ≤ 3 * (q - p) + k ∧ a = .ret (x, ⟨s, q⟩) ∧ b = (x, ⟨s, q, false⟩)) ∨ (∃ (q : Nat) (y : T_Regex), q ≤ s.length ∧ a = .pan q ∧ b = (y, ⟨s, q, true⟩))
theorem dot_eq : M.regex_dot = M.ref08_Dot := by decide +kernel
theorem dot_ok : M.regex_dot = some (vcompl (ofL [10])) := by
  unfold M.regex_dot
  have h : M.byteset_Of [10] = some (ofL [10]) := Of_eq (s := [10]) (by decide)
  rw [h, Option.bind_some, Complement_eq (W4_ofL _), Option.bind_some]
theorem range_one (b : Nat) : rangeL b b = [b] := by unfold rangeL; rw [show b + 1 - b = 1 by omega]; rfl
theorem expect_lt {s : Str} {q : Nat} (hs : s.length ≤ 1000000) (h : q < s.length) (h1 : (s[q]).toNat = 41) : M.regex_reader_expect ⟨s, q⟩ 41 = some (.ret ⟨s, (q + 1 : Nat)⟩) := by
  unfold M.regex_reader_expect
  refine bindStep_next (bind_of (x := false) (cnd_f (beq_f (show (q : Int) ≠ (s.length : Int) by omega)) (bind_of (idxS_nat h) (congrArg some (bne_f (show ((s[q]).toNat : Int) = 41 by omega))))) rfl) (bind_of (chk_succ (show q < 9223372036854775807 by omega)) rfl)
theorem expect_no {s : Str} {q : Nat} (h : q < s.length) (h1 : (s[q]).toNat ≠ 41) : M.regex_reader_expect ⟨s, q⟩ 41 = some (.pan q) := by
  unfold M.regex_reader_expect
  exact bindStep_stop (bind_of (x := true) (cnd_f (beq_f (show (q : Int) ≠ (s.length : Int) by omega)) (bind_of (idxS_nat h) (congrArg some (bne_t (show ((s[q]).toNat : Int) ≠ 41 by omega))))) rfl)
theorem expect_end {s : Str} : M.regex_reader_expect ⟨s, (s.length : Nat)⟩ 41 = some (.pan (s.length : Nat)) := by
  unfold M.regex_reader_expect
  exact bindStep_stop (bind_of (x := true) (cnd_t (beq_t rfl) rfl) rfl)
section
variable {s : Str} (hs : s.length ≤ 1000000)
def PA (s : Str) (m : Nat) : Prop := ∀ p : Nat, p ≤ s.length → s.length - p ≤ m → ∀ fl, 4 * m + 1 ≤ fl → Is2 (M.regex_reader_atom fl ⟨s, p⟩) (M.ref08_parser_atom fl ⟨s, p, false⟩) (SimX s p 0 1)
def PP (s : Str) (m : Nat) : Prop := ∀ p : Nat, p ≤ s.length → s.length - p ≤ m → ∀ fl, 4 * m + 2 ≤ fl → Is2 (M.regex_reader_repeat fl ⟨s, p⟩) (M.ref08_parser_repeat fl ⟨s, p, false⟩) (SimX s p 0 1)
def PB (s : Str) (m : Nat) : Prop := ∀ p : Nat, p ≤ s.length → s.length - p ≤ m → ∀ fl, 4 * m + 3 ≤ fl → Is2 (M.regex_reader_branch fl ⟨s, p⟩) (M.ref08_parser_branch fl ⟨s, p, false⟩) (SimX s p 1 0)
def PR (s : Str) (m : Nat) : Prop := ∀ p : Nat, p ≤ s.length → s.length - p ≤ m → ∀ fl, 4 * m + 4 ≤ fl → Is2 (M.regex_reader_regex fl ⟨s, p⟩) (M.ref08_parser_regex fl ⟨s, p, false⟩) (SimX s p 2 0)
include hs
theorem atom_sim {m : Nat} (h : ∀ m', m' < m → PR s m') : PA s m := by
  intro p hp hm fl hfl
  obtain ⟨fl, rfl⟩ : ∃ f, fl = f + 1 := ⟨fl - 1, by omega⟩
  unfold M.regex_reader_atom M.ref08_parser_atom
  obtain ⟨x, y, hx, hy, hxy, hlt⟩ := peek_next hp
  refine Is2.l hx (Is2.r hy ?_)
  rw [← hxy 40 (by decide) (by decide), ← hxy 91 (by decide) (by decide), ← hxy 46 (by decide) (by decide)]
  cases h40 : (x == (40 : Int))
  · cases h91 : (x == (91 : Int))
    · cases h46 : (x == (46 : Int))
      · refine Is2.bb (char_sim hs hp false) ?_
        rintro a b (⟨c, q, hq1, hq2, hc, rfl, rfl⟩ | ⟨q, hq, rfl, rfl⟩)
        · refine Is2.l (Range_eq hc hc) (Is2.r (b := ⟨3, with1 (Vec.zero 4) c, []⟩) ?_ (.pure (.inl ⟨⟨3, with1 (Vec.zero 4) c, []⟩, q, hq1, hq2, ok_setL (W4_with1 W4_zero c), ?_, ?_, rfl⟩)))
          · unfold M.ref08_One
            exact bind_of (refWith_ok W4_zero hc) rfl
          · simp only [height, heightL]; omega
          · rw [range_one]; rfl
        · refine Is2.r (b := ⟨3, with1 (Vec.zero 4) 0, []⟩) ?_ (.pure (.inr ⟨q, _, hq, rfl, rfl⟩))
          unfold M.ref08_One
          exact bind_of (refWith_ok W4_zero (c := 0) (by omega)) rfl
      · have hlt' := hlt 46 (by decide) (of_beq_t h46)
        refine Is2.l (chk_succ (i := p) (by omega)) (Is2.l dot_ok (Is2.r (chk_succ (i := p) (by omega)) (Is2.r (dot_eq.symm.trans dot_ok) (.pure (.inl ⟨_, p + 1, Nat.le_refl _, hlt', ok_setL (W4_compl (W4_ofL _)), ?_, rfl, rfl⟩)))))
        simp only [height, heightL]; omega
    · have hlt' := hlt 91 (by decide) (of_beq_t h91)
      have h91' : (s[p]).toNat = 91 := by
        rw [peek_lt hlt'] at hx
        have := Option.some.inj hx
        have := of_beq_t h91
        omega
      refine Is2.r (chk_succ (i := p) (by omega)) (Is2.bb (bracket_sim hs hlt' h91') ?_)
      rintro a b (⟨set, q, hq1, hq2, hv, rfl, rfl⟩ | ⟨q, y, hq, rfl, rfl⟩)
      · refine .pure (.inl ⟨⟨3, set, []⟩, q, hq1, hq2, ok_setL hv, ?_, rfl, rfl⟩)
        simp only [height, heightL]; omega
      · exact .pure (.inr ⟨q, _, hq, rfl, rfl⟩)
  · have hlt' := hlt 40 (by decide) (of_beq_t h40)
    refine Is2.l (chk_succ (i := p) (by omega)) (Is2.r (chk_succ (i := p) (by omega)) ?_)
    refine Is2.bb (h (m - 1) (by omega) (p + 1) hlt' (by omega) fl (by omega)) ?_
    rintro a b (⟨z, q, hq1, hq2, hok, hh, rfl, rfl⟩ | ⟨q, y, hq, rfl, rfl⟩)
    · rcases Nat.lt_or_eq_of_le hq2 with hq | hq
      · by_cases h41 : (s[q]).toNat = 41
        · refine Is2.l (expect_lt hs hq h41) (Is2.r (next_lt hq) ?_)
          rw [bne_f (show ((s[q]).toNat : Int) = 41 by omega)]
          exact Is2.r (chk_succ (i := q) (by omega)) (.pure (.inl ⟨z, q + 1, by omega, hq, hok, by omega, rfl, rfl⟩))
        · refine Is2.l (expect_no hq h41) (Is2.r (next_lt hq) ?_)
          rw [bne_t (show ((s[q]).toNat : Int) ≠ 41 by omega)]
          exact .pure (.inr ⟨q, _, hq2, rfl, rfl⟩)
      · subst hq
        exact Is2.l expect_end (Is2.r next_end (.pure (.inr ⟨s.length, _, hq2, rfl, rfl⟩)))
    · exact .pure (.inr ⟨q, _, hq, rfl, rfl⟩)
theorem repeat_sim {m : Nat} (h : PA s m) : PP s m := by
  intro p hp hm fl hfl
  obtain ⟨fl, rfl⟩ : ∃ f, fl = f + 1 := ⟨fl - 1, by omega⟩
  unfold M.regex_reader_repeat M.ref08_parser_repeat
  refine Is2.bb (h p hp hm fl (by omega)) ?_
  rintro a b (⟨z, q, hq1, hq2, hok, hh, rfl, rfl⟩ | ⟨q, y, hq, rfl, rfl⟩)
  · refine Is2.on_ret ?_
    have key := Is2.loop (Q := fun (a : Rt (T_Regex × T_regex_reader)) (b : Step (Int × Vec 4 × List T_Regex × Int) (T_Regex × T_ref08_parser)) => ∃ c, b = .stop c ∧ SimX s p 0 1 a c)
      (bA := fun (st9 : Int × Int × (Vec 4) × (List T_Regex)) => match st9 with
        | (p3, rv8, rv9, rv10) => bindStep ((M.regex_reader_peek (T_regex_reader.mk s p3)).bind fun rv19 =>
            bif (rv19 == 42) then some (.next ((6 : Int), ([(T_Regex.mk rv8 rv9 rv10)] : (List T_Regex))))
            else bif (rv19 == 43) then some (.next ((4 : Int), ([(T_Regex.mk rv8 rv9 rv10), (T_Regex.mk 6 (Vec.zero 4) [(T_Regex.mk rv8 rv9 rv10)])] : (List T_Regex))))
            else bif (rv19 == 63) then some (.next ((5 : Int), ([(T_Regex.mk rv8 rv9 rv10), (T_Regex.mk 2 (Vec.zero 4) [])] : (List T_Regex))))
            else some (.stop (.stop (.ret ((T_Regex.mk rv8 rv9 rv10), (T_regex_reader.mk s p3)))))) fun (rv18, xv3) =>
          (chk .i64 (p3 + 1)).bind fun t3 => some (.next (t3, rv18, (Vec.zero 4), xv3)))
      (bB := fun (st9 : Int × Int × (Vec 4) × (List T_Regex)) => match st9 with
        | (p6, rv54, rv55, rv56) => bif (!false) then bindStep ((M.ref08_parser_next (T_ref08_parser.mk s p6 false)).bind fun rv75 =>
            bif (rv75 == 42) then (M.ref08_star (T_Regex.mk rv54 rv55 rv56)).bind fun rv76 => some (.next (rv76.Kind, rv76.Set, rv76.Kids))
            else bif (rv75 == 43) then (M.ref08_star (T_Regex.mk rv54 rv55 rv56)).bind fun rv77 => some (.next ((4 : Int), (Vec.zero 4), ([(T_Regex.mk rv54 rv55 rv56), rv77] : (List T_Regex))))
            else bif (rv75 == 63) then some (.next ((5 : Int), (Vec.zero 4), ([(T_Regex.mk rv54 rv55 rv56), (T_Regex.mk 2 (Vec.zero 4) [])] : (List T_Regex))))
            else some (.stop (.stop (.stop ((T_Regex.mk rv54 rv55 rv56), (T_ref08_parser.mk s p6 false)))))) fun (rv72, rv73, rv74) =>
          (chk .i64 (p6 + 1)).bind fun t6 => some (.next (t6, rv72, rv73, rv74))
          else some (.stop (.next (rv54, rv55, rv56, p6))))
      (fun a b m => ∃ (z : T_Regex) (q : Nat), p + 1 ≤ q ∧ q ≤ s.length ∧ okT_Regex z ∧ height z ≤ 3 * (q - p) ∧ a = ((q : Int), z.Kind, z.Set, z.Kids) ∧ b = ((q : Int), z.Kind, z.Set, z.Kids) ∧ m = s.length - q) ?_
      (s.length - q) fuel fuel ((q : Int), z.Kind, z.Set, z.Kids) ((q : Int), z.Kind, z.Set, z.Kids) (by unfold fuel; omega) (by unfold fuel; omega) ⟨z, q, hq1, hq2, hok, hh, rfl, rfl, rfl⟩
    · obtain ⟨a, b, ha, hb, c, rfl, hc⟩ := key
      exact ⟨a, c, ha, bindStep_stop hb, hc⟩
    · rintro m _ _ ⟨⟨k, st, l⟩, q, hq1, hq2, hok, hh, rfl, rfl, rfl⟩
      obtain ⟨x, y, hx, hy, hxy, hlt⟩ := peek_next hq2
      have e42 := hxy 42 (by decide) (by decide)
      have e43 := hxy 43 (by decide) (by decide)
      have e63 := hxy 63 (by decide) (by decide)
      have hok1 : ∀ w ∈ [(⟨k, st, l⟩ : T_Regex)], okT_Regex w := fun w hw => by rw [List.mem_singleton.1 hw]; exact hok
      cases h42 : (x == (42 : Int))
      · cases h43 : (x == (43 : Int))
        · cases h63 : (x == (63 : Int))
          · refine .inr ⟨_, bindStep_stop (bind_of hx (cnd_f h42 (cnd_f h43 (cnd_f h63 rfl)))), .inl ⟨_, bindStep_stop (bind_of hy (cnd_f (e42 ▸ h42) (cnd_f (e43 ▸ h43) (cnd_f (e63 ▸ h63) rfl)))), _, rfl, .inl ⟨_, q, hq1, hq2, hok, hh, rfl, rfl⟩⟩⟩
          · have hl := hlt 63 (by decide) (of_beq_t h63)
            refine .inl ⟨_, _, s.length - (q + 1), bindStep_next (bind_of hx (cnd_f h42 (cnd_f h43 (cnd_t h63 rfl)))) (bind_of (chk_succ (i := q) (by omega)) rfl),
              bindStep_next (bind_of hy (cnd_f (e42 ▸ h42) (cnd_f (e43 ▸ h43) (cnd_t (e63 ▸ h63) rfl)))) (bind_of (chk_succ (i := q) (by omega)) rfl), by omega, ⟨5, Vec.zero 4, [⟨k, st, l⟩, ⟨2, Vec.zero 4, []⟩]⟩, q + 1, by omega, hl, ?_, ?_, rfl, rfl, rfl⟩
            · refine ok_nodeL (by omega) (by simp) fun w hw => ?_
              rcases List.mem_cons.1 hw with rfl | hw
              · exact hok
              · rw [List.mem_singleton.1 hw]; exact ok_nodeL (by omega) (by simp) (by simp)
            · have : height (⟨5, Vec.zero 4, [⟨k, st, l⟩, ⟨2, Vec.zero 4, []⟩]⟩ : T_Regex) ≤ height (⟨k, st, l⟩ : T_Regex) + 1 := by simp only [height, heightL]; omega
              omega
        · have hl := hlt 43 (by decide) (of_beq_t h43)
          refine .inl ⟨_, _, s.length - (q + 1), bindStep_next (bind_of hx (cnd_f h42 (cnd_t h43 rfl))) (bind_of (chk_succ (i := q) (by omega)) rfl),
            bindStep_next (bind_of hy (cnd_f (e42 ▸ h42) (cnd_t (e43 ▸ h43) rfl))) (bind_of (chk_succ (i := q) (by omega)) rfl), by omega, ⟨4, Vec.zero 4, [⟨k, st, l⟩, ⟨6, Vec.zero 4, [⟨k, st, l⟩]⟩]⟩, q + 1, by omega, hl, ?_, ?_, rfl, rfl, rfl⟩
          · refine ok_nodeL (by omega) (by simp) fun w hw => ?_
            rcases List.mem_cons.1 hw with rfl | hw
            · exact hok
            · rw [List.mem_singleton.1 hw]; exact ok_nodeL (by omega) (by simp) hok1
          · have : height (⟨4, Vec.zero 4, [⟨k, st, l⟩, ⟨6, Vec.zero 4, [⟨k, st, l⟩]⟩]⟩ : T_Regex) ≤ height (⟨k, st, l⟩ : T_Regex) + 2 := by simp only [height, heightL]; omega
            omega
      · have hl := hlt 42 (by decide) (of_beq_t h42)
        refine .inl ⟨_, _, s.length - (q + 1), bindStep_next (bind_of hx (cnd_t h42 rfl)) (bind_of (chk_succ (i := q) (by omega)) rfl),
          bindStep_next (bind_of hy (cnd_t (e42 ▸ h42) rfl)) (bind_of (chk_succ (i := q) (by omega)) rfl), by omega, ⟨6, Vec.zero 4, [⟨k, st, l⟩]⟩, q + 1, by omega, hl, ok_nodeL (by omega) (by simp) hok1, ?_, rfl, rfl, rfl⟩
        have : height (⟨6, Vec.zero 4, [⟨k, st, l⟩]⟩ : T_Regex) ≤ height (⟨k, st, l⟩ : T_Regex) + 1 := by simp only [height, heightL]; omega
        omega
  · exact ⟨_, (⟨y.Kind, y.Set, y.Kids⟩, ⟨s, q, true⟩), rfl, bindStep_next (loop_stop rfl) rfl, .inr ⟨q, _, hq, rfl, rfl⟩⟩
omit hs in
theorem group_ok (k : Int) (l : List T_Regex) (hl : l ≠ []) : ∃ x, M.regex_group k l = some x ∧ ((∃ y, l = [y] ∧ x = y) ∨ (2 ≤ l.length ∧ x = ⟨k, Vec.zero 4, l⟩)) := by
  match l with
  | [] => exact absurd rfl hl
  | [y] => exact ⟨y, rfl, .inl ⟨y, rfl, rfl⟩⟩
  | y :: z :: l =>
    refine ⟨_, cnd_f (beq_f (by simp only [List.length_cons]; omega)) rfl, .inr ⟨by simp only [List.length_cons]; omega, rfl⟩⟩
omit hs in
theorem one_of {l : List T_Regex} (h : 2 ≤ l.length) : ((l.length : Int) == 1) = false := beq_f (by omega)
omit hs in
theorem cond_branch {q : Nat} (hq : q ≤ s.length) : ∃ g, ((bif (decide ((q : Int) < (s.length : Int))) then (idxS s q).bind fun c12 => bif (c12 != 124) then some (c12 != 41) else some false else some false) = some g) ∧
    ((bif (!false) then (M.ref08_parser_next (T_ref08_parser.mk s q false)).bind fun rv39 => bif (rv39 != (-1)) then (M.ref08_parser_next (T_ref08_parser.mk s q false)).bind fun rv40 =>
      bif (rv40 != 124) then (M.ref08_parser_next (T_ref08_parser.mk s q false)).bind fun rv41 => some (rv41 != 41) else some false else some false else some false) = some g) ∧ (g = true → q < s.length) := by
  rcases Nat.lt_or_eq_of_le hq with h | h
  · refine ⟨bif (((s[q]).toNat : Int) != 124) then (((s[q]).toNat : Int) != 41) else false, cnd_t (dec_t (by omega)) (bind_of (idxS_nat h) ?_), bind_of (next_lt h) (cnd_t (bne_t (by omega)) (bind_of (next_lt h) ?_)), fun _ => h⟩
    · cases (((s[q]).toNat : Int) != 124) <;> rfl
    · cases (((s[q]).toNat : Int) != 124)
      · rfl
      · exact bind_of (next_lt h) rfl
  · subst h
    exact ⟨false, cnd_f (dec_f (by omega)) rfl, bind_of next_end rfl, fun h => by cases h⟩
def GoodL (h : Nat) (l : List T_Regex) : Prop := ∀ y ∈ l, okT_Regex y ∧ height y ≤ h
omit hs in
theorem GoodL.snoc {h h' : Nat} {l : List T_Regex} {x : T_Regex} (hl : GoodL h l) (hh : h ≤ h') (hx : okT_Regex x ∧ height x ≤ h') : GoodL h' (l ++ [x]) := by
  intro y hy
  rcases List.mem_append.1 hy with hy | hy
  · exact ⟨(hl y hy).1, Nat.le_trans (hl y hy).2 hh⟩
  · rw [List.mem_singleton.1 hy]; exact hx
omit hs in
theorem GoodL.node {h : Nat} {l : List T_Regex} (hl : GoodL h l) {k : Int} (hk : 0 ≤ k ∧ k ≤ 10) (hn : l.length ≤ 2000000) : okT_Regex ⟨k, Vec.zero 4, l⟩ ∧ height (⟨k, Vec.zero 4, l⟩ : T_Regex) ≤ h + 1 := by
  refine ⟨ok_nodeL hk hn fun y hy => (hl y hy).1, ?_⟩
  have := heightL_le' fun y hy => (hl y hy).2
  simp only [height]; omega
theorem branch_sim {m : Nat} (h : PP s m) : PB s m := by
  intro p hp hm fl hfl
  obtain ⟨fl, rfl⟩ : ∃ f, fl = f + 1 := ⟨fl - 1, by omega⟩
  unfold M.regex_reader_branch M.ref08_parser_branch
  refine Is2.sb (P := fun (a : Step (List T_Regex × Str × Int) (Rt (T_Regex × T_regex_reader))) (b : List T_Regex × Str × Int × Bool) =>
      (∃ (l : List T_Regex) (q : Nat), p ≤ q ∧ q ≤ s.length ∧ GoodL (3 * (q - p)) l ∧ l.length ≤ q - p ∧ a = .next (l, s, (q : Int)) ∧ b = (l, s, (q : Int), false)) ∨ (∃ (l : List T_Regex) (q : Nat), q ≤ s.length ∧ a = .stop (.pan q) ∧ b = (l, s, (q : Int), true)))
    (Is2.loop (fun (a : Str × Int × (List T_Regex)) (b : Str × Int × Bool × (List T_Regex)) k => ∃ (l : List T_Regex) (q : Nat), p ≤ q ∧ q ≤ s.length ∧ GoodL (3 * (q - p)) l ∧ l.length ≤ q - p ∧ a = (s, (q : Int), l) ∧ b = (s, (q : Int), false, l) ∧ k = s.length - q) ?_
      (s.length - p) _ _ _ _ (by unfold fuel; omega) (by unfold fuel; omega) ⟨[], p, Nat.le_refl _, hp, (show GoodL (3 * (p - p)) [] from fun y hy => absurd hy (by simp)), by simp, rfl, rfl, rfl⟩) ?_ ?_
  · rintro k _ _ ⟨l, q, hpq, hq, hg, hl, rfl, rfl, rfl⟩
    obtain ⟨g, gA, gB, hlt⟩ := cond_branch hq
    cases g
    · exact .inr ⟨.next (l, s, (q : Int)), bind_of gA rfl, .inl ⟨(l, s, (q : Int), false), bind_of gB rfl, .inl ⟨l, q, hpq, hq, hg, hl, rfl, rfl⟩⟩⟩
    · obtain ⟨a1, b1, ha1, hb1, hcase⟩ := h q hq (by omega) fl (by omega)
      rcases hcase with ⟨x, q', hq1, hq2, hok, hh, rfl, rfl⟩ | ⟨q', y, hq', rfl, rfl⟩
      · have happ : appM 64 l [x] = some (l ++ [x]) := appM_ok (by simp only [List.length_singleton]; omega)
        refine .inl ⟨(s, (q' : Int), l ++ [x]), (s, (q' : Int), false, l ++ [x]), s.length - q', bind_of gA (bind_of ha1 (bind_of happ rfl)), bind_of gB (bind_of hb1 (bind_of happ rfl)), by omega,
          l ++ [x], q', by omega, hq2, hg.snoc (by omega) ⟨hok, by omega⟩, by simp only [List.length_append, List.length_singleton]; omega, rfl, rfl, rfl⟩
      · have happ : appM 64 l [y] = some (l ++ [y]) := appM_ok (by simp only [List.length_singleton]; omega)
        exact .inr ⟨.stop (.pan q'), bind_of gA (bind_of ha1 rfl), .inr ⟨(s, (q' : Int), true, l ++ [y]), (l ++ [y], s, (q' : Int), true), bind_of gB (bind_of hb1 (bind_of happ rfl)), bind_of (x := false) rfl rfl, .inr ⟨l ++ [y], q', hq', rfl, rfl⟩⟩⟩
  · rintro a b (⟨l, q, hpq, hq, hg, hl, e, rfl⟩ | ⟨l, q, hq, e, rfl⟩)
    · cases e
      by_cases h0 : l = []
      · subst h0
        refine ⟨.ret (⟨2, Vec.zero 4, []⟩, ⟨s, q⟩), (⟨2, Vec.zero 4, []⟩, ⟨s, q, false⟩), rfl, rfl, .inl ⟨⟨2, Vec.zero 4, []⟩, q, hpq, hq, ok_nodeL (by omega) (by simp) (by simp), ?_, rfl, rfl⟩⟩
        simp only [height, heightL]; omega
      · have hl0 : ((l.length : Int) == 0) = false := beq_f (fun e => h0 (List.eq_nil_of_length_eq_zero (by omega)))
        obtain ⟨x, hx, ⟨y, rfl, e⟩ | ⟨h2, rfl⟩⟩ := group_ok 4 l h0
        · have := hg y (by simp)
          exact ⟨.ret (y, ⟨s, q⟩), (y, ⟨s, q, false⟩), rfl, rfl, .inl ⟨y, q, hpq, hq, this.1, by omega, rfl, rfl⟩⟩
        · have := hg.node (k := 4) (by omega) (by omega)
          exact ⟨.ret (⟨4, Vec.zero 4, l⟩, ⟨s, q⟩), (⟨4, Vec.zero 4, l⟩, ⟨s, q, false⟩), cnd_f hl0 (bind_of hx rfl), cnd_f hl0 (cnd_f (one_of h2) rfl), .inl ⟨_, q, hpq, hq, this.1, this.2, rfl, rfl⟩⟩
    · cases e
  · rintro x b (⟨l, q, hpq, hq, hg, hl, e, rfl⟩ | ⟨l, q, hq, e, rfl⟩)
    · cases e
    · cases e
      match l with
      | [] => exact ⟨_, (⟨2, Vec.zero 4, []⟩, ⟨s, q, true⟩), rfl, rfl, .inr ⟨q, _, hq, rfl, rfl⟩⟩
      | [y] => exact ⟨_, (y, ⟨s, q, true⟩), rfl, rfl, .inr ⟨q, _, hq, rfl, rfl⟩⟩
      | y :: z :: l =>
        exact ⟨_, (⟨4, Vec.zero 4, y :: z :: l⟩, ⟨s, q, true⟩), rfl, cnd_f (beq_f (by simp only [List.length_cons]; omega)) (cnd_f (beq_f (by simp only [List.length_cons]; omega)) rfl), .inr ⟨q, _, hq, rfl, rfl⟩⟩
theorem regex_sim {m : Nat} (h : PB s m) : PR s m := by
  intro p hp hm fl hfl
  obtain ⟨fl, rfl⟩ : ∃ f, fl = f + 1 := ⟨fl - 1, by omega⟩
  unfold M.regex_reader_regex M.ref08_parser_regex
  refine Is2.bb (h p hp hm fl (by omega)) ?_
  rintro a b (⟨z, q0, hq1, hq2, hok, hh, rfl, rfl⟩ | ⟨q, y, hq, rfl, rfl⟩)
  · refine Is2.on_ret ?_
    refine Is2.sb (P := fun (a : Step (List T_Regex × Str × Int) (Rt (T_Regex × T_regex_reader))) (b : List T_Regex × Str × Int × Bool) =>
        (∃ (l : List T_Regex) (q : Nat), p ≤ q ∧ q ≤ s.length ∧ GoodL (3 * (q - p) + 1) l ∧ l.length ≤ q - p + 1 ∧ l ≠ [] ∧ a = .next (l, s, (q : Int)) ∧ b = (l, s, (q : Int), false)) ∨ (∃ (l : List T_Regex) (q : Nat), q ≤ s.length ∧ a = .stop (.pan q) ∧ b = (l, s, (q : Int), true)))
      (Is2.loop (fun (a : Str × Int × (List T_Regex)) (b : Str × Int × Bool × (List T_Regex)) k => ∃ (l : List T_Regex) (q : Nat), p ≤ q ∧ q ≤ s.length ∧ GoodL (3 * (q - p) + 1) l ∧ l.length ≤ q - p + 1 ∧ l ≠ [] ∧ a = (s, (q : Int), l) ∧ b = (s, (q : Int), false, l) ∧ k = s.length - q) ?_
        (s.length - q0) _ _ _ _ (by unfold fuel; omega) (by unfold fuel; omega) ⟨[z], q0, by omega, hq2, fun y hy => by rw [List.mem_singleton.1 hy]; exact ⟨hok, hh⟩, by simp, by simp, rfl, rfl, rfl⟩) ?_ ?_
    · rintro k _ _ ⟨l, q, hpq, hq, hg, hl, hne, rfl, rfl, rfl⟩
      obtain ⟨x, y, hx, hy, hxy, hlt⟩ := peek_next hq
      have e := hxy 124 (by decide) (by decide)
      cases h124 : (x == (124 : Int))
      · exact .inr ⟨.next (l, s, (q : Int)), bind_of hx (cnd_f h124 rfl), .inl ⟨(l, s, (q : Int), false), bind_of (x := false) (bind_of hy (congrArg some (e ▸ h124))) rfl, .inl ⟨l, q, hpq, hq, hg, hl, hne, rfl, rfl⟩⟩⟩
      · have hlt' := hlt 124 (by decide) (of_beq_t h124)
        have hc : chk .i64 ((q : Int) + 1) = some ((q + 1 : Nat) : Int) := chk_succ (by omega)
        obtain ⟨a1, b1, ha1, hb1, hcase⟩ := h (q + 1) hlt' (by omega) fl (by omega)
        rcases hcase with ⟨w, q', hq1', hq2', hok', hh', rfl, rfl⟩ | ⟨q', w, hq', rfl, rfl⟩
        · have happ : appM 64 l [w] = some (l ++ [w]) := appM_ok (by simp only [List.length_singleton]; omega)
          refine .inl ⟨(s, (q' : Int), l ++ [w]), (s, (q' : Int), false, l ++ [w]), s.length - q', bind_of hx (cnd_t h124 (bind_of hc (bind_of ha1 (bind_of happ rfl)))), bind_of (x := true) (bind_of hy (congrArg some (e ▸ h124))) (bind_of hc (bind_of hb1 (bind_of happ rfl))), by omega,
            l ++ [w], q', by omega, hq2', hg.snoc (by omega) ⟨hok', by omega⟩, by simp only [List.length_append, List.length_singleton]; omega, by simp, rfl, rfl, rfl⟩
        · have happ : appM 64 l [w] = some (l ++ [w]) := appM_ok (by simp only [List.length_singleton]; omega)
          exact .inr ⟨.stop (.pan q'), bind_of hx (cnd_t h124 (bind_of hc (bind_of ha1 rfl))), .inr ⟨(s, (q' : Int), true, l ++ [w]), (l ++ [w], s, (q' : Int), true), bind_of (x := true) (bind_of hy (congrArg some (e ▸ h124))) (bind_of hc (bind_of hb1 (bind_of happ rfl))), bind_of (x := false) rfl rfl, .inr ⟨l ++ [w], q', hq', rfl, rfl⟩⟩⟩
    · rintro a b (⟨l, q, hpq, hq, hg, hl, hne, e, rfl⟩ | ⟨l, q, hq, e, rfl⟩)
      · cases e
        obtain ⟨x, hx, ⟨y, rfl, e⟩ | ⟨h2, rfl⟩⟩ := group_ok 5 l hne
        · have := hg y (by simp)
          exact ⟨.ret (y, ⟨s, q⟩), (y, ⟨s, q, false⟩), rfl, rfl, .inl ⟨y, q, hpq, hq, this.1, by omega, rfl, rfl⟩⟩
        · have := hg.node (k := 5) (by omega) (by omega)
          exact ⟨.ret (⟨5, Vec.zero 4, l⟩, ⟨s, q⟩), (⟨5, Vec.zero 4, l⟩, ⟨s, q, false⟩), bind_of hx rfl, cnd_f (one_of h2) rfl, .inl ⟨_, q, hpq, hq, this.1, this.2, rfl, rfl⟩⟩
      · cases e
    · rintro x b (⟨l, q, hpq, hq, hg, hl, hne, e, rfl⟩ | ⟨l, q, hq, e, rfl⟩)
      · cases e
      · cases e
        match l with
        | [] => exact ⟨_, (⟨5, Vec.zero 4, []⟩, ⟨s, q, true⟩), rfl, rfl, .inr ⟨q, _, hq, rfl, rfl⟩⟩
        | [y] => exact ⟨_, (y, ⟨s, q, true⟩), rfl, rfl, .inr ⟨q, _, hq, rfl, rfl⟩⟩
        | y :: z :: l => exact ⟨_, (⟨5, Vec.zero 4, y :: z :: l⟩, ⟨s, q, true⟩), rfl, cnd_f (beq_f (by simp only [List.length_cons]; omega)) rfl, .inr ⟨q, _, hq, rfl, rfl⟩⟩
  · exact Is2.on_pan ⟨_, (y, ⟨s, q, true⟩), rfl, bind_of (loop_stop (r := ([y], s, (q : Int), true)) rfl) rfl, .inr ⟨q, _, hq, rfl, rfl⟩⟩
theorem all_sim : ∀ m, PR s m := by
  intro m
  induction m using Nat.strongRecOn with
  | _ m ih => exact regex_sim hs (branch_sim hs (repeat_sim hs (atom_sim hs ih)))
theorem parse_sim : ∃ r, M.regex_Parse s = some r ∧ M.ref08_Parse s = some r ∧ okT_Regex r.1 ∧ height r.1 ≤ 3 * s.length + 2 := by
  obtain ⟨a, b, ha, hb, hcase⟩ := all_sim hs s.length 0 (by omega) (by omega) fuel (by unfold fuel; omega)
  have ok0 : okT_Regex ⟨0, Vec.zero 4, []⟩ := ok_nodeL (by omega) (by simp) (by simp)
  have h0 : height (⟨0, Vec.zero 4, []⟩ : T_Regex) ≤ 3 * s.length + 2 := by simp only [height, heightL]; omega
  unfold M.regex_Parse M.ref08_Parse
  rcases hcase with ⟨x, q, hq1, hq2, hok, hh, rfl, rfl⟩ | ⟨q, y, hq, rfl, rfl⟩
  · rcases Nat.lt_or_eq_of_le hq2 with hq | hq
    · refine ⟨(⟨0, Vec.zero 4, []⟩, (q : Int), 3), bind_of ha (bindStep_stop (cnd_t (dec_t (by show (q : Int) < (s.length : Int); omega)) rfl)), bind_of hb (bind_of (x := true) (congrArg some (dec_t (by show (q : Int) < (s.length : Int); omega))) rfl), ok0, h0⟩
    · have hd : decide ((q : Int) < (s.length : Int)) = false := dec_f (by omega)
      cases hv : V 30 x
      · exact ⟨(⟨0, Vec.zero 4, []⟩, 0, 11), bind_of ha (bindStep_next (cnd_f hd rfl) (bind_of ((Valid_ok hok).trans (congrArg some hv)) rfl)), bind_of hb (bind_of (x := false) (congrArg some hd) (bind_of ((refValid_ok hok).trans (congrArg some hv)) rfl)), ok0, h0⟩
      · exact ⟨(x, 0, 0), bind_of ha (bindStep_next (cnd_f hd rfl) (bind_of ((Valid_ok hok).trans (congrArg some hv)) rfl)), bind_of hb (bind_of (x := false) (congrArg some hd) (bind_of ((refValid_ok hok).trans (congrArg some hv)) rfl)), hok, by show height x ≤ _; omega⟩
  · exact ⟨(⟨0, Vec.zero 4, []⟩, (q : Int), 3), bind_of ha rfl, bind_of hb rfl, ok0, h0⟩
end
theorem refEqual_self : ∀ fl x, okT_Regex x → height x < fl → M.ref08_Equal fl x x = some true := by
  intro fl
  induction fl with
  | zero => intro a _ h; omega
  | succ fl ih =>
    rintro ⟨k, s, l⟩ ok hh
    have hl : l.length ≤ 9223372036854775807 := Nat.le_trans (ok_len ok) (by decide)
    unfold M.ref08_Equal
    refine Is.eq (Is.bnq (x := false) (cnd_f (bne_f rfl) (cnd_f (by simp) (congrArg some (bne_f rfl)))) (Is.cf rfl ?_))
    refine Is.bs (P := fun _ => True) (Q := fun r => r = true) ?_ (fun _ _ => Is.pure rfl)
    refine Is.upto (fun i st => st = (i : Int)) l.length hl rfl ?_ ?_
    · rintro i _ hi rfl
      have hk := height_kid (x := ⟨k, s, l⟩) (List.getElem_mem hi)
      refine Is.dt (show (i : Int) < (l.length : Int) by omega) (Is.bnq (idxL_nat hi) (Is.bnq (idxL_nat hi) (Is.bnq (ih _ (ok_kids ok _ (List.getElem_mem hi)) (by omega)) (Is.cf rfl (Is.bnq (chk_succ (by omega)) (Is.next rfl))))))
    · rintro _ rfl
      exact Is.df (show ¬ (l.length : Int) < (l.length : Int) by omega) (Is.stop trivial)
theorem law_parse (x0 : Str) (_ : (fun s : Str => s.length ≤ maxLen) x0) : M.law08_RegexParse x0 = some true := by
  refine Is.eq ?_
  unfold M.law08_RegexParse
  refine Is.dcd (fun _ => Is.bnq awake_true (Is.pure rfl)) (fun h => ?_)
  obtain ⟨r, h1, h2, hok, hh⟩ := parse_sim (s := x0) (by omega)
  refine Is.bnq h1 (Is.bnq h2 (Is.bnq (x := true) ?_ (Is.pure rfl)))
  have h3 := refEqual_self fuel r.1 hok (by unfold fuel; omega)
  simp only [awake_true, Option.bind_some, cond_true, beq_self_eq_true, h3]
end Go.Proofs.YtffienmbeifioaaDoor
