/- Plain facts on layer 34: comments and overriding lines. -/
import Derived.Test.YtbfmbiapjgpfhaaGreatDoorPl34m
import Derived.Test.YtbfmbiapjgpfhaaGreatDoorLxUp
set_option linter.unusedVariables false
set_option linter.unusedSimpArgs false
namespace Go.Proofs.YtbfmbiapjgpfhaaGreatDoor
open Go.Lx Go.RowKit Go.ChangeShapes Go.WideShapes Go.ChangeAt

abbrev T3 : List Str := [[97], [98], [99]]
theorem names3 : namesB T3 = true := by kernel_rfl
theorem lines_count : ∀ (s cur : Str), (linesGo cur s).length = s.count 10 + 1
  | [], cur => rfl
  | c :: s, cur => by
    rw [linesGo, List.count_cons]
    by_cases h : c = 10
    · rw [if_pos h, List.length_cons, lines_count s []]
      simp [h]
    · rw [if_neg h, lines_count s]
      simp [h]
theorem fld_blank {a : Str} {line : Str} (h : cutB 35 line = a) (h2 : fieldsB a = []) : fieldsB (cutB 35 line) = [] := by rw [h, h2]
theorem parse3 {s : Str} : parseB s T3 = goB T3 (defP 3) (linesB s) 1 := by unfold parseB; rw [if_pos names3]; rfl
/-- Blank lines ahead and behind change nothing but the number of the line. -/
theorem parse_comments {s b : Str} (hb : 10 ∉ b) : (parseB (([32, 9, 35] ++ b) ++ 10 :: ([] ++ 10 :: (s ++ 10 :: ([32, 32, 35, 32] ++ b)))) T3).1 = (parseB s T3).1 ∧ (parseB (([32, 9, 35] ++ b) ++ 10 :: ([] ++ 10 :: (s ++ 10 :: ([32, 32, 35, 32] ++ b)))) T3).2.2 = (parseB s T3).2.2 := by
  have h1 : 10 ∉ ([32, 9, 35] ++ b : Str) := by
    intro h
    rcases List.mem_append.1 h with h | h
    · exact absurd h (by decide)
    · exact hb h
  have h2 : 10 ∉ ([32, 32, 35, 32] ++ b : Str) := by
    intro h
    rcases List.mem_append.1 h with h | h
    · exact absurd h (by decide)
    · exact hb h
  have e1 : cutB 35 ([32, 9, 35] ++ b) = [32, 9] := rfl
  have e2 : cutB 35 ([32, 32, 35, 32] ++ b) = [32, 32] := rfl
  rw [parse3, parse3, linesB_at h1, linesB_at (by simp), linesB_app, linesB_one h2, goB_cons, if_pos (fld_blank e1 rfl), goB_cons, if_pos (by rfl), goB_app]
  have hk := goB_k (terms := T3) (linesB s) (defP 3) (1 + 1 + 1) 1
  split
  · rename_i h0
    rw [goB_cons, if_pos (fld_blank e2 rfl), goB]
    exact ⟨hk.1, (h0.symm.trans hk.2)⟩
  · exact hk
def badL : Str := [112, 114, 105, 99, 101, 32, 97, 32, 49]
theorem parse_bad {s : Str} : parseB (s ++ 10 :: badL) T3 = if (parseB s T3).2.2 = 0 then (zeroP, ((1 + (linesB s).length : Nat) : Int), 3) else parseB s T3 := by
  have e : linesB badL = [badL] := by kernel_rfl
  have e2 : fieldsB (cutB 35 badL) = [[112, 114, 105, 99, 101], [97], [49]] := by kernel_rfl
  have e3 : ∀ q, lineB T3 q [[112, 114, 105, 99, 101], [97], [49]] = (3, q) := fun q => by rw [line3, if_neg (by decide), if_neg (by decide)]
  rw [parse3, parse3, linesB_app, e, goB_app]
  split
  · rw [goB_cons, e2, if_neg (by simp), e3, if_neg (show ¬ ((3 : Int) = 0) by decide)]
  · rfl
theorem law_comments (x0 : Str) (ok0 : x0.length ≤ maxLen) (x1 : Str) (ok1 : x1.length ≤ maxLen) : M.law34_PricesComments x0 x1 = some true := by
  refine Is.eq ?_
  unfold M.law34_PricesComments
  refine Is.bnd (P := fun b : Bool => b = false → x0.length ≤ 300 ∧ x1.length ≤ 50) (Is.dcd (fun _ => Is.pure fun h => by cases h) (fun h1 => Is.pure fun h => ?_)) fun b hb => Is.cnd (fun _ => Is.bnq awake_true (Is.pure rfl)) (fun e => ?_)
  · have := of_decide_eq_false h
    exact ⟨by omega, by omega⟩
  · obtain ⟨l0, l1⟩ := hb e
    refine Is.bs (P := fun _ => 10 ∉ x1) (Is.upto (fun i st => st = (i : Int) ∧ 10 ∉ x1.take i) x1.length (by omega) ⟨rfl, by simp⟩ ?_ ?_) ?_
    · rintro i _ hi ⟨rfl, h⟩
      refine Is.dt (by omega) (Is.bnq (idxS_nat hi) (Is.cnd (fun e => Is.bnq awake_true (Is.stop rfl)) (fun e => Is.bnq (chk_succ (by omega)) (Is.next ⟨rfl, ?_⟩))))
      rw [List.take_succ_eq_append_getElem hi]
      intro h2
      rcases List.mem_append.1 h2 with h2 | h2
      · exact h h2
      · have := of_beq_f e
        rw [← List.mem_singleton.1 h2] at this
        exact this rfl
    · rintro _ ⟨rfl, h⟩
      rw [List.take_length] at h
      exact Is.df (by omega) (Is.stop h)
    · intro _ hno
      refine Is.bnd (P := fun n => n = ((x0.count 10 + 1 : Nat) : Int)) (Is.upto (fun i (st : Int × Int) => st = ((((x0.take i).count 10 + 1 : Nat) : Int), (i : Int))) x0.length (by omega) rfl ?_ ?_) ?_
      · rintro i _ hi rfl
        have hc : (x0.take i).count 10 ≤ i := by
          have := List.count_le_length (a := (10 : UInt8)) (l := x0.take i)
          rw [List.length_take] at this; omega
        refine Is.dt (by omega) (Is.bnd (P := fun t => t = (((x0.take (i + 1)).count 10 + 1 : Nat) : Int)) (Is.bnq (idxS_nat hi) (Is.cnd (fun e => Is.bnq (chk_succ (by omega)) (Is.pure ?_)) (fun e => Is.pure ?_))) ?_)
        · have h9 : x0[i] = 10 := UInt8.toNat_inj.1 (by have := of_beq_t e; exact Int.ofNat_inj.1 this)
          rw [List.take_succ_eq_append_getElem hi, List.count_append, h9]; rfl
        · have h9 : x0[i] ≠ 10 := fun h => by have := of_beq_f e; rw [h] at this; exact this rfl
          rw [List.take_succ_eq_append_getElem hi, List.count_append, List.count_cons_of_ne h9]; rfl
        · rintro _ rfl
          exact Is.bnq (chk_succ (by omega)) (Is.next rfl)
      · rintro _ rfl
        exact Is.df (by omega) (Is.stop (by rw [List.take_length]))
      · rintro _ rfl
        have hcl := List.count_le_length (a := (10 : UInt8)) (l := x0)
        have ht3 : T3.length < 20 := by decide
        have ht4 : ∀ x ∈ T3, x.length ≤ 1073741824 := by decide
        obtain ⟨c1, c2⟩ := parse_comments (s := x0) hno
        refine Is.bnq (parse_ok (by omega) ht3 ht4) (Is.bnq (cat_ok (by simp; omega)) (Is.bnq (cat_ok (by simp; omega)) (Is.bnq (cat_ok (by simp; omega)) (Is.bnq (cat_ok (by simp; omega)) (Is.bnq (x := ([32, 9, 35] ++ x1) ++ 10 :: ([] ++ 10 :: (x0 ++ 10 :: ([32, 32, 35, 32] ++ x1)))) ?_ (Is.bnq (parse_ok (by simp; omega) ht3 ht4) ?_))))))
        · rw [cat_ok (by simp; omega)]; simp
        · refine Is.bnq (x := false) (Is.eq (Is.cf (bne_f c2.symm) (Is.bnq (x := true) ?_ (Is.pure rfl)))) (Is.cf rfl (Is.bnq (x := x0 ++ 10 :: badL) ?_ (Is.bnq (parse_ok (by simp [badL]; omega) ht3 ht4) (Is.bnq (x := true) (Is.eq (Is.bnq awake_true (Is.ct rfl ?_))) (Is.pure rfl)))))
          · rw [c1]; exact same_parse ht3
          · rw [cat_ok (by simp; omega)]; rfl
          · rw [parse_bad]
            have hlen := lines_count x0 []
            have e9 : ((1 + (linesB x0).length : Nat) : Int) = ((x0.count 10 + 1 + 1 : Nat) : Int) := by
              unfold linesB; rw [hlen]; omega
            by_cases h0 : (parseB x0 T3).2.2 = 0
            · rw [if_pos h0, e9]
              exact Is.cf (bne_f h0) (Is.ct (beq_t h0) (Is.ct rfl (Is.bnq (chk_succ (by omega)) (Is.pure (beq_t rfl)))))
            · rw [if_neg h0]
              exact Is.ct (bne_t h0) (Is.ct (by simp) (Is.pure rfl))
/-! ### overriding -/
def jnB (L : List (List Str)) : Str := L.flatMap fun ws => 10 :: lineW ws
theorem lines_jn : ∀ {L : List (List Str)} (s : Str), wsOk L → linesB (s ++ jnB L) = linesB s ++ L.map lineW
  | [], s, _ => by simp [jnB]
  | ws :: L, s, h => by
    have h1 := h ws (by simp)
    have h2 := lineW_ok h1.1 h1.2
    have e : jnB (ws :: L) = 10 :: (lineW ws ++ jnB L) := by simp [jnB]
    rw [e, linesB_app, lines_jn (lineW ws) fun x hx => h x (List.mem_cons_of_mem _ hx), linesB_one h2.2.2]; rfl
def overP (q : T_Prices) (a b : Nat) (v : Int) : T_Prices := ⟨q.Insert.set a v, q.Delete.set a 9, q.Replace.set a ((q.Replace.getD a []).set b (-1)), q.Swap, 5⟩
def overL (a b : Nat) (v : Int) : List (List Str) := [[insW, T3.getD a [], numW v], [delW, T3.getD a [], numW 9], [repW, T3.getD a [], T3.getD b [], numW (-1)], [unkW, numW 5]]
theorem getTL {l : List Str} {i : Nat} (h : i < l.length) : l.getD i [] = l[i] := by simp [List.getD_eq_getElem?_getD, h]
theorem getT3 {i : Nat} (h : i < T3.length) : T3.getD i [] = T3[i] := getTL h
theorem over_ws {a b : Nat} {v : Int} (ha : a < 3) (hb : b < 3) (hv : 1 ≤ v ∧ v ≤ 1000) : wsOk (overL a b v) := by
  have h1 := (names_get names3 (i := a) ha).1
  have h2 := (names_get names3 (i := b) hb).1
  have h3 := num_okW (pr_of hv)
  have h4 := num_okW (n := 9) (.inr (by omega))
  have h5 := num_okW (n := -1) (.inl rfl)
  have h6 := num_okW (n := 5) (.inr (by omega))
  intro ws hws
  unfold overL at hws
  simp only [List.mem_cons, List.not_mem_nil, or_false] at hws
  rcases hws with rfl | rfl | rfl | rfl
  · refine ⟨by simp, fun w hw => ?_⟩
    simp only [List.mem_cons, List.not_mem_nil, or_false] at hw
    rcases hw with rfl | rfl | rfl
    · exact kw_ok.1
    · exact h1
    · exact h3
  · refine ⟨by simp, fun w hw => ?_⟩
    simp only [List.mem_cons, List.not_mem_nil, or_false] at hw
    rcases hw with rfl | rfl | rfl
    · exact kw_ok.2.1
    · exact h1
    · exact h4
  · refine ⟨by simp, fun w hw => ?_⟩
    simp only [List.mem_cons, List.not_mem_nil, or_false] at hw
    rcases hw with rfl | rfl | rfl | rfl
    · exact kw_ok.2.2.1
    · exact h1
    · exact h2
    · exact h5
  · refine ⟨by simp, fun w hw => ?_⟩
    simp only [List.mem_cons, List.not_mem_nil, or_false] at hw
    rcases hw with rfl | rfl
    · exact kw_ok.2.2.2.2
    · exact h6
theorem over_run {a b : Nat} {v : Int} {q : T_Prices} (ha : a < 3) (hb : b < 3) (hab : a ≠ b) (hv : 1 ≤ v ∧ v ≤ 1000) : runL T3 q (overL a b v) = some (overP q a b v) := by
  unfold overL
  have ha' : a < T3.length := ha
  have hb' : b < T3.length := hb
  have s1 := (line_one names3 (p := q) ha' hv).1
  have s2 := (line_one names3 (p := ⟨q.Insert.set a v, q.Delete, q.Replace, q.Swap, q.Unknown⟩) ha' (n := 9) (by omega)).2
  have s3 := line_two names3 (p := ⟨q.Insert.set a v, q.Delete.set a 9, q.Replace, q.Swap, q.Unknown⟩) ha' hb' hab (n := -1) (.inl rfl)
  rw [← getT3 ha'] at s1 s2
  have s4 : lineB T3 (setRep ⟨q.Insert.set a v, q.Delete.set a 9, q.Replace, q.Swap, q.Unknown⟩ a b (-1)) [unkW, numW 5] = (0, overP q a b v) := by
    rw [line2, if_neg (by decide), if_pos rfl, numW_num (by omega)]
    rfl
  rw [run_line s1, run_line s2, run_line s3, run_line s4, runL]
theorem parse_over {s : Str} {a b : Nat} {v : Int} (ha : a < 3) (hb : b < 3) (hab : a ≠ b) (hv : 1 ≤ v ∧ v ≤ 1000) (h0 : (parseB s T3).2.2 = 0) : parseB (s ++ jnB (overL a b v)) T3 = (overP (parseB s T3).1 a b v, 0, 0) := by
  rw [parse3] at h0
  rw [parse3, parse3, lines_jn _ (over_ws ha hb hv), goB_app, if_pos h0]
  have := goB_run (k := 1 + (linesB s).length) [] (over_ws ha hb hv) (over_run (q := (goB T3 (defP 3) (linesB s) 1).1) ha hb hab hv)
  rw [List.append_nil] at this
  rw [this]; rfl
theorem idxD {l : List Int} {y : Nat} (h : y < l.length) : idxL l (y : Int) = some (l.getD y 0) := by rw [getN h]; exact idxL_nat h
theorem u16_of {x : Int} (h : IOk .u16 x) : ∃ n : Nat, x = (n : Int) ∧ n < 65536 := by
  obtain ⟨a, b⟩ := h
  have a : 0 ≤ x := a
  have b : x ≤ 65535 := b
  exact ⟨x.toNat, by omega, by omega⟩
theorem over_ins {q : T_Prices} {a b : Nat} {v : Int} {k : Nat} : (overP q a b v).Insert.getD k 0 = if a = k ∧ k < q.Insert.length then v else q.Insert.getD k 0 := getD_set
theorem over_del {q : T_Prices} {a b : Nat} {v : Int} {k : Nat} : (overP q a b v).Delete.getD k 0 = if a = k ∧ k < q.Delete.length then 9 else q.Delete.getD k 0 := getD_set
theorem over_rep {q : T_Prices} {a b : Nat} {v : Int} {i j : Nat} (h : ¬ (i = a ∧ j = b)) : ((overP q a b v).Replace.getD i []).getD j 0 = (q.Replace.getD i []).getD j 0 := by
  show ((q.Replace.set a ((q.Replace.getD a []).set b (-1))).getD i []).getD j 0 = _
  rw [getD_set]
  split
  · rename_i hc
    obtain ⟨rfl, _⟩ := hc
    rw [getD_set, if_neg (fun h2 => h ⟨rfl, h2.1.symm⟩)]
  · rfl
theorem over_rep2 {q : T_Prices} {a b n : Nat} {v : Int} (hs : Sh q n) (ha : a < n) (hb : b < n) : ((overP q a b v).Replace.getD a []).getD b 0 = -1 := by
  show ((q.Replace.set a ((q.Replace.getD a []).set b (-1))).getD a []).getD b 0 = _
  rw [getD_set, if_pos ⟨rfl, by rw [hs.rep]; exact ha⟩, getD_set, if_pos ⟨rfl, by rw [(getR hs ha).2]; exact hb⟩]

theorem getTi {l : List Str} {i : Nat} (h : i < l.length) : idxL l (i : Int) = some (l.getD i []) := by rw [getTL h]; exact idxL_nat h
theorem t3_len {i : Nat} (h : i < 3) : (T3.getD i []).length = 1 := by
  have : ∀ i : Nat, i < 3 → (T3.getD i []).length = 1 := by decide
  exact this i h
theorem law_override (x0 : Str) (ok0 : x0.length ≤ maxLen) (x1 : Int) (ok1 : IOk .u16 x1) (x2 : Int) (ok2 : IOk .u16 x2) (up0 : x0.length ≤ 1048576) : M.law34_PricesOverride x0 x1 x2 = some true := by
  have ht3 : T3.length < 20 := by decide
  have ht4 : ∀ x ∈ T3, x.length ≤ 1073741824 := by decide
  obtain ⟨m1, rfl, hm1⟩ := u16_of ok1
  obtain ⟨m2, rfl, hm2⟩ := u16_of ok2
  refine Is.eq ?_
  unfold M.law34_PricesOverride
  refine Is.bnq (parse_ok (by omega) ht3 ht4) (Is.bnd (P := fun b : Bool => b = false → x0.length ≤ 500 ∧ (parseB x0 T3).2.2 = 0) (Is.dcd (fun _ => Is.pure fun h => by cases h) (fun h500 => Is.cnd (fun _ => Is.pure fun h => by cases h) (fun e => ?_))) fun b hb => Is.cnd (fun _ => Is.bnq awake_true (Is.pure rfl)) (fun e => ?_))
  · obtain ⟨g1, g2⟩ := sh_small (sh_parse (s := x0) (terms := T3)) (by decide)
    exact Is.bnq (valid_ok g1 g2) (Is.pure fun _ => ⟨by omega, of_bne_f e⟩)
  · obtain ⟨l0, h0⟩ := hb e
    have hq := vp_parse (s := x0) ht3 h0
    generalize hQ : (parseB x0 T3).1 = q at *
    have ha : m1 % 3 < 3 := Nat.mod_lt _ (by decide)
    have hb3 : (m1 % 3 + 1) % 3 < 3 := Nat.mod_lt _ (by decide)
    have hv2 : m2 % 1000 < 1000 := Nat.mod_lt _ (by decide)
    have hab : m1 % 3 ≠ (m1 % 3 + 1) % 3 := by omega
    rw [wrap_i64 (n := (m1 : Int)) (by omega) (by omega), wrap_i64 (n := (m2 : Int)) (by omega) (by omega)]
    generalize hA : m1 % 3 = a at *
    generalize hB : (a + 1) % 3 = b at *
    generalize hV : m2 % 1000 = c at *
    have hv : (1 : Int) ≤ ((1 + c : Nat) : Int) ∧ ((1 + c : Nat) : Int) ≤ 1000 := by omega
    obtain ⟨d1, d2⟩ := dec_ok (x := ((1 + c : Nat) : Int)) (by omega)
    have q1 := t3_len ha
    have q2 := t3_len hb3
    have hp := parse_over (s := x0) ha hb3 hab hv h0
    rw [hQ] at hp
    have hlen : (jnB (overL a b ((1 + c : Nat) : Int))).length ≤ 200 := by
      simp only [jnB, overL, lineW, List.flatMap_cons, List.flatMap_nil, List.length_append, List.length_cons, List.length_nil, List.cons_append, List.nil_append, q1, q2]
      have e1 : (numW 9).length = 1 := rfl
      have e2 : (numW 5).length = 1 := rfl
      have e3 : (numW (-1)).length = 5 := rfl
      simp only [insW, delW, repW, unkW, List.length_cons, List.length_nil, e1, e2, e3]
      omega
    have hvo : VP (overP q a b ((1 + c : Nat) : Int)) T3.length := by
      have h9 : (parseB (x0 ++ jnB (overL a b ((1 + c : Nat) : Int))) T3).2.2 = 0 := by rw [hp]
      have := vp_parse ht3 h9
      rw [hp] at this
      exact this
    have hq3 : VP q 3 := hq
    have ho3 : VP (overP q a b ((1 + c : Nat) : Int)) 3 := hvo
    have hrow : ∀ (p : T_Prices), VP p 3 → ∀ (x y : Nat), x < 3 → y < 3 → idxL p.Replace (x : Int) = some (p.Replace.getD x []) ∧ idxL (p.Replace.getD x []) (y : Int) = some ((p.Replace.getD x []).getD y 0) := fun p hp x y hx hy => by
      obtain ⟨g1, g2⟩ := getR hp.sh hx
      exact ⟨g1, idxD (by rw [g2]; exact hy)⟩
    have hins : ∀ (p : T_Prices), VP p 3 → ∀ (x : Nat), x < 3 → idxL p.Insert (x : Int) = some (p.Insert.getD x 0) ∧ idxL p.Delete (x : Int) = some (p.Delete.getD x 0) := fun p hp x hx =>
      ⟨idxD (by rw [hp.sh.ins]; exact hx), idxD (by rw [hp.sh.del]; exact hx)⟩
    refine Is.bnq (x := (a : Int)) (by rw [← hA]; exact rem_nat (a := m1) (b := 3) (by decide)) (Is.bnq (x := (c : Int)) (by rw [← hV]; exact rem_nat (a := m2) (b := 1000) (by decide)) (Is.bnq (x := ((1 + c : Nat) : Int)) (by rw [show (1 : Int) + (c : Int) = ((1 + c : Nat) : Int) by omega]; exact chk_i64 (by omega) (by omega)) ?_))
    refine Is.bnq (getTi ha) (Is.bnq (cat_ok (by simp only [q1, List.length_append, List.length_cons, List.length_nil]; omega)) (Is.bnq (cat_ok (by simp only [q1, List.length_append, List.length_cons, List.length_nil]; omega)) (Is.bnq (chk_succ (by omega)) (Is.bnq (x := (b : Int)) (by rw [← hB]; exact rem_nat (a := a + 1) (b := 3) (by decide)) (Is.bnq (getTi hb3) (Is.bnq d1 ?_))))))
    refine Is.bnq (cat_ok (by simp only [q1, List.length_append, List.length_cons, List.length_nil]; omega)) (Is.bnq (cat_ok (by simp only [q1, List.length_append, List.length_cons, List.length_nil]; omega)) (Is.bnq (cat_ok (by simp only [q1, List.length_append, List.length_cons, List.length_nil]; omega)) (Is.bnq (cat_ok (by simp only [q1, List.length_append, List.length_cons, List.length_nil]; omega)) (Is.bnq (cat_ok (by simp only [q1, List.length_append, List.length_cons, List.length_nil]; omega)) (Is.bnq (cat_ok (by simp only [q1, List.length_append, List.length_cons, List.length_nil]; omega)) (Is.bnq (cat_ok (by simp only [q1, q2, List.length_append, List.length_cons, List.length_nil]; omega)) (Is.bnq (cat_ok (by simp only [q1, q2, List.length_append, List.length_cons, List.length_nil]; omega)) (Is.bnq (x := x0 ++ jnB (overL a b ((1 + c : Nat) : Int))) ?_ (Is.bnq (parse_ok (by rw [List.length_append]; omega) ht3 ht4) ?_)))))))))
    · rw [cat_ok (by simp only [q1, q2, List.length_append, List.length_cons, List.length_nil]; omega)]
      congr 2
      have e1 : numW 9 = [57] := rfl
      have e2 : numW 5 = [53] := rfl
      have e3 : numW (-1) = nevW := rfl
      simp only [jnB, overL, lineW, List.flatMap_cons, List.flatMap_nil, e1, e2, e3, insW, delW, repW, unkW, nevW, List.append_assoc, List.cons_append, List.nil_append, List.append_nil]
    · rw [hp]
      obtain ⟨g1, g2⟩ := sh_small (.inl ho3.sh) (by decide)
      refine Is.bnq (x := false) (Is.eq (Is.cf rfl (Is.bnq ((valid_ok g1 g2).trans (congrArg some (valid_iff.2 ho3))) (Is.pure rfl)))) (Is.cf rfl ?_)
      refine Is.bs (P := fun _ => True) (Is.upto (fun i st => st = (i : Int)) 3 (by decide) rfl ?_ ?_) (fun _ _ => ?_)
      · rintro x _ hx rfl
        refine Is.dt (by omega) (Is.bs (P := fun _ => True) (Is.bs (P := fun _ => True) (Is.upto (fun j st => st = (j : Int)) 3 (by decide) rfl ?_ ?_) (fun _ _ => ?_)) (fun _ _ => Is.bnq (chk_succ (by omega)) (Is.next rfl)))
        · rintro y _ hy rfl
          obtain ⟨r1, r2⟩ := hrow _ ho3 x y hx hy
          obtain ⟨r3, r4⟩ := hrow _ hq3 x y hx hy
          refine Is.dt (by omega) (Is.bnq (x := false) (Is.eq (Is.cnd (fun e => ?_) (fun e => Is.cnd (fun e2 => ?_) (fun _ => Is.pure rfl)))) (Is.cf rfl (Is.bnq (chk_succ (by omega)) (Is.next rfl))))
          · have := of_bne_t e
            exact Is.bnq r1 (Is.bnq r2 (Is.bnq r3 (Is.bnq r4 (Is.pure (bne_f (over_rep (fun h => this (by rw [h.1]))))))))
          · have := of_bne_t e2
            exact Is.bnq r1 (Is.bnq r2 (Is.bnq r3 (Is.bnq r4 (Is.pure (bne_f (over_rep (fun h => this (by rw [h.2]))))))))
        · rintro _ rfl
          exact Is.df (by decide) (Is.stop trivial)
        · refine Is.bnq (x := false) (Is.eq (Is.cnd (fun e => ?_) (fun _ => Is.pure rfl))) (Is.cf rfl (Is.next trivial))
          have hne : a ≠ x := fun h => of_bne_t e (by rw [h])
          obtain ⟨r1, r2⟩ := hins _ ho3 x hx
          obtain ⟨r3, r4⟩ := hins _ hq3 x hx
          refine Is.bnq r1 (Is.bnq r3 (Is.cf (bne_f ?_) (Is.bnq r2 (Is.bnq r4 (Is.pure (bne_f ?_))))))
          · rw [over_ins, if_neg (fun h => hne h.1)]
          · rw [over_del, if_neg (fun h => hne h.1)]
      · rintro _ rfl
        exact Is.df (by decide) (Is.stop trivial)
      · obtain ⟨r1, r2⟩ := hins _ ho3 a ha
        obtain ⟨r3, r4⟩ := hrow _ ho3 a b ha hb3
        refine Is.bnq (x := true) (Is.eq (Is.bnq awake_true (Is.ct rfl (Is.bnq r1 (Is.ct (beq_t ?_) (Is.bnq r2 (Is.ct (beq_t ?_) (Is.bnq r3 (Is.bnq r4 (Is.ct (beq_t (over_rep2 hq3.sh ha hb3)) (Is.ct rfl (Is.pure (beq_t rfl))))))))))))) (Is.pure rfl)
        · rw [over_ins, if_pos ⟨rfl, by rw [hq3.sh.ins]; exact ha⟩]
        · rw [over_del, if_pos ⟨rfl, by rw [hq3.sh.del]; exact ha⟩]
/-! ### what the second form says of a text: it is short -/
theorem bulkAll_eq {H : Type} : ∀ l : List (DataW H), Rows.uptoBulkAll l = (l.map Rows.uptoBulk).sum
  | [] => by simp [Rows.uptoBulkAll]
  | d :: l => by simp only [Rows.uptoBulkAll, List.map_cons, List.sum_cons, bulkAll_eq l]
abbrev bulk (H : Type) (d : DataW H) : Nat := Rows.uptoBulk d
theorem readsU_str {P : Program} {T : TypeId} (hT : P.underlying T = some .string) (f : Nat) : ReadsU bulk P T tStr (fun s n => s.length ≤ maxLen ∧ s.length ≤ n) f := by
  intro H enc w cs x h
  obtain ⟨s, rfl, e, hw⟩ := DataW.trod_string hT h
  refine ⟨s.data.toList, rfl, (show s.data.toList.length ≤ maxLen from hw), ?_⟩
  rw [e]
  show s.data.toList.length ≤ s.data.toList.length + 1
  omega
end Go.Proofs.YtbfmbiapjgpfhaaGreatDoor
