/- Plain facts on layer 34: what a line does in the reference. -/
import Derived.Test.YtbfmbiapjgpfhaaGreatDoorPl34d
set_option linter.unusedVariables false
set_option linter.unusedSimpArgs false
namespace Go.Proofs.YtbfmbiapjgpfhaaGreatDoor
open Go.Lx

theorem with_ok {l : List Int} {i : Nat} (hi : i < l.length) (hl : l.length ≤ 1000) (x : Int) : M.ref34_with l (i : Int) x = some (l.set i x) := by
  refine Is.eq ?_
  unfold M.ref34_with
  exact Is.bnq (x := l) (appM_ok (by simp; omega)) (Is.bnq (setL_nat hi) (Is.pure rfl))
theorem btw_ok (n least : Nat) : M.ref34_between (n : Int) (least : Int) 1000 = some (decide (least ≤ n ∧ n ≤ 1000)) := in_ok n least
abbrev rbody (terms : List Str) (p1 : T_Prices) (p2 : List Str) (c : Int) : List Int × Int → Option (Step (List Int × Int) (Step (List Int) (T_Prices × Int))) := fun (st9 : (List Int) × Int) => match st9 with
    | (xv16, xv17) =>
     bif (decide (xv17 < c)) then
      (chk .i64 (1 + xv17)).bind fun t13 =>
      (idxL p2 t13).bind fun e16 =>
      (M.ref34_index terms e16).bind fun rv7 =>
      (setL xv16 xv17 rv7).bind fun y6 =>
      (idxL y6 xv17).bind fun e17 =>
      bif (decide (e17 < 0)) then
       some (.stop (.stop (p1, 4)))
      else
       (chk .i64 (xv17 + 1)).bind fun t14 =>
       some (.next (y6, t14))
     else
      some (.stop (.next xv16))
theorem rl0 {terms : List Str} {p1 : T_Prices} {p2 : List Str} : loopM (rbody terms p1 p2 0) fuel ([0, 0], 0) = some (.next [0, 0]) :=
  Is.eq (Is.upto (fun i st => st = ([0, 0], 0)) 0 (by decide) rfl (fun i s hi => by omega) (fun s hs => by subst hs; exact Is.df (by decide) (Is.stop rfl)))
theorem rl1 {terms : List Str} {p1 : T_Prices} {k a x : Str} (ht : terms.length ≤ 9223372036854775807) : loopM (rbody terms p1 [k, a, x] 1) fuel ([0, 0], 0) = some (match idxB terms a with | none => .stop (p1, 4) | some i => .next [(i : Int), 0]) := by
  refine Is.eq (Is.upto (fun i st => (i = 0 ∧ st = ([0, 0], 0)) ∨ (i = 1 ∧ ∃ q, idxB terms a = some q ∧ st = ([(q : Int), 0], 1))) 1 (by decide) (.inl ⟨rfl, rfl⟩) ?_ ?_)
  · rintro i st hi h
    rcases h with ⟨rfl, rfl⟩ | ⟨rfl, _⟩
    · refine Is.dt (by decide) (Is.bnq (x := 1) (by kernel_rfl) (Is.bnq (x := a) rfl (Is.bnq (rix34_ok ht) ?_)))
      cases hq : idxB terms a with
      | none => exact Is.bnq (x := [-1, 0]) rfl (Is.bnq (x := -1) rfl (Is.dt (by decide) (Is.stop rfl)))
      | some q => exact Is.bnq (x := [(q : Int), 0]) rfl (Is.bnq (x := (q : Int)) rfl (Is.df (by omega) (Is.bnq (x := 1) (by kernel_rfl) (Is.next (.inr ⟨rfl, q, rfl, rfl⟩)))))
    · omega
  · rintro st h
    rcases h with ⟨h, _⟩ | ⟨_, q, hq, rfl⟩
    · cases h
    · rw [hq]; exact Is.df (by decide) (Is.stop rfl)
theorem rl2 {terms : List Str} {p1 : T_Prices} {k a b x : Str} (ht : terms.length ≤ 9223372036854775807) : loopM (rbody terms p1 [k, a, b, x] 2) fuel ([0, 0], 0) = some (match idxB terms a with | none => .stop (p1, 4) | some i => match idxB terms b with | none => .stop (p1, 4) | some j => .next [(i : Int), (j : Int)]) := by
  refine Is.eq (Is.upto (fun i st => (i = 0 ∧ st = ([0, 0], 0)) ∨ (i = 1 ∧ ∃ q, idxB terms a = some q ∧ st = ([(q : Int), 0], 1)) ∨ (i = 2 ∧ ∃ q r, idxB terms a = some q ∧ idxB terms b = some r ∧ st = ([(q : Int), (r : Int)], 2))) 2 (by decide) (.inl ⟨rfl, rfl⟩) ?_ ?_)
  · rintro i st hi h
    rcases h with ⟨rfl, rfl⟩ | ⟨rfl, q, hq, rfl⟩ | ⟨rfl, _⟩
    · refine Is.dt (by decide) (Is.bnq (x := 1) (by kernel_rfl) (Is.bnq (x := a) rfl (Is.bnq (rix34_ok ht) ?_)))
      cases hq : idxB terms a with
      | none => exact Is.bnq (x := [-1, 0]) rfl (Is.bnq (x := -1) rfl (Is.dt (by decide) (Is.stop rfl)))
      | some q => exact Is.bnq (x := [(q : Int), 0]) rfl (Is.bnq (x := (q : Int)) rfl (Is.df (by omega) (Is.bnq (x := 1) (by kernel_rfl) (Is.next (.inr (.inl ⟨rfl, q, rfl, rfl⟩))))))
    · refine Is.dt (by decide) (Is.bnq (x := 2) (by kernel_rfl) (Is.bnq (x := b) rfl (Is.bnq (rix34_ok ht) ?_)))
      rw [hq]
      cases hr : idxB terms b with
      | none => exact Is.bnq (x := [(q : Int), -1]) rfl (Is.bnq (x := -1) rfl (Is.dt (by decide) (Is.stop rfl)))
      | some r => exact Is.bnq (x := [(q : Int), (r : Int)]) rfl (Is.bnq (x := (r : Int)) rfl (Is.df (by omega) (Is.bnq (x := 2) (by kernel_rfl) (Is.next (.inr (.inr ⟨rfl, q, r, rfl, rfl, rfl⟩))))))
    · omega
  · rintro st h
    rcases h with ⟨h, _⟩ | ⟨h, _⟩ | ⟨_, q, r, hq, hr, rfl⟩
    · cases h
    · cases h
    · rw [hq, hr]; exact Is.df (by decide) (Is.stop rfl)
def rv (o : Int × T_Prices) : T_Prices × Int := (o.2, o.1)
theorem rv_range {least v : Nat} {p : T_Prices} {f : Int → T_Prices} {o : Option (T_Prices × Int)} (ho : o = some (f v, 0)) :
    (((M.ref34_between (v : Int) (least : Int) 1000).bind fun rv9 => some (!rv9)).bind fun (xv21 : Bool) => bif xv21 then some (p, 2) else o) = some (rv (rangeB least p v f)) := by
  rw [btw_ok, ho]
  unfold rangeB rv
  by_cases hr : least ≤ v ∧ v ≤ 1000
  · rw [decide_eq_true hr, if_pos hr]; rfl
  · rw [decide_eq_false hr, if_neg hr]; rfl
theorem r_ins {terms : List Str} {p : T_Prices} {a x : Str} {n : Nat} (hs : Sh p n) (hn : terms.length = n) (hn2 : n ≤ 1000) (hx : x.length ≤ 4294967296) :
    M.ref34_line p [insW, a, x] terms = some (rv (oneB terms p a x (fun i n => T_Prices.mk (p.Insert.set i n) p.Delete p.Replace p.Swap p.Unknown))) := by
  have hnum := rnumber_ok (s := x) (by omega)
  have hlp := rl1 (terms := terms) (p1 := p) (k := insW) (a := a) (x := x) (by omega)
  refine Is.eq ?_
  unfold M.ref34_line oneB
  refine Is.bs (P := fun q => q = (1, 1)) (Is.of (x := .next (1, 1)) (by kernel_rfl) rfl) ?_
  rintro _ rfl
  refine Is.bnq (x := 3) (by kernel_rfl) (Is.cf rfl (Is.bnq (x := 2) (by kernel_rfl) (Is.bnq (x := x) rfl (Is.bnq hnum (Is.bnq (x := false) (by kernel_rfl) ?_)))))
  cases hv : numB x with
  | none => exact Is.bnq (x := true) rfl (Is.ct rfl (Is.pure rfl))
  | some v =>
    refine Is.bnq (x := false) (Is.eq (Is.df (show ¬ ((v : Int) < 0) by omega) (Is.pure rfl))) (Is.cf rfl ?_)
    cases hi : idxB terms a with
    | none =>
      rw [hi] at hlp
      exact Is.bs (P := fun _ => False) (Is.of hlp rfl) (fun _ h => h.elim)
    | some i =>
      rw [hi] at hlp
      have hlt := idxB_lt hi
      refine Is.bs (P := fun xs => xs = [(i : Int), 0]) (Is.of hlp rfl) ?_
      rintro _ rfl
      refine Is.bnq (x := false) rfl (Is.cf rfl (Is.of (rv_range ?_) rfl))
      show (((M.ref34_with p.Insert (i : Int) (v : Int)).bind fun rv13 => some (rv13, p.Delete, p.Replace, p.Swap, p.Unknown)).bind _) = _
      rw [with_ok (by rw [hs.ins]; omega) (by rw [hs.ins]; omega)]; rfl
theorem r_del {terms : List Str} {p : T_Prices} {a x : Str} {n : Nat} (hs : Sh p n) (hn : terms.length = n) (hn2 : n ≤ 1000) (hx : x.length ≤ 4294967296) :
    M.ref34_line p [delW, a, x] terms = some (rv (oneB terms p a x (fun i n => T_Prices.mk p.Insert (p.Delete.set i n) p.Replace p.Swap p.Unknown))) := by
  have hnum := rnumber_ok (s := x) (by omega)
  have hlp := rl1 (terms := terms) (p1 := p) (k := delW) (a := a) (x := x) (by omega)
  refine Is.eq ?_
  unfold M.ref34_line oneB
  refine Is.bs (P := fun q => q = (1, 1)) (Is.of (x := .next (1, 1)) (by kernel_rfl) rfl) ?_
  rintro _ rfl
  refine Is.bnq (x := 3) (by kernel_rfl) (Is.cf rfl (Is.bnq (x := 2) (by kernel_rfl) (Is.bnq (x := x) rfl (Is.bnq hnum (Is.bnq (x := false) (by kernel_rfl) ?_)))))
  cases hv : numB x with
  | none => exact Is.bnq (x := true) rfl (Is.ct rfl (Is.pure rfl))
  | some v =>
    refine Is.bnq (x := false) (Is.eq (Is.df (show ¬ ((v : Int) < 0) by omega) (Is.pure rfl))) (Is.cf rfl ?_)
    cases hi : idxB terms a with
    | none =>
      rw [hi] at hlp
      exact Is.bs (P := fun _ => False) (Is.of hlp rfl) (fun _ h => h.elim)
    | some i =>
      rw [hi] at hlp
      have hlt := idxB_lt hi
      refine Is.bs (P := fun xs => xs = [(i : Int), 0]) (Is.of hlp rfl) ?_
      rintro _ rfl
      refine Is.bnq (x := false) rfl (Is.cf rfl (Is.of (rv_range ?_) rfl))
      show (((M.ref34_with p.Delete (i : Int) (v : Int)).bind fun rv13 => some (p.Insert, rv13, p.Replace, p.Swap, p.Unknown)).bind _) = _
      rw [with_ok (by rw [hs.del]; omega) (by rw [hs.del]; omega)]; rfl
theorem r_swp {terms : List Str} {p : T_Prices} {x : Str} (hx : x.length ≤ 4294967296) :
    M.ref34_line p [swpW, x] terms = some (rv (lineB terms p [swpW, x])) := by
  have hnum := rnumber_ok (s := x) (by omega)
  have hlp := rl0 (terms := terms) (p1 := p) (p2 := [swpW, x])
  rw [line_swp]
  refine Is.eq ?_
  unfold M.ref34_line
  refine Is.bs (P := fun q => q = (0, 0)) (Is.of (x := .next (0, 0)) (by kernel_rfl) rfl) ?_
  rintro _ rfl
  refine Is.bnq (x := 2) (by kernel_rfl) (Is.cf rfl (Is.bnq (x := 1) (by kernel_rfl) (Is.bnq (x := x) rfl (Is.bnq hnum (Is.bnq (x := false) (by kernel_rfl) ?_)))))
  cases hv : numB x with
  | none => exact Is.bnq (x := true) rfl (Is.ct rfl (Is.pure rfl))
  | some v =>
    refine Is.bnq (x := false) (Is.eq (Is.df (show ¬ ((v : Int) < 0) by omega) (Is.pure rfl))) (Is.cf rfl ?_)
    refine Is.bs (P := fun xs => xs = [0, 0]) (Is.of hlp rfl) ?_
    rintro _ rfl
    exact Is.bnq (x := false) rfl (Is.cf rfl (Is.of (rv_range (v := v) (least := 0) (p := p) (f := fun m => T_Prices.mk p.Insert p.Delete p.Replace m p.Unknown) rfl) rfl))
theorem r_unk {terms : List Str} {p : T_Prices} {x : Str} (hx : x.length ≤ 4294967296) :
    M.ref34_line p [unkW, x] terms = some (rv (lineB terms p [unkW, x])) := by
  have hnum := rnumber_ok (s := x) (by omega)
  have hlp := rl0 (terms := terms) (p1 := p) (p2 := [unkW, x])
  rw [line_unk]
  refine Is.eq ?_
  unfold M.ref34_line
  refine Is.bs (P := fun q => q = (0, 1)) (Is.of (x := .next (0, 1)) (by kernel_rfl) rfl) ?_
  rintro _ rfl
  refine Is.bnq (x := 2) (by kernel_rfl) (Is.cf rfl (Is.bnq (x := 1) (by kernel_rfl) (Is.bnq (x := x) rfl (Is.bnq hnum (Is.bnq (x := false) (by kernel_rfl) ?_)))))
  cases hv : numB x with
  | none => exact Is.bnq (x := true) rfl (Is.ct rfl (Is.pure rfl))
  | some v =>
    refine Is.bnq (x := false) (Is.eq (Is.df (show ¬ ((v : Int) < 0) by omega) (Is.pure rfl))) (Is.cf rfl ?_)
    refine Is.bs (P := fun xs => xs = [0, 0]) (Is.of hlp rfl) ?_
    rintro _ rfl
    exact Is.bnq (x := false) rfl (Is.cf rfl (Is.of (rv_range (v := v) (least := 1) (p := p) (f := fun m => T_Prices.mk p.Insert p.Delete p.Replace p.Swap m) rfl) rfl))
theorem nev_none : numB nevW = none := by kernel_rfl
theorem r_rep {terms : List Str} {p : T_Prices} {a b x : Str} {n : Nat} (hs : Sh p n) (hn : terms.length = n) (hn2 : n ≤ 1000) (hx : x.length ≤ 4294967296) :
    M.ref34_line p [repW, a, b, x] terms = some (rv (twoB terms p a b x)) := by
  have hnum := rnumber_ok (s := x) (by omega)
  have hlp := rl2 (terms := terms) (p1 := p) (k := repW) (a := a) (b := b) (x := x) (by omega)
  refine Is.eq ?_
  unfold M.ref34_line
  refine Is.bs (P := fun q => q = (2, 1)) (Is.of (x := .next (2, 1)) (by kernel_rfl) rfl) ?_
  rintro _ rfl
  refine Is.bnq (x := 4) (by kernel_rfl) (Is.cf rfl (Is.bnq (x := 3) (by kernel_rfl) (Is.bnq (x := x) rfl (Is.bnq hnum (Is.bnq (x := decide (x = nevW)) ?_ ?_)))))
  · show some (x == nevW) = _
    congr 1
    rw [Bool.eq_iff_iff]; simp only [beq_iff_eq, decide_eq_true_eq]
  have hb : ∀ (v0 : Int), (v0 < 0 ↔ numB x = none) → (bif decide (v0 < 0) then some (!decide (x = nevW)) else some false) = some (decide (numB x = none ∧ x ≠ nevW)) := by
    intro v0 hv0
    by_cases h1 : numB x = none
    · rw [decide_eq_true (hv0.2 h1)]
      by_cases h2 : x = nevW
      · rw [decide_eq_true h2, decide_eq_false (show ¬ (numB x = none ∧ x ≠ nevW) from fun h => h.2 h2)]; rfl
      · rw [decide_eq_false h2, decide_eq_true (show numB x = none ∧ x ≠ nevW from ⟨h1, h2⟩)]; rfl
    · rw [decide_eq_false (fun h => h1 (hv0.1 h)), decide_eq_false (show ¬ (numB x = none ∧ x ≠ nevW) from fun h => h1 h.1)]; rfl
  refine Is.bnq (hb _ ?_) ?_
  · cases numB x with
    | none => simp
    | some v => simp
  unfold twoB
  by_cases hbad : numB x = none ∧ x ≠ nevW
  · rw [decide_eq_true hbad, if_pos hbad]
    exact Is.ct rfl (Is.pure rfl)
  · rw [decide_eq_false hbad, if_neg hbad]
    refine Is.cf rfl ?_
    cases hi : idxB terms a with
    | none =>
      rw [hi] at hlp
      exact Is.bs (P := fun _ => False) (Is.of hlp rfl) (fun _ h => h.elim)
    | some i =>
      rw [hi] at hlp
      cases hj : idxB terms b with
      | none =>
        rw [hj] at hlp
        exact Is.bs (P := fun _ => False) (Is.of hlp rfl) (fun _ h => h.elim)
      | some j =>
        rw [hj] at hlp
        have hlt := idxB_lt hi
        have hlt2 := idxB_lt hj
        obtain ⟨g1, g2⟩ := getR hs (i := i) (by omega)
        refine Is.bs (P := fun xs => xs = [(i : Int), (j : Int)]) (Is.of hlp rfl) ?_
        rintro _ rfl
        have hset : ∀ v : Int, ((appM 24 [] p.Replace).bind fun y9 => (idxL [(i : Int), (j : Int)] 0).bind fun e31 => (idxL y9 e31).bind fun e32 => (idxL [(i : Int), (j : Int)] 1).bind fun e33 => (M.ref34_with e32 e33 v).bind fun rv15 => (setL y9 e31 rv15).bind fun y10 => some (p.Insert, p.Delete, y10, p.Swap, p.Unknown)) = some (p.Insert, p.Delete, p.Replace.set i ((p.Replace.getD i []).set j v), p.Swap, p.Unknown) := by
          intro v
          refine Is.eq (Is.bnq (x := p.Replace) (appM_ok (by have := hs.rep; simp; omega)) (Is.bnq (x := (i : Int)) rfl (Is.bnq g1 (Is.bnq (x := (j : Int)) rfl (Is.bnq (with_ok (by rw [g2]; omega) (by rw [g2]; omega) v) (Is.bnq (setL_nat (by rw [hs.rep]; omega)) (Is.pure rfl)))))))
        show Is _ (fun r => r = rv (if i = j then (1, p) else match numB x with | some n => rangeB 1 p n (setRep p i j) | none => (0, setRep p i j (-1))))
        by_cases hij : i = j
        · rw [if_pos hij]
          exact Is.bnq (x := true) (congrArg some (beq_t (by omega))) (Is.ct rfl (Is.pure rfl))
        · rw [if_neg hij]
          refine Is.bnq (x := false) (congrArg some (beq_f (by omega))) (Is.cf rfl ?_)
          cases hv : numB x with
          | none =>
            have hx2 : x = nevW := by
              by_cases h : x = nevW
              · exact h
              · exact absurd ⟨hv, h⟩ hbad
            rw [decide_eq_true hx2]
            exact Is.bnq (x := false) rfl (Is.cf rfl (Is.bnq (hset _) (Is.pure rfl)))
          | some v =>
            have hx2 : ¬ x = nevW := by
              rintro rfl
              rw [nev_none] at hv; cases hv
            rw [decide_eq_false hx2]
            refine Is.of (rv_range ?_) rfl
            exact (congrArg (fun o => Option.bind o _) (hset (v : Int))).trans rfl
theorem rline {terms : List Str} {p : T_Prices} {l : List Str} {n : Nat} (hne : l ≠ []) (hs : Sh p n) (hn : terms.length = n) (hn2 : n ≤ 1000) (hll : l.length ≤ 1099511627776) (hlen : ∀ x ∈ l, x.length ≤ 4294967296) :
    M.ref34_line p l terms = some (rv (lineB terms p l)) := by
  rcases l with _ | ⟨k, t⟩
  · exact absurd rfl hne
  · by_cases hsz : sizeB k = ((k :: t).length : Int)
    · have hc := size_cases k
      rcases t with _ | ⟨a, _ | ⟨b, _ | ⟨c, _ | ⟨d, t⟩⟩⟩⟩
      · simp at hsz; omega
      · have hk : k = swpW ∨ k = unkW := by
          have : sizeB k = 2 := hsz
          rcases hc with h | h | h | h <;> first | omega | exact h.2
        rcases hk with rfl | rfl
        · exact r_swp (hlen a (by simp))
        · exact r_unk (hlen a (by simp))
      · have hk : k = insW ∨ k = delW := by
          have : sizeB k = 3 := hsz
          rcases hc with h | h | h | h <;> first | omega | exact h.2
        rcases hk with rfl | rfl
        · rw [line_ins]; exact r_ins hs hn hn2 (hlen b (by simp))
        · rw [line_del]; exact r_del hs hn hn2 (hlen b (by simp))
      · have hk : k = repW := by
          have : sizeB k = 4 := hsz
          rcases hc with h | h | h | h <;> first | omega | exact h.2
        subst hk
        rw [line_rep]; exact r_rep hs hn hn2 (hlen c (by simp))
      · exfalso
        simp only [List.length_cons] at hsz
        rcases hc with h | h | h | h <;> omega
    · rw [line_bad hsz]
      refine Is.eq ?_
      unfold M.ref34_line
      have fin : ∀ (c m : Int), sizeB k = c + 2 → 0 ≤ c → c ≤ 2 → Is ((chk .i64 (c + 2)).bind fun t1 => bif (((k :: t).length : Int) != t1) then (some (p, 3) : Option (T_Prices × Int)) else none) (fun r => r = rv (3, p)) := by
        intro c m h1 h2 h3
        refine Is.bnq (x := c + 2) (chk_i64 (by omega) (by omega)) (Is.ct (bne_t (by rw [← h1]; exact Ne.symm hsz)) (Is.pure rfl))
      rcases size_cases k with ⟨h1, h2⟩ | ⟨h1, rfl⟩ | ⟨h1, h2⟩ | ⟨h1, h2, h3, h4, h5, h6⟩
      · refine Is.bs (P := fun q => q = (1, 1)) (Is.of (x := .next (1, 1)) (by rcases h2 with rfl | rfl <;> kernel_rfl) rfl) ?_
        rintro _ rfl
        exact Is.bnq (x := 3) (by kernel_rfl) (Is.ct (bne_t (by rw [h1] at hsz; exact Ne.symm hsz)) (Is.pure rfl))
      · refine Is.bs (P := fun q => q = (2, 1)) (Is.of (x := .next (2, 1)) (by kernel_rfl) rfl) ?_
        rintro _ rfl
        exact Is.bnq (x := 4) (by kernel_rfl) (Is.ct (bne_t (by rw [h1] at hsz; exact Ne.symm hsz)) (Is.pure rfl))
      · refine Is.bs (P := fun q => q.1 = 0) (by rcases h2 with rfl | rfl; exact Is.of (x := .next (0, 0)) (by kernel_rfl) rfl; exact Is.of (x := .next (0, 1)) (by kernel_rfl) rfl) ?_
        rintro ⟨_, q⟩ rfl
        exact Is.bnq (x := 2) (by kernel_rfl) (Is.ct (bne_t (by rw [h1] at hsz; exact Ne.symm hsz)) (Is.pure rfl))
      · refine Is.bs (P := fun _ => False) ?_ (fun _ h => h.elim)
        have nb : ∀ {w : Str}, k ≠ w → (k == w) = false := fun h => beq_eq_false_iff_ne.2 h
        exact Is.bnq (x := k) rfl (Is.bnq (x := false) (by rw [show (k == ([105, 110, 115, 101, 114, 116] : Str)) = false from nb h2, show (k == ([100, 101, 108, 101, 116, 101] : Str)) = false from nb h3]; rfl) (Is.cf rfl (Is.cf (nb h4) (Is.cf (nb h5) (Is.cf (nb h6) (Is.stop rfl))))))
end Go.Proofs.YtbfmbiapjgpfhaaGreatDoor
