/- Plain facts on layer 34: what a line does, in the program and in the reference. -/
import Derived.Test.YtbfmbiapjgpfhaaGreatDoorPl34c
set_option linter.unusedVariables false
set_option linter.unusedSimpArgs false
namespace Go.Proofs.YtbfmbiapjgpfhaaGreatDoor
open Go.Lx

def insW : Str := [105, 110, 115, 101, 114, 116]
def delW : Str := [100, 101, 108, 101, 116, 101]
def repW : Str := [114, 101, 112, 108, 97, 99, 101]
def swpW : Str := [115, 119, 97, 112]
def unkW : Str := [117, 110, 107, 110, 111, 119, 110]
def nevW : Str := [110, 101, 118, 101, 114]
/-- The price that a line names: err 2 beyond the range. -/
def rangeB (least : Nat) (p : T_Prices) (n : Nat) (f : Int → T_Prices) : Int × T_Prices := if least ≤ n ∧ n ≤ 1000 then (0, f n) else (2, p)
def oneB (terms : List Str) (p : T_Prices) (a x : Str) (f : Nat → Int → T_Prices) : Int × T_Prices := match numB x with
  | none => (3, p)
  | some n => match idxB terms a with
    | none => (4, p)
    | some i => rangeB 1 p n (f i)
def setRep (p : T_Prices) (i j : Nat) (n : Int) : T_Prices := T_Prices.mk p.Insert p.Delete (p.Replace.set i ((p.Replace.getD i []).set j n)) p.Swap p.Unknown
def twoB (terms : List Str) (p : T_Prices) (a b x : Str) : Int × T_Prices := if numB x = none ∧ x ≠ nevW then (3, p) else
  match idxB terms a with
  | none => (4, p)
  | some i => match idxB terms b with
    | none => (4, p)
    | some j => if i = j then (1, p) else match numB x with
      | some n => rangeB 1 p n (setRep p i j)
      | none => (0, setRep p i j (-1))
def lineB (terms : List Str) (p : T_Prices) : List Str → Int × T_Prices
  | [k, x] => if k = swpW then (match numB x with | none => (3, p) | some n => rangeB 0 p n (fun m => T_Prices.mk p.Insert p.Delete p.Replace m p.Unknown))
    else if k = unkW then (match numB x with | none => (3, p) | some n => rangeB 1 p n (fun m => T_Prices.mk p.Insert p.Delete p.Replace p.Swap m)) else (3, p)
  | [k, a, x] => if k = insW then oneB terms p a x (fun i n => T_Prices.mk (p.Insert.set i n) p.Delete p.Replace p.Swap p.Unknown)
    else if k = delW then oneB terms p a x (fun i n => T_Prices.mk p.Insert (p.Delete.set i n) p.Replace p.Swap p.Unknown) else (3, p)
  | [k, a, b, x] => if k = repW then twoB terms p a b x else (3, p)
  | _ => (3, p)
structure Sh (p : T_Prices) (n : Nat) : Prop where
  ins : p.Insert.length = n
  del : p.Delete.length = n
  rep : p.Replace.length = n
  row : ∀ r ∈ p.Replace, r.length = n
/-! ### the program -/
def sizeB (e : Str) : Int := if e = insW then 3 else if e = delW then 3 else if e = repW then 4 else if e = swpW then 2 else if e = unkW then 2 else 0
theorem size_ok (e : Str) : (mget (mset (mset (mset (mset (mset ([] : List (Str × Int)) [105, 110, 115, 101, 114, 116] 3) [100, 101, 108, 101, 116, 101] 3) [114, 101, 112, 108, 97, 99, 101] 4) [115, 119, 97, 112] 2) [117, 110, 107, 110, 111, 119, 110] 2) e).getD 0 = sizeB e := by
  have h : mset (mset (mset (mset (mset ([] : List (Str × Int)) [105, 110, 115, 101, 114, 116] 3) [100, 101, 108, 101, 116, 101] 3) [114, 101, 112, 108, 97, 99, 101] 4) [115, 119, 97, 112] 2) [117, 110, 107, 110, 111, 119, 110] 2 = [(insW, 3), (delW, 3), (repW, 4), (swpW, 2), (unkW, 2)] := by kernel_rfl
  rw [h]
  unfold mget sizeB
  have e2 : ∀ a : Str, (a == e) = decide (e = a) := fun a => by rw [Bool.eq_iff_iff]; simp; exact eq_comm
  simp only [List.find?_cons, List.find?_nil, e2]
  by_cases h1 : e = insW
  · simp [h1]
  · by_cases h2 : e = delW
    · subst h2; simp [h1]
    · by_cases h3 : e = repW
      · subst h3; simp [h1, h2]
      · by_cases h4 : e = swpW
        · subst h4; simp [h1, h2, h3]
        · by_cases h5 : e = unkW
          · subst h5; simp [h1, h2, h3, h4]
          · simp [h1, h2, h3, h4, h5]
def idxsB (terms : List Str) : List Str → Option (List Int)
  | [] => some []
  | a :: r => match idxB terms a with
    | none => none
    | some i => (idxsB terms r).map ((i : Int) :: ·)
theorem form_len {k : Str} {t : List Str} (h : sizeB k ≠ ((k :: t).length : Int)) : M.prices_form (k :: t) = some false := by
  refine Is.eq ?_
  unfold M.prices_form
  exact Is.bnq (x := k) rfl (Is.bnq (congrArg some (size_ok k)) (Is.ct (bne_t h) (Is.pure rfl)))
theorem form_is {k x : Str} {t : List Str} (h : sizeB k = ((k :: t ++ [x]).length : Int)) (hx : x.length ≤ 4294967296) (ht : t.length ≤ 100) : M.prices_form (k :: t ++ [x]) = some ((numB x).isSome || (decide (k = repW) && decide (x = nevW))) := by
  refine Is.eq ?_
  unfold M.prices_form
  refine Is.bnq (x := k) rfl (Is.bnq (congrArg some (size_ok k)) (Is.cf (bne_f h) ?_))
  have hlen : (k :: t ++ [x]).length = t.length + 2 := by simp
  refine Is.bnq (x := ((t.length + 1 : Nat) : Int)) (by rw [hlen, show (((t.length + 2 : Nat) : Int) - 1) = ((t.length + 1 : Nat) : Int) by omega]; exact chk_i64 (by omega) (by omega)) (Is.bnq (x := x) ?_ (Is.bnq (number_ok (by omega)) ?_))
  · rw [idxL_nat (by rw [hlen]; omega)]
    congr 1
    rw [List.getElem_append_right (by simp)]
    simp
  · refine Is.bnd (P := fun b => b = ((numB x).isSome || (decide (k = repW) && decide (x = nevW)))) ?_ fun b hb => Is.pure hb
    cases hn : numB x with
    | some n => exact Is.ct rfl (Is.pure rfl)
    | none =>
      refine Is.cf rfl (Is.cnd (fun e => Is.pure ?_) (fun e => Is.pure ?_))
      · have e : k = repW := by simpa [repW] using e
        rw [decide_eq_true e]
        rw [Bool.eq_iff_iff]; simp only [Option.isSome_none, Bool.false_or, Bool.true_and, decide_eq_true_eq, beq_iff_eq]; exact Iff.rfl
      · have e : ¬ k = repW := by simpa [repW] using e
        rw [decide_eq_false e]; rfl
theorem in_ok (n least : Nat) : M.prices_in (n : Int) (least : Int) = some (decide (least ≤ n ∧ n ≤ 1000)) := by
  refine Is.eq ?_
  unfold M.prices_in
  refine Is.bnd (P := fun b => b = decide (least ≤ n ∧ n ≤ 1000)) (Is.dcd (fun h => Is.pure ?_) (fun h => Is.pure ?_)) fun b hb => Is.pure hb
  · by_cases h2 : n ≤ 1000
    · rw [decide_eq_true (show least ≤ n ∧ n ≤ 1000 by omega), decide_eq_true (by omega)]
    · rw [decide_eq_false (show ¬ (least ≤ n ∧ n ≤ 1000) by omega), decide_eq_false (by omega)]
  · rw [decide_eq_false (show ¬ (least ≤ n ∧ n ≤ 1000) by omega)]
theorem app_loop {terms l2 : List Str} {p1 : T_Prices} (hl2 : l2.length ≤ 100) (ht : terms.length ≤ 9223372036854775807) :
    loopM (fun (st9 : (List Int) × Int) => match st9 with
  | (xv10, xv11) =>
   bif (decide (xv11 < (l2.length : Int))) then
    (idxL l2 xv11).bind fun e6 =>
    (M.slices_Index_string_string terms e6).bind fun rv6 =>
    bif (decide (rv6 < 0)) then
     (some (.stop (.stop (4, p1))) : Option (Step (List Int × Int) (Step (List Int) (Int × T_Prices))))
    else
     (appM 8 xv10 [rv6]).bind fun y6 =>
     (chk .i64 (xv11 + 1)).bind fun t8 =>
     some (.next (y6, t8))
   else
    some (.stop (.next xv10))) fuel (([] : (List Int)), (0 : Int)) = some (match idxsB terms l2 with | none => .stop (4, p1) | some xs => .next xs) := by
  refine Is.eq (Is.upto (fun i (st : List Int × Int) => st.2 = (i : Int) ∧ st.1.length ≤ i ∧ idxsB terms l2 = (idxsB terms (l2.drop i)).map (st.1 ++ ·)) l2.length (by omega) ⟨rfl, by simp, by simp⟩ ?_ ?_)
  · rintro i ⟨xs, _⟩ hi ⟨rfl, hx, h⟩
    simp only at hx h
    rw [List.drop_eq_getElem_cons hi, idxsB] at h
    refine Is.dt (by omega) (Is.bnq (idxL_nat hi) (Is.bnq (ix_ok ht) ?_))
    cases hq : idxB terms l2[i] with
    | none =>
      rw [hq] at h
      refine Is.dt (by decide) (Is.stop ?_)
      rw [h]; rfl
    | some q =>
      rw [hq] at h
      refine Is.df (by simp [toI]) (Is.bnq (appM_ok (by simp; omega)) (Is.bnq (chk_succ (by omega)) (Is.next ⟨rfl, by simp; omega, ?_⟩)))
      rw [h]
      cases idxsB terms (l2.drop (i + 1)) with
      | none => rfl
      | some ys => simp [toI]
  · rintro ⟨xs, _⟩ ⟨rfl, hx, h⟩
    rw [List.drop_length] at h
    refine Is.df (by omega) (Is.stop ?_)
    rw [h]; simp [idxsB]
theorem getR {p : T_Prices} {i n : Nat} (hs : Sh p n) (hi : i < n) : idxL p.Replace (i : Int) = some (p.Replace.getD i []) ∧ (p.Replace.getD i []).length = n := by
  have hl : i < p.Replace.length := by rw [hs.rep]; exact hi
  have e : p.Replace.getD i [] = p.Replace[i] := by simp [List.getD_eq_getElem?_getD, hl]
  rw [e]
  exact ⟨idxL_nat hl, hs.row _ (List.getElem_mem _)⟩
theorem sub_mid {k x : Str} {t : List Str} : subL (k :: t ++ [x]) 1 ((t.length + 1 : Nat) : Int) = some t := by
  unfold subL
  have hlen : (k :: t ++ [x]).length = t.length + 2 := by simp
  rw [if_pos ⟨by omega, by omega, by rw [hlen]; omega⟩]
  congr 1
  rw [Int.toNat_natCast, List.take_left' (by simp)]
  rfl
theorem last_ok {k x : Str} {t : List Str} : idxL (k :: t ++ [x]) ((t.length + 1 : Nat) : Int) = some x := by
  rw [idxL_nat (by simp)]
  congr 1
  rw [List.getElem_append_right (by simp)]
  simp
theorem chk_last {k x : Str} {t : List Str} (ht : t.length ≤ 100) : chk .i64 (((k :: t ++ [x]).length : Int) - 1) = some ((t.length + 1 : Nat) : Int) := by
  have hlen : (k :: t ++ [x]).length = t.length + 2 := by simp
  rw [hlen, show (((t.length + 2 : Nat) : Int) - 1) = ((t.length + 1 : Nat) : Int) by omega]
  exact chk_i64 (by omega) (by omega)
/-- A price that is set, or refused. -/
theorem in_then {v least : Nat} {p : T_Prices} {f : Int → T_Prices} {o : Option (Int × T_Prices)} (ho : o = some (0, f v)) :
    ((M.prices_in (v : Int) (least : Int)).bind fun rv8 => bif (!rv8) then some (2, p) else o) = some (rangeB least p v f) := by
  rw [in_ok, ho]
  unfold rangeB
  by_cases hr : least ≤ v ∧ v ≤ 1000
  · rw [decide_eq_true hr, if_pos hr]; rfl
  · rw [decide_eq_false hr, if_neg hr]; rfl
theorem idxs1 {terms : List Str} {a : Str} : idxsB terms [a] = match idxB terms a with | none => none | some i => some [(i : Int)] := by
  simp only [idxsB]
  cases idxB terms a <;> rfl
theorem idxs2 {terms : List Str} {a b : Str} : idxsB terms [a, b] = (match idxB terms a with | none => none | some i => match idxB terms b with | none => none | some j => some [(i : Int), (j : Int)]) := by
  simp only [idxsB]
  cases idxB terms a <;> cases idxB terms b <;> rfl
theorem apply_ins {terms : List Str} {p : T_Prices} {a x : Str} {n : Nat} (hs : Sh p n) (hn : terms.length = n) (hn2 : n ≤ 1000) (hx : x.length ≤ 4294967296) {v : Nat} (hv : numB x = some v) :
    M.prices_apply p [insW, a, x] terms = some (oneB terms p a x (fun i n => T_Prices.mk (p.Insert.set i n) p.Delete p.Replace p.Swap p.Unknown)) := by
  have hnum := number_ok (s := x) (by omega)
  unfold oneB
  rw [hv] at hnum ⊢
  have hlp := app_loop (terms := terms) (l2 := [a]) (p1 := p) (by simp) (by omega)
  rw [idxs1] at hlp
  refine Is.eq ?_
  unfold M.prices_apply
  cases hi : idxB terms a with
  | none =>
    rw [hi] at hlp
    exact Is.bs (P := fun _ => False) (Is.bnq (chk_last (t := [a]) (by simp)) (Is.bnq (sub_mid (t := [a])) (Is.of hlp rfl))) (fun _ h => h.elim)
  | some i =>
    rw [hi] at hlp
    have hlt := idxB_lt hi
    refine Is.bs (P := fun xs => xs = [(i : Int)]) (Is.bnq (chk_last (t := [a]) (by simp)) (Is.bnq (sub_mid (t := [a])) (Is.of hlp rfl))) ?_
    rintro _ rfl
    refine Is.bnq (chk_last (t := [a]) (by simp)) (Is.bnq (last_ok (t := [a])) (Is.bnq hnum (Is.bnq (x := insW) rfl (Is.ct rfl (Is.bnq (x := (i : Int)) rfl (Is.bnq (idxL_nat (by rw [hs.ins]; omega)) (Is.cf rfl (Is.of (in_then ?_) rfl))))))))
    rw [setL_nat (by rw [hs.ins]; omega)]; rfl
theorem apply_del {terms : List Str} {p : T_Prices} {a x : Str} {n : Nat} (hs : Sh p n) (hn : terms.length = n) (hn2 : n ≤ 1000) (hx : x.length ≤ 4294967296) {v : Nat} (hv : numB x = some v) :
    M.prices_apply p [delW, a, x] terms = some (oneB terms p a x (fun i n => T_Prices.mk p.Insert (p.Delete.set i n) p.Replace p.Swap p.Unknown)) := by
  have hnum := number_ok (s := x) (by omega)
  unfold oneB
  rw [hv] at hnum ⊢
  have hlp := app_loop (terms := terms) (l2 := [a]) (p1 := p) (by simp) (by omega)
  rw [idxs1] at hlp
  refine Is.eq ?_
  unfold M.prices_apply
  cases hi : idxB terms a with
  | none =>
    rw [hi] at hlp
    exact Is.bs (P := fun _ => False) (Is.bnq (chk_last (t := [a]) (by simp)) (Is.bnq (sub_mid (t := [a])) (Is.of hlp rfl))) (fun _ h => h.elim)
  | some i =>
    rw [hi] at hlp
    have hlt := idxB_lt hi
    refine Is.bs (P := fun xs => xs = [(i : Int)]) (Is.bnq (chk_last (t := [a]) (by simp)) (Is.bnq (sub_mid (t := [a])) (Is.of hlp rfl))) ?_
    rintro _ rfl
    refine Is.bnq (chk_last (t := [a]) (by simp)) (Is.bnq (last_ok (t := [a])) (Is.bnq hnum (Is.bnq (x := delW) rfl (Is.cf rfl (Is.ct rfl (Is.bnq (x := (i : Int)) rfl (Is.bnq (idxL_nat (by rw [hs.del]; omega)) (Is.cf rfl (Is.of (in_then ?_) rfl)))))))))
    rw [setL_nat (by rw [hs.del]; omega)]; rfl
theorem apply_two {terms : List Str} {p : T_Prices} {a b x : Str} {n : Nat} (hs : Sh p n) (hn : terms.length = n) (hn2 : n ≤ 1000) (hx : x.length ≤ 4294967296) (hv : ¬ (numB x = none ∧ x ≠ nevW)) :
    M.prices_apply p [repW, a, b, x] terms = some (twoB terms p a b x) := by
  have hnum := number_ok (s := x) (by omega)
  unfold twoB
  rw [if_neg hv]
  have hlp := app_loop (terms := terms) (l2 := [a, b]) (p1 := p) (by simp) (by omega)
  rw [idxs2] at hlp
  refine Is.eq ?_
  unfold M.prices_apply
  cases hi : idxB terms a with
  | none =>
    rw [hi] at hlp
    exact Is.bs (P := fun _ => False) (Is.bnq (chk_last (t := [a, b]) (by simp)) (Is.bnq (sub_mid (t := [a, b])) (Is.of hlp rfl))) (fun _ h => h.elim)
  | some i =>
    rw [hi] at hlp
    cases hj : idxB terms b with
    | none =>
      rw [hj] at hlp
      exact Is.bs (P := fun _ => False) (Is.bnq (chk_last (t := [a, b]) (by simp)) (Is.bnq (sub_mid (t := [a, b])) (Is.of hlp rfl))) (fun _ h => h.elim)
    | some j =>
      rw [hj] at hlp
      have hlt := idxB_lt hi
      have hlt2 := idxB_lt hj
      obtain ⟨g1, g2⟩ := getR hs (i := i) (by omega)
      have hset : ∀ m : Int, setL (p.Replace.getD i []) (j : Int) m = some ((p.Replace.getD i []).set j m) := fun m => setL_nat (by rw [g2]; omega)
      have hset2 : ∀ r : List Int, setL p.Replace (i : Int) r = some (p.Replace.set i r) := fun r => setL_nat (by rw [hs.rep]; omega)
      refine Is.bs (P := fun xs => xs = [(i : Int), (j : Int)]) (Is.bnq (chk_last (t := [a, b]) (by simp)) (Is.bnq (sub_mid (t := [a, b])) (Is.of hlp rfl))) ?_
      rintro _ rfl
      refine Is.bnq (chk_last (t := [a, b]) (by simp)) (Is.bnq (last_ok (t := [a, b])) (Is.bnq hnum (Is.bnq (x := repW) rfl (Is.cf rfl (Is.cf rfl (Is.ct rfl (Is.bnq (x := (i : Int)) rfl (Is.bnq (x := (j : Int)) rfl ?_))))))))
      by_cases hij : i = j
      · show Is _ (fun r => r = if i = j then (1, p) else _)
        rw [if_pos hij]
        exact Is.ct (beq_t (by omega)) (Is.pure rfl)
      · show Is _ (fun r => r = if i = j then (1, p) else _)
        rw [if_neg hij]
        refine Is.cf (beq_f (by omega)) (Is.bnq g1 (Is.bnq (idxL_nat (by rw [g2]; omega)) ?_))
        cases hq : numB x with
        | none =>
          refine Is.ct rfl (Is.bnq (hset _) (Is.bnq (hset2 _) (Is.pure rfl)))
        | some v =>
          refine Is.cf rfl (Is.of (in_then ?_) rfl)
          rw [hset]
          show (setL p.Replace (i : Int) _).bind _ = _
          rw [hset2]; rfl
theorem app0 {terms : List Str} {p1 : T_Prices} (ht : terms.length ≤ 9223372036854775807) :
    loopM (fun (st9 : (List Int) × Int) => match st9 with
  | (xv10, xv11) =>
   bif (decide (xv11 < (([] : List Str).length : Int))) then
    (idxL ([] : List Str) xv11).bind fun e6 =>
    (M.slices_Index_string_string terms e6).bind fun rv6 =>
    bif (decide (rv6 < 0)) then
     (some (.stop (.stop (4, p1))) : Option (Step (List Int × Int) (Step (List Int) (Int × T_Prices))))
    else
     (appM 8 xv10 [rv6]).bind fun y6 =>
     (chk .i64 (xv11 + 1)).bind fun t8 =>
     some (.next (y6, t8))
   else
    some (.stop (.next xv10))) fuel (([] : (List Int)), (0 : Int)) = some (.next []) := app_loop (l2 := []) (by simp) ht
theorem apply_swp {terms : List Str} {p : T_Prices} {x : Str} {n : Nat} (hn : terms.length = n) (hn2 : n ≤ 1000) (hx : x.length ≤ 4294967296) {v : Nat} (hv : numB x = some v) :
    M.prices_apply p [swpW, x] terms = some (rangeB 0 p v (fun m => T_Prices.mk p.Insert p.Delete p.Replace m p.Unknown)) := by
  have hnum := number_ok (s := x) (by omega)
  rw [hv] at hnum
  have hlp := app0 (terms := terms) (p1 := p) (by omega)
  refine Is.eq ?_
  unfold M.prices_apply
  refine Is.bs (P := fun xs => xs = []) (Is.bnq (chk_last (k := swpW) (x := x) (t := []) (by simp)) (Is.bnq (sub_mid (k := swpW) (x := x) (t := [])) (Is.of hlp rfl))) ?_
  rintro _ rfl
  exact Is.bnq (chk_last (k := swpW) (x := x) (t := []) (by simp)) (Is.bnq (last_ok (k := swpW) (x := x) (t := [])) (Is.bnq hnum (Is.bnq (x := swpW) rfl (Is.cf rfl (Is.cf rfl (Is.cf rfl (Is.ct rfl (Is.cf rfl (Is.of (in_then rfl) rfl)))))))))
theorem apply_unk {terms : List Str} {p : T_Prices} {x : Str} {n : Nat} (hn : terms.length = n) (hn2 : n ≤ 1000) (hx : x.length ≤ 4294967296) {v : Nat} (hv : numB x = some v) :
    M.prices_apply p [unkW, x] terms = some (rangeB 1 p v (fun m => T_Prices.mk p.Insert p.Delete p.Replace p.Swap m)) := by
  have hnum := number_ok (s := x) (by omega)
  rw [hv] at hnum
  have hlp := app0 (terms := terms) (p1 := p) (by omega)
  refine Is.eq ?_
  unfold M.prices_apply
  refine Is.bs (P := fun xs => xs = []) (Is.bnq (chk_last (k := unkW) (x := x) (t := []) (by simp)) (Is.bnq (sub_mid (k := unkW) (x := x) (t := [])) (Is.of hlp rfl))) ?_
  rintro _ rfl
  exact Is.bnq (chk_last (k := unkW) (x := x) (t := []) (by simp)) (Is.bnq (last_ok (k := unkW) (x := x) (t := [])) (Is.bnq hnum (Is.bnq (x := unkW) rfl (Is.cf rfl (Is.cf rfl (Is.cf rfl (Is.cf rfl (Is.ct rfl (Is.cf rfl (Is.of (in_then rfl) rfl))))))))))
theorem size_cases (k : Str) : (sizeB k = 3 ∧ (k = insW ∨ k = delW)) ∨ (sizeB k = 4 ∧ k = repW) ∨ (sizeB k = 2 ∧ (k = swpW ∨ k = unkW)) ∨ (sizeB k = 0 ∧ k ≠ insW ∧ k ≠ delW ∧ k ≠ repW ∧ k ≠ swpW ∧ k ≠ unkW) := by
  unfold sizeB
  by_cases h1 : k = insW
  · exact .inl ⟨if_pos h1, .inl h1⟩
  · by_cases h2 : k = delW
    · exact .inl ⟨by rw [if_neg h1, if_pos h2], .inr h2⟩
    · by_cases h3 : k = repW
      · exact .inr (.inl ⟨by rw [if_neg h1, if_neg h2, if_pos h3], h3⟩)
      · by_cases h4 : k = swpW
        · exact .inr (.inr (.inl ⟨by rw [if_neg h1, if_neg h2, if_neg h3, if_pos h4], .inl h4⟩))
        · by_cases h5 : k = unkW
          · exact .inr (.inr (.inl ⟨by rw [if_neg h1, if_neg h2, if_neg h3, if_neg h4, if_pos h5], .inr h5⟩))
          · exact .inr (.inr (.inr ⟨by rw [if_neg h1, if_neg h2, if_neg h3, if_neg h4, if_neg h5], h1, h2, h3, h4, h5⟩))
theorem line2 (terms : List Str) (p : T_Prices) (k x : Str) : lineB terms p [k, x] = if k = swpW then (match numB x with | none => (3, p) | some n => rangeB 0 p n (fun m => T_Prices.mk p.Insert p.Delete p.Replace m p.Unknown))
    else if k = unkW then (match numB x with | none => (3, p) | some n => rangeB 1 p n (fun m => T_Prices.mk p.Insert p.Delete p.Replace p.Swap m)) else (3, p) := rfl
theorem line3 (terms : List Str) (p : T_Prices) (k a x : Str) : lineB terms p [k, a, x] = if k = insW then oneB terms p a x (fun i n => T_Prices.mk (p.Insert.set i n) p.Delete p.Replace p.Swap p.Unknown)
    else if k = delW then oneB terms p a x (fun i n => T_Prices.mk p.Insert (p.Delete.set i n) p.Replace p.Swap p.Unknown) else (3, p) := rfl
theorem line4 (terms : List Str) (p : T_Prices) (k a b x : Str) : lineB terms p [k, a, b, x] = if k = repW then twoB terms p a b x else (3, p) := rfl
theorem w_ne : delW ≠ insW ∧ unkW ≠ swpW := by decide
theorem line_swp {terms : List Str} {p : T_Prices} {x : Str} : lineB terms p [swpW, x] = (match numB x with | none => (3, p) | some n => rangeB 0 p n (fun m => T_Prices.mk p.Insert p.Delete p.Replace m p.Unknown)) := by
  rw [line2, if_pos rfl]
theorem line_unk {terms : List Str} {p : T_Prices} {x : Str} : lineB terms p [unkW, x] = (match numB x with | none => (3, p) | some n => rangeB 1 p n (fun m => T_Prices.mk p.Insert p.Delete p.Replace p.Swap m)) := by
  rw [line2, if_neg w_ne.2, if_pos rfl]
theorem line_ins {terms : List Str} {p : T_Prices} {a x : Str} : lineB terms p [insW, a, x] = oneB terms p a x (fun i n => T_Prices.mk (p.Insert.set i n) p.Delete p.Replace p.Swap p.Unknown) := by
  rw [line3, if_pos rfl]
theorem line_del {terms : List Str} {p : T_Prices} {a x : Str} : lineB terms p [delW, a, x] = oneB terms p a x (fun i n => T_Prices.mk p.Insert (p.Delete.set i n) p.Replace p.Swap p.Unknown) := by
  rw [line3, if_neg w_ne.1, if_pos rfl]
theorem line_rep {terms : List Str} {p : T_Prices} {a b x : Str} : lineB terms p [repW, a, b, x] = twoB terms p a b x := by
  rw [line4, if_pos rfl]
theorem line_bad {terms : List Str} {p : T_Prices} {k : Str} {t : List Str} (h : sizeB k ≠ ((k :: t).length : Int)) : lineB terms p (k :: t) = (3, p) := by
  rcases t with _ | ⟨a, _ | ⟨b, _ | ⟨c, _ | ⟨d, t⟩⟩⟩⟩
  · rfl
  · rw [line2, if_neg, if_neg]
    · rintro rfl; exact h rfl
    · rintro rfl; exact h rfl
  · rw [line3, if_neg, if_neg]
    · rintro rfl; exact h rfl
    · rintro rfl; exact h rfl
  · rw [line4, if_neg]
    rintro rfl; exact h rfl
  · rfl
theorem pline {terms : List Str} {p : T_Prices} {l : List Str} {n : Nat} (hne : l ≠ []) (hs : Sh p n) (hn : terms.length = n) (hn2 : n ≤ 1000) (hlen : ∀ x ∈ l, x.length ≤ 4294967296) :
    ∃ f, M.prices_form l = some f ∧ (f = false → lineB terms p l = (3, p)) ∧ (f = true → M.prices_apply p l terms = some (lineB terms p l)) := by
  rcases l with _ | ⟨k, t⟩
  · exact absurd rfl hne
  · by_cases hsz : sizeB k = ((k :: t).length : Int)
    · have hc := size_cases k
      rcases t with _ | ⟨a, _ | ⟨b, _ | ⟨c, _ | ⟨d, t⟩⟩⟩⟩
      · simp at hsz; omega
      · -- two words
        have hx := hlen a (by simp)
        have hk : k = swpW ∨ k = unkW := by
          have : sizeB k = 2 := hsz
          rcases hc with h | h | h | h <;> first | omega | exact h.2
        refine ⟨_, form_is (t := []) hsz hx (by simp), ?_⟩
        have hkr : ¬ k = repW := by rcases hk with rfl | rfl <;> decide
        rw [decide_eq_false hkr, Bool.false_and, Bool.or_false]
        cases hv : numB a with
        | none =>
          refine ⟨fun _ => ?_, fun h => by cases h⟩
          rcases hk with rfl | rfl
          · rw [line_swp, hv]
          · rw [line_unk, hv]
        | some v =>
          refine ⟨fun h => (by cases h), fun _ => ?_⟩
          rcases hk with rfl | rfl
          · rw [line_swp, hv]; exact apply_swp hn hn2 hx hv
          · rw [line_unk, hv]; exact apply_unk hn hn2 hx hv
      · have hx := hlen b (by simp)
        have hk : k = insW ∨ k = delW := by
          have : sizeB k = 3 := hsz
          rcases hc with h | h | h | h <;> first | omega | exact h.2
        refine ⟨_, form_is (t := [a]) hsz hx (by simp), ?_⟩
        have hkr : ¬ k = repW := by rcases hk with rfl | rfl <;> decide
        rw [decide_eq_false hkr, Bool.false_and, Bool.or_false]
        cases hv : numB b with
        | none =>
          refine ⟨fun _ => ?_, fun h => by cases h⟩
          rcases hk with rfl | rfl
          · rw [line_ins]; unfold oneB; rw [hv]
          · rw [line_del]; unfold oneB; rw [hv]
        | some v =>
          refine ⟨fun h => (by cases h), fun _ => ?_⟩
          rcases hk with rfl | rfl
          · rw [line_ins]; exact apply_ins hs hn hn2 hx hv
          · rw [line_del]; exact apply_del hs hn hn2 hx hv
      · have hx := hlen c (by simp)
        have hk : k = repW := by
          have : sizeB k = 4 := hsz
          rcases hc with h | h | h | h <;> first | omega | exact h.2
        subst hk
        refine ⟨_, form_is (t := [a, b]) hsz hx (by simp), ?_⟩
        rw [decide_eq_true rfl, Bool.true_and, line_rep]
        by_cases hv : numB c = none ∧ c ≠ nevW
        · rw [hv.1, decide_eq_false hv.2]
          refine ⟨fun _ => ?_, fun h => by cases h⟩
          unfold twoB; rw [if_pos hv]
        · refine ⟨fun h => ?_, fun _ => apply_two hs hn hn2 hx hv⟩
          exfalso
          simp only [Bool.or_eq_false_iff, decide_eq_false_iff_not] at h
          have h5 : numB c = none := by
            cases hq : numB c with
            | none => rfl
            | some q => rw [hq] at h; simp at h
          exact hv ⟨h5, h.2⟩
      · exfalso
        simp only [List.length_cons] at hsz
        rcases hc with h | h | h | h <;> omega
    · exact ⟨false, form_len hsz, fun _ => line_bad hsz, fun h => by cases h⟩
end Go.Proofs.YtbfmbiapjgpfhaaGreatDoor
