/- Plain facts on layer 34: equal prices, few prices, short names, valid prices. -/
import Derived.Test.YtbfmbiapjgpfhaaGreatDoorPl34f
set_option linter.unusedVariables false
set_option linter.unusedSimpArgs false
namespace Go.Proofs.YtbfmbiapjgpfhaaGreatDoor
open Go.Lx

theorem ints_self {a : List Int} (hl : a.length ≤ 9223372036854775807) : M.ref07_Ints a a = some true := by
  refine Is.eq ?_
  unfold M.ref07_Ints
  refine Is.cf (bne_f rfl) (Is.bs (P := fun _ => True) (Is.upto (fun i st => st = (i : Int)) a.length hl rfl ?_ ?_) (fun _ _ => Is.pure rfl))
  · rintro i _ hi rfl
    exact Is.dt (by omega) (Is.bnq (idxL_nat hi) (Is.bnq (idxL_nat hi) (Is.cf (bne_f rfl) (Is.bnq (chk_succ (by omega)) (Is.next rfl)))))
  · rintro _ rfl
    exact Is.df (by omega) (Is.stop trivial)
theorem same_self {a : T_Prices} (h1 : a.Insert.length ≤ 9223372036854775807) (h2 : a.Delete.length ≤ 9223372036854775807) (h3 : a.Replace.length ≤ 9223372036854775807) (h4 : ∀ r ∈ a.Replace, r.length ≤ 9223372036854775807) : M.ref34_Same a a = some true := by
  refine Is.eq ?_
  unfold M.ref34_Same
  refine Is.bnq (x := false) (Is.eq (Is.cf (bne_f rfl) (Is.cf (bne_f rfl) (Is.bnq (ints_self h1) (Is.cf rfl (Is.bnq (ints_self h2) (Is.cf rfl (Is.pure (bne_f rfl))))))))) (Is.cf rfl ?_)
  refine Is.bs (P := fun _ => True) (Is.upto (fun i st => st = (i : Int)) a.Replace.length h3 rfl ?_ ?_) (fun _ _ => Is.pure rfl)
  · rintro i _ hi rfl
    exact Is.dt (by omega) (Is.bnq (idxL_nat hi) (Is.bnq (idxL_nat hi) (Is.bnq (ints_self (h4 _ (List.getElem_mem _))) (Is.cf rfl (Is.bnq (chk_succ (by omega)) (Is.next rfl))))))
  · rintro _ rfl
    exact Is.df (by omega) (Is.stop trivial)
theorem same_sh {a : T_Prices} {n : Nat} (h : Sh a n) (hn : n ≤ 1000) : M.ref34_Same a a = some true :=
  same_self (by rw [h.ins]; omega) (by rw [h.del]; omega) (by rw [h.rep]; omega) (fun r hr => by rw [h.row r hr]; omega)
theorem same_zero : M.ref34_Same zeroP zeroP = some true := same_self (by decide) (by decide) (by decide) (fun r hr => by cases hr)
theorem sh_go {terms : List Str} {n : Nat} : ∀ {l : List Str} {p : T_Prices} {k : Nat}, Sh p n → Sh (goB terms p l k).1 n ∨ (goB terms p l k).1 = zeroP
  | [], p, k, h => .inl h
  | line :: rest, p, k, h => by
    rw [goB_cons]
    split
    · exact sh_go h
    · split
      · exact sh_go (sh_line h _)
      · exact .inr rfl
theorem same_parse {s : Str} {terms : List Str} (ht : terms.length < 20) : M.ref34_Same (parseB s terms).1 (parseB s terms).1 = some true := by
  unfold parseB
  split
  · rcases sh_go (terms := terms) (l := linesB s) (k := 1) (sh_def terms.length) with h | h
    · exact same_sh h (by omega)
    · rw [h]; exact same_zero
  · exact same_zero
/-! ### few, short -/
def fewB (p : T_Prices) (m : Nat) : Bool := decide (p.Insert.length ≤ m ∧ p.Delete.length ≤ m ∧ p.Replace.length ≤ m) && p.Replace.all (fun r => decide (r.length ≤ m))
theorem few_is {p : T_Prices} {m : Nat} (h3 : p.Replace.length ≤ 9223372036854775807) : Is (M.ref34_Few p (m : Int)) (fun b => b = true → p.Insert.length ≤ m ∧ p.Delete.length ≤ m ∧ p.Replace.length ≤ m ∧ ∀ r ∈ p.Replace, r.length ≤ m) := by
  unfold M.ref34_Few
  refine Is.bnd (P := fun b => b = false → p.Insert.length ≤ m ∧ p.Delete.length ≤ m ∧ p.Replace.length ≤ m) (Is.dcd (fun h => Is.pure (fun h => by cases h)) (fun h1 => Is.dcd (fun h => Is.pure (fun h => by cases h)) (fun h2 => Is.pure (fun h3 => ?_)))) fun b hb => ?_
  · have := of_decide_eq_false h3
    exact ⟨by omega, by omega, by omega⟩
  · refine Is.cnd (fun e => Is.pure (fun h => by cases h)) (fun e => ?_)
    obtain ⟨g1, g2, g3⟩ := hb e
    refine Is.bs (P := fun _ => ∀ r ∈ p.Replace, r.length ≤ m) (Is.upto (fun i st => st = (i : Int) ∧ ∀ r ∈ p.Replace.take i, r.length ≤ m) p.Replace.length h3 ⟨rfl, by simp⟩ ?_ ?_) (fun _ h => Is.pure fun _ => ⟨g1, g2, g3, h⟩)
    · rintro i _ hi ⟨rfl, h⟩
      refine Is.dt (by omega) (Is.bnq (idxL_nat hi) (Is.dcd (fun h2 => Is.stop (fun h => by cases h)) (fun h2 => Is.bnq (chk_succ (by omega)) (Is.next ⟨rfl, fun r hr => ?_⟩))))
      rw [List.take_succ_eq_append_getElem hi] at hr
      rcases List.mem_append.1 hr with hr | hr
      · exact h r hr
      · rw [List.mem_singleton.1 hr]; omega
    · rintro _ ⟨rfl, h⟩
      rw [List.take_length] at h
      exact Is.df (by omega) (Is.stop h)
theorem short_is {terms : List Str} (hl : terms.length ≤ 9223372036854775807) : Is (M.law34_short terms) (fun b => b = true → terms.length ≤ 8 ∧ ∀ s ∈ terms, s.length ≤ 30) := by
  unfold M.law34_short
  refine Is.bs (P := fun _ => ∀ s ∈ terms.take 8, s.length ≤ 30) (Is.upto (fun i st => st = (i : Int) ∧ ∀ s ∈ terms.take i, s.length ≤ 30) (min terms.length 8) (by omega) ⟨rfl, by simp⟩ ?_ ?_) (fun _ h => Is.pure fun h2 => ?_)
  · rintro i _ hi ⟨rfl, h⟩
    have hi2 : i < terms.length := by omega
    refine Is.bnq (x := true) (Is.eq (Is.dt (by omega) (Is.pure (decide_eq_true (by omega))))) (Is.ct rfl (Is.bnq (idxL_nat hi2) (Is.dcd (fun h2 => Is.stop (fun h => by cases h)) (fun h2 => Is.bnq (chk_succ (by omega)) (Is.next ⟨rfl, fun r hr => ?_⟩)))))
    rw [List.take_succ_eq_append_getElem hi2] at hr
    rcases List.mem_append.1 hr with hr | hr
    · exact h r hr
    · rw [List.mem_singleton.1 hr]; omega
  · rintro _ ⟨rfl, h⟩
    have e : terms.take (min terms.length 8) = terms.take 8 := by rw [List.take_eq_take_iff]; omega
    rw [e] at h
    refine Is.bnq (x := false) ?_ (Is.cf rfl (Is.stop h))
    by_cases h8 : terms.length ≤ 8
    · exact Is.eq (Is.df (by omega) (Is.pure rfl))
    · exact Is.eq (Is.dt (by omega) (Is.pure (decide_eq_false (by omega))))
  · have := of_decide_eq_true h2
    have h8 : terms.length ≤ 8 := by omega
    rw [List.take_of_length_le h8] at h
    exact ⟨h8, h⟩
/-! ### valid prices -/
def inB (least x : Int) : Bool := decide (least ≤ x ∧ x ≤ 1000)
theorem inI_ok (x least : Int) : M.prices_in x least = some (inB least x) := by
  refine Is.eq ?_
  unfold M.prices_in inB
  refine Is.bnd (P := fun b => b = decide (least ≤ x ∧ x ≤ 1000)) (Is.dcd (fun h => Is.pure ?_) (fun h => Is.pure ?_)) fun b hb => Is.pure hb
  · by_cases h2 : x ≤ 1000
    · rw [decide_eq_true (show least ≤ x ∧ x ≤ 1000 from ⟨h, h2⟩), decide_eq_true h2]
    · rw [decide_eq_false (show ¬ (least ≤ x ∧ x ≤ 1000) from fun h3 => h2 h3.2), decide_eq_false h2]
  · rw [decide_eq_false (show ¬ (least ≤ x ∧ x ≤ 1000) from fun h3 => h h3.1)]
theorem btwI_ok (x least : Int) : M.ref34_between x least 1000 = some (inB least x) := inI_ok x least
def entB (i j : Nat) (x : Int) : Bool := if i = j then x == 0 else (x == -1 || inB 1 x)
def rowB (i : Nat) : Nat → List Int → Bool
  | _, [] => true
  | j, x :: r => entB i j x && rowB i (j + 1) r
def rowsB (n : Nat) : Nat → List Int → List Int → List (List Int) → Bool
  | i, a :: a2, d :: d2, r :: r2 => inB 1 a && (inB 1 d && (decide (r.length = n) && (rowB i 0 r && rowsB n (i + 1) a2 d2 r2)))
  | _, _, _, _ => true
def headV (p : T_Prices) (t : Int) : Bool := decide (0 ≤ t ∧ (p.Insert.length : Int) = t ∧ (p.Delete.length : Int) = t ∧ (p.Replace.length : Int) = t) && (inB 0 p.Swap && inB 1 p.Unknown)
def validB (p : T_Prices) (t : Int) : Bool := headV p t && rowsB t.toNat 0 p.Insert p.Delete p.Replace
theorem ent_ok (f : Int → Option Bool) (hf : ∀ x, f x = some (inB 1 x)) (i j : Nat) (x : Int) :
    (bif ((i : Int) == (j : Int)) then
           bif (x != 0) then
            some true
           else
            bif ((i : Int) != (j : Int)) then
             bif (x != (-1)) then
              (f x).bind fun rv195 =>
              some (!rv195)
             else
              some false
            else
             some false
          else
           bif ((i : Int) != (j : Int)) then
            bif (x != (-1)) then
             (f x).bind fun rv196 =>
             some (!rv196)
            else
             some false
           else
            some false) = some (!entB i j x) := by
  unfold entB
  refine Is.eq ?_
  by_cases hij : i = j
  · rw [if_pos hij]
    refine Is.ct (beq_t (by omega)) (Is.cnd (fun e => Is.pure ?_) (fun e => Is.cf (bne_f (by omega)) (Is.pure ?_)))
    · rw [bne] at e; rw [e]
    · rw [bne] at e; rw [e]
  · rw [if_neg hij]
    refine Is.cf (beq_f (by omega)) (Is.ct (bne_t (by omega)) (Is.cnd (fun e => Is.bnq (hf x) (Is.pure ?_)) (fun e => Is.pure ?_)))
    · have : (x == -1) = false := by rw [bne] at e; simpa using e
      rw [this]; rfl
    · have : (x == -1) = true := by rw [bne] at e; simpa using e
      rw [this]; rfl
theorem rowsB_step {n i : Nat} {a d : List Int} {r : List (List Int)} (h1 : i < a.length) (h2 : i < d.length) (h3 : i < r.length) :
    rowsB n i (a.drop i) (d.drop i) (r.drop i) = (inB 1 a[i] && (inB 1 d[i] && (decide (r[i].length = n) && (rowB i 0 r[i] && rowsB n (i + 1) (a.drop (i + 1)) (d.drop (i + 1)) (r.drop (i + 1)))))) := by
  rw [List.drop_eq_getElem_cons h1, List.drop_eq_getElem_cons h2, List.drop_eq_getElem_cons h3]; rfl
theorem rowB_step {i j : Nat} {r : List Int} (h : j < r.length) : rowB i j (r.drop j) = (entB i j r[j] && rowB i (j + 1) (r.drop (j + 1))) := by
  rw [List.drop_eq_getElem_cons h]; rfl
theorem and4 : ∀ a b c d : Bool, (a && (b && (c && d))) = ((a && (b && c)) && d) := by decide
theorem headV_ok {p : T_Prices} {t : Int} (h : headV p t = true) : ∃ n : Nat, t = (n : Int) ∧ p.Insert.length = n ∧ p.Delete.length = n ∧ p.Replace.length = n := by
  unfold headV at h
  rw [Bool.and_eq_true] at h
  have h1 := of_decide_eq_true h.1
  obtain ⟨n, rfl⟩ := Int.eq_ofNat_of_zero_le h1.1
  exact ⟨n, rfl, by omega, by omega, by omega⟩
theorem valid_ok {p : T_Prices} {t : Int} (hl : p.Insert.length ≤ 1073741824) (hr : ∀ r ∈ p.Replace, r.length ≤ 1073741824) : M.prices_Valid p t = some (validB p t) := by
  refine Is.eq ?_
  unfold M.prices_Valid
  refine Is.bnd (P := fun b => b = !headV p t) ?_ fun b hb => Is.cnd (fun e => Is.pure ?_) (fun e => ?_)
  · unfold headV
    refine Is.dcd (fun h => Is.pure ?_) (fun h => Is.cnd (fun e => Is.pure ?_) (fun e => Is.cnd (fun e2 => Is.pure ?_) (fun e2 => Is.cnd (fun e3 => Is.pure ?_) (fun e3 => Is.bnq (inI_ok _ _) (Is.cnd (fun e4 => Is.pure ?_) (fun e4 => Is.bnq (inI_ok _ _) (Is.pure ?_)))))))
    · rw [decide_eq_false (by intro h2; omega)]; rfl
    · have := of_bne_t e; rw [decide_eq_false (by intro h2; omega)]; rfl
    · have := of_bne_t e2; rw [decide_eq_false (by intro h2; omega)]; rfl
    · have := of_bne_t e3; rw [decide_eq_false (by intro h2; omega)]; rfl
    · have : inB 0 p.Swap = false := by simpa using e4
      rw [this]; simp
    · have h4 : inB 0 p.Swap = true := by simpa using e4
      have h1 := of_bne_f e; have h2 := of_bne_f e2; have h3 := of_bne_f e3
      rw [h4, decide_eq_true ⟨by omega, by omega, by omega, by omega⟩]; simp
  · rw [e] at hb
    unfold validB; rw [not_inv hb]; rfl
  · rw [e] at hb
    have hh : headV p t = true := not_inv hb
    obtain ⟨n, rfl, h1, h2, h3⟩ := headV_ok hh
    unfold validB
    rw [hh, Bool.true_and, Int.toNat_natCast]
    refine Is.bs (P := fun _ => rowsB n 0 p.Insert p.Delete p.Replace = true) (Is.upto (fun i st => st = (i : Int) ∧ rowsB n 0 p.Insert p.Delete p.Replace = rowsB n i (p.Insert.drop i) (p.Delete.drop i) (p.Replace.drop i)) n (by omega) ⟨rfl, rfl⟩ ?_ ?_) (fun _ h => Is.pure h.symm)
    · rintro i _ hi ⟨rfl, hR⟩
      have i1 : i < p.Insert.length := by omega
      have i2 : i < p.Delete.length := by omega
      have i3 : i < p.Replace.length := by omega
      rw [rowsB_step i1 i2 i3] at hR
      refine Is.dt (by omega) (Is.bs (P := fun _ => rowsB n 0 p.Insert p.Delete p.Replace = rowsB n (i + 1) (p.Insert.drop (i + 1)) (p.Delete.drop (i + 1)) (p.Replace.drop (i + 1))) (Is.bnd (P := fun b => b = !(inB 1 p.Insert[i] && (inB 1 p.Delete[i] && decide (p.Replace[i].length = n)))) ?_ fun b hb => ?_) (fun _ h => Is.bnq (chk_succ (by omega)) (Is.next ⟨rfl, h⟩)))
      · refine Is.bnq (idxL_nat i1) (Is.bnq (inI_ok _ _) (Is.cnd (fun e => Is.pure ?_) (fun e => Is.bnq (idxL_nat i2) (Is.bnq (inI_ok _ _) (Is.cnd (fun e2 => Is.pure ?_) (fun e2 => Is.bnq (idxL_nat i3) (Is.pure ?_)))))))
        · have : inB 1 p.Insert[i] = false := by simpa using e
          rw [this]; rfl
        · have : inB 1 p.Delete[i] = false := by simpa using e2
          rw [this]; simp
        · have h5 : inB 1 p.Insert[i] = true := by simpa using e
          have h6 : inB 1 p.Delete[i] = true := by simpa using e2
          rw [h5, h6, Bool.true_and, Bool.true_and, bne]
          congr 1
          rw [Bool.eq_iff_iff]; simp only [beq_iff_eq, decide_eq_true_eq]; omega
      · refine Is.cnd (fun e => Is.stop ?_) (fun e => ?_)
        · rw [e] at hb
          have h9 := not_inv hb
          show false = _
          rw [hR]
          rw [and4, h9]; rfl
        · rw [e] at hb
          have h9 := not_inv hb
          simp only [Bool.not_false, Bool.and_eq_true, decide_eq_true_eq] at h9
          rw [h9.1, h9.2.1, decide_eq_true h9.2.2] at hR
          simp only [Bool.true_and] at hR
          have hrl := hr _ (List.getElem_mem i3)
          refine Is.bnq (idxL_nat i3) (Is.mono (Is.upto (fun j st => st = (j : Int) ∧ rowB i 0 p.Replace[i] = rowB i j (p.Replace[i].drop j)) p.Replace[i].length (by omega) ⟨rfl, rfl⟩ (Q := SP (fun _ => rowB i 0 p.Replace[i] = true) (SP (fun st => False) (SP (fun _ => False) (fun r => r = false ∧ rowB i 0 p.Replace[i] = false)))) ?_ ?_) ?_)
          · rintro j _ hj ⟨rfl, hB⟩
            rw [rowB_step hj] at hB
            refine Is.dt (by omega) (Is.bnq (idxL_nat hj) (Is.bnq (ent_ok (fun x => M.prices_in x 1) (fun x => inI_ok x 1) i j _) (Is.cnd (fun e => Is.stop ?_) (fun e => Is.bnq (chk_succ (by omega)) (Is.next ⟨rfl, ?_⟩)))))
            · have : entB i j p.Replace[i][j] = false := by simpa using e
              refine ⟨rfl, ?_⟩
              rw [hB, this]; rfl
            · have : entB i j p.Replace[i][j] = true := by simpa using e
              rw [hB, this]; rfl
          · rintro _ ⟨rfl, hB⟩
            rw [List.drop_length] at hB
            exact Is.df (by omega) (Is.stop hB)
          · intro o ho
            match o, ho with
            | .next _, ho => exact hR.trans (by rw [show rowB i 0 p.Replace[i] = true from ho, Bool.true_and])
            | .stop (.stop (.stop r)), ho =>
              obtain ⟨rfl, hf⟩ := ho
              show false = _
              rw [hR, hf]; rfl
    · rintro _ ⟨rfl, hR⟩
      have h9 : rowsB n 0 p.Insert p.Delete p.Replace = true := by rw [hR, List.drop_eq_nil_iff.2 (by omega)]; unfold rowsB; rfl
      exact Is.df (by omega) (Is.stop h9)
theorem rvalid_ok {p : T_Prices} {t : Int} (hl : p.Insert.length ≤ 1073741824) (hr : ∀ r ∈ p.Replace, r.length ≤ 1073741824) : M.ref34_Valid p t = some (validB p t) := by
  refine Is.eq ?_
  unfold M.ref34_Valid
  refine Is.bnd (P := fun b => b = !headV p t) ?_ fun b hb => Is.cnd (fun e => Is.pure ?_) (fun e => ?_)
  · unfold headV
    refine Is.cnd (fun e => Is.pure ?_) (fun e => Is.cnd (fun e2 => Is.pure ?_) (fun e2 => Is.cnd (fun e3 => Is.pure ?_) (fun e3 => Is.bnq (btwI_ok _ _) (Is.cnd (fun e4 => Is.pure ?_) (fun e4 => Is.bnq (btwI_ok _ _) (Is.pure ?_))))))
    · have := of_bne_t e; rw [decide_eq_false (by intro h2; omega)]; rfl
    · have := of_bne_t e2; rw [decide_eq_false (by intro h2; omega)]; rfl
    · have := of_bne_t e3; rw [decide_eq_false (by intro h2; omega)]; rfl
    · have : inB 0 p.Swap = false := by simpa using e4
      rw [this]; simp
    · have h4 : inB 0 p.Swap = true := by simpa using e4
      have h1 := of_bne_f e; have h2 := of_bne_f e2; have h3 := of_bne_f e3
      rw [h4, decide_eq_true ⟨by omega, by omega, by omega, by omega⟩]; simp
  · rw [e] at hb
    unfold validB; rw [not_inv hb]; rfl
  · rw [e] at hb
    have hh : headV p t = true := not_inv hb
    obtain ⟨n, rfl, h1, h2, h3⟩ := headV_ok hh
    unfold validB
    rw [hh, Bool.true_and, Int.toNat_natCast]
    refine Is.bs (P := fun _ => rowsB n 0 p.Insert p.Delete p.Replace = true) (Is.upto (fun i st => st = (i : Int) ∧ rowsB n 0 p.Insert p.Delete p.Replace = rowsB n i (p.Insert.drop i) (p.Delete.drop i) (p.Replace.drop i)) n (by omega) ⟨rfl, rfl⟩ ?_ ?_) (fun _ h => Is.pure h.symm)
    · rintro i _ hi ⟨rfl, hR⟩
      have i1 : i < p.Insert.length := by omega
      have i2 : i < p.Delete.length := by omega
      have i3 : i < p.Replace.length := by omega
      rw [rowsB_step i1 i2 i3] at hR
      refine Is.dt (by omega) (Is.bs (P := fun _ => rowsB n 0 p.Insert p.Delete p.Replace = rowsB n (i + 1) (p.Insert.drop (i + 1)) (p.Delete.drop (i + 1)) (p.Replace.drop (i + 1))) (Is.bnd (P := fun b => b = !(inB 1 p.Insert[i] && (inB 1 p.Delete[i] && decide (p.Replace[i].length = n)))) ?_ fun b hb => ?_) (fun _ h => Is.bnq (chk_succ (by omega)) (Is.next ⟨rfl, h⟩)))
      · refine Is.bnq (idxL_nat i1) (Is.bnq (btwI_ok _ _) (Is.cnd (fun e => Is.pure ?_) (fun e => Is.bnq (idxL_nat i2) (Is.bnq (btwI_ok _ _) (Is.cnd (fun e2 => Is.pure ?_) (fun e2 => Is.bnq (idxL_nat i3) (Is.pure ?_)))))))
        · have : inB 1 p.Insert[i] = false := by simpa using e
          rw [this]; rfl
        · have : inB 1 p.Delete[i] = false := by simpa using e2
          rw [this]; simp
        · have h5 : inB 1 p.Insert[i] = true := by simpa using e
          have h6 : inB 1 p.Delete[i] = true := by simpa using e2
          rw [h5, h6, Bool.true_and, Bool.true_and, bne]
          congr 1
          rw [Bool.eq_iff_iff]; simp only [beq_iff_eq, decide_eq_true_eq]; omega
      · refine Is.cnd (fun e => Is.stop ?_) (fun e => ?_)
        · rw [e] at hb
          have h9 := not_inv hb
          show false = _
          rw [hR]
          rw [and4, h9]; rfl
        · rw [e] at hb
          have h9 := not_inv hb
          simp only [Bool.not_false, Bool.and_eq_true, decide_eq_true_eq] at h9
          rw [h9.1, h9.2.1, decide_eq_true h9.2.2] at hR
          simp only [Bool.true_and] at hR
          have hrl := hr _ (List.getElem_mem i3)
          refine (Is.mono (Is.upto (fun j st => st = (j : Int) ∧ rowB i 0 p.Replace[i] = rowB i j (p.Replace[i].drop j)) n (by omega) ⟨rfl, rfl⟩ (Q := SP (fun _ => rowB i 0 p.Replace[i] = true) (SP (fun st => False) (SP (fun _ => False) (fun r => r = false ∧ rowB i 0 p.Replace[i] = false)))) ?_ ?_) ?_)
          · rintro j _ hj ⟨rfl, hB⟩
            have hj : j < p.Replace[i].length := by rw [h9.2.2]; exact hj
            rw [rowB_step hj] at hB
            refine Is.dt (by omega) (Is.bnq (idxL_nat i3) (Is.bnq (idxL_nat hj) (Is.bnq (ent_ok (fun x => M.ref34_between x 1 1000) (fun x => btwI_ok x 1) i j _) (Is.cnd (fun e => Is.stop ?_) (fun e => Is.bnq (chk_succ (by omega)) (Is.next ⟨rfl, ?_⟩))))))
            · have : entB i j p.Replace[i][j] = false := by simpa using e
              refine ⟨rfl, ?_⟩
              rw [hB, this]; rfl
            · have : entB i j p.Replace[i][j] = true := by simpa using e
              rw [hB, this]; rfl
          · rintro _ ⟨rfl, hB⟩
            rw [List.drop_eq_nil_iff.2 (by omega)] at hB
            exact Is.df (by omega) (Is.stop hB)
          · intro o ho
            match o, ho with
            | .next _, ho => exact hR.trans (by rw [show rowB i 0 p.Replace[i] = true from ho, Bool.true_and])
            | .stop (.stop (.stop r)), ho =>
              obtain ⟨rfl, hf⟩ := ho
              show false = _
              rw [hR, hf]; rfl
    · rintro _ ⟨rfl, hR⟩
      have h9 : rowsB n 0 p.Insert p.Delete p.Replace = true := by rw [hR, List.drop_eq_nil_iff.2 (by omega)]; unfold rowsB; rfl
      exact Is.df (by omega) (Is.stop h9)
end Go.Proofs.YtbfmbiapjgpfhaaGreatDoor
